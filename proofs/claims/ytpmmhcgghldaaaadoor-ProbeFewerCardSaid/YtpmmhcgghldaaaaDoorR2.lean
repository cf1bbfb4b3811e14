/- Contracts: the law's own 'right'. -/
import Derived.Test.YtpmmhcgghldaaaaDoorR1
import Derived.Test.YtpmmhcgghldaaaaDoorRs
namespace Go.Proofs.YtpmmhcgghldaaaaDoor
open Go Go.RowKit

/-- Some hypotheses of a list differ in what a measurement shows: looked at as the law does. -/
def misL (l : List (List Int)) (list : List Nat) (x : Pr) : Bool := list.any fun i => shw l x i != shw l x (list.getD 0 0)
theorem mis_sep {l : List (List Int)} {list : List Nat} {x : Pr} : misL l list x = sepL l x list := by
  cases list with
  | nil => unfold misL sepL partL; simp
  | cons a r =>
    have hsp := part_split (l := l) (x := x) (list := a :: r)
    unfold misL sepL
    rw [Bool.eq_iff_iff, List.any_eq_true, decide_eq_true_iff]
    show (∃ i ∈ a :: r, (shw l x i != shw l x a) = true) ↔ _
    constructor
    · rintro ⟨i, hi, hne⟩
      have hne : shw l x i ≠ shw l x a := by simpa using hne
      have h1 : ∀ (b : Bool) (j : Nat), j ∈ a :: r → shw l x j = b → 0 < (partL l x (a :: r) b).length := fun b j hj e => List.length_pos_iff.2 (List.ne_nil_of_mem (List.mem_filter.2 ⟨hj, by rw [e]; simp⟩))
      have ha := List.mem_cons_self (a := a) (l := r)
      cases hb : shw l x i with
      | true =>
        have hc : shw l x a = false := by cases hc : shw l x a <;> simp_all
        have := h1 _ _ hi hb; have := h1 _ _ ha hc; omega
      | false =>
        have hc : shw l x a = true := by cases hc : shw l x a <;> simp_all
        have := h1 _ _ hi hb; have := h1 _ _ ha hc; omega
    · rintro ⟨h1, h2⟩
      have h3 : 0 < (partL l x (a :: r) false).length := by omega
      cases hc : shw l x a with
      | true =>
        obtain ⟨i, hi⟩ := List.exists_mem_of_length_pos h3
        obtain ⟨hi, hb⟩ := List.mem_filter.1 hi
        have hb : shw l x i = false := by simpa using hb
        exact ⟨i, hi, by rw [hb]; rfl⟩
      | false =>
        obtain ⟨i, hi⟩ := List.exists_mem_of_length_pos h1
        obtain ⟨hi, hb⟩ := List.mem_filter.1 hi
        have hb : shw l x i = true := by simpa using hb
        exact ⟨i, hi, by rw [hb]; rfl⟩
theorem part_take {l : List (List Int)} {x : Pr} {list : List Nat} {j i : Nat} (b : Bool) (h : list[j]? = some i) : partL l x (list.take (j + 1)) b = partL l x (list.take j) b ++ (if shw l x i = b then [i] else []) := by
  rw [take_succ' h]
  unfold partL
  rw [List.filter_append]
  congr 1
  cases h1 : shw l x i <;> cases b <;> simp [h1]

theorem c_right {l : List (List Int)} {p : List Pr} {n m : Nat} (hN : n ≤ 12) (_hm : m ≤ 1000) (hok : prOk p) :
    ∀ (f : Nat) (t : Tr) (list : List Nat) (D Dt D4 : Nat → Prop) (cs : List Value) (w : World) (A A2 A4 : Option Addr) (k c e g : Nat), SlR tInts D w A n l → SlR tPr D w A2 m p → (tTr f).rep Dt w cs t → SlR tNat D4 w A4 k list → (∀ i ∈ list, i < n) → k ≤ n →
    CallZ Tryd.prog 22 #[.slice A n c, .slice A2 m e, .agg cs.toArray, .slice A4 k g] w (fun v w' => v = wval (rworthF l p f t list) ∧ Ext w w') := by
  intro f
  induction f with
  | zero => exact fun t list _ _ _ _ _ _ _ _ _ _ _ _ _ _ h _ _ _ => h.elim
  | succ f ih =>
    intro t list D Dt D4 cs w A A2 A4 k c e g hl hp ht hs hin hk
    have hkl := hs.1
    have hpl := hp.1
    have hll := hl.1
    have hF := rworthF.eq_2 l p t list f
    obtain ⟨A5, n5, c5, A6, n6, c6, rfl, hti, hrs, -, hkd, -⟩ := tr_open ht
    have hr5 := hrs.1
    have hk6 := hkd.1
    have hkle := hkd.le
    have wneg : ∀ {v : Int}, v = -1 → Value.tuple #[.int .i64 0, .bool false] = wval v := fun e => (wval_neg (by omega)).symm
    refine fn_rule (args := [.slice A n c, .slice A2 m e, .agg #[.int .i64 t.probe, .slice A5 n5 c5, .slice A6 n6 c6], .slice A4 k g]) Tryd.func22 (by kernel_rfl) ?_
    refine box (fun gb w1 hb => ?_)
    have hx1 := hb.ext
    have hcb : CellsAt w1 gb 0 [.int .i64 t.probe, .slice A5 n5 c5, .slice A6 n6 c6] := .blk hb.blk
    refine fldA ?_
    refine ld _ (hcb 2 _ rfl) ?_
    refine len ?_
    refine cE (fun h0 => ?_) (fun h0 => ?_)
    · have hk0 : t.kids = [] := List.eq_nil_of_length_eq_zero (by omega)
      rw [if_pos hk0] at hF
      refine fldA ?_
      refine ld _ (hcb 0 _ rfl) ?_
      refine cN (fun h2 => ?_) (fun h2 => ?_)
      · exact ret2 (.int .i64 0) (.bool false) rfl rfl ⟨wneg (by rw [hF, if_pos (.inr (.inl h2))]), hx1⟩
      refine fldA ?_
      refine ld _ (hcb 1 _ rfl) ?_
      refine callB (c_SameInts (hrs.ext hx1).toAll (hs.ext hx1).nats.toAll) (fun h3 => ?_) (fun h3 => ?_)
      · have h3 : t.rest = ofNats list := eq_of_beq h3
        have hF2 : rworthF l p (f + 1) t list = if p.any (misL l list) = true then -1 else 0 := by
          rw [hF, show misL l list = fun x => sepL l x list from funext fun x => mis_sep]
          by_cases ha : (p.any fun x => sepL l x list) = true
          · rw [if_pos (.inl ha), if_pos ha]
          · rw [if_neg ha, if_neg (by rintro (h | h | h); exact ha h; exact h h2; exact h h3)]
        refine len ?_
        refine loop_rule (fun j : Nat => [(39, .int .i64 j)]) (fun j w' => j ≤ m ∧ Ext w1 w' ∧ p.any (misL l list) = (p.drop j).any (misL l list)) (fun j _ => m - j) 0 ⟨rfl, trivial⟩ ⟨by omega, .refl _ _, rfl⟩ rfl ?_
        rintro G j w2 ⟨hj, hx2, he⟩
        refine cD (fun hlt => ?_) (fun hge => ?_)
        · have hlt : j < m := by omega
          obtain ⟨b, o, cx, x, rfl, hx, hdx, -, hcx, hrx⟩ := (hp.ext (hx1.trans hx2)).at_ hlt
          rw [hdx, List.any_cons] at he
          obtain ⟨Ax, nx, cx', rfl, -⟩ := pr_open hrx
          refine idx j rfl hlt ?_
          refine ldA _ hcx rfl ?_
          refine alloc (fun g11 w3 h3' => ?_)
          refine stA (vs := [_, _]) h3'.blk rfl (Nat.le_of_ble_eq_true rfl) (by simp [Value.oneCell']) (fun w4 hb4 hk4 hz4 => ?_)
          have e11 := h3'.at_
          have hx4 : Ext w2 w4 := h3'.ext.then hk4 (fun b hb _ e => by omega)
          have hw4 := (hx1.trans hx2).trans hx4
          have hrx4 := tPr.ext hrx hx4
          refine len ?_
          refine loop_rule (fun i : Nat => [(45, .int .i64 i)]) (fun i w' => i ≤ k ∧ Ext w4 w' ∧ misL l list x = (list.drop i).any fun i => shw l x i != shw l x (list.getD 0 0)) (fun i _ => k - i) 0 ⟨rfl, trivial⟩ ⟨by omega, .refl _ _, rfl⟩ rfl ?_
          rintro G i w5 ⟨hi, hx5, he2⟩
          refine cD (fun hlt2 => ?_) (fun hge2 => ?_)
          · have hlt2 : i < k := by omega
            have hw5 := hw4.trans hx5
            obtain ⟨bs, os, _, a, rfl, ha, hda, -, hca, hra⟩ := (hs.ext hw5).at_ hlt2
            obtain ⟨rfl, -⟩ := tNat_rep hra
            obtain ⟨bs', os', _, a0, e0, ha0, -, -, hca0, hra0⟩ := (hs.ext hw5).at_ (k := 0) (by omega)
            obtain ⟨rfl, -⟩ := tNat_rep hra0
            simp only [Option.some.injEq, Addr.mk.injEq] at e0
            obtain ⟨rfl, rfl, _⟩ := e0
            rw [hda, List.any_cons] at he2
            have hg0 : list.getD 0 0 = a0 := by rw [List.getD_eq_getElem?_getD, ha0]; rfl
            rw [hg0] at he2
            have han := hin a (List.mem_of_getElem? ha)
            have ha0n := hin a0 (List.mem_of_getElem? ha0)
            obtain ⟨bl, ol, _, y, rfl, hy, -, -, hcy, Ay, ny, cy, rfl, hry, -⟩ := (hl.ext hw5).at_ han
            obtain ⟨bl', ol', _, y0, e1, hy0, -, -, hcy0, Ay0, ny0, cy0, rfl, hry0, -⟩ := (hl.ext hw5).at_ ha0n
            simp only [Option.some.injEq, Addr.mk.injEq] at e1
            obtain ⟨rfl, rfl, _⟩ := e1
            have hsh : shw l x a = showsL x.2 y := by unfold shw; rw [List.getD_eq_getElem?_getD, hy]; rfl
            have hsh0 : shw l x a0 = showsL x.2 y0 := by unfold shw; rw [List.getD_eq_getElem?_getD, hy0]; rfl
            have hcx5 : CellsAt w5 g11 0 [.int .i64 x.1, .slice Ax nx cx'] := (CellsAt.blk hb4).kept hx5 trivial
            refine idx i rfl hlt2 ?_
            refine ld _ (hca 0 _ rfl) ?_
            refine drawX [0, 1, 2, 3, 4, 6, 7, 8, 9, 10, 11, 12, 5, 13, 14] [5, 13] mx (by kernel_rfl) ?_
            refine ldAX _ hcx5 rfl (.refl _ _) ?_
            refine idx a rfl han ?_
            refine ldX _ (hcy 0 _ rfl) (.refl _ _) ?_
            refine ldAX _ hcx5 rfl (.refl _ _) ?_
            refine idx 0 rfl (by omega) ?_
            refine ldX _ (hca0 0 _ rfl) (.refl _ _) ?_
            refine idx a0 rfl ha0n ?_
            refine ldX _ (hcy0 0 _ rfl) (.refl _ _) ?_
            refine call_of (c_shows (cs := [.int .i64 x.1, .slice Ax nx cx']) (tPr.ext hrx4 hx5) hry) ?_
            rintro _ w6 ⟨rfl, hx6⟩
            refine strS hx6 ?_
            refine call_of (c_shows (cs := [.int .i64 x.1, .slice Ax nx cx']) (tPr.ext hrx4 (hx5.trans hx6)) (hry0.ext hx6)) ?_
            rintro _ w7 ⟨rfl, hx7⟩
            refine strS (hx6.trans hx7) ?_
            have hx567 := (hx5.trans hx6).trans hx7
            refine neB (fun hne => ?_) (fun heq => ?_)
            · refine ret2 (.int .i64 0) (.bool false) rfl rfl ⟨wneg ?_, hw4.trans hx567⟩
              have : (shw l x a != shw l x a0) = true := by rw [hsh, hsh0]; simpa using hne
              rw [hF2, he, he2, this]; rfl
            · refine arI (by omega) ?_
              have : (shw l x a != shw l x a0) = false := by rw [hsh, hsh0, heq]; simp
              refine next (i + 1) ⟨rfl, trivial⟩ ⟨by omega, hx567, ?_⟩ (by omega)
              rw [he2, this, hg0]; rfl
          · refine arI (by omega) ?_
            refine next (j + 1) ⟨rfl, trivial⟩ ⟨by omega, (hx2.trans hx4).trans hx5, ?_⟩ (by omega)
            rw [he, he2, drop_end (by omega)]; rfl
        · refine ret2 (.int .i64 0) (.bool true) rfl rfl ⟨?_, hx1.trans hx2⟩
          rw [hF2, he, drop_end (by omega)]; rfl
      · have h3 : t.rest ≠ ofNats list := ne_of_beq_false h3
        exact ret2 (.int .i64 0) (.bool false) rfl rfl ⟨wneg (by rw [hF, if_pos (.inr (.inr h3))]), hx1⟩
    · have hk0 : t.kids ≠ [] := fun h => by rw [h] at hk6; simp at hk6; omega
      rw [if_neg hk0] at hF
      refine fldA ?_
      refine ld _ (hcb 1 _ rfl) ?_
      refine len ?_
      refine cD (fun h1 => ?_) (fun h1 => ?_)
      · have : t.rest ≠ [] := fun h => by rw [h] at hr5; simp at hr5; omega
        exact ret2 (.int .i64 0) (.bool false) rfl rfl ⟨wneg (by rw [hF, if_pos (.inl this)]), hx1⟩
      refine fldA ?_
      refine ld _ (hcb 2 _ rfl) ?_
      refine len ?_
      refine cN (fun h2 => ?_) (fun h2 => ?_)
      · exact ret2 (.int .i64 0) (.bool false) rfl rfl ⟨wneg (by rw [hF, if_pos (.inr (.inl (by omega)))]), hx1⟩
      refine fldA ?_
      refine ld _ (hcb 0 _ rfl) ?_
      refine cD (fun h3 => ?_) (fun h3 => ?_)
      · exact ret2 (.int .i64 0) (.bool false) rfl rfl ⟨wneg (by rw [hF, if_pos (.inr (.inr (.inl h3)))]), hx1⟩
      refine fldA ?_
      refine ld _ (hcb 0 _ rfl) ?_
      refine len ?_
      refine cD (fun h4 => ?_) (fun h4 => ?_)
      · exact ret2 (.int .i64 0) (.bool false) rfl rfl ⟨wneg (by rw [hF, if_pos (.inr (.inr (.inr (by omega))))]), hx1⟩
      have hrest : t.rest = [] := List.eq_nil_of_length_eq_zero (by omega)
      rw [if_neg (by rintro (h | h | h | h); exact h hrest; all_goals omega)] at hF
      obtain ⟨b, o, cx, x, rfl, hx, -, hbB, hcc, hr⟩ := (hp.ext hx1).at_ (k := t.probe.toNat) (by omega)
      have hxok := hok x (List.mem_of_getElem? hx)
      rw [prAt_of hx] at hF
      obtain ⟨Ax, nx, cx', rfl, -⟩ := pr_open hr
      refine fldA ?_
      refine ld _ (hcb 0 _ rfl) ?_
      refine idx t.probe.toNat (by omega) (by omega) ?_
      refine ldA _ hcc rfl ?_
      refine alloc (fun g14 w2 h2' => ?_)
      refine stA (vs := [_, _]) h2'.blk rfl (Nat.le_of_ble_eq_true rfl) (by simp [Value.oneCell']) (fun w3 hb3 hk3 hz3 => ?_)
      have e14 := h2'.at_
      have hx3 : Ext w1 w3 := h2'.ext.then hk3 (fun b hb _ e => by omega)
      have hw3 := hx1.trans hx3
      refine alloc (fun g15 w4 h4' => ?_)
      have e15 := h4'.at_
      have s4 := h4'.size
      refine len ?_
      refine loop_rule (fun j : Nat => [(95, .int .i64 j)]) (fun j w' => j ≤ k ∧ Ext w3 w' ∧ ∃ A0 n0 c0 A1 n1 c1, Blk w' g15 72 [.slice A0 n0 c0, .slice A1 n1 c1] ∧ OwnF w3 w' A0 n0 c0 3 1 ((partL l x (list.take j) false).map nv) ∧ OwnF w3 w' A1 n1 c1 3 1 ((partL l x (list.take j) true).map nv) ∧ (∀ y, A0 = some (ad y 0) → A1 ≠ some (ad y 0)))
        (fun j _ => k - j) 0 ⟨rfl, trivial⟩ ⟨by omega, h4'.ext, none, 0, 0, none, 0, 0, h4'.blk, .nil h4'.ext, .nil h4'.ext, fun y e => by cases e⟩ rfl ?_
      rintro G j w5 ⟨hj, hx5, A0, n0, c0, A1, n1, c1, hb5, o0, o1, hne⟩
      have hw5 := hw3.trans hx5
      have hcnt0 := o0.cnt
      have hcnt1 := o1.cnt
      have hle0 := partL_le (l := l) (x := x) (list := list.take j) (som := false)
      have hle1 := partL_le (l := l) (x := x) (list := list.take j) (som := true)
      rw [List.length_take] at hle0 hle1
      have hcx5 : CellsAt w5 g14 0 [.int .i64 x.1, .slice Ax nx cx'] := (CellsAt.blk hb3).kept hx5 trivial
      have hr5' := tPr.ext hr (hx3.trans hx5)
      refine cD (fun hlt => ?_) (fun hge => ?_)
      · have hlt : j < k := by omega
        obtain ⟨bs, os, _, a, rfl, ha, hda, -, hca, hra⟩ := (hs.ext hw5).at_ hlt
        obtain ⟨rfl, -⟩ := tNat_rep hra
        have han := hin a (List.mem_of_getElem? ha)
        obtain ⟨bl, ol, _, y, rfl, hy, -, -, hcy, Ay, ny, cy, rfl, hry, -⟩ := (hl.ext hw5).at_ han
        have hsh : shw l x a = showsL x.2 y := by unfold shw; rw [List.getD_eq_getElem?_getD, hy]; rfl
        have hp0 := part_take (l := l) (x := x) false ha
        have hp1 := part_take (l := l) (x := x) true ha
        rw [hsh] at hp0 hp1
        refine idx j rfl hlt ?_
        refine ld _ (hca 0 _ rfl) ?_
        refine drawX [0, 1, 2, 3, 4, 5] [5] mx (by kernel_rfl) ?_
        refine ldAX _ hcx5 rfl (.refl _ _) ?_
        refine idx a rfl han ?_
        refine ldX _ (hcy 0 _ rfl) (.refl _ _) ?_
        refine callE (c_shows (cs := [.int .i64 x.1, .slice Ax nx cx']) hr5' hry) (fun w6 hb hx6 => ?_) (fun w6 hb hx6 => ?_)
        · rw [hb] at hp0 hp1
          refine strS hx6 ?_
          have hb6 := hb5.ext hx6
          refine idxR 1 rfl (by omega) ?_
          refine ld _ (hb6.cell rfl) ?_
          refine lit [.int .i64 (a : Int)] (fun g7 w7 hb7 => ?_)
          have e7 := hb7.at_
          refine appF ((o1.then hx6).then hb7.ext) (hb7.src (sz := 1) rfl) (by omega) (fun A1' c1' w8 o1' k8 hA8 => ?_)
          have o07 := (o0.then hx6).then hb7.ext
          have hb8 : Blk w8 g15 72 [.slice A0 n0 c0, .slice A1 n1 c1] := (hb6.ext hb7.ext).kept k8 (fun e => ((o1.then hx6).then hb7.ext).ne (hb6.ext hb7.ext) (by decide) _ e rfl)
          have o08 : OwnF w3 w8 A0 n0 c0 3 1 _ := o07.thenK k8 (fun y e => fun e' => hne y e e') o1'.ext
          refine idxR 1 rfl (by omega) ?_
          refine st hb8 (Nat.le_of_ble_eq_true rfl) rfl (fun w9 hb9 k9 hz9 => ?_)
          have hx9 : Ext w3 w9 := o1'.ext.then k9 (fun b hb _ e => by omega)
          have o09 := o08.thenK k9 (fun y e => o08.ne hb8 (by decide) y e) hx9
          have o19 := o1'.thenK k9 (fun y e => o1'.ne hb8 (by decide) y e) hx9
          have hne9 : ∀ y, A0 = some (ad y 0) → A1' ≠ some (ad y 0) := fun y e e' => by
            rcases hA8 with h | h | h
            · exact hne y e (by rw [← h]; exact e')
            · rw [h] at e'; cases e'
            · rw [h] at e'
              simp only [Option.some.injEq, Addr.mk.injEq] at e'
              have := o07.own.lt (g := y) (by rw [e]; rfl)
              omega
          refine arI (by omega) ?_
          refine next (j + 1) ⟨rfl, trivial⟩ ⟨by omega, hx9, A0, n0, c0, A1', n1 + 1, c1', hb9, ?_, ?_, hne9⟩ (by omega)
          · rw [hp0]; simpa using o09
          · rw [hp1, if_pos rfl, List.map_append]; exact o19
        · rw [hb] at hp0 hp1
          refine strS hx6 ?_
          have hb6 := hb5.ext hx6
          refine idxR 0 rfl (by omega) ?_
          refine ld _ (hb6.cell rfl) ?_
          refine lit [.int .i64 (a : Int)] (fun g7 w7 hb7 => ?_)
          have e7 := hb7.at_
          refine appF ((o0.then hx6).then hb7.ext) (hb7.src (sz := 1) rfl) (by omega) (fun A0' c0' w8 o0' k8 hA8 => ?_)
          have o17 := (o1.then hx6).then hb7.ext
          have hb8 : Blk w8 g15 72 [.slice A0 n0 c0, .slice A1 n1 c1] := (hb6.ext hb7.ext).kept k8 (fun e => ((o0.then hx6).then hb7.ext).ne (hb6.ext hb7.ext) (by decide) _ e rfl)
          have o18 : OwnF w3 w8 A1 n1 c1 3 1 _ := o17.thenK k8 (fun y e => fun e' => hne y e' e) o0'.ext
          refine idxR 0 rfl (by omega) ?_
          refine st hb8 (Nat.le_of_ble_eq_true rfl) rfl (fun w9 hb9 k9 hz9 => ?_)
          have hx9 : Ext w3 w9 := o0'.ext.then k9 (fun b hb _ e => by omega)
          have o19 := o18.thenK k9 (fun y e => o18.ne hb8 (by decide) y e) hx9
          have o09 := o0'.thenK k9 (fun y e => o0'.ne hb8 (by decide) y e) hx9
          have hne9 : ∀ y, A0' = some (ad y 0) → A1 ≠ some (ad y 0) := fun y e e' => by
            rcases hA8 with h | h | h
            · exact hne y (by rw [← h]; exact e) e'
            · rw [h] at e; cases e
            · rw [h] at e
              simp only [Option.some.injEq, Addr.mk.injEq] at e
              have := o17.own.lt (g := y) (by rw [e']; rfl)
              omega
          refine arI (by omega) ?_
          refine next (j + 1) ⟨rfl, trivial⟩ ⟨by omega, hx9, A0', n0 + 1, c0', A1, n1, c1, hb9, ?_, ?_, hne9⟩ (by omega)
          · rw [hp0, if_pos rfl, List.map_append]; exact o09
          · rw [hp1]; simpa using o19
      · obtain rfl : j = k := by omega
        rw [List.take_of_length_le (by omega)] at o0 o1 hcnt0 hcnt1 hle0 hle1
        have hp0 := o0.nats (D := All) (fun i hi => by have := hin i (partL_sub i (by simpa using hi)); omega) (by omega) (fun _ _ => trivial)
        have hp1 := o1.nats (D := All) (fun i hi => by have := hin i (partL_sub i (by simpa using hi)); omega) (by omega) (fun _ _ => trivial)
        have hin0 : ∀ i ∈ partL l x list false, i < n := fun i hi => hin i (partL_sub i hi)
        have hin1 : ∀ i ∈ partL l x list true, i < n := fun i hi => hin i (partL_sub i hi)
        have hcb5 := hcb.kept (hx3.trans hx5) trivial
        have hv0 := rworthF_le (l := l) hok f (kid t 0) (partL l x list false)
        have hv1 := rworthF_le (l := l) hok f (kid t 1) (partL l x list true)
        obtain ⟨b0, oo0, ca, a0, rfl, ha0, -, -, hca, hra⟩ := (hkd.ext hw5).at_ (k := 0) (by omega)
        obtain ⟨b1, oo1, cb, a1, e1, ha1, -, -, hcb', hrb⟩ := (hkd.ext hw5).at_ (k := 1) (by omega)
        simp only [Option.some.injEq, Addr.mk.injEq] at e1
        obtain ⟨rfl, rfl, _⟩ := e1
        rw [tTr_sz] at hca hcb'
        rw [kid_of ha0, kid_of ha1] at hF
        rw [kid_of ha0] at hv0
        rw [kid_of ha1] at hv1
        have hP0 : partL l x list false = [] ↔ n0 = 0 := by rw [← List.length_eq_zero_iff]; omega
        have hP1 : partL l x list true = [] ↔ n1 = 0 := by rw [← List.length_eq_zero_iff]; omega
        refine ldA [_, _] (.blk hb5) rfl ?_
        have r0 := ih a0 (partL l x list false) D Dt All ca
        have r1 := ih a1 (partL l x list true) D Dt All cb
        generalize hV0 : rworthF l p f a0 (partL l x list false) = v0 at *
        generalize hV1 : rworthF l p f a1 (partL l x list true) = v1 at *
        refine loop2 (fun (j : Nat) (worst : Int) => [(119, .int .i64 j), (18, .int .i64 worst)])
          (fun j worst w' => j ≤ 2 ∧ Ext w5 w' ∧ (j = 0 → worst = 0) ∧ (1 ≤ j → n0 ≠ 0 ∧ 0 ≤ v0) ∧ (j = 1 → worst = v0) ∧ (j = 2 → n1 ≠ 0 ∧ 0 ≤ v1 ∧ worst = max v0 v1)) (fun j _ _ => 2 - j) 0 0 ⟨rfl, rfl, trivial⟩
          ⟨by omega, .refl _ _, fun _ => rfl, by omega, by omega, by omega⟩ rfl ?_
        rintro G i worst w6 ⟨hi, hx6, i1, i2, i3, i4⟩
        have hw6 := hw5.trans hx6
        refine cD (fun hlt => ?_) (fun hge => ?_)
        · obtain rfl | rfl : i = 0 ∨ i = 1 := by omega
          · obtain rfl := i1 rfl
            refine idxVc 0 (.slice A0 n0 c0) rfl (by omega) rfl ?_
            refine len ?_
            refine cE (fun h5 => ?_) (fun h5 => ?_)
            · exact ret2 (.int .i64 0) (.bool false) rfl rfl ⟨wneg (by rw [hF, if_pos (.inl (hP0.2 (by omega)))]), hw6⟩
            refine fldA ?_
            refine ld _ (hcb5.kept hx6 trivial 2 _ rfl) ?_
            refine idx 0 rfl (by omega) ?_
            refine ldA ca (hca.kept hx6 trivial) ((tTr f).len hra |>.trans (tTr_sz f)) ?_
            refine call_of (r0 w6 _ _ _ _ _ _ _ (hl.ext hw6) (hp.ext hw6) ((tTr f).ext hra hx6) (hp0.ext hx6) hin0 (by omega)) ?_
            rintro _ w7 ⟨rfl, hx7⟩
            rcases Int.lt_or_le v0 0 with hneg | hpos
            · rw [wval_neg hneg]
              refine ret2 (.int .i64 0) (.bool false) rfl rfl ⟨wneg ?_, hw6.trans hx7⟩
              rw [hF]; split
              · rfl
              · rw [if_pos (.inl hneg)]
            · rw [wval_pos hpos]
              refine arI (by omega) ?_
              exact next2 1 (max 0 v0) ⟨rfl, rfl, trivial⟩ ⟨by omega, hx6.trans hx7, by omega, fun _ => ⟨by omega, hpos⟩, fun _ => by omega, by omega⟩ (by omega)
          · obtain ⟨z0, z1⟩ := i2 (by omega)
            obtain rfl := i3 rfl
            refine idxVc 1 (.slice A1 n1 c1) rfl (by omega) rfl ?_
            refine len ?_
            refine cE (fun h5 => ?_) (fun h5 => ?_)
            · exact ret2 (.int .i64 0) (.bool false) rfl rfl ⟨wneg (by rw [hF, if_pos (.inr (hP1.2 (by omega)))]), hw6⟩
            refine fldA ?_
            refine ld _ (hcb5.kept hx6 trivial 2 _ rfl) ?_
            refine idx 1 rfl (by omega) ?_
            refine ldA cb (hcb'.kept hx6 trivial) ((tTr f).len hrb |>.trans (tTr_sz f)) ?_
            refine call_of (r1 w6 _ _ _ _ _ _ _ (hl.ext hw6) (hp.ext hw6) ((tTr f).ext hrb hx6) (hp1.ext hx6) hin1 (by omega)) ?_
            rintro _ w7 ⟨rfl, hx7⟩
            rcases Int.lt_or_le v1 0 with hneg | hpos
            · rw [wval_neg hneg]
              refine ret2 (.int .i64 0) (.bool false) rfl rfl ⟨wneg ?_, hw6.trans hx7⟩
              rw [hF]; split
              · rfl
              · rw [if_pos (.inr hneg)]
            · rw [wval_pos hpos]
              refine arI (by omega) ?_
              exact next2 2 (max worst v1) ⟨rfl, rfl, trivial⟩ ⟨by omega, hx6.trans hx7, by omega, fun _ => ⟨z0, z1⟩, by omega, fun _ => ⟨by omega, hpos, rfl⟩⟩ (by omega)
        · obtain rfl : i = 2 := by omega
          obtain ⟨z0, z1⟩ := i2 (by omega)
          obtain ⟨z2, z3, rfl⟩ := i4 rfl
          rw [if_neg (fun h => h.elim (fun h => z0 (hP0.1 h)) (fun h => z2 (hP1.1 h))), if_neg (by omega)] at hF
          refine fldA ?_
          refine ld _ (hcx5.kept hx6 trivial 0 _ rfl) ?_
          refine arI (by omega) ?_
          refine ret2 (.int .i64 (x.1 + max v0 v1)) (.bool true) rfl rfl ⟨?_, hw6⟩
          rw [hF, wval_pos (by omega)]
end Go.Proofs.YtpmmhcgghldaaaaDoor
