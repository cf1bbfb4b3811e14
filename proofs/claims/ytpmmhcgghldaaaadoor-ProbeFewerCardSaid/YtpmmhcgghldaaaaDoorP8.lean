/- Contracts: the reference's Worth and Follow. -/
import Derived.Test.YtpmmhcgghldaaaaDoorP7
namespace Go.Proofs.YtpmmhcgghldaaaaDoor
open Go Go.RowKit

theorem kid_of {t a : Tr} {i : Nat} (h : t.kids[i]? = some a) : kid t i = a := by unfold kid; rw [List.getD_eq_getElem?_getD, h]; rfl
theorem prAt_of {p : List Pr} {i : Int} {x : Pr} (h : p[i.toNat]? = some x) : prAt p i = x := by unfold prAt; rw [List.getD_eq_getElem?_getD, h]; rfl

theorem c_rworth {l : List (List Int)} {p : List Pr} {n m : Nat} (hN : n ≤ 12) (_hm : m ≤ 1000) (hok : prOk p) :
    ∀ (f : Nat) (t : Tr) (list : List Nat) (D Dt D4 : Nat → Prop) (cs : List Value) (w : World) (A A2 A4 : Option Addr) (k c e g : Nat), SlR tInts D w A n l → SlR tPr D w A2 m p → (tTr f).rep Dt w cs t → SlR tNat D4 w A4 k list → (∀ i ∈ list, i < n) → k ≤ n →
    CallZ Tryd.prog 36 #[.slice A n c, .slice A2 m e, .agg cs.toArray, .slice A4 k g] w (fun v w' => v = .int .i64 (rworthF l p f t list) ∧ Ext w w') := by
  intro f
  induction f with
  | zero => exact fun t list _ _ _ _ _ _ _ _ _ _ _ _ _ _ h _ _ _ => h.elim
  | succ f ih =>
    intro t list D Dt D4 cs w A A2 A4 k c e g hl hp ht hs hin hk
    have hkl := hs.1
    have hpl := hp.1
    have hF := rworthF.eq_2 l p t list f
    obtain ⟨A5, n5, c5, A6, n6, c6, rfl, hti, hrs, -, hkd, -⟩ := tr_open ht
    have hr5 := hrs.1
    have hk6 := hkd.1
    have hkle := hkd.le
    refine fn_rule (args := [.slice A n c, .slice A2 m e, .agg #[.int .i64 t.probe, .slice A5 n5 c5, .slice A6 n6 c6], .slice A4 k g]) Tryd.func36 (by kernel_rfl) ?_
    refine box (fun gb w1 hb => ?_)
    have hx1 := hb.ext
    have hcb : CellsAt w1 gb 0 [.int .i64 t.probe, .slice A5 n5 c5, .slice A6 n6 c6] := .blk hb.blk
    refine fldA ?_
    refine ld _ (hcb 2 _ rfl) ?_
    refine len ?_
    refine cE (fun h0 => ?_) (fun h0 => ?_)
    · have hk0 : t.kids = [] := List.eq_nil_of_length_eq_zero (by omega)
      rw [if_pos hk0] at hF
      refine callE (c_rSeparable (hl.ext hx1) (hp.ext hx1) (hs.ext hx1) hin (by omega)) (fun w2 h1 hx2 => ?_) (fun w2 h1 hx2 => ?_)
      · exact ret1 (.int .i64 (-1)) rfl ⟨by rw [hF, if_pos (.inl h1)], hx1.trans hx2⟩
      have hw2 := hx1.trans hx2
      have hcb2 := hcb.kept hx2 trivial
      refine fldA ?_
      refine ld _ (hcb2 0 _ rfl) ?_
      refine cN (fun h2 => ?_) (fun h2 => ?_)
      · exact ret1 (.int .i64 (-1)) rfl ⟨by rw [hF, if_pos (.inr (.inl h2))], hw2⟩
      refine fldA ?_
      refine ld _ (hcb2 1 _ rfl) ?_
      refine callB (c_SameInts (hrs.ext hw2).toAll (hs.ext hw2).nats.toAll) (fun h3 => ?_) (fun h3 => ?_)
      · have h3 : t.rest = ofNats list := eq_of_beq h3
        refine ret1 (.int .i64 0) rfl ⟨?_, hw2⟩
        rw [hF, if_neg]
        rintro (h | h | h)
        · rw [h1] at h; cases h
        · exact h h2
        · exact h h3
      · have h3 : t.rest ≠ ofNats list := ne_of_beq_false h3
        exact ret1 (.int .i64 (-1)) rfl ⟨by rw [hF, if_pos (.inr (.inr h3))], hw2⟩
    · have hk0 : t.kids ≠ [] := fun h => by rw [h] at hk6; simp at hk6; omega
      rw [if_neg hk0] at hF
      refine fldA ?_
      refine ld _ (hcb 1 _ rfl) ?_
      refine len ?_
      refine cD (fun h1 => ?_) (fun h1 => ?_)
      · have : t.rest ≠ [] := fun h => by rw [h] at hr5; simp at hr5; omega
        exact ret1 (.int .i64 (-1)) rfl ⟨by rw [hF, if_pos (.inl this)], hx1⟩
      refine fldA ?_
      refine ld _ (hcb 2 _ rfl) ?_
      refine len ?_
      refine cN (fun h2 => ?_) (fun h2 => ?_)
      · exact ret1 (.int .i64 (-1)) rfl ⟨by rw [hF, if_pos (.inr (.inl (by omega)))], hx1⟩
      refine fldA ?_
      refine ld _ (hcb 0 _ rfl) ?_
      refine cD (fun h3 => ?_) (fun h3 => ?_)
      · exact ret1 (.int .i64 (-1)) rfl ⟨by rw [hF, if_pos (.inr (.inr (.inl h3)))], hx1⟩
      refine fldA ?_
      refine ld _ (hcb 0 _ rfl) ?_
      refine len ?_
      refine cD (fun h4 => ?_) (fun h4 => ?_)
      · exact ret1 (.int .i64 (-1)) rfl ⟨by rw [hF, if_pos (.inr (.inr (.inr (by omega))))], hx1⟩
      have hrest : t.rest = [] := List.eq_nil_of_length_eq_zero (by omega)
      rw [if_neg (by rintro (h | h | h | h); exact h hrest; all_goals omega)] at hF
      obtain ⟨b, o, cx, x, rfl, hx, -, hbB, hcc, hr⟩ := (hp.ext hx1).at_ (k := t.probe.toNat) (by omega)
      have hxok := hok x (List.mem_of_getElem? hx)
      rw [prAt_of hx] at hF
      refine fldA ?_
      refine ld _ (hcb 0 _ rfl) ?_
      refine idx t.probe.toNat (by omega) (by omega) ?_
      refine ldA cx hcc (tPr.len hr) ?_
      refine call_of (c_rPart (som := false) (hl.ext hx1) hr (hs.ext hx1) hin (by omega)) ?_
      rintro _ w2 ⟨hx2, A7, n7, c7, rfl, hle7, hnob⟩
      have hw2 := hx1.trans hx2
      have hcb2 := hcb.kept hx2 trivial
      refine fldA ?_
      refine ld _ (hcb2 0 _ rfl) ?_
      refine idx t.probe.toNat (by omega) (by omega) ?_
      refine ldA cx (hcc.kept hx2 trivial) (tPr.len hr) ?_
      refine call_of (c_rPart (som := true) (hl.ext hw2) (tPr.ext hr hx2) (hs.ext hw2) hin (by omega)) ?_
      rintro _ w3 ⟨hx3, A8, n8, c8, rfl, hle8, hsom⟩
      have hw3 := hw2.trans hx3
      have hcb3 := hcb2.kept hx3 trivial
      have hnob3 := hnob.ext hx3
      have hsp := part_split (l := l) (x := x) (list := list)
      have h7 := hnob.1
      have h8 := hsom.1
      refine len ?_
      refine cE (fun h5 => ?_) (fun h5 => ?_)
      · exact ret1 (.int .i64 (-1)) rfl ⟨by rw [hF, if_pos (.inl (List.eq_nil_of_length_eq_zero (by omega)))], hw3⟩
      refine len ?_
      refine cE (fun h6 => ?_) (fun h6 => ?_)
      · exact ret1 (.int .i64 (-1)) rfl ⟨by rw [hF, if_pos (.inr (List.eq_nil_of_length_eq_zero (by omega)))], hw3⟩
      rw [if_neg (by
        rintro (h | h)
        · rw [h] at h7; simp at h7; omega
        · rw [h] at h8; simp at h8; omega)] at hF
      have hin7 : ∀ i ∈ partL l x list false, i < n := fun i hi => hin i (partL_sub i hi)
      have hin8 : ∀ i ∈ partL l x list true, i < n := fun i hi => hin i (partL_sub i hi)
      obtain ⟨b0, o0, ca, a, rfl, ha, -, -, hca, hra⟩ := (hkd.ext hw3).at_ (k := 0) (by omega)
      rw [tTr_sz] at hca
      rw [kid_of ha] at hF
      refine fldA ?_
      refine ld _ (hcb3 2 _ rfl) ?_
      refine idx 0 rfl (by omega) ?_
      refine ldA ca hca ((tTr f).len hra |>.trans (tTr_sz f)) ?_
      refine call_of (ih a _ D Dt _ ca w3 _ _ _ _ _ _ _ (hl.ext hw3) (hp.ext hw3) hra hnob3 hin7 (by omega)) ?_
      rintro _ w4 ⟨rfl, hx4⟩
      have hw4 := hw3.trans hx4
      have hcb4 := hcb3.kept hx4 trivial
      obtain ⟨b1, o1, cb, a2, e1, ha2, -, -, hcb', hrb⟩ := (hkd.ext hw4).at_ (k := 1) (by omega)
      rw [tTr_sz] at hcb'
      rw [kid_of ha2] at hF
      simp only [Option.some.injEq, Addr.mk.injEq] at e1
      obtain ⟨rfl, rfl, _⟩ := e1
      refine fldA ?_
      refine ld _ (hcb4 2 _ rfl) ?_
      refine idx 1 rfl (by omega) ?_
      refine ldA cb hcb' ((tTr f).len hrb |>.trans (tTr_sz f)) ?_
      refine call_of (ih a2 _ D Dt _ cb w4 _ _ _ _ _ _ _ (hl.ext hw4) (hp.ext hw4) hrb (hsom.ext hx4) hin8 (by omega)) ?_
      rintro _ w5 ⟨rfl, hx5⟩
      have hw5 := hw4.trans hx5
      have hcb5 := hcb4.kept hx5 trivial
      have hv1 := rworthF_le (l := l) hok f a (partL l x list false)
      have hv2 := rworthF_le (l := l) hok f a2 (partL l x list true)
      generalize rworthF l p f a (partL l x list false) = v1 at *
      generalize rworthF l p f a2 (partL l x list true) = v2 at *
      refine cD (fun h9 => ?_) (fun h9 => ?_)
      · exact ret1 (.int .i64 (-1)) rfl ⟨by rw [hF, if_pos (.inl h9)], hw5⟩
      refine cD (fun h10 => ?_) (fun h10 => ?_)
      · exact ret1 (.int .i64 (-1)) rfl ⟨by rw [hF, if_pos (.inr h10)], hw5⟩
      rw [if_neg (by omega)] at hF
      obtain ⟨Ax, nx, cx', rfl, hxi, hxs, -⟩ := pr_open hr
      refine fldA ?_
      refine ld _ (hcb5 0 _ rfl) ?_
      refine idx t.probe.toNat (by omega) (by omega) ?_
      refine fldA ?_
      refine ld _ (hcc.kept (((hx2.trans hx3).trans hx4).trans hx5) trivial 0 _ rfl) ?_
      refine arI (by omega) ?_
      exact ret1 (.int .i64 (x.1 + max v1 v2)) rfl ⟨by rw [hF], hw5⟩

theorem rworth_inv {l : List (List Int)} {p : List Pr} {d : Nat} {t : Tr} {list : List Nat} (h : 0 ≤ rworthF l p (d + 1) t list) (hk : t.kids ≠ []) :
    t.kids.length = 2 ∧ 0 ≤ t.probe ∧ t.probe < p.length ∧ partL l (prAt p t.probe) list false ≠ [] ∧ partL l (prAt p t.probe) list true ≠ [] ∧
      0 ≤ rworthF l p d (kid t 0) (partL l (prAt p t.probe) list false) ∧ 0 ≤ rworthF l p d (kid t 1) (partL l (prAt p t.probe) list true) ∧
      rworthF l p (d + 1) t list = (prAt p t.probe).1 + max (rworthF l p d (kid t 0) (partL l (prAt p t.probe) list false)) (rworthF l p d (kid t 1) (partL l (prAt p t.probe) list true)) := by
  rw [rworthF.eq_2, if_neg hk] at h ⊢
  split at h
  · omega
  rename_i h1
  rw [if_neg h1]
  split at h
  · omega
  rename_i h2
  rw [if_neg h2]
  split at h
  · omega
  rename_i h3
  rw [if_neg h3]
  have h2' := not_or.1 h2
  exact ⟨by omega, by omega, by omega, h2'.1, h2'.2, by omega, by omega, rfl⟩

section
variable {D Dt Du : Nat → Prop} {w : World} {A A' A2 : Option Addr} {n m k c d e g : Nat}

theorem c_rWorth {l : List (List Int)} {p : List Pr} {f : Nat} {t : Tr} {cs : List Value} (hl : SlR tInts D w A n l) (hp : SlR tPr D w A' m p) (ht : (tTr f).rep Dt w cs t) :
    CallZ Tryd.prog 18 #[.slice A n c, .slice A' m d, .agg cs.toArray] w (fun v w' => v = .tuple #[.int .i64 (rworthL l p f t).1, .bool (rworthL l p f t).2.1, .int .i64 (rworthL l p f t).2.2] ∧ Ext w w') := by
  obtain ⟨f, rfl⟩ := tr_pos ht
  have hll := hl.1
  have hpl := hp.1
  obtain ⟨A5, n5, c5, A6, n6, c6, rfl, -⟩ := tr_open ht
  refine fn_rule (args := [.slice A n c, .slice A' m d, .agg #[.int .i64 t.probe, .slice A5 n5 c5, .slice A6 n6 c6]]) Tryd.func18 (by kernel_rfl) ?_
  refine box (fun gb w1 hb => ?_)
  have hx1 := hb.ext
  have hcb : CellsAt w1 gb 0 [.int .i64 t.probe, .slice A5 n5 c5, .slice A6 n6 c6] := .blk hb.blk
  refine call_of (c_rCheck (hl.ext hx1) (hp.ext hx1)) ?_
  rintro _ w1 ⟨rfl, rfl⟩
  refine cN (fun hne => ?_) (fun heq => ?_)
  · refine ret3 (.int .i64 0) (.bool false) (.int .i64 _) rfl rfl rfl ⟨?_, hx1⟩
    unfold rworthL; rw [if_pos hne]
  · obtain ⟨hN, hm, hh, hpo⟩ := checkL_ok heq
    rw [← hll] at hN
    have hok := prOk_of hpo
    have hpow := two_pow_le hN
    have hfl := full_len n
    refine drawX [0, 1, 2, 3, 4, 5, 6, 7, 8, 9, 10, 11] [9, 10] mx (by kernel_rfl) ?_
    refine ldAX _ hcb rfl (.refl _ _) ?_
    refine len ?_
    refine shl1 (fun q hq _ => ?_)
    rw [Int.toNat_natCast] at hq
    have hq0 : 0 < q := by rw [hq]; exact Nat.two_pow_pos n
    refine arN (q - 1) (by omega) (by omega) ?_
    refine len ?_
    refine call_of (c_members (s := q - 1) (N := n) (by omega) (by omega)) ?_
    rintro _ w3 ⟨hx3, Aa, na, ca, rfl, hca, hall⟩
    have hfull : mem (q - 1) n = full n := by rw [hq]; rfl
    rw [hfull] at hall
    have hna := hall.1
    have hw3 := hx1.trans hx3
    refine strS hx3 ?_
    refine call_of (c_rworth hN (by omega) hok (f + 1) t (full n) D Dt _ _ w3 _ _ _ _ _ _ _ (hl.ext hw3) (hp.ext hw3) ((tTr (f + 1)).ext ht hw3) hall (fun i hi => full_lt hi) (by omega)) ?_
    rintro _ w4 ⟨rfl, hx4⟩
    have hw4 := hw3.trans hx4
    refine strS (hx3.trans hx4) ?_
    have hR : rworthL l p (f + 1) t = if rworthF l p (f + 1) t (full n) < 0 then (0, false, 0) else (rworthF l p (f + 1) t (full n), true, 0) := by
      unfold rworthL; rw [if_neg (by omega), ← hll]
    refine cD (fun h1 => ?_) (fun h1 => ?_)
    · refine ret3 (.int .i64 0) (.bool false) (.int .i64 0) rfl rfl rfl ⟨?_, hw4⟩
      rw [hR, if_pos h1]
    · refine ret3 (.int .i64 _) (.bool true) (.int .i64 0) rfl rfl rfl ⟨?_, hw4⟩
      rw [hR, if_neg h1]
end
end Go.Proofs.YtpmmhcgghldaaaaDoor
