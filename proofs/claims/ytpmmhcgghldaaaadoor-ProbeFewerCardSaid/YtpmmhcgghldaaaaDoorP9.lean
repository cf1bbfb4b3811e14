/- Contracts: the reference's Follow. -/
import Derived.Test.YtpmmhcgghldaaaaDoorP8
namespace Go.Proofs.YtpmmhcgghldaaaaDoor
open Go Go.RowKit

theorem rworthL_ok {l : List (List Int)} {p : List Pr} {d : Nat} {t : Tr} (h1 : (rworthL l p d t).2.2 = 0) (h2 : (rworthL l p d t).2.1 = true) : checkL l p = 0 ∧ 0 ≤ rworthF l p d t (full l.length) := by
  unfold rworthL at h1 h2
  split at h1
  · rename_i h; exact absurd h1 h
  rename_i h
  rw [if_neg h] at h2
  split at h2
  · cases h2
  exact ⟨by omega, by omega⟩

theorem followF_s {p : List Pr} {u : List Int} {d : Nat} {t : Tr} {c : Int} : followF p u (d + 1) t c = if t.kids = [] then (t.rest, c) else followF p u d (kid t (if showsL (prAt p t.probe).2 u then 1 else 0)) (c + (prAt p t.probe).1) := rfl

section
variable {D Dt Du : Nat → Prop} {w : World} {A A' A2 A4 : Option Addr} {n m k c d e g : Nat}

theorem c_rFollow {l : List (List Int)} {p : List Pr} {f : Nat} {t : Tr} {cs : List Value} {truth : List Int} (hl : SlR tInts D w A n l) (hp : SlR tPr D w A' m p) (ht : (tTr f).rep Dt w cs t) (hu : SlR tInt Du w A4 k truth) :
    CallZ Tryd.prog 20 #[.slice A n c, .slice A' m d, .agg cs.toArray, .slice A4 k g] w (fun v w' => ∃ A5 n5 c5, v = .tuple #[.slice A5 n5 c5, .int .i64 (rfollowL l p f t truth).2.1, .int .i64 (rfollowL l p f t truth).2.2] ∧ SlR tInt All w' A5 n5 (rfollowL l p f t truth).1 ∧ Ext w w') := by
  obtain ⟨f, rfl⟩ := tr_pos ht
  have hll := hl.1
  have hpl := hp.1
  have ht0 : (tTr (f + 1)).rep (fun b => b < w.heap.size) w cs t := (tTr (f + 1)).more (fun b hb _ => hb) ht
  obtain ⟨A5, n5, c5, A6, n6, c6, rfl, -⟩ := tr_open ht
  refine fn_rule (args := [.slice A n c, .slice A' m d, .agg #[.int .i64 t.probe, .slice A5 n5 c5, .slice A6 n6 c6], .slice A4 k g]) Tryd.func20 (by kernel_rfl) ?_
  refine box (fun gb w1 hb => ?_)
  have hx1 := hb.ext
  have hgb := hb.at_
  have hblk : Blk w1 gb 29 [.int .i64 t.probe, .slice A5 n5 c5, .slice A6 n6 c6] := hb.blk
  refine ldA [.int .i64 t.probe, .slice A5 n5 c5, .slice A6 n6 c6] (.blk hblk) rfl ?_
  refine call_of (c_rWorth (f := f + 1) (hl.ext hx1) (hp.ext hx1) ((tTr (f + 1)).ext ht hx1)) ?_
  rintro _ w2 ⟨rfl, hx2⟩
  have hw2 := hx1.trans hx2
  refine cN (fun hne => ?_) (fun heq => ?_)
  · refine ret3 (.slice none 0 0) (.int .i64 0) (.int .i64 _) rfl rfl rfl ⟨none, 0, 0, ?_, ?_, hw2⟩
    · unfold rfollowL; rw [if_pos hne]
    · unfold rfollowL; rw [if_pos hne]; exact .nil
  · have hR : rfollowL l p (f + 1) t truth = if (rworthL l p (f + 1) t).2.1 = false ∨ setOk truth = false then ([], 0, 500) else ((followF p truth (f + 1) t 0).1, (followF p truth (f + 1) t 0).2, 0) := by
      unfold rfollowL; rw [if_neg (by omega)]
    cases h2 : (rworthL l p (f + 1) t).2.1 with
    | false =>
      rw [h2, if_pos (.inl rfl)] at hR
      refine ret3 (.slice none 0 0) (.int .i64 0) (.int .i64 500) rfl rfl rfl ⟨none, 0, 0, by rw [hR], by rw [hR]; exact .nil, hw2⟩
    | true =>
      refine callB (c_rSet (hu.ext hw2)) (fun hs => ?_) (fun hs => ?_)
      · obtain ⟨hck, hwp⟩ := rworthL_ok heq h2
        obtain ⟨hN, hm, hh, hpo⟩ := checkL_ok hck
        have hok := prOk_of hpo
        have hfl := full_len l.length
        rw [h2, if_neg (by rw [hs]; simp)] at hR
        refine loop2 (fun (d : Nat) (cost : Int) => [(14, .int .i64 cost)])
          (fun d' cost w' => Ext w w' ∧ ∃ t' list' cells, Blk w' gb 29 cells ∧ (tTr d').rep (fun b => b < w.heap.size) w' cells t' ∧ 0 ≤ rworthF l p d' t' list' ∧ followF p truth (f + 1) t 0 = followF p truth d' t' cost ∧ 0 ≤ cost ∧ cost + list'.length * 1048576 ≤ 12 * 1048576)
          (fun d _ _ => d) (f + 1) 0 ⟨rfl, trivial⟩ ⟨hw2, t, full l.length, _, hblk.ext hx2, (tTr (f + 1)).ext ht0 hw2, hwp, rfl, by omega, by omega⟩ rfl ?_
        rintro G d' cost w3 ⟨hx3, t', list', cells, hb3, ht3, hwp3, he, hc0, hc1⟩
        obtain ⟨d', rfl⟩ := tr_pos ht3
        obtain ⟨A7, n7, c7, A8, n8, c8, rfl, -, hrs, -, hkd, -⟩ := tr_open ht3
        have hk8 := hkd.1
        rw [followF_s (t := t') (d := d')] at he
        refine fldA ?_
        refine ld _ (hb3.cell rfl) ?_
        refine len ?_
        refine cD (fun hlt => ?_) (fun hge => ?_)
        · have hk0 : t'.kids ≠ [] := fun h => by rw [h] at hk8; simp at hk8; omega
          rw [if_neg hk0] at he
          obtain ⟨i1, i2, i3, i4, i5, i6, i7, i8⟩ := rworth_inv hwp3 hk0
          obtain ⟨b, o, cx, x, rfl, hx, -, hbB, hcc, hr⟩ := (hp.ext hx3).at_ (k := t'.probe.toNat) (by omega)
          have hxok := hok x (List.mem_of_getElem? hx)
          rw [prAt_of hx] at he i4 i5 i6 i7 i8
          have hp1 := part_split (l := l) (x := x) (list := list')
          have l1 : 0 < (partL l x list' false).length := List.length_pos_iff.2 i4
          have l2 : 0 < (partL l x list' true).length := List.length_pos_iff.2 i5
          obtain ⟨Ax, nx, cx', rfl, hxi, hxs, -⟩ := pr_open hr
          refine fldA ?_
          refine ld _ (hb3.cell rfl) ?_
          refine idx t'.probe.toNat (by omega) (by omega) ?_
          refine fldA ?_
          refine ld _ (hcc 0 _ rfl) ?_
          refine arI (by omega) ?_
          refine fldA ?_
          refine ld _ (hb3.cell rfl) ?_
          refine idx t'.probe.toNat (by omega) (by omega) ?_
          refine ldA [.int .i64 x.1, .slice Ax nx cx'] hcc rfl ?_
          obtain ⟨b0, o0, ca, a, rfl, ha, -, -, hca, hra⟩ := hkd.at_ (k := 0) (by omega)
          obtain ⟨b1, o1, cb, a2, e1, ha2, -, -, hcb', hrb⟩ := hkd.at_ (k := 1) (by omega)
          simp only [Option.some.injEq, Addr.mk.injEq] at e1
          obtain ⟨rfl, rfl, _⟩ := e1
          rw [tTr_sz] at hca hcb'
          rw [kid_of ha] at i6
          rw [kid_of ha2] at i7
          refine callE (c_rShows (cs := [.int .i64 x.1, .slice Ax nx cx']) (tPr.more (D' := All) (fun _ _ _ => trivial) hr) (hu.ext hx3).toAll) (fun w4 h5 hx4 => ?_) (fun w4 h5 hx4 => ?_)
          · rw [h5, if_pos rfl, kid_of ha2] at he
            refine fldA ?_
            refine ld _ ((hb3.ext hx4).cell rfl) ?_
            refine idx 1 rfl (by omega) ?_
            obtain ⟨d', rfl⟩ := tr_pos hrb
            obtain ⟨_, _, _, _, _, _, rfl, -⟩ := tr_open hrb
            refine ldA [_, _, _] (hcb'.kept hx4 trivial) rfl ?_
            refine stA (vs := [_, _, _]) (hb3.ext hx4) rfl (Nat.le_of_ble_eq_true rfl) (by simp [Value.oneCell']) (fun w5 hb5 hk5 hz5 => ?_)
            have hx5 : Ext w w5 := (hx3.trans hx4).then hk5 (fun b hb _ e => by omega)
            have hr5 := (tTr (d' + 1)).kept ((tTr (d' + 1)).ext hrb hx4) hk5 (fun b _ h e => by omega)
            exact next2 (d' + 1) (cost + x.1) ⟨rfl, trivial⟩ ⟨hx5, a2, partL l x list' true, _, hb5, hr5, i7, he, by omega, by omega⟩ (by omega)
          · rw [h5, if_neg (by simp), kid_of ha] at he
            refine fldA ?_
            refine ld _ ((hb3.ext hx4).cell rfl) ?_
            refine idx 0 rfl (by omega) ?_
            obtain ⟨d', rfl⟩ := tr_pos hra
            obtain ⟨_, _, _, _, _, _, rfl, -⟩ := tr_open hra
            refine ldA [_, _, _] (hca.kept hx4 trivial) rfl ?_
            refine stA (vs := [_, _, _]) (hb3.ext hx4) rfl (Nat.le_of_ble_eq_true rfl) (by simp [Value.oneCell']) (fun w5 hb5 hk5 hz5 => ?_)
            have hx5 : Ext w w5 := (hx3.trans hx4).then hk5 (fun b hb _ e => by omega)
            have hr5 := (tTr (d' + 1)).kept ((tTr (d' + 1)).ext hra hx4) hk5 (fun b _ h e => by omega)
            exact next2 (d' + 1) (cost + x.1) ⟨rfl, trivial⟩ ⟨hx5, a, partL l x list' false, _, hb5, hr5, i6, he, by omega, by omega⟩ (by omega)
        · rw [if_pos (List.eq_nil_of_length_eq_zero (by omega))] at he
          rw [he] at hR
          refine fldA ?_
          refine ld _ (hb3.cell rfl) ?_
          refine ret3 (.slice A7 n7 c7) (.int .i64 cost) (.int .i64 0) rfl rfl rfl ⟨A7, n7, c7, by rw [hR], by rw [hR]; exact hrs.toAll, hx3⟩
      · rw [if_pos (.inr hs)] at hR
        refine ret3 (.slice none 0 0) (.int .i64 0) (.int .i64 500) rfl rfl rfl ⟨none, 0, 0, by rw [hR], by rw [hR]; exact .nil, hw2⟩
end
end Go.Proofs.YtpmmhcgghldaaaaDoor
