/- Parts of the proof: Js Za. -/
import Derived.Test.YtcpogcdadlcdaaaM9
import Derived.Test.YtcpogcdadlcdaaaM5
import Derived.Test.YtcpogcdadlcdaaaM8
import Derived.Test.YtcpogcdadlcdaaaRows
import Derived.Stop.LaidErr

/- Layer 46: there and back. -/
namespace Go.Proofs.Ytcpogcdadlcdaaa
open Go Go.RowKit

theorem arrW_slow {r : Reach} {v : Int} (hl : lossOk r = true) (hv : 0 ≤ v) : arrW r (v + 1) ≤ arrW r v + 1 := by
  obtain ⟨h1, h2⟩ := lossOk_iff.1 hl
  obtain ⟨h3, h4, _⟩ := sharesQ_iff.1 h2
  obtain ⟨q1, q2, q3⟩ := shareQ_iff.1 h4
  obtain ⟨d1, -⟩ := qValid_iff.1 q1
  have f : upI (v * r.s1.n) r.s1.d ≤ upI ((v + 1) * r.s1.n) r.s1.d := by
    have : v * r.s1.n ≤ (v + 1) * r.s1.n := Int.mul_le_mul_of_nonneg_right (by omega) q2
    unfold upI
    exact Int.ediv_le_ediv (by omega) (by omega)
  have s := share_le (v := v + 1) h4 (by omega)
  have s0 := share_le (v := v) h4 hv
  unfold arrW
  rw [lost_eq hl hv, lost_eq hl (by omega)]
  show v + 1 - (if v + 1 = 0 then 0 else _) ≤ v - (if v = 0 then 0 else _) + 1
  rw [if_neg (by omega)]
  by_cases e : v = 0
  · rw [if_pos e]; omega
  · rw [if_neg e]; omega
theorem needV_strict {r : Reach} {t t' v v' : Int} (hl : lossOk r = true) (h0 : 0 ≤ t) (h : t < t') (hs : r.siphon = 0) (hv : needV r t = some v) (hv' : needV r t' = some v') : v < v' := by
  have b := lvW_first (w := t') hl
  have hz : arrW r 0 ≤ 0 := by
    obtain ⟨h1, h2⟩ := lossOk_iff.1 hl
    unfold arrW
    rw [lost_eq hl (Int.le_refl _)]
    obtain ⟨h3, h4, _⟩ := sharesQ_iff.1 h2
    have s := share_le (v := 0) h4 (Int.le_refl _)
    show (0 : Int) - (if (0 : Int) = 0 then (0 : Int) else min 0 (r.evap.hi + upI (0 * r.s1.n) r.s1.d)) ≤ 0
    rw [if_pos rfl]
    decide
  unfold needV at hv hv'
  rw [if_neg (by omega)] at hv'
  split at hv'
  · cases hv'
  split at hv'
  · cases hv'
  injection hv' with hv'
  rw [hs] at hv'
  have hb0 : 0 ≤ lvW r t' := b.le
  have hyes := b.yes (by omega)
  rw [decide_eq_true_eq] at hyes
  by_cases e : t = 0
  · rw [if_pos e] at hv
    injection hv with hv
    by_cases q : lvW r t' = 0
    · rw [q] at hyes; omega
    · omega
  rw [if_neg e] at hv
  split at hv
  · cases hv
  split at hv
  · cases hv
  injection hv with hv
  rw [hs] at hv
  have a := lvW_first (w := t) hl
  have ha0 : 0 ≤ lvW r t := a.le
  by_cases q : lvW r t < lvW r t'
  · omega
  exfalso
  by_cases z : lvW r t' = 0
  · rw [z] at hyes; omega
  have hn := a.no (lvW r t' - 1) (by omega) (by omega)
  rw [decide_eq_false_iff_not] at hn
  have hsl := arrW_slow (v := lvW r t' - 1) hl (by omega)
  rw [show lvW r t' - 1 + 1 = lvW r t' by omega] at hsl
  omega
theorem isum_lt {α : Type} {f g : α → Int} : ∀ {l : List α} {k : Nat} {x : α}, (∀ x ∈ l, f x ≤ g x) → l[k]? = some x → f x < g x → isum (l.map f) < isum (l.map g)
  | [], _, _, _, h, _ => by simp at h
  | y :: l, 0, x, h, hk, hx => by
    simp at hk
    subst hk
    have := isum_mono (l := l) fun z hz => h z (List.mem_cons_of_mem _ hz)
    unfold isum at *
    simp only [List.map_cons, List.sum_cons]
    omega
  | y :: l, k + 1, x, h, hk, hx => by
    have ih := isum_lt (l := l) (fun z hz => h z (List.mem_cons_of_mem _ hz)) (by simpa using hk) hx
    have h0 := h y List.mem_cons_self
    unfold isum at *
    simp only [List.map_cons, List.sum_cons]
    omega
theorem heads_strict {d : Dist} {aw aw' hs hs' : List Int} {f : Nat} (R : Rdy d aw hs) (R' : Rdy d aw' hs') (h : LeL aw aw') (k : LeL hs hs') (hf : f < d.farms.length) (hlt : clA aw f < clA aw' f) (hz : ∀ r, r < d.reaches.length → (rcC d r).siphon = 0) : clA hs 0 < clA hs' 0 := by
  have le : ∀ p : Pt, clP aw hs p ≤ clP aw' hs' p := fun p => by
    unfold clP
    split
    · exact h.at_ _
    · exact k.at_ _
  have one : ∀ {r i : Nat} {p : Pt}, r < d.reaches.length → (ptsV d r)[i]? = some p → clP aw hs p < clP aw' hs' p → clA hs r < clA hs' r := fun {r i p} hr hp hlt => by
    have hs1 : isum (clmV d aw hs r) < isum (clmV d aw' hs' r) := by
      unfold clmV
      exact isum_lt (fun p _ => le p) hp hlt
    exact needV_strict (R.v.loss hr).1 (R.sum r).1 hs1 (hz r hr) (R.nd r hr) (R'.nd r hr)
  have up : ∀ (n r : Nat), r ≤ n → r < d.reaches.length → clA hs r < clA hs' r → clA hs 0 < clA hs' 0 := by
    intro n
    induction n with
    | zero => intro r hr _ h; obtain rfl : r = 0 := (by omega); exact h
    | succ n ih =>
      intro r hr hrl h
      by_cases h0 : r = 0
      · subst h0; exact h
      · obtain ⟨p, i, hp, hi⟩ := R.v.par (by omega) hrl
        exact ih p (by omega) (by omega) (one (by omega) hi h)
  obtain ⟨r, i, hr, -, hi⟩ := R.v.farm hf
  exact up r r (Nat.le_refl _) hr (one hr hi hlt)
/-- What comes back is no more than what was moved. -/
theorem back_le {d : Dist} {bf aw bf' : List Int} {f t : Nat} {x g b : Int} (M : MvOk d bf aw f t x) (G : GotV d bf aw f t x g) (M' : MvOk d bf' (chgV aw f t x g) t f g) (G' : GotV d bf' (chgV aw f t x g) t f g b) (hz : ∀ r, r < d.reaches.length → (rcC d r).siphon = 0) : b ≤ x := by
  by_cases q : b ≤ x
  · exact q
  exfalso
  have hx := M.hx
  have h1 := M'.mono (n := x + 1) (by omega) (by omega) G'.le G'.yes
  obtain ⟨l, e, h2, -⟩ := harmB_iff.1 h1
  obtain ⟨l', e', h3, -⟩ := M.next G
  rw [M'.hd] at e'
  injection e' with e'
  subst e'
  obtain ⟨m1, m2⟩ := M.fl
  have hat : ∀ i, clA (chgV (chgV aw f t x g) t f g (x + 1)) i = if i = f then clA aw f + 1 else clA aw i := fun i => by
    rw [chgV_at (by rw [chgV_len]; exact m2) (by rw [chgV_len]; exact m1) (fun h => M.ne h.symm), chgV_at m1 m2 M.ne, chgV_at m1 m2 M.ne, chgV_at m1 m2 M.ne]
    rw [if_neg M.ne, if_pos rfl, if_pos rfl]
    by_cases e1 : i = f
    · rw [if_pos e1, if_pos e1]; omega
    · rw [if_neg e1, if_neg e1]
      by_cases e2 : i = t
      · rw [if_pos e2, e2]; omega
      · rw [if_neg e2, if_neg e2, if_neg e1]
  have hle : LeL aw (chgV (chgV aw f t x g) t f g (x + 1)) := ⟨by rw [chgV_len, chgV_len], fun i _ => by
    rw [hat]
    split
    · rename_i e1; rw [e1]; omega
    · exact Int.le_refl _⟩
  obtain ⟨-, -, R'⟩ := headsV_some e
  obtain ⟨hs, e3, le⟩ := headsV_mono hle M.rdy.okc e
  rw [M.hd] at e3
  injection e3 with e3
  subst e3
  have := heads_strict M.rdy R' hle le M.hf (by rw [hat, if_pos rfl]; omega) hz
  omega
theorem mvErr_parts {d : Dist} {aw : List Int} {f t x : Int} (h : mvErr d aw f t x = 0) : dErr d = 0 ∧ 0 ≤ f ∧ f < d.farms.length ∧ 0 ≤ t ∧ t < d.farms.length ∧ f ≠ t ∧ 0 ≤ x ∧ x ≤ clA aw f.toNat := by
  unfold mvErr at h
  by_cases h0 : dErr d ≠ 0
  · rw [if_pos h0] at h; exact absurd h h0
  rw [if_neg h0] at h
  by_cases h1 : headsV d aw = none
  · rw [if_pos h1] at h; cases h
  rw [if_neg h1] at h
  split at h
  · rename_i q; exact ⟨by omega, q⟩
  · cases h
theorem mvErr_ok {d : Dist} {aw : List Int} {f t x : Int} (h0 : dErr d = 0) (h1 : headsV d aw ≠ none) (h2 : 0 ≤ f ∧ f < d.farms.length ∧ 0 ≤ t ∧ t < d.farms.length ∧ f ≠ t ∧ 0 ≤ x ∧ x ≤ clA aw f.toNat) : mvErr d aw f t x = 0 := by
  unfold mvErr
  rw [if_neg (fun h => h h0), if_neg h1, if_pos h2]
section
variable {D : Nat → Prop} {w : World}
set_option maxRecDepth 8000 in
theorem c_HarmlessBack {csd : List Value} {d : Dist} {aw : List Int} {f t x : Int} {A : Option Addr} {n c : Nat} (hd : DiR D w csd d) (hl : SlR tInt D w A n aw) : CallZ Try.prog 4 #[.agg csd.toArray, .slice A n c, iv f, iv t, iv x] w (fun v w' => v = .bool true ∧ Ext w w') := by
  have hd0 := hd
  obtain ⟨A1, n1, c1, A2, n2, c2, A3, n3, c3, A4, n4, c4, A5, n5, c5, A6, n6, c6, rfl, hr, hf, -⟩ := hd.ex
  have lr := hr.len
  have ler := hr.le
  refine fn_rule (args := [.agg #[.string d.name, iv d.hours, iv d.cap, iv d.start, .slice A1 n1 c1, .slice A2 n2 c2, .slice A3 n3 c3, .slice A4 n4 c4, .slice A5 n5 c5, .slice A6 n6 c6], .slice A n c, iv f, iv t, iv x]) Try.func4 (by kernel_rfl) ?_
  refine box (fun b5 w1 h1 => ?_)
  have B5 : Blk w1 b5 38 [.string d.name, iv d.hours, iv d.cap, iv d.start, .slice A1 n1 c1, .slice A2 n2 c2, .slice A3 n3 c3, .slice A4 n4 c4, .slice A5 n5 c5, .slice A6 n6 c6] := h1.blk
  refine call_of (c_hsane) ?_
  rintro _ w2 ⟨rfl, x2⟩
  have B5 := B5.ext x2
  have x02 := h1.ext.trans x2
  refine ldA [.string d.name, iv d.hours, iv d.cap, iv d.start, .slice A1 n1 c1, .slice A2 n2 c2, .slice A3 n3 c3, .slice A4 n4 c4, .slice A5 n5 c5, .slice A6 n6 c6] (.blk B5) rfl ?_
  refine call_of (c_hFew (hd0.ext x02)) ?_
  rintro _ w3 ⟨⟨q, rfl⟩, x3⟩
  have B5 := B5.ext x3
  have x03 := x02.trans x3
  cases q with
  | false => exact ret1 (.bool true) rfl ⟨rfl, x03⟩
  | true =>
  refine fldA ?_
  refine ld (.slice A1 n1 c1) (B5.cell rfl) ?_
  refine len ?_
  refine loop_rule (fun k : Nat => [(28, iv (k : Int))]) (fun k u => k ≤ n1 ∧ Ext w3 u ∧ ∀ r, r < k → (rcC d r).siphon = 0) (fun k _ => n1 - k) 0 ⟨rfl, trivial⟩ ⟨by omega, .refl _ _, fun r h => by omega⟩ rfl ?_
  rintro G k u ⟨hk, xu, hz⟩
  have B5 := B5.ext xu
  have x0u := x03.trans xu
  refine cD (fun hlt => ?_) (fun hge => ?_)
  · have hlt : k < n1 := by omega
    obtain ⟨b, o, cs, y, rfl, hy, -, -, hc, rfl⟩ := (hr.ext x0u).at_ hlt
    have ey : rcC d k = y := by unfold rcC; rw [List.getD_eq_getElem?_getD, hy]; rfl
    refine idx k rfl hlt ?_
    refine ldA y.c hc rfl ?_
    refine alloc (fun b12 u1 q1 => ?_)
    refine stA (vs := y.c) q1.blk rfl (Nat.le_of_ble_eq_true rfl) (by simp [Value.oneCell']) (fun u2 B12 k2 s2' => ?_)
    have B12 : Blk u2 b12 47 y.c := B12
    have e12 := q1.at_
    have xu2 : Ext u u2 := q1.ext.then k2 fun b hb _ e => by omega
    refine fldA ?_
    refine ld (iv y.siphon) (B12.cell rfl) ?_
    refine cN (fun _ => ?_) (fun hs0 => ?_)
    · exact ret1 (.bool true) rfl ⟨rfl, x0u.trans xu2⟩
    refine arI (by omega) ?_
    refine next (k + 1) ⟨by rw [Int.natCast_add]; rfl, trivial⟩ ⟨by omega, xu.trans xu2, fun r hr' => ?_⟩ (by omega)
    by_cases e : r = k
    · rw [e, ey]; exact hs0
    · exact hz r (by omega)
  have hz : ∀ r, r < d.reaches.length → (rcC d r).siphon = 0 := fun r hr' => hz r (by omega)
  refine ldA [.string d.name, iv d.hours, iv d.cap, iv d.start, .slice A1 n1 c1, .slice A2 n2 c2, .slice A3 n3 c3, .slice A4 n4 c4, .slice A5 n5 c5, .slice A6 n6 c6] (.blk B5) rfl ?_
  refine call_of (c_hMove (hd0.ext x0u) (hl.ext x0u)) ?_
  rintro _ w4 ⟨x4, g, A', n', c', rfl, -, hok⟩
  have x04 := x0u.trans x4
  refine cN (fun _ => ?_) (fun he => ?_)
  · exact ret1 (.bool true) rfl ⟨rfl, x04⟩
  have he : mvErr d aw f t x = 0 := he
  obtain ⟨rfl, bf, M, Gv, sl⟩ := hok he
  obtain ⟨t0, t1, t2, t3, t4, t5, t6, t7⟩ := mvErr_parts he
  obtain ⟨bf', e2, -⟩ := M.next Gv
  obtain ⟨m1, m2⟩ := M.fl
  have he2 : mvErr d (chgV aw f.toNat t.toNat x g) t f g = 0 := mvErr_ok t0 (by rw [e2]; simp) ⟨t3, t4, t1, t2, fun h => t5 h.symm, Gv.lo, by
    rw [chgV_at m1 m2 M.ne, if_pos rfl]
    have := clA_ok M.rdy.okc t.toNat
    omega⟩
  have B5 := B5.ext x4
  refine ldA [.string d.name, iv d.hours, iv d.cap, iv d.start, .slice A1 n1 c1, .slice A2 n2 c2, .slice A3 n3 c3, .slice A4 n4 c4, .slice A5 n5 c5, .slice A6 n6 c6] (.blk B5) rfl ?_
  refine call_of (c_hMove (D := fun _ => True) ((hd0.ext x04).more fun _ _ _ => trivial) (sl.more (by decide) fun _ _ _ => trivial)) ?_
  rintro _ w5 ⟨x5, b, A3', n3', c3', rfl, -, hok2⟩
  obtain ⟨rfl, bf2, M2, G2, -⟩ := hok2 he2
  have hle := back_le M Gv M2 G2 hz
  refine cE (fun _ => ?_) (fun h => absurd he2 h)
  refine cD (fun _ => ?_) (fun h => absurd hle h)
  exact ret1 (.bool true) rfl ⟨rfl, x04.trans x5⟩
end
end Go.Proofs.Ytcpogcdadlcdaaa

/- Closing: what districts, awards and deals that are handed in read as. -/
namespace Go.Proofs.Ytcpogcdadlcdaaa
open Go Go.RowKit Go.ChangeShapes Go.WideShapes Go.ChangeAt

theorem rd_is : Rd Try.prog 39 (tSl tInt) := inferInstance
theorem rd_deal : Rd Try.prog 55 tDeal := by
  refine Rd.of (fun y : Int × Int × Int × Int × Int => (⟨y.1, y.2.1, y.2.2.1, y.2.2.2.1, y.2.2.2.2⟩ : DealR))
    (Rd.struct Try.underlying55 (by kernel_rfl) fun n => .cons (rdAt Try.prog 3 tInt n) rfl (.cons (rdAt Try.prog 3 tInt n) rfl (.cons (rdAt Try.prog 3 tInt n) rfl (.one (rd_range.h n) rfl)))) ?_
  rintro W cs ⟨a, b, c, d, e⟩ ⟨_, _, rfl, ⟨rfl, -⟩, _, _, rfl, ⟨rfl, -⟩, _, _, rfl, ⟨rfl, -⟩, _, _, rfl, ⟨rfl, -⟩, ⟨rfl, -⟩⟩
  rfl
instance : Rd Try.prog 55 tDeal := rd_deal
theorem rd_deals : Rd Try.prog 51 (tSl tDeal) := inferInstance
end Go.Proofs.Ytcpogcdadlcdaaa
