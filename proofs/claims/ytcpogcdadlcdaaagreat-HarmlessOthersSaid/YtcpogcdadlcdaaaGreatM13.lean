/- Parts of the proof: Jt Jw Jx Za. -/
import Derived.Test.YtcpogcdadlcdaaaGreatM12
import Derived.Test.YtcpogcdadlcdaaaGreatM10
import Derived.Test.YtcpogcdadlcdaaaGreatM7
import Derived.Test.YtcpogcdadlcdaaaGreatM11
import Derived.Test.YtcpogcdadlcdaaaGreatRows
import Derived.Stop.LaidErr

/- Layer 46: the reference's heads, Harmless, with, move, farms, Move; HarmlessSpec. -/
namespace Go.Proofs.YtcpogcdadlcdaaaGreat
open Go Go.RowKit

section
variable {D : Nat → Prop} {w : World}
theorem c_h46heads {csd : List Value} {d : Dist} {cl : List Int} {A : Option Addr} {n c : Nat} (hd : DiR D w csd d) (hl : SlR tInt D w A n cl) : CallZ Tryz.prog 24 #[.agg csd.toArray, .slice A n c] w (fun v w' => Ext w w' ∧ ((headsV d cl = none ∧ ∃ B nb cb, v = .tuple #[.slice B nb cb, .bool false]) ∨
    ∃ hs bh cb, headsV d cl = some hs ∧ v = .tuple #[.slice (some (ad bh 0)) d.reaches.length cb, .bool true] ∧ w.heap.size ≤ bh ∧ Blk w' bh 3 (ivs hs))) := by
  have hd0 := hd
  obtain ⟨A1, n1, c1, A2, n2, c2, A3, n3, c3, A4, n4, c4, A5, n5, c5, A6, n6, c6, rfl, hr, hf, -⟩ := hd.ex
  refine fn_rule (args := [.agg #[.string d.name, iv d.hours, iv d.cap, iv d.start, .slice A1 n1 c1, .slice A2 n2 c2, .slice A3 n3 c3, .slice A4 n4 c4, .slice A5 n5 c5, .slice A6 n6 c6], .slice A n c]) Tryz.func24 (by kernel_rfl) ?_
  refine box (fun b2 w1 h1 => ?_)
  have B2 : Blk w1 b2 31 [.string d.name, iv d.hours, iv d.cap, iv d.start, .slice A1 n1 c1, .slice A2 n2 c2, .slice A3 n3 c3, .slice A4 n4 c4, .slice A5 n5 c5, .slice A6 n6 c6] := h1.blk
  refine ldA [.string d.name, iv d.hours, iv d.cap, iv d.start, .slice A1 n1 c1, .slice A2 n2 c2, .slice A3 n3 c3, .slice A4 n4 c4, .slice A5 n5 c5, .slice A6 n6 c6] (.blk B2) rfl ?_
  refine call_of (c_rNd (hd0.ext h1.ext) (hl.ext h1.ext)) ?_
  rintro _ w2 ⟨B, nb, cb, ok, rfl, x2, q1, q2, q3⟩
  have xx := h1.ext.trans x2
  have s1 := h1.ext.size
  cases ok with
  | false =>
    refine ret2 (.slice B nb cb) (.bool false) rfl rfl ⟨xx, .inl ⟨?_, B, nb, cb, rfl⟩⟩
    unfold headsV
    by_cases g : divErr d cl = 0
    · rw [if_pos g]
      rcases q2 g with ⟨-, h⟩ | ⟨h, -⟩
      · exact h
      · cases h
    · rw [if_neg g]
  | true =>
    by_cases g : divErr d cl = 0
    · rcases q2 g with ⟨h, -⟩ | ⟨-, hs, bh, h, rfl, rfl, hb, Bh⟩
      · cases h
      refine cE (fun _ => ?_) (fun h => absurd g h)
      exact ret2 (.slice (some (ad bh 0)) d.reaches.length cb) (.bool true) rfl rfl ⟨xx, .inr ⟨hs, bh, cb, by unfold headsV; rw [if_pos g]; exact h, rfl, by omega, Bh⟩⟩
    · cases q3 g
theorem c_h46with {A : Option Addr} {n c f t : Nat} {aw : List Int} {x g : Int} (ha : SlR tInt D w A n aw) (hn : n ≤ 1000) (o : OkL aw) (hf : f < n) (ht : t < n) (hne : f ≠ t) (hx : 0 ≤ x ∧ x ≤ clA aw f) (hg : 0 ≤ g ∧ g ≤ 1073741824 - clA aw t) :
    CallZ Tryz.prog 47 #[.slice A n c, iv (f : Int), iv x, iv (t : Int), iv g] w (fun v w' => Ext w w' ∧ ∃ A' c', v = .slice A' n c' ∧ SlR tInt (fun b => w.heap.size ≤ b) w' A' n (chgV aw f t x g)) := by
  have hl := ha.len
  have of_ := clA_ok o f
  have ot := clA_ok o t
  refine fn_rule (args := [.slice A n c, iv (f : Int), iv x, iv (t : Int), iv g]) Tryz.func47 (by kernel_rfl) ?_
  refine lit [] (fun g0 w0 h0 => ?_)
  have ha1 := ha.ext h0.ext
  have o1 : OwnF w w0 (some (ad g0 0)) 0 0 3 1 [] := OwnF.lit (cs := []) (.refl _ _) h0 rfl
  have hsrc : Src w0 A n 1 (aw.map fun v => Value.int .i64 v) := by
    refine ⟨by rw [List.length_map]; omega, fun hn0 => ?_⟩
    obtain ⟨b, o, cs, x, rfl, _⟩ := ha1.at_ hn0
    obtain ⟨cs2, hf, hc⟩ := ha1.cells
    refine ⟨b, o, rfl, ?_⟩
    rw [← flatJ_eq hf]; exact hc
  refine appF o1 hsrc (by omega) (fun A' c' w1 o3 _ _ => ?_) (h1 := by rw [List.all_map]; exact List.all_eq_true.2 fun _ _ => rfl)
  rw [List.nil_append] at o3
  have x1 := o3.ext
  obtain ⟨q, rest, rfl, B, hq⟩ : ∃ q rest, A' = some (ad q 0) ∧ Blk w1 q 3 (ivs aw ++ rest) ∧ w.heap.size ≤ q := by
    rcases o3.form with ⟨_, e1, -⟩ | ⟨q, e0, hg1, hg2, -⟩
    · omega
    · subst e0
      obtain ⟨rest, hb, -, -⟩ := o3.own.blk
      exact ⟨q, rest, rfl, hb, hg1⟩
  rw [Nat.zero_add]
  have z1 := x1.size
  have at_ : ∀ {w : World} {l : List Int} {i : Nat}, Blk w q 3 (ivs l ++ rest) → i < l.length → w.cell? (ad q (0 + i * tInt.sz)) = some (iv (clA l i)) := fun {w l i} hb hi => by
    have e : (0 + i * tInt.sz) = i := by rw [Nat.zero_add]; exact Nat.mul_one i
    rw [e]
    refine hb.cell ?_
    rw [List.getElem?_append_left (by simpa [ivs] using hi)]
    unfold ivs
    rw [List.getElem?_map, List.getElem?_eq_getElem hi, clA_at (List.getElem?_eq_getElem hi)]; rfl
  refine idx f rfl hf ?_
  refine ld (iv (clA aw f)) (at_ B (by omega)) ?_
  refine arI (by omega) ?_
  refine idx f rfl hf ?_
  refine st (v := iv (clA aw f - x)) B (by simp [ivs]; omega) rfl (fun w2 B2 k2 z2 => ?_)
  have B2 : Blk w2 q 3 (ivs (aw.set f (clA aw f - x)) ++ rest) := by rw [← ivs_pre (by omega)]; simpa using B2
  have e2 : clA (aw.set f (clA aw f - x)) t = clA aw t := by rw [clA_set (by omega), if_neg hne]
  refine idx t rfl ht ?_
  refine ld (iv (clA (aw.set f (clA aw f - x)) t)) (at_ B2 (by rw [List.length_set]; omega)) ?_
  refine arI (by rw [e2]; omega) ?_
  refine idx t rfl ht ?_
  refine st (v := iv (clA (aw.set f (clA aw f - x)) t + g)) B2 (by simp [ivs]; omega) rfl (fun w3 B3 k3 z3 => ?_)
  have B3 : Blk w3 q 3 (ivs (chgV aw f t x g) ++ rest) := by
    unfold chgV
    rw [← ivs_pre (by rw [List.length_set]; omega)]; simpa using B3
  have oc := chgV_ok o (by omega : f < aw.length) (by omega) hne hx hg
  refine ret1 (.slice (some (ad q 0)) n c') rfl ⟨(x1.then k2 fun b hb _ e => by omega).then k3 fun b hb _ e => by omega, _, _, rfl, blkPre B3 (by rw [chgV_len]; omega) (okL_i64 oc) (by omega) hq⟩
theorem c_h46Harmless {csd : List Value} {d : Dist} {bf aw : List Int} {A : Option Addr} {n c bb cbb : Nat} (V : Val d) (okb : OkL bf) (lbf : bf.length = d.reaches.length) (hd : DiR D w csd d) (hl : SlR tInt D w A n aw) (Bb : Blk w bb 3 (ivs bf)) :
    CallZ Tryz.prog 46 #[.agg csd.toArray, .slice (some (ad bb 0)) d.reaches.length cbb, .slice A n c] w (fun u w' => u = .bool (harmB d bf aw) ∧ Ext w w') := by
  have hd0 := hd
  obtain ⟨A1, n1, c1, A2, n2, c2, A3, n3, c3, A4, n4, c4, A5, n5, c5, A6, n6, c6, rfl, hr, hf, -⟩ := hd.ex
  have lr := hr.len
  have hvn := V.n
  refine fn_rule (args := [.agg #[.string d.name, iv d.hours, iv d.cap, iv d.start, .slice A1 n1 c1, .slice A2 n2 c2, .slice A3 n3 c3, .slice A4 n4 c4, .slice A5 n5 c5, .slice A6 n6 c6], .slice (some (ad bb 0)) d.reaches.length cbb, .slice A n c]) Tryz.func46 (by kernel_rfl) ?_
  refine box (fun b3 w1 h1 => ?_)
  have B3 : Blk w1 b3 31 [.string d.name, iv d.hours, iv d.cap, iv d.start, .slice A1 n1 c1, .slice A2 n2 c2, .slice A3 n3 c3, .slice A4 n4 c4, .slice A5 n5 c5, .slice A6 n6 c6] := h1.blk
  refine ldA [.string d.name, iv d.hours, iv d.cap, iv d.start, .slice A1 n1 c1, .slice A2 n2 c2, .slice A3 n3 c3, .slice A4 n4 c4, .slice A5 n5 c5, .slice A6 n6 c6] (.blk B3) rfl ?_
  refine call_of (c_h46heads (hd0.ext h1.ext) (hl.ext h1.ext)) ?_
  rintro _ w2 ⟨x2, ⟨hn, B, nb, cb, rfl⟩ | ⟨hs, bh, ch, hn, rfl, hb, Bh⟩⟩
  · refine drawQ mx (by kernel_rfl) ?_
    exact ret1 (.bool false) rfl ⟨by unfold harmB; rw [hn], h1.ext.trans x2⟩
  have x02 := h1.ext.trans x2
  obtain ⟨-, -, R'⟩ := headsV_some hn
  have lhs := R'.lh
  have Bb := Bb.ext x02
  have B3 := B3.ext x2
  have no : ¬ (clA hs 0 ≤ clA bf 0 ∧ ∀ r, r < d.reaches.length → clA hs r ≤ max (clA bf r) (rcC d r).cap) → Value.bool false = .bool (harmB d bf aw) := fun h => by
    congr 1
    cases hq : harmB d bf aw with
    | false => rfl
    | true =>
      obtain ⟨l, hl2, h1, h2⟩ := harmB_iff.1 hq
      rw [hn] at hl2; injection hl2 with hl2; subst hl2
      exact absurd ⟨h1, h2⟩ h
  refine drawQ mx (by kernel_rfl) ?_
  refine idx 0 rfl (by omega) ?_
  refine ld (iv (clA hs 0)) (blkI (i := 0) Bh R'.okh (n := d.reaches.length) (by omega) (by omega) (by omega) 0 _ rfl) ?_
  refine idx 0 rfl (by omega) ?_
  refine ld (iv (clA bf 0)) (blkI (i := 0) Bb okb (n := d.reaches.length) (by omega) (by omega) (by omega) 0 _ rfl) ?_
  refine cD (fun g0 => ?_) (fun g0 => ?_)
  · exact ret1 (.bool false) rfl ⟨no (fun h => by omega), x02⟩
  refine loop_rule (fun k : Nat => [(9, iv (k : Int))]) (fun k u => k ≤ d.reaches.length ∧ w2 = u ∧ ∀ r, r < k → clA hs r ≤ max (clA bf r) (rcC d r).cap) (fun k _ => d.reaches.length - k) 0 ⟨rfl, trivial⟩ ⟨by omega, rfl, fun r hr => by omega⟩ rfl ?_
  rintro G k u ⟨hk, rfl, hall⟩
  refine len ?_
  refine cD (fun hlt => ?_) (fun hge => ?_)
  · have hlt : k < d.reaches.length := by omega
    obtain ⟨br, o, cs, y, rfl, hy, -, -, hcy, rfl⟩ := (hr.ext x02).at_ (k := k) (by omega)
    have hrc := rcC_at hy
    refine drawQ mx (by kernel_rfl) ?_
    refine idx k rfl hlt ?_
    refine ld (iv (clA hs k)) (blkI Bh R'.okh (n := d.reaches.length) (by omega) (by omega) (by omega) 0 _ rfl) ?_
    refine idx k rfl hlt ?_
    refine ld (iv (clA bf k)) (blkI Bb okb (n := d.reaches.length) (by omega) (by omega) (by omega) 0 _ rfl) ?_
    refine cD (fun g1 => ?_) (fun g1 => ?_)
    · refine idx k rfl hlt ?_
      refine ld (iv (clA hs k)) (blkI Bh R'.okh (n := d.reaches.length) (by omega) (by omega) (by omega) 0 _ rfl) ?_
      refine fldA ?_
      refine ld (.slice (some (ad br o)) n1 c1) (B3.cell rfl) ?_
      refine idx k rfl (by omega) ?_
      refine fldA ?_
      refine ld (iv y.cap) (hcy 3 _ rfl) ?_
      refine cD (fun g2 => ?_) (fun g2 => ?_)
      · exact ret1 (.bool false) rfl ⟨no (fun h => by have := h.2 k hlt; rw [hrc] at this; omega), x02⟩
      refine arI (by omega) ?_
      refine next (k + 1) ⟨by rw [Int.natCast_add]; rfl, trivial⟩ ⟨by omega, rfl, fun r hr2 => ?_⟩ (by omega)
      by_cases e : r = k
      · subst e; rw [hrc]; omega
      · exact hall r (by omega)
    · refine arI (by omega) ?_
      refine next (k + 1) ⟨by rw [Int.natCast_add]; rfl, trivial⟩ ⟨by omega, rfl, fun r hr2 => ?_⟩ (by omega)
      by_cases e : r = k
      · subst e; omega
      · exact hall r (by omega)
  · have e : harmB d bf aw = true := harmB_iff.2 ⟨hs, hn, by omega, fun r hr2 => hall r (by omega)⟩
    exact ret1 (.bool true) rfl ⟨by rw [e], x02⟩
set_option maxRecDepth 4000 in
theorem c_h46move {csd : List Value} {d : Dist} {bf aw : List Int} {f t : Nat} {x : Int} {A : Option Addr} {n c : Nat} (M : MvOk d bf aw f t x) (hd : DiR D w csd d) (hl : SlR tInt D w A n aw) :
    CallZ Tryz.prog 26 #[.agg csd.toArray, .slice A n c, iv (f : Int), iv (t : Int), iv x] w (fun v w' => Ext w w' ∧ ∃ g A' c', GotV d bf aw f t x g ∧ v = .tuple #[iv g, .slice A' n c'] ∧ SlR tInt (fun b => w.heap.size ≤ b) w' A' n (chgV aw f t x g)) := by
  have hd0 := hd
  obtain ⟨A1, n1, c1, A2, n2, c2, A3, n3, c3, A4, n4, c4, A5, n5, c5, A6, n6, c6, rfl, hr, hf, -⟩ := hd.ex
  have ll := hl.len
  have R := M.rdy
  have lcl := R.lc
  have hvf := R.v.f
  obtain ⟨fl, tl⟩ := M.fl
  have hhi := M.hi
  have okt := clA_ok R.okc t
  refine fn_rule (args := [.agg #[.string d.name, iv d.hours, iv d.cap, iv d.start, .slice A1 n1 c1, .slice A2 n2 c2, .slice A3 n3 c3, .slice A4 n4 c4, .slice A5 n5 c5, .slice A6 n6 c6], .slice A n c, iv (f : Int), iv (t : Int), iv x]) Tryz.func26 (by kernel_rfl) ?_
  refine box (fun b5 w5 h5 => ?_)
  have x5 := h5.ext
  have B5 : Blk w5 b5 31 [.string d.name, iv d.hours, iv d.cap, iv d.start, .slice A1 n1 c1, .slice A2 n2 c2, .slice A3 n3 c3, .slice A4 n4 c4, .slice A5 n5 c5, .slice A6 n6 c6] := h5.blk
  refine ldA _ (.blk B5) rfl ?_
  refine call_of (c_h46heads (hd0.ext x5) (hl.ext x5)) ?_
  rintro _ w6 ⟨x6, ⟨hn, -⟩ | ⟨hs, bh, ch, hn, rfl, hb, Bh⟩⟩
  · rw [M.hd] at hn; cases hn
  rw [M.hd] at hn; injection hn with hn; subst hn
  have B5 := B5.ext x6
  have x06 := x5.trans x6
  have hl6 := hl.ext x06
  obtain ⟨ba, oa, csa, y, hA, hy, -, -, hcy, rfl, -⟩ := hl6.at_ (k := t) (by omega)
  have ey := clA_at hy
  rw [hA]
  refine idx t rfl (by omega) ?_
  refine ld (iv y) (hcy 0 _ rfl) ?_
  refine arI (by omega) ?_
  rw [← ey]
  refine loop2 (fun (a b : Int) => [(14, iv a), (15, iv b)]) (fun a b w' => (0 ≤ a ∧ a ≤ b ∧ b ≤ 1073741824 - clA aw t ∧ gotP d bf aw f t x a = true ∧ ∀ v, b < v → v ≤ 1073741824 - clA aw t → gotP d bf aw f t x v = false) ∧ Ext w6 w') (fun a b _ => (b - a).toNat) 0 (1073741824 - clA aw t) ⟨rfl, rfl, trivial⟩ ⟨⟨by omega, by omega, by omega, M.zero, fun v h1 h2 => by omega⟩, .refl _ _⟩ rfl ?_
  rintro G a b w' ⟨⟨h1, h2, h3, h4, h5⟩, xw⟩
  have x0w := x06.trans xw
  refine cD (fun hlt => ?_) (fun hge => ?_)
  · refine arI (by omega) ?_
    refine arI (by omega) ?_
    refine quoI (by omega) (by omega) (by omega) ?_
    obtain ⟨m, hmm⟩ : ∃ m, m = (a + b + 1) / 2 := ⟨_, rfl⟩
    rw [← hmm]
    refine drawP (.take 0 (.take 1 (.take 2 (.take 3 (.take 4 (.take 5 (.take 6 (.eff 7 (.eff 8 (.take 9 .done)))))))))) [] (fun z => Ext w' z) mx (by kernel_rfl) (.refl _ _) ?_
    refine ldAK _ (.blk (B5.ext xw)) rfl trivial (.refl _ _) ?_
    rw [← hA]
    refine call_of (c_h46with (g := m) (hl.ext x0w) (by omega) R.okc (by omega) (by omega) M.ne M.hx ⟨by omega, by omega⟩) ?_
    rintro _ v1 ⟨xv1, A', c', rfl, s1⟩
    refine strS xv1 ?_
    refine call_of (c_h46Harmless (D := fun _ => True) R.v R.okh R.lh (((hd0.ext x0w).ext xv1).more fun _ _ _ => trivial) (s1.more (by decide) fun _ _ _ => trivial) ((Bh.ext xw).ext xv1)) ?_
    rintro _ v2 ⟨rfl, xv2⟩
    have xv := xv1.trans xv2
    refine strS xv ?_
    cases hp : harmB d bf (chgV aw f t x m) with
    | true =>
      exact next2 m b ⟨rfl, rfl, trivial⟩ ⟨⟨by omega, by omega, by omega, hp, h5⟩, xw.trans xv⟩ (by omega)
    | false =>
      refine arI (by omega) ?_
      refine next2 a (m - 1) ⟨rfl, rfl, trivial⟩ ⟨⟨by omega, by omega, by omega, h4, fun v hv1 hv2 => ?_⟩, xw.trans xv⟩ (by omega)
      cases hv : gotP d bf aw f t x v with
      | false => rfl
      | true =>
        have := M.mono (n := m) (by omega) (by omega) hv2 hv
        rw [show gotP d bf aw f t x m = harmB d bf (chgV aw f t x m) from rfl, hp] at this; cases this
  · have : a = b := by omega
    subst this
    rw [← hA]
    refine call_of (c_h46with (g := a) (hl.ext x0w) (by omega) R.okc (by omega) (by omega) M.ne M.hx ⟨by omega, by omega⟩) ?_
    rintro _ v1 ⟨xv1, A', c', rfl, s1⟩
    exact ret2 (iv a) (.slice A' n c') rfl rfl ⟨x0w.trans xv1, a, A', c', ⟨h1, h3, h4, h5⟩, rfl, s1.more (by decide) fun b _ h => by have := x0w.size; omega⟩
theorem c_h46farms {a b m : Int} : CallZ Tryz.prog 25 #[iv a, iv b, iv m] w (fun v w' => v = .bool (decide (0 ≤ a ∧ a < m ∧ 0 ≤ b ∧ b < m ∧ a ≠ b)) ∧ w' = w) := by
  refine fn_rule (args := [iv a, iv b, iv m]) Tryz.func25 (by kernel_rfl) ?_
  refine cD (fun g1 => ?_) (fun g1 => ?_)
  · refine cD (fun g2 => ?_) (fun g2 => ?_)
    · refine cD (fun g3 => ?_) (fun g3 => ?_)
      · refine cD (fun g4 => ?_) (fun g4 => ?_)
        · refine cN (fun g5 => ?_) (fun g5 => ?_)
          · exact ret1 (.bool true) rfl ⟨by rw [decide_eq_true ⟨g1, g2, g3, g4, g5⟩], rfl⟩
          · exact ret1 (.bool false) rfl ⟨by rw [decide_eq_false fun h => h.2.2.2.2 g5], rfl⟩
        · exact ret1 (.bool false) rfl ⟨by rw [decide_eq_false fun h => g4 h.2.2.2.1], rfl⟩
      · exact ret1 (.bool false) rfl ⟨by rw [decide_eq_false fun h => g3 h.2.2.1], rfl⟩
    · exact ret1 (.bool false) rfl ⟨by rw [decide_eq_false fun h => g2 h.2.1], rfl⟩
  · exact ret1 (.bool false) rfl ⟨by rw [decide_eq_false fun h => g1 h.1], rfl⟩
end
end Go.Proofs.YtcpogcdadlcdaaaGreat

/- Layer 46: kept; HarmlessMost. -/
namespace Go.Proofs.YtcpogcdadlcdaaaGreat
open Go Go.RowKit

theorem more_ge {d : Dist} {bf bf2 aw : List Int} {f t : Nat} {x y g g2 : Int} (M : MvOk d bf aw f t x) (G : GotV d bf aw f t x g) (M2 : MvOk d bf2 aw f t y) (G2 : GotV d bf2 aw f t y g2) (h : x ≤ y) : g2 ≥ g := by
  have hb := M.hd.symm.trans M2.hd
  injection hb with hb
  subst hb
  by_cases q : g ≤ g2
  · exact q
  exfalso
  have hn := G2.no g (by omega) G.le
  obtain ⟨m1, m2⟩ := M.fl
  have hx := M2.hx
  have hle : LeL (chgV aw f t y g) (chgV aw f t x g) := ⟨by rw [chgV_len, chgV_len], fun i _ => by
    rw [chgV_at m1 m2 M.ne, chgV_at m1 m2 M.ne]
    split
    · exact Int.le_refl _
    · split
      · omega
      · exact Int.le_refl _⟩
  have := harmB_mono hle (chgV_ok M.rdy.okc m1 m2 M.ne hx ⟨G.lo, G.le⟩) G.yes
  rw [show harmB d bf (chgV aw f t y g) = gotP d bf aw f t y g from rfl, hn] at this
  cases this
section
variable {D : Nat → Prop} {w : World}
set_option maxRecDepth 8000 in
theorem c_hkept {csd : List Value} {d : Dist} {bf aw nx : List Int} {A B : Option Addr} {n c m cm : Nat} (h0 : headsV d aw = some bf) (hd : DiR D w csd d) (hl : SlR tInt D w A n aw) (hx : SlR tInt D w B m nx) :
    CallZ Tryz.prog 14 #[.agg csd.toArray, .slice A n c, .slice B m cm] w (fun v w' => v = .bool (harmB d bf nx) ∧ Ext w w') := by
  have hd0 := hd
  obtain ⟨A1, n1, c1, A2, n2, c2, A3, n3, c3, A4, n4, c4, A5, n5, c5, A6, n6, c6, rfl, hr, hf, -⟩ := hd.ex
  have lr := hr.len
  obtain ⟨g0, g1, R⟩ := headsV_some h0
  have hvn := R.v.n
  refine fn_rule (args := [.agg #[.string d.name, iv d.hours, iv d.cap, iv d.start, .slice A1 n1 c1, .slice A2 n2 c2, .slice A3 n3 c3, .slice A4 n4 c4, .slice A5 n5 c5, .slice A6 n6 c6], .slice A n c, .slice B m cm]) Tryz.func14 (by kernel_rfl) ?_
  refine box (fun b3 w1 h1 => ?_)
  have B3 : Blk w1 b3 31 [.string d.name, iv d.hours, iv d.cap, iv d.start, .slice A1 n1 c1, .slice A2 n2 c2, .slice A3 n3 c3, .slice A4 n4 c4, .slice A5 n5 c5, .slice A6 n6 c6] := h1.blk
  refine ldA [.string d.name, iv d.hours, iv d.cap, iv d.start, .slice A1 n1 c1, .slice A2 n2 c2, .slice A3 n3 c3, .slice A4 n4 c4, .slice A5 n5 c5, .slice A6 n6 c6] (.blk B3) rfl ?_
  refine call_of (c_dNeeds (hd0.ext h1.ext) (hl.ext h1.ext)) ?_
  rintro _ w2 ⟨x2, ⟨q, -⟩ | ⟨-, q, -⟩ | ⟨-, bf', bh, q, rfl, hbh, Bf⟩⟩
  · exact absurd g0 q
  · rw [g1] at q; cases q
  rw [g1] at q; injection q with q; subst q
  have B3 := B3.ext x2
  have x02 := h1.ext.trans x2
  refine ldA [.string d.name, iv d.hours, iv d.cap, iv d.start, .slice A1 n1 c1, .slice A2 n2 c2, .slice A3 n3 c3, .slice A4 n4 c4, .slice A5 n5 c5, .slice A6 n6 c6] (.blk B3) rfl ?_
  refine call_of (c_dNeeds (hd0.ext x02) (hx.ext x02)) ?_
  rintro _ w3 ⟨x3, ⟨q, rfl⟩ | ⟨q, q2, rfl⟩ | ⟨q, hs, bl, q2, rfl, hbl, Bl⟩⟩
  · have x03 := x02.trans x3
    refine drawQ mx (by kernel_rfl) ?_
    refine cN (fun h => absurd rfl h) (fun _ => ?_)
    refine cN (fun _ => ?_) (fun h => absurd h q)
    exact ret1 (.bool false) rfl ⟨by unfold harmB headsV; rw [if_neg q], x03⟩
  · have x03 := x02.trans x3
    refine drawQ mx (by kernel_rfl) ?_
    refine cN (fun h => absurd rfl h) (fun _ => ?_)
    refine cN (fun h => absurd rfl h) (fun _ => ?_)
    exact ret1 (.bool false) rfl ⟨by unfold harmB headsV; rw [if_pos q, q2], x03⟩
  have x03 := x02.trans x3
  have hn : headsV d nx = some hs := by unfold headsV; rw [if_pos q]; exact q2
  obtain ⟨-, -, R'⟩ := headsV_some hn
  have lhs := R'.lh
  have lbf := R.lh
  have B3 := B3.ext x3
  have Bf := Bf.ext x3
  have no : ¬ (clA hs 0 ≤ clA bf 0 ∧ ∀ r, r < d.reaches.length → clA hs r ≤ max (clA bf r) (rcC d r).cap) → Value.bool false = .bool (harmB d bf nx) := fun h => by
    congr 1
    cases hq : harmB d bf nx with
    | false => rfl
    | true =>
      obtain ⟨l, hl2, h1, h2⟩ := harmB_iff.1 hq
      rw [hn] at hl2; injection hl2 with hl2; subst hl2
      exact absurd ⟨h1, h2⟩ h
  refine drawQ mx (by kernel_rfl) ?_
  refine cN (fun h => absurd rfl h) (fun _ => ?_)
  refine cN (fun h => absurd rfl h) (fun _ => ?_)
  refine len ?_
  refine fldA ?_
  refine ld (.slice A1 n1 c1) (B3.cell rfl) ?_
  refine len ?_
  refine cN (fun h => absurd (by omega) h) (fun _ => ?_)
  refine len ?_
  refine len ?_
  refine cN (fun h => absurd rfl h) (fun _ => ?_)
  refine len ?_
  refine cE (fun h => absurd h (by omega)) (fun _ => ?_)
  refine idx 0 rfl (by omega) ?_
  refine ld (iv (clA hs 0)) (blkI (i := 0) Bl R'.okh (n := d.reaches.length) (by omega) (by omega) (by omega) 0 _ rfl) ?_
  refine idx 0 rfl (by omega) ?_
  refine ld (iv (clA bf 0)) (blkI (i := 0) Bf R.okh (n := d.reaches.length) (by omega) (by omega) (by omega) 0 _ rfl) ?_
  refine cD (fun p0 => ?_) (fun p0 => ?_)
  · exact ret1 (.bool false) rfl ⟨no (fun h => by omega), x03⟩
  refine len ?_
  refine loop_rule (fun k : Nat => [(76, iv (k : Int))]) (fun k u => k ≤ d.reaches.length ∧ w3 = u ∧ ∀ r, r < k → clA hs r ≤ max (clA bf r) (rcC d r).cap) (fun k _ => d.reaches.length - k) 0 ⟨rfl, trivial⟩ ⟨by omega, rfl, fun r hr => by omega⟩ rfl ?_
  rintro G k u ⟨hk, rfl, hall⟩
  refine cD (fun hlt => ?_) (fun hge => ?_)
  · have hlt : k < d.reaches.length := by omega
    obtain ⟨br, o, cs, y, rfl, hy, -, -, hcy, rfl⟩ := (hr.ext x03).at_ (k := k) (by omega)
    have hrc := rcC_at hy
    refine idx k rfl hlt ?_
    refine ld (iv (clA hs k)) (blkI Bl R'.okh (n := d.reaches.length) (by omega) (by omega) (by omega) 0 _ rfl) ?_
    refine idx k rfl hlt ?_
    refine ld (iv (clA bf k)) (blkI Bf R.okh (n := d.reaches.length) (by omega) (by omega) (by omega) 0 _ rfl) ?_
    refine cD (fun g1 => ?_) (fun g1 => ?_)
    · refine fldA ?_
      refine ld (.slice (some (ad br o)) n1 c1) (B3.cell rfl) ?_
      refine idx k rfl (by omega) ?_
      refine fldA ?_
      refine ld (iv y.cap) (hcy 3 _ rfl) ?_
      refine cD (fun g2 => ?_) (fun g2 => ?_)
      · exact ret1 (.bool false) rfl ⟨no (fun h => by have := h.2 k hlt; rw [hrc] at this; omega), x03⟩
      refine arI (by omega) ?_
      refine next (k + 1) ⟨by rw [Int.natCast_add]; rfl, trivial⟩ ⟨by omega, rfl, fun r hr2 => ?_⟩ (by omega)
      by_cases e : r = k
      · subst e; rw [hrc]; omega
      · exact hall r (by omega)
    · refine arI (by omega) ?_
      refine next (k + 1) ⟨by rw [Int.natCast_add]; rfl, trivial⟩ ⟨by omega, rfl, fun r hr2 => ?_⟩ (by omega)
      by_cases e : r = k
      · subst e; omega
      · exact hall r (by omega)
  have eh : harmB d bf nx = true := harmB_iff.2 ⟨hs, hn, by omega, fun r hr2 => hall r (by omega)⟩
  have E0 := clA_ok R.okh 0
  have hdv : dvErr d nx (clA bf 0) = 0 := dvErr_ok.2 ⟨openErr_ok.2 ⟨q, hs, q2⟩, E0.1, by omega⟩
  have hx3 := hx.ext x03
  refine drawP (.take 0 (.take 1 (.take 2 (.take 3 (.take 4 (.alt 5 (.take 6 (.take 7 (.take 8 (.eff 9 (.eff 10 (.take 11 .done)))))) (.eff 9 (.eff 5 (.take 6 (.take 7 (.take 8 (.eff 10 (.take 11 .done))))))))))))) [] (fun z => Ext w3 z) mx (by kernel_rfl) (.refl _ _) ?_
  refine ldAK [.string d.name, iv d.hours, iv d.cap, iv d.start, .slice A1 n1 c1, .slice A2 n2 c2, .slice A3 n3 c3, .slice A4 n4 c4, .slice A5 n5 c5, .slice A6 n6 c6] (.blk B3) rfl trivial (.refl _ _) ?_
  refine idx 0 rfl (by omega) ?_
  refine ldK (iv (clA bf 0)) (blkI (i := 0) Bf R.okh (n := d.reaches.length) (by omega) (by omega) (by omega) 0 _ rfl) trivial (.refl _ _) ?_
  refine ⟨?ya, ?yb⟩
  case' ya =>
    refine call_of (c_dDiv (E := clA bf 0) (hd0.ext x03) hx3) ?_
    rintro _ w4 ⟨H, nh, ch, G', ng, cg, M, nm, cm', rfl, x4, hc⟩
    obtain ⟨rfl, rfl, rfl, hs2, hd', aw', mk, bh', ba, bm, e1, e2, e3, e4, e5, rfl, rfl, rfl, e6, e7, -⟩ := hc.ok hdv
    refine strS x4 ?_
    refine alloc (fun b15 w5 h5 => ?_)
    have x45 := h5.ext
    refine strS (x4.trans x45) ?_
    refine stA (vs := [.slice (some (ad bh' 0)) d.reaches.length ch, .slice (some (ad ba 0)) d.farms.length cg, .slice (some (ad bm 0)) d.reaches.length cm']) h5.blk rfl (Nat.le_of_ble_eq_true rfl) (by simp [Value.oneCell']) (fun w6 C15 k6 z6 => ?_)
    have y15 := h5.at_
    have z4 := x4.size
    have x46 : Ext w4 w6 := x45.then k6 fun b hb _ e => by omega
    have x36 : Ext w3 w6 := x4.trans x46
    have Ba := e7.ext x46
    refine strS x36 ?_
  case' yb =>
    refine alloc (fun b15 w4 h4 => ?_)
    have x34 := h4.ext
    refine strS x34 ?_
    refine call_of (c_dDiv (E := clA bf 0) ((hd0.ext x03).ext x34) (hx3.ext x34)) ?_
    rintro _ w5 ⟨H, nh, ch, G', ng, cg, M, nm, cm', rfl, x4, hc⟩
    obtain ⟨rfl, rfl, rfl, hs2, hd', aw', mk, bh', ba, bm, e1, e2, e3, e4, e5, rfl, rfl, rfl, e6, e7, -, -, e8, -⟩ := hc.ok hdv
    refine strS (x34.trans x4) ?_
    refine stA (vs := [.slice (some (ad bh' 0)) d.reaches.length ch, .slice (some (ad ba 0)) d.farms.length cg, .slice (some (ad bm 0)) d.reaches.length cm']) (h4.blk.ext x4) rfl (Nat.le_of_ble_eq_true rfl) (by simp [Value.oneCell']) (fun w6 C15 k6 z6 => ?_)
    have y15 := h4.at_
    have s15 := h4.blk.lt
    have x36 : Ext w3 w6 := (x34.trans x4).then k6 fun b hb _ e => by omega
    have Ba := e7.kept k6 (show ba ≠ b15 by omega)
    refine strS x36 ?_
  all_goals
    have C15 : Blk w6 b15 79 [.slice (some (ad bh' 0)) d.reaches.length ch, .slice (some (ad ba 0)) d.farms.length cg, .slice (some (ad bm 0)) d.reaches.length cm'] := C15
    rw [q2] at e1
    injection e1 with e1
    subst e1
    have hmet := e3.met R' E0.1
    have lnx := R'.lc
    have ea : aw' = nx := by
      have l1 := e3.la
      refine List.ext_getElem? fun i => ?_
      by_cases hi : i < d.farms.length
      · have := (hmet i hi).2.2 (by omega)
        unfold clA at this
        rw [List.getD_eq_getElem?_getD, List.getD_eq_getElem?_getD, List.getElem?_eq_getElem (by omega), List.getElem?_eq_getElem (by omega)] at this
        rw [List.getElem?_eq_getElem (by omega), List.getElem?_eq_getElem (by omega)]
        exact congrArg some this
      · rw [List.getElem?_eq_none (by omega), List.getElem?_eq_none (by omega)]
    subst ea
    refine cE (fun _ => ?_) (fun h => absurd hdv h)
    refine fldA ?_
    refine ld (.slice (some (ad ba 0)) d.farms.length cg) (C15.cell rfl) ?_
    refine callB (c_h46Same (D := fun _ => True) (blk_ints Ba (by omega) e5 (by have := R.v.f; omega) trivial) ((hx3.ext x36).more (by decide) fun _ _ _ => trivial)) (fun _ => ?_) (fun h => absurd (of_decide_eq_false h) (fun h => h rfl))
    exact ret1 (.bool true) rfl ⟨by rw [eh], x03.trans x36⟩
set_option maxRecDepth 8000 in
set_option maxHeartbeats 2000000 in
theorem c_HarmlessMost {csd : List Value} {d : Dist} {aw : List Int} {f t x more : Int} {A : Option Addr} {n c : Nat} (hd : DiR D w csd d) (hl : SlR tInt D w A n aw) : CallZ Tryz.prog 6 #[.agg csd.toArray, .slice A n c, iv f, iv t, iv x, iv more] w (fun v w' => v = .bool true ∧ Ext w w') := by
  have hd := hd.more (D' := fun _ => True) fun _ _ _ => trivial
  have hl := hl.more (D' := fun _ => True) (by decide) fun _ _ _ => trivial
  have hd0 := hd
  obtain ⟨A1, n1, c1, A2, n2, c2, A3, n3, c3, A4, n4, c4, A5, n5, c5, A6, n6, c6, rfl, hr, hf, -⟩ := hd.ex
  have ll := hl.len
  refine fn_rule (args := [.agg #[.string d.name, iv d.hours, iv d.cap, iv d.start, .slice A1 n1 c1, .slice A2 n2 c2, .slice A3 n3 c3, .slice A4 n4 c4, .slice A5 n5 c5, .slice A6 n6 c6], .slice A n c, iv f, iv t, iv x, iv more]) Tryz.func6 (by kernel_rfl) ?_
  refine box (fun b6 w1 h1 => ?_)
  have B6 : Blk w1 b6 31 [.string d.name, iv d.hours, iv d.cap, iv d.start, .slice A1 n1 c1, .slice A2 n2 c2, .slice A3 n3 c3, .slice A4 n4 c4, .slice A5 n5 c5, .slice A6 n6 c6] := h1.blk
  refine call_of (c_hsane) ?_
  rintro _ w2 ⟨rfl, x2⟩
  have B6 := B6.ext x2
  have x02 := h1.ext.trans x2
  refine ldA [.string d.name, iv d.hours, iv d.cap, iv d.start, .slice A1 n1 c1, .slice A2 n2 c2, .slice A3 n3 c3, .slice A4 n4 c4, .slice A5 n5 c5, .slice A6 n6 c6] (.blk B6) rfl ?_
  refine call_of (c_hFew (hd0.ext x02)) ?_
  rintro _ w3 ⟨⟨q, rfl⟩, x3⟩
  have B6 := B6.ext x3
  have x03 := x02.trans x3
  cases q with
  | false => exact ret1 (.bool true) rfl ⟨rfl, x03⟩
  | true =>
  refine ldA [.string d.name, iv d.hours, iv d.cap, iv d.start, .slice A1 n1 c1, .slice A2 n2 c2, .slice A3 n3 c3, .slice A4 n4 c4, .slice A5 n5 c5, .slice A6 n6 c6] (.blk B6) rfl ?_
  refine call_of (c_hMove (hd0.ext x03) (hl.ext x03)) ?_
  rintro _ w4 ⟨x4, g, A', n', c', rfl, hbad, hok⟩
  have x04 := x03.trans x4
  have B6 := B6.ext x4
  refine cN (fun he => ?_) (fun he => ?_)
  · obtain ⟨rfl, rfl, rfl⟩ := hbad he
    refine cE (fun _ => ?_) (fun h => absurd rfl h)
    refine len ?_
    refine cE (fun _ => ?_) (fun h => absurd rfl h)
    exact ret1 (.bool true) rfl ⟨rfl, x04⟩
  have he : mvErr d aw f t x = 0 := he
  obtain ⟨rfl, bf, M, Gv, s⟩ := hok he
  obtain ⟨t0, t1, t2, t3, t4, t5, t6, t7⟩ := mvErr_parts he
  obtain ⟨fN, rfl⟩ : ∃ i : Nat, f = i := ⟨f.toNat, by omega⟩
  obtain ⟨tN, rfl⟩ : ∃ i : Nat, t = i := ⟨t.toNat, by omega⟩
  change MvOk d bf aw fN tN x at M
  change GotV d bf aw fN tN x g at Gv
  change SlR tInt _ w4 A' n' (chgV aw fN tN x g) at s
  have R := M.rdy
  have lcl := R.lc
  have hvf := R.v.f
  have gl := Gv.lo
  have gh := Gv.le
  have of_ := clA_ok R.okc fN
  have ot := clA_ok R.okc tN
  have hxx := M.hx
  obtain ⟨fl, tl⟩ := M.fl
  refine len ?_
  refine len ?_
  refine cN (fun h => absurd rfl h) (fun _ => ?_)
  refine cD (fun h => absurd h (by omega)) (fun _ => ?_)
  refine cD (fun h => absurd h (by omega)) (fun _ => ?_)
  refine len ?_
  refine cD (fun h => absurd h (by omega)) (fun _ => ?_)
  refine len ?_
  refine cD (fun h => absurd h (by omega)) (fun _ => ?_)
  refine cE (fun h => absurd h t5) (fun _ => ?_)
  refine cD (fun h => absurd h (by omega)) (fun _ => ?_)
  refine cD (fun h => absurd h (by omega)) (fun _ => ?_)
  refine lit [] (fun g0 v0 h0 => ?_)
  have ha1 := (hl.ext x04).ext h0.ext
  have o1 : OwnF w4 v0 (some (ad g0 0)) 0 0 3 1 [] := OwnF.lit (cs := []) (.refl _ _) h0 rfl
  have hsrc : Src v0 A n' 1 (aw.map fun v => Value.int .i64 v) := by
    refine ⟨by rw [List.length_map]; omega, fun hn0 => ?_⟩
    obtain ⟨b, o, cs, x, rfl, _⟩ := ha1.at_ hn0
    obtain ⟨cs2, hf, hc⟩ := ha1.cells
    refine ⟨b, o, rfl, ?_⟩
    rw [← flatJ_eq hf]; exact hc
  refine appF o1 hsrc (by omega) (fun W cw v1 o3 _ _ => ?_) (h1 := by rw [List.all_map]; exact List.all_eq_true.2 fun _ _ => rfl)
  rw [List.nil_append] at o3
  have xv1 := o3.ext
  obtain ⟨q, rest, rfl, Bq, hq⟩ : ∃ q rest, W = some (ad q 0) ∧ Blk v1 q 3 (ivs aw ++ rest) ∧ w4.heap.size ≤ q := by
    rcases o3.form with ⟨_, e1, -⟩ | ⟨q, e0, hg1, hg2, -⟩
    · omega
    · subst e0
      obtain ⟨rest, hb, -, -⟩ := o3.own.blk
      exact ⟨q, rest, rfl, hb, hg1⟩
  rw [Nat.zero_add]
  have at_ : ∀ {w : World} {l : List Int} {i : Nat}, Blk w q 3 (ivs l ++ rest) → i < l.length → w.cell? (ad q (0 + i * tInt.sz)) = some (iv (clA l i)) := fun {w l i} hb hi => by
    have e : (0 + i * tInt.sz) = i := by rw [Nat.zero_add]; exact Nat.mul_one i
    rw [e]
    refine hb.cell ?_
    rw [List.getElem?_append_left (by simpa [ivs] using hi)]
    unfold ivs
    rw [List.getElem?_map, List.getElem?_eq_getElem hi, clA_at (List.getElem?_eq_getElem hi)]; rfl
  refine idx fN rfl (by omega) ?_
  refine ld (iv (clA aw fN)) (at_ Bq (by omega)) ?_
  refine arI (by omega) ?_
  refine idx fN rfl (by omega) ?_
  refine st (v := iv (clA aw fN - x)) Bq (by simp [ivs]; omega) rfl (fun v2 B2 k2 z2 => ?_)
  have B2 : Blk v2 q 3 (ivs (aw.set fN (clA aw fN - x)) ++ rest) := by rw [← ivs_pre (by omega)]; simpa using B2
  have e2 : clA (aw.set fN (clA aw fN - x)) tN = clA aw tN := by rw [clA_set (by omega), if_neg M.ne]
  refine idx tN rfl (by omega) ?_
  refine ld (iv (clA (aw.set fN (clA aw fN - x)) tN)) (at_ B2 (by rw [List.length_set]; omega)) ?_
  refine arI (by rw [e2]; omega) ?_
  refine idx tN rfl (by omega) ?_
  refine st (v := iv (clA (aw.set fN (clA aw fN - x)) tN + g)) B2 (by simp [ivs]; omega) rfl (fun v3 C3 k3 z3 => ?_)
  have C3 : Blk v3 q 3 (ivs (chgV aw fN tN x g) ++ rest) := by
    unfold chgV
    rw [← ivs_pre (by rw [List.length_set]; omega)]; simpa using C3
  have oc := chgV_ok R.okc fl tl M.ne M.hx ⟨gl, gh⟩
  have x43 : Ext w4 v3 := (xv1.then k2 fun b hb _ => by omega).then k3 fun b hb _ => by omega
  have s3 : SlR tInt (fun _ => True) v3 A' n' (chgV aw fN tN x g) := (s.ext x43).more (by decide) fun _ _ _ => trivial
  have sw3 : SlR tInt (fun _ => True) v3 (some (ad q 0)) n' (chgV aw fN tN x g) := blkPre C3 (by rw [chgV_len]; omega) (okL_i64 oc) (by omega) trivial
  refine callB (c_h46Same s3 sw3) (fun _ => ?_) (fun h => absurd (of_decide_eq_false h) (fun h => h rfl))
  have x03' := x04.trans x43
  refine ldA [.string d.name, iv d.hours, iv d.cap, iv d.start, .slice A1 n1 c1, .slice A2 n2 c2, .slice A3 n3 c3, .slice A4 n4 c4, .slice A5 n5 c5, .slice A6 n6 c6] (.blk (B6.ext x43)) rfl ?_
  refine callE (c_hkept M.hd (hd0.ext x03') (hl.ext x03') s3) (fun v4 _ xv4 => ?_) (fun v4 hh _ => ?_)
  rotate_left
  · rw [show harmB d bf (chgV aw fN tN x g) = gotP d bf aw fN tN x g from rfl, Gv.yes] at hh; cases hh
  have C4 := C3.ext xv4
  have et : clA (chgV aw fN tN x g) tN = clA aw tN + g := by rw [chgV_at fl tl M.ne, if_pos rfl]
  have lc := chgV_len (aw := aw) (f := fN) (t := tN) (x := x) (n := g)
  refine idx tN rfl (by omega) ?_
  refine ld (iv (clA (chgV aw fN tN x g) tN)) (at_ C4 (by omega)) ?_
  refine arI (by rw [et]; omega) ?_
  refine idx tN rfl (by omega) ?_
  refine st (v := iv (clA (chgV aw fN tN x g) tN + 1)) C4 (by simp [ivs]; omega) rfl (fun v5 C5 k5 z5 => ?_)
  have ew : (chgV aw fN tN x g).set tN (clA (chgV aw fN tN x g) tN + 1) = chgV aw fN tN x (g + 1) := by
    rw [et]
    unfold chgV
    rw [List.set_set, e2, Int.add_assoc]
  have C5 : Blk v5 q 3 (ivs (chgV aw fN tN x (g + 1)) ++ rest) := by rw [← ew, ← ivs_pre (by omega)]; simpa using C5
  have et1 : clA (chgV aw fN tN x (g + 1)) tN = clA aw tN + (g + 1) := by rw [chgV_at fl tl M.ne, if_pos rfl]
  have lc1 := chgV_len (aw := aw) (f := fN) (t := tN) (x := x) (n := g + 1)
  have x35 : Ext w4 v5 := (x43.trans xv4).then k5 fun b hb _ => by omega
  have x05 := x04.trans x35
  have B65 := B6.ext x35
  obtain ⟨ba, oa, csa, y, hA, hy, -, -, hcy, rfl, -⟩ := hl.at_ (k := fN) (by omega)
  have ey : y = clA aw fN := (clA_at hy).symm
  subst hA
  have rdA : ∀ (z : World), Ext w z → z.cell? (ad ba (oa + fN * tInt.sz)) = some (iv (clA aw fN)) := fun z hz => by rw [← ey]; exact (hcy.kept hz trivial) 0 _ rfl
  refine idx tN rfl (by omega) ?_
  refine ld (iv (clA (chgV aw fN tN x (g + 1)) tN)) (at_ C5 (by omega)) ?_
  refine cD (fun p => ?_) (fun p => ?_)
  · have hno := Gv.no (g + 1) (by omega) (by rw [et1] at p; omega)
    have oc1 := chgV_ok R.okc fl tl M.ne M.hx ⟨show 0 ≤ g + 1 by omega, by rw [et1] at p; omega⟩
    have sw5 : SlR tInt (fun _ => True) v5 (some (ad q 0)) n' (chgV aw fN tN x (g + 1)) := blkPre C5 (by omega) (okL_i64 oc1) (by omega) trivial
    refine ldA [.string d.name, iv d.hours, iv d.cap, iv d.start, .slice A1 n1 c1, .slice A2 n2 c2, .slice A3 n3 c3, .slice A4 n4 c4, .slice A5 n5 c5, .slice A6 n6 c6] (.blk B65) rfl ?_
    refine callE (c_hkept M.hd (hd0.ext x05) (hl.ext x05) sw5) (fun v6 hh _ => ?_) (fun v6 _ xv6 => ?_)
    · rw [show harmB d bf (chgV aw fN tN x (g + 1)) = gotP d bf aw fN tN x (g + 1) from rfl, hno] at hh; cases hh
    have xT : Ext w v6 := x05.trans xv6
    refine cD (fun r1 => ?_) (fun r1 => ?_)
    · exact ret1 (.bool true) rfl ⟨rfl, xT⟩
    refine idx fN rfl (by omega) ?_
    refine ld (iv (clA aw fN)) (rdA v6 xT) ?_
    refine cD (fun r2 => ?_) (fun r2 => ?_)
    · exact ret1 (.bool true) rfl ⟨rfl, xT⟩
    have he2 : mvErr d aw fN tN more = 0 := mvErr_ok t0 (by rw [M.hd]; simp) ⟨t1, t2, t3, t4, t5, by omega, by rw [Int.toNat_natCast]; omega⟩
    refine ldA [.string d.name, iv d.hours, iv d.cap, iv d.start, .slice A1 n1 c1, .slice A2 n2 c2, .slice A3 n3 c3, .slice A4 n4 c4, .slice A5 n5 c5, .slice A6 n6 c6] (.blk (B65.ext xv6)) rfl ?_
    refine call_of (c_hMove (hd0.ext xT) (hl.ext xT)) ?_
    rintro _ yT ⟨yx, g2, A2', n2', c2', rfl, -, hok2⟩
    obtain ⟨rfl, bf2, M2, G2, -⟩ := hok2 he2
    refine cE (fun _ => ?_) (fun h => absurd he2 h)
    refine cD (fun _ => ?_) (fun h => absurd (more_ge M Gv M2 G2 (by omega)) h)
    exact ret1 (.bool true) rfl ⟨rfl, xT.trans yx⟩
  · have xT : Ext w v5 := x05
    refine cD (fun r1 => ?_) (fun r1 => ?_)
    · exact ret1 (.bool true) rfl ⟨rfl, xT⟩
    refine idx fN rfl (by omega) ?_
    refine ld (iv (clA aw fN)) (rdA v5 xT) ?_
    refine cD (fun r2 => ?_) (fun r2 => ?_)
    · exact ret1 (.bool true) rfl ⟨rfl, xT⟩
    have he2 : mvErr d aw fN tN more = 0 := mvErr_ok t0 (by rw [M.hd]; simp) ⟨t1, t2, t3, t4, t5, by omega, by rw [Int.toNat_natCast]; omega⟩
    refine ldA [.string d.name, iv d.hours, iv d.cap, iv d.start, .slice A1 n1 c1, .slice A2 n2 c2, .slice A3 n3 c3, .slice A4 n4 c4, .slice A5 n5 c5, .slice A6 n6 c6] (.blk (B65)) rfl ?_
    refine call_of (c_hMove (hd0.ext xT) (hl.ext xT)) ?_
    rintro _ yT ⟨yx, g2, A2', n2', c2', rfl, -, hok2⟩
    obtain ⟨rfl, bf2, M2, G2, -⟩ := hok2 he2
    refine cE (fun _ => ?_) (fun h => absurd he2 h)
    refine cD (fun _ => ?_) (fun h => absurd (more_ge M Gv M2 G2 (by omega)) h)
    exact ret1 (.bool true) rfl ⟨rfl, xT.trans yx⟩
end
end Go.Proofs.YtcpogcdadlcdaaaGreat

/- Layer 46: HarmlessOthers. -/
namespace Go.Proofs.YtcpogcdadlcdaaaGreat
open Go Go.RowKit

theorem ExV.zero {d : Dist} {rain : Int} : ∀ {l : List DealR} {aw got out : List Int} {k : Nat} {x : DealR}, ExV d rain l aw got out → l[k]? = some x → ¬ inI rain x.lo x.hi = true → clA got k = 0
  | [], aw, got, out, k, x, h, hx, _ => by simp at hx
  | y :: l, aw, got, out, k, x, h, hx, hn => by
    unfold ExV at h
    by_cases q : inI rain y.lo y.hi = true
    · rw [if_pos q] at h
      obtain ⟨bf, g, got', M, G, rfl, h3⟩ := h
      cases k with
      | zero => simp at hx; subst hx; exact absurd q hn
      | succ k => exact h3.zero (by simpa using hx) hn
    · rw [if_neg q] at h
      obtain ⟨got', rfl, h3⟩ := h
      cases k with
      | zero => rfl
      | succ k => exact h3.zero (by simpa using hx) hn
theorem ExV.same {d : Dist} {rain : Int} {i : Nat} : ∀ {l : List DealR} {aw got out : List Int}, ExV d rain l aw got out → (∀ x ∈ l, dealB d x = true) → (∀ x ∈ l, inI rain x.lo x.hi = true → x.frm ≠ i ∧ x.to ≠ i) → clA out i = clA aw i
  | [], aw, got, out, h, _, _ => by obtain ⟨rfl, rfl⟩ := h; rfl
  | y :: l, aw, got, out, h, hb, hn => by
    unfold ExV at h
    have hb' := fun x hx => hb x (List.mem_cons_of_mem _ hx)
    have hn' := fun x hx => hn x (List.mem_cons_of_mem _ hx)
    by_cases q : inI rain y.lo y.hi = true
    · rw [if_pos q] at h
      obtain ⟨bf, g, got', M, G, rfl, h3⟩ := h
      have hy := hn y List.mem_cons_self q
      obtain ⟨t1, t2, -⟩ := dealB_iff.1 (hb y List.mem_cons_self)
      obtain ⟨m1, m2⟩ := M.fl
      rw [h3.same hb' hn', chgV_at m1 m2 M.ne, if_neg (by omega), if_neg (by omega)]
    · rw [if_neg q] at h
      obtain ⟨got', rfl, h3⟩ := h
      exact h3.same hb' hn'
section
variable {D : Nat → Prop} {w : World}
set_option maxRecDepth 8000 in
set_option maxHeartbeats 2000000 in
theorem c_HarmlessOthers {csd : List Value} {d : Dist} {aw : List Int} {ds : List DealR} {rain : Int} {A B : Option Addr} {n c m cm : Nat} (hd : DiR D w csd d) (hl : SlR tInt D w A n aw) (hs : SlR tDeal D w B m ds) : CallZ Tryz.prog 5 #[.agg csd.toArray, .slice A n c, .slice B m cm, iv rain] w (fun v w' => v = .bool true ∧ Ext w w') := by
  have hd := hd.more (D' := fun _ => True) fun _ _ _ => trivial
  have hl := hl.more (D' := fun _ => True) (by decide) fun _ _ _ => trivial
  have hs := hs.more (D' := fun b => b < w.heap.size) (by decide) fun b hb _ => hb
  have hd0 := hd
  obtain ⟨A1, n1, c1, A2, n2, c2, A3, n3, c3, A4, n4, c4, A5, n5, c5, A6, n6, c6, rfl, hr, hf, -⟩ := hd.ex
  have ls := hs.len
  have ll := hl.len
  refine fn_rule (args := [.agg #[.string d.name, iv d.hours, iv d.cap, iv d.start, .slice A1 n1 c1, .slice A2 n2 c2, .slice A3 n3 c3, .slice A4 n4 c4, .slice A5 n5 c5, .slice A6 n6 c6], .slice A n c, .slice B m cm, iv rain]) Tryz.func5 (by kernel_rfl) ?_
  refine box (fun b4 w1 h1 => ?_)
  have B4 : Blk w1 b4 31 [.string d.name, iv d.hours, iv d.cap, iv d.start, .slice A1 n1 c1, .slice A2 n2 c2, .slice A3 n3 c3, .slice A4 n4 c4, .slice A5 n5 c5, .slice A6 n6 c6] := h1.blk
  refine call_of (c_hsane) ?_
  rintro _ w2 ⟨rfl, x2⟩
  have B4 := B4.ext x2
  have x02 := h1.ext.trans x2
  refine ldA [.string d.name, iv d.hours, iv d.cap, iv d.start, .slice A1 n1 c1, .slice A2 n2 c2, .slice A3 n3 c3, .slice A4 n4 c4, .slice A5 n5 c5, .slice A6 n6 c6] (.blk B4) rfl ?_
  refine call_of (c_hFew (hd0.ext x02)) ?_
  rintro _ w3 ⟨⟨q, rfl⟩, x3⟩
  have B4 := B4.ext x3
  have x03 := x02.trans x3
  cases q with
  | false => exact ret1 (.bool true) rfl ⟨rfl, x03⟩
  | true =>
  refine ldA [.string d.name, iv d.hours, iv d.cap, iv d.start, .slice A1 n1 c1, .slice A2 n2 c2, .slice A3 n3 c3, .slice A4 n4 c4, .slice A5 n5 c5, .slice A6 n6 c6] (.blk B4) rfl ?_
  refine call_of (c_hExecute (D := fun _ => True) (hd0.ext x03) (hl.ext x03) ((hs.ext x03).more (by decide) fun _ _ _ => trivial)) ?_
  rintro _ w4 ⟨x4, GA, ng, cg, NA, nn, cn, rfl, hbad, hok⟩
  have x04 := x03.trans x4
  have B4 := B4.ext x4
  refine cN (fun he => ?_) (fun he => ?_)
  · obtain ⟨rfl, rfl, rfl, rfl⟩ := hbad he
    refine len ?_
    refine len ?_
    refine arI (by omega) ?_
    refine cE (fun _ => ?_) (fun h => absurd rfl h)
    exact ret1 (.bool true) rfl ⟨rfl, x04⟩
  have he : exErr d aw ds rain = 0 := he
  obtain ⟨rfl, rfl, hm64, hn6, got, out, bf, hbf, hex, okg, oko, hall, sg, so⟩ := hok he
  obtain ⟨lg, lo⟩ := hex.len
  obtain ⟨b2, hb2, hb3, hb4⟩ := hex.heads hbf
  have hharm : harmB d bf out = true := harmB_iff.2 ⟨b2, hb2, hb3, hb4⟩
  refine len ?_
  refine len ?_
  refine cN (fun h => absurd rfl h) (fun _ => ?_)
  refine len ?_
  refine len ?_
  refine cN (fun h => absurd rfl h) (fun _ => ?_)
  refine ldA [.string d.name, iv d.hours, iv d.cap, iv d.start, .slice A1 n1 c1, .slice A2 n2 c2, .slice A3 n3 c3, .slice A4 n4 c4, .slice A5 n5 c5, .slice A6 n6 c6] (.blk B4) rfl ?_
  refine callE (c_hkept hbf (hd0.ext x04) (hl.ext x04) so) (fun w5 _ x5 => ?_) (fun w5 hh _ => ?_)
  rotate_left
  · rw [hharm] at hh; cases hh
  have x05 := x04.trans x5
  refine mmap (fun gm w6 hgm hw6 => ?_)
  have x56 : Ext w5 w6 := by rw [hw6]; exact Kept.alloc _ _ _
  have M6 : MapG kvI w6 gm (fun _ => none) := by rw [hw6, hgm]; exact MapG.new kvI w5
  have gl := M6.lt
  have s0 := x05.size
  have x06 := x05.trans x56
  have hs6 := hs.ext x06
  have hgw : w.heap.size ≤ gm := by omega
  have sg6 : SlR tInt (fun b => b < gm) w6 GA ng got := ((sg.ext x5).more (D' := fun b => b < w5.heap.size) (by decide) fun b hb _ => hb).ext x56 |>.more (by decide) fun b _ h => by omega
  have so6 : SlR tInt (fun b => b < gm) w6 NA nn out := ((so.ext x5).more (D' := fun b => b < w5.heap.size) (by decide) fun b hb _ => hb).ext x56 |>.more (by decide) fun b _ h => by omega
  have hl6 : SlR tInt (fun b => b < gm) w6 A nn aw := ((hl.ext x05).more (D' := fun b => b < w5.heap.size) (by decide) fun b hb _ => hb).ext x56 |>.more (by decide) fun b _ h => by omega
  have hs6 : SlR tDeal (fun b => b < gm) w6 B ng ds := hs6.more (by decide) fun b _ h => by omega
  refine len ?_
  refine loop_rule (fun k : Nat => [(63, iv (k : Int))]) (fun k u => k ≤ ng ∧ Kept (fun b => b ≠ gm) w6 u ∧ ∃ f, MapG kvI u gm f ∧ (∀ i, f i = none ∨ f i = some (.bool true)) ∧ ∀ x ∈ ds.take k, inI rain x.lo x.hi = true → f x.frm = some (.bool true) ∧ f x.to = some (.bool true)) (fun k _ => ng - k) 0 ⟨rfl, trivial⟩ ⟨by omega, .refl _ _, _, M6, fun i => .inl rfl, fun x hx => by simp at hx⟩ rfl ?_
  rintro G1 k u ⟨hk, ku, f, Mf, hf1, hf2⟩
  refine cD (fun hlt => ?_) (fun hge => ?_)
  · have hlt : k < ng := by omega
    obtain ⟨b, o, cs, x, rfl, hx, -, -, hc, rfl⟩ := (hs6.kept ku fun b _ h => (show b ≠ gm by omega)).at_ hlt
    obtain ⟨bg, og, csg, g, rfl, hg, -, -, hcg, rfl, -⟩ := (sg6.kept ku fun b _ h => (show b ≠ gm by omega)).at_ (k := k) (by omega)
    have htk : ds.take (k + 1) = ds.take k ++ [x] := by rw [List.take_add_one, hx]; rfl
    refine idx k rfl hlt ?_
    refine ldA x.c hc rfl ?_
    refine alloc (fun b14 u1 q1 => ?_)
    refine stA (vs := x.c) q1.blk rfl (Nat.le_of_ble_eq_true rfl) (by simp [Value.oneCell']) (fun u2 B14 k2 s2' => ?_)
    have B14 : Blk u2 b14 49 x.c := B14
    have y14 := q1.at_
    have gu := Mf.lt
    have xu : Ext u u2 := q1.ext.then k2 fun b hb _ e => by omega
    have ku2 := ku.then xu fun _ _ _ => trivial
    have Mf2 := Mf.kept xu trivial
    have hcg2 := hcg.kept xu trivial
    have skip : ¬ inI rain x.lo x.hi = true → ∀ y ∈ ds.take (k + 1), inI rain y.lo y.hi = true → f y.frm = some (.bool true) ∧ f y.to = some (.bool true) := fun hin y hy hi => by
      rw [htk, List.mem_append, List.mem_singleton] at hy
      rcases hy with hy | rfl
      · exact hf2 y hy hi
      · exact absurd hi hin
    refine fldA ?_
    refine fldA ?_
    refine ld (iv x.lo) (B14.cell rfl) ?_
    refine cD (fun p1 => ?_) (fun p1 => ?_)
    rotate_left
    · have hin : ¬ inI rain x.lo x.hi = true := fun h => p1 (inI_iff.1 h).1
      have hz := hex.zero hx hin
      rw [clA_at hg] at hz
      refine idx k rfl (by omega) ?_
      refine ld (iv g) (hcg2 0 _ rfl) ?_
      refine cN (fun h => absurd hz h) (fun _ => ?_)
      refine arI (by omega) ?_
      exact next (k + 1) ⟨by rw [Int.natCast_add]; rfl, trivial⟩ ⟨by omega, ku2, f, Mf2, hf1, skip hin⟩ (by omega)
    refine fldA ?_
    refine fldA ?_
    refine ld (iv x.hi) (B14.cell rfl) ?_
    refine cD (fun p2 => ?_) (fun p2 => ?_)
    rotate_left
    · have hin : ¬ inI rain x.lo x.hi = true := fun h => p2 (inI_iff.1 h).2
      have hz := hex.zero hx hin
      rw [clA_at hg] at hz
      refine idx k rfl (by omega) ?_
      refine ld (iv g) (hcg2 0 _ rfl) ?_
      refine cN (fun h => absurd hz h) (fun _ => ?_)
      refine arI (by omega) ?_
      exact next (k + 1) ⟨by rw [Int.natCast_add]; rfl, trivial⟩ ⟨by omega, ku2, f, Mf2, hf1, skip hin⟩ (by omega)
    refine drawP (.take 0 (.take 1 (.take 2 (.take 3 (.take 4 (.take 5 (.eff 6 (.eff 7 .done)))))))) [] (fun y => Kept (fun b => b ≠ gm) u2 y) mx (by kernel_rfl) (.refl _ _) ?_
    refine fldA ?_
    refine ldK (iv x.frm) (B14.cell rfl) (show b14 ≠ gm by omega) (.refl _ _) ?_
    refine fldA ?_
    refine ldK (iv x.to) (B14.cell rfl) (show b14 ≠ gm by omega) (.refl _ _) ?_
    refine mupdG (kv := kvI) x.frm Mf2 (fun u3 M3 k3 z3 => ?_)
    refine strS k3 ?_
    refine mupdG (kv := kvI) x.to M3 (fun u4 M4 k4 z4 => ?_)
    refine strS (k3.trans k4) ?_
    refine arI (by omega) ?_
    refine next (k + 1) ⟨by rw [Int.natCast_add]; rfl, trivial⟩ ⟨by omega, ku2.trans (k3.trans k4), _, M4, fun i => ?_, fun y hy hi => ?_⟩ (by omega)
    · unfold pset
      split
      · exact .inr rfl
      · split
        · exact .inr rfl
        · exact hf1 i
    · rw [htk, List.mem_append, List.mem_singleton] at hy
      unfold pset
      rcases hy with hy | rfl
      · obtain ⟨a1, a2⟩ := hf2 y hy hi
        constructor
        · split
          · rfl
          · split
            · rfl
            · exact a1
        · split
          · rfl
          · split
            · rfl
            · exact a2
      · constructor
        · split
          · rfl
          · first
            | exact if_pos rfl
            | (rename_i h; exact absurd rfl h)
        · exact if_pos rfl
  rw [List.take_of_length_le (by omega)] at hf2
  refine len ?_
  refine loop_rule (fun k : Nat => [(94, iv (k : Int))]) (fun k u' => k ≤ nn ∧ u = u') (fun k _ => nn - k) 0 ⟨rfl, trivial⟩ ⟨by omega, rfl⟩ rfl ?_
  rintro G2 j u' ⟨hj, rfl⟩
  refine cD (fun hlt => ?_) (fun hge => ?_)
  · have hlt : j < nn := by omega
    obtain ⟨bo, oo, cso, y, rfl, hy, -, -, hcy, rfl, -⟩ := (so6.kept ku fun b _ h => (show b ≠ gm by omega)).at_ hlt
    obtain ⟨ba, oa, csa, z, rfl, hz, -, -, hcz, rfl, -⟩ := (hl6.kept ku fun b _ h => (show b ≠ gm by omega)).at_ (k := j) (by omega)
    refine idx j rfl hlt ?_
    refine ld (iv y) (hcy 0 _ rfl) ?_
    rcases hf1 j with e | e
    · refine lookG1 (kv := kvI) (j : Int) (.bool false) (fun v hv => ⟨f, by rw [hv]; exact Mf, by rw [e]; rfl⟩) ?_
      refine idx j rfl hlt ?_
      refine ld (iv z) (hcz 0 _ rfl) ?_
      have hsame := hex.same (i := j) hall fun x hx hi => by
        obtain ⟨a1, a2⟩ := hf2 x hx hi
        refine ⟨fun h => ?_, fun h => ?_⟩
        · rw [h, e] at a1; cases a1
        · rw [h, e] at a2; cases a2
      rw [clA_at hy, clA_at hz] at hsame
      refine cN (fun h => absurd hsame h) (fun _ => ?_)
      refine arI (by omega) ?_
      exact next (j + 1) ⟨by rw [Int.natCast_add]; rfl, trivial⟩ ⟨by omega, rfl⟩ (by omega)
    · refine lookG1 (kv := kvI) (j : Int) (.bool true) (fun v hv => ⟨f, by rw [hv]; exact Mf, by rw [e]; rfl⟩) ?_
      refine arI (by omega) ?_
      exact next (j + 1) ⟨by rw [Int.natCast_add]; rfl, trivial⟩ ⟨by omega, rfl⟩ (by omega)
  exact ret1 (.bool true) rfl ⟨rfl, x06.then ku fun b hb _ => (show b ≠ gm by omega)⟩
end
end Go.Proofs.YtcpogcdadlcdaaaGreat

/- Closing: what districts, awards and deals that are handed in read as. -/
namespace Go.Proofs.YtcpogcdadlcdaaaGreat
open Go Go.RowKit Go.ChangeShapes Go.WideShapes Go.ChangeAt

theorem rd_is : Rd Tryz.prog 32 (tSl tInt) := inferInstance
theorem rd_deal : Rd Tryz.prog 49 tDeal := by
  refine Rd.of (fun y : Int × Int × Int × Int × Int => (⟨y.1, y.2.1, y.2.2.1, y.2.2.2.1, y.2.2.2.2⟩ : DealR))
    (Rd.struct Tryz.underlying49 (by kernel_rfl) fun n => .cons (rdAt Tryz.prog 3 tInt n) rfl (.cons (rdAt Tryz.prog 3 tInt n) rfl (.cons (rdAt Tryz.prog 3 tInt n) rfl (.one (rd_range.h n) rfl)))) ?_
  rintro W cs ⟨a, b, c, d, e⟩ ⟨_, _, rfl, ⟨rfl, -⟩, _, _, rfl, ⟨rfl, -⟩, _, _, rfl, ⟨rfl, -⟩, _, _, rfl, ⟨rfl, -⟩, ⟨rfl, -⟩⟩
  rfl
instance : Rd Tryz.prog 49 tDeal := rd_deal
theorem rd_deals : Rd Tryz.prog 40 (tSl tDeal) := inferInstance
end Go.Proofs.YtcpogcdadlcdaaaGreat
