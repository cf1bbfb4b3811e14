/- Parts of the proof: Jt Ju Jv Za. -/
import Derived.Test.YtcpogcdadlcdaaaGreatM12
import Derived.Test.YtcpogcdadlcdaaaGreatM10
import Derived.Test.YtcpogcdadlcdaaaGreatM4
import Derived.Test.YtcpogcdadlcdaaaGreatM7
import Derived.Test.YtcpogcdadlcdaaaGreatM11
import Derived.Test.YtcpogcdadlcdaaaGreatRows
import Derived.Stop.LaidErr

/- Layer 46: the reference's heads, Harmless, with, move, farms, Move; HarmlessSpec. -/
namespace Go.Proofs.YtcpogcdadlcdaaaGreat
open Go Go.RowKit

section
variable {D : Nat → Prop} {w : World}
theorem c_h46heads {csd : List Value} {d : Dist} {cl : List Int} {A : Option Addr} {n c : Nat} (hd : DiR D w csd d) (hl : SlR tInt D w A n cl) : CallZ Tryz.prog 24 #[.agg csd.toArray, .slice A n c] w (fun v w' => Ext w w' ∧ ((headsV d cl = none ∧ ∃ B nb cb, v = .tuple #[.slice B nb cb, .bool false]) ∨
    ∃ hs bh cb, headsV d cl = some hs ∧ v = .tuple #[.slice (some (ad bh 0)) d.reaches.length cb, .bool true] ∧ w.heap.size ≤ bh ∧ Blk w' bh 3 (ivs hs))) := by
  have hd0 := hd
  obtain ⟨A1, n1, c1, A2, n2, c2, A3, n3, c3, A4, n4, c4, A5, n5, c5, A6, n6, c6, rfl, hr, hf, -⟩ := hd.ex
  refine fn_rule (args := [.agg #[.string d.name, iv d.hours, iv d.cap, iv d.start, .slice A1 n1 c1, .slice A2 n2 c2, .slice A3 n3 c3, .slice A4 n4 c4, .slice A5 n5 c5, .slice A6 n6 c6], .slice A n c]) Tryz.func24 (by kernel_rfl) ?_
  refine box (fun b2 w1 h1 => ?_)
  have B2 : Blk w1 b2 31 [.string d.name, iv d.hours, iv d.cap, iv d.start, .slice A1 n1 c1, .slice A2 n2 c2, .slice A3 n3 c3, .slice A4 n4 c4, .slice A5 n5 c5, .slice A6 n6 c6] := h1.blk
  refine ldA [.string d.name, iv d.hours, iv d.cap, iv d.start, .slice A1 n1 c1, .slice A2 n2 c2, .slice A3 n3 c3, .slice A4 n4 c4, .slice A5 n5 c5, .slice A6 n6 c6] (.blk B2) rfl ?_
  refine call_of (c_rNd (hd0.ext h1.ext) (hl.ext h1.ext)) ?_
  rintro _ w2 ⟨B, nb, cb, ok, rfl, x2, q1, q2, q3⟩
  have xx := h1.ext.trans x2
  have s1 := h1.ext.size
  cases ok with
  | false =>
    refine ret2 (.slice B nb cb) (.bool false) rfl rfl ⟨xx, .inl ⟨?_, B, nb, cb, rfl⟩⟩
    unfold headsV
    by_cases g : divErr d cl = 0
    · rw [if_pos g]
      rcases q2 g with ⟨-, h⟩ | ⟨h, -⟩
      · exact h
      · cases h
    · rw [if_neg g]
  | true =>
    by_cases g : divErr d cl = 0
    · rcases q2 g with ⟨h, -⟩ | ⟨-, hs, bh, h, rfl, rfl, hb, Bh⟩
      · cases h
      refine cE (fun _ => ?_) (fun h => absurd g h)
      exact ret2 (.slice (some (ad bh 0)) d.reaches.length cb) (.bool true) rfl rfl ⟨xx, .inr ⟨hs, bh, cb, by unfold headsV; rw [if_pos g]; exact h, rfl, by omega, Bh⟩⟩
    · cases q3 g
theorem c_h46with {A : Option Addr} {n c f t : Nat} {aw : List Int} {x g : Int} (ha : SlR tInt D w A n aw) (hn : n ≤ 1000) (o : OkL aw) (hf : f < n) (ht : t < n) (hne : f ≠ t) (hx : 0 ≤ x ∧ x ≤ clA aw f) (hg : 0 ≤ g ∧ g ≤ 1073741824 - clA aw t) :
    CallZ Tryz.prog 47 #[.slice A n c, iv (f : Int), iv x, iv (t : Int), iv g] w (fun v w' => Ext w w' ∧ ∃ A' c', v = .slice A' n c' ∧ SlR tInt (fun b => w.heap.size ≤ b) w' A' n (chgV aw f t x g)) := by
  have hl := ha.len
  have of_ := clA_ok o f
  have ot := clA_ok o t
  refine fn_rule (args := [.slice A n c, iv (f : Int), iv x, iv (t : Int), iv g]) Tryz.func47 (by kernel_rfl) ?_
  refine lit [] (fun g0 w0 h0 => ?_)
  have ha1 := ha.ext h0.ext
  have o1 : OwnF w w0 (some (ad g0 0)) 0 0 3 1 [] := OwnF.lit (cs := []) (.refl _ _) h0 rfl
  have hsrc : Src w0 A n 1 (aw.map fun v => Value.int .i64 v) := by
    refine ⟨by rw [List.length_map]; omega, fun hn0 => ?_⟩
    obtain ⟨b, o, cs, x, rfl, _⟩ := ha1.at_ hn0
    obtain ⟨cs2, hf, hc⟩ := ha1.cells
    refine ⟨b, o, rfl, ?_⟩
    rw [← flatJ_eq hf]; exact hc
  refine appF o1 hsrc (by omega) (fun A' c' w1 o3 _ _ => ?_) (h1 := by rw [List.all_map]; exact List.all_eq_true.2 fun _ _ => rfl)
  rw [List.nil_append] at o3
  have x1 := o3.ext
  obtain ⟨q, rest, rfl, B, hq⟩ : ∃ q rest, A' = some (ad q 0) ∧ Blk w1 q 3 (ivs aw ++ rest) ∧ w.heap.size ≤ q := by
    rcases o3.form with ⟨_, e1, -⟩ | ⟨q, e0, hg1, hg2, -⟩
    · omega
    · subst e0
      obtain ⟨rest, hb, -, -⟩ := o3.own.blk
      exact ⟨q, rest, rfl, hb, hg1⟩
  rw [Nat.zero_add]
  have z1 := x1.size
  have at_ : ∀ {w : World} {l : List Int} {i : Nat}, Blk w q 3 (ivs l ++ rest) → i < l.length → w.cell? (ad q (0 + i * tInt.sz)) = some (iv (clA l i)) := fun {w l i} hb hi => by
    have e : (0 + i * tInt.sz) = i := by rw [Nat.zero_add]; exact Nat.mul_one i
    rw [e]
    refine hb.cell ?_
    rw [List.getElem?_append_left (by simpa [ivs] using hi)]
    unfold ivs
    rw [List.getElem?_map, List.getElem?_eq_getElem hi, clA_at (List.getElem?_eq_getElem hi)]; rfl
  refine idx f rfl hf ?_
  refine ld (iv (clA aw f)) (at_ B (by omega)) ?_
  refine arI (by omega) ?_
  refine idx f rfl hf ?_
  refine st (v := iv (clA aw f - x)) B (by simp [ivs]; omega) rfl (fun w2 B2 k2 z2 => ?_)
  have B2 : Blk w2 q 3 (ivs (aw.set f (clA aw f - x)) ++ rest) := by rw [← ivs_pre (by omega)]; simpa using B2
  have e2 : clA (aw.set f (clA aw f - x)) t = clA aw t := by rw [clA_set (by omega), if_neg hne]
  refine idx t rfl ht ?_
  refine ld (iv (clA (aw.set f (clA aw f - x)) t)) (at_ B2 (by rw [List.length_set]; omega)) ?_
  refine arI (by rw [e2]; omega) ?_
  refine idx t rfl ht ?_
  refine st (v := iv (clA (aw.set f (clA aw f - x)) t + g)) B2 (by simp [ivs]; omega) rfl (fun w3 B3 k3 z3 => ?_)
  have B3 : Blk w3 q 3 (ivs (chgV aw f t x g) ++ rest) := by
    unfold chgV
    rw [← ivs_pre (by rw [List.length_set]; omega)]; simpa using B3
  have oc := chgV_ok o (by omega : f < aw.length) (by omega) hne hx hg
  refine ret1 (.slice (some (ad q 0)) n c') rfl ⟨(x1.then k2 fun b hb _ e => by omega).then k3 fun b hb _ e => by omega, _, _, rfl, blkPre B3 (by rw [chgV_len]; omega) (okL_i64 oc) (by omega) hq⟩
theorem c_h46Harmless {csd : List Value} {d : Dist} {bf aw : List Int} {A : Option Addr} {n c bb cbb : Nat} (V : Val d) (okb : OkL bf) (lbf : bf.length = d.reaches.length) (hd : DiR D w csd d) (hl : SlR tInt D w A n aw) (Bb : Blk w bb 3 (ivs bf)) :
    CallZ Tryz.prog 46 #[.agg csd.toArray, .slice (some (ad bb 0)) d.reaches.length cbb, .slice A n c] w (fun u w' => u = .bool (harmB d bf aw) ∧ Ext w w') := by
  have hd0 := hd
  obtain ⟨A1, n1, c1, A2, n2, c2, A3, n3, c3, A4, n4, c4, A5, n5, c5, A6, n6, c6, rfl, hr, hf, -⟩ := hd.ex
  have lr := hr.len
  have hvn := V.n
  refine fn_rule (args := [.agg #[.string d.name, iv d.hours, iv d.cap, iv d.start, .slice A1 n1 c1, .slice A2 n2 c2, .slice A3 n3 c3, .slice A4 n4 c4, .slice A5 n5 c5, .slice A6 n6 c6], .slice (some (ad bb 0)) d.reaches.length cbb, .slice A n c]) Tryz.func46 (by kernel_rfl) ?_
  refine box (fun b3 w1 h1 => ?_)
  have B3 : Blk w1 b3 31 [.string d.name, iv d.hours, iv d.cap, iv d.start, .slice A1 n1 c1, .slice A2 n2 c2, .slice A3 n3 c3, .slice A4 n4 c4, .slice A5 n5 c5, .slice A6 n6 c6] := h1.blk
  refine ldA [.string d.name, iv d.hours, iv d.cap, iv d.start, .slice A1 n1 c1, .slice A2 n2 c2, .slice A3 n3 c3, .slice A4 n4 c4, .slice A5 n5 c5, .slice A6 n6 c6] (.blk B3) rfl ?_
  refine call_of (c_h46heads (hd0.ext h1.ext) (hl.ext h1.ext)) ?_
  rintro _ w2 ⟨x2, ⟨hn, B, nb, cb, rfl⟩ | ⟨hs, bh, ch, hn, rfl, hb, Bh⟩⟩
  · refine drawQ mx (by kernel_rfl) ?_
    exact ret1 (.bool false) rfl ⟨by unfold harmB; rw [hn], h1.ext.trans x2⟩
  have x02 := h1.ext.trans x2
  obtain ⟨-, -, R'⟩ := headsV_some hn
  have lhs := R'.lh
  have Bb := Bb.ext x02
  have B3 := B3.ext x2
  have no : ¬ (clA hs 0 ≤ clA bf 0 ∧ ∀ r, r < d.reaches.length → clA hs r ≤ max (clA bf r) (rcC d r).cap) → Value.bool false = .bool (harmB d bf aw) := fun h => by
    congr 1
    cases hq : harmB d bf aw with
    | false => rfl
    | true =>
      obtain ⟨l, hl2, h1, h2⟩ := harmB_iff.1 hq
      rw [hn] at hl2; injection hl2 with hl2; subst hl2
      exact absurd ⟨h1, h2⟩ h
  refine drawQ mx (by kernel_rfl) ?_
  refine idx 0 rfl (by omega) ?_
  refine ld (iv (clA hs 0)) (blkI (i := 0) Bh R'.okh (n := d.reaches.length) (by omega) (by omega) (by omega) 0 _ rfl) ?_
  refine idx 0 rfl (by omega) ?_
  refine ld (iv (clA bf 0)) (blkI (i := 0) Bb okb (n := d.reaches.length) (by omega) (by omega) (by omega) 0 _ rfl) ?_
  refine cD (fun g0 => ?_) (fun g0 => ?_)
  · exact ret1 (.bool false) rfl ⟨no (fun h => by omega), x02⟩
  refine loop_rule (fun k : Nat => [(9, iv (k : Int))]) (fun k u => k ≤ d.reaches.length ∧ w2 = u ∧ ∀ r, r < k → clA hs r ≤ max (clA bf r) (rcC d r).cap) (fun k _ => d.reaches.length - k) 0 ⟨rfl, trivial⟩ ⟨by omega, rfl, fun r hr => by omega⟩ rfl ?_
  rintro G k u ⟨hk, rfl, hall⟩
  refine len ?_
  refine cD (fun hlt => ?_) (fun hge => ?_)
  · have hlt : k < d.reaches.length := by omega
    obtain ⟨br, o, cs, y, rfl, hy, -, -, hcy, rfl⟩ := (hr.ext x02).at_ (k := k) (by omega)
    have hrc := rcC_at hy
    refine drawQ mx (by kernel_rfl) ?_
    refine idx k rfl hlt ?_
    refine ld (iv (clA hs k)) (blkI Bh R'.okh (n := d.reaches.length) (by omega) (by omega) (by omega) 0 _ rfl) ?_
    refine idx k rfl hlt ?_
    refine ld (iv (clA bf k)) (blkI Bb okb (n := d.reaches.length) (by omega) (by omega) (by omega) 0 _ rfl) ?_
    refine cD (fun g1 => ?_) (fun g1 => ?_)
    · refine idx k rfl hlt ?_
      refine ld (iv (clA hs k)) (blkI Bh R'.okh (n := d.reaches.length) (by omega) (by omega) (by omega) 0 _ rfl) ?_
      refine fldA ?_
      refine ld (.slice (some (ad br o)) n1 c1) (B3.cell rfl) ?_
      refine idx k rfl (by omega) ?_
      refine fldA ?_
      refine ld (iv y.cap) (hcy 3 _ rfl) ?_
      refine cD (fun g2 => ?_) (fun g2 => ?_)
      · exact ret1 (.bool false) rfl ⟨no (fun h => by have := h.2 k hlt; rw [hrc] at this; omega), x02⟩
      refine arI (by omega) ?_
      refine next (k + 1) ⟨by rw [Int.natCast_add]; rfl, trivial⟩ ⟨by omega, rfl, fun r hr2 => ?_⟩ (by omega)
      by_cases e : r = k
      · subst e; rw [hrc]; omega
      · exact hall r (by omega)
    · refine arI (by omega) ?_
      refine next (k + 1) ⟨by rw [Int.natCast_add]; rfl, trivial⟩ ⟨by omega, rfl, fun r hr2 => ?_⟩ (by omega)
      by_cases e : r = k
      · subst e; omega
      · exact hall r (by omega)
  · have e : harmB d bf aw = true := harmB_iff.2 ⟨hs, hn, by omega, fun r hr2 => hall r (by omega)⟩
    exact ret1 (.bool true) rfl ⟨by rw [e], x02⟩
set_option maxRecDepth 4000 in
theorem c_h46move {csd : List Value} {d : Dist} {bf aw : List Int} {f t : Nat} {x : Int} {A : Option Addr} {n c : Nat} (M : MvOk d bf aw f t x) (hd : DiR D w csd d) (hl : SlR tInt D w A n aw) :
    CallZ Tryz.prog 26 #[.agg csd.toArray, .slice A n c, iv (f : Int), iv (t : Int), iv x] w (fun v w' => Ext w w' ∧ ∃ g A' c', GotV d bf aw f t x g ∧ v = .tuple #[iv g, .slice A' n c'] ∧ SlR tInt (fun b => w.heap.size ≤ b) w' A' n (chgV aw f t x g)) := by
  have hd0 := hd
  obtain ⟨A1, n1, c1, A2, n2, c2, A3, n3, c3, A4, n4, c4, A5, n5, c5, A6, n6, c6, rfl, hr, hf, -⟩ := hd.ex
  have ll := hl.len
  have R := M.rdy
  have lcl := R.lc
  have hvf := R.v.f
  obtain ⟨fl, tl⟩ := M.fl
  have hhi := M.hi
  have okt := clA_ok R.okc t
  refine fn_rule (args := [.agg #[.string d.name, iv d.hours, iv d.cap, iv d.start, .slice A1 n1 c1, .slice A2 n2 c2, .slice A3 n3 c3, .slice A4 n4 c4, .slice A5 n5 c5, .slice A6 n6 c6], .slice A n c, iv (f : Int), iv (t : Int), iv x]) Tryz.func26 (by kernel_rfl) ?_
  refine box (fun b5 w5 h5 => ?_)
  have x5 := h5.ext
  have B5 : Blk w5 b5 31 [.string d.name, iv d.hours, iv d.cap, iv d.start, .slice A1 n1 c1, .slice A2 n2 c2, .slice A3 n3 c3, .slice A4 n4 c4, .slice A5 n5 c5, .slice A6 n6 c6] := h5.blk
  refine ldA _ (.blk B5) rfl ?_
  refine call_of (c_h46heads (hd0.ext x5) (hl.ext x5)) ?_
  rintro _ w6 ⟨x6, ⟨hn, -⟩ | ⟨hs, bh, ch, hn, rfl, hb, Bh⟩⟩
  · rw [M.hd] at hn; cases hn
  rw [M.hd] at hn; injection hn with hn; subst hn
  have B5 := B5.ext x6
  have x06 := x5.trans x6
  have hl6 := hl.ext x06
  obtain ⟨ba, oa, csa, y, hA, hy, -, -, hcy, rfl, -⟩ := hl6.at_ (k := t) (by omega)
  have ey := clA_at hy
  rw [hA]
  refine idx t rfl (by omega) ?_
  refine ld (iv y) (hcy 0 _ rfl) ?_
  refine arI (by omega) ?_
  rw [← ey]
  refine loop2 (fun (a b : Int) => [(14, iv a), (15, iv b)]) (fun a b w' => (0 ≤ a ∧ a ≤ b ∧ b ≤ 1073741824 - clA aw t ∧ gotP d bf aw f t x a = true ∧ ∀ v, b < v → v ≤ 1073741824 - clA aw t → gotP d bf aw f t x v = false) ∧ Ext w6 w') (fun a b _ => (b - a).toNat) 0 (1073741824 - clA aw t) ⟨rfl, rfl, trivial⟩ ⟨⟨by omega, by omega, by omega, M.zero, fun v h1 h2 => by omega⟩, .refl _ _⟩ rfl ?_
  rintro G a b w' ⟨⟨h1, h2, h3, h4, h5⟩, xw⟩
  have x0w := x06.trans xw
  refine cD (fun hlt => ?_) (fun hge => ?_)
  · refine arI (by omega) ?_
    refine arI (by omega) ?_
    refine quoI (by omega) (by omega) (by omega) ?_
    obtain ⟨m, hmm⟩ : ∃ m, m = (a + b + 1) / 2 := ⟨_, rfl⟩
    rw [← hmm]
    refine drawP (.take 0 (.take 1 (.take 2 (.take 3 (.take 4 (.take 5 (.take 6 (.eff 7 (.eff 8 (.take 9 .done)))))))))) [] (fun z => Ext w' z) mx (by kernel_rfl) (.refl _ _) ?_
    refine ldAK _ (.blk (B5.ext xw)) rfl trivial (.refl _ _) ?_
    rw [← hA]
    refine call_of (c_h46with (g := m) (hl.ext x0w) (by omega) R.okc (by omega) (by omega) M.ne M.hx ⟨by omega, by omega⟩) ?_
    rintro _ v1 ⟨xv1, A', c', rfl, s1⟩
    refine strS xv1 ?_
    refine call_of (c_h46Harmless (D := fun _ => True) R.v R.okh R.lh (((hd0.ext x0w).ext xv1).more fun _ _ _ => trivial) (s1.more (by decide) fun _ _ _ => trivial) ((Bh.ext xw).ext xv1)) ?_
    rintro _ v2 ⟨rfl, xv2⟩
    have xv := xv1.trans xv2
    refine strS xv ?_
    cases hp : harmB d bf (chgV aw f t x m) with
    | true =>
      exact next2 m b ⟨rfl, rfl, trivial⟩ ⟨⟨by omega, by omega, by omega, hp, h5⟩, xw.trans xv⟩ (by omega)
    | false =>
      refine arI (by omega) ?_
      refine next2 a (m - 1) ⟨rfl, rfl, trivial⟩ ⟨⟨by omega, by omega, by omega, h4, fun v hv1 hv2 => ?_⟩, xw.trans xv⟩ (by omega)
      cases hv : gotP d bf aw f t x v with
      | false => rfl
      | true =>
        have := M.mono (n := m) (by omega) (by omega) hv2 hv
        rw [show gotP d bf aw f t x m = harmB d bf (chgV aw f t x m) from rfl, hp] at this; cases this
  · have : a = b := by omega
    subst this
    rw [← hA]
    refine call_of (c_h46with (g := a) (hl.ext x0w) (by omega) R.okc (by omega) (by omega) M.ne M.hx ⟨by omega, by omega⟩) ?_
    rintro _ v1 ⟨xv1, A', c', rfl, s1⟩
    exact ret2 (iv a) (.slice A' n c') rfl rfl ⟨x0w.trans xv1, a, A', c', ⟨h1, h3, h4, h5⟩, rfl, s1.more (by decide) fun b _ h => by have := x0w.size; omega⟩
theorem c_h46farms {a b m : Int} : CallZ Tryz.prog 25 #[iv a, iv b, iv m] w (fun v w' => v = .bool (decide (0 ≤ a ∧ a < m ∧ 0 ≤ b ∧ b < m ∧ a ≠ b)) ∧ w' = w) := by
  refine fn_rule (args := [iv a, iv b, iv m]) Tryz.func25 (by kernel_rfl) ?_
  refine cD (fun g1 => ?_) (fun g1 => ?_)
  · refine cD (fun g2 => ?_) (fun g2 => ?_)
    · refine cD (fun g3 => ?_) (fun g3 => ?_)
      · refine cD (fun g4 => ?_) (fun g4 => ?_)
        · refine cN (fun g5 => ?_) (fun g5 => ?_)
          · exact ret1 (.bool true) rfl ⟨by rw [decide_eq_true ⟨g1, g2, g3, g4, g5⟩], rfl⟩
          · exact ret1 (.bool false) rfl ⟨by rw [decide_eq_false fun h => h.2.2.2.2 g5], rfl⟩
        · exact ret1 (.bool false) rfl ⟨by rw [decide_eq_false fun h => g4 h.2.2.2.1], rfl⟩
      · exact ret1 (.bool false) rfl ⟨by rw [decide_eq_false fun h => g3 h.2.2.1], rfl⟩
    · exact ret1 (.bool false) rfl ⟨by rw [decide_eq_false fun h => g2 h.2.1], rfl⟩
  · exact ret1 (.bool false) rfl ⟨by rw [decide_eq_false fun h => g1 h.1], rfl⟩
end
end Go.Proofs.YtcpogcdadlcdaaaGreat

/- Layer 46: the reference's Move; HarmlessSpec. -/
namespace Go.Proofs.YtcpogcdadlcdaaaGreat
open Go Go.RowKit

section
variable {D : Nat → Prop} {w : World}
theorem c_h46Move {csd : List Value} {d : Dist} {aw : List Int} {f t x : Int} {A : Option Addr} {n c : Nat} (hd : DiR D w csd d) (hl : SlR tInt D w A n aw) :
    CallZ Tryz.prog 10 #[.agg csd.toArray, .slice A n c, iv f, iv t, iv x] w (fun v w' => Ext w w' ∧ ∃ g A' n' c', v = .tuple #[iv g, .slice A' n' c', iv (mvErr d aw f t x)] ∧ (mvErr d aw f t x ≠ 0 → g = 0 ∧ A' = none ∧ n' = 0) ∧
      (mvErr d aw f t x = 0 → n' = n ∧ ∃ bf, MvOk d bf aw f.toNat t.toNat x ∧ GotV d bf aw f.toNat t.toNat x g ∧ SlR tInt (fun b => w.heap.size ≤ b) w' A' n (chgV aw f.toNat t.toNat x g))) := by
  have hd0 := hd
  obtain ⟨A1, n1, c1, A2, n2, c2, A3, n3, c3, A4, n4, c4, A5, n5, c5, A6, n6, c6, rfl, hr, hf, -⟩ := hd.ex
  have ll := hl.len
  have lf := hf.len
  refine fn_rule (args := [.agg #[.string d.name, iv d.hours, iv d.cap, iv d.start, .slice A1 n1 c1, .slice A2 n2 c2, .slice A3 n3 c3, .slice A4 n4 c4, .slice A5 n5 c5, .slice A6 n6 c6], .slice A n c, iv f, iv t, iv x]) Tryz.func10 (by kernel_rfl) ?_
  refine box (fun b5 w1 h1 => ?_)
  have B5 : Blk w1 b5 31 [.string d.name, iv d.hours, iv d.cap, iv d.start, .slice A1 n1 c1, .slice A2 n2 c2, .slice A3 n3 c3, .slice A4 n4 c4, .slice A5 n5 c5, .slice A6 n6 c6] := h1.blk
  refine ldA [.string d.name, iv d.hours, iv d.cap, iv d.start, .slice A1 n1 c1, .slice A2 n2 c2, .slice A3 n3 c3, .slice A4 n4 c4, .slice A5 n5 c5, .slice A6 n6 c6] (.blk B5) rfl ?_
  refine call_of (c_r19Check (hd0.ext h1.ext)) ?_
  rintro _ w2 ⟨rfl, x2⟩
  have B5 := B5.ext x2
  have x02 := h1.ext.trans x2
  refine cN (fun g => ?_) (fun g => ?_)
  · have e : mvErr d aw f t x = dErr d := by unfold mvErr; rw [if_pos g]
    exact ret3 (iv 0) (.slice none 0 0) (iv (dErr d)) rfl rfl rfl ⟨x02, 0, none, 0, 0, by rw [e], fun _ => ⟨rfl, rfl, rfl⟩, fun q => absurd (e.symm.trans q) g⟩
  have g : dErr d = 0 := g
  have e0 : mvErr d aw f t x = if headsV d aw = none then 460 else if 0 ≤ f ∧ f < d.farms.length ∧ 0 ≤ t ∧ t < d.farms.length ∧ f ≠ t ∧ 0 ≤ x ∧ x ≤ clA aw f.toNat then 0 else 1 := by unfold mvErr; rw [if_neg (fun h => h g)]
  refine ldA [.string d.name, iv d.hours, iv d.cap, iv d.start, .slice A1 n1 c1, .slice A2 n2 c2, .slice A3 n3 c3, .slice A4 n4 c4, .slice A5 n5 c5, .slice A6 n6 c6] (.blk B5) rfl ?_
  refine call_of (c_h46heads (hd0.ext x02) (hl.ext x02)) ?_
  rintro _ w3 ⟨x3, ⟨hn, B, nb, cb, rfl⟩ | ⟨hs, bh, ch, hn, rfl, hb, Bh⟩⟩
  · rw [if_pos hn] at e0
    exact ret3 (iv 0) (.slice none 0 0) (iv 460) rfl rfl rfl ⟨x02.trans x3, 0, none, 0, 0, by rw [e0], fun _ => ⟨rfl, rfl, rfl⟩, fun q => absurd (e0.symm.trans q) (by decide)⟩
  rw [if_neg (by rw [hn]; simp)] at e0
  obtain ⟨-, -, R⟩ := headsV_some hn
  have lcl := R.lc
  have B5 := B5.ext x3
  have x03 := x02.trans x3
  have bad' : ¬ (0 ≤ f ∧ f < d.farms.length ∧ 0 ≤ t ∧ t < d.farms.length ∧ f ≠ t ∧ 0 ≤ x ∧ x ≤ clA aw f.toNat) → mvErr d aw f t x = 1 := fun h => by rw [e0, if_neg h]
  refine fldA ?_
  refine ld (.slice A2 n2 c2) (B5.cell rfl) ?_
  refine len ?_
  refine callB (c_h46farms (a := f) (b := t) (m := (n2 : Int))) (fun p1 => ?_) (fun p1 => ?_)
  rotate_left
  · have e := bad' fun h => of_decide_eq_false p1 ⟨h.1, by omega, h.2.2.1, by omega, h.2.2.2.2.1⟩
    exact ret3 (iv 0) (.slice none 0 0) (iv 1) rfl rfl rfl ⟨x03, 0, none, 0, 0, by rw [e], fun _ => ⟨rfl, rfl, rfl⟩, fun q => absurd (e.symm.trans q) (by decide)⟩
  obtain ⟨q1, q2, q3, q4, q5⟩ := of_decide_eq_true p1
  refine cD (fun p2 => ?_) (fun p2 => ?_)
  · have e := bad' fun h => absurd p2 (by omega)
    exact ret3 (iv 0) (.slice none 0 0) (iv 1) rfl rfl rfl ⟨x03, 0, none, 0, 0, by rw [e], fun _ => ⟨rfl, rfl, rfl⟩, fun q => absurd (e.symm.trans q) (by decide)⟩
  obtain ⟨fN, rfl⟩ : ∃ i : Nat, f = i := ⟨f.toNat, by omega⟩
  obtain ⟨tN, rfl⟩ : ∃ i : Nat, t = i := ⟨t.toNat, by omega⟩
  obtain ⟨ba, oa, csa, y, hA, hy, -, -, hcy, rfl, -⟩ := (hl.ext x03).at_ (k := fN) (by omega)
  have ey := clA_at hy
  have hl3 := hl.ext x03
  subst hA
  refine idx fN rfl (by omega) ?_
  refine ld (iv y) (hcy 0 _ rfl) ?_
  refine cD (fun p3 => ?_) (fun p3 => ?_)
  · have e := bad' fun h => by have := h.2.2.2.2.2.2; rw [Int.toNat_natCast, ey] at this; omega
    exact ret3 (iv 0) (.slice none 0 0) (iv 1) rfl rfl rfl ⟨x03, 0, none, 0, 0, by rw [e], fun _ => ⟨rfl, rfl, rfl⟩, fun q => absurd (e.symm.trans q) (by decide)⟩
  have hall : 0 ≤ (fN : Int) ∧ (fN : Int) < d.farms.length ∧ 0 ≤ (tN : Int) ∧ (tN : Int) < d.farms.length ∧ (fN : Int) ≠ tN ∧ 0 ≤ x ∧ x ≤ clA aw (fN : Int).toNat := ⟨q1, by omega, q3, by omega, q5, by omega, by rw [Int.toNat_natCast, ey]; omega⟩
  rw [if_pos hall] at e0
  have M : MvOk d hs aw fN tN x := ⟨hn, by omega, by omega, by omega, by rw [ey]; omega⟩
  refine ldA [.string d.name, iv d.hours, iv d.cap, iv d.start, .slice A1 n1 c1, .slice A2 n2 c2, .slice A3 n3 c3, .slice A4 n4 c4, .slice A5 n5 c5, .slice A6 n6 c6] (.blk B5) rfl ?_
  refine call_of (c_h46move (D := D) M (hd0.ext x03) hl3) ?_
  rintro _ w4 ⟨x4, g', A', c', hg, rfl, s4⟩
  exact ret3 (iv g') (.slice A' n c') (iv 0) rfl rfl rfl ⟨x03.trans x4, g', A', n, c', by rw [e0], fun q => absurd e0 q, fun _ => ⟨rfl, hs, M, hg, s4.more (by decide) fun b _ h => by have := x03.size; omega⟩⟩
set_option maxRecDepth 8000 in
theorem c_HarmlessSpec {csd : List Value} {d : Dist} {aw : List Int} {f t x : Int} {A : Option Addr} {n c : Nat} (hd : DiR D w csd d) (hl : SlR tInt D w A n aw) : CallZ Tryz.prog 3 #[.agg csd.toArray, .slice A n c, iv f, iv t, iv x] w (fun v w' => v = .bool true ∧ Ext w w') := by
  have hd0 := hd
  obtain ⟨A1, n1, c1, A2, n2, c2, A3, n3, c3, A4, n4, c4, A5, n5, c5, A6, n6, c6, rfl, hr, hf, -⟩ := hd.ex
  refine fn_rule (args := [.agg #[.string d.name, iv d.hours, iv d.cap, iv d.start, .slice A1 n1 c1, .slice A2 n2 c2, .slice A3 n3 c3, .slice A4 n4 c4, .slice A5 n5 c5, .slice A6 n6 c6], .slice A n c, iv f, iv t, iv x]) Tryz.func3 (by kernel_rfl) ?_
  refine box (fun b5 w1 h1 => ?_)
  have B5 : Blk w1 b5 31 [.string d.name, iv d.hours, iv d.cap, iv d.start, .slice A1 n1 c1, .slice A2 n2 c2, .slice A3 n3 c3, .slice A4 n4 c4, .slice A5 n5 c5, .slice A6 n6 c6] := h1.blk
  refine call_of (c_hsane) ?_
  rintro _ w2 ⟨rfl, x2⟩
  have B5 := B5.ext x2
  have x02 := h1.ext.trans x2
  refine ldA [.string d.name, iv d.hours, iv d.cap, iv d.start, .slice A1 n1 c1, .slice A2 n2 c2, .slice A3 n3 c3, .slice A4 n4 c4, .slice A5 n5 c5, .slice A6 n6 c6] (.blk B5) rfl ?_
  refine call_of (c_hFew (hd0.ext x02)) ?_
  rintro _ w3 ⟨⟨q, rfl⟩, x3⟩
  have B5 := B5.ext x3
  have x03 := x02.trans x3
  cases q with
  | false => exact ret1 (.bool true) rfl ⟨rfl, x03⟩
  | true =>
  refine ldA [.string d.name, iv d.hours, iv d.cap, iv d.start, .slice A1 n1 c1, .slice A2 n2 c2, .slice A3 n3 c3, .slice A4 n4 c4, .slice A5 n5 c5, .slice A6 n6 c6] (.blk B5) rfl ?_
  refine call_of (c_hMove (hd0.ext x03) (hl.ext x03)) ?_
  rintro _ w4 ⟨x4, g, A', n', c', rfl, hbad, hok⟩
  have x04 := x03.trans x4
  have B5 := B5.ext x4
  refine ldA [.string d.name, iv d.hours, iv d.cap, iv d.start, .slice A1 n1 c1, .slice A2 n2 c2, .slice A3 n3 c3, .slice A4 n4 c4, .slice A5 n5 c5, .slice A6 n6 c6] (.blk B5) rfl ?_
  refine call_of (c_h46Move (hd0.ext x04) (hl.ext x04)) ?_
  rintro _ w5 ⟨x5, g2, A2', n2', c2', rfl, hbad2, hok2⟩
  have x05 := x04.trans x5
  by_cases he : mvErr d aw f t x = 0
  · obtain ⟨rfl, bf, M, G, s⟩ := hok he
    obtain ⟨rfl, bf2, M2, G2, s2⟩ := hok2 he
    have hb := M.hd.symm.trans M2.hd
    injection hb with hb
    subst hb
    have hg := G.uniq G2
    subst hg
    refine cE (fun _ => ?_) (fun h => absurd rfl h)
    refine callB (c_h46Same (D := fun _ => True) ((s.ext x5).more (by decide) fun _ _ _ => trivial) (s2.more (by decide) fun _ _ _ => trivial)) (fun _ => ?_) (fun h => absurd (of_decide_eq_false h) (fun h => h rfl))
    refine cE (fun _ => ?_) (fun h => absurd rfl h)
    exact ret1 (.bool true) rfl ⟨rfl, x05⟩
  · obtain ⟨rfl, rfl, rfl⟩ := hbad he
    obtain ⟨rfl, rfl, rfl⟩ := hbad2 he
    refine cE (fun _ => ?_) (fun h => absurd rfl h)
    refine callB (c_h46Same (D := fun _ => True) (xs := []) (ys := []) SlR.nil SlR.nil) (fun _ => ?_) (fun h => absurd (of_decide_eq_false h) (fun h => h rfl))
    refine cE (fun _ => ?_) (fun h => absurd rfl h)
    exact ret1 (.bool true) rfl ⟨rfl, x05⟩
end
end Go.Proofs.YtcpogcdadlcdaaaGreat

/- Layer 46: the reference's deal, Execute; HarmlessExecuteSpec. -/
namespace Go.Proofs.YtcpogcdadlcdaaaGreat
open Go Go.RowKit

section
variable {D : Nat → Prop} {w : World}
theorem c_h46deal {csd : List Value} {d : Dist} {x : DealR} (hd : DiR D w csd d) : CallZ Tryz.prog 29 #[.agg csd.toArray, .agg x.c.toArray] w (fun v w' => v = .bool (dealB d x) ∧ Ext w w') := by
  obtain ⟨A1, n1, c1, A2, n2, c2, A3, n3, c3, A4, n4, c4, A5, n5, c5, A6, n6, c6, rfl, hr, hf, -⟩ := hd.ex
  have lf := hf.len
  refine fn_rule (args := [.agg #[.string d.name, iv d.hours, iv d.cap, iv d.start, .slice A1 n1 c1, .slice A2 n2 c2, .slice A3 n3 c3, .slice A4 n4 c4, .slice A5 n5 c5, .slice A6 n6 c6], .agg x.c.toArray]) Tryz.func29 (by kernel_rfl) ?_
  refine box (fun b2 w1 h1 => ?_)
  refine box (fun b3 w2 h2 => ?_)
  have B2 : Blk w2 b2 31 [.string d.name, iv d.hours, iv d.cap, iv d.start, .slice A1 n1 c1, .slice A2 n2 c2, .slice A3 n3 c3, .slice A4 n4 c4, .slice A5 n5 c5, .slice A6 n6 c6] := h1.blk.ext h2.ext
  have B3 : Blk w2 b3 49 x.c := h2.blk
  have x2 := h1.ext.trans h2.ext
  have no : ¬ ((0 ≤ x.frm ∧ x.frm ≤ (d.farms.length : Int) - 1) ∧ (0 ≤ x.to ∧ x.to ≤ (d.farms.length : Int) - 1) ∧ x.frm ≠ x.to ∧ (0 ≤ x.litres ∧ x.litres ≤ 1073741824) ∧ (0 ≤ x.lo ∧ x.lo ≤ x.hi) ∧ x.hi ≤ 10000) → Value.bool false = .bool (dealB d x) := fun h => by
    congr 1
    cases hq : dealB d x with
    | false => rfl
    | true => exact absurd (dealB_iff.1 hq) h
  refine fldA ?_
  refine ld (iv x.frm) (B3.cell rfl) ?_
  refine fldA ?_
  refine ld (iv x.to) (B3.cell rfl) ?_
  refine fldA ?_
  refine ld (.slice A2 n2 c2) (B2.cell rfl) ?_
  refine len ?_
  refine callB (c_h46farms (a := x.frm) (b := x.to) (m := (n2 : Int))) (fun p1 => ?_) (fun p1 => ?_)
  rotate_left
  · exact ret1 (.bool false) rfl ⟨no fun h => of_decide_eq_false p1 ⟨h.1.1, by omega, h.2.1.1, by omega, h.2.2.1⟩, x2⟩
  obtain ⟨q1, q2, q3, q4, q5⟩ := of_decide_eq_true p1
  refine fldA ?_
  refine ld (iv x.litres) (B3.cell rfl) ?_
  refine cD (fun p2 => ?_) (fun p2 => ?_)
  rotate_left
  · exact ret1 (.bool false) rfl ⟨no fun h => p2 h.2.2.2.1.1, x2⟩
  refine fldA ?_
  refine ld (iv x.litres) (B3.cell rfl) ?_
  refine cD (fun p3 => ?_) (fun p3 => ?_)
  rotate_left
  · exact ret1 (.bool false) rfl ⟨no fun h => p3 h.2.2.2.1.2, x2⟩
  refine fldA ?_
  refine fldA ?_
  refine ld (iv x.lo) (B3.cell rfl) ?_
  refine cD (fun p4 => ?_) (fun p4 => ?_)
  rotate_left
  · exact ret1 (.bool false) rfl ⟨no fun h => p4 h.2.2.2.2.1.1, x2⟩
  refine fldA ?_
  refine fldA ?_
  refine ld (iv x.lo) (B3.cell rfl) ?_
  refine fldA ?_
  refine fldA ?_
  refine ld (iv x.hi) (B3.cell rfl) ?_
  refine cD (fun p5 => ?_) (fun p5 => ?_)
  rotate_left
  · exact ret1 (.bool false) rfl ⟨no fun h => p5 h.2.2.2.2.1.2, x2⟩
  refine fldA ?_
  refine fldA ?_
  refine ld (iv x.hi) (B3.cell rfl) ?_
  refine cD (fun p6 => ?_) (fun p6 => ?_)
  rotate_left
  · exact ret1 (.bool false) rfl ⟨no fun h => p6 h.2.2.2.2.2, x2⟩
  exact ret1 (.bool true) rfl ⟨by rw [dealB_iff.2 ⟨⟨q1, by omega⟩, ⟨q3, by omega⟩, q5, ⟨p2, p3⟩, ⟨p4, p5⟩, p6⟩], x2⟩
set_option maxRecDepth 8000 in
set_option maxHeartbeats 2000000 in
theorem c_h46Execute {csd : List Value} {d : Dist} {aw : List Int} {ds : List DealR} {rain : Int} {A B : Option Addr} {n c m cm : Nat} (hd : DiR D w csd d) (hl : SlR tInt D w A n aw) (hs : SlR tDeal D w B m ds) :
    CallZ Tryz.prog 13 #[.agg csd.toArray, .slice A n c, .slice B m cm, iv rain] w (fun v w' => Ext w w' ∧ ∃ G ng cg N nn cn, v = .tuple #[.slice G ng cg, .slice N nn cn, iv (exErr d aw ds rain)] ∧ (exErr d aw ds rain ≠ 0 → G = none ∧ ng = 0 ∧ N = none ∧ nn = 0) ∧
      (exErr d aw ds rain = 0 → ng = m ∧ nn = n ∧ ∃ got out, ExV d rain ds aw got out ∧ SlR tInt (fun _ => True) w' G m got ∧ SlR tInt (fun _ => True) w' N n out)) := by
  have hd0 := hd
  obtain ⟨A1, n1, c1, A2, n2, c2, A3, n3, c3, A4, n4, c4, A5, n5, c5, A6, n6, c6, rfl, hr, hf, -⟩ := hd.ex
  have ll := hl.len
  have ls := hs.len
  have lf := hf.len
  have hls := hs.le
  refine fn_rule (args := [.agg #[.string d.name, iv d.hours, iv d.cap, iv d.start, .slice A1 n1 c1, .slice A2 n2 c2, .slice A3 n3 c3, .slice A4 n4 c4, .slice A5 n5 c5, .slice A6 n6 c6], .slice A n c, .slice B m cm, iv rain]) Tryz.func13 (by kernel_rfl) ?_
  refine box (fun b4 w1 h1 => ?_)
  have B4 : Blk w1 b4 31 [.string d.name, iv d.hours, iv d.cap, iv d.start, .slice A1 n1 c1, .slice A2 n2 c2, .slice A3 n3 c3, .slice A4 n4 c4, .slice A5 n5 c5, .slice A6 n6 c6] := h1.blk
  refine ldA [.string d.name, iv d.hours, iv d.cap, iv d.start, .slice A1 n1 c1, .slice A2 n2 c2, .slice A3 n3 c3, .slice A4 n4 c4, .slice A5 n5 c5, .slice A6 n6 c6] (.blk B4) rfl ?_
  refine call_of (c_r19Check (hd0.ext h1.ext)) ?_
  rintro _ w2 ⟨rfl, x2⟩
  have B4 := B4.ext x2
  have x02 := h1.ext.trans x2
  refine cN (fun g => ?_) (fun g => ?_)
  · have e : exErr d aw ds rain = dErr d := by unfold exErr; rw [if_pos g]
    exact ret3 (.slice none 0 0) (.slice none 0 0) (iv (dErr d)) rfl rfl rfl ⟨x02, none, 0, 0, none, 0, 0, by rw [e], fun _ => ⟨rfl, rfl, rfl, rfl⟩, fun q => absurd (e.symm.trans q) g⟩
  have g : dErr d = 0 := g
  have e0 : exErr d aw ds rain = if 64 < ds.length then 2 else if inI rain 0 10000 = false then 1 else if headsV d aw = none then 460 else if ds.all (dealB d) then 0 else 460 := by unfold exErr; rw [if_neg (fun h => h g)]
  refine len ?_
  refine cD (fun g1 => ?_) (fun g1 => ?_)
  · rw [if_pos (by omega)] at e0
    exact ret3 (.slice none 0 0) (.slice none 0 0) (iv 2) rfl rfl rfl ⟨x02, _, _, _, _, _, _, by rw [e0], fun _ => ⟨rfl, rfl, rfl, rfl⟩, fun q => absurd (e0.symm.trans q) (by decide)⟩
  rw [if_neg (by omega)] at e0
  refine cD (fun g2 => ?_) (fun g2 => ?_)
  · rw [if_pos (by cases h : inI rain 0 10000 with | false => rfl | true => have := inI_iff.1 h; omega)] at e0
    exact ret3 (.slice none 0 0) (.slice none 0 0) (iv 1) rfl rfl rfl ⟨x02, _, _, _, _, _, _, by rw [e0], fun _ => ⟨rfl, rfl, rfl, rfl⟩, fun q => absurd (e0.symm.trans q) (by decide)⟩
  refine cD (fun g3 => ?_) (fun g3 => ?_)
  · rw [if_pos (by cases h : inI rain 0 10000 with | false => rfl | true => have := inI_iff.1 h; omega)] at e0
    exact ret3 (.slice none 0 0) (.slice none 0 0) (iv 1) rfl rfl rfl ⟨x02, _, _, _, _, _, _, by rw [e0], fun _ => ⟨rfl, rfl, rfl, rfl⟩, fun q => absurd (e0.symm.trans q) (by decide)⟩
  rw [if_neg (by rw [inI_iff.2 ⟨by omega, by omega⟩]; simp)] at e0
  refine ldA [.string d.name, iv d.hours, iv d.cap, iv d.start, .slice A1 n1 c1, .slice A2 n2 c2, .slice A3 n3 c3, .slice A4 n4 c4, .slice A5 n5 c5, .slice A6 n6 c6] (.blk B4) rfl ?_
  refine call_of (c_h46heads (hd0.ext x02) (hl.ext x02)) ?_
  rintro _ w3 ⟨x3, ⟨hn, Bn, nb, cb, rfl⟩ | ⟨bf, bh, ch, hn, rfl, hb, Bh⟩⟩
  · rw [if_pos hn] at e0
    exact ret3 (.slice none 0 0) (.slice none 0 0) (iv 460) rfl rfl rfl ⟨x02.trans x3, _, _, _, _, _, _, by rw [e0], fun _ => ⟨rfl, rfl, rfl, rfl⟩, fun q => absurd (e0.symm.trans q) (by decide)⟩
  rw [if_neg (by rw [hn]; simp)] at e0
  obtain ⟨-, -, R⟩ := headsV_some hn
  have lcl := R.lc
  have hvf := R.v.f
  have B4 := B4.ext x3
  have x03 := x02.trans x3
  refine loop_rule (fun k : Nat => [(14, iv (k : Int))]) (fun k u => k ≤ m ∧ Ext w3 u ∧ ∀ x ∈ ds.take k, dealB d x = true) (fun k _ => m - k) 0 ⟨rfl, trivial⟩ ⟨by omega, .refl _ _, fun x hx => by simp at hx⟩ rfl ?_
  rintro G1 k u ⟨hk, xu, hall⟩
  have B4 := B4.ext xu
  have x0u := x03.trans xu
  refine len ?_
  refine cD (fun hlt => ?_) (fun hge => ?_)
  · have hlt : k < m := by omega
    obtain ⟨b, o, cs, x, rfl, hx, -, -, hc, rfl⟩ := (hs.ext x0u).at_ hlt
    have htk : ds.take (k + 1) = ds.take k ++ [x] := by rw [List.take_add_one, hx]; rfl
    refine drawP (.take 0 (.take 1 (.take 2 (.take 3 (.take 4 (.eff 5 (.take 6 .done))))))) [] (fun y => Ext u y) mx (by kernel_rfl) (.refl _ _) ?_
    refine ldAK [.string d.name, iv d.hours, iv d.cap, iv d.start, .slice A1 n1 c1, .slice A2 n2 c2, .slice A3 n3 c3, .slice A4 n4 c4, .slice A5 n5 c5, .slice A6 n6 c6] (.blk B4) rfl trivial (.refl _ _) ?_
    refine idx k rfl hlt ?_
    refine ldAK x.c hc rfl trivial (.refl _ _) ?_
    refine call_of (c_h46deal (x := x) (hd0.ext x0u)) ?_
    rintro _ u2 ⟨rfl, xu2⟩
    refine strS xu2 ?_
    cases hq : dealB d x with
    | false =>
      rw [if_neg (fun h => by rw [List.all_eq_true.1 h x (List.mem_of_getElem? hx)] at hq; cases hq)] at e0
      exact ret3 (.slice none 0 0) (.slice none 0 0) (iv 460) rfl rfl rfl ⟨x0u.trans xu2, _, _, _, _, _, _, by rw [e0], fun _ => ⟨rfl, rfl, rfl, rfl⟩, fun q => absurd (e0.symm.trans q) (by decide)⟩
    | true =>
      refine arI (by omega) ?_
      refine next (k + 1) ⟨by rw [Int.natCast_add]; rfl, trivial⟩ ⟨by omega, xu.trans xu2, fun y hy => ?_⟩ (by omega)
      rw [htk, List.mem_append, List.mem_singleton] at hy
      rcases hy with hy | rfl
      · exact hall y hy
      · exact hq
  rw [List.take_of_length_le (by omega)] at hall
  have ok0 : exErr d aw ds rain = 0 := by rw [e0, if_pos (List.all_eq_true.2 hall)]
  refine len ?_
  refine mslc (sz := 1) (zv := iv 0) m rfl rfl (by omega) (by omega) rfl (by decide) (fun bg v1 i1 => ?_)
  have y1 := i1.at_
  refine lit [] (fun g0 v2 h0 => ?_)
  have hl2 := ((hl.ext x0u).ext i1.ext).ext h0.ext
  have o1 : OwnF v1 v2 (some (ad g0 0)) 0 0 3 1 [] := OwnF.lit (cs := []) (.refl _ _) h0 rfl
  have hsrc : Src v2 A n 1 (aw.map fun v => Value.int .i64 v) := by
    refine ⟨by rw [List.length_map]; omega, fun hn0 => ?_⟩
    obtain ⟨b, o, cs, x, rfl, _⟩ := hl2.at_ hn0
    obtain ⟨cs2, hf, hc⟩ := hl2.cells
    refine ⟨b, o, rfl, ?_⟩
    rw [← flatJ_eq hf]; exact hc
  refine appF o1 hsrc (by omega) (fun A' c' v3 o3 _ _ => ?_) (h1 := by rw [List.all_map]; exact List.all_eq_true.2 fun _ _ => rfl)
  rw [List.nil_append] at o3
  rw [Nat.zero_add] at o3 ⊢
  have x13 := o3.ext
  have z1 := i1.size
  have s3 : SlR tInt (fun b => v1.heap.size ≤ b) v3 A' n aw := o3.ints (okL_i64 R.okc) (by omega) fun _ h => h
  have Bg0 : Blk v3 bg 3 (ivs (List.replicate m 0)) := by
    have q := i1.blk.ext x13
    have e : ivs (List.replicate m 0) = (List.replicate m (cellsL (iv 0))).flatten := by
      unfold ivs
      rw [List.map_replicate]
      show List.replicate m (iv 0) = (List.replicate m [iv 0]).flatten
      rw [List.flatten_replicate_singleton]
    rw [e]; exact q
  have xu3 := i1.ext.trans x13
  have x0v3 := x0u.trans xu3
  have lbg := Bg0.lt
  have hbgu : u.heap.size ≤ bg := by omega
  have s3 : SlR tInt (fun b => b ≠ bg) v3 A' n aw := s3.more (by decide) fun b _ h => by have := i1.blk.lt; omega
  have hd3 : DiR (fun b => b < w.heap.size) v3 [.string d.name, iv d.hours, iv d.cap, iv d.start, .slice A1 n1 c1, .slice A2 n2 c2, .slice A3 n3 c3, .slice A4 n4 c4, .slice A5 n5 c5, .slice A6 n6 c6] d := (hd0.more (D' := fun b => b < w.heap.size) fun b hb _ => hb).kept x0v3 fun b _ _ => trivial
  have hs3 : SlR tDeal (fun b => b < w.heap.size) v3 B m ds := (hs.more (D' := fun b => b < w.heap.size) (by decide) fun b hb _ => hb).kept x0v3 fun b _ _ => trivial
  have l04 := B4.lt
  have B4 := B4.ext xu3
  have z0u := x0u.size
  refine loop4 (fun (k : Nat) (N : Option Addr) (cn : Nat) (_ : List Int × List Int × List Int) => [(16, .slice N n cn), (17, iv (k : Int))])
    (fun k N cn s z => k ≤ m ∧ ExV d rain (ds.take k) aw s.1 s.2.1 ∧ headsV d s.2.1 = some s.2.2 ∧ OkL s.1 ∧ Blk z bg 3 (ivs (s.1 ++ List.replicate (m - k) 0)) ∧ SlR tInt (fun b => b ≠ bg) z N n s.2.1 ∧ Kept (fun b => b ≠ bg) v3 z)
    (fun k _ _ _ _ => m - k) 0 A' c' ([], aw, bf) ⟨rfl, rfl, trivial⟩ ⟨by omega, ⟨rfl, rfl⟩, hn, fun c hc => (by cases hc), by simpa using Bg0, s3, .refl _ _⟩ rfl ?_
  rintro G2 k N cn ⟨gl, nx, bf'⟩ z ⟨hk, j1, j2, j3, j4, j5, kz⟩
  have j1 : ExV d rain (ds.take k) aw gl nx := j1
  have j2 : headsV d nx = some bf' := j2
  have j3 : OkL gl := j3
  have j4 : Blk z bg 3 (ivs (gl ++ List.replicate (m - k) 0)) := j4
  have j5 : SlR tInt (fun b => b ≠ bg) z N n nx := j5
  have gll := j1.len.1
  rw [List.length_take, Nat.min_eq_left (by omega)] at gll
  have zk := kz.size
  refine len ?_
  refine cD (fun hlt => ?_) (fun hge => ?_)
  · have hlt : k < m := by omega
    obtain ⟨b, o, cs, x, rfl, hx, -, -, hc, rfl⟩ := (hs3.kept kz fun b _ h => (show b ≠ bg by omega)).at_ hlt
    refine idx k rfl hlt ?_
    refine ldA x.c hc rfl ?_
    refine alloc (fun b18 z1 i1 => ?_)
    refine stA (vs := x.c) i1.blk rfl (Nat.le_of_ble_eq_true rfl) (by simp [Value.oneCell']) (fun z2 B18 k2 s2' => ?_)
    have B18 : Blk z2 b18 49 x.c := B18
    have y18 := i1.at_
    have xz : Ext z z2 := i1.ext.then k2 fun b hb _ e => by omega
    have kz2 := kz.then xz fun _ _ _ => trivial
    have lg := j4.lt
    have j4 := j4.ext xz
    have j5 := j5.ext xz
    have skip : inI rain x.lo x.hi = false → ExV d rain (ds.take (k + 1)) aw (gl ++ [0]) nx ∧ OkL (gl ++ [0]) ∧ ivs ((gl ++ [0]) ++ List.replicate (m - (k + 1)) 0) = ivs (gl ++ List.replicate (m - k) 0) := fun hin => by
      refine ⟨by rw [List.take_add_one, hx]; exact j1.snoc_no hin, fun c hc => ?_, ?_⟩
      · rw [List.mem_append, List.mem_singleton] at hc
        rcases hc with hc | rfl
        · exact j3 c hc
        · decide
      · rw [List.append_assoc, show [0] ++ List.replicate (m - (k + 1)) 0 = List.replicate (m - k) (0 : Int) by rw [show m - k = (m - (k + 1)) + 1 by omega, List.replicate_succ]; rfl]
    refine fldA ?_
    refine fldA ?_
    refine ld (iv x.lo) (B18.cell rfl) ?_
    refine cD (fun p1 => ?_) (fun p1 => ?_)
    rotate_left
    · obtain ⟨a1, a2, a3⟩ := skip (by cases h : inI rain x.lo x.hi with | false => rfl | true => exact absurd (inI_iff.1 h).1 p1)
      refine arI (by omega) ?_
      exact next4 (k + 1) N cn (gl ++ [0], nx, bf') ⟨rfl, by rw [Int.natCast_add]; rfl, trivial⟩ ⟨by omega, a1, j2, a2, by rw [a3]; exact j4, j5, kz2⟩ (by omega)
    refine fldA ?_
    refine fldA ?_
    refine ld (iv x.hi) (B18.cell rfl) ?_
    refine cD (fun p2 => ?_) (fun p2 => ?_)
    rotate_left
    · obtain ⟨a1, a2, a3⟩ := skip (by cases h : inI rain x.lo x.hi with | false => rfl | true => exact absurd (inI_iff.1 h).2 p2)
      refine arI (by omega) ?_
      exact next4 (k + 1) N cn (gl ++ [0], nx, bf') ⟨rfl, by rw [Int.natCast_add]; rfl, trivial⟩ ⟨by omega, a1, j2, a2, by rw [a3]; exact j4, j5, kz2⟩ (by omega)
    have hin : inI rain x.lo x.hi = true := inI_iff.2 ⟨p1, p2⟩
    clear skip
    obtain ⟨t1, t2, t3, t4, t5, t6⟩ := dealB_iff.1 (hall x (List.mem_of_getElem? hx))
    obtain ⟨fN, hfN⟩ : ∃ i : Nat, x.frm = i := ⟨x.frm.toNat, by omega⟩
    obtain ⟨tN, htN⟩ : ∃ i : Nat, x.to = i := ⟨x.to.toNat, by omega⟩
    obtain ⟨-, -, R'⟩ := headsV_some j2
    have lnx := R'.lc
    have okf := clA_ok R'.okc fN
    have M : MvOk d bf' nx fN tN (min x.litres (clA nx fN)) := ⟨j2, by omega, by omega, fun h => t3 (by rw [hfN, htN, h]), by omega⟩
    obtain ⟨ba, oa, csa, y, hA, hy, -, -, hcy, rfl, -⟩ := j5.at_ (k := fN) (by omega)
    have ey : y = clA nx fN := (clA_at hy).symm
    have B4z := B4.kept kz2 (show b4 ≠ bg by omega)
    have hdz := hd3.kept kz2 fun b _ h => (show b ≠ bg by omega)
    refine drawP (.take 0 (.take 1 (.take 2 (.take 3 (.take 4 (.take 5 (.take 6 (.take 7 (.take 8 (.take 9 (.take 10 (.take 11 (.take 12 (.take 13 (.take 14 (.take 15 (.eff 16 (.take 17 (.take 18 (.take 19 (.take 20 (.bar (.eff 21 (.take 22 .done)))))))))))))))))))))))) [21, 22] (fun q => Ext z2 q) mx (by kernel_rfl) (.refl _ _) ?_
    refine ldAK [.string d.name, iv d.hours, iv d.cap, iv d.start, .slice A1 n1 c1, .slice A2 n2 c2, .slice A3 n3 c3, .slice A4 n4 c4, .slice A5 n5 c5, .slice A6 n6 c6] (.blk B4z) rfl trivial (.refl _ _) ?_
    refine fldA ?_
    refine ldK (iv x.frm) (B18.cell rfl) trivial (.refl _ _) ?_
    refine fldA ?_
    refine ldK (iv x.to) (B18.cell rfl) trivial (.refl _ _) ?_
    refine fldA ?_
    refine ldK (iv x.litres) (B18.cell rfl) trivial (.refl _ _) ?_
    refine fldA ?_
    refine ldK (iv x.frm) (B18.cell rfl) trivial (.refl _ _) ?_
    rw [hfN, htN, hA]
    refine idx fN rfl (by omega) ?_
    refine ldK (iv y) (hcy 0 _ rfl) trivial (.refl _ _) ?_
    rw [ey, ← hA]
    refine call_of (c_h46move (D := fun _ => True) M (hdz.more fun _ _ _ => trivial) (j5.more (by decide) fun _ _ _ => trivial)) ?_
    rintro _ z4 ⟨x4', g', A'', c'', hg, rfl, s4⟩
    refine strS x4' ?_
    have hgb := hg.lo
    have hgl := hg.le
    have okt := clA_ok R'.okc tN
    refine idx k rfl (by omega) ?_
    refine barS (fun _ => True) trivial ?_
    refine st (v := iv g') (j4.ext x4') (by simp [ivs]; omega) rfl (fun z5 Bg5 k5 s5' => ?_)
    refine strS trivial ?_
    have zz2 := xz.size
    have z4s := x4'.size
    have eg : (ivs (gl ++ List.replicate (m - k) 0)).set k (iv g') = ivs ((gl ++ [g']) ++ List.replicate (m - (k + 1)) 0) := by
      rw [ivs_set, show m - k = (m - (k + 1)) + 1 by omega, List.replicate_succ, List.set_append_right _ _ (by omega), show k - gl.length = 0 by omega, List.append_assoc]; rfl
    obtain ⟨bf2, hb2, -, -⟩ := M.next hg
    refine arI (by omega) ?_
    refine next4 (k + 1) A'' c'' (gl ++ [g'], chgV nx fN tN (min x.litres (clA nx fN)) g', bf2) ⟨rfl, by rw [Int.natCast_add]; rfl, trivial⟩ ⟨by omega, ?_, hb2, fun c hc => ?_, ?_, ?_, (kz2.then x4' fun _ _ _ => trivial).then k5 fun b _ h => h⟩ (by omega)
    · rw [List.take_add_one, hx]
      have := j1.snoc_yes (x := x) (bf := bf') (g := g') hin (by rw [hfN, htN]; exact M) (by rw [hfN, htN]; exact hg)
      rw [hfN, htN] at this
      exact this
    · rw [List.mem_append, List.mem_singleton] at hc
      rcases hc with hc | rfl
      · exact j3 c hc
      · omega
    · rw [← eg]
      simpa using Bg5
    · exact (s4.kept k5 fun b _ h => (show b ≠ bg by omega)).more (by decide) fun b _ h => (show b ≠ bg by omega)
  · rw [List.take_of_length_le (by omega)] at j1
    have hkm : k = m := by omega
    rw [hkm, Nat.sub_self, List.replicate_zero, List.append_nil] at j4
    obtain ⟨-, -, R'⟩ := headsV_some j2
    exact ret3 (.slice (some (ad bg 0)) m m) (.slice N n cn) (iv 0) rfl rfl rfl ⟨x0v3.then kz fun b hb _ => (show b ≠ bg by omega), _, _, _, _, _, _, by rw [ok0], fun q => absurd ok0 q, fun _ => ⟨rfl, rfl, gl, nx, j1, blk_ints j4 (by omega) j3 (by omega) trivial, j5.more (by decide) fun _ _ _ => trivial⟩⟩
set_option maxRecDepth 8000 in
theorem c_HarmlessExecuteSpec {csd : List Value} {d : Dist} {aw : List Int} {ds : List DealR} {rain : Int} {A B : Option Addr} {n c m cm : Nat} (hd : DiR D w csd d) (hl : SlR tInt D w A n aw) (hs : SlR tDeal D w B m ds) : CallZ Tryz.prog 4 #[.agg csd.toArray, .slice A n c, .slice B m cm, iv rain] w (fun v w' => v = .bool true ∧ Ext w w') := by
  have hd0 := hd
  obtain ⟨A1, n1, c1, A2, n2, c2, A3, n3, c3, A4, n4, c4, A5, n5, c5, A6, n6, c6, rfl, hr, hf, -⟩ := hd.ex
  refine fn_rule (args := [.agg #[.string d.name, iv d.hours, iv d.cap, iv d.start, .slice A1 n1 c1, .slice A2 n2 c2, .slice A3 n3 c3, .slice A4 n4 c4, .slice A5 n5 c5, .slice A6 n6 c6], .slice A n c, .slice B m cm, iv rain]) Tryz.func4 (by kernel_rfl) ?_
  refine box (fun b4 w1 h1 => ?_)
  have B4 : Blk w1 b4 31 [.string d.name, iv d.hours, iv d.cap, iv d.start, .slice A1 n1 c1, .slice A2 n2 c2, .slice A3 n3 c3, .slice A4 n4 c4, .slice A5 n5 c5, .slice A6 n6 c6] := h1.blk
  refine call_of (c_hsane) ?_
  rintro _ w2 ⟨rfl, x2⟩
  have B4 := B4.ext x2
  have x02 := h1.ext.trans x2
  refine ldA [.string d.name, iv d.hours, iv d.cap, iv d.start, .slice A1 n1 c1, .slice A2 n2 c2, .slice A3 n3 c3, .slice A4 n4 c4, .slice A5 n5 c5, .slice A6 n6 c6] (.blk B4) rfl ?_
  refine call_of (c_hFew (hd0.ext x02)) ?_
  rintro _ w3 ⟨⟨q, rfl⟩, x3⟩
  have B4 := B4.ext x3
  have x03 := x02.trans x3
  cases q with
  | false => exact ret1 (.bool true) rfl ⟨rfl, x03⟩
  | true =>
  refine ldA [.string d.name, iv d.hours, iv d.cap, iv d.start, .slice A1 n1 c1, .slice A2 n2 c2, .slice A3 n3 c3, .slice A4 n4 c4, .slice A5 n5 c5, .slice A6 n6 c6] (.blk B4) rfl ?_
  refine call_of (c_hExecute (hd0.ext x03) (hl.ext x03) (hs.ext x03)) ?_
  rintro _ w4 ⟨x4, GA, ng, cg, NA, nn, cn, rfl, hbad, hok⟩
  have x04 := x03.trans x4
  have B4 := B4.ext x4
  refine ldA [.string d.name, iv d.hours, iv d.cap, iv d.start, .slice A1 n1 c1, .slice A2 n2 c2, .slice A3 n3 c3, .slice A4 n4 c4, .slice A5 n5 c5, .slice A6 n6 c6] (.blk B4) rfl ?_
  refine call_of (c_h46Execute (hd0.ext x04) (hl.ext x04) (hs.ext x04)) ?_
  rintro _ w5 ⟨x5, GB, ng2, cg2, NB, nn2, cn2, rfl, hbad2, hok2⟩
  have x05 := x04.trans x5
  by_cases he : exErr d aw ds rain = 0
  · obtain ⟨rfl, rfl, -, -, got, out, bf, -, hex, -, -, -, sg, so⟩ := hok he
    obtain ⟨rfl, rfl, got2, out2, hex2, sg2, so2⟩ := hok2 he
    obtain ⟨rfl, rfl⟩ := hex.uniq hex2
    refine callB (c_h46Same (sg.ext x5) sg2) (fun _ => ?_) (fun h => absurd (of_decide_eq_false h) (fun h => h rfl))
    refine callB (c_h46Same (so.ext x5) so2) (fun _ => ?_) (fun h => absurd (of_decide_eq_false h) (fun h => h rfl))
    refine cE (fun _ => ?_) (fun h => absurd rfl h)
    exact ret1 (.bool true) rfl ⟨rfl, x05⟩
  · obtain ⟨rfl, rfl, rfl, rfl⟩ := hbad he
    obtain ⟨rfl, rfl, rfl, rfl⟩ := hbad2 he
    refine callB (c_h46Same (D := fun _ => True) (xs := []) (ys := []) SlR.nil SlR.nil) (fun _ => ?_) (fun h => absurd (of_decide_eq_false h) (fun h => h rfl))
    refine callB (c_h46Same (D := fun _ => True) (xs := []) (ys := []) SlR.nil SlR.nil) (fun _ => ?_) (fun h => absurd (of_decide_eq_false h) (fun h => h rfl))
    refine cE (fun _ => ?_) (fun h => absurd rfl h)
    exact ret1 (.bool true) rfl ⟨rfl, x05⟩
end
end Go.Proofs.YtcpogcdadlcdaaaGreat

/- Closing: what districts, awards and deals that are handed in read as. -/
namespace Go.Proofs.YtcpogcdadlcdaaaGreat
open Go Go.RowKit Go.ChangeShapes Go.WideShapes Go.ChangeAt

theorem rd_is : Rd Tryz.prog 32 (tSl tInt) := inferInstance
theorem rd_deal : Rd Tryz.prog 49 tDeal := by
  refine Rd.of (fun y : Int × Int × Int × Int × Int => (⟨y.1, y.2.1, y.2.2.1, y.2.2.2.1, y.2.2.2.2⟩ : DealR))
    (Rd.struct Tryz.underlying49 (by kernel_rfl) fun n => .cons (rdAt Tryz.prog 3 tInt n) rfl (.cons (rdAt Tryz.prog 3 tInt n) rfl (.cons (rdAt Tryz.prog 3 tInt n) rfl (.one (rd_range.h n) rfl)))) ?_
  rintro W cs ⟨a, b, c, d, e⟩ ⟨_, _, rfl, ⟨rfl, -⟩, _, _, rfl, ⟨rfl, -⟩, _, _, rfl, ⟨rfl, -⟩, _, _, rfl, ⟨rfl, -⟩, ⟨rfl, -⟩⟩
  rfl
instance : Rd Tryz.prog 49 tDeal := rd_deal
theorem rd_deals : Rd Tryz.prog 40 (tSl tDeal) := inferInstance
end Go.Proofs.YtcpogcdadlcdaaaGreat
