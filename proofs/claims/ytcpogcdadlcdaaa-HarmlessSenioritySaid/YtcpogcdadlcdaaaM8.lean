/- Parts of the proof: J3 J4 J5 Jk Jl Jz Jm Ji. -/
import Derived.Test.YtcpogcdadlcdaaaM7
import Derived.Test.YtcpogcdadlcdaaaM4
import Derived.WalkKit
import Derived.LoopTactic
import Derived.RegionTactic
import Derived.Deep.RegionWith
import Derived.StillTailTactics
import Derived.Deep.Draws
import Derived.Sort.Grow
import Derived.Shelf.SlSortCmp.QuietGrown
import Derived.Laws.Rows
import Derived.Test.YtcpogcdadlcdaaaProg
import Derived.Test.YtcpogcdadlcdaaaM2
import Derived.Shelf.SlSortCmp.WholeK
import Derived.Shelf.Lay
import Derived.Ground.SlsfProg
import Derived.Ground.NamesProg

/- Layer 46: contracts of move and Move. -/
namespace Go.Proofs.Ytcpogcdadlcdaaa
open Go Go.RowKit

def mvErr (d : Dist) (aw : List Int) (f t x : Int) : Int := if dErr d ≠ 0 then dErr d else if headsV d aw = none then 460 else if 0 ≤ f ∧ f < d.farms.length ∧ 0 ≤ t ∧ t < d.farms.length ∧ f ≠ t ∧ 0 ≤ x ∧ x ≤ clA aw f.toNat then 0 else 1
section
variable {D : Nat → Prop} {w : World}
set_option maxRecDepth 4000 in
theorem c_hmove1 {d : Dist} {bf aw : List Int} {f t : Nat} {x v : Int} {A A1 A2 A3 A4 A5 A6 : Option Addr} {n c n1 c1 n2 c2 n3 c3 n4 c4 n5 c5 n6 c6 b5 b6 b7 b8 b9 b12 bb : Nat} (M : MvOk d bf aw f t x) (hd : DiR D w [.string d.name, iv d.hours, iv d.cap, iv d.start, .slice A1 n1 c1, .slice A2 n2 c2, .slice A3 n3 c3, .slice A4 n4 c4, .slice A5 n5 c5, .slice A6 n6 c6] d) (hr : SlR tReach D w A1 n1 d.reaches) (hl : SlR tInt D w A n aw)
    (B5 : Blk w b5 38 [.string d.name, iv d.hours, iv d.cap, iv d.start, .slice A1 n1 c1, .slice A2 n2 c2, .slice A3 n3 c3, .slice A4 n4 c4, .slice A5 n5 c5, .slice A6 n6 c6]) (B6 : Blk w b6 39 [.slice A n c]) (B7 : Blk w b7 3 [iv (f : Int)]) (B8 : Blk w b8 3 [iv (t : Int)]) (B9 : Blk w b9 3 [iv x]) (B12 : Blk w b12 39 [.slice (some (ad bb 0)) d.reaches.length d.reaches.length]) (Bb : Blk w bb 3 (ivs bf)) (hv : 0 ≤ v ∧ v ≤ 1073741824 - clA aw t) :
    CallZ Try.prog 48 #[iv v, ptr b5, ptr b6, ptr b7, ptr b8, ptr b9, ptr b12] w (fun u w' => u = .bool (gotP d bf aw f t x v) ∧ Ext w w') := by
  have lr := hr.len
  have ll := hl.len
  have R := M.rdy
  have hvn := R.v.n
  have hvf := R.v.f
  have lcl := R.lc
  obtain ⟨fl, tl⟩ := M.fl
  refine fn_rule (args := [iv v, ptr b5, ptr b6, ptr b7, ptr b8, ptr b9, ptr b12]) Try.func48 (by kernel_rfl) ?_
  refine drawP (.take 0 (.take 1 (.take 2 (.take 3 (.take 4 (.take 5 (.eff 6 (.eff 7 (.take 8 (.take 9 (.take 10 (.take 11 (.take 12 .done))))))))))))) [] (fun z => Ext w z) mx (by kernel_rfl) (.refl _ _) ?_
  refine ldAK _ (.blk B5) rfl trivial (.refl _ _) ?_
  refine ldK (.slice A n c) (B6.cell rfl) trivial (.refl _ _) ?_
  refine ldK (iv (f : Int)) (B7.cell rfl) trivial (.refl _ _) ?_
  refine ldK (iv (t : Int)) (B8.cell rfl) trivial (.refl _ _) ?_
  refine ldK (iv x) (B9.cell rfl) trivial (.refl _ _) ?_
  refine call_of (c_hchanged (g := v) hl (by omega) R.okc (by omega) (by omega) M.ne M.hx hv) ?_
  rintro _ w1 ⟨x1, A', c', rfl, s1⟩
  refine strS x1 ?_
  refine call_of (c_hheads (D := fun _ => True) ((hd.ext x1).more fun _ _ _ => trivial) (s1.more (by decide) fun _ _ _ => trivial)) ?_
  rintro _ w2 ⟨x2, ⟨hn, B, nb, cb, rfl⟩ | ⟨hs, bh, hn, rfl, hb, Bh⟩⟩
  · refine strS (x1.trans x2) ?_
    refine drawQ mx (by kernel_rfl) ?_
    exact ret1 (.bool false) rfl ⟨by unfold gotP harmB; rw [hn], x1.trans x2⟩
  have x02 := x1.trans x2
  refine strS x02 ?_
  obtain ⟨-, -, R'⟩ := headsV_some hn
  have lhs := R'.lh
  have lbf := R.lh
  have Bb := Bb.ext x02
  have B12 := B12.ext x02
  have B5 := B5.ext x02
  have no : ¬ (clA hs 0 ≤ clA bf 0 ∧ ∀ r, r < d.reaches.length → clA hs r ≤ max (clA bf r) (rcC d r).cap) → Value.bool false = .bool (gotP d bf aw f t x v) := fun h => by
    congr 1
    cases hq : gotP d bf aw f t x v with
    | false => rfl
    | true =>
      obtain ⟨l, hl2, h1, h2⟩ := harmB_iff.1 hq
      rw [hn] at hl2; injection hl2 with hl2; subst hl2
      exact absurd ⟨h1, h2⟩ h
  refine drawQ mx (by kernel_rfl) ?_
  refine idx 0 rfl (by omega) ?_
  refine ld (iv (clA hs 0)) (blkI (i := 0) Bh R'.okh (n := d.reaches.length) (by omega) (by omega) (by omega) 0 _ rfl) ?_
  refine ld (.slice (some (ad bb 0)) d.reaches.length d.reaches.length) (B12.cell rfl) ?_
  refine idx 0 rfl (by omega) ?_
  refine ld (iv (clA bf 0)) (blkI (i := 0) Bb R.okh (n := d.reaches.length) (by omega) (by omega) (by omega) 0 _ rfl) ?_
  refine cD (fun g0 => ?_) (fun g0 => ?_)
  · exact ret1 (.bool false) rfl ⟨no (fun h => by omega), x02⟩
  refine len ?_
  refine loop_rule (fun k : Nat => [(37, iv (k : Int))]) (fun k u => k ≤ d.reaches.length ∧ w2 = u ∧ ∀ r, r < k → clA hs r ≤ max (clA bf r) (rcC d r).cap) (fun k _ => d.reaches.length - k) 0 ⟨rfl, trivial⟩ ⟨by omega, rfl, fun r hr => by omega⟩ rfl ?_
  rintro G k u ⟨hk, rfl, hall⟩
  refine cD (fun hlt => ?_) (fun hge => ?_)
  · have hlt : k < d.reaches.length := by omega
    obtain ⟨br, o, cs, y, rfl, hy, -, -, hcy, rfl⟩ := (hr.ext x02).at_ (k := k) (by omega)
    have hrc := rcC_at hy
    refine idx k rfl hlt ?_
    refine ld (iv (clA hs k)) (blkI Bh R'.okh (n := d.reaches.length) (by omega) (by omega) (by omega) 0 _ rfl) ?_
    refine drawQ mx (by kernel_rfl) ?_
    refine ld (.slice (some (ad bb 0)) d.reaches.length d.reaches.length) (B12.cell rfl) ?_
    refine idx k rfl hlt ?_
    refine ld (iv (clA bf k)) (blkI Bb R.okh (n := d.reaches.length) (by omega) (by omega) (by omega) 0 _ rfl) ?_
    refine fldA ?_
    refine ld (.slice (some (ad br o)) n1 c1) (B5.cell rfl) ?_
    refine idx k rfl (by omega) ?_
    refine fldA ?_
    refine ld (iv y.cap) (hcy 3 _ rfl) ?_
    refine cD (fun g1 => ?_) (fun g1 => ?_)
    · exact ret1 (.bool false) rfl ⟨no (fun h => by have := h.2 k hlt; rw [hrc] at this; omega), x02⟩
    refine arI (by omega) ?_
    refine next (k + 1) ⟨by rw [Int.natCast_add]; rfl, trivial⟩ ⟨by omega, rfl, fun r hr2 => ?_⟩ (by omega)
    by_cases e : r = k
    · subst e; rw [hrc]; omega
    · exact hall r (by omega)
  · have e : gotP d bf aw f t x v = true := harmB_iff.2 ⟨hs, hn, by omega, fun r hr2 => hall r (by omega)⟩
    exact ret1 (.bool true) rfl ⟨by rw [e], x02⟩
set_option maxRecDepth 4000 in
theorem c_hmove {csd : List Value} {d : Dist} {bf aw : List Int} {f t : Nat} {x : Int} {A : Option Addr} {n c : Nat} (M : MvOk d bf aw f t x) (hd : DiR D w csd d) (hl : SlR tInt D w A n aw) :
    CallZ Try.prog 31 #[.agg csd.toArray, .slice A n c, iv (f : Int), iv (t : Int), iv x] w (fun v w' => Ext w w' ∧ ∃ g A' c', GotV d bf aw f t x g ∧ v = .tuple #[iv g, .slice A' n c'] ∧ SlR tInt (fun b => w.heap.size ≤ b) w' A' n (chgV aw f t x g)) := by
  have hd0 := hd
  obtain ⟨A1, n1, c1, A2, n2, c2, A3, n3, c3, A4, n4, c4, A5, n5, c5, A6, n6, c6, rfl, hr, hf, -⟩ := hd.ex
  have ll := hl.len
  have R := M.rdy
  have lcl := R.lc
  have hvf := R.v.f
  obtain ⟨fl, tl⟩ := M.fl
  have hhi := M.hi
  have okt := clA_ok R.okc t
  refine fn_rule (args := [.agg #[.string d.name, iv d.hours, iv d.cap, iv d.start, .slice A1 n1 c1, .slice A2 n2 c2, .slice A3 n3 c3, .slice A4 n4 c4, .slice A5 n5 c5, .slice A6 n6 c6], .slice A n c, iv (f : Int), iv (t : Int), iv x]) Try.func31 (by kernel_rfl) ?_
  refine box (fun b5 w1 h1 => ?_)
  refine box (fun b6 w2 h2 => ?_)
  refine box (fun b7 w3 h3 => ?_)
  refine box (fun b8 w4 h4 => ?_)
  refine box (fun b9 w5 h5 => ?_)
  have x5 := (((h1.ext.trans h2.ext).trans h3.ext).trans h4.ext).trans h5.ext
  have B5 : Blk w5 b5 38 [.string d.name, iv d.hours, iv d.cap, iv d.start, .slice A1 n1 c1, .slice A2 n2 c2, .slice A3 n3 c3, .slice A4 n4 c4, .slice A5 n5 c5, .slice A6 n6 c6] := h1.blk.ext (((h2.ext.trans h3.ext).trans h4.ext).trans h5.ext)
  have B6 : Blk w5 b6 39 [.slice A n c] := h2.blk.ext ((h3.ext.trans h4.ext).trans h5.ext)
  have B7 : Blk w5 b7 3 [iv (f : Int)] := h3.blk.ext (h4.ext.trans h5.ext)
  have B8 : Blk w5 b8 3 [iv (t : Int)] := h4.blk.ext h5.ext
  have B9 : Blk w5 b9 3 [iv x] := h5.blk
  refine ldA _ (.blk B5) rfl ?_
  refine ld (.slice A n c) (B6.cell rfl) ?_
  refine call_of (c_hheads (hd0.ext x5) (hl.ext x5)) ?_
  rintro _ w6 ⟨x6, ⟨hn, -⟩ | ⟨hs, bh, hn, rfl, hb, Bh⟩⟩
  · rw [M.hd] at hn; cases hn
  rw [M.hd] at hn; injection hn with hn; subst hn
  refine alloc (fun b12 w7 h7 => ?_)
  refine st1 h7.blk rfl (fun w8 B12 k8 => ?_)
  have e7 := h7.at_
  have x68 : Ext w6 w8 := h7.ext.then k8 fun b hb _ e => by omega
  have x58 := x6.trans x68
  have x08 := x5.trans x58
  have B5 := B5.ext x58
  have B6 := B6.ext x58
  have B7 := B7.ext x58
  have B8 := B8.ext x58
  have B9 := B9.ext x58
  have Bh := Bh.ext x68
  have hl8 := hl.ext x08
  obtain ⟨ba, oa, csa, y, hA, hy, -, -, hcy, rfl, -⟩ := hl8.at_ (k := t) (by omega)
  have ey := clA_at hy
  refine ld (.slice A n c) (B6.cell rfl) ?_
  refine ld (iv (t : Int)) (B8.cell rfl) ?_
  rw [hA]
  refine idx t rfl (by omega) ?_
  refine ld (iv y) (hcy 0 _ rfl) ?_
  refine arI (by omega) ?_
  rw [← ey]
  rw [← hA]
  refine call_of (c_hgreat (p := gotP d bf aw f t x) (fn := 48) (cap := #[ptr b5, ptr b6, ptr b7, ptr b8, ptr b9, ptr b12]) ⟨hhi, by omega⟩ M.zero (fun v v' h0 h1 h2 hp => M.mono h0 h1 h2 hp) (fun v w' h0 h1 xw => ?_)) ?_
  · exact c_hmove1 M ((hd0.ext x08).ext xw) ((hr.ext x08).ext xw) (hl8.ext xw) (B5.ext xw) (B6.ext xw) (B7.ext xw) (B8.ext xw) (B9.ext xw) ((show Blk w8 b12 _ _ from B12).ext xw) (Bh.ext xw) ⟨h0, h1⟩
  rintro _ w9 ⟨g, rfl, hg, x9⟩
  have x09 := x08.trans x9
  have B6 := B6.ext x9
  refine ld (.slice A n c) (B6.cell rfl) ?_
  refine ld (iv (f : Int)) ((B7.ext x9).cell rfl) ?_
  refine ld (iv (t : Int)) ((B8.ext x9).cell rfl) ?_
  refine ld (iv x) ((B9.ext x9).cell rfl) ?_
  refine call_of (c_hchanged (g := g) (hl8.ext x9) (by omega) R.okc (by omega) (by omega) M.ne M.hx ⟨hg.lo, hg.le⟩) ?_
  rintro _ w10 ⟨x10, A', c', rfl, s10⟩
  exact ret2 (iv g) (.slice A' n c') rfl rfl ⟨x09.trans x10, g, A', c', hg, rfl, s10.more (by decide) fun b _ h => by have := x09.size; omega⟩
theorem c_hMove {csd : List Value} {d : Dist} {aw : List Int} {f t x : Int} {A : Option Addr} {n c : Nat} (hd : DiR D w csd d) (hl : SlR tInt D w A n aw) :
    CallZ Try.prog 12 #[.agg csd.toArray, .slice A n c, iv f, iv t, iv x] w (fun v w' => Ext w w' ∧ ∃ g A' n' c', v = .tuple #[iv g, .slice A' n' c', iv (mvErr d aw f t x)] ∧ (mvErr d aw f t x ≠ 0 → g = 0 ∧ A' = none ∧ n' = 0) ∧
      (mvErr d aw f t x = 0 → n' = n ∧ ∃ bf, MvOk d bf aw f.toNat t.toNat x ∧ GotV d bf aw f.toNat t.toNat x g ∧ SlR tInt (fun b => w.heap.size ≤ b) w' A' n (chgV aw f.toNat t.toNat x g))) := by
  have hd0 := hd
  obtain ⟨A1, n1, c1, A2, n2, c2, A3, n3, c3, A4, n4, c4, A5, n5, c5, A6, n6, c6, rfl, hr, hf, -⟩ := hd.ex
  have ll := hl.len
  have lf := hf.len
  refine fn_rule (args := [.agg #[.string d.name, iv d.hours, iv d.cap, iv d.start, .slice A1 n1 c1, .slice A2 n2 c2, .slice A3 n3 c3, .slice A4 n4 c4, .slice A5 n5 c5, .slice A6 n6 c6], .slice A n c, iv f, iv t, iv x]) Try.func12 (by kernel_rfl) ?_
  refine box (fun b5 w1 h1 => ?_)
  have B5 : Blk w1 b5 38 [.string d.name, iv d.hours, iv d.cap, iv d.start, .slice A1 n1 c1, .slice A2 n2 c2, .slice A3 n3 c3, .slice A4 n4 c4, .slice A5 n5 c5, .slice A6 n6 c6] := h1.blk
  refine ldA _ (.blk B5) rfl ?_
  refine call_of (c_eCheck (hd0.ext h1.ext)) ?_
  rintro _ w2 ⟨rfl, x2⟩
  have xx := h1.ext.trans x2
  have B5 := B5.ext x2
  refine cN (fun g => ?_) (fun g => ?_)
  · have e : mvErr d aw f t x = dErr d := by unfold mvErr; rw [if_pos g]
    exact ret3 (iv 0) (.slice none 0 0) (iv (dErr d)) rfl rfl rfl ⟨xx, _, _, _, _, by rw [e], fun _ => ⟨rfl, rfl, rfl⟩, fun q => absurd (e.symm.trans q) g⟩
  have g : dErr d = 0 := g
  refine ldA _ (.blk B5) rfl ?_
  refine call_of (c_hheads (hd0.ext xx) (hl.ext xx)) ?_
  rintro _ w3 ⟨x3, ⟨hn, B, nb, cb, rfl⟩ | ⟨bf, bh, hn, rfl, hb, Bh⟩⟩
  · have e : mvErr d aw f t x = 460 := by unfold mvErr; rw [if_neg (fun h => h g), if_pos hn]
    exact ret3 (iv 0) (.slice none 0 0) (iv 460) rfl rfl rfl ⟨xx.trans x3, _, _, _, _, by rw [e], fun _ => ⟨rfl, rfl, rfl⟩, fun q => (by rw [e] at q; cases q)⟩
  have x03 := xx.trans x3
  have B5 := B5.ext x3
  obtain ⟨-, -, R⟩ := headsV_some hn
  have hvf := R.v.f
  have lcl := R.lc
  have e0 : mvErr d aw f t x = if 0 ≤ f ∧ f < d.farms.length ∧ 0 ≤ t ∧ t < d.farms.length ∧ f ≠ t ∧ 0 ≤ x ∧ x ≤ clA aw f.toNat then 0 else 1 := by unfold mvErr; rw [if_neg (fun h => h g), if_neg (by rw [hn]; simp)]
  have bad : ¬ (0 ≤ f ∧ f < d.farms.length ∧ 0 ≤ t ∧ t < d.farms.length ∧ f ≠ t ∧ 0 ≤ x ∧ x ≤ clA aw f.toNat) → ∃ g' A' n' c', Value.tuple #[iv 0, .slice none 0 0, iv 1] = .tuple #[iv g', .slice A' n' c', iv (mvErr d aw f t x)] ∧ (mvErr d aw f t x ≠ 0 → g' = 0 ∧ A' = none ∧ n' = 0) ∧
      (mvErr d aw f t x = 0 → n' = n ∧ ∃ bf, MvOk d bf aw f.toNat t.toNat x ∧ GotV d bf aw f.toNat t.toNat x g' ∧ SlR tInt (fun b => w.heap.size ≤ b) w3 A' n (chgV aw f.toNat t.toNat x g')) := fun h => by
    rw [e0, if_neg h]
    exact ⟨_, _, _, _, rfl, fun _ => ⟨rfl, rfl, rfl⟩, fun q => (by cases q)⟩
  refine fldA ?_
  refine ld (.slice A2 n2 c2) (B5.cell rfl) ?_
  refine len ?_
  refine arI (by omega) ?_
  refine callB (c_hin (n := f) (lo := 0) (hi := (n2 : Int) - 1)) (fun q1 => ?_) (fun q1 => ?_)
  rotate_left
  · exact ret3 (iv 0) (.slice none 0 0) (iv 1) rfl rfl rfl ⟨x03, bad (fun h => inI_not.1 q1 (by omega))⟩
  have q1 := inI_iff.1 q1
  refine callB (c_hin (n := t) (lo := 0) (hi := (n2 : Int) - 1)) (fun q2 => ?_) (fun q2 => ?_)
  rotate_left
  · exact ret3 (iv 0) (.slice none 0 0) (iv 1) rfl rfl rfl ⟨x03, bad (fun h => inI_not.1 q2 (by omega))⟩
  have q2 := inI_iff.1 q2
  refine cE (fun q3 => ?_) (fun q3 => ?_)
  · exact ret3 (iv 0) (.slice none 0 0) (iv 1) rfl rfl rfl ⟨x03, bad (fun h => h.2.2.2.2.1 q3)⟩
  obtain ⟨fn, rfl⟩ : ∃ k : Nat, f = k := ⟨f.toNat, by omega⟩
  obtain ⟨tn, rfl⟩ : ∃ k : Nat, t = k := ⟨t.toNat, by omega⟩
  have hl3 := hl.ext x03
  obtain ⟨ba, oa, csa, y, hA, hy, -, -, hcy, rfl, -⟩ := hl3.at_ (k := fn) (by omega)
  have ey : clA aw (fn : Int).toNat = y := clA_at hy
  rw [hA]
  refine idx fn rfl (by omega) ?_
  refine ld (iv y) (hcy 0 _ rfl) ?_
  refine callB (c_hin (n := x) (lo := 0) (hi := y)) (fun q4 => ?_) (fun q4 => ?_)
  rotate_left
  · exact ret3 (iv 0) (.slice none 0 0) (iv 1) rfl rfl rfl ⟨x03, bad (fun h => inI_not.1 q4 (by rw [← ey]; exact h.2.2.2.2.2))⟩
  have q4 := inI_iff.1 q4
  have M : MvOk d bf aw fn tn x := ⟨hn, by omega, by omega, fun h => q3 (by rw [h]), by have : clA aw fn = y := ey; omega⟩
  have e1 : mvErr d aw (fn : Int) (tn : Int) x = 0 := by rw [e0, if_pos ⟨by omega, by omega, by omega, by omega, q3, by omega, by omega⟩]
  rw [← hA]
  refine ldA _ (.blk B5) rfl ?_
  refine call_of (c_hmove M (hd0.ext x03) hl3) ?_
  rintro _ w4 ⟨x4, g', A', c', hg, rfl, s4⟩
  exact ret3 (iv g') (.slice A' n c') (iv 0) rfl rfl rfl ⟨x03.trans x4, g', A', n, c', by rw [e1], fun q => absurd e1 q, fun _ => ⟨rfl, bf, M, hg, s4.more (by decide) fun b _ h => by have := x03.size; omega⟩⟩
end
end Go.Proofs.Ytcpogcdadlcdaaa

/- Layer 46: deals, plainly; contracts of executed and Execute. -/
namespace Go.Proofs.Ytcpogcdadlcdaaa
open Go Go.RowKit

structure DealR where
  frm : Int
  to : Int
  litres : Int
  lo : Int
  hi : Int
abbrev DealR.c (x : DealR) : List Value := [iv x.frm, iv x.to, iv x.litres, iv x.lo, iv x.hi]
def tDeal : Ty DealR := tFl 5 DealR.c fun _ => rfl
def dealB (d : Dist) (x : DealR) : Bool := inI x.frm 0 ((d.farms.length : Int) - 1) && (inI x.to 0 ((d.farms.length : Int) - 1) && (!decide (x.frm = x.to) && (inI x.litres 0 1073741824 && (inI x.lo 0 x.hi && !decide (x.hi > 10000)))))
/-- What executing deals gives. -/
def ExV (d : Dist) (rain : Int) : List DealR → List Int → List Int → List Int → Prop
  | [], aw, got, out => got = [] ∧ out = aw
  | x :: l, aw, got, out => if inI rain x.lo x.hi = true then ∃ bf g got', MvOk d bf aw x.frm.toNat x.to.toNat (min x.litres (clA aw x.frm.toNat)) ∧ GotV d bf aw x.frm.toNat x.to.toNat (min x.litres (clA aw x.frm.toNat)) g ∧ got = g :: got' ∧ ExV d rain l (chgV aw x.frm.toNat x.to.toNat (min x.litres (clA aw x.frm.toNat)) g) got' out
    else ∃ got', got = 0 :: got' ∧ ExV d rain l aw got' out
def exErr (d : Dist) (aw : List Int) (ds : List DealR) (rain : Int) : Int :=
  if dErr d ≠ 0 then dErr d else if 64 < ds.length then 2 else if inI rain 0 10000 = false then 1 else if headsV d aw = none then 460 else if ds.all (dealB d) then 0 else 460
section
variable {d : Dist} {rain : Int}
theorem ExV.snoc_yes : ∀ {l : List DealR} {aw got mid : List Int} {x : DealR} {bf : List Int} {g : Int}, ExV d rain l aw got mid → inI rain x.lo x.hi = true → MvOk d bf mid x.frm.toNat x.to.toNat (min x.litres (clA mid x.frm.toNat)) → GotV d bf mid x.frm.toNat x.to.toNat (min x.litres (clA mid x.frm.toNat)) g →
    ExV d rain (l ++ [x]) aw (got ++ [g]) (chgV mid x.frm.toNat x.to.toNat (min x.litres (clA mid x.frm.toNat)) g)
  | [], aw, got, mid, x, bf, g, h, hi, M, G => by
    obtain ⟨rfl, rfl⟩ := h
    show (if _ then _ else _)
    rw [if_pos hi]
    exact ⟨bf, g, [], M, G, rfl, rfl, rfl⟩
  | y :: l, aw, got, mid, x, bf, g, h, hi, M, G => by
    unfold ExV at h
    show (if _ then _ else _)
    by_cases q : inI rain y.lo y.hi = true
    · rw [if_pos q] at h ⊢
      obtain ⟨b1, g1, got', h1, h2, rfl, h3⟩ := h
      exact ⟨b1, g1, got' ++ [g], h1, h2, rfl, ExV.snoc_yes h3 hi M G⟩
    · rw [if_neg q] at h ⊢
      obtain ⟨got', rfl, h3⟩ := h
      exact ⟨got' ++ [g], rfl, ExV.snoc_yes h3 hi M G⟩
theorem ExV.snoc_no : ∀ {l : List DealR} {aw got mid : List Int} {x : DealR}, ExV d rain l aw got mid → inI rain x.lo x.hi = false → ExV d rain (l ++ [x]) aw (got ++ [0]) mid
  | [], aw, got, mid, x, h, hi => by
    obtain ⟨rfl, rfl⟩ := h
    show (if _ then _ else _)
    rw [if_neg (by rw [hi]; simp)]
    exact ⟨[], rfl, rfl, rfl⟩
  | y :: l, aw, got, mid, x, h, hi => by
    unfold ExV at h
    show (if _ then _ else _)
    by_cases q : inI rain y.lo y.hi = true
    · rw [if_pos q] at h ⊢
      obtain ⟨b1, g1, got', h1, h2, rfl, h3⟩ := h
      exact ⟨b1, g1, got' ++ [0], h1, h2, rfl, ExV.snoc_no h3 hi⟩
    · rw [if_neg q] at h ⊢
      obtain ⟨got', rfl, h3⟩ := h
      exact ⟨got' ++ [0], rfl, ExV.snoc_no h3 hi⟩
theorem ExV.len : ∀ {l : List DealR} {aw got out : List Int}, ExV d rain l aw got out → got.length = l.length ∧ out.length = aw.length
  | [], aw, got, out, h => by obtain ⟨rfl, rfl⟩ := h; exact ⟨rfl, rfl⟩
  | x :: l, aw, got, out, h => by
    unfold ExV at h
    split at h
    · obtain ⟨bf, g, got', -, -, rfl, h3⟩ := h
      have := h3.len
      rw [chgV_len] at this
      exact ⟨by rw [List.length_cons, List.length_cons, this.1], this.2⟩
    · obtain ⟨got', rfl, h3⟩ := h
      have := h3.len
      exact ⟨by rw [List.length_cons, List.length_cons, this.1], this.2⟩
theorem ExV.uniq : ∀ {l : List DealR} {aw got out got2 out2 : List Int}, ExV d rain l aw got out → ExV d rain l aw got2 out2 → got = got2 ∧ out = out2
  | [], aw, got, out, got2, out2, h, k => by
    obtain ⟨rfl, rfl⟩ := h
    obtain ⟨rfl, rfl⟩ := k
    exact ⟨rfl, rfl⟩
  | x :: l, aw, got, out, got2, out2, h, k => by
    unfold ExV at h k
    split at h
    · rename_i q
      rw [if_pos q] at k
      obtain ⟨bf, g, got', h1, h2, rfl, h3⟩ := h
      obtain ⟨bf2, g2, got2', k1, k2, rfl, k3⟩ := k
      have e : bf = bf2 := by have a := h1.hd; rw [k1.hd] at a; injection a with a; exact a.symm
      subst e
      have e2 := h2.uniq k2
      subst e2
      have := h3.uniq k3
      exact ⟨by rw [this.1], this.2⟩
    · rename_i q
      rw [if_neg q] at k
      obtain ⟨got', rfl, h3⟩ := h
      obtain ⟨got2', rfl, k3⟩ := k
      have := h3.uniq k3
      exact ⟨by rw [this.1], this.2⟩
/-- After deals the awards are right again, with heads that are harmless. -/
theorem ExV.heads : ∀ {l : List DealR} {aw got out bf : List Int}, ExV d rain l aw got out → headsV d aw = some bf → ∃ b2, headsV d out = some b2 ∧ clA b2 0 ≤ clA bf 0 ∧ ∀ r, r < d.reaches.length → clA b2 r ≤ max (clA bf r) (rcC d r).cap
  | [], aw, got, out, bf, h, hb => by
    obtain ⟨rfl, rfl⟩ := h
    exact ⟨bf, hb, Int.le_refl _, fun r _ => by omega⟩
  | x :: l, aw, got, out, bf, h, hb => by
    unfold ExV at h
    split at h
    · obtain ⟨b1, g, got', h1, h2, rfl, h3⟩ := h
      have e : b1 = bf := by have a := h1.hd; rw [hb] at a; injection a with a; exact a.symm
      subst e
      obtain ⟨l1, e1, e2, e3⟩ := h1.next h2
      obtain ⟨b2, f1, f2, f3⟩ := h3.heads e1
      exact ⟨b2, f1, by omega, fun r hr => by have := e3 r hr; have := f3 r hr; omega⟩
    · obtain ⟨got', rfl, h3⟩ := h
      exact h3.heads hb
end
section
variable {D : Nat → Prop} {w : World}
theorem c_hexec {A : Option Addr} {m c : Nat} {rain : Int} : CallZ Try.prog 33 #[.slice A m c, iv rain] w (fun v w' => ∃ b1 b2, v = .func (.func 50) #[] #[ptr b1, ptr b2] ∧ Ext w w' ∧ Blk w' b1 51 [.slice A m c] ∧ Blk w' b2 3 [iv rain] ∧ w.heap.size ≤ b1 ∧ b1 < b2) := by
  refine fn_rule (args := [.slice A m c, iv rain]) Try.func33 (by kernel_rfl) ?_
  refine box (fun b1 w1 h1 => ?_)
  refine box (fun b2 w2 h2 => ?_)
  have e1 := h1.at_
  have e2 := h2.at_
  have s1 := h1.size
  exact ret1 (.func (.func 50) #[] #[ptr b1, ptr b2]) rfl ⟨b1, b2, rfl, h1.ext.trans h2.ext, h1.blk.ext h2.ext, h2.blk, by omega, by omega⟩
theorem c_hexec1 {ds : List DealR} {rain : Int} {A : Option Addr} {m c b1 b2 l : Nat} {D D' : Nat → Prop} {w : World} (J : Nat → World → Prop) (hD2 : D b2) (hDD : ∀ b, D' b → D b) (hJ : ∀ k u u', J k u → Ext u u' → J k u')
    (h1 : Blk w b1 51 [.slice A m c]) (h2 : Blk w b2 3 [iv rain]) (hs : SlR tDeal D' w A m ds)
    (hno : ∀ k x u, ds[k]? = some x → inI rain x.lo x.hi = false → J k u → J (k + 1) u)
    (hyes : ∀ k x u, ds[k]? = some x → inI rain x.lo x.hi = true → J k u → YieldP Try.prog l [iv (k : Int), .agg x.c.toArray].toArray (fun v u' => v = .bool true ∧ J (k + 1) u' ∧ Kept D u u') u)
    (h0 : J 0 w) : CallZ Try.prog 50 #[.func (.yield l) #[] #[], ptr b1, ptr b2] w (fun _ w' => J m w' ∧ Kept D w w') := by
  have ls := hs.len
  have lle := hs.le
  refine fn_rule (args := [.func (.yield l) #[] #[], ptr b1, ptr b2]) Try.func50 (by kernel_rfl) ?_
  refine ld (.slice A m c) (h1.cell rfl) ?_
  refine len ?_
  refine loop_rule (fun k : Nat => [(8, iv (k : Int))]) (fun k u => k ≤ m ∧ J k u ∧ Kept D w u) (fun k _ => m - k) 0 ⟨rfl, trivial⟩ ⟨by omega, h0, .refl _ _⟩ rfl ?_
  rintro G k u ⟨hk, hj, ku⟩
  refine cD (fun hlt => ?_) (fun hge => ?_)
  · have hlt : k < m := by omega
    obtain ⟨b, o, cs, x, rfl, hx, -, -, hc, rfl⟩ := (hs.kept ku fun b _ h => hDD b h).at_ hlt
    refine idx k rfl hlt ?_
    refine ldA x.c hc rfl ?_
    refine alloc (fun b5 u1 i1 => ?_)
    refine stA (vs := x.c) i1.blk rfl (Nat.le_of_ble_eq_true rfl) (by simp [Value.oneCell']) (fun u2 B5 k2 z2 => ?_)
    have B5 : Blk u2 b5 55 x.c := B5
    have y1 := i1.at_
    have xu : Ext u u2 := i1.ext.then k2 fun b hb _ e => by omega
    have hj := hJ k u u2 hj xu
    have ku2 : Kept D w u2 := ku.then xu fun _ _ _ => trivial
    refine ld (iv rain) ((h2.kept ku2 hD2).cell rfl) ?_
    refine fldA ?_
    refine fldA ?_
    refine ld (iv x.lo) (B5.cell rfl) ?_
    refine fldA ?_
    refine fldA ?_
    refine ld (iv x.hi) (B5.cell rfl) ?_
    refine callB (c_hin (n := rain) (lo := x.lo) (hi := x.hi)) (fun q => ?_) (fun q => ?_)
    · refine ldA x.c (.blk B5) rfl ?_
      refine yield_of (hyes k x u2 hx q hj) ?_
      rintro _ u3 ⟨rfl, hj3, k3⟩
      refine arI (by omega) ?_
      exact next (k + 1) ⟨by rw [Int.natCast_add]; rfl, trivial⟩ ⟨by omega, hj3, ku2.trans k3⟩ (by omega)
    · refine arI (by omega) ?_
      exact next (k + 1) ⟨by rw [Int.natCast_add]; rfl, trivial⟩ ⟨by omega, hno k x u2 hx q hj, ku2⟩ (by omega)
  · obtain rfl : k = m := by omega
    exact ret0 ⟨hj, ku⟩
end
end Go.Proofs.Ytcpogcdadlcdaaa

/- Layer 46: contract of Execute. (Printed by gen_XJ5.py.) -/
namespace Go.Proofs.Ytcpogcdadlcdaaa
open Go Go.RowKit

theorem dealB_iff {d : Dist} {x : DealR} : dealB d x = true ↔ (0 ≤ x.frm ∧ x.frm ≤ (d.farms.length : Int) - 1) ∧ (0 ≤ x.to ∧ x.to ≤ (d.farms.length : Int) - 1) ∧ x.frm ≠ x.to ∧ (0 ≤ x.litres ∧ x.litres ≤ 1073741824) ∧ (0 ≤ x.lo ∧ x.lo ≤ x.hi) ∧ x.hi ≤ 10000 := by
  unfold dealB
  simp only [Bool.and_eq_true, inI_iff, Bool.not_eq_true', decide_eq_false_iff_not, Int.not_lt]
section
variable {D : Nat → Prop} {w : World}
set_option maxRecDepth 8000 in
set_option maxHeartbeats 1000000 in
theorem c_hExecute {csd : List Value} {d : Dist} {aw : List Int} {ds : List DealR} {rain : Int} {A B : Option Addr} {n c m cm : Nat} (hd : DiR D w csd d) (hl : SlR tInt D w A n aw) (hs : SlR tDeal D w B m ds) :
    CallZ Try.prog 13 #[.agg csd.toArray, .slice A n c, .slice B m cm, iv rain] w (fun v w' => Ext w w' ∧ ∃ G ng cg N nn cn, v = .tuple #[.slice G ng cg, .slice N nn cn, iv (exErr d aw ds rain)] ∧ (exErr d aw ds rain ≠ 0 → G = none ∧ ng = 0 ∧ N = none ∧ nn = 0) ∧
      (exErr d aw ds rain = 0 → ng = m ∧ nn = n ∧ m ≤ 64 ∧ n ≤ 600 ∧ ∃ got out bf, headsV d aw = some bf ∧ ExV d rain ds aw got out ∧ OkL got ∧ OkL out ∧ (∀ x ∈ ds, dealB d x = true) ∧ SlR tInt (fun _ => True) w' G m got ∧ SlR tInt (fun _ => True) w' N n out)) := by
  have hd0 := hd
  obtain ⟨A1, n1, c1, A2, n2, c2, A3, n3, c3, A4, n4, c4, A5, n5, c5, A6, n6, c6, rfl, hr, hf, -⟩ := hd.ex
  have ll := hl.len
  have lf := hf.len
  have ls := hs.len
  refine fn_rule (args := [.agg #[.string d.name, iv d.hours, iv d.cap, iv d.start, .slice A1 n1 c1, .slice A2 n2 c2, .slice A3 n3 c3, .slice A4 n4 c4, .slice A5 n5 c5, .slice A6 n6 c6], .slice A n c, .slice B m cm, iv rain]) Try.func13 (by kernel_rfl) ?_
  refine box (fun b4 w1 h1 => ?_)
  refine alloc (fun b8 w2 h2 => ?_)
  refine alloc (fun b9 w3 h3 => ?_)
  have e1 := h1.at_
  have e2 := h2.at_
  have e3 := h3.at_
  have s1 := h1.size
  have s2 := h2.size
  have s3 := h3.size
  have x3 := (h1.ext.trans h2.ext).trans h3.ext
  have B4 : Blk w3 b4 38 [.string d.name, iv d.hours, iv d.cap, iv d.start, .slice A1 n1 c1, .slice A2 n2 c2, .slice A3 n3 c3, .slice A4 n4 c4, .slice A5 n5 c5, .slice A6 n6 c6] := h1.blk.ext (h2.ext.trans h3.ext)
  have B8 : Blk w3 b8 39 [.slice none 0 0] := h2.blk.ext h3.ext
  have B9 : Blk w3 b9 39 [.slice none 0 0] := h3.blk
  refine ldA _ (.blk B4) rfl ?_
  refine call_of (c_eCheck (hd0.ext x3)) ?_
  rintro _ w4 ⟨rfl, x4⟩
  have x04 := x3.trans x4
  have B4 := B4.ext x4
  have B8 := B8.ext x4
  have B9 := B9.ext x4
  have z4 := x4.size
  refine cN (fun g => ?_) (fun g => ?_)
  · refine st1 B8 rfl (fun v1 C8 k1 => ?_)
    refine st1 (B9.kept k1 (by omega)) rfl (fun v2 C9 k2 => ?_)
    refine ret ?_
    refine resL _ (holds_cell ((C8.kept k2 (by omega)).cell rfl)) ?_
    refine resL _ (holds_cell (C9.cell rfl)) ?_
    have ee : exErr d aw ds rain = dErr d := by unfold exErr; rw [if_pos g]
    exact ⟨((x04).then k1 fun b hb _ => by omega).then k2 fun b hb _ => by omega, _, _, _, _, _, _, by rw [ee]; rfl, fun _ => ⟨rfl, rfl, rfl, rfl⟩, fun q => absurd (ee.symm.trans q) (g)⟩
  have g : dErr d = 0 := g
  have e0 : exErr d aw ds rain = if 64 < ds.length then 2 else if inI rain 0 10000 = false then 1 else if headsV d aw = none then 460 else if ds.all (dealB d) then 0 else 460 := by unfold exErr; rw [if_neg (fun h => h g)]
  refine len ?_
  refine cD (fun g1 => ?_) (fun g1 => ?_)
  · refine st1 B8 rfl (fun v1 C8 k1 => ?_)
    refine st1 (B9.kept k1 (by omega)) rfl (fun v2 C9 k2 => ?_)
    refine ret ?_
    refine resL _ (holds_cell ((C8.kept k2 (by omega)).cell rfl)) ?_
    refine resL _ (holds_cell (C9.cell rfl)) ?_
    have ee : exErr d aw ds rain = 2 := by rw [e0, if_pos (by omega)]
    exact ⟨((x04).then k1 fun b hb _ => by omega).then k2 fun b hb _ => by omega, _, _, _, _, _, _, by rw [ee]; rfl, fun _ => ⟨rfl, rfl, rfl, rfl⟩, fun q => absurd (ee.symm.trans q) (by decide)⟩
  rw [if_neg (by omega)] at e0
  refine callB (c_hin (n := rain) (lo := 0) (hi := 10000)) (fun g2 => ?_) (fun g2 => ?_)
  rotate_left
  · refine st1 B8 rfl (fun v1 C8 k1 => ?_)
    refine st1 (B9.kept k1 (by omega)) rfl (fun v2 C9 k2 => ?_)
    refine ret ?_
    refine resL _ (holds_cell ((C8.kept k2 (by omega)).cell rfl)) ?_
    refine resL _ (holds_cell (C9.cell rfl)) ?_
    have ee : exErr d aw ds rain = 1 := by rw [e0, if_pos g2]
    exact ⟨((x04).then k1 fun b hb _ => by omega).then k2 fun b hb _ => by omega, _, _, _, _, _, _, by rw [ee]; rfl, fun _ => ⟨rfl, rfl, rfl, rfl⟩, fun q => absurd (ee.symm.trans q) (by decide)⟩
  rw [if_neg (by rw [g2]; simp)] at e0
  refine ldA _ (.blk B4) rfl ?_
  refine call_of (c_hheads (hd0.ext x04) (hl.ext x04)) ?_
  rintro _ w5 ⟨x5, ⟨hn, Bn, nb, cb, rfl⟩ | ⟨bf, bh, hn, rfl, hb, Bh⟩⟩
  · have z5 := x5.size
    refine st1 (B8.ext x5) rfl (fun v1 C8 k1 => ?_)
    refine st1 ((B9.ext x5).kept k1 (by omega)) rfl (fun v2 C9 k2 => ?_)
    refine ret ?_
    refine resL _ (holds_cell ((C8.kept k2 (by omega)).cell rfl)) ?_
    refine resL _ (holds_cell (C9.cell rfl)) ?_
    have ee : exErr d aw ds rain = 460 := by rw [e0, if_pos hn]
    exact ⟨((x04.trans x5).then k1 fun b hb _ => by omega).then k2 fun b hb _ => by omega, _, _, _, _, _, _, by rw [ee]; rfl, fun _ => ⟨rfl, rfl, rfl, rfl⟩, fun q => absurd (ee.symm.trans q) (by decide)⟩
  rw [if_neg (by rw [hn]; simp)] at e0
  obtain ⟨-, -, R⟩ := headsV_some hn
  have hvf := R.v.f
  have hvn := R.v.n
  have lcl := R.lc
  have x05 := x04.trans x5
  have B4 := B4.ext x5
  have B8 := B8.ext x5
  have B9 := B9.ext x5
  have z5 := x5.size
  have hs5 := hs.ext x05
  refine fldA ?_
  refine ld (.slice A2 n2 c2) (B4.cell rfl) ?_
  refine len ?_
  refine arI (by omega) ?_
  -- the deals are right
  refine len ?_
  refine loop_rule (fun k : Nat => [(43, iv (k : Int))]) (fun k u => k ≤ m ∧ Ext w5 u ∧ ∀ x ∈ ds.take k, dealB d x = true) (fun k _ => m - k) 0 ⟨rfl, trivial⟩ ⟨by omega, .refl _ _, fun x hx => by simp at hx⟩ rfl ?_
  rintro G1 k u ⟨hk, xu, hall⟩
  have B8u := B8.ext xu
  have B9u := B9.ext xu
  have zu := xu.size
  refine cD (fun hlt => ?_) (fun hge => ?_)
  · have hlt : k < m := by omega
    obtain ⟨b, o, cs, x, hB, hx, -, -, hc, rfl⟩ := (hs5.ext xu).at_ hlt
    have htk : ds.take (k + 1) = ds.take k ++ [x] := by rw [List.take_add_one, hx]; rfl
    have bad : dealB d x = false → exErr d aw ds rain = 460 := fun h => by
      rw [e0, if_neg]
      intro h2
      rw [List.all_eq_true.1 h2 x (List.mem_of_getElem? hx)] at h; cases h
    have bad' : ¬ ((0 ≤ x.frm ∧ x.frm ≤ (d.farms.length : Int) - 1) ∧ (0 ≤ x.to ∧ x.to ≤ (d.farms.length : Int) - 1) ∧ x.frm ≠ x.to ∧ (0 ≤ x.litres ∧ x.litres ≤ 1073741824) ∧ (0 ≤ x.lo ∧ x.lo ≤ x.hi) ∧ x.hi ≤ 10000) → exErr d aw ds rain = 460 := fun h => bad (by
      cases hq : dealB d x with
      | false => rfl
      | true => exact absurd (dealB_iff.1 hq) h)
    rw [hB]
    refine idx k rfl hlt ?_
    refine ldA x.c hc rfl ?_
    refine alloc (fun b15 u1 i1 => ?_)
    refine stA (vs := x.c) i1.blk rfl (Nat.le_of_ble_eq_true rfl) (by simp [Value.oneCell']) (fun u2 B15 k2 z2 => ?_)
    have B15 : Blk u2 b15 55 x.c := B15
    have y1 := i1.at_
    have q1 := i1.size
    have xu2 : Ext u u2 := i1.ext.then k2 fun b hb _ e => by omega
    have B8v := B8u.ext xu2
    have B9v := B9u.ext xu2
    have zu2 := xu2.size
    have xt := (x05.trans xu).trans xu2
    have zf : ((n2 : Int) - 1) = (d.farms.length : Int) - 1 := by omega
    refine fldA ?_
    refine ld (iv x.frm) (B15.cell rfl) ?_
    refine callB (c_hin (n := x.frm) (lo := 0) (hi := (n2 : Int) - 1)) (fun p1 => ?_) (fun p1 => ?_)
    rotate_left
    · refine st1 B8v rfl (fun v1 C8 k1 => ?_)
      refine st1 (B9v.kept k1 (by omega)) rfl (fun v2 C9 k2 => ?_)
      refine ret ?_
      refine resL _ (holds_cell ((C8.kept k2 (by omega)).cell rfl)) ?_
      refine resL _ (holds_cell (C9.cell rfl)) ?_
      have ee : exErr d aw ds rain = 460 := bad' (fun h => inI_not.1 p1 (by omega))
      exact ⟨((xt).then k1 fun b hb _ => by omega).then k2 fun b hb _ => by omega, _, _, _, _, _, _, by rw [ee]; rfl, fun _ => ⟨rfl, rfl, rfl, rfl⟩, fun q => absurd (ee.symm.trans q) (by decide)⟩
    have p1 := inI_iff.1 p1
    refine fldA ?_
    refine ld (iv x.to) (B15.cell rfl) ?_
    refine callB (c_hin (n := x.to) (lo := 0) (hi := (n2 : Int) - 1)) (fun p2 => ?_) (fun p2 => ?_)
    rotate_left
    · refine st1 B8v rfl (fun v1 C8 k1 => ?_)
      refine st1 (B9v.kept k1 (by omega)) rfl (fun v2 C9 k2 => ?_)
      refine ret ?_
      refine resL _ (holds_cell ((C8.kept k2 (by omega)).cell rfl)) ?_
      refine resL _ (holds_cell (C9.cell rfl)) ?_
      have ee : exErr d aw ds rain = 460 := bad' (fun h => inI_not.1 p2 (by omega))
      exact ⟨((xt).then k1 fun b hb _ => by omega).then k2 fun b hb _ => by omega, _, _, _, _, _, _, by rw [ee]; rfl, fun _ => ⟨rfl, rfl, rfl, rfl⟩, fun q => absurd (ee.symm.trans q) (by decide)⟩
    have p2 := inI_iff.1 p2
    refine fldA ?_
    refine ld (iv x.frm) (B15.cell rfl) ?_
    refine fldA ?_
    refine ld (iv x.to) (B15.cell rfl) ?_
    refine cE (fun p3 => ?_) (fun p3 => ?_)
    · refine st1 B8v rfl (fun v1 C8 k1 => ?_)
      refine st1 (B9v.kept k1 (by omega)) rfl (fun v2 C9 k2 => ?_)
      refine ret ?_
      refine resL _ (holds_cell ((C8.kept k2 (by omega)).cell rfl)) ?_
      refine resL _ (holds_cell (C9.cell rfl)) ?_
      have ee : exErr d aw ds rain = 460 := bad' (fun h => h.2.2.1 p3)
      exact ⟨((xt).then k1 fun b hb _ => by omega).then k2 fun b hb _ => by omega, _, _, _, _, _, _, by rw [ee]; rfl, fun _ => ⟨rfl, rfl, rfl, rfl⟩, fun q => absurd (ee.symm.trans q) (by decide)⟩
    refine fldA ?_
    refine ld (iv x.litres) (B15.cell rfl) ?_
    refine callB (c_hin (n := x.litres) (lo := 0) (hi := 1073741824)) (fun p4 => ?_) (fun p4 => ?_)
    rotate_left
    · refine st1 B8v rfl (fun v1 C8 k1 => ?_)
      refine st1 (B9v.kept k1 (by omega)) rfl (fun v2 C9 k2 => ?_)
      refine ret ?_
      refine resL _ (holds_cell ((C8.kept k2 (by omega)).cell rfl)) ?_
      refine resL _ (holds_cell (C9.cell rfl)) ?_
      have ee : exErr d aw ds rain = 460 := bad' (fun h => inI_not.1 p4 h.2.2.2.1)
      exact ⟨((xt).then k1 fun b hb _ => by omega).then k2 fun b hb _ => by omega, _, _, _, _, _, _, by rw [ee]; rfl, fun _ => ⟨rfl, rfl, rfl, rfl⟩, fun q => absurd (ee.symm.trans q) (by decide)⟩
    have p4 := inI_iff.1 p4
    refine fldA ?_
    refine fldA ?_
    refine ld (iv x.lo) (B15.cell rfl) ?_
    refine fldA ?_
    refine fldA ?_
    refine ld (iv x.hi) (B15.cell rfl) ?_
    refine callB (c_hin (n := x.lo) (lo := 0) (hi := x.hi)) (fun p5 => ?_) (fun p5 => ?_)
    rotate_left
    · refine st1 B8v rfl (fun v1 C8 k1 => ?_)
      refine st1 (B9v.kept k1 (by omega)) rfl (fun v2 C9 k2 => ?_)
      refine ret ?_
      refine resL _ (holds_cell ((C8.kept k2 (by omega)).cell rfl)) ?_
      refine resL _ (holds_cell (C9.cell rfl)) ?_
      have ee : exErr d aw ds rain = 460 := bad' (fun h => inI_not.1 p5 h.2.2.2.2.1)
      exact ⟨((xt).then k1 fun b hb _ => by omega).then k2 fun b hb _ => by omega, _, _, _, _, _, _, by rw [ee]; rfl, fun _ => ⟨rfl, rfl, rfl, rfl⟩, fun q => absurd (ee.symm.trans q) (by decide)⟩
    have p5 := inI_iff.1 p5
    refine fldA ?_
    refine fldA ?_
    refine ld (iv x.hi) (B15.cell rfl) ?_
    refine cD (fun p6 => ?_) (fun p6 => ?_)
    · refine st1 B8v rfl (fun v1 C8 k1 => ?_)
      refine st1 (B9v.kept k1 (by omega)) rfl (fun v2 C9 k2 => ?_)
      refine ret ?_
      refine resL _ (holds_cell ((C8.kept k2 (by omega)).cell rfl)) ?_
      refine resL _ (holds_cell (C9.cell rfl)) ?_
      have ee : exErr d aw ds rain = 460 := bad' (fun h => by omega)
      exact ⟨((xt).then k1 fun b hb _ => by omega).then k2 fun b hb _ => by omega, _, _, _, _, _, _, by rw [ee]; rfl, fun _ => ⟨rfl, rfl, rfl, rfl⟩, fun q => absurd (ee.symm.trans q) (by decide)⟩
    refine arI (by omega) ?_
    refine next (k + 1) ⟨by rw [Int.natCast_add]; rfl, trivial⟩ ⟨by omega, xu.trans xu2, fun y hy => ?_⟩ (by omega)
    rw [htk, List.mem_append, List.mem_singleton] at hy
    rcases hy with hy | rfl
    · exact hall y hy
    · exact dealB_iff.2 ⟨⟨p1.1, by omega⟩, ⟨p2.1, by omega⟩, p3, p4, p5, by omega⟩
  rw [List.take_of_length_le (by omega)] at hall
  have ok0 : exErr d aw ds rain = 0 := by rw [e0, if_pos (List.all_eq_true.2 hall)]
  have B4 := B4.ext xu
  have x0u := x05.trans xu
  have hnn : n = d.farms.length := by omega
  have zu0 := x0u.size
  -- the lists
  refine draw_w (fun z => ∃ bg A' c', Kept (fun b => b ≠ b8 ∧ b ≠ b9) u z ∧ Blk z b8 39 [.slice (some (ad bg 0)) m m] ∧ Blk z b9 39 [.slice A' n c'] ∧ Blk z bg 3 (ivs (List.replicate m 0)) ∧ SlR tInt (fun b => u.heap.size ≤ b ∧ b ≠ bg) z A' n aw ∧ u.heap.size ≤ bg) ?_ ?_
  · refine drawP (.take 0 (.take 1 (.take 3 (.alt 2 (.eff 4 (.eff 5 (.eff 6 .done))) (.eff 4 (.eff 2 (.eff 5 (.eff 6 .done)))))))) [] (fun z => Kept (fun b => b ≠ b8 ∧ b ≠ b9) u z) mx (by kernel_rfl) (.refl _ _) ?_
    refine len ?_
    refine ⟨?_, ?_⟩
    · refine mslc (sz := 1) (zv := iv 0) m rfl rfl (by omega) (by omega) rfl (by decide) (fun bg v1 i1 => ?_)
      have y1 := i1.at_
      have q1 := i1.size
      refine strS (Ext.any i1.ext) ?_
      refine call_of (c_cloneJ ((hl.ext x0u).ext i1.ext) (by omega) (okL_i64 R.okc)) ?_
      rintro _ v2 ⟨x12, A', c', rfl, s2, -⟩
      have xx := i1.ext.trans x12
      have zz := x12.size
      refine strS (Ext.any xx) ?_
      refine st1 (B8u.ext xx) rfl (fun v3 C8 k3 => ?_)
      have kk3 : Kept (fun b => b ≠ b8 ∧ b ≠ b9) u v3 := (Ext.any xx).then k3 fun b _ h => h.1
      refine strS kk3 ?_
      refine st1 ((B9u.ext xx).kept k3 (by omega)) rfl (fun v4 C9 k4 => ?_)
      have kk4 : Kept (fun b => b ≠ b8 ∧ b ≠ b9) u v4 := kk3.then k4 fun b _ h => h.2
      refine strS kk4 ?_
      refine ⟨bg, A', c', kk4, C8.kept k4 (by omega), C9, ?_, ?_, by omega⟩
      · have q := ((i1.blk.ext x12).kept k3 (by omega)).kept k4 (by omega)
        have e : ivs (List.replicate m 0) = (List.replicate m (cellsL (iv 0))).flatten := by
          unfold ivs
          rw [List.map_replicate]
          show List.replicate m (iv 0) = (List.replicate m [iv 0]).flatten
          rw [List.flatten_replicate_singleton]
        rw [e]; exact q
      · have := (s2.kept k3 fun b _ h => by omega).kept k4 fun b _ h => by omega
        exact this.more (by decide) fun b _ h => ⟨by omega, by omega⟩
    · refine call_of (c_cloneJ (hl.ext x0u) (by omega) (okL_i64 R.okc)) ?_
      rintro _ v1 ⟨x01, A', c', rfl, s1', -⟩
      have zz := x01.size
      refine strS (Ext.any x01) ?_
      refine mslc (sz := 1) (zv := iv 0) m rfl rfl (by omega) (by omega) rfl (by decide) (fun bg v2 i1 => ?_)
      have y1 := i1.at_
      have q1 := i1.size
      have xx := x01.trans i1.ext
      refine strS (Ext.any xx) ?_
      refine st1 (B8u.ext xx) rfl (fun v3 C8 k3 => ?_)
      have kk3 : Kept (fun b => b ≠ b8 ∧ b ≠ b9) u v3 := (Ext.any xx).then k3 fun b _ h => h.1
      refine strS kk3 ?_
      refine st1 ((B9u.ext xx).kept k3 (by omega)) rfl (fun v4 C9 k4 => ?_)
      have kk4 : Kept (fun b => b ≠ b8 ∧ b ≠ b9) u v4 := kk3.then k4 fun b _ h => h.2
      refine strS kk4 ?_
      refine ⟨bg, A', c', kk4, C8.kept k4 (by omega), C9, ?_, ?_, by omega⟩
      · have q := (i1.blk.kept k3 (by omega)).kept k4 (by omega)
        have e : ivs (List.replicate m 0) = (List.replicate m (cellsL (iv 0))).flatten := by
          unfold ivs
          rw [List.map_replicate]
          show List.replicate m (iv 0) = (List.replicate m [iv 0]).flatten
          rw [List.flatten_replicate_singleton]
        rw [e]; exact q
      · have s2 := (s1'.more (D' := fun b => u.heap.size ≤ b ∧ b < v1.heap.size) (by decide) fun b hb h => ⟨h, hb⟩).ext i1.ext
        have := (s2.kept k3 fun b _ h => by omega).kept k4 fun b _ h => by omega
        exact this.more (by decide) fun b _ h => ⟨by omega, by omega⟩
  rintro G6 w6 ⟨bg, A0, c0, ku6, B8, B9, Bg, sA0, hbg⟩
  have z6 := ku6.size
  have B4 := B4.kept ku6 ⟨by omega, by omega⟩
  have hrw : DiR (fun b => b < w.heap.size) w [.string d.name, iv d.hours, iv d.cap, iv d.start, .slice A1 n1 c1, .slice A2 n2 c2, .slice A3 n3 c3, .slice A4 n4 c4, .slice A5 n5 c5, .slice A6 n6 c6] d := hd0.more fun b hb _ => hb
  have k06 : Kept (fun b => b < w.heap.size) w w6 := (Ext.any x0u).then ku6 fun b hb h => ⟨by omega, by omega⟩
  have hd6 := hrw.kept k06 fun b _ h => h
  have hs6 := (hs.more (D' := fun b => b < w.heap.size) (by decide) fun b hb _ => hb).kept k06 fun b _ h => h
  have lb8 := B8.lt
  have lb9 := B9.lt
  have lbg := Bg.lt
  refine call_of (c_hexec (A := B) (m := m) (c := cm)) ?_
  rintro _ w7 ⟨b1, b2, rfl, x7, C1, C2, hb1, hb12⟩
  have z7 := x7.size
  have lc2 := C2.lt
  have B4 := B4.ext x7
  have B8 := B8.ext x7
  have B9 := B9.ext x7
  have Bg := Bg.ext x7
  have sA0 := sA0.ext x7
  have hd7 := hd6.ext x7
  have hs7 := hs6.ext x7
  refine range (gf := 50) (lb := #[ptr b1, ptr b2]) rfl (fun fn tmps w8 RR hRR hF' hwf x8 z8 hD8 hl8 => ?_)
  show CallZ _ _ #[.func (.yield (w7.heap.size + 1)) #[] #[], ptr b1, ptr b2] w8 _
  have B4 := B4.ext x8
  have B8 := B8.ext x8
  have B9 := B9.ext x8
  have Bg := Bg.ext x8
  have hd8 := hd7.ext x8
  have hs8 := hs7.ext x8
  have C1 := C1.ext x8
  have C2 := C2.ext x8
  have sA8 : SlR tInt (fun b => b ≠ bg ∧ b ≠ b8 ∧ b ≠ b9 ∧ b ≠ w7.heap.size + 1 ∧ b ≠ w7.heap.size) w8 A0 n aw := by
    have s := sA0.more (D' := fun b => u.heap.size ≤ b ∧ b ≠ bg ∧ b < w7.heap.size) (by decide) fun b hb h => ⟨h.1, h.2, hb⟩
    exact (s.ext x8).more (by decide) fun b _ h => ⟨h.2.1, by omega, by omega, by omega, by omega⟩
  refine (c_hexec1 (D := fun b => b ≠ bg ∧ b ≠ b8 ∧ b ≠ b9 ∧ b ≠ w7.heap.size + 1) (D' := fun b => b < w.heap.size)
    (fun k z => ∃ gl nx An cn bf', ExV d rain (ds.take k) aw gl nx ∧ headsV d nx = some bf' ∧ OkL gl ∧ Blk z b8 39 [.slice (some (ad bg 0)) m m] ∧ Blk z b9 39 [.slice An n cn] ∧ Blk z bg 3 (ivs (gl ++ List.replicate (m - k) 0)) ∧ SlR tInt (fun b => b ≠ bg ∧ b ≠ b8 ∧ b ≠ b9 ∧ b ≠ w7.heap.size + 1 ∧ b ≠ w7.heap.size) z An n nx ∧ LoopAt z (w7.heap.size + 1) RR ∧ Kept (fun b => b ≠ bg ∧ b ≠ b8 ∧ b ≠ b9 ∧ b ≠ w7.heap.size + 1) w8 z)
    ⟨by omega, by omega, by omega, by omega⟩ (fun b hb => ⟨by omega, by omega, by omega, by omega⟩) ?_ C1 C2 hs8 ?_ ?_ ⟨[], aw, A0, c0, bf, ⟨rfl, rfl⟩, hn, fun c hc => (by cases hc), B8, B9, by simpa using Bg, sA8, hl8, .refl _ _⟩).mono ?_
  · rintro k z z' ⟨gl, nx, An, cn, bf', j1, j2, j3, j4, j5, j6, j7, j8, j9⟩ xz
    exact ⟨gl, nx, An, cn, bf', j1, j2, j3, j4.ext xz, j5.ext xz, j6.ext xz, j7.ext xz, j8.kept xz trivial, j9.then xz fun _ _ _ => trivial⟩
  · rintro k x z hx hin ⟨gl, nx, An, cn, bf', j1, j2, j3, j4, j5, j6, j7, j8, j9⟩
    have hk : k < ds.length := (List.getElem?_eq_some_iff.1 hx).1
    refine ⟨gl ++ [0], nx, An, cn, bf', by rw [List.take_add_one, hx]; exact j1.snoc_no hin, j2, fun c hc => ?_, j4, j5, ?_, j7, j8, j9⟩
    · rw [List.mem_append, List.mem_singleton] at hc
      rcases hc with hc | rfl
      · exact j3 c hc
      · decide
    · rw [List.append_assoc, show [0] ++ List.replicate (m - (k + 1)) 0 = List.replicate (m - k) (0 : Int) by rw [show m - k = (m - (k + 1)) + 1 by omega, List.replicate_succ]; rfl]
      exact j6
  · rintro k x z hx hin ⟨gl, nx, An, cn, bf', j1, j2, j3, j4, j5, j6, j7, j8, j9⟩
    have hk : k < ds.length := (List.getElem?_eq_some_iff.1 hx).1
    have gll := j1.len.1
    rw [List.length_take, Nat.min_eq_left (by omega)] at gll
    obtain ⟨p1, p2, p3, p4, p5, p6⟩ := dealB_iff.1 (hall x (List.mem_of_getElem? hx))
    obtain ⟨fN, hfN⟩ : ∃ i : Nat, x.frm = i := ⟨x.frm.toNat, by omega⟩
    obtain ⟨tN, htN⟩ : ∃ i : Nat, x.to = i := ⟨x.to.toNat, by omega⟩
    obtain ⟨-, -, R'⟩ := headsV_some j2
    have lnx := R'.lc
    have okf := clA_ok R'.okc fN
    subst hRR
    have ll' := j8.lt
    have zj := j9.size
    refine yield_rule (args := [iv (k : Int), .agg x.c.toArray]) j8 rfl rfl hF' hwf ?_
    refine alloc (fun b17 z1 i1 => ?_)
    refine stA (vs := x.c) i1.blk rfl (Nat.le_of_ble_eq_true rfl) (by simp [Value.oneCell']) (fun z2 B17 k2 s2' => ?_)
    have B17 : Blk z2 b17 55 x.c := B17
    have y1 := i1.at_
    have q1 := i1.size
    have xz : Ext z z2 := i1.ext.then k2 fun b hb _ e => by omega
    refine mid' (j8.kept xz trivial) (fun z3 k3 zk3 l3 => ?_)
    have zxz := xz.size
    have l8 := j4.lt
    have l9 := j5.lt
    have lg := j6.lt
    have kz3 : Kept (fun b => b ≠ w7.heap.size + 1) z z3 := (Ext.any xz).then k3 fun b _ h => h
    have B17 := B17.kept k3 (by omega)
    have j4 := (j4.ext xz).kept k3 (by omega)
    have j5 := (j5.ext xz).kept k3 (by omega)
    have j6 := (j6.ext xz).kept k3 (by omega)
    have j7 := (j7.ext xz).kept k3 fun b _ h => h.2.2.2.1
    have jk : Kept (fun b => b ≠ bg ∧ b ≠ b8 ∧ b ≠ b9 ∧ b ≠ w7.heap.size + 1) w8 z3 := (j9.then xz fun _ _ _ => trivial).then k3 fun b _ h => h.2.2.2
    have B4z := B4.kept jk ⟨by omega, by omega, by omega, by omega⟩
    have hdz := hd8.kept jk fun b _ h => ⟨by omega, by omega, by omega, by omega⟩
    have M : MvOk d bf' nx fN tN (min x.litres (clA nx fN)) := ⟨j2, by omega, by omega, fun h => p3 (by rw [hfN, htN, h]), by omega⟩
    obtain ⟨ba, oa, csa, y, hA, hy, -, -, hcy, rfl, -⟩ := j7.at_ (k := fN) (by omega)
    have ey : y = clA nx fN := (clA_at hy).symm
    refine drawP (.take 0 (.take 1 (.take 2 (.take 3 (.take 4 (.take 5 (.take 6 (.take 7 (.take 8 (.take 9 (.take 10 (.take 11 (.take 12 (.take 13 (.take 14 (.take 15 (.eff 16 (.take 17 (.take 18 (.take 19 (.take 20 (.bar (.eff 21 (.eff 22 .done)))))))))))))))))))))))) [21, 22] (fun q => Ext z3 q) mx (by kernel_rfl) (.refl _ _) ?_
    refine ldK (.slice (some (ad bg 0)) m m) (j4.cell rfl) trivial (.refl _ _) ?_
    refine ldAK _ (.blk B4z) rfl trivial (.refl _ _) ?_
    refine ldK (.slice An n cn) (j5.cell rfl) trivial (.refl _ _) ?_
    refine fldA ?_
    refine ldK (iv x.frm) (B17.cell rfl) trivial (.refl _ _) ?_
    refine fldA ?_
    refine ldK (iv x.to) (B17.cell rfl) trivial (.refl _ _) ?_
    refine fldA ?_
    refine ldK (iv x.litres) (B17.cell rfl) trivial (.refl _ _) ?_
    refine ldK (.slice An n cn) (j5.cell rfl) trivial (.refl _ _) ?_
    refine fldA ?_
    refine ldK (iv x.frm) (B17.cell rfl) trivial (.refl _ _) ?_
    rw [hfN, htN, hA]
    refine idx fN rfl (by omega) ?_
    refine ldK (iv y) (hcy 0 _ rfl) trivial (.refl _ _) ?_
    rw [ey, ← hA]
    refine call_of (c_hmove (D := fun _ => True) M (hdz.more fun _ _ _ => trivial) (j7.more (by decide) fun _ _ _ => trivial)) ?_
    rintro _ z4 ⟨x4', g', A', c', hg, rfl, s4⟩
    refine strS x4' ?_
    have hgb := hg.lo
    have hgl := hg.le
    have okt := clA_ok R'.okc tN
    refine idx k rfl (by omega) ?_
    refine barS (fun _ => True) trivial ?_
    refine st (v := iv g') (j6.ext x4') (by simp [ivs]; omega) rfl (fun z5 Bg5 k5 s5' => ?_)
    refine strS trivial ?_
    have z4s := x4'.size
    refine st1 ((j5.ext x4').kept k5 (by omega)) rfl (fun z6 B96 k6 => ?_)
    refine strS trivial ?_
    refine roundN' _ (((l3.kept x4' trivial).kept k5 (by omega)).kept k6 (by omega)) (fun z7 k7 l7 => ?_)
    have eg : (ivs (gl ++ List.replicate (m - k) 0)).set k (iv g') = ivs ((gl ++ [g']) ++ List.replicate (m - (k + 1)) 0) := by
      rw [ivs_set, show m - k = (m - (k + 1)) + 1 by omega, List.replicate_succ, List.set_append_right _ _ (by omega), show k - gl.length = 0 by omega, List.append_assoc]; rfl
    have kk : Kept (fun b => b ≠ bg ∧ b ≠ b8 ∧ b ≠ b9 ∧ b ≠ w7.heap.size + 1) z z7 := ((((kz3.weak fun b _ h => h.2.2.2).then x4' fun _ _ _ => trivial).then k5 fun b _ h => h.1).then k6 fun b _ h => h.2.2.1).then k7 fun b _ h => h.2.2.2
    refine ⟨rfl, ⟨gl ++ [g'], chgV nx fN tN (min x.litres (clA nx fN)) g', A', c', ?_⟩, kk⟩
    obtain ⟨bf2, hb2, -, -⟩ := M.next hg
    refine ⟨bf2, ?_, hb2, fun c hc => ?_, (((j4.ext x4').kept k5 (by omega)).kept k6 (by omega)).kept k7 (by omega), B96.kept k7 (by omega), ?_, ?_, l7, j9.trans kk⟩
    · rw [List.take_add_one, hx]
      have := j1.snoc_yes (x := x) (bf := bf') (g := g') hin (by rw [hfN, htN]; exact M) (by rw [hfN, htN]; exact hg)
      rw [hfN, htN] at this
      exact this
    · rw [List.mem_append, List.mem_singleton] at hc
      rcases hc with hc | rfl
      · exact j3 c hc
      · omega
    · rw [← eg]
      have : Blk z5 bg 3 ((ivs (gl ++ List.replicate (m - k) 0)).set k (iv g')) := by simpa using Bg5
      exact (this.kept k6 (by omega)).kept k7 (by omega)
    · have sB : SlR tInt (fun b => z3.heap.size ≤ b) z7 A' n (chgV nx fN tN (min x.litres (clA nx fN)) g') := ((s4.kept k5 fun b _ h => by omega).kept k6 fun b _ h => by omega).kept k7 fun b _ h => by omega
      exact sB.more (by decide) fun b _ h => ⟨by omega, by omega, by omega, by omega, by omega⟩
  · rintro _ z ⟨⟨gl, nx, An, cn, bf', j1, j2, j3, j4, j5, j6, j7, j8, j9⟩, kz⟩
    subst hRR
    rw [List.take_of_length_le (by omega)] at j1
    rw [Nat.sub_self, List.replicate_zero, List.append_nil] at j6
    obtain ⟨-, -, R'⟩ := headsV_some j2
    have gll := j1.len.1
    have ll' := j8.lt
    have l8 := j4.lt
    have l9 := j5.lt
    have lg := j6.lt
    refine range_end _ j8 (by simp) (fun z1 k1 => ?_)
    have j4 := j4.kept k1 (by omega)
    have j5 := j5.kept k1 (by omega)
    have j6 := j6.kept k1 (by omega)
    have j7 := j7.kept k1 fun b _ h => h.2.2.2.1
    have kz1 := kz.then k1 fun b _ h => h.2.2.2
    refine drawP (.take 0 (.take 1 (.eff 2 (.eff 3 (.take 4 .done))))) [] (fun q => Blk q b8 39 [.slice (some (ad bg 0)) m m] ∧ Blk q b9 39 [.slice An n cn]) mx (by kernel_rfl) ⟨j4, j5⟩ ?_
    refine ldS (.slice (some (ad bg 0)) m m) (fun q hq => hq.1.cell rfl) ?_
    refine ldS (.slice An n cn) (fun q hq => hq.2.cell rfl) ?_
    refine st1 j4 rfl (fun z2 C8 k2 => ?_)
    have j5' := j5.kept k2 (by omega)
    refine strS ⟨C8, j5'⟩ ?_
    refine st1 j5' rfl (fun z3 C9 k3 => ?_)
    have C8 := C8.kept k3 (by omega)
    refine strS ⟨C8, C9⟩ ?_
    have k13 : Kept (fun b => b ≠ b8 ∧ b ≠ b9) z1 z3 := (k2.weak fun b _ h => h.1).then k3 fun b _ h => h.2
    have hD3 : z3.heap[w7.heap.size]? = some (.deferred (some [])) := ((k13.blk _ (by have := kz1.size; omega) ⟨by omega, by omega⟩).trans (kz1.blk _ (by omega) ⟨by omega, by omega, by omega, by omega⟩)).trans hD8
    refine retM hD3 ?_
    have k4 := Kept.putObj z3 w7.heap.size (.deferred none)
    refine resL _ (holds_cell ((C8.kept k4 (by omega)).cell rfl)) ?_
    refine resL _ (holds_cell ((C9.kept k4 (by omega)).cell rfl)) ?_
    have xF : Ext w (z3.putObj w7.heap.size (.deferred none)) := ((((((x0u.then ku6 fun b hb _ => ⟨by omega, by omega⟩).trans x7).trans x8).then kz1 fun b hb _ => ⟨by omega, by omega, by omega, by omega⟩).then k13 fun b hb _ => ⟨by omega, by omega⟩).then k4 fun b hb _ => by omega)
    refine ⟨xF, _, _, _, _, _, _, by rw [ok0]; rfl, fun q => absurd ok0 q, fun _ => ⟨rfl, rfl, by omega, by omega, gl, nx, bf, hn, j1, j3, R'.okc, hall, ?_, ?_⟩⟩
    · exact blk_ints ((j6.kept k13 ⟨by omega, by omega⟩).kept k4 (by omega)) (by omega) j3 (by omega) trivial
    · exact ((j7.kept k13 fun b _ h => ⟨h.2.1, h.2.2.1⟩).kept k4 fun b _ h => h.2.2.2.2).more (by decide) fun _ _ _ => trivial
end
end Go.Proofs.Ytcpogcdadlcdaaa

/- The order of claims, in the kit's own walk (what the sort asks of it). -/
namespace Go.Proofs.Ytcpogcdadlcdaaa
open Go Go.RowKit Go.Sort

/-- The three numbers' order. -/
def cmpN (a b : Int) : Int := if a < b then -1 else if b < a then 1 else 0
theorem kj_Compare (x y : Int) (W : World) : Calls Try.prog 36 #[.int .i64 x, .int .i64 y] W fun e w' => e = .returned (.int .i64 (cmpN x y)) ∧ w' = W := by
  go_enter Try.func36, Try.ntmps36
  go_wp2
  · go_ret
    refine ⟨congrArg Ending.returned ?_, rfl⟩
    have h : x < y := by assumption
    show Value.int .i64 (-1) = .int .i64 (cmpN x y)
    unfold cmpN; rw [if_pos h]
  · go_ret
    refine ⟨congrArg Ending.returned ?_, rfl⟩
    have h : y < x := by assumption
    show Value.int .i64 1 = .int .i64 (cmpN x y)
    unfold cmpN; rw [if_neg (by omega), if_pos h]
  · go_ret
    refine ⟨congrArg Ending.returned ?_, rfl⟩
    have h : y ≤ x := by assumption
    have h' : x ≤ y := by assumption
    show Value.int .i64 0 = .int .i64 (cmpN x y)
    unfold cmpN; rw [if_neg (by omega), if_neg (by omega)]
theorem k_of (r f h n k : Int) (W : World) : Calls Try.prog 20 #[.agg #[.int .i64 r, .int .i64 f, .int .i64 h, .int .i64 n, .int .i64 k]] W fun e w' => e = .returned (.agg #[.int .i64 h, .int .i64 k, .int .i64 r, .int .i64 f]) ∧ ∃ q os', w' = grow (W.drewN q) os' := by
  go_enter Try.func20, Try.ntmps20
  go_wp2
  refine bodyPost_ret (results_cell_row rfl _ _ (W.heap.size + 1) 73 _ (0, 0) _ rfl (heap_alloc2_new W _ _) Try.underlying73 rfl (by kernel_rfl)) rfl ⟨rfl, 0, #[Obj.cells #[Value.int .i64 r, Value.int .i64 f, Value.int .i64 h, Value.int .i64 n, Value.int .i64 k] 60, Obj.cells #[Value.int .i64 h, Value.int .i64 k, Value.int .i64 r, Value.int .i64 f] 73], ?_⟩
  rw [alloc_eq_grow, alloc_eq_grow, grow_grow]
  rfl
theorem kj_Or (a0 a1 a2 a3 r : Int) (hr0 : a0 ≠ 0 → r = a0) (hr1 : a0 = 0 → a1 ≠ 0 → r = a1) (hr2 : a0 = 0 → a1 = 0 → a2 ≠ 0 → r = a2) (hr3 : a0 = 0 → a1 = 0 → a2 = 0 → r = a3) (g : Nat) (W : World) (h0 : W.cell? ⟨g, 0, none⟩ = some (.int .i64 a0)) (h1 : W.cell? ⟨g, 1, none⟩ = some (.int .i64 a1)) (h2 : W.cell? ⟨g, 2, none⟩ = some (.int .i64 a2)) (h3 : W.cell? ⟨g, 3, none⟩ = some (.int .i64 a3)) : Calls Try.prog 35 #[.slice (some ⟨g, 0, none⟩) 4 4] W fun e w' => e = .returned (.int .i64 r) ∧ w' = W := by
  go_enter Try.func35, Try.ntmps35
  go_wp2
  go_loop [8] (fun i => ∃ k : Nat, k ≤ 4 ∧ i = .int .i64 k ∧ (1 ≤ k → a0 = 0) ∧ (2 ≤ k → a1 = 0) ∧ (3 ≤ k → a2 = 0) ∧ (4 ≤ k → a3 = 0)) (fun i => 4 - (Go.RowKit.intOf i).toNat)
  case atStart => exact ⟨0, by omega, rfl, by omega, by omega, by omega, by omega⟩
  case round =>
    obtain ⟨k, hk, rfl, z0, z1, z2, z3⟩ := hrel
    have hk3 : k = 0 ∨ k = 1 ∨ k = 2 ∨ k = 3 ∨ k = 4 := by omega
    rcases hk3 with rfl | rfl | rfl | rfl | rfl
    · skip
      go_wp2
      all_goals first
        | (have h : a0 ≠ 0 := by have := ‹(a0 != 0) = true›; simpa using this
           go_ret
           refine ⟨congrArg Ending.returned ?_, rfl⟩
           first | rfl | (show Value.int .i64 a0 = .int .i64 r
                          rw [hr0 h]))
        | (have h : a0 = 0 := by first | assumption | (have := ‹(a0 != 0) = false›; simpa using this)
           go_round
           case rel => exact ⟨1, by omega, rfl, fun _ => h, by omega, by omega, by omega⟩
           case measure => simp [Go.RowKit.intOf])
    · skip
      have z0 := z0 (by omega)
      go_wp2
      all_goals first
        | (have h : a1 ≠ 0 := by have := ‹(a1 != 0) = true›; simpa using this
           go_ret
           refine ⟨congrArg Ending.returned ?_, rfl⟩
           first | rfl | (show Value.int .i64 a1 = .int .i64 r
                          rw [hr1 z0 h]))
        | (have h : a1 = 0 := by first | assumption | (have := ‹(a1 != 0) = false›; simpa using this)
           go_round
           case rel => exact ⟨2, by omega, rfl, fun _ => z0, fun _ => h, by omega, by omega⟩
           case measure => simp [Go.RowKit.intOf])
    · skip
      have z0 := z0 (by omega)
      have z1 := z1 (by omega)
      go_wp2
      all_goals first
        | (have h : a2 ≠ 0 := by have := ‹(a2 != 0) = true›; simpa using this
           go_ret
           refine ⟨congrArg Ending.returned ?_, rfl⟩
           first | rfl | (show Value.int .i64 a2 = .int .i64 r
                          rw [hr2 z0 z1 h]))
        | (have h : a2 = 0 := by first | assumption | (have := ‹(a2 != 0) = false›; simpa using this)
           go_round
           case rel => exact ⟨3, by omega, rfl, fun _ => z0, fun _ => z1, fun _ => h, by omega⟩
           case measure => simp [Go.RowKit.intOf])
    · skip
      have z0 := z0 (by omega)
      have z1 := z1 (by omega)
      have z2 := z2 (by omega)
      go_wp2
      all_goals first
        | (have h : a3 ≠ 0 := by have := ‹(a3 != 0) = true›; simpa using this
           go_ret
           refine ⟨congrArg Ending.returned ?_, rfl⟩
           first | rfl | (show Value.int .i64 a3 = .int .i64 r
                          rw [hr3 z0 z1 z2]))
        | (have h : a3 = 0 := by first | assumption | (have := ‹(a3 != 0) = false›; simpa using this)
           go_round
           case rel => exact ⟨4, by omega, rfl, fun _ => z0, fun _ => z1, fun _ => z2, fun _ => h⟩
           case measure => simp [Go.RowKit.intOf])
    · skip
      have z0 := z0 (by omega)
      have z1 := z1 (by omega)
      have z2 := z2 (by omega)
      have z3 := z3 (by omega)
      go_wp2
      go_ret
      refine ⟨congrArg Ending.returned ?_, rfl⟩
      have e : r = 0 := (hr3 z0 z1 z2).trans z3
      first | rfl | (show Value.int .i64 0 = .int .i64 r
                     rw [e]) | (show Value.int .i64 0 = .int .i64 a3
                                rw [z3])
/-- A title: hour, rank, right, farm. -/
abbrev Ti := Int × Int × Int × Int
/-- The order of titles. -/
def cmpT (x y : Ti) : Int := if cmpN x.1 y.1 ≠ 0 then cmpN x.1 y.1 else if cmpN x.2.1 y.2.1 ≠ 0 then cmpN x.2.1 y.2.1 else if cmpN x.2.2.1 y.2.2.1 ≠ 0 then cmpN x.2.2.1 y.2.2.1 else cmpN x.2.2.2 y.2.2.2
set_option maxRecDepth 100000 in
set_option maxHeartbeats 2000000 in
theorem k_hcmp (x y : Ti) (W : World) : Calls Try.prog 19 #[.agg #[.int .i64 x.1, .int .i64 x.2.1, .int .i64 x.2.2.1, .int .i64 x.2.2.2], .agg #[.int .i64 y.1, .int .i64 y.2.1, .int .i64 y.2.2.1, .int .i64 y.2.2.2]] W fun e w' => e = .returned (.int .i64 (cmpT x y)) ∧ ∃ q os', w' = grow (W.drewN q) os' := by
  obtain ⟨r, hr⟩ : ∃ r, r = cmpT x y := ⟨_, rfl⟩
  obtain ⟨c0, hc0⟩ : ∃ c, c = cmpN x.1 y.1 := ⟨_, rfl⟩
  obtain ⟨c1, hc1⟩ : ∃ c, c = cmpN x.2.1 y.2.1 := ⟨_, rfl⟩
  obtain ⟨c2, hc2⟩ : ∃ c, c = cmpN x.2.2.1 y.2.2.1 := ⟨_, rfl⟩
  obtain ⟨c3, hc3⟩ : ∃ c, c = cmpN x.2.2.2 y.2.2.2 := ⟨_, rfl⟩
  unfold cmpT at hr
  rw [← hc0, ← hc1, ← hc2, ← hc3] at hr
  have hr0 : c0 ≠ 0 → r = c0 := by
    intro e0
    rw [hr, if_pos e0]
  have hr1 : c0 = 0 → c1 ≠ 0 → r = c1 := by
    intro e0 e1
    rw [hr, if_neg (by simp [e0]), if_pos e1]
  have hr2 : c0 = 0 → c1 = 0 → c2 ≠ 0 → r = c2 := by
    intro e0 e1 e2
    rw [hr, if_neg (by simp [e0]), if_neg (by simp [e1]), if_pos e2]
  have hr3 : c0 = 0 → c1 = 0 → c2 = 0 → r = c3 := by
    intro e0 e1 e2
    rw [hr, if_neg (by simp [e0]), if_neg (by simp [e1]), if_neg (by simp [e2])]
  have k0 := fun W => kj_Compare x.1 y.1 W
  rw [← hc0] at k0
  have k1 := fun W => kj_Compare x.2.1 y.2.1 W
  rw [← hc1] at k1
  have k2 := fun W => kj_Compare x.2.2.1 y.2.2.1 W
  rw [← hc2] at k2
  have k3 := fun W => kj_Compare x.2.2.2 y.2.2.2 W
  rw [← hc3] at k3
  have hf : Calls Try.prog 19 #[.agg #[.int .i64 x.1, .int .i64 x.2.1, .int .i64 x.2.2.1, .int .i64 x.2.2.2], .agg #[.int .i64 y.1, .int .i64 y.2.1, .int .i64 y.2.2.1, .int .i64 y.2.2.2]] W fun e w' => e = .returned (.int .i64 r) ∧ ∃ q os', w' = grow (W.drewN q) os' := by
    clear hr hc0 hc1 hc2 hc3
    go_enter Try.func19, Try.ntmps19
    go_wp2
    have hm : Try.prog.follows .mixedOrders = true := by kernel_rfl
    obtain ⟨W1, hW1⟩ : ∃ W1, W1 = (W.alloc (Obj.cells #[Value.int IntKind.i64 x.1, Value.int IntKind.i64 x.2.1, Value.int IntKind.i64 x.2.2.1, Value.int IntKind.i64 x.2.2.2] 73)).alloc (Obj.cells #[Value.int IntKind.i64 y.1, Value.int IntKind.i64 y.2.1, Value.int IntKind.i64 y.2.2.1, Value.int IntKind.i64 y.2.2.2] 73) := ⟨_, rfl⟩
    rw [← hW1]
    have B0 : Blk W1 W.heap.size 73 [.int .i64 x.1, .int .i64 x.2.1, .int .i64 x.2.2.1, .int .i64 x.2.2.2] := by rw [hW1]; exact (Blk.new W 73 [.int .i64 x.1, .int .i64 x.2.1, .int .i64 x.2.2.1, .int .i64 x.2.2.2]).ext (Kept.alloc _ _ _)
    have B1 : Blk W1 (W.heap.size + 1) 73 [.int .i64 y.1, .int .i64 y.2.1, .int .i64 y.2.2.1, .int .i64 y.2.2.2] := by
      rw [hW1]
      have := Blk.new (W.alloc (Obj.cells #[Value.int IntKind.i64 x.1, Value.int IntKind.i64 x.2.1, Value.int IntKind.i64 x.2.2.1, Value.int IntKind.i64 x.2.2.2] 73)) 73 [.int .i64 y.1, .int .i64 y.2.1, .int .i64 y.2.2.1, .int .i64 y.2.2.2]
      rwa [show (W.alloc (Obj.cells #[Value.int IntKind.i64 x.1, Value.int IntKind.i64 x.2.1, Value.int IntKind.i64 x.2.2.1, Value.int IntKind.i64 x.2.2.2] 73)).heap.size = W.heap.size + 1 from Array.size_push ..] at this
    have hsz1 : W1.heap.size = W.heap.size + 2 := by
      rw [hW1]
      show ((W.heap.push _).push _).size = _
      rw [Array.size_push, Array.size_push]
    have hrel : ∀ o, ∃ q os', ({ W1 with drawn := W1.drawn + 1 } : World).alloc o = grow (W.drewN q) os' := fun o => ⟨1, #[(Obj.cells #[Value.int IntKind.i64 x.1, Value.int IntKind.i64 x.2.1, Value.int IntKind.i64 x.2.2.1, Value.int IntKind.i64 x.2.2.2] 73), (Obj.cells #[Value.int IntKind.i64 y.1, Value.int IntKind.i64 y.2.1, Value.int IntKind.i64 y.2.2.1, Value.int IntKind.i64 y.2.2.2] 73), o], by
      rw [hW1]
      show ({ heap := ((W.heap.push _).push _).push o, tape := W.tape, drawn := W.drawn + 1, os := W.os, output := W.output } : World) = { heap := W.heap ++ _, tape := W.tape, drawn := W.drawn + 1, os := W.os, output := W.output }
      congr 1⟩
    refine wp_region_still_tail 20 hm (by kernel_rfl) ?_
    simp only [List.take_succ_cons, List.take_zero, List.drop_succ_cons, List.drop_zero]
    obtain ⟨W2, hW2⟩ : ∃ W2, W2 = ({ W1 with drawn := W1.drawn + 1 } : World) := ⟨_, rfl⟩
    rw [← hW2]
    have f0 : W2.cell? ⟨W.heap.size, 0, none⟩ = some (.int .i64 x.1) := by rw [hW2]; exact B0.cell rfl
    have f1 : W2.cell? ⟨W.heap.size, 1, none⟩ = some (.int .i64 x.2.1) := by rw [hW2]; exact B0.cell rfl
    have f2 : W2.cell? ⟨W.heap.size, 2, none⟩ = some (.int .i64 x.2.2.1) := by rw [hW2]; exact B0.cell rfl
    have f3 : W2.cell? ⟨W.heap.size, 3, none⟩ = some (.int .i64 x.2.2.2) := by rw [hW2]; exact B0.cell rfl
    have g0 : W2.cell? ⟨W.heap.size + 1, 0, none⟩ = some (.int .i64 y.1) := by rw [hW2]; exact B1.cell rfl
    have g1 : W2.cell? ⟨W.heap.size + 1, 1, none⟩ = some (.int .i64 y.2.1) := by rw [hW2]; exact B1.cell rfl
    have g2 : W2.cell? ⟨W.heap.size + 1, 2, none⟩ = some (.int .i64 y.2.2.1) := by rw [hW2]; exact B1.cell rfl
    have g3 : W2.cell? ⟨W.heap.size + 1, 3, none⟩ = some (.int .i64 y.2.2.2) := by rw [hW2]; exact B1.cell rfl
    have hsz : W2.heap.size = W.heap.size + 2 := by rw [hW2]; exact hsz1
    rw [← hW2] at hrel
    clear hW2 B0 B1 hsz1 hW1
    clear W1
    iterate 4 still_step
    still_call (k0 _)
    iterate 4 still_step
    still_call (k1 _)
    iterate 4 still_step
    still_call (k2 _)
    iterate 4 still_step
    still_call (k3 _)
    refine wpStill_nil ?_
    have hn := Blk.new W2 3 [.int .i64 c0, .int .i64 c1, .int .i64 c2, .int .i64 c3]
    have k4 := kj_Or c0 c1 c2 c3 r hr0 hr1 hr2 hr3 W2.heap.size (W2.alloc (Obj.cells #[.int .i64 c0, .int .i64 c1, .int .i64 c2, .int .i64 c3] 3)) (hn.cell rfl) (hn.cell rfl) (hn.cell rfl) (hn.cell rfl)
    have hrel := hrel (Obj.cells #[.int .i64 c0, .int .i64 c1, .int .i64 c2, .int .i64 c3] 3)
    clear hn hr0 hr1 hr2 hr3 f0 f1 f2 f3 g0 g1 g2 g3 hsz k0 k1 k2 k3
    go_wp2_with (go_at_call 35; refine k4.mono ?_; rintro e w' ⟨rfl, rfl⟩)
    clear k4
    go_wp2
    go_ret
    exact ⟨rfl, hrel⟩
  rw [hr, hc0, hc1, hc2, hc3] at hf
  exact hf
/-- A claim. -/
structure Cm where
  right : Int
  farm : Int
  hour : Int
  litres : Int
  rank : Int
deriving DecidableEq, Inhabited
def Cm.ti (c : Cm) : Ti := (c.hour, c.rank, c.right, c.farm)
abbrev encJ (c : Cm) : List Value := [.int .i64 c.right, .int .i64 c.farm, .int .i64 c.hour, .int .i64 c.litres, .int .i64 c.rank]
set_option maxRecDepth 100000 in
set_option maxHeartbeats 2000000 in
theorem k_ret1 (x y : Cm) (W : World) : Calls Try.prog 23 #[.agg (encJ x).toArray, .agg (encJ y).toArray] W fun e w' => e = .returned (.int .i64 (cmpT x.ti y.ti)) ∧ ∃ q os', w' = grow (W.drewN q) os' := by
  obtain ⟨r, hr⟩ : ∃ r, r = cmpT x.ti y.ti := ⟨_, rfl⟩
  have kc := fun W => k_hcmp x.ti y.ti W
  rw [← hr] at kc ⊢
  clear hr
  obtain ⟨x0, x1, x2, x3, x4⟩ := x
  obtain ⟨y0, y1, y2, y3, y4⟩ := y
  unfold Cm.ti at kc
  simp only [] at kc
  have kx := fun W => k_of x0 x1 x2 x3 x4 W
  have ky := fun W => k_of y0 y1 y2 y3 y4 W
  go_enter Try.func23, Try.ntmps23
  go_wp2
  have hm : Try.prog.follows .mixedOrders = true := by kernel_rfl
  obtain ⟨W1, hW1⟩ : ∃ W1, W1 = (W.alloc (Obj.cells #[Value.int .i64 x0, Value.int .i64 x1, Value.int .i64 x2, Value.int .i64 x3, Value.int .i64 x4] 60)).alloc (Obj.cells #[Value.int .i64 y0, Value.int .i64 y1, Value.int .i64 y2, Value.int .i64 y3, Value.int .i64 y4] 60) := ⟨_, rfl⟩
  rw [← hW1]
  have B0 : Blk W1 W.heap.size 60 [.int .i64 x0, .int .i64 x1, .int .i64 x2, .int .i64 x3, .int .i64 x4] := by rw [hW1]; exact (Blk.new W 60 [.int .i64 x0, .int .i64 x1, .int .i64 x2, .int .i64 x3, .int .i64 x4]).ext (Kept.alloc _ _ _)
  have B1 : Blk W1 (W.heap.size + 1) 60 [.int .i64 y0, .int .i64 y1, .int .i64 y2, .int .i64 y3, .int .i64 y4] := by
    rw [hW1]
    have := Blk.new (W.alloc (Obj.cells #[Value.int .i64 x0, Value.int .i64 x1, Value.int .i64 x2, Value.int .i64 x3, Value.int .i64 x4] 60)) 60 [.int .i64 y0, .int .i64 y1, .int .i64 y2, .int .i64 y3, .int .i64 y4]
    rwa [show (W.alloc (Obj.cells #[Value.int .i64 x0, Value.int .i64 x1, Value.int .i64 x2, Value.int .i64 x3, Value.int .i64 x4] 60)).heap.size = W.heap.size + 1 from Array.size_push ..] at this
  have hsz1 : W1.heap.size = W.heap.size + 2 := by
    rw [hW1]
    show ((W.heap.push _).push _).size = _
    rw [Array.size_push, Array.size_push]
  have hrel : ∀ n os, ∃ q os', grow (W1.drewN n) os = grow (W.drewN q) os' := fun n os => ⟨n, #[(Obj.cells #[Value.int .i64 x0, Value.int .i64 x1, Value.int .i64 x2, Value.int .i64 x3, Value.int .i64 x4] 60), (Obj.cells #[Value.int .i64 y0, Value.int .i64 y1, Value.int .i64 y2, Value.int .i64 y3, Value.int .i64 y4] 60)] ++ os, by
    rw [hW1, alloc_eq_grow, alloc_eq_grow]
    refine (grow_grow (grow (W.drewN n) #[_]) #[_] os).trans ((grow_grow (W.drewN n) #[_] _).trans ?_)
    rw [← Array.append_assoc]
    rfl⟩
  clear hW1
  have fx0 : ∀ n os, (grow (W1.drewN n) os).cell? ⟨W.heap.size, 0, none⟩ = some (.int .i64 x0) := fun n os => cell_grown (by show W.heap.size < _; omega) (B0.cell rfl) n os
  have fx1 : ∀ n os, (grow (W1.drewN n) os).cell? ⟨W.heap.size, 1, none⟩ = some (.int .i64 x1) := fun n os => cell_grown (by show W.heap.size < _; omega) (B0.cell rfl) n os
  have fx2 : ∀ n os, (grow (W1.drewN n) os).cell? ⟨W.heap.size, 2, none⟩ = some (.int .i64 x2) := fun n os => cell_grown (by show W.heap.size < _; omega) (B0.cell rfl) n os
  have fx3 : ∀ n os, (grow (W1.drewN n) os).cell? ⟨W.heap.size, 3, none⟩ = some (.int .i64 x3) := fun n os => cell_grown (by show W.heap.size < _; omega) (B0.cell rfl) n os
  have fx4 : ∀ n os, (grow (W1.drewN n) os).cell? ⟨W.heap.size, 4, none⟩ = some (.int .i64 x4) := fun n os => cell_grown (by show W.heap.size < _; omega) (B0.cell rfl) n os
  have fy0 : ∀ n os, (grow (W1.drewN n) os).cell? ⟨W.heap.size + 1, 0, none⟩ = some (.int .i64 y0) := fun n os => cell_grown (by show W.heap.size + 1 < _; omega) (B1.cell rfl) n os
  have fy1 : ∀ n os, (grow (W1.drewN n) os).cell? ⟨W.heap.size + 1, 1, none⟩ = some (.int .i64 y1) := fun n os => cell_grown (by show W.heap.size + 1 < _; omega) (B1.cell rfl) n os
  have fy2 : ∀ n os, (grow (W1.drewN n) os).cell? ⟨W.heap.size + 1, 2, none⟩ = some (.int .i64 y2) := fun n os => cell_grown (by show W.heap.size + 1 < _; omega) (B1.cell rfl) n os
  have fy3 : ∀ n os, (grow (W1.drewN n) os).cell? ⟨W.heap.size + 1, 3, none⟩ = some (.int .i64 y3) := fun n os => cell_grown (by show W.heap.size + 1 < _; omega) (B1.cell rfl) n os
  have fy4 : ∀ n os, (grow (W1.drewN n) os).cell? ⟨W.heap.size + 1, 4, none⟩ = some (.int .i64 y4) := fun n os => cell_grown (by show W.heap.size + 1 < _; omega) (B1.cell rfl) n os
  clear B0 B1
  go_quiet_grown (first | (go_at_call_of 20 x0; exact Calls.grown_of (kx _)) | (go_at_call_of 20 y0; exact Calls.grown_of (ky _)) | (go_at_call 19; exact Calls.grown_of (kc _)))
  go_wp2
  go_ret
  exact ⟨rfl, hrel _ _⟩
end Go.Proofs.Ytcpogcdadlcdaaa

/- The sort of claims, laid over this program. -/
namespace Go.Proofs
open Go.Shelf Go.RowKit Go.Lib Go.Sort
shelf_lay_g SlLaysF0.n6 Slsf 6 at Try 22 as Try.jsort
#print axioms Try.jsort
end Go.Proofs

/- The sort of no claims. -/
namespace Go.Proofs.Ytcpogcdadlcdaaa
open Go Go.Shelf Go.RowKit Go.Lib Go.Sort

set_option maxHeartbeats 2000000 in
theorem k_ins0 (fv : Value) (W : World) : Calls Try.prog 53 #[.slice none 0 0, .int .i64 0, .int .i64 0, fv] W fun e w' => e = .returned (.tuple #[]) ∧ w' = W := by
  go_enter Try.func53, Try.ntmps53
  go_wp2
  refine wp_loop_rounds 1 ?_
  rw [rounds_succ]
  go_wp2
  go_end0
  exact ⟨rfl, rfl⟩
set_option maxHeartbeats 2000000 in
theorem k_pdq0 (lim : Int) (fv : Value) (W : World) : Calls Try.prog 38 #[.slice none 0 0, .int .i64 0, .int .i64 0, .int .i64 lim, fv] W fun e w' => e = .returned (.tuple #[]) ∧ w' = W := by
  have hi := fun W => k_ins0 fv W
  go_enter Try.func38, Try.ntmps38
  go_wp2
  refine wp_loop_rounds 1 ?_
  rw [rounds_succ]
  go_wp2_with (go_at_call 53; refine (hi _).mono ?_; rintro e w' ⟨rfl, rfl⟩)
  (try simp only [Exit.inBlock, Exit.then]); refine bodyPost_ret (results_none rfl _ _ _) rfl ?_
  exact ⟨rfl, rfl⟩
set_option maxHeartbeats 2000000 in
theorem k_len0 (W : World) : ∃ n : Int, Calls Try.prog 39 #[.int .u64 0] W fun e w' => e = .returned (.int .i64 n) ∧ w' = W :=
  ⟨_, Any.bits_Len (SlLaysF0.n15.bits { Try.jsort with }) 0 W (by omega) (by omega)⟩
set_option maxHeartbeats 2000000 in
theorem k_sort0 (fv : Value) (W : World) : Calls Try.prog 22 #[.slice none 0 0, fv] W fun e w' => e = .returned (.tuple #[]) ∧ w' = W := by
  have hp := fun lim W => k_pdq0 lim fv W
  obtain ⟨n, hl⟩ := k_len0 W
  go_enter Try.func22, Try.ntmps22
  go_wp2_with (first | (go_at_call 39; refine hl.mono ?_; rintro e w' ⟨rfl, rfl⟩) | (go_at_call 38; refine (hp _ _).mono ?_; rintro e w' ⟨rfl, rfl⟩))
  go_end0
  exact ⟨rfl, rfl⟩
end Go.Proofs.Ytcpogcdadlcdaaa

/- The sort's contract in this layer's words; keys of four numbers; the contracts of of and compare. -/
namespace Go.Proofs.Ytcpogcdadlcdaaa
open Go Go.RowKit Go.Sort Go.Shelf Classical

theorem encJ_len (s : List (Cm)) : (s.flatMap encJ).length = s.length * 5 := by
  induction s with
  | nil => rfl
  | cons a s ih => rw [List.flatMap_cons, List.length_append, ih]; show 5 + s.length * 5 = (s.length + 1) * 5; omega
theorem encJ_at : ∀ {s : List (Cm)} {j : Nat} {x : Cm} (m : Nat), s[j]? = some x → m < 5 → (s.flatMap encJ)[j * 5 + m]? = (encJ x)[m]?
  | [], j, x, m, h, _ => by simp at h
  | a :: s, 0, x, m, h, hm => by
    simp at h; subst h
    rw [List.flatMap_cons, Nat.zero_mul, Nat.zero_add, List.getElem?_append_left (by show m < 5; exact hm)]
  | a :: s, j + 1, x, m, h, hm => by
    rw [List.flatMap_cons, List.getElem?_append_right (by show 5 ≤ _; omega), show (j + 1) * 5 + m - (encJ a).length = j * 5 + m from by show (j + 1) * 5 + m - 5 = _; omega]
    exact encJ_at m (by simpa using h) hm
theorem flatJ_at {d : Array (Cm)} {t : Nat} (h : t < d.size * 5) : some ((flatK encJ 5 d)[t]!) = (d.toList.flatMap encJ)[t]? := by
  rw [get_flatK encJ 5 d t h]
  have hq : t / 5 < d.size := by omega
  have e := encJ_at (s := d.toList) (j := t / 5) (x := d[t / 5]) (t % 5) (by rw [Array.getElem?_toList, Array.getElem?_eq_getElem hq]) (by omega)
  rw [show t / 5 * 5 + t % 5 = t by omega] at e
  rw [e, getElem!_pos d (t / 5) hq]
  have : t % 5 = 0 ∨ t % 5 = 1 ∨ t % 5 = 2 ∨ t % 5 = 3 ∨ t % 5 = 4 := by omega
  rcases this with h | h | h | h | h <;> rw [h] <;> rfl
section
variable {w : World} {g n : Nat} {t : TypeId} {s : List (Cm)} {rest : List Value} {d : Array (Cm)} {os : Array Obj}
theorem holdsJ_blk (h : Blk w g t (s.flatMap encJ ++ rest)) : HoldsK encJ 5 w g 0 s.toArray := by
  intro j hj
  rw [size_flatK] at hj
  refine ⟨?_, h.frozen _⟩
  have e := flatJ_at hj
  show w.cell? (ad g (0 + j)) = some (flatK encJ 5 s.toArray)[j]!
  rw [e, Nat.zero_add]
  have hj' : j < (s.flatMap encJ).length := by rw [encJ_len]; simpa using hj
  rw [List.getElem?_eq_getElem hj']
  exact h.cell (by rw [List.getElem?_append_left hj', List.getElem?_eq_getElem hj'])
theorem sortJ_blk (h : Blk w g t (s.flatMap encJ ++ rest)) (hd : d.size = s.length) : Blk (sortWorldK encJ 5 w g 0 n d os) g t (d.toList.flatMap encJ ++ rest) := by
  have hlt := h.lt
  unfold Blk at h
  show ((w.heap.modify g (onCells (putCells id 0 (flatK encJ 5 d)))) ++ os)[g]? = _
  rw [Array.getElem?_append_left (by simpa using hlt), Array.getElem?_modify, if_pos rfl, h]
  show some (Obj.cells (putCells id 0 (flatK encJ 5 d) (s.flatMap encJ ++ rest).toArray) t (0, 0)) = some (Obj.cells (d.toList.flatMap encJ ++ rest).toArray t (0, 0))
  have key : putCells id 0 (flatK encJ 5 d) (s.flatMap encJ ++ rest).toArray = (d.toList.flatMap encJ ++ rest).toArray := by
    apply Array.ext_getElem?
    intro j
    unfold putCells
    rw [Array.getElem?_mapIdx, List.getElem?_toArray, List.getElem?_toArray]
    have l1 : (s.flatMap encJ).length = s.length * 5 := encJ_len s
    have l2 : (d.toList.flatMap encJ).length = s.length * 5 := by rw [encJ_len]; simp [hd]
    by_cases hj : j < s.length * 5
    · rw [List.getElem?_append_left (by omega), List.getElem?_append_left (by omega), List.getElem?_eq_getElem (by omega)]
      show some (if _ then _ else _) = _
      rw [if_pos (by rw [size_flatK, hd]; omega), Nat.sub_zero]
      exact flatJ_at (by rw [hd]; exact hj)
    · rw [List.getElem?_append_right (by omega), List.getElem?_append_right (by omega), l1, l2]
      cases hr : rest[j - s.length * 5]? with
      | none => rfl
      | some v =>
        show some (if _ then _ else _) = _
        rw [if_neg (by rw [size_flatK, hd]; omega)]
  rw [key]
theorem sortJ_kept : Kept (fun b => b ≠ g) w (sortWorldK encJ 5 w g 0 n d os) := by
  refine ⟨rfl, rfl, rfl, ?_, fun i hi hne => ?_⟩
  · show w.heap.size ≤ ((w.heap.modify g _) ++ os).size
    simp
  · show ((w.heap.modify g _) ++ os)[i]? = w.heap[i]?
    rw [Array.getElem?_append_left (by simpa using hi), Array.getElem?_modify, if_neg (fun e => hne e.symm)]
end
/-- One title is before another. -/
def ltT (x y : Ti) : Prop := x.1 < y.1 ∨ x.1 = y.1 ∧ (x.2.1 < y.2.1 ∨ x.2.1 = y.2.1 ∧ (x.2.2.1 < y.2.2.1 ∨ x.2.2.1 = y.2.2.1 ∧ x.2.2.2 < y.2.2.2))
theorem cmpT_lt {x y : Ti} : cmpT x y < 0 ↔ ltT x y := by
  unfold cmpT cmpN ltT
  (repeat' split) <;> omega
instance (x y : Ti) : Decidable (ltT x y) := decidable_of_iff _ cmpT_lt
theorem ltT_irrefl {x : Ti} : ¬ ltT x x := by unfold ltT; omega
theorem ltT_trans {x y k : Ti} (h : ltT x y) (h' : ltT y k) : ltT x k := by unfold ltT at *; omega
theorem ltT_tri {x y : Ti} (h : ¬ ltT y x) (hne : x ≠ y) : ltT x y := by
  unfold ltT at *
  have : ¬ (x.1 = y.1 ∧ x.2.1 = y.2.1 ∧ x.2.2.1 = y.2.2.1 ∧ x.2.2.2 = y.2.2.2) := fun e => hne (Prod.ext e.1 (Prod.ext e.2.1 (Prod.ext e.2.2.1 e.2.2.2)))
  omega
def cmpM (x y : Cm) : Int := cmpT x.ti y.ti
theorem cmpM_lt (x y : Cm) : ltOf cmpM x y = true ↔ ltT x.ti y.ti := by
  unfold ltOf cmpM
  rw [decide_eq_true_eq]
  exact cmpT_lt
theorem cmpM_nlt (x y : Cm) : ltOf cmpM x y = false ↔ ¬ ltT x.ti y.ti := by
  rw [← cmpM_lt]; simp
theorem cmpM_swo : SWO (ltOf cmpM) where
  irrefl x := by rw [cmpM_nlt]; exact ltT_irrefl
  trans x y z h1 h2 := by rw [cmpM_lt] at *; exact ltT_trans h1 h2
  ntrans x y z h1 h2 := by rw [cmpM_nlt] at *; unfold ltT at *; omega
section
variable {w : World}
set_option maxRecDepth 100000 in
theorem c_sortM {g n c : Nat} {t : TypeId} {s : List Cm} {rest : List Value} (hb : Blk w g t (s.flatMap encJ ++ rest)) (hn : n = s.length) (hl : s.length ≤ 1000000) (hnd : (s.map Cm.ti).Nodup) :
    CallZ Try.prog 22 #[.slice (some (ad g 0)) n c, .func (.func 23) #[] #[]] w (fun v w' => v = .tuple #[] ∧ ∃ s' : List Cm, s'.Perm s ∧ s'.Pairwise (fun a b => ltT a.ti b.ti) ∧ Blk w' g t (s'.flatMap encJ ++ rest) ∧ Kept (fun b => b ≠ g) w w') := by
  intro w0 hw
  subst hw
  subst hn
  rw [callsIn_wide]
  obtain ⟨i, hi, hs⟩ := (aggSize_spec (P := Try.prog) (t := 60) (n := 5) (by kernel_rfl)).2
  have hcon := AnyQ.slices_SortFunc Try.jsort 5 (fun w => run_isAgg_agg (P := Try.prog) (t := 60) (n := 5) (by kernel_rfl) w) (fun w => by have := run_sizeOf (P := Try.prog) hi w; rw [hs] at this; exact this) encJ (fun _ => rfl)
    (fun x v hv => by simp only [List.mem_cons, List.not_mem_nil, or_false] at hv; rcases hv with rfl | rfl | rfl | rfl | rfl <;> rfl) cmpM cmpM_swo 23 #[] g 0 c s.toArray w0 (enters_of Try.func23 (by kernel_rfl) rfl)
    (fun m os dk hdk x y => k_ret1 x y _) (holdsJ_blk (w := w0) hb) hb.lt (by simp; omega)
  change Calls Try.prog 22 _ _ _ at hcon
  rw [show s.toArray.size = s.length from List.size_toArray ..] at hcon
  refine hcon.mono ?_
  rintro e w' ⟨rfl, d', m, os, hp, hso, rfl⟩
  have hds : d'.size = s.length := by have := hp.1; simpa using this
  have hperm : d'.toList.Perm s := by
    have := hp.2.2
    rw [Array.extract_eq_self_of_le (by omega), Array.extract_eq_self_of_le (by simp)] at this
    simpa using this
  refine ⟨_, rfl, rfl, d'.toList, hperm, ?_, sortJ_blk (w := w0) hb hds, ⟨rfl, rfl, rfl, (sortJ_kept (w := w0)).size, (sortJ_kept (w := w0)).blk⟩⟩
  have hnd' : (d'.toList.map Cm.ti).Nodup := (hperm.map _).nodup_iff.2 hnd
  rw [List.pairwise_iff_getElem]
  intro a b ha hb' hab
  have ha' : a < d'.size := by simpa using ha
  have hb'' : b < d'.size := by simpa using hb'
  have h1 := hso a b (Nat.zero_le _) hab (by omega)
  rw [getElem!_pos d' b hb'', getElem!_pos d' a ha', cmpM_nlt] at h1
  have hne : d'[a].ti ≠ d'[b].ti := by
    have := List.pairwise_iff_getElem.1 hnd' a b (by simpa using ha) (by simpa using hb') hab
    simpa using this
  rw [Array.getElem_toList, Array.getElem_toList]
  exact ltT_tri h1 hne
end

theorem ext_grow {W : World} {q : Nat} {os : Array Obj} : Ext (z W) (z (grow (W.drewN q) os)) := by
  refine ⟨rfl, rfl, rfl, ?_, fun i hi _ => ?_⟩
  · show W.heap.size ≤ (W.heap ++ os).size
    simp
  · show (W.heap ++ os)[i]? = W.heap[i]?
    rw [Array.getElem?_append_left (by simpa using hi)]
abbrev kv4 (t : Ti) : Value := .agg #[.int .i64 t.1, .int .i64 t.2.1, .int .i64 t.2.2.1, .int .i64 t.2.2.2]
section
variable {w : World}
theorem c_hof (c : Cm) : CallZ Try.prog 20 #[.agg (encJ c).toArray] w (fun v w' => v = kv4 c.ti ∧ Ext w w') := by
  intro w0 hw
  subst hw
  rw [callsIn_wide]
  refine (k_of c.right c.farm c.hour c.litres c.rank w0).mono ?_
  rintro e w' ⟨rfl, q, os, rfl⟩
  exact ⟨_, rfl, rfl, ext_grow⟩
theorem c_hcmp (x y : Ti) : CallZ Try.prog 19 #[kv4 x, kv4 y] w (fun v w' => v = iv (cmpT x y) ∧ Ext w w') := by
  intro w0 hw
  subst hw
  rw [callsIn_wide]
  refine (k_hcmp x y w0).mono ?_
  rintro e w' ⟨rfl, q, os, rfl⟩
  exact ⟨_, rfl, rfl, ext_grow⟩
end
/-- What the rules ask of the record's type. -/
structure Key4 (P : Program) (k e : TypeId) (f0 f1 f2 f3 : Field) : Prop where
  u : P.underlying k = some (.struct #[f0, f1, f2, f3])
  t0 : f0.type = e
  t1 : f1.type = e
  t2 : f2.type = e
  t3 : f3.type = e
  o0 : f0.offset = 0
  o1 : f1.offset = 1
  o2 : f2.offset = 2
  o3 : f3.offset = 3
  n0 : f0.name ≠ "_"
  n1 : f1.name ≠ "_"
  n2 : f2.name ≠ "_"
  n3 : f3.name ≠ "_"
  ue : P.underlying e = some (.int .i64)
  eq : ∀ a b c d a' b' c' d' : Int, eqV P 8 k (.agg #[.int .i64 a, .int .i64 b, .int .i64 c, .int .i64 d]) (.agg #[.int .i64 a', .int .i64 b', .int .i64 c', .int .i64 d']) = some ((a == a') && ((b == b') && ((c == c') && ((d == d') && true))))
section
variable {P : Program}
theorem run_chk4 {k e : TypeId} {f0 f1 f2 f3 : Field} (h : Key4 P k e f0 f1 f2 f3) (b : Bool) (a : Ti) (w : World) : (Instr.checkKey b 10000 k (kv4 a)).run P w = .ok () w := by
  have p0 : (part e #[.int .i64 a.1, .int .i64 a.2.1, .int .i64 a.2.2.1, .int .i64 a.2.2.2] 0).run P w = .ok (.int .i64 a.1) w := run_partV (by unfold partV; rw [h.ue]; rfl) w
  have p1 : (part e #[.int .i64 a.1, .int .i64 a.2.1, .int .i64 a.2.2.1, .int .i64 a.2.2.2] 1).run P w = .ok (.int .i64 a.2.1) w := run_partV (by unfold partV; rw [h.ue]; rfl) w
  have p2 : (part e #[.int .i64 a.1, .int .i64 a.2.1, .int .i64 a.2.2.1, .int .i64 a.2.2.2] 2).run P w = .ok (.int .i64 a.2.2.1) w := run_partV (by unfold partV; rw [h.ue]; rfl) w
  have p3 : (part e #[.int .i64 a.1, .int .i64 a.2.1, .int .i64 a.2.2.1, .int .i64 a.2.2.2] 3).run P w = .ok (.int .i64 a.2.2.2) w := run_partV (by unfold partV; rw [h.ue]; rfl) w
  have ck : ∀ n : Int, (Instr.checkKey b 9999 e (.int .i64 n)).run P w = .ok () w := fun n => by
    rw [show (9999 : Nat) = 9998 + 1 from rfl]
    unfold Instr.checkKey
    rw [Sem.run_bind, run_underlying h.ue]
    rfl
  rw [show (10000 : Nat) = 9999 + 1 from rfl]
  unfold Instr.checkKey
  simp only [Sem.run_bind, run_underlying h.u, Result.andThen_ok]
  simp only [← Array.forIn_toList, List.forIn_cons, List.forIn_nil, if_pos h.n0, if_pos h.n1, if_pos h.n2, if_pos h.n3, Sem.run_bind, h.t0, h.t1, h.t2, h.t3, h.o0, h.o1, h.o2, h.o3, p0, p1, p2, p3, ck, Result.andThen_ok, Sem.run_pure]
theorem run_fnd4 {k e : TypeId} {f0 f1 f2 f3 : Field} (h : Key4 P k e f0 f1 f2 f3) (a : Ti) (L : List MapEntry) (w : World) (hL : ∀ e ∈ L, ∃ q, e.key = kv4 q) : (Instr.findKey k (kv4 a) L).run P w = .ok (findP (kv4 a) L 0) w := by
  have heq : ∀ q, (Op.equal k (kv4 a) (kv4 q)).run P w = .ok ((a.1 == q.1) && ((a.2.1 == q.2.1) && ((a.2.2.1 == q.2.2.1) && ((a.2.2.2 == q.2.2.2) && true)))) w := fun q => run_eqV 9992 8 k _ _ _ (h.eq a.1 a.2.1 a.2.2.1 a.2.2.2 q.1 q.2.1 q.2.2.1 q.2.2.2) w
  have ask : ∀ (L : List MapEntry) (i : Nat), (∀ e ∈ L, ∃ q, e.key = kv4 q) → (Instr.findAsking k (kv4 a) L i).run P w = .ok (findP (kv4 a) L i) w := by
    intro L
    induction L with
    | nil => intro i _; simp [Instr.findAsking, findP]
    | cons x r ih =>
      intro i hx
      obtain ⟨q, hq⟩ := hx x List.mem_cons_self
      unfold Instr.findAsking findP
      rw [hq, Sem.run_bind, heq q]
      by_cases hab : a = q
      · subst hab
        simp
      · have h1 : ((a.1 == q.1) && ((a.2.1 == q.2.1) && ((a.2.2.1 == q.2.2.1) && ((a.2.2.2 == q.2.2.2) && true)))) = false := by
          rw [Bool.eq_false_iff]
          intro e
          simp at e
          exact hab (Prod.ext e.1 (Prod.ext e.2.1 (Prod.ext e.2.2.1 e.2.2.2)))
        have h2 : ¬ (kv4 q = kv4 a) := fun e => by
          simp at e
          exact hab (Prod.ext e.1.symm (Prod.ext e.2.1.symm (Prod.ext e.2.2.1.symm e.2.2.2.symm)))
        rw [h1, if_neg h2]
        simpa using ih (i + 1) fun y hy => hx y (List.mem_cons_of_mem _ hy)
  unfold Instr.findKey
  rw [Sem.run_bind, run_underlying h.u]
  simp only [Result.andThen_ok]
  cases L with
  | nil => simp [Instr.findNow, findP]
  | cons x r =>
    obtain ⟨q, hq⟩ := hL x List.mem_cons_self
    have : Instr.findNow (.struct #[f0, f1, f2, f3]) (kv4 a) (x :: r) 0 = none := by unfold Instr.findNow; rw [hq]; rfl
    rw [this]
    exact ask _ 0 hL
theorem Key4.law {k e : TypeId} {f0 f1 f2 f3 : Field} (h : Key4 P k e f0 f1 f2 f3) : KeyL P k kv4 where
  inj a b h := by simp at h; exact Prod.ext h.1 (Prod.ext h.2.1 (Prod.ext h.2.2.1 h.2.2.2))
  chk := run_chk4 h
  bits a := by
    rw [show (10000 : Nat) = 9998 + 1 + 1 from rfl]
    simp [Instr.sameBits]
  fnd := run_fnd4 h
end
theorem keyT : ∃ f0 f1 f2 f3, Key4 Try.prog 73 3 f0 f1 f2 f3 := ⟨_, _, _, _, ⟨Try.underlying73, rfl, rfl, rfl, rfl, rfl, rfl, rfl, rfl, by decide, by decide, by decide, by decide, by kernel_rfl, fun _ _ _ _ _ _ _ _ => by kernel_rfl⟩⟩
instance keyTi : KeyL Try.prog 73 kv4 := by
  obtain ⟨_, _, _, _, h⟩ := keyT
  exact h.law
end Go.Proofs.Ytcpogcdadlcdaaa

/- Maps whose keys differ. Nothing of the program stands here. -/
namespace Go.Proofs.Ytcpogcdadlcdaaa
open Go Go.RowKit Classical

theorem mkE_key (k v : Value) (c : Nat) : (mkE k v c).key = k := rfl
theorem keysU_push {L : List MapEntry} {e : MapEntry} {k : Value} (he : e.key = k) (h : (L.map (·.key)).Nodup) (hn : ∀ x ∈ L, x.key ≠ k) : ((L ++ [e]).map (·.key)).Nodup := by
  rw [List.map_append, List.nodup_append]
  refine ⟨h, by simp, fun x hx y hy => ?_⟩
  obtain ⟨z, hz, rfl⟩ := List.mem_map.1 hx
  simp only [List.map_cons, List.map_nil, List.mem_singleton] at hy
  subst hy
  rw [he]
  exact hn z hz
theorem keysU_modify {L : List MapEntry} (h : (L.map (·.key)).Nodup) (j : Nat) (v : Value) : ((L.modify j fun e => { e with val := v }).map (·.key)).Nodup := by
  have : (L.modify j fun e => { e with val := v }).map (·.key) = L.map (·.key) := by
    apply List.ext_getElem?
    intro i
    rw [List.getElem?_map, List.getElem?_map, List.getElem?_modify]
    cases L[i]? with
    | none => rfl
    | some e =>
      show some _ = some _
      by_cases hij : j = i
      · simp [hij]
      · simp [hij]
  rw [this]; exact h
theorem look_own {L : List MapEntry} (h : (L.map (·.key)).Nodup) : ∀ {e : MapEntry}, e ∈ L → lookP e.key L = some e.val := by
  induction L with
  | nil => intro e he; cases he
  | cons a L ih =>
    intro e he
    rw [List.map_cons, List.nodup_cons] at h
    rw [lookP_cons]
    rcases List.mem_cons.1 he with rfl | he
    · rw [if_pos rfl]
    · rw [if_neg (fun q => h.1 (by rw [q]; exact List.mem_map_of_mem he))]
      exact ih h.2 he
theorem look_has {v x : Value} {L : List MapEntry} (h : lookP v L = some x) : ∃ e ∈ L, e.key = v ∧ e.val = x := by
  induction L with
  | nil => cases h
  | cons a L ih =>
    rw [lookP_cons] at h
    by_cases q : a.key = v
    · rw [if_pos q] at h; injection h with h; exact ⟨a, List.mem_cons_self, q, h⟩
    · rw [if_neg q] at h
      obtain ⟨e, he, r⟩ := ih h
      exact ⟨e, List.mem_cons_of_mem _ he, r⟩
/-- Block g is a map that says f; its keys differ. -/
def MapU {κ : Type} (kv : κ → Value) (w : World) (g : Nat) (f : κ → Option Value) : Prop := ∃ L c, Ents kv w g L c ∧ (L.map (·.key)).Nodup ∧ ∀ a, lookP (kv a) L = f a
def MapV {κ : Type} (kv : κ → Value) (w : World) (g : Nat) (f : κ → Option Value) (a : κ) (s : Nat) : Prop := ∃ L c, Ents kv w g L c ∧ (L.map (·.key)).Nodup ∧ (∀ a, lookP (kv a) L = f a) ∧
  ∃ (j : Nat) (e : MapEntry), L[j]? = some e ∧ e.key = kv a ∧ e.born = s ∧ ∀ (m : Nat) (y : MapEntry), m < j → L[m]? = some y → y.key ≠ kv a
section
variable {P : Program} {κ : Type} {kv : κ → Value}
theorem MapU.g {w : World} {g : Nat} {f : κ → Option Value} (h : MapU kv w g f) : MapG kv w g f := by obtain ⟨L, c, h1, _, h2⟩ := h; exact ⟨L, c, h1, h2⟩
theorem MapV.g {w : World} {g s : Nat} {f : κ → Option Value} {a : κ} (h : MapV kv w g f a s) : MapU kv w g f := by obtain ⟨L, c, h1, h2, h3, _⟩ := h; exact ⟨L, c, h1, h2, h3⟩
theorem MapU.kept {D : Nat → Prop} {w w' : World} {g : Nat} {f : κ → Option Value} (h : MapU kv w g f) (k : Kept D w w') (hD : D g) : MapU kv w' g f := by
  obtain ⟨L, c, h1, h2⟩ := h; exact ⟨L, c, h1.kept k hD, h2⟩
theorem MapU.new (kv : κ → Value) (w : World) : MapU kv (w.alloc (.map #[] 0)) w.heap.size (fun _ => none) := ⟨[], 0, Ents.new kv w, by simp, fun _ => rfl⟩
/-- A map's entry set. -/
theorem mupdU {t k e : TypeId} [hm : MapTy P t k e] [hk : KeyL P k kv] {g : Nat} {f : κ → Option Value} (a : κ) {v : Value} {w : World} {K : VK} (h : MapU kv w g f) (kk : ∀ w', MapU kv w' g (pset f a v) → Kept (fun b => b ≠ g) w w' → w'.heap.size = w.heap.size → K undef w') : MUpdP P t (.map (some g)) (kv a) v K w := by
  rw [MUpdP_eq]
  intro w0 hw
  subst hw
  have h1 := mapOf_spec hm.h
  obtain ⟨L, c, hE, hU, hf⟩ := h
  have hb : w0.heap[g]? = some (.map L.toArray c) := hE.at_
  have hfn := hk.fnd a L w0 hE.keys
  cases hp : findP (kv a) L 0 with
  | none =>
    rw [hp] at hfn
    have hr : (uS (Instr.mapUpdate t (.map (some g)) (kv a) v)).run P w0 = .ok .skip { w0 with heap := w0.heap.setIfInBounds g (.map (L ++ [(mkE (kv a) v c)]).toArray (c + 1)) } := by
      unfold uS Instr.mapUpdate
      simp only [Sem.run_bind, run_underlying h1, Result.andThen_ok, MapKept.run_getObj_map hb, hk.chk, hfn, MapKept.run_setObj_map _ hb, Sem.run_pure]
      simp
    rw [hr]
    obtain ⟨k1, k2⟩ := heap_set (o := .map (L ++ [(mkE (kv a) v c)]).toArray (c + 1)) hb
    refine kk (z { w0 with heap := w0.heap.setIfInBounds g _ }) ⟨_, _, ⟨k2, fun y hy => ?_, hE.born.push _ _⟩, keysU_push (mkE_key (kv a) _ c) hU (findP_none.1 hp), fun b => ?_⟩ k1 (by simp [z])
    · rcases List.mem_append.1 hy with h | h
      · exact hE.keys y h
      · simp at h; subst h; exact ⟨a, rfl⟩
    · rw [lookP_push (x := (mkE (kv a) v c)) L (lookP_none.2 hp)]
      unfold pset
      by_cases hab : b = a
      · subst hab; rw [if_pos rfl, if_pos rfl]
      · rw [if_neg (fun e => hab (hk.inj _ _ e).symm), if_neg hab, hf]
  | some p =>
    obtain ⟨n, x⟩ := p
    rw [hp] at hfn
    obtain ⟨j, y, hn, hj, hy, _, hfirst⟩ := findP_some hp
    have hn : n = j := by omega
    subst hn
    have hr : (uS (Instr.mapUpdate t (.map (some g)) (kv a) v)).run P w0 = .ok .skip { w0 with heap := w0.heap.setIfInBounds g (.map (L.modify n fun e => { e with val := v }).toArray c) } := by
      unfold uS Instr.mapUpdate
      have hkey : ((L.toArray[n]?).map (·.key)).getD (kv a) = kv a := by simp [hj, hy]
      simp only [Sem.run_bind, run_underlying h1, Result.andThen_ok, MapKept.run_getObj_map hb, hk.chk, hfn, hkey, Instr.keyThatStays, hk.bits, if_true, Sem.run_pure, MapKept.run_setObj_map _ hb]
      rw [← modify_both hj hy]
      simp
    rw [hr]
    obtain ⟨k1, k2⟩ := heap_set (o := .map (L.modify n fun e => { e with val := v }).toArray c) hb
    refine kk (z { w0 with heap := w0.heap.setIfInBounds g _ }) ⟨_, _, ⟨k2, keys_modify hE.keys n v, hE.born.modify n v⟩, keysU_modify hU n v, fun b => ?_⟩ k1 (by simp [z])
    rw [lookP_modify (k := kv a) L n y hj hy hfirst]
    unfold pset
    by_cases hab : b = a
    · subst hab; rw [if_pos rfl, if_pos rfl]
    · rw [if_neg (fun e => hab (hk.inj _ _ e).symm), if_neg hab, hf]
/-- An entry taken hold of ('m[a] op= ..'). -/
theorem mentU {t k e : TypeId} {zv : Value} [hm : MapTy P t k e] [hk : KeyL P k kv] [hz : ZeroTy P e zv] {g : Nat} {f : κ → Option Value} (a : κ) {w : World} {K : VK} (h : MapU kv w g f) (kk : ∀ w' (s : Nat), MapV kv w' g (pset f a ((f a).getD zv)) a s → Kept (fun b => b ≠ g) w w' → w'.heap.size = w.heap.size → K (.tuple #[(f a).getD zv, .int .i64 (s : Int)]) w') : MEntP P t (.map (some g)) (kv a) K w := by
  rw [MEntP_eq]
  intro w0 hw
  subst hw
  have h1 := mapOf_spec hm.h
  obtain ⟨L, c, hE, hU, hf⟩ := h
  have hb : w0.heap[g]? = some (.map L.toArray c) := hE.at_
  have hfn := hk.fnd a L w0 hE.keys
  cases hp : findP (kv a) L 0 with
  | none =>
    rw [hp] at hfn
    have hfa : f a = none := by rw [← hf a]; exact lookP_none.2 hp
    have hr : (vS (Instr.mapEntry t (.map (some g)) (kv a))).run P w0 = .ok (.value (.tuple #[zv, .int .i64 (c : Int)])) { w0 with heap := w0.heap.setIfInBounds g (.map (L ++ [(mkE (kv a) zv c)]).toArray (c + 1)) } := by
      rw [run_vS]
      unfold Instr.mapEntry
      simp only [Sem.run_bind, run_underlying h1, Result.andThen_ok, MapKept.run_getObj_map hb, hk.chk, hfn, run_zeroValue' hz.h, MapKept.run_setObj_map _ hb, Sem.run_pure]
      simp [goInt]
    rw [hr]
    obtain ⟨k1, k2⟩ := heap_set (o := .map (L ++ [(mkE (kv a) zv c)]).toArray (c + 1)) hb
    have := kk (z { w0 with heap := w0.heap.setIfInBounds g (.map (L ++ [(mkE (kv a) zv c)]).toArray (c + 1)) }) c ⟨_, _, ⟨k2, fun y hy => ?_, hE.born.push _ _⟩, keysU_push (mkE_key (kv a) _ c) hU (findP_none.1 hp), fun b => ?_, L.length, (mkE (kv a) zv c), by simp, rfl, rfl, fun m y hm hy => ?_⟩ k1 (by simp [z])
    · rw [hfa] at this; exact this
    · rcases List.mem_append.1 hy with h | h
      · exact hE.keys y h
      · simp at h; subst h; exact ⟨a, rfl⟩
    · rw [lookP_push (x := (mkE (kv a) zv c)) L (lookP_none.2 hp), hfa]
      unfold pset
      by_cases hab : b = a
      · subst hab; rw [if_pos rfl, if_pos rfl]; rfl
      · rw [if_neg (fun e => hab (hk.inj _ _ e).symm), if_neg hab, hf]
    · rw [List.getElem?_append_left hm] at hy
      exact findP_none.1 hp y (List.mem_of_getElem? hy)
  | some p =>
    obtain ⟨n, x⟩ := p
    rw [hp] at hfn
    obtain ⟨j, y, hn, hj, hy, hyx, hfirst⟩ := findP_some hp
    have hn : n = j := by omega
    subst hn
    have hfa : f a = some x := by rw [← hf a]; unfold lookP; rw [hp]; rfl
    have hr : (vS (Instr.mapEntry t (.map (some g)) (kv a))).run P w0 = .ok (.value (.tuple #[x, .int .i64 (y.born : Int)])) { w0 with heap := w0.heap.setIfInBounds g (.map L.toArray c) } := by
      rw [run_vS]
      unfold Instr.mapEntry
      have hkey : ((L.toArray[n]?).map (·.key)).getD (kv a) = kv a := by simp [hj, hy]
      simp only [Sem.run_bind, run_underlying h1, Result.andThen_ok, MapKept.run_getObj_map hb, hk.chk, hfn, hkey, Instr.keyThatStays, hk.bits, if_true, Sem.run_pure, MapKept.run_setObj_map _ hb]
      have e1 := modify_same hj hy
      have e2 : (L.toArray.modify n fun e => { e with key := kv a }) = L.toArray := by have := congrArg List.toArray e1; simpa using this
      rw [e2]
      simp [goInt, hj]
    rw [hr]
    obtain ⟨k1, k2⟩ := heap_set (o := .map L.toArray c) hb
    have := kk (z { w0 with heap := w0.heap.setIfInBounds g (.map L.toArray c) }) y.born ⟨L, c, ⟨k2, hE.keys, hE.born⟩, hU, fun b => ?_, n, y, hj, hy, rfl, hfirst⟩ k1 (by simp [z])
    · rw [hfa] at this; exact this
    · rw [hf, hfa]
      unfold pset
      by_cases hab : b = a
      · subst hab; rw [if_pos rfl]; exact hfa
      · rw [if_neg hab]
/-- .. and set. -/
theorem estoU {t k e : TypeId} [_hm : MapTy P t k e] [hk : KeyL P k kv] {g s : Nat} {f : κ → Option Value} {a : κ} {v : Value} {w : World} {K : VK} (h : MapV kv w g f a s) (kk : ∀ w', MapU kv w' g (pset f a v) → Kept (fun b => b ≠ g) w w' → w'.heap.size = w.heap.size → K undef w') : EStoP P t (.map (some g)) (.int .i64 (s : Int)) v K w := by
  rw [EStoP_eq]
  intro w0 hw
  subst hw
  obtain ⟨L, c, hE, hU, hf, j, y, hj, hy, hs, hfirst⟩ := h
  have hb : w0.heap[g]? = some (.map L.toArray c) := hE.at_
  subst hs
  have hjl := (List.getElem?_eq_some_iff.1 hj).1
  have hidx : L.toArray.findIdx? (fun e => (e.born : Int) == (y.born : Int)) = some j := by
    rw [List.findIdx?_toArray]
    rw [List.findIdx?_eq_some_iff_getElem]
    refine ⟨hjl, ?_, fun m hm => ?_⟩
    · have : L[j] = y := (List.getElem?_eq_some_iff.1 hj).2
      simp [this]
    · have hm' : L[m]? = some L[m] := List.getElem?_eq_getElem (by omega)
      simp only [beq_iff_eq, Int.natCast_inj]
      intro e
      have := (hE.born j y hj).2 m _ hm' e
      omega
  have hr : (uS (Instr.entryStore t (.map (some g)) (.int .i64 (y.born : Int)) v)).run P w0 = .ok .skip { w0 with heap := w0.heap.setIfInBounds g (.map (L.modify j fun e => { e with val := v }).toArray c) } := by
    have hai : (asInt (.int .i64 (y.born : Int))).run P w0 = .ok (y.born : Int) w0 := rfl
    unfold uS Instr.entryStore
    simp only [Sem.run_bind, Result.andThen_ok, MapKept.run_getObj_map hb, hai, Sem.run_pure, hidx, MapKept.run_setObj_map _ hb]
    simp
  rw [hr]
  obtain ⟨k1, k2⟩ := heap_set (o := .map (L.modify j fun e => { e with val := v }).toArray c) hb
  refine kk (z { w0 with heap := w0.heap.setIfInBounds g _ }) ⟨_, _, ⟨k2, keys_modify hE.keys j v, hE.born.modify j v⟩, keysU_modify hU j v, fun b => ?_⟩ k1 (by simp [z])
  rw [lookP_modify (k := kv a) L j y hj hy hfirst]
  unfold pset
  by_cases hab : b = a
  · subst hab; rw [if_pos rfl, if_pos rfl]
  · rw [if_neg (fun e => hab (hk.inj _ _ e).symm), if_neg hab, hf]

end
end Go.Proofs.Ytcpogcdadlcdaaa
