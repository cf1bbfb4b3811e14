/- Parts of the proof: Dl Dm. -/
import Derived.Test.YtmjcaclakggafaaGreatM9
import Derived.Test.YtmjcaclakggafaaGreatM7
import Derived.Test.YtmjcaclakggafaaGreatM10

/- Layer 41's reference: Parts, right, check, Claims, sum, Enough. -/
namespace Go.Proofs.YtmjcaclakggafaaGreat
open Go Go.RowKit

section
variable {D : Nat → Prop} {w : World}
set_option maxRecDepth 4000 in
theorem c_r41Parts {d : Dist} {A1 A2 A3 A4 A5 A6 : Option Addr} {n1 c1 n2 c2 n3 c3 n4 c4 n5 c5 n6 c6 : Nat} {r : Int} (hr : SlR tReach D w A1 n1 d.reaches) (hf : SlR tFarm D w A2 n2 d.farms) (hn : d.reaches.length ≤ 64 ∧ d.farms.length ≤ 600) :
    CallZ Tryz.prog 27 #[.agg #[.string d.name, iv d.hours, iv d.cap, iv d.start, .slice A1 n1 c1, .slice A2 n2 c2, .slice A3 n3 c3, .slice A4 n4 c4, .slice A5 n5 c5, .slice A6 n6 c6], iv r] w (fun v w' => ∃ A n c, v = .slice A n c ∧ OwnF w w' A n c 75 2 (cps (ptsV d r))) := by
  have lr := hr.len
  have lf := hf.len
  refine fn_rule (args := [.agg #[.string d.name, iv d.hours, iv d.cap, iv d.start, .slice A1 n1 c1, .slice A2 n2 c2, .slice A3 n3 c3, .slice A4 n4 c4, .slice A5 n5 c5, .slice A6 n6 c6], iv r]) Tryz.func27 (by kernel_rfl) ?_
  refine box (fun b1 w1 h1 => ?_)
  have B1 : Blk w1 b1 31 [.string d.name, iv d.hours, iv d.cap, iv d.start, .slice A1 n1 c1, .slice A2 n2 c2, .slice A3 n3 c3, .slice A4 n4 c4, .slice A5 n5 c5, .slice A6 n6 c6] := h1.blk
  refine loop_rule (fun s : Nat × Option Addr × Nat × Nat => [(6, iv (s.1 : Int)), (5, .slice s.2.1 s.2.2.1 s.2.2.2)]) (fun s u => s.1 ≤ n2 ∧ OwnF w1 u s.2.1 s.2.2.1 s.2.2.2 75 2 (cps (ptsF d r s.1))) (fun s _ => n2 - s.1) (0, none, 0, 0) ⟨rfl, rfl, trivial⟩ ⟨by omega, .nil (.refl _ _)⟩ rfl ?_
  rintro G1 ⟨k, E, ne, ce⟩ u ⟨hk, own⟩
  have hk : k ≤ n2 := hk
  have own : OwnF w1 u E ne ce 75 2 (cps (ptsF d r k)) := own
  have lo := own.own.len
  rw [cps_len] at lo
  have lk := ptsF_len (d := d) (r := r) (k := k)
  have B1u := B1.ext own.ext
  refine fldA ?_
  refine ld (.slice A2 n2 c2) (B1u.cell rfl) ?_
  refine len ?_
  refine cD (fun hlt => ?_) (fun hge => ?_)
  · have hlt : k < n2 := by omega
    obtain ⟨bb, o, cs, x, rfl, hx, -, -, hc, rfl⟩ := ((hf.ext h1.ext).ext own.ext).at_ hlt
    have hfm := fmC_at hx
    refine fldA ?_
    refine ld (.slice (some (ad bb o)) n2 c2) (B1u.cell rfl) ?_
    refine idx k rfl hlt ?_
    refine fldA ?_
    refine ld (iv x.reach) (hc 1 _ rfl) ?_
    refine cE (fun g => ?_) (fun g => ?_)
    · refine bld [.bool true, iv (k : Int)] (by kernel_rfl) ?_
      refine lit [.agg #[.bool true, iv (k : Int)]] (fun g4 u4 h4 => ?_)
      refine appF (n := ne) (A := E) (c := ce) (own.then h4.ext) (h4.src (sz := 2) rfl) (by omega) (fun A' c' u5 o5 _ _ => ?_)
      refine arI (by omega) ?_
      refine next (k + 1, A', ne + 1, c') ⟨by rw [Int.natCast_add]; rfl, rfl, trivial⟩ ⟨by show k + 1 ≤ n2; omega, ?_⟩ (by show n2 - (k + 1) < n2 - k; omega)
      show OwnF w1 u5 A' (ne + 1) c' 75 2 (cps (ptsF d r (k + 1)))
      rw [ptsF_yes (by rw [hfm]; exact g), cps_app]
      exact o5
    · refine arI (by omega) ?_
      refine next (k + 1, E, ne, ce) ⟨by rw [Int.natCast_add]; rfl, rfl, trivial⟩ ⟨by show k + 1 ≤ n2; omega, ?_⟩ (by show n2 - (k + 1) < n2 - k; omega)
      show OwnF w1 u E ne ce 75 2 (cps (ptsF d r (k + 1)))
      rw [ptsF_no (by rw [hfm]; exact g)]
      exact own
  · have hkn : k = d.farms.length := by omega
    rw [hkn] at own lo
    refine loop_rule (fun s : Nat × Option Addr × Nat × Nat => [(7, iv (s.1 : Int)), (5, .slice s.2.1 s.2.2.1 s.2.2.2)]) (fun s u => s.1 ≤ n1 ∧ OwnF w1 u s.2.1 s.2.2.1 s.2.2.2 75 2 (cps (ptsF d r d.farms.length ++ ptsC d r s.1))) (fun s _ => n1 - s.1) (0, E, ne, ce) ⟨rfl, rfl, trivial⟩ ⟨by omega, by simpa [ptsC] using own⟩ rfl ?_
    rintro G2 ⟨j, E2, ne2, ce2⟩ z ⟨hj, own2⟩
    have hj : j ≤ n1 := hj
    have own2 : OwnF w1 z E2 ne2 ce2 75 2 (cps (ptsF d r d.farms.length ++ ptsC d r j)) := own2
    have lo2 := own2.own.len
    rw [cps_len, List.length_append] at lo2
    have lF := ptsF_len (d := d) (r := r) (k := d.farms.length)
    have lj := ptsC_len (d := d) (r := r) (k := j)
    have B1u := B1.ext own2.ext
    refine fldA ?_
    refine ld (.slice A1 n1 c1) (B1u.cell rfl) ?_
    refine len ?_
    refine cD (fun hlt => ?_) (fun hge => ?_)
    · have hlt : j < n1 := by omega
      obtain ⟨bb, o, cs, x, rfl, hx, -, -, hc, rfl⟩ := ((hr.ext h1.ext).ext own2.ext).at_ hlt
      have hfm := rcC_at hx
      refine fldA ?_
      refine ld (.slice (some (ad bb o)) n1 c1) (B1u.cell rfl) ?_
      refine idx j rfl hlt ?_
      refine fldA ?_
      refine ld (iv x.up) (hc 1 _ rfl) ?_
      refine cE (fun g => ?_) (fun g => ?_)
      · refine bld [.bool false, iv (j : Int)] (by kernel_rfl) ?_
        refine lit [.agg #[.bool false, iv (j : Int)]] (fun g4 u4 h4 => ?_)
        refine appF (n := ne2) (A := E2) (c := ce2) (own2.then h4.ext) (h4.src (sz := 2) rfl) (by omega) (fun A' c' u5 o5 _ _ => ?_)
        refine arI (by omega) ?_
        refine next (j + 1, A', ne2 + 1, c') ⟨by rw [Int.natCast_add]; rfl, rfl, trivial⟩ ⟨by show j + 1 ≤ n1; omega, ?_⟩ (by show n1 - (j + 1) < n1 - j; omega)
        show OwnF w1 u5 A' (ne2 + 1) c' 75 2 (cps (ptsF d r d.farms.length ++ ptsC d r (j + 1)))
        rw [ptsC_yes (by rw [hfm]; exact g), ← List.append_assoc, cps_app]
        exact o5
      · refine arI (by omega) ?_
        refine next (j + 1, E2, ne2, ce2) ⟨by rw [Int.natCast_add]; rfl, rfl, trivial⟩ ⟨by show j + 1 ≤ n1; omega, ?_⟩ (by show n1 - (j + 1) < n1 - j; omega)
        show OwnF w1 z E2 ne2 ce2 75 2 (cps (ptsF d r d.farms.length ++ ptsC d r (j + 1)))
        rw [ptsC_no (by rw [hfm]; exact g)]
        exact own2
    · have hjn : j = d.reaches.length := by omega
      rw [hjn] at own2
      exact ret1 (.slice E2 ne2 ce2) rfl ⟨E2, ne2, ce2, rfl, own2.base h1.ext⟩
theorem OwnF.pts {w0 w : World} {A : Option Addr} {n c : Nat} {e : TypeId} {ps : List Pt} (h : OwnF w0 w A n c e 2 (cps ps)) (hl : ps.length ≤ 1000) : SlR tPt (fun b => w0.heap.size ≤ b) w A n ps := by
  have lo := h.own.len
  rw [cps_len] at lo
  exact Own.rd (a := tPt) h.own flat_cps (by omega) (by omega) (fun b hb => h.new b hb)
theorem c_r41right {csd : List Value} {d : Dist} {cl : List Int} {A : Option Addr} {n c : Nat} (hd : DiR D w csd d) (hl : SlR tInt D w A n cl) : CallZ Tryz.prog 45 #[.agg csd.toArray, .slice A n c] w (fun v w' => v = .bool (claimOk d cl) ∧ Ext w w') := by
  obtain ⟨A1, n1, c1, A2, n2, c2, A3, n3, c3, A4, n4, c4, A5, n5, c5, A6, n6, c6, rfl, hr, hf, -⟩ := hd.ex
  have lf := hf.len
  have ll := hl.len
  have hle := hl.le
  refine fn_rule (args := [.agg #[.string d.name, iv d.hours, iv d.cap, iv d.start, .slice A1 n1 c1, .slice A2 n2 c2, .slice A3 n3 c3, .slice A4 n4 c4, .slice A5 n5 c5, .slice A6 n6 c6], .slice A n c]) Tryz.func45 (by kernel_rfl) ?_
  refine box (fun b1 w1 h1 => ?_)
  have B1 : Blk w1 b1 31 [.string d.name, iv d.hours, iv d.cap, iv d.start, .slice A1 n1 c1, .slice A2 n2 c2, .slice A3 n3 c3, .slice A4 n4 c4, .slice A5 n5 c5, .slice A6 n6 c6] := h1.blk
  have hl := hl.ext h1.ext
  refine len ?_
  refine fldA ?_
  refine ld (.slice A2 n2 c2) (B1.cell rfl) ?_
  refine len ?_
  refine cN (fun g => ?_) (fun g => ?_)
  · exact ret1 (.bool false) rfl ⟨by unfold claimOk; rw [decide_eq_false (by omega)]; rfl, h1.ext⟩
  have e0 : claimOk d cl = cl.all okC := by unfold claimOk; rw [decide_eq_true (by omega), Bool.true_and]
  rw [e0]
  refine loop_rule (fun k : Nat => [(5, iv (k : Int))]) (fun k u => k ≤ n ∧ w1 = u ∧ cl.all okC = (cl.drop k).all okC) (fun k _ => n - k) 0 ⟨rfl, trivial⟩ ⟨by omega, rfl, rfl⟩ rfl ?_
  rintro G k u ⟨hk, rfl, he⟩
  refine len ?_
  refine cD (fun hlt => ?_) (fun hge => ?_)
  · have hlt : k < n := by omega
    obtain ⟨b, o, cs, x, rfl, hx, hdx, -, hc, rfl, -⟩ := hl.at_ hlt
    rw [hdx, List.all_cons] at he
    have ek : okC x = decide (0 ≤ x ∧ x ≤ 1073741824) := rfl
    refine idx k rfl hlt ?_
    refine ld (iv x) (hc 0 _ rfl) ?_
    refine cD (fun g1 => ?_) (fun g1 => ?_)
    · exact ret1 (.bool false) rfl ⟨by rw [he, ek, decide_eq_false (by omega)]; rfl, h1.ext⟩
    refine idx k rfl hlt ?_
    refine ld (iv x) (hc 0 _ rfl) ?_
    refine cD (fun g2 => ?_) (fun g2 => ?_)
    · exact ret1 (.bool false) rfl ⟨by rw [he, ek, decide_eq_false (by omega)]; rfl, h1.ext⟩
    refine arI (by omega) ?_
    refine next (k + 1) ⟨by rw [Int.natCast_add]; rfl, trivial⟩ ⟨by omega, rfl, ?_⟩ (by omega)
    rw [he, ek, decide_eq_true (by omega), Bool.true_and]
  · exact ret1 (.bool true) rfl ⟨by rw [he, List.drop_eq_nil_of_le (by omega)]; rfl, h1.ext⟩
theorem c_r41check {csd : List Value} {d : Dist} {cl : List Int} {A : Option Addr} {n c : Nat} (hd : DiR D w csd d) (hl : SlR tInt D w A n cl) : CallZ Tryz.prog 22 #[.agg csd.toArray, .slice A n c] w (fun v w' => v = iv (divErr d cl) ∧ Ext w w') := by
  have hd0 := hd
  obtain ⟨A1, n1, c1, A2, n2, c2, A3, n3, c3, A4, n4, c4, A5, n5, c5, A6, n6, c6, rfl, hr, hf, -⟩ := hd.ex
  refine fn_rule (args := [.agg #[.string d.name, iv d.hours, iv d.cap, iv d.start, .slice A1 n1 c1, .slice A2 n2 c2, .slice A3 n3 c3, .slice A4 n4 c4, .slice A5 n5 c5, .slice A6 n6 c6], .slice A n c]) Tryz.func22 (by kernel_rfl) ?_
  refine box (fun b1 w1 h1 => ?_)
  have B1 : Blk w1 b1 31 [.string d.name, iv d.hours, iv d.cap, iv d.start, .slice A1 n1 c1, .slice A2 n2 c2, .slice A3 n3 c3, .slice A4 n4 c4, .slice A5 n5 c5, .slice A6 n6 c6] := h1.blk
  refine ldA [.string d.name, iv d.hours, iv d.cap, iv d.start, .slice A1 n1 c1, .slice A2 n2 c2, .slice A3 n3 c3, .slice A4 n4 c4, .slice A5 n5 c5, .slice A6 n6 c6] (.blk B1) rfl ?_
  refine call_of (c_r19Check (hd0.ext h1.ext)) ?_
  rintro _ w2 ⟨rfl, x2⟩
  have xx := h1.ext.trans x2
  refine cN (fun g => ?_) (fun g => ?_)
  · exact ret1 (iv (dErr d)) rfl ⟨by unfold divErr; rw [if_pos g], xx⟩
  have e0 : divErr d cl = if claimOk d cl then 0 else 410 := by unfold divErr; rw [if_neg (fun h => h g)]
  refine ldA [.string d.name, iv d.hours, iv d.cap, iv d.start, .slice A1 n1 c1, .slice A2 n2 c2, .slice A3 n3 c3, .slice A4 n4 c4, .slice A5 n5 c5, .slice A6 n6 c6] (.blk (B1.ext x2)) rfl ?_
  refine callE (c_r41right (hd0.ext xx) (hl.ext xx)) (fun w3 g2 x3 => ?_) (fun w3 g2 x3 => ?_)
  · exact ret1 (iv 0) rfl ⟨by rw [e0, g2]; rfl, xx.trans x3⟩
  · exact ret1 (iv 410) rfl ⟨by rw [e0, g2]; rfl, xx.trans x3⟩
theorem c_r41Claims {ps : List Pt} {cl hs : List Int} {A B C : Option Addr} {n c m cb k cc : Nat} (hp : SlR tPt D w A n ps) (hb : SlR tInt D w B m cl) (hh : SlR tInt D w C k hs) (hn : n ≤ 664) (hi : ∀ p ∈ ps, (p.1 = true → p.2 < m) ∧ (p.1 = false → p.2 < k)) :
    CallZ Tryz.prog 26 #[.slice A n c, .slice B m cb, .slice C k cc] w (fun v w' => ∃ A' c', v = .slice A' n c' ∧ OwnF w w' A' n c' 3 1 ((ps.map (clP cl hs)).map fun x => .int .i64 x)) := by
  have lp := hp.len
  refine fn_rule (args := [.slice A n c, .slice B m cb, .slice C k cc]) Tryz.func26 (by kernel_rfl) ?_
  refine loop_rule (fun s : Nat × Option Addr × Nat => [(8, iv (s.1 : Int)), (7, .slice s.2.1 s.1 s.2.2)]) (fun s u => s.1 ≤ n ∧ OwnF w u s.2.1 s.1 s.2.2 3 1 (((ps.take s.1).map (clP cl hs)).map fun x => .int .i64 x)) (fun s _ => n - s.1) (0, none, 0) ⟨rfl, rfl, trivial⟩ ⟨by omega, .nil (.refl _ _)⟩ rfl ?_
  rintro G ⟨j, E, ce⟩ u ⟨hj, own⟩
  have hj : j ≤ n := hj
  have own : OwnF w u E j ce 3 1 (((ps.take j).map (clP cl hs)).map fun x => .int .i64 x) := own
  refine len ?_
  refine cD (fun hlt => ?_) (fun hge => ?_)
  · have hlt : j < n := by omega
    obtain ⟨b, o, cs, p, rfl, hpj, -, -, hc, rfl⟩ := (hp.ext own.ext).at_ hlt
    have htk : ps.take (j + 1) = ps.take j ++ [p] := by rw [List.take_add_one, hpj]; rfl
    obtain ⟨i1, i2⟩ := hi p (List.mem_of_getElem? hpj)
    obtain ⟨pf, pi⟩ := p
    cases pf with
    | true =>
      have i1 : pi < m := i1 rfl
      obtain ⟨b', o', cs', x, rfl, hx, -, -, hc', rfl, -⟩ := (hb.ext own.ext).at_ i1
      have ex : clP cl hs (true, pi) = x := clA_at hx
      refine idx j rfl hlt ?_
      refine fldA ?_
      refine ld (.bool true) (hc 0 _ rfl) ?_
      refine idx j rfl hlt ?_
      refine fldA ?_
      refine ld (iv (pi : Int)) (hc 1 _ rfl) ?_
      refine idx pi rfl i1 ?_
      refine ld (iv x) (hc' 0 _ rfl) ?_
      refine lit [iv x] (fun g u3 hq => ?_)
      refine appF (n := j) (A := E) (c := ce) (own.then hq.ext) (hq.src (sz := 1) rfl) (by omega) (fun A' c' u4 o4 _ _ => ?_)
      refine arI (by omega) ?_
      refine next (j + 1, A', c') ⟨by rw [Int.natCast_add]; rfl, rfl, trivial⟩ ⟨by show j + 1 ≤ n; omega, ?_⟩ (by show n - (j + 1) < n - j; omega)
      show OwnF w u4 A' (j + 1) c' 3 1 (((ps.take (j + 1)).map (clP cl hs)).map fun x => .int .i64 x)
      rw [htk, List.map_append, List.map_append]
      have e : ([(true, pi)] : List Pt).map (clP cl hs) = [x] := by rw [← ex]; rfl
      rw [e]; exact o4
    | false =>
      have i2 : pi < k := i2 rfl
      obtain ⟨b', o', cs', x, rfl, hx, -, -, hc', rfl, -⟩ := (hh.ext own.ext).at_ i2
      have ex : clP cl hs (false, pi) = x := clA_at hx
      refine idx j rfl hlt ?_
      refine fldA ?_
      refine ld (.bool false) (hc 0 _ rfl) ?_
      refine idx j rfl hlt ?_
      refine fldA ?_
      refine ld (iv (pi : Int)) (hc 1 _ rfl) ?_
      refine idx pi rfl i2 ?_
      refine ld (iv x) (hc' 0 _ rfl) ?_
      refine lit [iv x] (fun g u3 hq => ?_)
      refine appF (n := j) (A := E) (c := ce) (own.then hq.ext) (hq.src (sz := 1) rfl) (by omega) (fun A' c' u4 o4 _ _ => ?_)
      refine arI (by omega) ?_
      refine next (j + 1, A', c') ⟨by rw [Int.natCast_add]; rfl, rfl, trivial⟩ ⟨by show j + 1 ≤ n; omega, ?_⟩ (by show n - (j + 1) < n - j; omega)
      show OwnF w u4 A' (j + 1) c' 3 1 (((ps.take (j + 1)).map (clP cl hs)).map fun x => .int .i64 x)
      rw [htk, List.map_append, List.map_append]
      have e : ([(false, pi)] : List Pt).map (clP cl hs) = [x] := by rw [← ex]; rfl
      rw [e]; exact o4
  · obtain rfl : j = n := by omega
    rw [List.take_of_length_le (by omega)] at own
    exact ret1 (.slice E j ce) rfl ⟨E, ce, rfl, own⟩
theorem c_r41sum {l : List Int} {A : Option Addr} {n c : Nat} (hl : SlR tInt D w A n l) (hn : n ≤ 664) (ok : OkL l) : CallZ Tryz.prog 38 #[.slice A n c] w (fun v w' => v = iv (isum l) ∧ w' = w) := by
  have ll := hl.len
  refine fn_rule (args := [.slice A n c]) Tryz.func38 (by kernel_rfl) ?_
  refine loop_rule (fun k : Nat => [(3, iv (isum (l.take k))), (4, iv (k : Int))]) (fun k u => k ≤ n ∧ w = u) (fun k _ => n - k) 0 ⟨rfl, rfl, trivial⟩ ⟨by omega, rfl⟩ rfl ?_
  rintro G k u ⟨hk, rfl⟩
  have okt : OkL (l.take k) := fun x hx => ok x (List.mem_of_mem_take hx)
  have sb := isum_b okt
  rw [List.length_take] at sb
  refine len ?_
  refine cD (fun hlt => ?_) (fun hge => ?_)
  · have hlt : k < n := by omega
    obtain ⟨b, o, cs, y, rfl, hy, -, -, hc, rfl, -⟩ := hl.at_ hlt
    have yb := ok y (List.mem_of_getElem? hy)
    have htk : l.take (k + 1) = l.take k ++ [y] := by rw [List.take_add_one, hy]; rfl
    refine idx k rfl hlt ?_
    refine ld (iv y) (hc 0 _ rfl) ?_
    refine arI (by omega) ?_
    refine arI (by omega) ?_
    exact next (k + 1) ⟨by rw [htk, isum_snoc]; rfl, by rw [Int.natCast_add]; rfl, trivial⟩ ⟨by omega, rfl⟩ (by omega)
  · exact ret1 (iv (isum (l.take k))) rfl ⟨by rw [List.take_of_length_le (by omega)], rfl⟩
theorem c_r41Enough {r : Reach} {t : Int} (hok : lossOk r = true) (_hs : 0 ≤ r.siphon ∧ r.siphon ≤ 1073741824) : CallZ Tryz.prog 46 #[r.v, iv t] w (fun v w' => v = iv ((needV r t).getD (-1)) ∧ Ext w w') := by
  refine fn_rule (args := [.agg #[.string r.name, iv r.up, iv r.delay, iv r.cap, iv r.bank, iv r.siphon, iv r.evap.lo, iv r.evap.hi, iv r.s0.n, iv r.s0.d, iv r.s1.n, iv r.s1.d], iv t]) Tryz.func46 (by kernel_rfl) ?_
  refine box (fun b1 w1 h1 => ?_)
  have B1 : Blk w1 b1 82 r.c := h1.blk
  refine cE (fun g => ?_) (fun g => ?_)
  · exact ret1 (iv 0) rfl ⟨by unfold needV; rw [if_pos g]; rfl, h1.ext⟩
  refine cD (fun g2 => ?_) (fun g2 => ?_)
  · exact ret1 (iv (-1)) rfl ⟨by unfold needV; rw [if_neg g, if_pos g2]; rfl, h1.ext⟩
  refine ldA r.c (.blk B1) rfl ?_
  refine call_of (c_r21Least (r := r) (x := t) (b := false) hok) ?_
  rintro _ w2 ⟨rfl, x2⟩
  have B1 := B1.ext x2
  have hl := lv_least (x := t) (b := false) hok
  have xx := h1.ext.trans x2
  refine cD (fun g3 => ?_) (fun g3 => ?_)
  · have : lvW r t > 1073741824 := hl.1.1 g3
    exact ret1 (iv (-1)) rfl ⟨by unfold needV; rw [if_neg g, if_neg g2, if_pos this]; rfl, xx⟩
  · have h2 := hl.2 g3
    have h3 : ¬ lvW r t > 1073741824 := fun h => g3 (hl.1.2 h)
    have e : leastV r t false = lvW r t := h2
    rw [e]
    refine fldA ?_
    refine ld (iv r.siphon) (B1.cell rfl) ?_
    exact ret1 (iv (max (lvW r t) r.siphon)) rfl ⟨by unfold needV; rw [if_neg g, if_neg g2, if_neg h3]; rfl, xx⟩
end
end Go.Proofs.YtmjcaclakggafaaGreat

/- Layer 41's reference: needs, Needs, Shares, PartOf. -/
namespace Go.Proofs.YtmjcaclakggafaaGreat
open Go Go.RowKit

theorem zI' {n : Nat} : ivs (List.replicate n 0) = (List.replicate n (cellsL (iv 0))).flatten := by
  unfold ivs
  rw [List.map_replicate]
  show List.replicate n (iv 0) = (List.replicate n [iv 0]).flatten
  rw [List.flatten_replicate_singleton]
section
variable {D : Nat → Prop} {w : World}
set_option maxRecDepth 4000 in
theorem c_r41needs {csd : List Value} {d : Dist} {cl : List Int} {A : Option Addr} {n c : Nat} (hv : Val d) (hd : DiR D w csd d) (hl : SlR tInt D w A n cl) (hk : OkL cl) (hn : n = d.farms.length) :
    CallZ Tryz.prog 23 #[.agg csd.toArray, .slice A n c] w (fun v w' => Ext w w' ∧ ((needsV d cl = none ∧ v = .tuple #[.slice none 0 0, .bool false]) ∨
      ∃ hs bh, needsV d cl = some hs ∧ v = .tuple #[.slice (some (ad bh 0)) d.reaches.length d.reaches.length, .bool true] ∧ w.heap.size ≤ bh ∧ Blk w' bh 3 (ivs hs))) := by
  obtain ⟨A1, n1, c1, A2, n2, c2, A3, n3, c3, A4, n4, c4, A5, n5, c5, A6, n6, c6, rfl, hr, hf, -⟩ := hd.ex
  have lr := hr.len
  have lf := hf.len
  have hvn := hv.n
  have hvf := hv.f
  refine fn_rule (args := [.agg #[.string d.name, iv d.hours, iv d.cap, iv d.start, .slice A1 n1 c1, .slice A2 n2 c2, .slice A3 n3 c3, .slice A4 n4 c4, .slice A5 n5 c5, .slice A6 n6 c6], .slice A n c]) Tryz.func23 (by kernel_rfl) ?_
  refine box (fun b2 w1 h1 => ?_)
  have e1 := h1.at_
  have s1 := h1.size
  have B2 : Blk w1 b2 31 [.string d.name, iv d.hours, iv d.cap, iv d.start, .slice A1 n1 c1, .slice A2 n2 c2, .slice A3 n3 c3, .slice A4 n4 c4, .slice A5 n5 c5, .slice A6 n6 c6] := h1.blk
  refine fldA ?_
  refine ld (.slice A1 n1 c1) (B2.cell rfl) ?_
  refine len ?_
  refine mslc (sz := 1) (zv := iv 0) n1 rfl rfl (by omega) (by omega) rfl (by decide) (fun bh w2 h2 => ?_)
  have e2 := h2.at_
  have s2 := h2.size
  have x2 := h1.ext.trans h2.ext
  have B2 := B2.ext h2.ext
  have Bh : Blk w2 bh 3 (ivs (List.replicate n1 0)) := by rw [zI']; exact h2.blk
  have hrw : SlR tReach (fun b => b < w.heap.size) w2 A1 n1 d.reaches := (hr.more (D' := fun b => b < w.heap.size) (by decide) fun b hb _ => hb).ext x2
  have hfw : SlR tFarm (fun b => b < w.heap.size) w2 A2 n2 d.farms := (hf.more (D' := fun b => b < w.heap.size) (by decide) fun b hb _ => hb).ext x2
  have hlw : SlR tInt (fun b => b < w.heap.size) w2 A n cl := (hl.more (D' := fun b => b < w.heap.size) (by decide) fun b hb _ => hb).ext x2
  refine fldA ?_
  refine ld (.slice A1 n1 c1) (B2.cell rfl) ?_
  refine len ?_
  refine arI (by omega) ?_
  refine loop_rule (fun k : Nat => [(7, iv ((n1 : Int) - 1 - (k : Int)))]) (fun k u => k ≤ n1 ∧ Kept (fun b => b ≠ bh) w2 u ∧ ∃ hs, needsN d cl k = some hs ∧ Blk u bh 3 (ivs hs)) (fun k _ => n1 - k) 0 ⟨by rw [show ((0 : Nat) : Int) = 0 from rfl, Int.sub_zero]; rfl, trivial⟩ ⟨by omega, .refl _ _, _, rfl, by rw [lr]; exact Bh⟩ rfl ?_
  rintro G k u ⟨hk1, ku, hs, hns, bhu⟩
  have B2u := B2.kept ku (by omega)
  refine cD (fun hlt => ?_) (fun hge => ?_)
  · have hkn : k < n1 := by omega
    obtain ⟨lhs, ohs, -⟩ := needsN_ok hv k (by omega) hns
    obtain ⟨i, hi⟩ : ∃ i : Nat, i = d.reaches.length - 1 - k := ⟨_, rfl⟩
    have hin : i < d.reaches.length := by omega
    have ei : (n1 : Int) - 1 - (k : Int) = (i : Int) := by omega
    rw [ei]
    obtain ⟨r, hri⟩ : ∃ r, d.reaches[i]? = some r := ⟨_, List.getElem?_eq_getElem hin⟩
    have hrc := rcC_at hri
    obtain ⟨rl1, rl2, rl3⟩ := hv.loss hin
    rw [hrc] at rl1 rl2 rl3
    have step := needsN_step hns hi hrc
    have hru := hrw.kept ku fun b _ h => by omega
    have hfu := hfw.kept ku fun b _ h => by omega
    have hlu := hlw.kept ku fun b _ h => by omega
    obtain ⟨bb, oo, cs, y, hA, hy, -, -, hc, rfl⟩ := hru.at_ (k := i) (by omega)
    obtain rfl : r = y := by rw [hri] at hy; injection hy
    subst hA
    refine drawP (.take 0 (.take 1 (.take 2 (.take 3 (.take 4 (.take 5 (.take 6 (.take 8 (.take 9 (.eff 7 (.eff 10 (.eff 11 (.eff 12 (.take 13 .done)))))))))))))) [] (fun z => Ext u z) mx (by kernel_rfl) (.refl _ _) ?_
    refine fldA ?_
    refine ldK (.slice (some (ad bb oo)) n1 c1) (B2u.cell rfl) trivial (.refl _ _) ?_
    refine idx i rfl (by omega) ?_
    refine ldAK r.c hc rfl trivial (.refl _ _) ?_
    refine ldAK _ (.blk B2u) rfl trivial (.refl _ _) ?_
    refine call_of (c_r41Parts (r := (i : Int)) hru hfu ⟨hvn.2, hvf⟩) ?_
    rintro _ u1 ⟨P, np, cp, rfl, oP⟩
    refine strS oP.ext ?_
    have lP := oP.own.len
    rw [cps_len] at lP
    have lV := ptsV_len (d := d) (r := (i : Int))
    have sp := oP.pts (by omega)
    have okc := clmV_ok (d := d) hk ohs i
    refine call_of (c_r41Claims (D := fun _ => True) (sp.more (by decide) fun _ _ _ => trivial) ((hlu.ext oP.ext).more (by decide) fun _ _ _ => trivial) (blk_ints (D := fun _ => True) (bhu.ext oP.ext) (by omega) ohs (by omega) trivial) (by omega) (fun p hp => ?_)) ?_
    · rcases mem_ptsV.1 hp with h | h
      · exact ⟨fun _ => by omega, fun e => (by rw [h.1] at e; cases e)⟩
      · exact ⟨fun e => (by rw [h.1] at e; cases e), fun _ => by omega⟩
    rintro _ u2 ⟨C, cc, rfl, oC⟩
    have x02 := oP.ext.trans oC.ext
    refine strS x02 ?_
    have sC : SlR tInt (fun _ => True) u2 C np (clmV d cl hs i) := oC.ints (okL_i64 okc) (by omega) fun _ _ => trivial
    refine call_of (c_r41sum sC (by omega) okc) ?_
    rintro _ u3 ⟨rfl, rfl⟩
    refine strS x02 ?_
    obtain ⟨nv, hnv⟩ : ∃ nv, nv = needV r (isum (clmV d cl hs i)) := ⟨_, rfl⟩
    have cEn := c_r41Enough (w := u3) (r := r) (t := isum (clmV d cl hs i)) rl1 ⟨rl2, rl3⟩
    rw [← hnv] at cEn step
    refine call_of cEn ?_
    rintro _ u4 ⟨rfl, x4⟩
    have x04 := x02.trans x4
    refine strS x04 ?_
    have ku4 : Kept (fun b => b ≠ bh) w2 u4 := ku.then x04 fun _ _ _ => trivial
    cases nv with
    | none =>
      refine cD (fun _ => ?_) (fun h => absurd (show ((none : Option Int).getD (-1)) < 0 by decide) h)
      have hno : needsV d cl = none := needsN_none (k := k + 1) (by rw [step]; rfl) _ (by omega)
      exact ret2 (.slice none 0 0) (.bool false) rfl rfl ⟨x2.then ku4 fun b hb _ => by omega, .inl ⟨hno, rfl⟩⟩
    | some v =>
      obtain ⟨v1, v2, -⟩ := needV_b r _ ⟨rl2, rl3⟩ rl1 hnv.symm
      refine cD (fun h => absurd (show v < 0 from h) (by omega)) (fun _ => ?_)
      refine idx i rfl (by omega) ?_
      refine st (v := iv v) (bhu.ext x04) (by simp; omega) rfl (fun u5 bh5 k5 z5 => ?_)
      refine arI (by omega) ?_
      refine next (k + 1) ⟨by rw [show (i : Int) - 1 = (n1 : Int) - 1 - ((k + 1 : Nat) : Int) by omega]; rfl, trivial⟩ ⟨by omega, ku4.then k5 fun b _ h => h, hs.set i v, by rw [step]; rfl, ?_⟩ (by omega)
      rw [← ivs_set]
      simpa using bh5
  · have hkn : k = d.reaches.length := by omega
    rw [hkn] at hns
    exact ret2 (.slice (some (ad bh 0)) n1 n1) (.bool true) rfl rfl ⟨x2.then ku fun b hb _ => by omega, .inr ⟨hs, bh, hns, by rw [lr], by omega, bhu⟩⟩
theorem c_rNd {csd : List Value} {d : Dist} {cl : List Int} {A : Option Addr} {n c : Nat} (hd : DiR D w csd d) (hl : SlR tInt D w A n cl) : CallZ Tryz.prog 8 #[.agg csd.toArray, .slice A n c] w (fun v w' => ∃ B nb cb ok, v = .tuple #[.slice B nb cb, .bool ok, iv (divErr d cl)] ∧ Ext w w' ∧ (ok = false → B = none ∧ nb = 0) ∧ (divErr d cl = 0 → (ok = false ∧ needsV d cl = none) ∨ (ok = true ∧ ∃ hs bh, needsV d cl = some hs ∧ B = some (ad bh 0) ∧ nb = d.reaches.length ∧ w.heap.size ≤ bh ∧ Blk w' bh 3 (ivs hs))) ∧ (divErr d cl ≠ 0 → ok = false)) := by
  have hd0 := hd
  obtain ⟨A1, n1, c1, A2, n2, c2, A3, n3, c3, A4, n4, c4, A5, n5, c5, A6, n6, c6, rfl, hr, hf, -⟩ := hd.ex
  have lf := hf.len
  have ll := hl.len
  refine fn_rule (args := [.agg #[.string d.name, iv d.hours, iv d.cap, iv d.start, .slice A1 n1 c1, .slice A2 n2 c2, .slice A3 n3 c3, .slice A4 n4 c4, .slice A5 n5 c5, .slice A6 n6 c6], .slice A n c]) Tryz.func8 (by kernel_rfl) ?_
  refine box (fun b1 w1 h1 => ?_)
  have B1 : Blk w1 b1 31 [.string d.name, iv d.hours, iv d.cap, iv d.start, .slice A1 n1 c1, .slice A2 n2 c2, .slice A3 n3 c3, .slice A4 n4 c4, .slice A5 n5 c5, .slice A6 n6 c6] := h1.blk
  refine ldA [.string d.name, iv d.hours, iv d.cap, iv d.start, .slice A1 n1 c1, .slice A2 n2 c2, .slice A3 n3 c3, .slice A4 n4 c4, .slice A5 n5 c5, .slice A6 n6 c6] (.blk B1) rfl ?_
  refine call_of (c_r41check (hd0.ext h1.ext) (hl.ext h1.ext)) ?_
  rintro _ w2 ⟨rfl, x2⟩
  have B1 := B1.ext x2
  have xx := h1.ext.trans x2
  refine cN (fun g => ?_) (fun g => ?_)
  · exact ret3 (.slice none 0 0) (.bool false) (iv (divErr d cl)) rfl rfl rfl ⟨_, _, _, _, rfl, xx, fun _ => ⟨rfl, rfl⟩, fun q => absurd q g, fun _ => rfl⟩
  have g : divErr d cl = 0 := g
  obtain ⟨g1, g2⟩ := divErr_ok.1 g
  have V := val_of g1
  obtain ⟨k1, k2⟩ := claimOk_iff.1 g2
  refine ldA [.string d.name, iv d.hours, iv d.cap, iv d.start, .slice A1 n1 c1, .slice A2 n2 c2, .slice A3 n3 c3, .slice A4 n4 c4, .slice A5 n5 c5, .slice A6 n6 c6] (.blk B1) rfl ?_
  refine call_of (c_r41needs V (hd0.ext xx) (hl.ext xx) k2 (by omega)) ?_
  rintro _ w4 ⟨x4, ⟨hno, rfl⟩ | ⟨hs, bh, hne, rfl, hb, Bh⟩⟩
  · exact ret3 (.slice none 0 0) (.bool false) (iv 0) rfl rfl rfl ⟨_, _, _, _, by rw [g], xx.trans x4, fun _ => ⟨rfl, rfl⟩, fun _ => .inl ⟨rfl, hno⟩, fun q => absurd g q⟩
  · exact ret3 (.slice (some (ad bh 0)) d.reaches.length d.reaches.length) (.bool true) (iv 0) rfl rfl rfl ⟨_, _, _, _, by rw [g], xx.trans x4, fun q => (by cases q), fun _ => .inr ⟨rfl, hs, bh, hne, rfl, rfl, by have := xx.size; omega, Bh⟩, fun q => absurd g q⟩
theorem c_rSh {csd : List Value} {d : Dist} {cl : List Int} {A : Option Addr} {n c : Nat} {r : Int} (hd : DiR D w csd d) (hl : SlR tInt D w A n cl) : CallZ Tryz.prog 11 #[.agg csd.toArray, .slice A n c, iv r] w (fun v w' => ∃ P np cp, v = .tuple #[.slice P np cp, iv (shErr d cl r)] ∧ Ext w w' ∧ (shErr d cl r ≠ 0 → P = none ∧ np = 0) ∧ (shErr d cl r = 0 → ∃ hs, needsV d cl = some hs ∧ np ≤ 664 ∧ SlR tInt (fun _ => True) w' P np (clmV d cl hs r.toNat))) := by
  have hd0 := hd
  obtain ⟨A1, n1, c1, A2, n2, c2, A3, n3, c3, A4, n4, c4, A5, n5, c5, A6, n6, c6, rfl, hr, hf, -⟩ := hd.ex
  have lr := hr.len
  have lf := hf.len
  have ll := hl.len
  refine fn_rule (args := [.agg #[.string d.name, iv d.hours, iv d.cap, iv d.start, .slice A1 n1 c1, .slice A2 n2 c2, .slice A3 n3 c3, .slice A4 n4 c4, .slice A5 n5 c5, .slice A6 n6 c6], .slice A n c, iv r]) Tryz.func11 (by kernel_rfl) ?_
  refine box (fun b1 w1 h1 => ?_)
  have B1 : Blk w1 b1 31 [.string d.name, iv d.hours, iv d.cap, iv d.start, .slice A1 n1 c1, .slice A2 n2 c2, .slice A3 n3 c3, .slice A4 n4 c4, .slice A5 n5 c5, .slice A6 n6 c6] := h1.blk
  refine ldA [.string d.name, iv d.hours, iv d.cap, iv d.start, .slice A1 n1 c1, .slice A2 n2 c2, .slice A3 n3 c3, .slice A4 n4 c4, .slice A5 n5 c5, .slice A6 n6 c6] (.blk B1) rfl ?_
  refine call_of (c_rNd (hd0.ext h1.ext) (hl.ext h1.ext)) ?_
  rintro _ w2 ⟨B, nb, cb, ok, rfl, x2, hN0, hN1, hN2⟩
  have xx := h1.ext.trans x2
  have B1 := B1.ext x2
  refine cN (fun g => ?_) (fun g => ?_)
  · have eo : shErr d cl r = divErr d cl := by
      have e1 : openErr d cl = divErr d cl := by unfold openErr; rw [if_pos g]
      unfold shErr
      rw [e1, if_pos g]
    exact ret2 (.slice none 0 0) (iv (divErr d cl)) rfl rfl ⟨_, _, _, by rw [eo], xx, fun _ => ⟨rfl, rfl⟩, fun q => absurd (by rw [← eo]; exact q) g⟩
  have g : divErr d cl = 0 := g
  rcases hN1 g with ⟨rfl, hno⟩ | ⟨rfl, hs, bh, hne, rfl, rfl, -, Bh⟩
  · have eo : shErr d cl r = 410 := by
      have e1 : openErr d cl = 410 := by unfold openErr; rw [if_neg (fun h => h g), if_pos hno]
      unfold shErr
      rw [e1]; rfl
    exact ret2 (.slice none 0 0) (iv 410) rfl rfl ⟨_, _, _, by rw [eo], xx, fun _ => ⟨rfl, rfl⟩, fun q => (by rw [eo] at q; cases q)⟩
  · have R := rdy_of g hne
    have hvn := R.v.n
    have hvf := R.v.f
    have ho : openErr d cl = 0 := openErr_ok.2 ⟨g, hs, hne⟩
    have eo : shErr d cl r = if 0 ≤ r ∧ r < d.reaches.length then 0 else 1 := by unfold shErr; rw [if_neg (fun h => h ho)]
    have bad : ¬ (0 ≤ r ∧ r < d.reaches.length) → shErr d cl r = 1 := fun h => by rw [eo, if_neg h]
    refine cD (fun g1 => ?_) (fun g1 => ?_)
    · exact ret2 (.slice none 0 0) (iv 1) rfl rfl ⟨_, _, _, by rw [bad (by omega)], xx, fun _ => ⟨rfl, rfl⟩, fun q => (by rw [bad (by omega)] at q; cases q)⟩
    refine fldA ?_
    refine ld (.slice A1 n1 c1) (B1.cell rfl) ?_
    refine len ?_
    refine cD (fun g2 => ?_) (fun g2 => ?_)
    · exact ret2 (.slice none 0 0) (iv 1) rfl rfl ⟨_, _, _, by rw [bad (by omega)], xx, fun _ => ⟨rfl, rfl⟩, fun q => (by rw [bad (by omega)] at q; cases q)⟩
    have e1 : shErr d cl r = 0 := by rw [eo, if_pos (by omega)]
    have er : ((r.toNat : Nat) : Int) = r := by omega
    refine ldA [.string d.name, iv d.hours, iv d.cap, iv d.start, .slice A1 n1 c1, .slice A2 n2 c2, .slice A3 n3 c3, .slice A4 n4 c4, .slice A5 n5 c5, .slice A6 n6 c6] (.blk B1) rfl ?_
    refine call_of (c_r41Parts (r := r) (hr.ext xx) (hf.ext xx) ⟨hvn.2, hvf⟩) ?_
    rintro _ w3 ⟨P, np, cp, rfl, oP⟩
    have lP := oP.own.len
    rw [cps_len] at lP
    have lV := ptsV_len (d := d) (r := r)
    have sp := oP.pts (by omega)
    have okc := clmV_ok (d := d) R.okc R.okh r.toNat
    refine call_of (c_r41Claims (D := fun _ => True) (sp.more (by decide) fun _ _ _ => trivial) ((hl.ext (xx.trans oP.ext)).more (by decide) fun _ _ _ => trivial) (blk_ints (D := fun _ => True) (Bh.ext oP.ext) (by rw [R.lh]) R.okh (by omega) trivial) (by omega) (fun p hp => ?_)) ?_
    · rcases mem_ptsV.1 hp with h | h
      · exact ⟨fun _ => by have := R.lc; omega, fun e => (by rw [h.1] at e; cases e)⟩
      · exact ⟨fun e => (by rw [h.1] at e; cases e), fun _ => by omega⟩
    rintro _ w4 ⟨C, cc, rfl, oC⟩
    have sC : SlR tInt (fun _ => True) w4 C np (clmV d cl hs r.toNat) := by
      have := oC.ints (D := fun _ => True) (fun x hx => okL_i64 okc x (by unfold clmV; rw [er]; exact hx)) (by omega) fun _ _ => trivial
      unfold clmV; rw [er]; exact this
    exact ret2 (.slice C np cc) (iv 0) rfl rfl ⟨_, _, _, by rw [e1], (xx.trans oP.ext).trans oC.ext, fun q => absurd e1 q, fun _ => ⟨hs, hne, by omega, sC⟩⟩
theorem c_rPartOf {csd : List Value} {d : Dist} {i : Int} (hd : DiR D w csd d) : CallZ Tryz.prog 13 #[.agg csd.toArray, iv i] w (fun v w' => Ext w w' ∧ ((ptErr d i ≠ 0 ∧ v = .tuple #[iv 0, iv 0, iv (ptErr d i)]) ∨
    (ptErr d i = 0 ∧ ∃ k : Nat, v = .tuple #[iv (fmC d i.toNat).reach, iv (k : Int), iv 0] ∧ (ptsV d (fmC d i.toNat).reach)[k]? = some (true, i.toNat)))) := by
  have hd0 := hd
  obtain ⟨A1, n1, c1, A2, n2, c2, A3, n3, c3, A4, n4, c4, A5, n5, c5, A6, n6, c6, rfl, hr, hf, -⟩ := hd.ex
  have lr := hr.len
  have lf := hf.len
  refine fn_rule (args := [.agg #[.string d.name, iv d.hours, iv d.cap, iv d.start, .slice A1 n1 c1, .slice A2 n2 c2, .slice A3 n3 c3, .slice A4 n4 c4, .slice A5 n5 c5, .slice A6 n6 c6], iv i]) Tryz.func13 (by kernel_rfl) ?_
  refine box (fun b1 w1 h1 => ?_)
  have B1 : Blk w1 b1 31 [.string d.name, iv d.hours, iv d.cap, iv d.start, .slice A1 n1 c1, .slice A2 n2 c2, .slice A3 n3 c3, .slice A4 n4 c4, .slice A5 n5 c5, .slice A6 n6 c6] := h1.blk
  refine ldA [.string d.name, iv d.hours, iv d.cap, iv d.start, .slice A1 n1 c1, .slice A2 n2 c2, .slice A3 n3 c3, .slice A4 n4 c4, .slice A5 n5 c5, .slice A6 n6 c6] (.blk B1) rfl ?_
  refine call_of (c_r19Check (hd0.ext h1.ext)) ?_
  rintro _ w2 ⟨rfl, x2⟩
  have xx := h1.ext.trans x2
  have B1 := B1.ext x2
  refine cN (fun g => ?_) (fun g => ?_)
  · have e : ptErr d i = dErr d := by unfold ptErr; rw [if_pos g]
    exact ret3 (iv 0) (iv 0) (iv (dErr d)) rfl rfl rfl ⟨xx, .inl ⟨by rw [e]; exact g, by rw [e]⟩⟩
  have g : dErr d = 0 := g
  have V := val_of g
  have hvn := V.n
  have hvf := V.f
  have e0 : ptErr d i = if 0 ≤ i ∧ i < d.farms.length then 0 else 1 := by unfold ptErr; rw [if_neg (fun h => h g)]
  refine cD (fun g1 => ?_) (fun g1 => ?_)
  · have e : ptErr d i = 1 := by rw [e0, if_neg (by omega)]
    exact ret3 (iv 0) (iv 0) (iv 1) rfl rfl rfl ⟨xx, .inl ⟨by rw [e]; decide, by rw [e]⟩⟩
  refine fldA ?_
  refine ld (.slice A2 n2 c2) (B1.cell rfl) ?_
  refine len ?_
  refine cD (fun g2 => ?_) (fun g2 => ?_)
  · have e : ptErr d i = 1 := by rw [e0, if_neg (by omega)]
    exact ret3 (iv 0) (iv 0) (iv 1) rfl rfl rfl ⟨xx, .inl ⟨by rw [e]; decide, by rw [e]⟩⟩
  have e : ptErr d i = 0 := by rw [e0, if_pos (by omega)]
  obtain ⟨j, rfl⟩ : ∃ j : Nat, i = j := ⟨i.toNat, by omega⟩
  have hf2 := hf.ext xx
  obtain ⟨bb, o, cs, x, hA, hx, -, -, hc, rfl⟩ := hf2.at_ (k := j) (by omega)
  have hfm := fmC_at hx
  subst hA
  refine drawP (.take 0 (.take 1 (.take 2 (.take 3 (.take 4 (.take 5 (.take 6 (.eff 7 (.take 8 .done))))))))) [] (fun z => Ext w2 z) mx (by kernel_rfl) (.refl _ _) ?_
  refine ldAK _ (.blk B1) rfl trivial (.refl _ _) ?_
  refine fldA ?_
  refine ldK (.slice (some (ad bb o)) n2 c2) (B1.cell rfl) trivial (.refl _ _) ?_
  refine idx j rfl (by omega) ?_
  refine fldA ?_
  refine ldK (iv x.reach) (hc 1 _ rfl) trivial (.refl _ _) ?_
  refine call_of (c_r41Parts (r := x.reach) (hr.ext xx) hf2 ⟨hvn.2, hvf⟩) ?_
  rintro _ w3 ⟨P, np, cp, rfl, oP⟩
  refine strS oP.ext ?_
  have lP := oP.own.len
  rw [cps_len] at lP
  have lV := ptsV_len (d := d) (r := x.reach)
  have sp := oP.pts (by omega)
  have x03 := xx.trans oP.ext
  have hmem : (true, j) ∈ ptsV d x.reach := mem_ptsV.2 (.inl ⟨rfl, by simp only; omega, by rw [hfm]⟩)
  refine loop_rule (fun k : Nat => [(9, iv (k : Int))]) (fun k u => k ≤ np ∧ w3 = u ∧ (true, j) ∉ (ptsV d x.reach).take k) (fun k _ => np - k) 0 ⟨rfl, trivial⟩ ⟨by omega, rfl, by simp⟩ rfl ?_
  rintro G k u ⟨hk, rfl, hno⟩
  refine len ?_
  refine cD (fun hlt => ?_) (fun hge => ?_)
  · have hlt : k < np := by omega
    obtain ⟨b', o', cs', p, rfl, hp, -, -, hcp, rfl⟩ := sp.at_ hlt
    have nxt : (true, j) ≠ p → (true, j) ∉ (ptsV d x.reach).take (k + 1) := fun hne hm => by
      rw [List.take_add_one, hp, List.mem_append] at hm
      rcases hm with hm | hm
      · exact hno hm
      · simp at hm; exact hne hm
    obtain ⟨pf, pi⟩ := p
    cases pf with
    | false =>
      refine idx k rfl hlt ?_
      refine fldA ?_
      refine ld (.bool false) (hcp 0 _ rfl) ?_
      refine arI (by omega) ?_
      exact next (k + 1) ⟨by rw [Int.natCast_add]; rfl, trivial⟩ ⟨by omega, rfl, nxt (fun h => by injection h with h; cases h)⟩ (by omega)
    | true =>
      refine idx k rfl hlt ?_
      refine fldA ?_
      refine ld (.bool true) (hcp 0 _ rfl) ?_
      refine idx k rfl hlt ?_
      refine fldA ?_
      refine ld (iv (pi : Int)) (hcp 1 _ rfl) ?_
      refine cE (fun q => ?_) (fun q => ?_)
      · have q : pi = j := by omega
        subst q
        refine fldA ?_
        refine ld (.slice (some (ad bb o)) n2 c2) ((B1.ext oP.ext).cell rfl) ?_
        refine idx pi rfl (by omega) ?_
        refine fldA ?_
        refine ld (iv x.reach) ((hc.kept oP.ext trivial) 1 _ rfl) ?_
        exact ret3 (iv x.reach) (iv (k : Int)) (iv 0) rfl rfl rfl ⟨x03, .inr ⟨e, k, by rw [show (pi : Int).toNat = pi from rfl, hfm], by rw [show (pi : Int).toNat = pi from rfl, hfm]; exact hp⟩⟩
      · refine arI (by omega) ?_
        exact next (k + 1) ⟨by rw [Int.natCast_add]; rfl, trivial⟩ ⟨by omega, rfl, nxt (fun h => by injection h with _ h; exact q (by rw [h]))⟩ (by omega)
  · rw [List.take_of_length_le (by omega)] at hno
    exact absurd hmem hno
end
end Go.Proofs.YtmjcaclakggafaaGreat
