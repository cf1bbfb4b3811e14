/- Parts of the proof: H4 Za. -/
import Derived.Test.YtclmnhijjhnggaaM5
import Derived.Test.YtclmnhijjhnggaaM4
import Derived.Test.YtclmnhijjhnggaaM3
import Derived.ProofKit
import Derived.OpenShut
import Derived.LaidMore
import Derived.Deep.DeepHandedRow
import Derived.Test.YtclmnhijjhnggaaRows
import Derived.Stop.LaidErr

/- The law GarmentConsistent. -/
namespace Go.Proofs.Ytclmnhijjhnggaa
open Go Go.RowKit

theorem bitA {op : BinOp} {k : IntKind} {a b : Int} {K : Value → Prop} (h : K (.int k (bits op k a b))) : BitP op k a b K := by rw [BitP_eq]; exact h
/-- Whether a claimant is among those who divide again. -/
def whoV (who : Int) (i : Nat) : Int := bits .and .u64 (who.fdiv (2 ^ (min (i : Int).toNat IntKind.u64.bits))) 1
def ix (who : Int) (k : Nat) : List Nat := (List.range k).filter fun i => decide (whoV who i = 1)
theorem ix_yes {who : Int} {k : Nat} (h : whoV who k = 1) : ix who (k + 1) = ix who k ++ [k] := by
  unfold ix
  rw [List.range_succ, List.filter_append, List.filter_cons_of_pos (by simpa using h)]; rfl
theorem ix_no {who : Int} {k : Nat} (h : ¬ whoV who k = 1) : ix who (k + 1) = ix who k := by
  unfold ix
  rw [List.range_succ, List.filter_append, List.filter_cons_of_neg (by simpa using h)]; simp
theorem ix_len {who : Int} {k : Nat} : (ix who k).length ≤ k := by
  have := List.length_filter_le (fun i => decide (whoV who i = 1)) (List.range k)
  rw [List.length_range] at this
  exact this
theorem ix_lt {who : Int} {k i : Nat} (h : i ∈ ix who k) : i < k := List.mem_range.1 (List.mem_filter.1 h).1
theorem ix_pw {who : Int} {k : Nat} : (ix who k).Pairwise (· < ·) := List.Pairwise.filter _ List.pairwise_lt_range
theorem kLt_ix {c i j c' i' j' p p' : Int} (h1 : i < i' → p < p') (h2 : i' < i → p' < p) (h : kLt c i j c' i' j') : kLt c p j c' p' j' := by unfold kLt at *; omega
/-- Some of the claimants divide what they have as before. -/
theorem Awd.part {l : List Int} {E : Int} {a : Nat → Int} (h : Awd l E a) {I : List Nat} (hI : ∀ i ∈ I, i < l.length) (hp : I.Pairwise (· < ·)) :
    Awd (I.map (clA l)) (isum (I.map a)) (fun j => a (I.getD j 0)) := by
  have at_ : ∀ {j : Nat} (hj : j < (I.map (clA l)).length), clA (I.map (clA l)) j = clA l (I.getD j 0) ∧ I.getD j 0 ∈ I := fun {j} hj => by
    rw [List.length_map] at hj
    have e : I.getD j 0 = I[j] := by rw [List.getD_eq_getElem?_getD, List.getElem?_eq_getElem hj]; rfl
    refine ⟨?_, by rw [e]; exact List.getElem_mem _⟩
    rw [e]
    show (I.map (clA l)).getD j 0 = _
    rw [List.getD_eq_getElem?_getD, List.getElem?_map, List.getElem?_eq_getElem hj]; rfl
  have mono : ∀ {j k : Nat}, k < I.length → j < k → I.getD j 0 < I.getD k 0 := fun {j k} hk hjk => by
    rw [List.getD_eq_getElem?_getD, List.getD_eq_getElem?_getD, List.getElem?_eq_getElem hk, List.getElem?_eq_getElem (show j < I.length by omega)]
    exact List.pairwise_iff_getElem.1 hp j k (by omega) hk hjk
  refine ⟨fun j hj => ?_, ?_, fun j k hj hk h1 h2 => ?_⟩
  · rw [(at_ hj).1]; exact h.b _ (hI _ (at_ hj).2)
  · rw [List.length_map, ← clA_sum, List.length_map]
    refine sumN_congr fun j hj => ?_
    show a (I.getD j 0) = (I.map a).getD j 0
    rw [List.getD_eq_getElem?_getD, List.getD_eq_getElem?_getD, List.getElem?_map, List.getElem?_eq_getElem hj]; rfl
  · have e1 := at_ hj
    have e2 := at_ hk
    rw [e2.1] at h2
    have := h.d _ _ (hI _ e1.2) (hI _ e2.2) h1 h2
    rw [e1.1, e2.1]
    rw [List.length_map] at hj hk
    refine kLt_ix (fun hlt => ?_) (fun hlt => ?_) this
    · by_cases q : j < k
      · omega
      · by_cases q2 : j = k
        · subst q2; omega
        · have := mono hj (show k < j by omega); omega
    · by_cases q : k < j
      · omega
      · by_cases q2 : j = k
        · subst q2; omega
        · have := mono hk (show j < k by omega); omega
/-- Two slices of the function's own that do not share. -/
def dj (A B : Option Addr) : Prop := ∀ g, A = some (ad g 0) → B ≠ some (ad g 0)
theorem dj.symm {A B : Option Addr} (h : dj A B) : dj B A := fun g h1 h2 => h g h2 h1
theorem dj.app {A A' B : Option Addr} {w0 u : World} {n c sz : Nat} {e : TypeId} {cs : List Value} (h : dj A B) (hA : A' = A ∨ A' = none ∨ A' = some (ad u.heap.size 0)) (hB : OwnF w0 u B n c e sz cs) : dj A' B := by
  intro g h1 h2
  rcases hA with e | e | e
  · exact h g (e ▸ h1) h2
  · rw [e] at h1; cases h1
  · rw [e] at h1
    injection h1 with h1; injection h1 with h1
    rcases hB.form with ⟨e2, -⟩ | ⟨g', e2, -, hlt, -⟩
    · rw [e2] at h2; cases h2
    · rw [e2] at h2; injection h2 with h2; injection h2 with h2; omega
theorem srcOf {w : World} {g : Nat} {t : TypeId} {v : Value} (h : Blk w g t [v]) : Src w (some (ad g 0)) 1 1 [v] := ⟨rfl, fun _ => ⟨g, 0, rfl, fun j x hx => by rw [Nat.zero_add]; exact h.cell hx⟩⟩
theorem own_ne {w0 w : World} {A : Option Addr} {n c sz : Nat} {e : TypeId} {cs : List Value} (h : OwnF w0 w A n c e sz cs) {g : Nat} (hg : w.heap.size ≤ g) : A ≠ some (ad g 0) := fun e2 => by
  rcases h.form with ⟨e3, -⟩ | ⟨g', e3, -, hlt, -⟩
  · rw [e3] at e2; cases e2
  · rw [e3] at e2; injection e2 with e2; injection e2 with e2; omega
section
variable {D : Nat → Prop} {w : World} {l : List Int} {sh mo who : Int} {A : Option Addr} {n c : Nat}
set_option maxRecDepth 4000 in
theorem c_GarmentConsistent (hl : SlR tInt D w A n l) (hsh : 0 ≤ sh ∧ sh ≤ 65535) (hmo : -32768 ≤ mo ∧ mo ≤ 32767) : CallZ Try.prog 6 #[.slice A n c, .int .u16 sh, .int .i16 mo, .int .u64 who] w (fun v w' => v = .bool true ∧ Ext w w') := by
  have hle := hl.le
  have l1 := hl.len
  refine fn_rule (args := [.slice A n c, .int .u16 sh, .int .i16 mo, .int .u64 who]) Try.func6 (by kernel_rfl) ?_
  refine call_of (c_gsane) ?_
  rintro _ w1 ⟨rfl, x1⟩
  refine call_of (c_gnear (hl.ext x1) hsh hmo) ?_
  rintro _ w2 ⟨rfl, E, ok, rfl, hok, -⟩
  cases ok with
  | false => exact ret1 (.bool true) rfl ⟨rfl, x1⟩
  | true =>
  have ho := hok rfl
  have he := tErr_ok ho
  obtain ⟨o1, o2, o3, o4⟩ := ho
  have sl := hl.ext x1
  refine call_of (c_gAward' sl he) ?_
  rintro _ w4 ⟨m, A', n', c', hm, rfl, sa, -, x4, hn'⟩
  have aw := hm.awd he
  have sl := sl.ext x4
  have ab := awL_b aw o2
  refine cN (fun h => absurd rfl h) (fun _ => ?_)
  refine len ?_
  refine len ?_
  refine cN (fun h => by omega) (fun _ => ?_)
  refine len ?_
  obtain ⟨av, hav⟩ : ∃ av : Nat → Int, av = fun i => ownV m (clA l i) i := ⟨_, rfl⟩
  have wantB : ∀ k, k ≤ n → OkL ((ix who k).map av) := fun k hk x hx => by
    obtain ⟨i, hi, rfl⟩ := List.mem_map.1 hx
    have := ix_lt hi
    rw [hav]
    exact own_small aw o2 (by omega)
  refine loop_rule (fun s : Nat × (Option Addr × Nat) × (Option Addr × Nat) => [(48, iv (s.1 : Int)), (13, .slice s.2.1.1 (ix who s.1).length s.2.1.2), (14, .slice s.2.2.1 (ix who s.1).length s.2.2.2), (15, iv (isum ((ix who s.1).map av)))])
    (fun s u => s.1 ≤ n ∧ OwnF w4 u s.2.1.1 (ix who s.1).length s.2.1.2 3 1 (((ix who s.1).map (clA l)).map fun k => .int .i64 k) ∧ OwnF w4 u s.2.2.1 (ix who s.1).length s.2.2.2 3 1 (((ix who s.1).map av).map fun k => .int .i64 k) ∧ dj s.2.1.1 s.2.2.1)
    (fun s _ => n - s.1) (0, (none, 0), (none, 0)) ⟨rfl, rfl, rfl, rfl, trivial⟩ ⟨by omega, .nil (.refl _ _), .nil (.refl _ _), fun g h => by cases h⟩ rfl ?_
  rintro G ⟨k, ⟨A1, c1⟩, A2, c2⟩ u ⟨hk, own1, own2, hdj⟩
  have hk : k ≤ n := hk
  have own1 : OwnF w4 u A1 (ix who k).length c1 3 1 (((ix who k).map (clA l)).map fun k => .int .i64 k) := own1
  have own2 : OwnF w4 u A2 (ix who k).length c2 3 1 (((ix who k).map av).map fun k => .int .i64 k) := own2
  have hdj : dj A1 A2 := hdj
  have ixl := ix_len (who := who) (k := k)
  have hsb := isum_b (wantB k hk)
  rw [List.length_map] at hsb
  simp only
  refine cD (fun hlt => ?_) (fun hge => ?_)
  · have hlt : k < n := by omega
    obtain ⟨bl, ol, csl, q, rfl, hq, -, -, hcq, rfl, -⟩ := sl.at_ hlt
    obtain ⟨ba, oa, csa, a, rfl, ha, -, -, hca, rfl, -⟩ := sa.at_ (k := k) (by omega)
    have eq := clA_at hq
    have ea : a = av k := by rw [hav]; exact awL_get ha (by omega)
    have hqb := o2 q (List.mem_of_getElem? hq)
    have hab := ab a (List.mem_of_getElem? ha)
    have xu := own1.ext
    refine idx k rfl hlt ?_
    refine ld (iv q) ((hcq.kept xu trivial) 0 _ rfl) ?_
    refine shrR (by omega) ?_
    refine bitA ?_
    refine cE (fun hV => ?_) (fun hV => ?_)
    · have hV : whoV who k = 1 := hV
      refine drawP (.take 0 (.take 1 (.take 4 (.take 5 (.take 6 (.take 7 (.take 8 (.take 11 (.take 12 (.take 13 (.take 14 (.take 15 (.take 16 (.alt 2 (.alt 3 (.eff 9 (.eff 10 (.take 17 (.take 18 (.take 19 .done))))) (.eff 9 (.eff 3 (.eff 10 (.take 17 (.take 18 (.take 19 .done))))))) (.eff 9 (.eff 2 (.eff 3 (.eff 10 (.take 17 (.take 18 (.take 19 .done))))))))))))))))))))) [] (fun z => Ext w4 z) mx (by kernel_rfl) xu ?_
      refine idx k rfl (by omega) ?_
      refine ldX (iv a) (hca 0 _ rfl) (.refl _ _) ?_
      refine idx k rfl (by omega) ?_
      refine ldX (iv a) (hca 0 _ rfl) (.refl _ _) ?_
      refine arI (by omega) ?_
      refine ⟨?yl, ?yr⟩
      case' yl =>
        refine lit [iv q] (fun g1 u1 hq1 => ?_)
        have z1 := hq1.at_
        have own1 := own1.then hq1.ext
        have own2 := own2.then hq1.ext
        refine strS own1.ext ?_
        refine ⟨?yll, ?ylr⟩
      case' yll =>
        refine appF own1 (hq1.src (sz := 1) rfl) (by omega) (fun B1 d1 u2 p1 k2 hA => ?_)
        have hdj1 := hdj.app hA own2
        have own2 := own2.thenK k2 (fun g h1 h2 => hdj g h2 h1) p1.ext
        refine strS p1.ext ?_
        refine lit [iv a] (fun g2 u3 hq2 => ?_)
        have p1 := p1.then hq2.ext
        have own2 := own2.then hq2.ext
        refine strS p1.ext ?_
        refine appF own2 (hq2.src (sz := 1) rfl) (by omega) (fun B2 d2 u4 p2 k4 hA2 => ?_)
        have hdjF := (hdj1.symm.app hA2 p1).symm
        have p1 := p1.thenK k4 (fun g h1 => hdj1 g h1) p2.ext
        refine strS p2.ext ?_
      case' ylr =>
        refine lit [iv a] (fun g2 u2 hq2 => ?_)
        have z2 := hq2.at_
        have ne2 := own_ne own1 (show u1.heap.size ≤ g2 by omega)
        have own1 := own1.then hq2.ext
        have own2 := own2.then hq2.ext
        refine strS own1.ext ?_
        refine appF own1 (srcOf (hq1.blk.ext hq2.ext)) (by omega) (fun B1 d1 u3 p1 k2 hA => ?_)
        have hdj1 := hdj.app hA own2
        have own2 := own2.thenK k2 (fun g h1 h2 => hdj g h2 h1) p1.ext
        have bl2 := hq2.blk.kept k2 ne2
        refine strS p1.ext ?_
        refine appF own2 (srcOf bl2) (by omega) (fun B2 d2 u4 p2 k4 hA2 => ?_)
        have hdjF := (hdj1.symm.app hA2 p1).symm
        have p1 := p1.thenK k4 (fun g h1 => hdj1 g h1) p2.ext
        refine strS p2.ext ?_
      case' yr =>
        refine lit [iv a] (fun g2 u1 hq2 => ?_)
        have z2 := hq2.at_
        have ne2 := own_ne own1 (show u.heap.size ≤ g2 by omega)
        have own1 := own1.then hq2.ext
        have own2 := own2.then hq2.ext
        refine strS own1.ext ?_
        refine lit [iv q] (fun g1 u2 hq1 => ?_)
        have own1 := own1.then hq1.ext
        have own2 := own2.then hq1.ext
        refine strS own1.ext ?_
        refine appF own1 (hq1.src (sz := 1) rfl) (by omega) (fun B1 d1 u3 p1 k2 hA => ?_)
        have hdj1 := hdj.app hA own2
        have own2 := own2.thenK k2 (fun g h1 h2 => hdj g h2 h1) p1.ext
        have bl2 := (hq2.blk.ext hq1.ext).kept k2 ne2
        refine strS p1.ext ?_
        refine appF own2 (srcOf bl2) (by omega) (fun B2 d2 u4 p2 k4 hA2 => ?_)
        have hdjF := (hdj1.symm.app hA2 p1).symm
        have p1 := p1.thenK k4 (fun g h1 => hdj1 g h1) p2.ext
        refine strS p2.ext ?_
      all_goals
        have L1 : (ix who (k + 1)).length = (ix who k).length + 1 := by rw [ix_yes hV, List.length_append]; rfl
        refine arI (by omega) ?_
        refine next (k + 1, (B1, d1), (B2, d2)) ⟨by rw [Int.natCast_add]; rfl, by simp only [L1]; rfl, by simp only [L1]; rfl, by simp only [ix_yes hV, List.map_append, List.map_cons, List.map_nil, isum_snoc, ← ea]; rfl, trivial⟩ ⟨by omega, ?_, ?_, hdjF⟩ (by simp only; omega)
        · simp only [ix_yes hV, List.map_append, List.map_cons, List.map_nil, eq, List.length_append, List.length_singleton]; exact p1
        · simp only [ix_yes hV, List.map_append, List.map_cons, List.map_nil, ← ea, List.length_append, List.length_singleton]; exact p2
    · have hV : ¬ whoV who k = 1 := hV
      refine arI (by omega) ?_
      refine next (k + 1, (A1, c1), (A2, c2)) ⟨by rw [Int.natCast_add]; rfl, by simp only [ix_no hV]; rfl, by simp only [ix_no hV]; rfl, by simp only [ix_no hV]; rfl, trivial⟩ ⟨by omega, by simp only [ix_no hV]; exact own1, by simp only [ix_no hV]; exact own2, hdj⟩ (by simp only; omega)
  · have hkn : k = n := by omega
    subst hkn
    have aw0 : Awd l E av := by rw [hav]; exact aw
    have aw' := aw0.part (I := ix who k) (fun i hi => by have := ix_lt hi; omega) ix_pw
    have ow : OkL ((ix who k).map (clA l)) := fun x hx => by
      obtain ⟨i, hi, rfl⟩ := List.mem_map.1 hx
      have := ix_lt hi
      exact clA_b o2 (by omega)
    have hle2 : isum ((ix who k).map av) ≤ isum ((ix who k).map (clA l)) := by
      rw [← aw'.s, ← clA_sum]
      exact sumN_le fun j hj => (aw'.b j hj).2
    have he2 : tErr (isum ((ix who k).map av)) ((ix who k).map (clA l)) = 0 := tErr_ok ⟨by rw [List.length_map]; omega, ow, hsb.1, hle2⟩
    have s1 := own1.is (fun x hx => by have := ow x hx; unfold I64; omega) (by omega)
    have s2 := own2.is (fun x hx => by have := wantB k (by omega) x hx; unfold I64; omega) (by omega)
    refine call_of (c_gAward' s1 he2) ?_
    rintro _ w5 ⟨m2, A5, n5, c5, hm2, rfl, s5, -, x5, hn5⟩
    have un := (hm2.awd he2).uniq aw'
    have heq : awL m2 ((ix who k).map (clA l)) = (ix who k).map av := by
      apply List.ext_getElem?
      intro j
      by_cases hj : j < (ix who k).length
      · have hj' : j < ((ix who k).map (clA l)).length := by rw [List.length_map]; exact hj
        rw [awL_at hj', un j hj', List.getElem?_map, List.getElem?_eq_getElem hj]
        show some (av ((ix who k).getD j 0)) = some (av (ix who k)[j])
        rw [List.getD_eq_getElem?_getD, List.getElem?_eq_getElem hj]; rfl
      · rw [List.getElem?_eq_none (by rw [awL_len, List.length_map]; omega), List.getElem?_eq_none (by rw [List.length_map]; omega)]
    rw [heq] at s5
    refine cE (fun _ => ?_) (fun h => absurd rfl h)
    refine callB (c_r40Same (s5.more (D' := fun _ => True) (by decide) fun _ _ _ => trivial) ((s2.ext x5).more (D' := fun _ => True) (by decide) fun _ _ _ => trivial)) (fun _ => ?_) (fun h => ?_)
    · exact ret1 (.bool true) rfl ⟨rfl, ((x1.trans x4).trans own1.ext).trans x5⟩
    · exact absurd (of_decide_eq_false h) (fun h => h rfl)
end
end Go.Proofs.Ytclmnhijjhnggaa

/- Closing: what claims that are handed in read as. -/
namespace Go.Proofs.Ytclmnhijjhnggaa
open Go Go.RowKit Go.ChangeShapes Go.WideShapes Go.ChangeAt

theorem own : ownKnob Try.prog.godebug = none := by kernel_rfl
theorem laidOut : laidOutB Try.prog = true := by kernel_rfl
theorem rd_is : Rd Try.prog 22 (tSl tInt) := inferInstance
end Go.Proofs.Ytclmnhijjhnggaa
