/- Parts of the proof: K2 K3 K4 K5 K6 Zc. -/
import Derived.Test.YtcpogcdadlcdaaaM9
import Derived.Test.YtcpogcdadlcdaaaM6
import Derived.Test.YtcpogcdadlcdaaaM5
import Derived.Test.YtcpogcdadlcdaaaRows
import Derived.Stop.LaidErr

/- Layer 46: the reference's Claims. -/
namespace Go.Proofs.Ytcpogcdadlcdaaa
open Go Go.RowKit Classical

section
variable {D : Nat → Prop} {w : World}
set_option maxRecDepth 4000 in
theorem c_h46Claims {l : List Cm} {A : Option Addr} {n c : Nat} (hl : SlR tCm D w A n l) : CallZ Try.prog 24 #[.slice A n c] w (fun v w' => v = .bool (decide (ClaimsOk l)) ∧ Ext w w') := by
  have hl := hl.more (D' := fun _ => True) (by decide) fun _ _ _ => trivial
  have hlen := hl.len
  have hle := hl.le
  refine fn_rule (args := [.slice A n c]) Try.func24 (by kernel_rfl) ?_
  refine loop_rule (fun k : Nat => [(3, iv (k : Int))]) (fun k u => k ≤ n ∧ Ext w u ∧ ClaimsOk (l.take k)) (fun k _ => n - k) 0 ⟨rfl, trivial⟩ ⟨by omega, .refl _ _, ⟨fun c hc => (by cases hc), .nil⟩⟩ rfl ?_
  rintro G k u ⟨hk, xu, hok⟩
  refine len ?_
  refine cD (fun hlt => ?_) (fun hge => ?_)
  · have hlt : k < n := by omega
    have hlu := hl.ext xu
    obtain ⟨b, o, cs, m, hA, hm, -, -, hc, rfl⟩ := hlu.at_ hlt
    have htk : l.take (k + 1) = l.take k ++ [m] := by rw [List.take_add_one, hm]; rfl
    have hsn : ClaimsOk l → claimB m = true ∧ ∀ b, (l.take k).getLast? = some b → ltT b.ti m.ti := fun h => by
      have := h.take (k + 1)
      rw [htk, claims_snoc] at this
      exact this.2
    have no : ¬ ClaimsOk l → Value.bool false = .bool (decide (ClaimsOk l)) := fun h => by rw [decide_eq_false h]
    subst hA
    refine drawP (.take 0 (.take 1 (.take 2 (.take 3 (.eff 4 (.take 5 (.take 6 (.take 7 (.take 8 (.take 9 (.take 10 (.take 11 (.take 12 (.take 13 (.take 14 (.take 15 (.take 16 (.take 17 (.take 18 (.eff 19 (.take 20 (.take 21 (.take 22 .done))))))))))))))))))))))) [] (fun y => Ext u y) mx (by kernel_rfl) (.refl _ _) ?_
    refine idx k rfl hlt ?_
    refine ldAK (encJ m) hc rfl trivial (.refl _ _) ?_
    refine call_of (c_h46claim (x := m)) ?_
    rintro _ u1 ⟨rfl, xu1⟩
    refine strS xu1 ?_
    cases hq : claimB m with
    | false =>
      refine strS xu1 ?_
      exact ret1 (.bool false) rfl ⟨no fun h => (by have := (hsn h).1; rw [hq] at this; cases this), xu.trans xu1⟩
    | true =>
      refine cD (fun hk0 => ?_) (fun hk0 => ?_)
      · obtain ⟨k1, hk1⟩ : ∃ j, k = j + 1 := ⟨k - 1, by omega⟩
        obtain ⟨bp, op, csp, mp, hA, hmp, -, -, hcp, rfl⟩ := hlu.at_ (k := k1) (by omega)
        injection hA with hA
        injection hA with hA1 hA2
        subst hA1; subst hA2
        have hlast : (l.take k).getLast? = some mp := by rw [hk1, List.take_add_one, hmp]; simp
        refine arI (by omega) ?_
        rw [show (k : Int) - 1 = (k1 : Int) by omega]
        refine idx k1 rfl (by omega) ?_
        refine ldAK (encJ mp) hcp rfl trivial (.refl _ _) ?_
        refine idx k rfl hlt ?_
        refine ldAK (encJ m) hc rfl trivial (.refl _ _) ?_
        refine call_of (c_r26Before (x := mp) (y := m)) ?_
        rintro _ u2 ⟨rfl, xu2⟩
        have x2 := xu1.trans xu2
        refine strS x2 ?_
        by_cases q : ltT mp.ti m.ti
        · rw [decide_eq_true q]
          refine arI (by omega) ?_
          refine next (k + 1) ⟨by rw [Int.natCast_add]; rfl, trivial⟩ ⟨by omega, xu.trans x2, ?_⟩ (by omega)
          rw [htk, claims_snoc]
          exact ⟨hok, hq, fun b hb => by rw [hlast] at hb; injection hb with hb; subst hb; exact q⟩
        · rw [decide_eq_false q]
          exact ret1 (.bool false) rfl ⟨no fun h => q ((hsn h).2 mp hlast), xu.trans x2⟩
      · refine strS xu1 ?_
        refine arI (by omega) ?_
        have hkz : k = 0 := by omega
        refine next (k + 1) ⟨by rw [Int.natCast_add]; rfl, trivial⟩ ⟨by omega, xu.trans xu1, ?_⟩ (by omega)
        rw [htk, claims_snoc]
        exact ⟨hok, hq, fun b hb => by rw [hkz] at hb; cases hb⟩
  · rw [List.take_of_length_le (by omega)] at hok
    exact ret1 (.bool true) rfl ⟨by rw [decide_eq_true hok], xu⟩
end
end Go.Proofs.Ytcpogcdadlcdaaa

/- Layer 46: the reference's add. -/
namespace Go.Proofs.Ytcpogcdadlcdaaa
open Go Go.RowKit Classical

theorem flatM_eq {D : Nat → Prop} {w : World} : ∀ {xs : List Cm} {cs : List Value}, FlatR tCm D w xs cs → cs = xs.flatMap encJ
  | [], cs, h => h
  | x :: xs, cs, h => by
    obtain ⟨a, b, rfl, ha, hb⟩ := h
    rw [List.flatMap_cons, ← flatM_eq hb]
    rw [show a = encJ x from ha]
theorem srcM {D : Nat → Prop} {w : World} {A : Option Addr} {n : Nat} {xs : List Cm} (h : SlR tCm D w A n xs) : Src w A n 5 (xs.flatMap encJ) := by
  have hl := h.len
  refine ⟨by rw [encJ_len, hl], fun hn0 => ?_⟩
  obtain ⟨b, o, cs, x, rfl, _⟩ := h.at_ hn0
  obtain ⟨cs2, hf, hc⟩ := h.cells
  refine ⟨b, o, rfl, ?_⟩
  rw [← flatM_eq hf]; exact hc
theorem one_cells {xs : List Cm} : ((xs.flatMap encJ).all fun u => u.oneCell') = true := List.all_eq_true.2 fun u hu => by
  obtain ⟨x, -, hx⟩ := List.mem_flatMap.1 hu
  simp only [List.mem_cons, List.not_mem_nil, or_false] at hx
  rcases hx with rfl | rfl | rfl | rfl | rfl <;> rfl
theorem srcOf5m {w : World} {g : Nat} {t : TypeId} {cs : List Value} (h : Blk w g t cs) (hl : cs.length = 5 := by rfl) : Src w (some (ad g 0)) 1 5 cs := ⟨hl, fun _ => ⟨g, 0, rfl, fun j x hx => by rw [Nat.zero_add]; exact h.cell hx⟩⟩
theorem flat_of {D : Nat → Prop} {w : World} {xs : List Cm} {cs : List Value} (h : cs = xs.flatMap encJ) : FlatR tCm D w xs cs := by rw [h]; exact flat_cms
theorem set_flat {rest : List Value} {a : Cm} {v : Int} : ∀ {l : List Cm} {k : Nat}, l[k]? = some a → (l.flatMap encJ ++ rest).set (k * 5 + 3) (iv v) = (l.set k { a with litres := v }).flatMap encJ ++ rest
  | [], k, h => by simp at h
  | b :: l, 0, h => by
    simp at h
    subst h
    rfl
  | b :: l, k + 1, h => by
    have ih := set_flat (rest := rest) (a := a) (v := v) (l := l) (k := k) (by simpa using h)
    rw [List.flatMap_cons, List.append_assoc, List.set_append_right _ _ (by show 5 ≤ _; omega), show (k + 1) * 5 + 3 - (encJ b).length = k * 5 + 3 by show (k + 1) * 5 + 3 - 5 = _; omega, ih, List.set_cons_succ, List.flatMap_cons, List.append_assoc]
section
variable {w : World}
set_option maxRecDepth 8000 in
set_option maxHeartbeats 2000000 in
theorem c_h46add {l : List Cm} {x : Cm} {A : Option Addr} {n c : Nat} (hl : SlR tCm (fun _ => True) w A n l) (hnc : n ≤ c) (hn : n ≤ 8192) (hx : 0 ≤ x.litres ∧ x.litres ≤ 35184372088832) (hb : ∀ a ∈ l, 0 ≤ a.litres ∧ a.litres ≤ 35184372088832) :
    CallZ Try.prog 27 #[.slice A n c, .agg (encJ x).toArray] w (fun v w' => Ext w w' ∧ ∃ A' n' c', v = .slice A' n' c' ∧ n' ≤ c' ∧ SlR tCm (fun _ => True) w' A' n' (if x.litres = 0 then l else insT l x)) := by
  have hlen := hl.len
  refine fn_rule (args := [.slice A n c, .agg (encJ x).toArray]) Try.func27 (by kernel_rfl) ?_
  refine box (fun b3 w1 h1 => ?_)
  have B3 : Blk w1 b3 60 (encJ x) := h1.blk
  refine fldA ?_
  refine ld (iv x.litres) (B3.cell rfl) ?_
  refine cE (fun hx0 => ?_) (fun hx0 => ?_)
  · exact ret1 (.slice A n c) rfl ⟨h1.ext, A, n, c, rfl, hnc, by rw [if_pos hx0]; exact hl.ext h1.ext⟩
  refine loop_rule (fun k : Nat => [(5, iv (k : Int))]) (fun k u => k ≤ n ∧ Ext w1 u ∧ ∀ j a, j < k → l[j]? = some a → ltT a.ti x.ti) (fun k _ => n - k) 0 ⟨rfl, trivial⟩ ⟨by omega, .refl _ _, fun j a h => by omega⟩ rfl ?_
  rintro G k u ⟨hk, xu, hlow⟩
  have x0u := h1.ext.trans xu
  have hlu0 := hl.ext x0u
  have B30 := B3.ext xu
  refine drawP (.take 0 (.take 1 (.take 2 (.take 3 (.take 4 (.take 5 (.take 6 (.take 7 (.take 8 (.take 9 (.eff 10 (.take 11 .done)))))))))))) [] (fun y => Ext u y) mx (by kernel_rfl) (.refl _ _) ?_
  refine len ?_
  refine cD (fun hlt => ?_) (fun hge => ?_)
  · have hlt : k < n := by omega
    obtain ⟨b, o, cs, a, rfl, ha, -, -, hc, rfl⟩ := hlu0.at_ hlt
    refine idx k rfl hlt ?_
    refine ldAK (encJ a) hc rfl trivial (.refl _ _) ?_
    refine ldAK (encJ x) (.blk B30) rfl trivial (.refl _ _) ?_
    refine call_of (c_r26Before (x := a) (y := x)) ?_
    rintro _ u2 ⟨rfl, xu2⟩
    refine strS xu2 ?_
    by_cases q : ltT a.ti x.ti
    · rw [decide_eq_true q]
      refine arI (by omega) ?_
      refine next (k + 1) ⟨by rw [Int.natCast_add]; rfl, trivial⟩ ⟨by omega, xu.trans xu2, fun j e hj he => ?_⟩ (by omega)
      by_cases ej : j = k
      · subst ej; rw [ha] at he; injection he with he; subst he; exact q
      · exact hlow j e (by omega) he
    · rw [decide_eq_false q]
      have hat := insT_at (l := l) (x := x) (i := k) (by omega) hlow (fun e he => by rw [ha] at he; injection he with he; subst he; exact q)
      rw [ha] at hat
      change insT l x = if ltT x.ti a.ti then l.take k ++ x :: l.drop k else l.set k (a.more x.litres) at hat
      have B32 := B30.ext xu2
      have hc2 := hc.kept xu2 trivial
      refine drawP (.take 0 (.take 1 (.take 2 (.take 3 (.take 4 (.take 5 (.take 6 (.take 7 (.take 8 (.take 9 (.eff 10 (.take 11 (.take 12 .done))))))))))))) [] (fun y => Ext u2 y) mx (by kernel_rfl) (.refl _ _) ?_
      refine len ?_
      refine cD (fun _ => ?_) (fun h => absurd (by omega) h)
      refine ldAK (encJ x) (.blk B32) rfl trivial (.refl _ _) ?_
      refine idx k rfl hlt ?_
      refine ldAK (encJ a) hc2 rfl trivial (.refl _ _) ?_
      refine call_of (c_r26Before (x := x) (y := a)) ?_
      rintro _ u3 ⟨rfl, xu3⟩
      refine strS xu3 ?_
      have x13 := (xu.trans xu2).trans xu3
      have x03 := h1.ext.trans x13
      by_cases q2 : ltT x.ti a.ti
      · rw [decide_eq_true q2]
        rw [if_pos q2] at hat
        have hlu := hl.ext x03
        have B3u := B3.ext x13
        refine drawP (.take 1 (.take 2 (.take 3 (.take 5 (.take 8 (.take 9 (.take 10 (.alt 0 (.alt 4 (.eff 6 (.eff 7 (.eff 11 (.take 12 .done)))) (.eff 6 (.eff 4 (.eff 7 (.eff 11 (.take 12 .done)))))) (.eff 6 (.eff 0 (.eff 4 (.eff 7 (.eff 11 (.take 12 .done)))))))))))))) [] (fun z => Ext u3 z) mx (by kernel_rfl) (.refl _ _) ?_
        refine slcR 0 k hlu hnc rfl rfl (by omega) (by omega) rfl (fun S1 hS1 => ?_)
        refine ldAK (encJ x) (.blk B3u) rfl trivial (.refl _ _) ?_
        refine slcR k n hlu hnc rfl rfl (by omega) (by omega) rfl (fun S2 hS2 => ?_)
        refine ⟨?yla, ?yra⟩
        case' yla =>
          refine lit [] (fun g0 u1 h0 => ?_)
          have o0 : OwnF u3 u1 (some (ad g0 0)) 0 0 60 5 [] := OwnF.lit (cs := []) (.refl _ _) h0 rfl
          refine strS o0.ext ?_
          refine ⟨?ylla, ?ylra⟩
        case' ylla =>
          refine appF o0 (srcM (hS1 _ _ (hlu.ext o0.ext))) (by omega) (fun F1 d1 u2 p1 _ _ => ?_) (h1 := one_cells)
          refine strS p1.ext ?_
          refine lit [.agg (encJ x).toArray] (fun g1 u3 hq => ?_)
          have p1 := p1.then hq.ext
          refine strS p1.ext ?_
          refine appF p1 (hq.src (sz := 5) rfl) (by omega) (fun F2 d2 u4 p2 _ _ => ?_)
          refine strS p2.ext ?_
          refine appF p2 (srcM (hS2 _ _ (hlu.ext p2.ext))) (by omega) (fun F3 d3 u5 p3 _ _ => ?_) (h1 := one_cells)
          refine strS p3.ext ?_
        case' ylra =>
          refine lit [.agg (encJ x).toArray] (fun g1 u2 hq => ?_)
          have o0 := o0.then hq.ext
          have n1 := hq.at_
          refine strS o0.ext ?_
          refine appF o0 (srcM (hS1 _ _ (hlu.ext o0.ext))) (by omega) (fun F1 d1 u3 p1 k1 _ => ?_) (h1 := one_cells)
          have bx := hq.blk.kept k1 (show some (ad g0 0) ≠ some (ad g1 0) from fun h => by injection h with h; injection h with h; have := h0.blk.lt; omega)
          refine strS p1.ext ?_
          refine appF p1 (srcOf5m bx) (by omega) (fun F2 d2 u4 p2 _ _ => ?_)
          refine strS p2.ext ?_
          refine appF p2 (srcM (hS2 _ _ (hlu.ext p2.ext))) (by omega) (fun F3 d3 u5 p3 _ _ => ?_) (h1 := one_cells)
          refine strS p3.ext ?_
        case' yra =>
          refine lit [.agg (encJ x).toArray] (fun g1 u1 hq => ?_)
          refine strS hq.ext ?_
          refine lit [] (fun g0 u2 h0 => ?_)
          have o0 : OwnF u3 u2 (some (ad g0 0)) 0 0 60 5 [] := OwnF.lit (cs := []) hq.ext h0 rfl
          refine strS o0.ext ?_
          refine appF o0 (srcM (hS1 _ _ (hlu.ext o0.ext))) (by omega) (fun F1 d1 u3 p1 k1 _ => ?_) (h1 := one_cells)
          have bx := (hq.blk.ext h0.ext).kept k1 (show some (ad g0 0) ≠ some (ad g1 0) from fun h => by injection h with h; injection h with h; have := hq.blk.lt; have := h0.at_; omega)
          refine strS p1.ext ?_
          refine appF p1 (srcOf5m bx) (by omega) (fun F2 d2 u4 p2 _ _ => ?_)
          refine strS p2.ext ?_
          refine appF p2 (srcM (hS2 _ _ (hlu.ext p2.ext))) (by omega) (fun F3 d3 u5 p3 _ _ => ?_) (h1 := one_cells)
          refine strS p3.ext ?_
        all_goals
          have ecs : ([] ++ ((l.take k).drop 0).flatMap encJ) ++ encJ x ++ ((l.take n).drop k).flatMap encJ = (insT l x).flatMap encJ := by
            rw [hat, List.flatMap_append, List.flatMap_cons, List.take_of_length_le (Nat.le_of_eq hlen), List.drop_zero, List.nil_append, List.append_assoc]
          have eln : 0 + (k - 0) + 1 + (n - k) = (insT l x).length := by
            rw [hat, List.length_append, List.length_cons, List.length_take, List.length_drop]; omega
          refine ret1 (.slice F3 (0 + (k - 0) + 1 + (n - k)) d3) rfl ⟨(x03).trans p3.ext, _, _, _, rfl, p3.le, ?_⟩
          rw [if_neg hx0]
          exact p3.own.rd (a := tCm) (xs := insT l x) (flat_of ecs) eln (by omega) fun _ _ => trivial
      · rw [decide_eq_false q2]
        rw [if_neg q2] at hat
        have hlu3 := hl.ext x03
        have B33 := B32.ext xu3
        refine lit [] (fun g0 v1 h0 => ?_)
        have o0 : OwnF u3 v1 (some (ad g0 0)) 0 0 60 5 [] := OwnF.lit (cs := []) (.refl _ _) h0 rfl
        refine appF o0 (srcM (hlu3.ext h0.ext)) (by omega) (fun F1 d1 v2 p1 _ _ => ?_) (h1 := one_cells)
        rcases p1.form with ⟨rfl, h, -⟩ | ⟨g, rfl, hg1, hg2, hc1⟩
        · omega
        obtain ⟨rest, Bq, hBl, -⟩ := p1.own.blk
        rw [List.nil_append] at Bq hBl
        have x3v := p1.ext
        have Bx := B33.ext x3v
        have hab := hb a (List.mem_of_getElem? ha)
        have hcell : v2.cell? (ad g (0 + k * 5 + 3)) = some (iv a.litres) := by
          rw [Nat.zero_add]
          refine Bq.cell ?_
          have hlt2 : k * 5 + 3 < (l.flatMap encJ).length := by rw [encJ_len]; omega
          rw [List.getElem?_append_left hlt2, encJ_at 3 ha (by omega)]; rfl
        refine drawP (.take 0 (.take 1 (.take 2 (.take 3 (.take 4 (.take 5 (.take 6 (.take 7 (.take 8 (.take 9 (.take 10 (.take 11 (.bar (.eff 12 .done)))))))))))))) [12] (fun y => Ext v2 y) mx (by kernel_rfl) (.refl _ _) ?_
        refine idx k rfl (by omega) ?_
        refine fldA ?_
        refine ldX (iv a.litres) hcell (.refl _ _) ?_
        refine fldA ?_
        refine ldX (iv x.litres) (Bx.cell rfl) (.refl _ _) ?_
        refine arI (by omega) ?_
        refine idx k rfl (by omega) ?_
        refine fldA ?_
        refine barS (fun _ => True) trivial ?_
        refine st (i := 0 + k * 5 + 3) (v := iv (a.litres + x.litres)) Bq (by rw [List.length_append, encJ_len]; omega) rfl (fun v3 Bq3 k3 z3 => ?_)
        refine strS trivial ?_
        have Bq3 : Blk v3 g 60 ((l.set k (a.more x.litres)).flatMap encJ ++ rest) := by have e := set_flat (rest := rest) (v := a.litres + x.litres) ha; rw [Nat.zero_add] at Bq3; change _ = (l.set k (a.more x.litres)).flatMap encJ ++ rest at e; rw [← e]; exact Bq3
        refine ret1 (.slice (some (ad g 0)) (0 + n) d1) rfl ⟨(x03.trans x3v).then k3 fun b hb _ e => ?_, _, _, _, rfl, hc1, ?_⟩
        · have := x03.size
          omega
        · rw [if_neg hx0, hat]
          exact SlR.of_cells (cs := (l.set k (a.more x.litres)).flatMap encJ) (by rw [List.length_set]; omega) (by omega) trivial (fun j v hv => by rw [Nat.zero_add]; exact Bq3.cell (by rw [List.getElem?_append_left (List.getElem?_eq_some_iff.1 hv).1]; exact hv)) flat_cms
  · have hkn : k = n := by omega
    have hat := insT_at (l := l) (x := x) (i := k) (by omega) hlow (fun e he => by rw [List.getElem?_eq_none (by omega)] at he; cases he)
    rw [List.getElem?_eq_none (by omega)] at hat
    change insT l x = l.take k ++ x :: l.drop k at hat
    refine strS (.refl _ _) ?_
    refine drawP (.take 0 (.take 1 (.take 2 (.take 3 (.take 4 (.take 5 (.take 6 (.take 7 (.take 8 (.take 9 (.eff 10 (.take 11 (.take 12 .done))))))))))))) [] (fun y => Ext u y) mx (by kernel_rfl) (.refl _ _) ?_
    refine len ?_
    refine cD (fun h => absurd h (by omega)) (fun _ => ?_)
    refine strS (.refl _ _) ?_
    have hlu := hl.ext x0u
    have B3u := B3.ext xu
    refine drawP (.take 1 (.take 2 (.take 3 (.take 5 (.take 8 (.take 9 (.take 10 (.alt 0 (.alt 4 (.eff 6 (.eff 7 (.eff 11 (.take 12 .done)))) (.eff 6 (.eff 4 (.eff 7 (.eff 11 (.take 12 .done)))))) (.eff 6 (.eff 0 (.eff 4 (.eff 7 (.eff 11 (.take 12 .done)))))))))))))) [] (fun z => Ext u z) mx (by kernel_rfl) (.refl _ _) ?_
    refine slcR 0 k hlu hnc rfl rfl (by omega) (by omega) rfl (fun S1 hS1 => ?_)
    refine ldAK (encJ x) (.blk B3u) rfl trivial (.refl _ _) ?_
    refine slcR k n hlu hnc rfl rfl (by omega) (by omega) rfl (fun S2 hS2 => ?_)
    refine ⟨?ylb, ?yrb⟩
    case' ylb =>
      refine lit [] (fun g0 u1 h0 => ?_)
      have o0 : OwnF u u1 (some (ad g0 0)) 0 0 60 5 [] := OwnF.lit (cs := []) (.refl _ _) h0 rfl
      refine strS o0.ext ?_
      refine ⟨?yllb, ?ylrb⟩
    case' yllb =>
      refine appF o0 (srcM (hS1 _ _ (hlu.ext o0.ext))) (by omega) (fun F1 d1 u2 p1 _ _ => ?_) (h1 := one_cells)
      refine strS p1.ext ?_
      refine lit [.agg (encJ x).toArray] (fun g1 u3 hq => ?_)
      have p1 := p1.then hq.ext
      refine strS p1.ext ?_
      refine appF p1 (hq.src (sz := 5) rfl) (by omega) (fun F2 d2 u4 p2 _ _ => ?_)
      refine strS p2.ext ?_
      refine appF p2 (srcM (hS2 _ _ (hlu.ext p2.ext))) (by omega) (fun F3 d3 u5 p3 _ _ => ?_) (h1 := one_cells)
      refine strS p3.ext ?_
    case' ylrb =>
      refine lit [.agg (encJ x).toArray] (fun g1 u2 hq => ?_)
      have o0 := o0.then hq.ext
      have n1 := hq.at_
      refine strS o0.ext ?_
      refine appF o0 (srcM (hS1 _ _ (hlu.ext o0.ext))) (by omega) (fun F1 d1 u3 p1 k1 _ => ?_) (h1 := one_cells)
      have bx := hq.blk.kept k1 (show some (ad g0 0) ≠ some (ad g1 0) from fun h => by injection h with h; injection h with h; have := h0.blk.lt; omega)
      refine strS p1.ext ?_
      refine appF p1 (srcOf5m bx) (by omega) (fun F2 d2 u4 p2 _ _ => ?_)
      refine strS p2.ext ?_
      refine appF p2 (srcM (hS2 _ _ (hlu.ext p2.ext))) (by omega) (fun F3 d3 u5 p3 _ _ => ?_) (h1 := one_cells)
      refine strS p3.ext ?_
    case' yrb =>
      refine lit [.agg (encJ x).toArray] (fun g1 u1 hq => ?_)
      refine strS hq.ext ?_
      refine lit [] (fun g0 u2 h0 => ?_)
      have o0 : OwnF u u2 (some (ad g0 0)) 0 0 60 5 [] := OwnF.lit (cs := []) hq.ext h0 rfl
      refine strS o0.ext ?_
      refine appF o0 (srcM (hS1 _ _ (hlu.ext o0.ext))) (by omega) (fun F1 d1 u3 p1 k1 _ => ?_) (h1 := one_cells)
      have bx := (hq.blk.ext h0.ext).kept k1 (show some (ad g0 0) ≠ some (ad g1 0) from fun h => by injection h with h; injection h with h; have := hq.blk.lt; have := h0.at_; omega)
      refine strS p1.ext ?_
      refine appF p1 (srcOf5m bx) (by omega) (fun F2 d2 u4 p2 _ _ => ?_)
      refine strS p2.ext ?_
      refine appF p2 (srcM (hS2 _ _ (hlu.ext p2.ext))) (by omega) (fun F3 d3 u5 p3 _ _ => ?_) (h1 := one_cells)
      refine strS p3.ext ?_
    all_goals
      have ecs : ([] ++ ((l.take k).drop 0).flatMap encJ) ++ encJ x ++ ((l.take n).drop k).flatMap encJ = (insT l x).flatMap encJ := by
        rw [hat, List.flatMap_append, List.flatMap_cons, List.take_of_length_le (Nat.le_of_eq hlen), List.drop_zero, List.nil_append, List.append_assoc]
      have eln : 0 + (k - 0) + 1 + (n - k) = (insT l x).length := by
        rw [hat, List.length_append, List.length_cons, List.length_take, List.length_drop]; omega
      refine ret1 (.slice F3 (0 + (k - 0) + 1 + (n - k)) d3) rfl ⟨(x0u).trans p3.ext, _, _, _, rfl, p3.le, ?_⟩
      rw [if_neg hx0]
      exact p3.own.rd (a := tCm) (xs := insT l x) (flat_of ecs) eln (by omega) fun _ _ => trivial
end
end Go.Proofs.Ytcpogcdadlcdaaa

/- Layer 46: the reference's Retitle, plainly: what it has after each claim. -/
namespace Go.Proofs.Ytcpogcdadlcdaaa
open Go Go.RowKit Classical

/-- The litres of a title among claims. -/
noncomputable def sumT (l : List Cm) (t : Ti) : Int := (l.map fun c => if c.ti = t then c.litres else 0).sum
theorem sumT_snoc {l : List Cm} {c : Cm} {t : Ti} : sumT (l ++ [c]) t = sumT l t + if c.ti = t then c.litres else 0 := by unfold sumT; simp
theorem sumT_none {l : List Cm} {t : Ti} (h : ∀ c ∈ l, c.ti ≠ t) : sumT l t = 0 := by
  induction l with
  | nil => rfl
  | cons a l ih =>
    have h1 := h a List.mem_cons_self
    have h2 := ih fun c hc => h c (List.mem_cons_of_mem _ hc)
    unfold sumT at *
    rw [List.map_cons, List.sum_cons, if_neg h1, h2]; rfl
theorem allG_sum {l : List Cm} : ∀ (k : Nat), k ≤ l.length → (l.map Cm.ti).Nodup → ∀ t, (allG (l.take k) t).getD 0 = sumT (l.take k) t := by
  intro k
  induction k with
  | zero => intro _ _ t; rfl
  | succ k ih =>
    intro hk hn t
    have hk' : k < l.length := by omega
    have htk : l.take (k + 1) = l.take k ++ [l[k]] := by rw [List.take_add_one, List.getElem?_eq_getElem hk']; rfl
    have ih := ih (by omega) hn t
    rw [htk, allG_snoc, sumT_snoc]
    unfold iset
    by_cases q : t = l[k].ti
    · rw [if_pos q, if_pos q.symm]
      have hn2 := hn.sublist ((List.take_sublist (k + 1) l).map Cm.ti)
      rw [htk, List.map_append, List.nodup_append] at hn2
      rw [sumT_none fun c hc e => hn2.2.2 c.ti (List.mem_map_of_mem hc) l[k].ti (by simp) (e.trans q), Int.zero_add]
      rfl
    · rw [if_neg q, if_neg (fun h => q h.symm), Int.add_zero]; exact ih
/-- What is left of a claim, and what comes of it. -/
def leftC (s litres : Int) (c : Cm) : Cm := { c with litres := c.litres - min c.litres (litres - s) }
def gainC (s to litres got : Int) (c : Cm) : Cm := { c with farm := to, litres := (s + min c.litres (litres - s)) * got / litres - s * got / litres }
/-- The invariant of the reference. -/
structure RefI (fr to hr litres got : Int) (l : List Cm) (i : Nat) (out : List Cm) (O : Ti → Int) : Prop where
  out : OutR out O
  pos : ∀ t, 0 ≤ O t
  eq : ∀ t, ((backG fr to hr litres got l i).2 t).getD 0 = O t + sumT (l.take i) t
theorem RefI.start {fr to hr litres got : Int} {l : List Cm} (h : ClaimsOk l) : RefI fr to hr litres got l l.length [] fun _ => 0 := by
  refine ⟨OutR.nil, fun _ => Int.le_refl _, fun t => ?_⟩
  have := allG_sum l.length (Nat.le_refl _) h.nodup t
  rw [List.take_length] at this ⊢
  unfold backG
  rw [List.drop_length, Int.zero_add]
  exact this
theorem insR {out : List Cm} {O : Ti → Int} {x : Cm} (h : OutR out O) (h0 : ∀ t, 0 ≤ O t) (hx : 0 ≤ x.litres) : OutR (if x.litres = 0 then out else insT out x) (fun t => O t + if t = x.ti then x.litres else 0) ∧ ∀ t, 0 ≤ O t + if t = x.ti then x.litres else 0 := by
  constructor
  · by_cases q : x.litres = 0
    · rw [if_pos q]
      have : (fun t => O t + if t = x.ti then x.litres else 0) = O := by funext t; rw [q]; split <;> omega
      rw [this]; exact h
    · rw [if_neg q]; exact h.ins h0 (by omega)
  · intro t
    have := h0 t
    split <;> omega
theorem RefI.skip {fr to hr litres got : Int} {l out : List Cm} {O : Ti → Int} {i : Nat} {c : Cm} (h : RefI fr to hr litres got l (i + 1) out O) (hc : l[i]? = some c) (hb : claimB c = true) (q : ¬ (c.farm = fr ∧ c.hour = hr)) :
    RefI fr to hr litres got l i (if c.litres = 0 then out else insT out c) fun t => O t + if t = c.ti then c.litres else 0 := by
  have hcb := claimB_iff.1 hb
  obtain ⟨a1, a2⟩ := insR (x := c) h.out h.pos (by omega)
  refine ⟨a1, a2, fun t => ?_⟩
  have htk : l.take (i + 1) = l.take i ++ [c] := by rw [List.take_add_one, hc]; rfl
  have := h.eq t
  rw [htk, sumT_snoc] at this
  rw [backG_step hc]
  unfold bstep
  rw [if_neg q, this]
  by_cases e : t = c.ti
  · rw [if_pos e, if_pos e.symm]; omega
  · rw [if_neg e, if_neg fun h => e h.symm]; omega
theorem RefI.take {fr to hr litres got : Int} {l out : List Cm} {O : Ti → Int} {i : Nat} {c : Cm} (h : RefI fr to hr litres got l (i + 1) out O) (hc : l[i]? = some c) (hb : claimB c = true) (q : c.farm = fr ∧ c.hour = hr) (hne : fr ≠ to)
    (hs : 0 ≤ (backG fr to hr litres got l (i + 1)).1 ∧ (backG fr to hr litres got l (i + 1)).1 ≤ litres) (hl1 : 1 ≤ litres) (hg : 0 ≤ got) (hg2 : got ≤ 1073741824) {s : Int} (es : s = (backG fr to hr litres got l (i + 1)).1) :
    RefI fr to hr litres got l i (if (leftC s litres c).litres = 0 then (if (gainC s to litres got c).litres = 0 then out else insT out (gainC s to litres got c)) else insT (if (gainC s to litres got c).litres = 0 then out else insT out (gainC s to litres got c)) (leftC s litres c))
      fun t => (O t + if t = (gainC s to litres got c).ti then (gainC s to litres got c).litres else 0) + if t = (leftC s litres c).ti then (leftC s litres c).litres else 0 := by
  have hcb := claimB_iff.1 hb
  rw [← es] at hs
  have hgb := gain_b (a := s) (n := min c.litres (litres - s)) (got := got) (litres := litres) hs.1 (by omega) (by omega) hl1 hg hg2
  obtain ⟨a1, a2⟩ := insR (x := gainC s to litres got c) h.out h.pos hgb.1
  obtain ⟨b1, b2⟩ := insR (x := leftC s litres c) a1 a2 (by show 0 ≤ c.litres - min c.litres (litres - s); omega)
  refine ⟨b1, b2, fun t => ?_⟩
  have htk : l.take (i + 1) = l.take i ++ [c] := by rw [List.take_add_one, hc]; rfl
  have h1 := h.eq t
  have h2 := h.eq c.ti
  have h3 := h.eq (c.hour, c.rank, c.right, to)
  rw [htk, sumT_snoc] at h1 h2 h3
  rw [if_pos rfl] at h2
  have ne : ¬ c.ti = (c.hour, c.rank, c.right, to) := fun e => by
    simp only [Cm.ti, Prod.mk.injEq] at e
    exact hne (q.1.symm.trans e.2.2.2)
  rw [if_neg ne, Int.add_zero] at h3
  have e1 : (gainC s to litres got c).ti = (c.hour, c.rank, c.right, to) := rfl
  have e2 : (leftC s litres c).ti = c.ti := rfl
  have e3 : (gainC s to litres got c).litres = (s + min c.litres (litres - s)) * got / litres - s * got / litres := rfl
  have e4 : (leftC s litres c).litres = c.litres - min c.litres (litres - s) := rfl
  rw [backG_step hc]
  unfold bstep
  rw [if_pos q, ← es, e1, e2, e3, e4]
  show (iset (iset _ _ _) _ _ t).getD 0 = _
  unfold iset
  by_cases p1 : t = (c.hour, c.rank, c.right, to)
  · subst p1
    have ne' : ¬ ((c.hour, c.rank, c.right, to) : Ti) = c.ti := fun e => ne e.symm
    rw [if_pos rfl, if_pos rfl, if_neg ne', if_neg ne', Option.getD_some, h3]
    omega
  · rw [if_neg p1, if_neg p1]
    by_cases p2 : t = c.ti
    · rw [if_pos p2, if_pos p2, Option.getD_some, h2, p2]
      omega
    · rw [if_neg p2, if_neg p2, h1, if_neg fun e => p2 e.symm]
      omega
end Go.Proofs.Ytcpogcdadlcdaaa

/- Layer 46: the reference's Retitle. -/
namespace Go.Proofs.Ytcpogcdadlcdaaa
open Go Go.RowKit Classical

theorem sumT_pos {l : List Cm} {t : Ti} (h : ∀ c ∈ l, 0 ≤ c.litres) : 0 ≤ sumT l t := by
  induction l with
  | nil => exact Int.le_refl _
  | cons a l ih =>
    have h1 := h a List.mem_cons_self
    have h2 := ih fun c hc => h c (List.mem_cons_of_mem _ hc)
    unfold sumT at *
    rw [List.map_cons, List.sum_cons]
    split <;> omega
theorem len_if {q : Prop} [Decidable q] {a b : List Cm} {n : Nat} (ha : a.length ≤ n) (hb : b.length ≤ n) : (if q then a else b).length ≤ n := by split <;> assumption
theorem len_insT {x : Cm} : ∀ {l : List Cm}, (insT l x).length ≤ l.length + 1
  | [] => Nat.le_refl _
  | a :: l => by
    have ih := len_insT (x := x) (l := l)
    unfold insT
    split
    · rw [List.length_cons, List.length_cons]; omega
    · split
      · rw [List.length_cons]; exact Nat.le_refl _
      · rw [List.length_cons, List.length_cons]; omega
section
variable {w : World}
set_option maxRecDepth 8000 in
set_option maxHeartbeats 4000000 in
theorem c_h46Ret {D : Nat → Prop} {A : Option Addr} {n c : Nat} {l : List Cm} {fr to hr litres got : Int} (hs : SlR tCm D w A n l) : CallZ Try.prog 9 #[.slice A n c, iv fr, iv to, iv hr, iv litres, iv got] w
    (fun v w' => Ext w w' ∧ ∃ B m cm x e, v = .tuple #[.slice B m cm, iv e] ∧ SlR tCm (fun _ => True) w' B m x ∧ RetR fr to hr litres got l x e) := by
  have hs := hs.more (D' := fun _ => True) (by decide) fun _ _ _ => trivial
  have hlen := hs.len
  refine fn_rule (args := [.slice A n c, iv fr, iv to, iv hr, iv litres, iv got]) Try.func9 (by kernel_rfl) ?_
  refine len ?_
  refine cD (fun g1 => ?_) (fun g1 => ?_)
  · exact ret2 (.slice none 0 0) (iv 2) rfl rfl ⟨.refl _ _, none, 0, 0, [], 2, rfl, .nil, .pre (by unfold preErr; rw [if_pos (by omega)]) (by decide)⟩
  have hn4 : n ≤ 4096 := by omega
  refine callE (c_h46Claims hs) (fun w1 hq x1 => ?_) (fun w1 hq x1 => ?_)
  rotate_left
  · exact ret2 (.slice none 0 0) (iv 460) rfl rfl ⟨x1, none, 0, 0, [], 460, rfl, .nil, .pre (preErr_bad (by omega) (of_decide_eq_false hq)) (by decide)⟩
  have hok := of_decide_eq_true hq
  have hs1 := hs.ext x1
  have arg : argB fr to hr litres got = true ↔ (0 ≤ fr ∧ fr < 600 ∧ 0 ≤ to ∧ to < 600 ∧ fr ≠ to) ∧ 0 ≤ hr ∧ hr < 4096 ∧ 1 ≤ litres ∧ litres ≤ 1073741824 ∧ 0 ≤ got ∧ got ≤ 1073741824 := by rw [argB_iff]; omega
  refine callB (c_h46farms (a := fr) (b := to) (m := 600)) (fun p1 => ?_) (fun p1 => ?_)
  rotate_left
  · exact ret2 (.slice none 0 0) (iv 1) rfl rfl ⟨x1, none, 0, 0, [], 1, rfl, .nil, .pre (preErr_arg (by omega) hok fun h => of_decide_eq_false p1 (arg.1 h).1) (by decide)⟩
  have p1 := of_decide_eq_true p1
  refine cD (fun p2 => ?_) (fun p2 => ?_)
  · exact ret2 (.slice none 0 0) (iv 1) rfl rfl ⟨x1, none, 0, 0, [], 1, rfl, .nil, .pre (preErr_arg (by omega) hok fun h => by have := arg.1 h; omega) (by decide)⟩
  refine cD (fun p3 => ?_) (fun p3 => ?_)
  · exact ret2 (.slice none 0 0) (iv 1) rfl rfl ⟨x1, none, 0, 0, [], 1, rfl, .nil, .pre (preErr_arg (by omega) hok fun h => by have := arg.1 h; omega) (by decide)⟩
  refine cD (fun p4 => ?_) (fun p4 => ?_)
  · exact ret2 (.slice none 0 0) (iv 1) rfl rfl ⟨x1, none, 0, 0, [], 1, rfl, .nil, .pre (preErr_arg (by omega) hok fun h => by have := arg.1 h; omega) (by decide)⟩
  refine cD (fun p5 => ?_) (fun p5 => ?_)
  · exact ret2 (.slice none 0 0) (iv 1) rfl rfl ⟨x1, none, 0, 0, [], 1, rfl, .nil, .pre (preErr_arg (by omega) hok fun h => by have := arg.1 h; omega) (by decide)⟩
  refine cD (fun p6 => ?_) (fun p6 => ?_)
  · exact ret2 (.slice none 0 0) (iv 1) rfl rfl ⟨x1, none, 0, 0, [], 1, rfl, .nil, .pre (preErr_arg (by omega) hok fun h => by have := arg.1 h; omega) (by decide)⟩
  refine cD (fun p7 => ?_) (fun p7 => ?_)
  · exact ret2 (.slice none 0 0) (iv 1) rfl rfl ⟨x1, none, 0, 0, [], 1, rfl, .nil, .pre (preErr_arg (by omega) hok fun h => by have := arg.1 h; omega) (by decide)⟩
  have harg := arg.2 ⟨p1, by omega, by omega, by omega, by omega, by omega, by omega⟩
  have hpe := preErr_has (fr := fr) (to := to) (hr := hr) (litres := litres) (got := got) (l := l) (by omega) hok harg
  refine call_of (c_h46has (fr := fr) (hr := hr) hs1 hok.1 (by omega)) ?_
  rintro _ w2 ⟨rfl, rfl⟩
  refine cD (fun p8 => ?_) (fun p8 => ?_)
  · exact ret2 (.slice none 0 0) (iv 460) rfl rfl ⟨x1, none, 0, 0, [], 460, rfl, .nil, .pre (by rw [hpe, if_pos p8]) (by decide)⟩
  rw [if_neg p8] at hpe
  refine len ?_
  refine arI (by omega) ?_
  refine loop_rule (fun s : Nat × (Option Addr × Nat × Nat) × (List Cm × (Ti → Int)) => [(14, .slice s.2.1.1 s.2.1.2.1 s.2.1.2.2), (15, iv (backG fr to hr litres got l s.1).1), (16, iv ((s.1 : Int) - 1))])
    (fun s u => s.1 ≤ n ∧ Ext w2 u ∧ s.2.1.2.1 ≤ s.2.1.2.2 ∧ SlR tCm (fun _ => True) u s.2.1.1 s.2.1.2.1 s.2.2.1 ∧ RefI fr to hr litres got l s.1 s.2.2.1 s.2.2.2 ∧ s.2.2.1.length ≤ 2 * (n - s.1)) (fun s _ => s.1)
    (n, (none, 0, 0), ([], fun _ => 0)) ⟨rfl, by show iv 0 = iv (backG fr to hr litres got l n).1; unfold backG; rw [List.drop_of_length_le (by omega)]; rfl, rfl, trivial⟩ ⟨Nat.le_refl _, .refl _ _, Nat.le_refl _, .nil, by rw [← hlen]; exact RefI.start hok, by simp⟩ rfl ?_
  rintro G ⟨k, ⟨N, m, cm⟩, out, O⟩ u ⟨hk, xu, hmc, so, hI, hol⟩
  have hk : k ≤ n := hk
  have xu : Ext w2 u := xu
  have hmc : m ≤ cm := hmc
  have so : SlR tCm (fun _ => True) u N m out := so
  have hI : RefI fr to hr litres got l k out O := hI
  have hol : out.length ≤ 2 * (n - k) := hol
  have lo := so.len
  have hm8 : m ≤ 8192 := by omega
  have x0u := x1.trans xu
  have hsu := hs.ext x0u
  refine cD (fun hge => ?_) (fun hlt => ?_)
  · obtain ⟨i, rfl⟩ : ∃ i, k = i + 1 := ⟨k - 1, by omega⟩
    have e : ((i + 1 : Nat) : Int) - 1 = (i : Int) := by omega
    rw [e]
    obtain ⟨b, o, cs, r, rfl, hri, -, -, hc, rfl⟩ := hsu.at_ (k := i) (by omega)
    have hcr := hok.1 r (List.mem_of_getElem? hri)
    have hcb := claimB_iff.1 hcr
    have hbd := back_b (fr := fr) (to := to) (hr := hr) (litres := litres) (got := got) hok.1 (by omega) (by omega) (by omega) (by omega) (k := n - (i + 1)) (by omega)
    rw [hlen, show n - (n - (i + 1)) = i + 1 by omega] at hbd
    have hO : ∀ t, O t ≤ 17600000000000 := fun t => by
      have h1 := hI.eq t
      have h2 := (getD_b hbd.2 (by omega) t).2
      have h3 := sumT_pos (l := l.take (i + 1)) (t := t) fun c hc => by have := claimB_iff.1 (hok.1 c (List.mem_of_mem_take hc)); omega
      omega
    have hbo : ∀ a ∈ out, 0 ≤ a.litres ∧ a.litres ≤ 35184372088832 := fun a ha => by
      obtain ⟨h1, h2⟩ := (hI.out.2 a).1 ha
      have := hO a.ti
      omega
    refine idx i rfl (by omega) ?_
    refine ldA (encJ r) hc rfl ?_
    refine alloc (fun b17 u1 q1 => ?_)
    refine stA (vs := encJ r) q1.blk rfl (Nat.le_of_ble_eq_true rfl) (by simp [Value.oneCell']) (fun u2 B17 k2 z2 => ?_)
    have B17 : Blk u2 b17 60 (encJ r) := B17
    have e17 := q1.at_
    have xu2 : Ext u u2 := q1.ext.then k2 fun b hb _ e => by omega
    obtain ⟨s, es⟩ : ∃ s, s = (backG fr to hr litres got l (i + 1)).1 := ⟨_, rfl⟩
    rw [← es]
    have hs01 := hbd.1
    rw [← es] at hs01
    have skip : ∀ q : ¬ (r.farm = fr ∧ r.hour = hr), s = (backG fr to hr litres got l i).1 := fun q => by
      rw [backG_step hri]; unfold bstep; rw [if_neg q]; exact es
    refine fldA ?_
    refine ld (iv r.farm) (B17.cell rfl) ?_
    refine cE (fun q1 => ?_) (fun q1 => ?_)
    rotate_left
    · refine ldA (encJ r) (.blk B17) rfl ?_
      refine call_of (c_h46add (so.ext xu2) hmc hm8 ⟨by omega, by omega⟩ hbo) ?_
      rintro _ u3 ⟨x3, N', m', cm', rfl, hmc', so'⟩
      have lo' := so'.len
      have li := len_insT (x := r) (l := out)
      refine arI (by omega) ?_
      refine next (i, (N', m', cm'), (if r.litres = 0 then out else insT out r, fun t => O t + if t = r.ti then r.litres else 0)) ⟨rfl, ?_, rfl, trivial⟩ ⟨by omega, (xu.trans xu2).trans x3, hmc', so', hI.skip hri hcr (fun h => q1 h.1), ?_⟩ (by simp only; omega)
      · show iv s = iv _
        rw [skip (fun h => q1 h.1)]
      · show (if r.litres = 0 then out else insT out r).length ≤ 2 * (n - i)
        split <;> omega
    refine fldA ?_
    refine ld (iv r.hour) (B17.cell rfl) ?_
    refine cE (fun q2 => ?_) (fun q2 => ?_)
    rotate_left
    · refine ldA (encJ r) (.blk B17) rfl ?_
      refine call_of (c_h46add (so.ext xu2) hmc hm8 ⟨by omega, by omega⟩ hbo) ?_
      rintro _ u3 ⟨x3, N', m', cm', rfl, hmc', so'⟩
      have lo' := so'.len
      have li := len_insT (x := r) (l := out)
      refine arI (by omega) ?_
      refine next (i, (N', m', cm'), (if r.litres = 0 then out else insT out r, fun t => O t + if t = r.ti then r.litres else 0)) ⟨rfl, ?_, rfl, trivial⟩ ⟨by omega, (xu.trans xu2).trans x3, hmc', so', hI.skip hri hcr (fun h => q2 h.2), ?_⟩ (by simp only; omega)
      · show iv s = iv _
        rw [skip (fun h => q2 h.2)]
      · show (if r.litres = 0 then out else insT out r).length ≤ 2 * (n - i)
        split <;> omega
    clear skip
    have hgb := gain_b (a := s) (n := min r.litres (litres - s)) (got := got) (litres := litres) (by omega) (by omega) (by omega) (by omega) (by omega) (by omega)
    have hm1 : 0 ≤ (s + min r.litres (litres - s)) * got ∧ (s + min r.litres (litres - s)) * got ≤ 1073741824 * 1073741824 := ⟨Int.mul_nonneg (by omega) (by omega), Int.mul_le_mul (by omega) (by omega) (by omega) (by omega)⟩
    have hm0 : 0 ≤ s * got ∧ s * got ≤ 1073741824 * 1073741824 := ⟨Int.mul_nonneg (by omega) (by omega), Int.mul_le_mul (by omega) (by omega) (by omega) (by omega)⟩
    refine fldA ?_
    refine ld (iv r.litres) (B17.cell rfl) ?_
    refine arI (by omega) ?_
    refine ldA (encJ r) (.blk B17) rfl ?_
    refine alloc (fun b19 u3 q3 => ?_)
    refine stA (vs := encJ r) q3.blk rfl (Nat.le_of_ble_eq_true rfl) (by simp [Value.oneCell']) (fun u4 B19 k4 z4 => ?_)
    have B19 : Blk u4 b19 60 (encJ r) := B19
    have e19 := q3.at_
    have x24 : Ext u2 u4 := q3.ext.then k4 fun b hb _ e => by omega
    have l17 := B17.lt
    have B17 := B17.ext x24
    refine fldA ?_
    refine st (i := 1) (v := iv to) B19 (by simp) rfl (fun u5 C19 k5 z5 => ?_)
    have C19 : Blk u5 b19 60 [iv r.right, iv to, iv r.hour, iv r.litres, iv r.rank] := C19
    have B17 := B17.kept k5 (by omega)
    refine drawP (.take 0 (.take 1 (.take 2 (.take 3 (.take 4 (.take 5 (.take 6 (.take 7 (.take 8 (.take 9 (.take 10 (.take 11 (.take 12 (.take 13 (.eff 14 .done))))))))))))))) [] (fun _ => True) mx (by kernel_rfl) trivial ?_
    refine arI (n := s + min r.litres (litres - s)) (by omega) ?_
    refine arI (n := (s + min r.litres (litres - s)) * got) (by omega) ?_
    refine quoI (a := (s + min r.litres (litres - s)) * got) (by omega) (by omega) (by omega) ?_
    refine arI (n := s * got) (by omega) ?_
    refine quoI (a := s * got) (by omega) (by omega) (by omega) ?_
    refine arI (n := (s + min r.litres (litres - s)) * got / litres - s * got / litres) (by omega) ?_
    refine fldA ?_
    refine st (i := 3) (v := iv ((s + min r.litres (litres - s)) * got / litres - s * got / litres)) C19 (by simp) rfl (fun u6 D19 k6 z6 => ?_)
    have D19 : Blk u6 b19 60 (encJ (gainC s to litres got r)) := D19
    have B17 := B17.kept k6 (by omega)
    refine strS trivial ?_
    refine arI (n := s + min r.litres (litres - s)) (by omega) ?_
    refine fldA ?_
    refine ld (iv r.litres) (B17.cell rfl) ?_
    refine arI (n := r.litres - min r.litres (litres - s)) (by omega) ?_
    refine fldA ?_
    refine st (i := 3) (v := iv (r.litres - min r.litres (litres - s))) B17 (by simp) rfl (fun u7 D17 k7 z7 => ?_)
    have D17 : Blk u7 b17 60 (encJ (leftC s litres r)) := D17
    have D19 := D19.kept k7 (by omega)
    have zu2 := xu2.size
    have z24 := x24.size
    have xu7 : Ext u u7 := (((xu2.trans x24).then k5 fun b hb _ => by omega).then k6 fun b hb _ => by omega).then k7 fun b hb _ => by omega
    obtain ⟨a1, a2⟩ := insR (x := gainC s to litres got r) hI.out hI.pos hgb.1
    refine ldA (encJ (gainC s to litres got r)) (.blk D19) rfl ?_
    refine call_of (c_h46add (so.ext xu7) hmc hm8 ⟨hgb.1, by show (s + min r.litres (litres - s)) * got / litres - s * got / litres ≤ _; omega⟩ hbo) ?_
    rintro _ u8 ⟨x8, N1, m1, cm1, rfl, hmc1, so1⟩
    have lo1 := so1.len
    have li1 := len_insT (x := gainC s to litres got r) (l := out)
    have ll1 : (if (gainC s to litres got r).litres = 0 then out else insT out (gainC s to litres got r)).length ≤ out.length + 1 := len_if (by omega) li1
    have hm1' : m1 ≤ 8192 := by rw [← lo1]; exact Nat.le_trans ll1 (by omega)
    have hbo1 : ∀ a ∈ (if (gainC s to litres got r).litres = 0 then out else insT out (gainC s to litres got r)), 0 ≤ a.litres ∧ a.litres ≤ 35184372088832 := fun a ha => by
      obtain ⟨h1, h2⟩ := (a1.2 a).1 ha
      have h3 := hO a.ti
      have h4 : (gainC s to litres got r).litres ≤ 1073741824 := hgb.2.1
      have h5 : 0 ≤ (gainC s to litres got r).litres := hgb.1
      simp only at h1
      split at h1 <;> omega
    refine ldA (encJ (leftC s litres r)) (.blk (D17.ext x8)) rfl ?_
    refine call_of (c_h46add so1 hmc1 hm1' ⟨by show 0 ≤ r.litres - min r.litres (litres - s); omega, by show r.litres - min r.litres (litres - s) ≤ _; omega⟩ hbo1) ?_
    rintro _ u9 ⟨x9, N2, m2, cm2, rfl, hmc2, so2⟩
    have li2 := len_insT (x := leftC s litres r) (l := if (gainC s to litres got r).litres = 0 then out else insT out (gainC s to litres got r))
    have hR := hI.take hri hcr ⟨q1, q2⟩ p1.2.2.2.2 hbd.1 (by omega) (by omega) (by omega) es
    refine arI (n := (i : Int) - 1) (by omega) ?_
    refine next (i, (N2, m2, cm2), (_, _)) ⟨rfl, ?_, rfl, trivial⟩ ⟨by omega, ((xu.trans xu7).trans x8).trans x9, hmc2, so2, hR, ?_⟩ (by simp only; omega)
    · show iv (s + min r.litres (litres - s)) = iv _
      rw [backG_step hri]
      unfold bstep
      rw [if_pos ⟨q1, q2⟩, ← es]
    · exact len_if (Nat.le_trans ll1 (by simp only; omega)) (Nat.le_trans li2 (Nat.le_trans (Nat.succ_le_succ ll1) (by simp only; omega)))
  · obtain rfl : k = 0 := by omega
    have hO : ∀ t, (endG fr to hr litres got l t).getD 0 = O t := fun t => by
      have h := hI.eq t
      rw [List.take_zero] at h
      exact h.trans (Int.add_zero _)
    have some_of : ∀ t, 0 < O t → endG fr to hr litres got l t = some (O t) := fun t h => by
      have := hO t
      cases e : endG fr to hr litres got l t with
      | none => rw [e] at this; simp only [Option.getD_none] at this; omega
      | some v => rw [e] at this; simp only [Option.getD_some] at this; rw [this]
    have hmem : ∀ c, c ∈ out ↔ endG fr to hr litres got l c.ti = some c.litres ∧ 0 < c.litres := fun c => by
      rw [hI.out.2]
      constructor
      · rintro ⟨h1, h2⟩; exact ⟨by rw [some_of c.ti (by omega), h1], h2⟩
      · rintro ⟨h1, h2⟩
        have := hO c.ti
        rw [h1] at this
        exact ⟨this, h2⟩
    have hnd : (out.map Cm.ti).Nodup := by
      rw [List.Nodup, List.pairwise_map]
      exact hI.out.1.imp fun {a b} q => fun e : a.ti = b.ti => ltT_irrefl (x := b.ti) (by rw [e] at q; exact q)
    dsimp only
    refine loop_rule (fun j : Nat => [(20, iv (j : Int))]) (fun j u' => j ≤ m ∧ u = u' ∧ ∀ a ∈ out.take j, a.litres ≤ 1073741824) (fun j _ => m - j) 0 ⟨rfl, trivial⟩ ⟨by omega, rfl, fun a h => by simp at h⟩ rfl ?_
    rintro G2 j u' ⟨hj, rfl, hle⟩
    refine len ?_
    refine cD (fun hlt2 => ?_) (fun hge2 => ?_)
    · have hlt2 : j < m := by omega
      obtain ⟨b, o, cs, a, rfl, ha, -, -, hc, rfl⟩ := so.at_ hlt2
      have hma := List.mem_of_getElem? ha
      refine idx j rfl hlt2 ?_
      refine fldA ?_
      refine ld (iv a.litres) (hc 3 _ rfl) ?_
      refine cD (fun h4 => ?_) (fun h4 => ?_)
      · exact ret2 (.slice none 0 0) (iv 460) rfl rfl ⟨x0u, none, 0, 0, [], 460, rfl, .nil, .inr ⟨hpe, .inl ⟨rfl, rfl, a.ti, a.litres, ((hmem a).1 hma).1, by omega⟩⟩⟩
      refine arI (by omega) ?_
      refine next (j + 1) ⟨by rw [Int.natCast_add]; rfl, trivial⟩ ⟨by omega, rfl, fun e he => ?_⟩ (by omega)
      rw [List.take_add_one, ha, List.mem_append] at he
      rcases he with he | he
      · exact hle e he
      · simp at he; subst he; omega
    rw [List.take_of_length_le (by omega)] at hle
    have hle2 : ∀ t v, endG fr to hr litres got l t = some v → v ≤ 1073741824 := fun t v h => by
      by_cases q : v ≤ 1073741824
      · exact q
      · exact hle ⟨t.2.2.1, t.2.2.2, t.1, v, t.2.1⟩ ((hmem _).2 ⟨h, by show 0 < v; omega⟩)
    refine len ?_
    refine cD (fun h4 => ?_) (fun h4 => ?_)
    · exact ret2 (.slice none 0 0) (iv 2) rfl rfl ⟨x0u, none, 0, 0, [], 2, rfl, .nil, .inr ⟨hpe, .inr ⟨hle2, out, hnd, hmem, .inl ⟨by omega, rfl, rfl⟩⟩⟩⟩
    · exact ret2 (.slice N m cm) (iv 0) rfl rfl ⟨x0u, N, m, cm, out, 0, rfl, so, .inr ⟨hpe, .inr ⟨hle2, out, hnd, hmem, .inr ⟨by omega, rfl, rfl, hI.out.1⟩⟩⟩⟩
end
end Go.Proofs.Ytcpogcdadlcdaaa

/- Layer 46: HarmlessRetitleSpec. -/
namespace Go.Proofs.Ytcpogcdadlcdaaa
open Go Go.RowKit Classical

theorem RetR.uniq {fr to hr litres got : Int} {l x y : List Cm} {e f : Int} (h : RetR fr to hr litres got l x e) (k : RetR fr to hr litres got l y f) : x = y ∧ e = f := by
  rcases h with ⟨h1, h2, h3⟩ | ⟨h1, h2⟩ <;> rcases k with ⟨k1, k2, k3⟩ | ⟨k1, k2⟩
  · exact ⟨h3.trans k3.symm, h2.trans k2.symm⟩
  · exact absurd k1 h1
  · exact absurd h1 k1
  rcases h2 with ⟨h2, h3, t, n, h4, h5⟩ | ⟨h2, a, ha, hm, h3⟩ <;> rcases k2 with ⟨k2, k3, t', n', k4, k5⟩ | ⟨k2, b, hb, km, k3⟩
  · exact ⟨h3.trans k3.symm, h2.trans k2.symm⟩
  · have := k2 t n h4; omega
  · have := h2 t' n' k4; omega
  have hmm : ∀ c, c ∈ a ↔ c ∈ b := fun c => (hm c).trans (km c).symm
  have an : a.Nodup := List.Pairwise.of_map (S := fun a b => a ≠ b) Cm.ti (fun a b h e => h (by rw [e])) ha
  have bn : b.Nodup := List.Pairwise.of_map (S := fun a b => a ≠ b) Cm.ti (fun a b h e => h (by rw [e])) hb
  have l1 := nodup_le an fun c hc => (hmm c).1 hc
  have l2 := nodup_le bn fun c hc => (hmm c).2 hc
  rcases h3 with ⟨h3, h4, h5⟩ | ⟨h3, h4, h5, h6⟩ <;> rcases k3 with ⟨k3, k4, k5⟩ | ⟨k3, k4, k5, k6⟩
  · exact ⟨h5.trans k5.symm, h4.trans k4.symm⟩
  · omega
  · omega
  · exact ⟨by rw [h5, k5]; exact sorted_uniq h6 k6 hmm, h4.trans k4.symm⟩
section
variable {D : Nat → Prop} {w : World}
set_option maxRecDepth 8000 in
theorem c_HarmlessRetitleSpec {l : List Cm} {fr to hr litres got : Int} {A : Option Addr} {n c : Nat} (hl : SlR tCm D w A n l) : CallZ Try.prog 3 #[.slice A n c, iv fr, iv to, iv hr, iv litres, iv got] w (fun v w' => v = .bool true ∧ Ext w w') := by
  have hl := hl.more (D' := fun _ => True) (by decide) fun _ _ _ => trivial
  refine fn_rule (args := [.slice A n c, iv fr, iv to, iv hr, iv litres, iv got]) Try.func3 (by kernel_rfl) ?_
  refine call_of (c_hsane) ?_
  rintro _ w2 ⟨rfl, x2⟩
  refine len ?_
  refine cD (fun g1 => ?_) (fun g1 => ?_)
  · refine len ?_
    refine cD (fun g2 => ?_) (fun g2 => ?_)
    · exact ret1 (.bool true) rfl ⟨rfl, x2⟩
    refine len ?_
    refine cD (fun g3 => ?_) (fun g3 => ?_)
    · exact ret1 (.bool true) rfl ⟨rfl, x2⟩
    refine call_of (c_hRet (fr := fr) (to := to) (hr := hr) (litres := litres) (got := got) (hl.ext x2)) ?_
    rintro _ w3 ⟨x3, B1, m1, k1, x, e, rfl, s1, -, r1⟩
    refine call_of (c_h46Ret (fr := fr) (to := to) (hr := hr) (litres := litres) (got := got) ((hl.ext x2).ext x3)) ?_
    rintro _ w4 ⟨x4, B2, m2, k2, y, f, rfl, s2, r2⟩
    obtain ⟨rfl, rfl⟩ := r1.uniq r2
    refine callB (c_Same26 (D := fun _ => True) ((s1.more (by decide) fun _ _ _ => trivial).ext x4) s2) (fun _ => ?_) (fun h => absurd (of_decide_eq_false h) (fun h => h rfl))
    refine cE (fun _ => ?_) (fun h => absurd rfl h)
    exact ret1 (.bool true) rfl ⟨rfl, (x2.trans x3).trans x4⟩
  · refine call_of (c_hRet (fr := fr) (to := to) (hr := hr) (litres := litres) (got := got) (hl.ext x2)) ?_
    rintro _ w3 ⟨x3, B1, m1, k1, x, e, rfl, s1, -, r1⟩
    refine call_of (c_h46Ret (fr := fr) (to := to) (hr := hr) (litres := litres) (got := got) ((hl.ext x2).ext x3)) ?_
    rintro _ w4 ⟨x4, B2, m2, k2, y, f, rfl, s2, r2⟩
    obtain ⟨rfl, rfl⟩ := r1.uniq r2
    refine callB (c_Same26 (D := fun _ => True) ((s1.more (by decide) fun _ _ _ => trivial).ext x4) s2) (fun _ => ?_) (fun h => absurd (of_decide_eq_false h) (fun h => h rfl))
    refine cE (fun _ => ?_) (fun h => absurd rfl h)
    exact ret1 (.bool true) rfl ⟨rfl, (x2.trans x3).trans x4⟩
end
end Go.Proofs.Ytcpogcdadlcdaaa

/- Closing: what claims that are handed in read as. -/
namespace Go.Proofs.Ytcpogcdadlcdaaa
open Go Go.RowKit Go.ChangeShapes Go.WideShapes Go.ChangeAt

theorem rd_claim : Rd Try.prog 60 tCm := by
  refine Rd.of (fun y : Int × Int × Int × Int × Int => (⟨y.1, y.2.1, y.2.2.1, y.2.2.2.1, y.2.2.2.2⟩ : Cm))
    (Rd.struct Try.underlying60 (by kernel_rfl) fun n => .cons (rdAt Try.prog 3 tInt n) rfl (.cons (rdAt Try.prog 3 tInt n) rfl (.cons (rdAt Try.prog 3 tInt n) rfl (.cons (rdAt Try.prog 3 tInt n) rfl (.one (rdAt Try.prog 3 tInt n) rfl))))) ?_
  rintro W cs ⟨a, b, c, d, e⟩ ⟨_, _, rfl, ⟨rfl, -⟩, _, _, rfl, ⟨rfl, -⟩, _, _, rfl, ⟨rfl, -⟩, _, _, rfl, ⟨rfl, -⟩, ⟨rfl, -⟩⟩
  rfl
instance : Rd Try.prog 60 tCm := rd_claim
theorem rd_claims : Rd Try.prog 22 (tSl tCm) := inferInstance
end Go.Proofs.Ytcpogcdadlcdaaa
