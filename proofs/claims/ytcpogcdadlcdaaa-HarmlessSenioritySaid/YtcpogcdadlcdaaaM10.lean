/- Parts of the proof: K2 K3 K4 K5 K6 K7 K8 K9. -/
import Derived.Test.YtcpogcdadlcdaaaM9
import Derived.Test.YtcpogcdadlcdaaaM6

/- Layer 46: the reference's Claims. -/
namespace Go.Proofs.Ytcpogcdadlcdaaa
open Go Go.RowKit Classical

section
variable {D : Nat → Prop} {w : World}
set_option maxRecDepth 4000 in
theorem c_h46Claims {l : List Cm} {A : Option Addr} {n c : Nat} (hl : SlR tCm D w A n l) : CallZ Try.prog 24 #[.slice A n c] w (fun v w' => v = .bool (decide (ClaimsOk l)) ∧ Ext w w') := by
  have hl := hl.more (D' := fun _ => True) (by decide) fun _ _ _ => trivial
  have hlen := hl.len
  have hle := hl.le
  refine fn_rule (args := [.slice A n c]) Try.func24 (by kernel_rfl) ?_
  refine loop_rule (fun k : Nat => [(3, iv (k : Int))]) (fun k u => k ≤ n ∧ Ext w u ∧ ClaimsOk (l.take k)) (fun k _ => n - k) 0 ⟨rfl, trivial⟩ ⟨by omega, .refl _ _, ⟨fun c hc => (by cases hc), .nil⟩⟩ rfl ?_
  rintro G k u ⟨hk, xu, hok⟩
  refine len ?_
  refine cD (fun hlt => ?_) (fun hge => ?_)
  · have hlt : k < n := by omega
    have hlu := hl.ext xu
    obtain ⟨b, o, cs, m, hA, hm, -, -, hc, rfl⟩ := hlu.at_ hlt
    have htk : l.take (k + 1) = l.take k ++ [m] := by rw [List.take_add_one, hm]; rfl
    have hsn : ClaimsOk l → claimB m = true ∧ ∀ b, (l.take k).getLast? = some b → ltT b.ti m.ti := fun h => by
      have := h.take (k + 1)
      rw [htk, claims_snoc] at this
      exact this.2
    have no : ¬ ClaimsOk l → Value.bool false = .bool (decide (ClaimsOk l)) := fun h => by rw [decide_eq_false h]
    subst hA
    refine drawP (.take 0 (.take 1 (.take 2 (.take 3 (.eff 4 (.take 5 (.take 6 (.take 7 (.take 8 (.take 9 (.take 10 (.take 11 (.take 12 (.take 13 (.take 14 (.take 15 (.take 16 (.take 17 (.take 18 (.eff 19 (.take 20 (.take 21 (.take 22 .done))))))))))))))))))))))) [] (fun y => Ext u y) mx (by kernel_rfl) (.refl _ _) ?_
    refine idx k rfl hlt ?_
    refine ldAK (encJ m) hc rfl trivial (.refl _ _) ?_
    refine call_of (c_h46claim (x := m)) ?_
    rintro _ u1 ⟨rfl, xu1⟩
    refine strS xu1 ?_
    cases hq : claimB m with
    | false =>
      refine strS xu1 ?_
      exact ret1 (.bool false) rfl ⟨no fun h => (by have := (hsn h).1; rw [hq] at this; cases this), xu.trans xu1⟩
    | true =>
      refine cD (fun hk0 => ?_) (fun hk0 => ?_)
      · obtain ⟨k1, hk1⟩ : ∃ j, k = j + 1 := ⟨k - 1, by omega⟩
        obtain ⟨bp, op, csp, mp, hA, hmp, -, -, hcp, rfl⟩ := hlu.at_ (k := k1) (by omega)
        injection hA with hA
        injection hA with hA1 hA2
        subst hA1; subst hA2
        have hlast : (l.take k).getLast? = some mp := by rw [hk1, List.take_add_one, hmp]; simp
        refine arI (by omega) ?_
        rw [show (k : Int) - 1 = (k1 : Int) by omega]
        refine idx k1 rfl (by omega) ?_
        refine ldAK (encJ mp) hcp rfl trivial (.refl _ _) ?_
        refine idx k rfl hlt ?_
        refine ldAK (encJ m) hc rfl trivial (.refl _ _) ?_
        refine call_of (c_r26Before (x := mp) (y := m)) ?_
        rintro _ u2 ⟨rfl, xu2⟩
        have x2 := xu1.trans xu2
        refine strS x2 ?_
        by_cases q : ltT mp.ti m.ti
        · rw [decide_eq_true q]
          refine arI (by omega) ?_
          refine next (k + 1) ⟨by rw [Int.natCast_add]; rfl, trivial⟩ ⟨by omega, xu.trans x2, ?_⟩ (by omega)
          rw [htk, claims_snoc]
          exact ⟨hok, hq, fun b hb => by rw [hlast] at hb; injection hb with hb; subst hb; exact q⟩
        · rw [decide_eq_false q]
          exact ret1 (.bool false) rfl ⟨no fun h => q ((hsn h).2 mp hlast), xu.trans x2⟩
      · refine strS xu1 ?_
        refine arI (by omega) ?_
        have hkz : k = 0 := by omega
        refine next (k + 1) ⟨by rw [Int.natCast_add]; rfl, trivial⟩ ⟨by omega, xu.trans xu1, ?_⟩ (by omega)
        rw [htk, claims_snoc]
        exact ⟨hok, hq, fun b hb => by rw [hkz] at hb; cases hb⟩
  · rw [List.take_of_length_le (by omega)] at hok
    exact ret1 (.bool true) rfl ⟨by rw [decide_eq_true hok], xu⟩
end
end Go.Proofs.Ytcpogcdadlcdaaa

/- Layer 46: the reference's add. -/
namespace Go.Proofs.Ytcpogcdadlcdaaa
open Go Go.RowKit Classical

theorem flatM_eq {D : Nat → Prop} {w : World} : ∀ {xs : List Cm} {cs : List Value}, FlatR tCm D w xs cs → cs = xs.flatMap encJ
  | [], cs, h => h
  | x :: xs, cs, h => by
    obtain ⟨a, b, rfl, ha, hb⟩ := h
    rw [List.flatMap_cons, ← flatM_eq hb]
    rw [show a = encJ x from ha]
theorem srcM {D : Nat → Prop} {w : World} {A : Option Addr} {n : Nat} {xs : List Cm} (h : SlR tCm D w A n xs) : Src w A n 5 (xs.flatMap encJ) := by
  have hl := h.len
  refine ⟨by rw [encJ_len, hl], fun hn0 => ?_⟩
  obtain ⟨b, o, cs, x, rfl, _⟩ := h.at_ hn0
  obtain ⟨cs2, hf, hc⟩ := h.cells
  refine ⟨b, o, rfl, ?_⟩
  rw [← flatM_eq hf]; exact hc
theorem one_cells {xs : List Cm} : ((xs.flatMap encJ).all fun u => u.oneCell') = true := List.all_eq_true.2 fun u hu => by
  obtain ⟨x, -, hx⟩ := List.mem_flatMap.1 hu
  simp only [List.mem_cons, List.not_mem_nil, or_false] at hx
  rcases hx with rfl | rfl | rfl | rfl | rfl <;> rfl
theorem srcOf5m {w : World} {g : Nat} {t : TypeId} {cs : List Value} (h : Blk w g t cs) (hl : cs.length = 5 := by rfl) : Src w (some (ad g 0)) 1 5 cs := ⟨hl, fun _ => ⟨g, 0, rfl, fun j x hx => by rw [Nat.zero_add]; exact h.cell hx⟩⟩
theorem flat_of {D : Nat → Prop} {w : World} {xs : List Cm} {cs : List Value} (h : cs = xs.flatMap encJ) : FlatR tCm D w xs cs := by rw [h]; exact flat_cms
theorem set_flat {rest : List Value} {a : Cm} {v : Int} : ∀ {l : List Cm} {k : Nat}, l[k]? = some a → (l.flatMap encJ ++ rest).set (k * 5 + 3) (iv v) = (l.set k { a with litres := v }).flatMap encJ ++ rest
  | [], k, h => by simp at h
  | b :: l, 0, h => by
    simp at h
    subst h
    rfl
  | b :: l, k + 1, h => by
    have ih := set_flat (rest := rest) (a := a) (v := v) (l := l) (k := k) (by simpa using h)
    rw [List.flatMap_cons, List.append_assoc, List.set_append_right _ _ (by show 5 ≤ _; omega), show (k + 1) * 5 + 3 - (encJ b).length = k * 5 + 3 by show (k + 1) * 5 + 3 - 5 = _; omega, ih, List.set_cons_succ, List.flatMap_cons, List.append_assoc]
section
variable {w : World}
set_option maxRecDepth 8000 in
set_option maxHeartbeats 2000000 in
theorem c_h46add {l : List Cm} {x : Cm} {A : Option Addr} {n c : Nat} (hl : SlR tCm (fun _ => True) w A n l) (hnc : n ≤ c) (hn : n ≤ 8192) (hx : 0 ≤ x.litres ∧ x.litres ≤ 35184372088832) (hb : ∀ a ∈ l, 0 ≤ a.litres ∧ a.litres ≤ 35184372088832) :
    CallZ Try.prog 27 #[.slice A n c, .agg (encJ x).toArray] w (fun v w' => Ext w w' ∧ ∃ A' n' c', v = .slice A' n' c' ∧ n' ≤ c' ∧ SlR tCm (fun _ => True) w' A' n' (if x.litres = 0 then l else insT l x)) := by
  have hlen := hl.len
  refine fn_rule (args := [.slice A n c, .agg (encJ x).toArray]) Try.func27 (by kernel_rfl) ?_
  refine box (fun b3 w1 h1 => ?_)
  have B3 : Blk w1 b3 60 (encJ x) := h1.blk
  refine fldA ?_
  refine ld (iv x.litres) (B3.cell rfl) ?_
  refine cE (fun hx0 => ?_) (fun hx0 => ?_)
  · exact ret1 (.slice A n c) rfl ⟨h1.ext, A, n, c, rfl, hnc, by rw [if_pos hx0]; exact hl.ext h1.ext⟩
  refine loop_rule (fun k : Nat => [(5, iv (k : Int))]) (fun k u => k ≤ n ∧ Ext w1 u ∧ ∀ j a, j < k → l[j]? = some a → ltT a.ti x.ti) (fun k _ => n - k) 0 ⟨rfl, trivial⟩ ⟨by omega, .refl _ _, fun j a h => by omega⟩ rfl ?_
  rintro G k u ⟨hk, xu, hlow⟩
  have x0u := h1.ext.trans xu
  have hlu0 := hl.ext x0u
  have B30 := B3.ext xu
  refine drawP (.take 0 (.take 1 (.take 2 (.take 3 (.take 4 (.take 5 (.take 6 (.take 7 (.take 8 (.take 9 (.eff 10 (.take 11 .done)))))))))))) [] (fun y => Ext u y) mx (by kernel_rfl) (.refl _ _) ?_
  refine len ?_
  refine cD (fun hlt => ?_) (fun hge => ?_)
  · have hlt : k < n := by omega
    obtain ⟨b, o, cs, a, rfl, ha, -, -, hc, rfl⟩ := hlu0.at_ hlt
    refine idx k rfl hlt ?_
    refine ldAK (encJ a) hc rfl trivial (.refl _ _) ?_
    refine ldAK (encJ x) (.blk B30) rfl trivial (.refl _ _) ?_
    refine call_of (c_r26Before (x := a) (y := x)) ?_
    rintro _ u2 ⟨rfl, xu2⟩
    refine strS xu2 ?_
    by_cases q : ltT a.ti x.ti
    · rw [decide_eq_true q]
      refine arI (by omega) ?_
      refine next (k + 1) ⟨by rw [Int.natCast_add]; rfl, trivial⟩ ⟨by omega, xu.trans xu2, fun j e hj he => ?_⟩ (by omega)
      by_cases ej : j = k
      · subst ej; rw [ha] at he; injection he with he; subst he; exact q
      · exact hlow j e (by omega) he
    · rw [decide_eq_false q]
      have hat := insT_at (l := l) (x := x) (i := k) (by omega) hlow (fun e he => by rw [ha] at he; injection he with he; subst he; exact q)
      rw [ha] at hat
      change insT l x = if ltT x.ti a.ti then l.take k ++ x :: l.drop k else l.set k (a.more x.litres) at hat
      have B32 := B30.ext xu2
      have hc2 := hc.kept xu2 trivial
      refine drawP (.take 0 (.take 1 (.take 2 (.take 3 (.take 4 (.take 5 (.take 6 (.take 7 (.take 8 (.take 9 (.eff 10 (.take 11 (.take 12 .done))))))))))))) [] (fun y => Ext u2 y) mx (by kernel_rfl) (.refl _ _) ?_
      refine len ?_
      refine cD (fun _ => ?_) (fun h => absurd (by omega) h)
      refine ldAK (encJ x) (.blk B32) rfl trivial (.refl _ _) ?_
      refine idx k rfl hlt ?_
      refine ldAK (encJ a) hc2 rfl trivial (.refl _ _) ?_
      refine call_of (c_r26Before (x := x) (y := a)) ?_
      rintro _ u3 ⟨rfl, xu3⟩
      refine strS xu3 ?_
      have x13 := (xu.trans xu2).trans xu3
      have x03 := h1.ext.trans x13
      by_cases q2 : ltT x.ti a.ti
      · rw [decide_eq_true q2]
        rw [if_pos q2] at hat
        have hlu := hl.ext x03
        have B3u := B3.ext x13
        refine drawP (.take 1 (.take 2 (.take 3 (.take 5 (.take 8 (.take 9 (.take 10 (.alt 0 (.alt 4 (.eff 6 (.eff 7 (.eff 11 (.take 12 .done)))) (.eff 6 (.eff 4 (.eff 7 (.eff 11 (.take 12 .done)))))) (.eff 6 (.eff 0 (.eff 4 (.eff 7 (.eff 11 (.take 12 .done)))))))))))))) [] (fun z => Ext u3 z) mx (by kernel_rfl) (.refl _ _) ?_
        refine slcR 0 k hlu hnc rfl rfl (by omega) (by omega) rfl (fun S1 hS1 => ?_)
        refine ldAK (encJ x) (.blk B3u) rfl trivial (.refl _ _) ?_
        refine slcR k n hlu hnc rfl rfl (by omega) (by omega) rfl (fun S2 hS2 => ?_)
        refine ⟨?yla, ?yra⟩
        case' yla =>
          refine lit [] (fun g0 u1 h0 => ?_)
          have o0 : OwnF u3 u1 (some (ad g0 0)) 0 0 60 5 [] := OwnF.lit (cs := []) (.refl _ _) h0 rfl
          refine strS o0.ext ?_
          refine ⟨?ylla, ?ylra⟩
        case' ylla =>
          refine appF o0 (srcM (hS1 _ _ (hlu.ext o0.ext))) (by omega) (fun F1 d1 u2 p1 _ _ => ?_) (h1 := one_cells)
          refine strS p1.ext ?_
          refine lit [.agg (encJ x).toArray] (fun g1 u3 hq => ?_)
          have p1 := p1.then hq.ext
          refine strS p1.ext ?_
          refine appF p1 (hq.src (sz := 5) rfl) (by omega) (fun F2 d2 u4 p2 _ _ => ?_)
          refine strS p2.ext ?_
          refine appF p2 (srcM (hS2 _ _ (hlu.ext p2.ext))) (by omega) (fun F3 d3 u5 p3 _ _ => ?_) (h1 := one_cells)
          refine strS p3.ext ?_
        case' ylra =>
          refine lit [.agg (encJ x).toArray] (fun g1 u2 hq => ?_)
          have o0 := o0.then hq.ext
          have n1 := hq.at_
          refine strS o0.ext ?_
          refine appF o0 (srcM (hS1 _ _ (hlu.ext o0.ext))) (by omega) (fun F1 d1 u3 p1 k1 _ => ?_) (h1 := one_cells)
          have bx := hq.blk.kept k1 (show some (ad g0 0) ≠ some (ad g1 0) from fun h => by injection h with h; injection h with h; have := h0.blk.lt; omega)
          refine strS p1.ext ?_
          refine appF p1 (srcOf5m bx) (by omega) (fun F2 d2 u4 p2 _ _ => ?_)
          refine strS p2.ext ?_
          refine appF p2 (srcM (hS2 _ _ (hlu.ext p2.ext))) (by omega) (fun F3 d3 u5 p3 _ _ => ?_) (h1 := one_cells)
          refine strS p3.ext ?_
        case' yra =>
          refine lit [.agg (encJ x).toArray] (fun g1 u1 hq => ?_)
          refine strS hq.ext ?_
          refine lit [] (fun g0 u2 h0 => ?_)
          have o0 : OwnF u3 u2 (some (ad g0 0)) 0 0 60 5 [] := OwnF.lit (cs := []) hq.ext h0 rfl
          refine strS o0.ext ?_
          refine appF o0 (srcM (hS1 _ _ (hlu.ext o0.ext))) (by omega) (fun F1 d1 u3 p1 k1 _ => ?_) (h1 := one_cells)
          have bx := (hq.blk.ext h0.ext).kept k1 (show some (ad g0 0) ≠ some (ad g1 0) from fun h => by injection h with h; injection h with h; have := hq.blk.lt; have := h0.at_; omega)
          refine strS p1.ext ?_
          refine appF p1 (srcOf5m bx) (by omega) (fun F2 d2 u4 p2 _ _ => ?_)
          refine strS p2.ext ?_
          refine appF p2 (srcM (hS2 _ _ (hlu.ext p2.ext))) (by omega) (fun F3 d3 u5 p3 _ _ => ?_) (h1 := one_cells)
          refine strS p3.ext ?_
        all_goals
          have ecs : ([] ++ ((l.take k).drop 0).flatMap encJ) ++ encJ x ++ ((l.take n).drop k).flatMap encJ = (insT l x).flatMap encJ := by
            rw [hat, List.flatMap_append, List.flatMap_cons, List.take_of_length_le (Nat.le_of_eq hlen), List.drop_zero, List.nil_append, List.append_assoc]
          have eln : 0 + (k - 0) + 1 + (n - k) = (insT l x).length := by
            rw [hat, List.length_append, List.length_cons, List.length_take, List.length_drop]; omega
          refine ret1 (.slice F3 (0 + (k - 0) + 1 + (n - k)) d3) rfl ⟨(x03).trans p3.ext, _, _, _, rfl, p3.le, ?_⟩
          rw [if_neg hx0]
          exact p3.own.rd (a := tCm) (xs := insT l x) (flat_of ecs) eln (by omega) fun _ _ => trivial
      · rw [decide_eq_false q2]
        rw [if_neg q2] at hat
        have hlu3 := hl.ext x03
        have B33 := B32.ext xu3
        refine lit [] (fun g0 v1 h0 => ?_)
        have o0 : OwnF u3 v1 (some (ad g0 0)) 0 0 60 5 [] := OwnF.lit (cs := []) (.refl _ _) h0 rfl
        refine appF o0 (srcM (hlu3.ext h0.ext)) (by omega) (fun F1 d1 v2 p1 _ _ => ?_) (h1 := one_cells)
        rcases p1.form with ⟨rfl, h, -⟩ | ⟨g, rfl, hg1, hg2, hc1⟩
        · omega
        obtain ⟨rest, Bq, hBl, -⟩ := p1.own.blk
        rw [List.nil_append] at Bq hBl
        have x3v := p1.ext
        have Bx := B33.ext x3v
        have hab := hb a (List.mem_of_getElem? ha)
        have hcell : v2.cell? (ad g (0 + k * 5 + 3)) = some (iv a.litres) := by
          rw [Nat.zero_add]
          refine Bq.cell ?_
          have hlt2 : k * 5 + 3 < (l.flatMap encJ).length := by rw [encJ_len]; omega
          rw [List.getElem?_append_left hlt2, encJ_at 3 ha (by omega)]; rfl
        refine drawP (.take 0 (.take 1 (.take 2 (.take 3 (.take 4 (.take 5 (.take 6 (.take 7 (.take 8 (.take 9 (.take 10 (.take 11 (.bar (.eff 12 .done)))))))))))))) [12] (fun y => Ext v2 y) mx (by kernel_rfl) (.refl _ _) ?_
        refine idx k rfl (by omega) ?_
        refine fldA ?_
        refine ldX (iv a.litres) hcell (.refl _ _) ?_
        refine fldA ?_
        refine ldX (iv x.litres) (Bx.cell rfl) (.refl _ _) ?_
        refine arI (by omega) ?_
        refine idx k rfl (by omega) ?_
        refine fldA ?_
        refine barS (fun _ => True) trivial ?_
        refine st (i := 0 + k * 5 + 3) (v := iv (a.litres + x.litres)) Bq (by rw [List.length_append, encJ_len]; omega) rfl (fun v3 Bq3 k3 z3 => ?_)
        refine strS trivial ?_
        have Bq3 : Blk v3 g 60 ((l.set k (a.more x.litres)).flatMap encJ ++ rest) := by have e := set_flat (rest := rest) (v := a.litres + x.litres) ha; rw [Nat.zero_add] at Bq3; change _ = (l.set k (a.more x.litres)).flatMap encJ ++ rest at e; rw [← e]; exact Bq3
        refine ret1 (.slice (some (ad g 0)) (0 + n) d1) rfl ⟨(x03.trans x3v).then k3 fun b hb _ e => ?_, _, _, _, rfl, hc1, ?_⟩
        · have := x03.size
          omega
        · rw [if_neg hx0, hat]
          exact SlR.of_cells (cs := (l.set k (a.more x.litres)).flatMap encJ) (by rw [List.length_set]; omega) (by omega) trivial (fun j v hv => by rw [Nat.zero_add]; exact Bq3.cell (by rw [List.getElem?_append_left (List.getElem?_eq_some_iff.1 hv).1]; exact hv)) flat_cms
  · have hkn : k = n := by omega
    have hat := insT_at (l := l) (x := x) (i := k) (by omega) hlow (fun e he => by rw [List.getElem?_eq_none (by omega)] at he; cases he)
    rw [List.getElem?_eq_none (by omega)] at hat
    change insT l x = l.take k ++ x :: l.drop k at hat
    refine strS (.refl _ _) ?_
    refine drawP (.take 0 (.take 1 (.take 2 (.take 3 (.take 4 (.take 5 (.take 6 (.take 7 (.take 8 (.take 9 (.eff 10 (.take 11 (.take 12 .done))))))))))))) [] (fun y => Ext u y) mx (by kernel_rfl) (.refl _ _) ?_
    refine len ?_
    refine cD (fun h => absurd h (by omega)) (fun _ => ?_)
    refine strS (.refl _ _) ?_
    have hlu := hl.ext x0u
    have B3u := B3.ext xu
    refine drawP (.take 1 (.take 2 (.take 3 (.take 5 (.take 8 (.take 9 (.take 10 (.alt 0 (.alt 4 (.eff 6 (.eff 7 (.eff 11 (.take 12 .done)))) (.eff 6 (.eff 4 (.eff 7 (.eff 11 (.take 12 .done)))))) (.eff 6 (.eff 0 (.eff 4 (.eff 7 (.eff 11 (.take 12 .done)))))))))))))) [] (fun z => Ext u z) mx (by kernel_rfl) (.refl _ _) ?_
    refine slcR 0 k hlu hnc rfl rfl (by omega) (by omega) rfl (fun S1 hS1 => ?_)
    refine ldAK (encJ x) (.blk B3u) rfl trivial (.refl _ _) ?_
    refine slcR k n hlu hnc rfl rfl (by omega) (by omega) rfl (fun S2 hS2 => ?_)
    refine ⟨?ylb, ?yrb⟩
    case' ylb =>
      refine lit [] (fun g0 u1 h0 => ?_)
      have o0 : OwnF u u1 (some (ad g0 0)) 0 0 60 5 [] := OwnF.lit (cs := []) (.refl _ _) h0 rfl
      refine strS o0.ext ?_
      refine ⟨?yllb, ?ylrb⟩
    case' yllb =>
      refine appF o0 (srcM (hS1 _ _ (hlu.ext o0.ext))) (by omega) (fun F1 d1 u2 p1 _ _ => ?_) (h1 := one_cells)
      refine strS p1.ext ?_
      refine lit [.agg (encJ x).toArray] (fun g1 u3 hq => ?_)
      have p1 := p1.then hq.ext
      refine strS p1.ext ?_
      refine appF p1 (hq.src (sz := 5) rfl) (by omega) (fun F2 d2 u4 p2 _ _ => ?_)
      refine strS p2.ext ?_
      refine appF p2 (srcM (hS2 _ _ (hlu.ext p2.ext))) (by omega) (fun F3 d3 u5 p3 _ _ => ?_) (h1 := one_cells)
      refine strS p3.ext ?_
    case' ylrb =>
      refine lit [.agg (encJ x).toArray] (fun g1 u2 hq => ?_)
      have o0 := o0.then hq.ext
      have n1 := hq.at_
      refine strS o0.ext ?_
      refine appF o0 (srcM (hS1 _ _ (hlu.ext o0.ext))) (by omega) (fun F1 d1 u3 p1 k1 _ => ?_) (h1 := one_cells)
      have bx := hq.blk.kept k1 (show some (ad g0 0) ≠ some (ad g1 0) from fun h => by injection h with h; injection h with h; have := h0.blk.lt; omega)
      refine strS p1.ext ?_
      refine appF p1 (srcOf5m bx) (by omega) (fun F2 d2 u4 p2 _ _ => ?_)
      refine strS p2.ext ?_
      refine appF p2 (srcM (hS2 _ _ (hlu.ext p2.ext))) (by omega) (fun F3 d3 u5 p3 _ _ => ?_) (h1 := one_cells)
      refine strS p3.ext ?_
    case' yrb =>
      refine lit [.agg (encJ x).toArray] (fun g1 u1 hq => ?_)
      refine strS hq.ext ?_
      refine lit [] (fun g0 u2 h0 => ?_)
      have o0 : OwnF u u2 (some (ad g0 0)) 0 0 60 5 [] := OwnF.lit (cs := []) hq.ext h0 rfl
      refine strS o0.ext ?_
      refine appF o0 (srcM (hS1 _ _ (hlu.ext o0.ext))) (by omega) (fun F1 d1 u3 p1 k1 _ => ?_) (h1 := one_cells)
      have bx := (hq.blk.ext h0.ext).kept k1 (show some (ad g0 0) ≠ some (ad g1 0) from fun h => by injection h with h; injection h with h; have := hq.blk.lt; have := h0.at_; omega)
      refine strS p1.ext ?_
      refine appF p1 (srcOf5m bx) (by omega) (fun F2 d2 u4 p2 _ _ => ?_)
      refine strS p2.ext ?_
      refine appF p2 (srcM (hS2 _ _ (hlu.ext p2.ext))) (by omega) (fun F3 d3 u5 p3 _ _ => ?_) (h1 := one_cells)
      refine strS p3.ext ?_
    all_goals
      have ecs : ([] ++ ((l.take k).drop 0).flatMap encJ) ++ encJ x ++ ((l.take n).drop k).flatMap encJ = (insT l x).flatMap encJ := by
        rw [hat, List.flatMap_append, List.flatMap_cons, List.take_of_length_le (Nat.le_of_eq hlen), List.drop_zero, List.nil_append, List.append_assoc]
      have eln : 0 + (k - 0) + 1 + (n - k) = (insT l x).length := by
        rw [hat, List.length_append, List.length_cons, List.length_take, List.length_drop]; omega
      refine ret1 (.slice F3 (0 + (k - 0) + 1 + (n - k)) d3) rfl ⟨(x0u).trans p3.ext, _, _, _, rfl, p3.le, ?_⟩
      rw [if_neg hx0]
      exact p3.own.rd (a := tCm) (xs := insT l x) (flat_of ecs) eln (by omega) fun _ _ => trivial
end
end Go.Proofs.Ytcpogcdadlcdaaa

/- Layer 46: the reference's Retitle, plainly: what it has after each claim. -/
namespace Go.Proofs.Ytcpogcdadlcdaaa
open Go Go.RowKit Classical

/-- The litres of a title among claims. -/
noncomputable def sumT (l : List Cm) (t : Ti) : Int := (l.map fun c => if c.ti = t then c.litres else 0).sum
theorem sumT_snoc {l : List Cm} {c : Cm} {t : Ti} : sumT (l ++ [c]) t = sumT l t + if c.ti = t then c.litres else 0 := by unfold sumT; simp
theorem sumT_none {l : List Cm} {t : Ti} (h : ∀ c ∈ l, c.ti ≠ t) : sumT l t = 0 := by
  induction l with
  | nil => rfl
  | cons a l ih =>
    have h1 := h a List.mem_cons_self
    have h2 := ih fun c hc => h c (List.mem_cons_of_mem _ hc)
    unfold sumT at *
    rw [List.map_cons, List.sum_cons, if_neg h1, h2]; rfl
theorem allG_sum {l : List Cm} : ∀ (k : Nat), k ≤ l.length → (l.map Cm.ti).Nodup → ∀ t, (allG (l.take k) t).getD 0 = sumT (l.take k) t := by
  intro k
  induction k with
  | zero => intro _ _ t; rfl
  | succ k ih =>
    intro hk hn t
    have hk' : k < l.length := by omega
    have htk : l.take (k + 1) = l.take k ++ [l[k]] := by rw [List.take_add_one, List.getElem?_eq_getElem hk']; rfl
    have ih := ih (by omega) hn t
    rw [htk, allG_snoc, sumT_snoc]
    unfold iset
    by_cases q : t = l[k].ti
    · rw [if_pos q, if_pos q.symm]
      have hn2 := hn.sublist ((List.take_sublist (k + 1) l).map Cm.ti)
      rw [htk, List.map_append, List.nodup_append] at hn2
      rw [sumT_none fun c hc e => hn2.2.2 c.ti (List.mem_map_of_mem hc) l[k].ti (by simp) (e.trans q), Int.zero_add]
      rfl
    · rw [if_neg q, if_neg (fun h => q h.symm), Int.add_zero]; exact ih
/-- What is left of a claim, and what comes of it. -/
def leftC (s litres : Int) (c : Cm) : Cm := { c with litres := c.litres - min c.litres (litres - s) }
def gainC (s to litres got : Int) (c : Cm) : Cm := { c with farm := to, litres := (s + min c.litres (litres - s)) * got / litres - s * got / litres }
/-- The invariant of the reference. -/
structure RefI (fr to hr litres got : Int) (l : List Cm) (i : Nat) (out : List Cm) (O : Ti → Int) : Prop where
  out : OutR out O
  pos : ∀ t, 0 ≤ O t
  eq : ∀ t, ((backG fr to hr litres got l i).2 t).getD 0 = O t + sumT (l.take i) t
theorem RefI.start {fr to hr litres got : Int} {l : List Cm} (h : ClaimsOk l) : RefI fr to hr litres got l l.length [] fun _ => 0 := by
  refine ⟨OutR.nil, fun _ => Int.le_refl _, fun t => ?_⟩
  have := allG_sum l.length (Nat.le_refl _) h.nodup t
  rw [List.take_length] at this ⊢
  unfold backG
  rw [List.drop_length, Int.zero_add]
  exact this
theorem insR {out : List Cm} {O : Ti → Int} {x : Cm} (h : OutR out O) (h0 : ∀ t, 0 ≤ O t) (hx : 0 ≤ x.litres) : OutR (if x.litres = 0 then out else insT out x) (fun t => O t + if t = x.ti then x.litres else 0) ∧ ∀ t, 0 ≤ O t + if t = x.ti then x.litres else 0 := by
  constructor
  · by_cases q : x.litres = 0
    · rw [if_pos q]
      have : (fun t => O t + if t = x.ti then x.litres else 0) = O := by funext t; rw [q]; split <;> omega
      rw [this]; exact h
    · rw [if_neg q]; exact h.ins h0 (by omega)
  · intro t
    have := h0 t
    split <;> omega
theorem RefI.skip {fr to hr litres got : Int} {l out : List Cm} {O : Ti → Int} {i : Nat} {c : Cm} (h : RefI fr to hr litres got l (i + 1) out O) (hc : l[i]? = some c) (hb : claimB c = true) (q : ¬ (c.farm = fr ∧ c.hour = hr)) :
    RefI fr to hr litres got l i (if c.litres = 0 then out else insT out c) fun t => O t + if t = c.ti then c.litres else 0 := by
  have hcb := claimB_iff.1 hb
  obtain ⟨a1, a2⟩ := insR (x := c) h.out h.pos (by omega)
  refine ⟨a1, a2, fun t => ?_⟩
  have htk : l.take (i + 1) = l.take i ++ [c] := by rw [List.take_add_one, hc]; rfl
  have := h.eq t
  rw [htk, sumT_snoc] at this
  rw [backG_step hc]
  unfold bstep
  rw [if_neg q, this]
  by_cases e : t = c.ti
  · rw [if_pos e, if_pos e.symm]; omega
  · rw [if_neg e, if_neg fun h => e h.symm]; omega
theorem RefI.take {fr to hr litres got : Int} {l out : List Cm} {O : Ti → Int} {i : Nat} {c : Cm} (h : RefI fr to hr litres got l (i + 1) out O) (hc : l[i]? = some c) (hb : claimB c = true) (q : c.farm = fr ∧ c.hour = hr) (hne : fr ≠ to)
    (hs : 0 ≤ (backG fr to hr litres got l (i + 1)).1 ∧ (backG fr to hr litres got l (i + 1)).1 ≤ litres) (hl1 : 1 ≤ litres) (hg : 0 ≤ got) (hg2 : got ≤ 1073741824) {s : Int} (es : s = (backG fr to hr litres got l (i + 1)).1) :
    RefI fr to hr litres got l i (if (leftC s litres c).litres = 0 then (if (gainC s to litres got c).litres = 0 then out else insT out (gainC s to litres got c)) else insT (if (gainC s to litres got c).litres = 0 then out else insT out (gainC s to litres got c)) (leftC s litres c))
      fun t => (O t + if t = (gainC s to litres got c).ti then (gainC s to litres got c).litres else 0) + if t = (leftC s litres c).ti then (leftC s litres c).litres else 0 := by
  have hcb := claimB_iff.1 hb
  rw [← es] at hs
  have hgb := gain_b (a := s) (n := min c.litres (litres - s)) (got := got) (litres := litres) hs.1 (by omega) (by omega) hl1 hg hg2
  obtain ⟨a1, a2⟩ := insR (x := gainC s to litres got c) h.out h.pos hgb.1
  obtain ⟨b1, b2⟩ := insR (x := leftC s litres c) a1 a2 (by show 0 ≤ c.litres - min c.litres (litres - s); omega)
  refine ⟨b1, b2, fun t => ?_⟩
  have htk : l.take (i + 1) = l.take i ++ [c] := by rw [List.take_add_one, hc]; rfl
  have h1 := h.eq t
  have h2 := h.eq c.ti
  have h3 := h.eq (c.hour, c.rank, c.right, to)
  rw [htk, sumT_snoc] at h1 h2 h3
  rw [if_pos rfl] at h2
  have ne : ¬ c.ti = (c.hour, c.rank, c.right, to) := fun e => by
    simp only [Cm.ti, Prod.mk.injEq] at e
    exact hne (q.1.symm.trans e.2.2.2)
  rw [if_neg ne, Int.add_zero] at h3
  have e1 : (gainC s to litres got c).ti = (c.hour, c.rank, c.right, to) := rfl
  have e2 : (leftC s litres c).ti = c.ti := rfl
  have e3 : (gainC s to litres got c).litres = (s + min c.litres (litres - s)) * got / litres - s * got / litres := rfl
  have e4 : (leftC s litres c).litres = c.litres - min c.litres (litres - s) := rfl
  rw [backG_step hc]
  unfold bstep
  rw [if_pos q, ← es, e1, e2, e3, e4]
  show (iset (iset _ _ _) _ _ t).getD 0 = _
  unfold iset
  by_cases p1 : t = (c.hour, c.rank, c.right, to)
  · subst p1
    have ne' : ¬ ((c.hour, c.rank, c.right, to) : Ti) = c.ti := fun e => ne e.symm
    rw [if_pos rfl, if_pos rfl, if_neg ne', if_neg ne', Option.getD_some, h3]
    omega
  · rw [if_neg p1, if_neg p1]
    by_cases p2 : t = c.ti
    · rw [if_pos p2, if_pos p2, Option.getD_some, h2, p2]
      omega
    · rw [if_neg p2, if_neg p2, h1, if_neg fun e => p2 e.symm]
      omega
end Go.Proofs.Ytcpogcdadlcdaaa

/- Layer 46: the reference's Retitle. -/
namespace Go.Proofs.Ytcpogcdadlcdaaa
open Go Go.RowKit Classical

theorem sumT_pos {l : List Cm} {t : Ti} (h : ∀ c ∈ l, 0 ≤ c.litres) : 0 ≤ sumT l t := by
  induction l with
  | nil => exact Int.le_refl _
  | cons a l ih =>
    have h1 := h a List.mem_cons_self
    have h2 := ih fun c hc => h c (List.mem_cons_of_mem _ hc)
    unfold sumT at *
    rw [List.map_cons, List.sum_cons]
    split <;> omega
theorem len_if {q : Prop} [Decidable q] {a b : List Cm} {n : Nat} (ha : a.length ≤ n) (hb : b.length ≤ n) : (if q then a else b).length ≤ n := by split <;> assumption
theorem len_insT {x : Cm} : ∀ {l : List Cm}, (insT l x).length ≤ l.length + 1
  | [] => Nat.le_refl _
  | a :: l => by
    have ih := len_insT (x := x) (l := l)
    unfold insT
    split
    · rw [List.length_cons, List.length_cons]; omega
    · split
      · rw [List.length_cons]; exact Nat.le_refl _
      · rw [List.length_cons, List.length_cons]; omega
section
variable {w : World}
set_option maxRecDepth 8000 in
set_option maxHeartbeats 4000000 in
theorem c_h46Ret {D : Nat → Prop} {A : Option Addr} {n c : Nat} {l : List Cm} {fr to hr litres got : Int} (hs : SlR tCm D w A n l) : CallZ Try.prog 9 #[.slice A n c, iv fr, iv to, iv hr, iv litres, iv got] w
    (fun v w' => Ext w w' ∧ ∃ B m cm x e, v = .tuple #[.slice B m cm, iv e] ∧ SlR tCm (fun _ => True) w' B m x ∧ RetR fr to hr litres got l x e) := by
  have hs := hs.more (D' := fun _ => True) (by decide) fun _ _ _ => trivial
  have hlen := hs.len
  refine fn_rule (args := [.slice A n c, iv fr, iv to, iv hr, iv litres, iv got]) Try.func9 (by kernel_rfl) ?_
  refine len ?_
  refine cD (fun g1 => ?_) (fun g1 => ?_)
  · exact ret2 (.slice none 0 0) (iv 2) rfl rfl ⟨.refl _ _, none, 0, 0, [], 2, rfl, .nil, .pre (by unfold preErr; rw [if_pos (by omega)]) (by decide)⟩
  have hn4 : n ≤ 4096 := by omega
  refine callE (c_h46Claims hs) (fun w1 hq x1 => ?_) (fun w1 hq x1 => ?_)
  rotate_left
  · exact ret2 (.slice none 0 0) (iv 460) rfl rfl ⟨x1, none, 0, 0, [], 460, rfl, .nil, .pre (preErr_bad (by omega) (of_decide_eq_false hq)) (by decide)⟩
  have hok := of_decide_eq_true hq
  have hs1 := hs.ext x1
  have arg : argB fr to hr litres got = true ↔ (0 ≤ fr ∧ fr < 600 ∧ 0 ≤ to ∧ to < 600 ∧ fr ≠ to) ∧ 0 ≤ hr ∧ hr < 4096 ∧ 1 ≤ litres ∧ litres ≤ 1073741824 ∧ 0 ≤ got ∧ got ≤ 1073741824 := by rw [argB_iff]; omega
  refine callB (c_h46farms (a := fr) (b := to) (m := 600)) (fun p1 => ?_) (fun p1 => ?_)
  rotate_left
  · exact ret2 (.slice none 0 0) (iv 1) rfl rfl ⟨x1, none, 0, 0, [], 1, rfl, .nil, .pre (preErr_arg (by omega) hok fun h => of_decide_eq_false p1 (arg.1 h).1) (by decide)⟩
  have p1 := of_decide_eq_true p1
  refine cD (fun p2 => ?_) (fun p2 => ?_)
  · exact ret2 (.slice none 0 0) (iv 1) rfl rfl ⟨x1, none, 0, 0, [], 1, rfl, .nil, .pre (preErr_arg (by omega) hok fun h => by have := arg.1 h; omega) (by decide)⟩
  refine cD (fun p3 => ?_) (fun p3 => ?_)
  · exact ret2 (.slice none 0 0) (iv 1) rfl rfl ⟨x1, none, 0, 0, [], 1, rfl, .nil, .pre (preErr_arg (by omega) hok fun h => by have := arg.1 h; omega) (by decide)⟩
  refine cD (fun p4 => ?_) (fun p4 => ?_)
  · exact ret2 (.slice none 0 0) (iv 1) rfl rfl ⟨x1, none, 0, 0, [], 1, rfl, .nil, .pre (preErr_arg (by omega) hok fun h => by have := arg.1 h; omega) (by decide)⟩
  refine cD (fun p5 => ?_) (fun p5 => ?_)
  · exact ret2 (.slice none 0 0) (iv 1) rfl rfl ⟨x1, none, 0, 0, [], 1, rfl, .nil, .pre (preErr_arg (by omega) hok fun h => by have := arg.1 h; omega) (by decide)⟩
  refine cD (fun p6 => ?_) (fun p6 => ?_)
  · exact ret2 (.slice none 0 0) (iv 1) rfl rfl ⟨x1, none, 0, 0, [], 1, rfl, .nil, .pre (preErr_arg (by omega) hok fun h => by have := arg.1 h; omega) (by decide)⟩
  refine cD (fun p7 => ?_) (fun p7 => ?_)
  · exact ret2 (.slice none 0 0) (iv 1) rfl rfl ⟨x1, none, 0, 0, [], 1, rfl, .nil, .pre (preErr_arg (by omega) hok fun h => by have := arg.1 h; omega) (by decide)⟩
  have harg := arg.2 ⟨p1, by omega, by omega, by omega, by omega, by omega, by omega⟩
  have hpe := preErr_has (fr := fr) (to := to) (hr := hr) (litres := litres) (got := got) (l := l) (by omega) hok harg
  refine call_of (c_h46has (fr := fr) (hr := hr) hs1 hok.1 (by omega)) ?_
  rintro _ w2 ⟨rfl, rfl⟩
  refine cD (fun p8 => ?_) (fun p8 => ?_)
  · exact ret2 (.slice none 0 0) (iv 460) rfl rfl ⟨x1, none, 0, 0, [], 460, rfl, .nil, .pre (by rw [hpe, if_pos p8]) (by decide)⟩
  rw [if_neg p8] at hpe
  refine len ?_
  refine arI (by omega) ?_
  refine loop_rule (fun s : Nat × (Option Addr × Nat × Nat) × (List Cm × (Ti → Int)) => [(14, .slice s.2.1.1 s.2.1.2.1 s.2.1.2.2), (15, iv (backG fr to hr litres got l s.1).1), (16, iv ((s.1 : Int) - 1))])
    (fun s u => s.1 ≤ n ∧ Ext w2 u ∧ s.2.1.2.1 ≤ s.2.1.2.2 ∧ SlR tCm (fun _ => True) u s.2.1.1 s.2.1.2.1 s.2.2.1 ∧ RefI fr to hr litres got l s.1 s.2.2.1 s.2.2.2 ∧ s.2.2.1.length ≤ 2 * (n - s.1)) (fun s _ => s.1)
    (n, (none, 0, 0), ([], fun _ => 0)) ⟨rfl, by show iv 0 = iv (backG fr to hr litres got l n).1; unfold backG; rw [List.drop_of_length_le (by omega)]; rfl, rfl, trivial⟩ ⟨Nat.le_refl _, .refl _ _, Nat.le_refl _, .nil, by rw [← hlen]; exact RefI.start hok, by simp⟩ rfl ?_
  rintro G ⟨k, ⟨N, m, cm⟩, out, O⟩ u ⟨hk, xu, hmc, so, hI, hol⟩
  have hk : k ≤ n := hk
  have xu : Ext w2 u := xu
  have hmc : m ≤ cm := hmc
  have so : SlR tCm (fun _ => True) u N m out := so
  have hI : RefI fr to hr litres got l k out O := hI
  have hol : out.length ≤ 2 * (n - k) := hol
  have lo := so.len
  have hm8 : m ≤ 8192 := by omega
  have x0u := x1.trans xu
  have hsu := hs.ext x0u
  refine cD (fun hge => ?_) (fun hlt => ?_)
  · obtain ⟨i, rfl⟩ : ∃ i, k = i + 1 := ⟨k - 1, by omega⟩
    have e : ((i + 1 : Nat) : Int) - 1 = (i : Int) := by omega
    rw [e]
    obtain ⟨b, o, cs, r, rfl, hri, -, -, hc, rfl⟩ := hsu.at_ (k := i) (by omega)
    have hcr := hok.1 r (List.mem_of_getElem? hri)
    have hcb := claimB_iff.1 hcr
    have hbd := back_b (fr := fr) (to := to) (hr := hr) (litres := litres) (got := got) hok.1 (by omega) (by omega) (by omega) (by omega) (k := n - (i + 1)) (by omega)
    rw [hlen, show n - (n - (i + 1)) = i + 1 by omega] at hbd
    have hO : ∀ t, O t ≤ 17600000000000 := fun t => by
      have h1 := hI.eq t
      have h2 := (getD_b hbd.2 (by omega) t).2
      have h3 := sumT_pos (l := l.take (i + 1)) (t := t) fun c hc => by have := claimB_iff.1 (hok.1 c (List.mem_of_mem_take hc)); omega
      omega
    have hbo : ∀ a ∈ out, 0 ≤ a.litres ∧ a.litres ≤ 35184372088832 := fun a ha => by
      obtain ⟨h1, h2⟩ := (hI.out.2 a).1 ha
      have := hO a.ti
      omega
    refine idx i rfl (by omega) ?_
    refine ldA (encJ r) hc rfl ?_
    refine alloc (fun b17 u1 q1 => ?_)
    refine stA (vs := encJ r) q1.blk rfl (Nat.le_of_ble_eq_true rfl) (by simp [Value.oneCell']) (fun u2 B17 k2 z2 => ?_)
    have B17 : Blk u2 b17 60 (encJ r) := B17
    have e17 := q1.at_
    have xu2 : Ext u u2 := q1.ext.then k2 fun b hb _ e => by omega
    obtain ⟨s, es⟩ : ∃ s, s = (backG fr to hr litres got l (i + 1)).1 := ⟨_, rfl⟩
    rw [← es]
    have hs01 := hbd.1
    rw [← es] at hs01
    have skip : ∀ q : ¬ (r.farm = fr ∧ r.hour = hr), s = (backG fr to hr litres got l i).1 := fun q => by
      rw [backG_step hri]; unfold bstep; rw [if_neg q]; exact es
    refine fldA ?_
    refine ld (iv r.farm) (B17.cell rfl) ?_
    refine cE (fun q1 => ?_) (fun q1 => ?_)
    rotate_left
    · refine ldA (encJ r) (.blk B17) rfl ?_
      refine call_of (c_h46add (so.ext xu2) hmc hm8 ⟨by omega, by omega⟩ hbo) ?_
      rintro _ u3 ⟨x3, N', m', cm', rfl, hmc', so'⟩
      have lo' := so'.len
      have li := len_insT (x := r) (l := out)
      refine arI (by omega) ?_
      refine next (i, (N', m', cm'), (if r.litres = 0 then out else insT out r, fun t => O t + if t = r.ti then r.litres else 0)) ⟨rfl, ?_, rfl, trivial⟩ ⟨by omega, (xu.trans xu2).trans x3, hmc', so', hI.skip hri hcr (fun h => q1 h.1), ?_⟩ (by simp only; omega)
      · show iv s = iv _
        rw [skip (fun h => q1 h.1)]
      · show (if r.litres = 0 then out else insT out r).length ≤ 2 * (n - i)
        split <;> omega
    refine fldA ?_
    refine ld (iv r.hour) (B17.cell rfl) ?_
    refine cE (fun q2 => ?_) (fun q2 => ?_)
    rotate_left
    · refine ldA (encJ r) (.blk B17) rfl ?_
      refine call_of (c_h46add (so.ext xu2) hmc hm8 ⟨by omega, by omega⟩ hbo) ?_
      rintro _ u3 ⟨x3, N', m', cm', rfl, hmc', so'⟩
      have lo' := so'.len
      have li := len_insT (x := r) (l := out)
      refine arI (by omega) ?_
      refine next (i, (N', m', cm'), (if r.litres = 0 then out else insT out r, fun t => O t + if t = r.ti then r.litres else 0)) ⟨rfl, ?_, rfl, trivial⟩ ⟨by omega, (xu.trans xu2).trans x3, hmc', so', hI.skip hri hcr (fun h => q2 h.2), ?_⟩ (by simp only; omega)
      · show iv s = iv _
        rw [skip (fun h => q2 h.2)]
      · show (if r.litres = 0 then out else insT out r).length ≤ 2 * (n - i)
        split <;> omega
    clear skip
    have hgb := gain_b (a := s) (n := min r.litres (litres - s)) (got := got) (litres := litres) (by omega) (by omega) (by omega) (by omega) (by omega) (by omega)
    have hm1 : 0 ≤ (s + min r.litres (litres - s)) * got ∧ (s + min r.litres (litres - s)) * got ≤ 1073741824 * 1073741824 := ⟨Int.mul_nonneg (by omega) (by omega), Int.mul_le_mul (by omega) (by omega) (by omega) (by omega)⟩
    have hm0 : 0 ≤ s * got ∧ s * got ≤ 1073741824 * 1073741824 := ⟨Int.mul_nonneg (by omega) (by omega), Int.mul_le_mul (by omega) (by omega) (by omega) (by omega)⟩
    refine fldA ?_
    refine ld (iv r.litres) (B17.cell rfl) ?_
    refine arI (by omega) ?_
    refine ldA (encJ r) (.blk B17) rfl ?_
    refine alloc (fun b19 u3 q3 => ?_)
    refine stA (vs := encJ r) q3.blk rfl (Nat.le_of_ble_eq_true rfl) (by simp [Value.oneCell']) (fun u4 B19 k4 z4 => ?_)
    have B19 : Blk u4 b19 60 (encJ r) := B19
    have e19 := q3.at_
    have x24 : Ext u2 u4 := q3.ext.then k4 fun b hb _ e => by omega
    have l17 := B17.lt
    have B17 := B17.ext x24
    refine fldA ?_
    refine st (i := 1) (v := iv to) B19 (by simp) rfl (fun u5 C19 k5 z5 => ?_)
    have C19 : Blk u5 b19 60 [iv r.right, iv to, iv r.hour, iv r.litres, iv r.rank] := C19
    have B17 := B17.kept k5 (by omega)
    refine drawP (.take 0 (.take 1 (.take 2 (.take 3 (.take 4 (.take 5 (.take 6 (.take 7 (.take 8 (.take 9 (.take 10 (.take 11 (.take 12 (.take 13 (.eff 14 .done))))))))))))))) [] (fun _ => True) mx (by kernel_rfl) trivial ?_
    refine arI (n := s + min r.litres (litres - s)) (by omega) ?_
    refine arI (n := (s + min r.litres (litres - s)) * got) (by omega) ?_
    refine quoI (a := (s + min r.litres (litres - s)) * got) (by omega) (by omega) (by omega) ?_
    refine arI (n := s * got) (by omega) ?_
    refine quoI (a := s * got) (by omega) (by omega) (by omega) ?_
    refine arI (n := (s + min r.litres (litres - s)) * got / litres - s * got / litres) (by omega) ?_
    refine fldA ?_
    refine st (i := 3) (v := iv ((s + min r.litres (litres - s)) * got / litres - s * got / litres)) C19 (by simp) rfl (fun u6 D19 k6 z6 => ?_)
    have D19 : Blk u6 b19 60 (encJ (gainC s to litres got r)) := D19
    have B17 := B17.kept k6 (by omega)
    refine strS trivial ?_
    refine arI (n := s + min r.litres (litres - s)) (by omega) ?_
    refine fldA ?_
    refine ld (iv r.litres) (B17.cell rfl) ?_
    refine arI (n := r.litres - min r.litres (litres - s)) (by omega) ?_
    refine fldA ?_
    refine st (i := 3) (v := iv (r.litres - min r.litres (litres - s))) B17 (by simp) rfl (fun u7 D17 k7 z7 => ?_)
    have D17 : Blk u7 b17 60 (encJ (leftC s litres r)) := D17
    have D19 := D19.kept k7 (by omega)
    have zu2 := xu2.size
    have z24 := x24.size
    have xu7 : Ext u u7 := (((xu2.trans x24).then k5 fun b hb _ => by omega).then k6 fun b hb _ => by omega).then k7 fun b hb _ => by omega
    obtain ⟨a1, a2⟩ := insR (x := gainC s to litres got r) hI.out hI.pos hgb.1
    refine ldA (encJ (gainC s to litres got r)) (.blk D19) rfl ?_
    refine call_of (c_h46add (so.ext xu7) hmc hm8 ⟨hgb.1, by show (s + min r.litres (litres - s)) * got / litres - s * got / litres ≤ _; omega⟩ hbo) ?_
    rintro _ u8 ⟨x8, N1, m1, cm1, rfl, hmc1, so1⟩
    have lo1 := so1.len
    have li1 := len_insT (x := gainC s to litres got r) (l := out)
    have ll1 : (if (gainC s to litres got r).litres = 0 then out else insT out (gainC s to litres got r)).length ≤ out.length + 1 := len_if (by omega) li1
    have hm1' : m1 ≤ 8192 := by rw [← lo1]; exact Nat.le_trans ll1 (by omega)
    have hbo1 : ∀ a ∈ (if (gainC s to litres got r).litres = 0 then out else insT out (gainC s to litres got r)), 0 ≤ a.litres ∧ a.litres ≤ 35184372088832 := fun a ha => by
      obtain ⟨h1, h2⟩ := (a1.2 a).1 ha
      have h3 := hO a.ti
      have h4 : (gainC s to litres got r).litres ≤ 1073741824 := hgb.2.1
      have h5 : 0 ≤ (gainC s to litres got r).litres := hgb.1
      simp only at h1
      split at h1 <;> omega
    refine ldA (encJ (leftC s litres r)) (.blk (D17.ext x8)) rfl ?_
    refine call_of (c_h46add so1 hmc1 hm1' ⟨by show 0 ≤ r.litres - min r.litres (litres - s); omega, by show r.litres - min r.litres (litres - s) ≤ _; omega⟩ hbo1) ?_
    rintro _ u9 ⟨x9, N2, m2, cm2, rfl, hmc2, so2⟩
    have li2 := len_insT (x := leftC s litres r) (l := if (gainC s to litres got r).litres = 0 then out else insT out (gainC s to litres got r))
    have hR := hI.take hri hcr ⟨q1, q2⟩ p1.2.2.2.2 hbd.1 (by omega) (by omega) (by omega) es
    refine arI (n := (i : Int) - 1) (by omega) ?_
    refine next (i, (N2, m2, cm2), (_, _)) ⟨rfl, ?_, rfl, trivial⟩ ⟨by omega, ((xu.trans xu7).trans x8).trans x9, hmc2, so2, hR, ?_⟩ (by simp only; omega)
    · show iv (s + min r.litres (litres - s)) = iv _
      rw [backG_step hri]
      unfold bstep
      rw [if_pos ⟨q1, q2⟩, ← es]
    · exact len_if (Nat.le_trans ll1 (by simp only; omega)) (Nat.le_trans li2 (Nat.le_trans (Nat.succ_le_succ ll1) (by simp only; omega)))
  · obtain rfl : k = 0 := by omega
    have hO : ∀ t, (endG fr to hr litres got l t).getD 0 = O t := fun t => by
      have h := hI.eq t
      rw [List.take_zero] at h
      exact h.trans (Int.add_zero _)
    have some_of : ∀ t, 0 < O t → endG fr to hr litres got l t = some (O t) := fun t h => by
      have := hO t
      cases e : endG fr to hr litres got l t with
      | none => rw [e] at this; simp only [Option.getD_none] at this; omega
      | some v => rw [e] at this; simp only [Option.getD_some] at this; rw [this]
    have hmem : ∀ c, c ∈ out ↔ endG fr to hr litres got l c.ti = some c.litres ∧ 0 < c.litres := fun c => by
      rw [hI.out.2]
      constructor
      · rintro ⟨h1, h2⟩; exact ⟨by rw [some_of c.ti (by omega), h1], h2⟩
      · rintro ⟨h1, h2⟩
        have := hO c.ti
        rw [h1] at this
        exact ⟨this, h2⟩
    have hnd : (out.map Cm.ti).Nodup := by
      rw [List.Nodup, List.pairwise_map]
      exact hI.out.1.imp fun {a b} q => fun e : a.ti = b.ti => ltT_irrefl (x := b.ti) (by rw [e] at q; exact q)
    dsimp only
    refine loop_rule (fun j : Nat => [(20, iv (j : Int))]) (fun j u' => j ≤ m ∧ u = u' ∧ ∀ a ∈ out.take j, a.litres ≤ 1073741824) (fun j _ => m - j) 0 ⟨rfl, trivial⟩ ⟨by omega, rfl, fun a h => by simp at h⟩ rfl ?_
    rintro G2 j u' ⟨hj, rfl, hle⟩
    refine len ?_
    refine cD (fun hlt2 => ?_) (fun hge2 => ?_)
    · have hlt2 : j < m := by omega
      obtain ⟨b, o, cs, a, rfl, ha, -, -, hc, rfl⟩ := so.at_ hlt2
      have hma := List.mem_of_getElem? ha
      refine idx j rfl hlt2 ?_
      refine fldA ?_
      refine ld (iv a.litres) (hc 3 _ rfl) ?_
      refine cD (fun h4 => ?_) (fun h4 => ?_)
      · exact ret2 (.slice none 0 0) (iv 460) rfl rfl ⟨x0u, none, 0, 0, [], 460, rfl, .nil, .inr ⟨hpe, .inl ⟨rfl, rfl, a.ti, a.litres, ((hmem a).1 hma).1, by omega⟩⟩⟩
      refine arI (by omega) ?_
      refine next (j + 1) ⟨by rw [Int.natCast_add]; rfl, trivial⟩ ⟨by omega, rfl, fun e he => ?_⟩ (by omega)
      rw [List.take_add_one, ha, List.mem_append] at he
      rcases he with he | he
      · exact hle e he
      · simp at he; subst he; omega
    rw [List.take_of_length_le (by omega)] at hle
    have hle2 : ∀ t v, endG fr to hr litres got l t = some v → v ≤ 1073741824 := fun t v h => by
      by_cases q : v ≤ 1073741824
      · exact q
      · exact hle ⟨t.2.2.1, t.2.2.2, t.1, v, t.2.1⟩ ((hmem _).2 ⟨h, by show 0 < v; omega⟩)
    refine len ?_
    refine cD (fun h4 => ?_) (fun h4 => ?_)
    · exact ret2 (.slice none 0 0) (iv 2) rfl rfl ⟨x0u, none, 0, 0, [], 2, rfl, .nil, .inr ⟨hpe, .inr ⟨hle2, out, hnd, hmem, .inl ⟨by omega, rfl, rfl⟩⟩⟩⟩
    · exact ret2 (.slice N m cm) (iv 0) rfl rfl ⟨x0u, N, m, cm, out, 0, rfl, so, .inr ⟨hpe, .inr ⟨hle2, out, hnd, hmem, .inr ⟨by omega, rfl, rfl, hI.out.1⟩⟩⟩⟩
end
end Go.Proofs.Ytcpogcdadlcdaaa

/- Layer 46: HarmlessRetitleSpec. -/
namespace Go.Proofs.Ytcpogcdadlcdaaa
open Go Go.RowKit Classical

theorem RetR.uniq {fr to hr litres got : Int} {l x y : List Cm} {e f : Int} (h : RetR fr to hr litres got l x e) (k : RetR fr to hr litres got l y f) : x = y ∧ e = f := by
  rcases h with ⟨h1, h2, h3⟩ | ⟨h1, h2⟩ <;> rcases k with ⟨k1, k2, k3⟩ | ⟨k1, k2⟩
  · exact ⟨h3.trans k3.symm, h2.trans k2.symm⟩
  · exact absurd k1 h1
  · exact absurd h1 k1
  rcases h2 with ⟨h2, h3, t, n, h4, h5⟩ | ⟨h2, a, ha, hm, h3⟩ <;> rcases k2 with ⟨k2, k3, t', n', k4, k5⟩ | ⟨k2, b, hb, km, k3⟩
  · exact ⟨h3.trans k3.symm, h2.trans k2.symm⟩
  · have := k2 t n h4; omega
  · have := h2 t' n' k4; omega
  have hmm : ∀ c, c ∈ a ↔ c ∈ b := fun c => (hm c).trans (km c).symm
  have an : a.Nodup := List.Pairwise.of_map (S := fun a b => a ≠ b) Cm.ti (fun a b h e => h (by rw [e])) ha
  have bn : b.Nodup := List.Pairwise.of_map (S := fun a b => a ≠ b) Cm.ti (fun a b h e => h (by rw [e])) hb
  have l1 := nodup_le an fun c hc => (hmm c).1 hc
  have l2 := nodup_le bn fun c hc => (hmm c).2 hc
  rcases h3 with ⟨h3, h4, h5⟩ | ⟨h3, h4, h5, h6⟩ <;> rcases k3 with ⟨k3, k4, k5⟩ | ⟨k3, k4, k5, k6⟩
  · exact ⟨h5.trans k5.symm, h4.trans k4.symm⟩
  · omega
  · omega
  · exact ⟨by rw [h5, k5]; exact sorted_uniq h6 k6 hmm, h4.trans k4.symm⟩
section
variable {D : Nat → Prop} {w : World}
set_option maxRecDepth 8000 in
theorem c_HarmlessRetitleSpec {l : List Cm} {fr to hr litres got : Int} {A : Option Addr} {n c : Nat} (hl : SlR tCm D w A n l) : CallZ Try.prog 3 #[.slice A n c, iv fr, iv to, iv hr, iv litres, iv got] w (fun v w' => v = .bool true ∧ Ext w w') := by
  have hl := hl.more (D' := fun _ => True) (by decide) fun _ _ _ => trivial
  refine fn_rule (args := [.slice A n c, iv fr, iv to, iv hr, iv litres, iv got]) Try.func3 (by kernel_rfl) ?_
  refine call_of (c_hsane) ?_
  rintro _ w2 ⟨rfl, x2⟩
  refine len ?_
  refine cD (fun g1 => ?_) (fun g1 => ?_)
  · refine len ?_
    refine cD (fun g2 => ?_) (fun g2 => ?_)
    · exact ret1 (.bool true) rfl ⟨rfl, x2⟩
    refine len ?_
    refine cD (fun g3 => ?_) (fun g3 => ?_)
    · exact ret1 (.bool true) rfl ⟨rfl, x2⟩
    refine call_of (c_hRet (fr := fr) (to := to) (hr := hr) (litres := litres) (got := got) (hl.ext x2)) ?_
    rintro _ w3 ⟨x3, B1, m1, k1, x, e, rfl, s1, -, r1⟩
    refine call_of (c_h46Ret (fr := fr) (to := to) (hr := hr) (litres := litres) (got := got) ((hl.ext x2).ext x3)) ?_
    rintro _ w4 ⟨x4, B2, m2, k2, y, f, rfl, s2, r2⟩
    obtain ⟨rfl, rfl⟩ := r1.uniq r2
    refine callB (c_Same26 (D := fun _ => True) ((s1.more (by decide) fun _ _ _ => trivial).ext x4) s2) (fun _ => ?_) (fun h => absurd (of_decide_eq_false h) (fun h => h rfl))
    refine cE (fun _ => ?_) (fun h => absurd rfl h)
    exact ret1 (.bool true) rfl ⟨rfl, (x2.trans x3).trans x4⟩
  · refine call_of (c_hRet (fr := fr) (to := to) (hr := hr) (litres := litres) (got := got) (hl.ext x2)) ?_
    rintro _ w3 ⟨x3, B1, m1, k1, x, e, rfl, s1, -, r1⟩
    refine call_of (c_h46Ret (fr := fr) (to := to) (hr := hr) (litres := litres) (got := got) ((hl.ext x2).ext x3)) ?_
    rintro _ w4 ⟨x4, B2, m2, k2, y, f, rfl, s2, r2⟩
    obtain ⟨rfl, rfl⟩ := r1.uniq r2
    refine callB (c_Same26 (D := fun _ => True) ((s1.more (by decide) fun _ _ _ => trivial).ext x4) s2) (fun _ => ?_) (fun h => absurd (of_decide_eq_false h) (fun h => h rfl))
    refine cE (fun _ => ?_) (fun h => absurd rfl h)
    exact ret1 (.bool true) rfl ⟨rfl, (x2.trans x3).trans x4⟩
end
end Go.Proofs.Ytcpogcdadlcdaaa

/- Layer 46: what Retitle does to the titles, plainly. -/
namespace Go.Proofs.Ytcpogcdadlcdaaa
open Go Go.RowKit Classical

/-- A right in an hour, with its rank. -/
abbrev T3 := Int × Int × Int
def Cm.k3 (c : Cm) : T3 := (c.hour, c.rank, c.right)
def t4 (k : T3) (f : Int) : Ti := (k.1, k.2.1, k.2.2, f)
theorem t4_inj {k k' : T3} {f f' : Int} (h : t4 k f = t4 k' f') : k = k' ∧ f = f' := by
  obtain ⟨a, b, c⟩ := k
  obtain ⟨a', b', c'⟩ := k'
  simp only [t4, Prod.mk.injEq] at h
  obtain ⟨h1, h2, h3, h4⟩ := h
  subst h1; subst h2; subst h3
  exact ⟨rfl, h4⟩
theorem ti_t4 (c : Cm) : c.ti = t4 c.k3 c.farm := rfl
abbrev GM3 := T3 → Option Int
noncomputable def iset3 (g : GM3) (k : T3) (n : Int) : GM3 := fun b => if b = k then some n else g b
noncomputable def stStep (hr f : Int) (g : GM3) (c : Cm) : GM3 := if c.hour = hr ∧ c.farm = f then iset3 g c.k3 ((g c.k3).getD 0 + c.litres) else g
/-- The litres of a farm in an hour, by their titles. -/
noncomputable def stM (hr f : Int) (l : List Cm) : GM3 := l.foldl (stStep hr f) fun _ => none
theorem stM_snoc {hr f : Int} {l : List Cm} {c : Cm} : stM hr f (l ++ [c]) = stStep hr f (stM hr f l) c := by unfold stM; rw [List.foldl_append]; rfl
def restB (hr fr to : Int) (c : Cm) : Bool := !(decide (c.hour = hr) && (decide (c.farm = fr) || decide (c.farm = to)))
/-- The claims of others, and of other hours. -/
def restF (hr fr to : Int) (l : List Cm) : List Cm := l.filter (restB hr fr to)
theorem restF_snoc {hr fr to : Int} {l : List Cm} {c : Cm} : restF hr fr to (l ++ [c]) = restF hr fr to l ++ if restB hr fr to c = true then [c] else [] := by
  unfold restF
  rw [List.filter_append]
  by_cases q : restB hr fr to c = true
  · rw [if_pos q, List.filter_cons_of_pos q]; rfl
  · rw [if_neg q, List.filter_cons_of_neg q]; rfl
theorem sumT_cons {l : List Cm} {c : Cm} {t : Ti} : sumT (c :: l) t = (if c.ti = t then c.litres else 0) + sumT l t := by unfold sumT; simp
theorem stM_gen {hr f : Int} {k : T3} : ∀ (l : List Cm) (g : GM3), ((l.foldl (stStep hr f) g) k).getD 0 = (g k).getD 0 + if k.1 = hr then sumT l (t4 k f) else 0
  | [], g => by
    show (g k).getD 0 = (g k).getD 0 + if k.1 = hr then 0 else 0
    split <;> omega
  | c :: l, g => by
    rw [List.foldl_cons, stM_gen l, sumT_cons]
    unfold stStep
    by_cases q : c.hour = hr ∧ c.farm = f
    · rw [if_pos q]
      unfold iset3
      by_cases e : k = c.k3
      · subst e
        have h1 : c.k3.1 = hr := q.1
        have h2 : c.ti = t4 c.k3 f := by rw [ti_t4, q.2]
        rw [if_pos rfl, if_pos h1, if_pos h1, if_pos h2]
        show (g c.k3).getD 0 + c.litres + _ = _
        omega
      · rw [if_neg e, if_neg (show ¬ c.ti = t4 k f from fun h => e (t4_inj (h.symm.trans (ti_t4 c))).1)]
        split <;> omega
    · rw [if_neg q]
      by_cases h1 : k.1 = hr
      · rw [if_pos h1, if_pos h1, if_neg (show ¬ c.ti = t4 k f from fun h => by
          obtain ⟨h2, h3⟩ := t4_inj (h.symm.trans (ti_t4 c))
          exact q ⟨by rw [← h1, h2]; rfl, h3.symm⟩)]
        omega
      · rw [if_neg h1, if_neg h1]
theorem stM_val {hr f : Int} {l : List Cm} {k : T3} : (stM hr f l k).getD 0 = if k.1 = hr then sumT l (t4 k f) else 0 := by
  unfold stM
  rw [stM_gen]
  simp
theorem stM_some {hr f : Int} {k : T3} : ∀ {l : List Cm} {g : GM3}, ((l.foldl (stStep hr f) g) k ≠ none ↔ g k ≠ none ∨ ∃ c ∈ l, c.hour = hr ∧ c.farm = f ∧ c.k3 = k)
  | [], g => by simp
  | c :: l, g => by
    rw [List.foldl_cons, stM_some]
    have e : stStep hr f g c k ≠ none ↔ g k ≠ none ∨ (c.hour = hr ∧ c.farm = f ∧ c.k3 = k) := by
      unfold stStep
      by_cases q : c.hour = hr ∧ c.farm = f
      · rw [if_pos q]
        unfold iset3
        by_cases e : k = c.k3
        · rw [if_pos e]
          exact ⟨fun _ => .inr ⟨q.1, q.2, e.symm⟩, fun _ h => by cases h⟩
        · rw [if_neg e]
          exact ⟨.inl, fun h => h.elim id fun h => absurd h.2.2.symm e⟩
      · rw [if_neg q]
        exact ⟨.inl, fun h => h.elim id fun h => absurd ⟨h.1, h.2.1⟩ q⟩
    rw [e]
    constructor
    · rintro ((h | h) | ⟨x, hx, h⟩)
      · exact .inl h
      · exact .inr ⟨c, List.mem_cons_self, h⟩
      · exact .inr ⟨x, List.mem_cons_of_mem _ hx, h⟩
    · rintro (h | ⟨x, hx, h⟩)
      · exact .inl (.inl h)
      · rcases List.mem_cons.1 hx with rfl | hx
        · exact .inl (.inr h)
        · exact .inr ⟨x, hx, h⟩
theorem stM_has {hr f : Int} {k : T3} {l : List Cm} : stM hr f l k ≠ none ↔ ∃ c ∈ l, c.hour = hr ∧ c.farm = f ∧ c.k3 = k := by
  unfold stM
  rw [stM_some]
  simp
/-- What has been moved until claim i. -/
theorem backG_nonneg {fr to hr litres got : Int} {l : List Cm} (h : ClaimsOk l) (hne : fr ≠ to) (hl1 : 1 ≤ litres) (hl2 : litres ≤ 1073741824) (hg : 0 ≤ got) (hg2 : got ≤ 1073741824) :
    ∀ j i, j + i = l.length → ∃ out O, RefI fr to hr litres got l i out O := by
  intro j
  induction j with
  | zero =>
    intro i hi
    obtain rfl : i = l.length := by omega
    exact ⟨_, _, RefI.start h⟩
  | succ j ih =>
    intro i hi
    obtain ⟨out, O, hR⟩ := ih (i + 1) (by omega)
    have hil : i < l.length := by omega
    have hc : l[i]? = some l[i] := List.getElem?_eq_getElem hil
    have hb := h.1 _ (List.getElem_mem hil)
    by_cases q : l[i].farm = fr ∧ l[i].hour = hr
    · have hbd := back_b (fr := fr) (to := to) (hr := hr) (litres := litres) (got := got) h.1 hl1 hl2 hg hg2 (k := j) (by omega)
      rw [show l.length - j = i + 1 by omega] at hbd
      exact ⟨_, _, hR.take hc hb q hne hbd.1 hl1 hg hg2 rfl⟩
    · exact ⟨_, _, hR.skip hc hb q⟩
theorem sumT_nonneg {l : List Cm} (h : ∀ c ∈ l, claimB c = true) (t : Ti) : 0 ≤ sumT l t := by
  induction l with
  | nil => exact Int.le_refl _
  | cons c l ih =>
    rw [sumT_cons]
    have h1 := claimB_iff.1 (h c List.mem_cons_self)
    have := ih fun x hx => h x (List.mem_cons_of_mem _ hx)
    split <;> omega
theorem sumT_mem {l : List Cm} {c : Cm} (hn : (l.map Cm.ti).Nodup) (hc : c ∈ l) : sumT l c.ti = c.litres := by
  induction l with
  | nil => cases hc
  | cons a l ih =>
    rw [List.map_cons, List.nodup_cons] at hn
    rw [sumT_cons]
    rcases List.mem_cons.1 hc with rfl | hc
    · rw [if_pos rfl, sumT_none fun x hx e => hn.1 (by rw [← e]; exact List.mem_map_of_mem hx)]; omega
    · rw [if_neg fun e => hn.1 (by rw [e]; exact List.mem_map_of_mem hc), ih hn.2 hc]; omega
theorem sum_upd {K : List T3} (h : K.Nodup) {f g : T3 → Int} {k0 : T3} {n : Int} (h0 : g k0 = f k0 + n) (h1 : ∀ k, k ≠ k0 → g k = f k) : (K.map g).sum = (K.map f).sum + if k0 ∈ K then n else 0 := by
  induction K with
  | nil => simp
  | cons a K ih =>
    rw [List.nodup_cons] at h
    have ih := ih h.2
    rw [List.map_cons, List.map_cons, List.sum_cons, List.sum_cons, ih]
    by_cases e : a = k0
    · subst e
      rw [if_neg h.1, if_pos List.mem_cons_self, h0]
      omega
    · rw [h1 a e]
      by_cases q : k0 ∈ K
      · rw [if_pos q, if_pos (List.mem_cons_of_mem _ q)]; omega
      · rw [if_neg q, if_neg fun hm => (List.mem_cons.1 hm).elim (fun h => e h.symm) q]; omega
theorem sum_zero {K : List T3} {f : T3 → Int} (h : ∀ k ∈ K, f k = 0) : (K.map f).sum = 0 := by
  induction K with
  | nil => rfl
  | cons a K ih =>
    rw [List.map_cons, List.sum_cons, h a List.mem_cons_self, ih fun k hk => h k (List.mem_cons_of_mem _ hk)]; rfl
/-- The litres of a title, from claim i on. -/
noncomputable abbrev vG (fr to hr litres got : Int) (l : List Cm) (i : Nat) (t : Ti) : Int := ((backG fr to hr litres got l i).2 t).getD 0
noncomputable abbrev sG (fr to hr litres got : Int) (l : List Cm) (i : Nat) : Int := (backG fr to hr litres got l i).1
section
variable {fr to hr litres got : Int} {l : List Cm}
theorem vG_skip {i : Nat} {c : Cm} (hc : l[i]? = some c) (q : ¬ (c.farm = fr ∧ c.hour = hr)) : backG fr to hr litres got l i = backG fr to hr litres got l (i + 1) := by
  rw [backG_step hc]
  unfold bstep
  rw [if_neg q]
theorem sG_take {i : Nat} {c : Cm} (hc : l[i]? = some c) (q : c.farm = fr ∧ c.hour = hr) : sG fr to hr litres got l i = sG fr to hr litres got l (i + 1) + min c.litres (litres - sG fr to hr litres got l (i + 1)) := by
  unfold sG
  rw [backG_step hc]
  unfold bstep
  rw [if_pos q]
theorem vG_take {i : Nat} {c : Cm} (hc : l[i]? = some c) (q : c.farm = fr ∧ c.hour = hr) (hne : fr ≠ to) (t : Ti) : vG fr to hr litres got l i t = vG fr to hr litres got l (i + 1) t
    + (if t = t4 c.k3 to then sG fr to hr litres got l i * got / litres - sG fr to hr litres got l (i + 1) * got / litres else 0) - (if t = t4 c.k3 fr then sG fr to hr litres got l i - sG fr to hr litres got l (i + 1) else 0) := by
  rw [sG_take hc q]
  obtain ⟨n, hn⟩ : ∃ n, n = min c.litres (litres - sG fr to hr litres got l (i + 1)) := ⟨_, rfl⟩
  have e1 : c.ti = t4 c.k3 fr := by rw [ti_t4, q.1]
  have ne : ¬ t4 c.k3 to = t4 c.k3 fr := fun h => hne (t4_inj h).2.symm
  rw [← hn]
  unfold sG at hn ⊢
  unfold vG
  rw [backG_step hc]
  unfold bstep
  rw [if_pos q]
  change ((iset (iset _ _ _) (t4 c.k3 to) _) t).getD 0 = _
  rw [← hn, e1, show ((c.hour, c.rank, c.right, to) : Ti) = t4 c.k3 to from rfl]
  unfold iset
  by_cases p1 : t = t4 c.k3 to
  · rw [if_pos p1, if_pos p1, if_neg ne, if_neg (show ¬ t = t4 c.k3 fr from by rw [p1]; exact ne), Option.getD_some, p1]
    omega
  · rw [if_neg p1, if_neg p1]
    by_cases p2 : t = t4 c.k3 fr
    · rw [if_pos p2, if_pos p2, Option.getD_some, p2]
      omega
    · rw [if_neg p2, if_neg p2]
      omega
structure RetOk (fr to hr litres got : Int) (l : List Cm) : Prop where
  ok : ClaimsOk l
  ne : fr ≠ to
  l1 : 1 ≤ litres
  l2 : litres ≤ 1073741824
  g0 : 0 ≤ got
  g1 : got ≤ 1073741824
theorem RetOk.b (h : RetOk fr to hr litres got l) {i : Nat} (hi : i ≤ l.length) : 0 ≤ sG fr to hr litres got l i ∧ sG fr to hr litres got l i ≤ litres := by
  have := back_b (fr := fr) (to := to) (hr := hr) (litres := litres) (got := got) h.ok.1 h.l1 h.l2 h.g0 h.g1 (k := l.length - i) (by omega)
  rw [show l.length - (l.length - i) = i by omega] at this
  exact this.1
theorem RetOk.pos (h : RetOk fr to hr litres got l) {i : Nat} (hi : i ≤ l.length) (t : Ti) : 0 ≤ vG fr to hr litres got l i t := by
  obtain ⟨out, O, hR⟩ := backG_nonneg h.ok h.ne h.l1 h.l2 h.g0 h.g1 (fr := fr) (to := to) (hr := hr) (litres := litres) (got := got) (l.length - i) i (by omega)
  have h1 := hR.eq t
  have h2 := hR.pos t
  have h3 := sumT_nonneg (l := l.take i) (fun c hc => h.ok.1 c (List.mem_of_mem_take hc)) t
  show 0 ≤ ((backG fr to hr litres got l i).2 t).getD 0
  omega
/-- One claim more: by how much. -/
theorem RetOk.step (h : RetOk fr to hr litres got l) {i : Nat} {c : Cm} (hc : l[i]? = some c) : sG fr to hr litres got l (i + 1) ≤ sG fr to hr litres got l i ∧
    0 ≤ sG fr to hr litres got l i * got / litres - sG fr to hr litres got l (i + 1) * got / litres := by
  have hi : i < l.length := (List.getElem?_eq_some_iff.1 hc).1
  have b := h.b (show i + 1 ≤ l.length by omega)
  have hb := claimB_iff.1 (h.ok.1 c (List.mem_of_getElem? hc))
  by_cases q : c.farm = fr ∧ c.hour = hr
  · have e := sG_take (to := to) (litres := litres) (got := got) hc q
    have := gain_b (a := sG fr to hr litres got l (i + 1)) (n := min c.litres (litres - sG fr to hr litres got l (i + 1))) (got := got) (litres := litres) (by omega) (by omega) (by omega) h.l1 h.g0 h.g1
    rw [← e] at this
    exact ⟨by omega, this.1⟩
  · have e := vG_skip (to := to) (litres := litres) (got := got) hc q
    unfold sG
    rw [e]
    exact ⟨Int.le_refl _, by omega⟩
theorem RetOk.mono (h : RetOk fr to hr litres got l) (k : T3) : ∀ {i : Nat}, i ≤ l.length → vG fr to hr litres got l i (t4 k to) ≤ vG fr to hr litres got l 0 (t4 k to) := by
  intro i
  induction i with
  | zero => intro _; exact Int.le_refl _
  | succ i ih =>
    intro hi
    have ih := ih (by omega)
    have hc : l[i]? = some l[i] := List.getElem?_eq_getElem (by omega)
    have hs := h.step hc
    refine Int.le_trans ?_ ih
    by_cases q : l[i].farm = fr ∧ l[i].hour = hr
    · rw [vG_take hc q h.ne, if_neg (show ¬ t4 k to = t4 l[i].k3 fr from fun e => h.ne (t4_inj e).2.symm)]
      split <;> omega
    · unfold vG
      rw [vG_skip hc q]
      exact Int.le_refl _
/-- What holds after each claim, on the way back. -/
structure SenI (fr to hr litres got : Int) (l : List Cm) (i : Nat) : Prop where
  oth : ∀ t : Ti, ¬ (t.1 = hr ∧ (t.2.2.2 = fr ∨ t.2.2.2 = to)) → (backG fr to hr litres got l i).2 t = allG l t
  less : ∀ k : T3, vG fr to hr litres got l i (t4 k fr) ≤ (allG l (t4 k fr)).getD 0
  more : ∀ k : T3, (allG l (t4 k to)).getD 0 ≤ vG fr to hr litres got l i (t4 k to)
  both : ∀ k : T3, vG fr to hr litres got l i (t4 k fr) = (allG l (t4 k fr)).getD 0 → vG fr to hr litres got l i (t4 k to) = (allG l (t4 k to)).getD 0
  lost : ∀ K : List T3, K.Nodup → (∀ c ∈ l, c.farm = fr → c.hour = hr → c.k3 ∈ K) → (K.map fun k => (allG l (t4 k fr)).getD 0 - vG fr to hr litres got l i (t4 k fr)).sum = sG fr to hr litres got l i
  won : ∀ K : List T3, K.Nodup → (∀ k : T3, k.1 = hr → k ∉ K → vG fr to hr litres got l 0 (t4 k to) ≤ 0) → (K.map fun k => vG fr to hr litres got l i (t4 k to) - (allG l (t4 k to)).getD 0).sum = sG fr to hr litres got l i * got / litres
  took : sG fr to hr litres got l i = min litres (hasF fr hr (l.drop i))
theorem SenI.start (h : RetOk fr to hr litres got l) : SenI fr to hr litres got l l.length := by
  have e : backG fr to hr litres got l l.length = (0, allG l) := by unfold backG; rw [List.drop_length]; rfl
  have ev : ∀ t, vG fr to hr litres got l l.length t = (allG l t).getD 0 := fun t => by unfold vG; rw [e]
  have es : sG fr to hr litres got l l.length = 0 := by unfold sG; rw [e]
  refine ⟨fun t _ => by rw [e], fun k => by rw [ev]; exact Int.le_refl _, fun k => by rw [ev]; exact Int.le_refl _, fun k _ => ev _, fun K _ _ => ?_, fun K _ _ => ?_, ?_⟩
  · rw [es]; exact sum_zero fun k _ => by rw [ev]; omega
  · rw [es, Int.zero_mul, Int.zero_ediv]; exact sum_zero fun k _ => by rw [ev]; omega
  · rw [es, List.drop_length]
    have := h.l1
    show 0 = min litres 0
    omega
theorem SenI.step (h : RetOk fr to hr litres got l) {i : Nat} {c : Cm} (hc : l[i]? = some c) (I : SenI fr to hr litres got l (i + 1)) : SenI fr to hr litres got l i := by
  have hi : i < l.length := (List.getElem?_eq_some_iff.1 hc).1
  have hb := claimB_iff.1 (h.ok.1 c (List.mem_of_getElem? hc))
  have hst := h.step hc
  have hbs := h.b (show i + 1 ≤ l.length by omega)
  have hdr : l.drop i = c :: l.drop (i + 1) := by
    obtain ⟨hi, e⟩ := List.getElem?_eq_some_iff.1 hc
    rw [List.drop_eq_getElem_cons hi, e]
  have hhas : hasF fr hr (l.drop i) = ofF fr hr c + hasF fr hr (l.drop (i + 1)) := by rw [hdr]; unfold hasF; simp
  have hh0 := (hasF_b (fr := fr) (hr := hr) (l := l.drop (i + 1)) fun x hx => h.ok.1 x (List.mem_of_mem_drop hx)).1
  have hl1 := h.l1
  by_cases q : c.farm = fr ∧ c.hour = hr
  · have es := sG_take (to := to) (litres := litres) (got := got) hc q
    have ev := vG_take (to := to) (litres := litres) (got := got) hc q h.ne
    obtain ⟨s, hs⟩ : ∃ s, s = sG fr to hr litres got l i := ⟨_, rfl⟩
    obtain ⟨s', hs'⟩ : ∃ s, s = sG fr to hr litres got l (i + 1) := ⟨_, rfl⟩
    obtain ⟨g, hg⟩ : ∃ g, g = s * got / litres := ⟨_, rfl⟩
    obtain ⟨g', hg'⟩ : ∃ g, g = s' * got / litres := ⟨_, rfl⟩
    rw [← hs, ← hs', ← hg, ← hg'] at hst
    rw [← hs, ← hs'] at es
    rw [← hs'] at hbs
    simp only [← hs, ← hs', ← hg, ← hg'] at ev
    have evf : ∀ k, vG fr to hr litres got l i (t4 k fr) = vG fr to hr litres got l (i + 1) (t4 k fr) - if k = c.k3 then s - s' else 0 := fun k => by
      rw [ev, if_neg (show ¬ t4 k fr = t4 c.k3 to from fun e => h.ne (t4_inj e).2)]
      by_cases e : k = c.k3
      · rw [if_pos e, if_pos (by rw [e])]; omega
      · rw [if_neg e, if_neg fun x => e (t4_inj x).1]; omega
    have evt : ∀ k, vG fr to hr litres got l i (t4 k to) = vG fr to hr litres got l (i + 1) (t4 k to) + if k = c.k3 then g - g' else 0 := fun k => by
      rw [ev, if_neg (show ¬ t4 k to = t4 c.k3 fr from fun e => h.ne (t4_inj e).2.symm)]
      by_cases e : k = c.k3
      · rw [if_pos e, if_pos (by rw [e])]; omega
      · rw [if_neg e, if_neg fun x => e (t4_inj x).1]; omega
    refine ⟨fun t ht => ?_, fun k => ?_, fun k => ?_, fun k hk => ?_, fun K hK hin => ?_, fun K hK hin => ?_, ?_⟩
    · rw [← I.oth t ht, backG_step hc]
      unfold bstep
      rw [if_pos q]
      show iset (iset _ _ _) _ _ t = _
      unfold iset
      rw [if_neg (fun e => ht (by rw [e]; exact ⟨q.2, .inr rfl⟩)), if_neg (fun e => ht (by rw [e]; exact ⟨q.2, .inl q.1⟩))]
    · have := I.less k
      rw [evf]
      split <;> omega
    · have := I.more k
      rw [evt]
      split <;> omega
    · have h1 := I.less k
      have h2 := I.both k
      rw [evf] at hk
      rw [evt]
      by_cases e : k = c.k3
      · rw [if_pos e] at hk ⊢
        have e0 : s = s' := by omega
        have e1 : g = g' := by rw [hg, hg', e0]
        have := h2 (by omega)
        omega
      · rw [if_neg e] at hk ⊢
        have := h2 (by omega)
        omega
    · rw [sum_upd hK (k0 := c.k3) (n := s - s') (f := fun k => (allG l (t4 k fr)).getD 0 - vG fr to hr litres got l (i + 1) (t4 k fr)) (by simp only [evf, if_true]; omega) (fun k e => by simp only [evf, if_neg e]; omega), I.lost K hK hin,
        if_pos (hin c (List.mem_of_getElem? hc) q.1 q.2), ← hs, ← hs']
      omega
    · rw [sum_upd hK (k0 := c.k3) (n := g - g') (f := fun k => vG fr to hr litres got l (i + 1) (t4 k to) - (allG l (t4 k to)).getD 0) (by simp only [evt, if_true]; omega) (fun k e => by simp only [evt, if_neg e]; omega), I.won K hK hin, ← hs, ← hs', ← hg, ← hg']
      by_cases e : c.k3 ∈ K
      · rw [if_pos e]; omega
      · rw [if_neg e]
        have h1 := hin _ q.2 e
        have h2 := h.mono c.k3 (show i ≤ l.length by omega)
        have h3 := evt c.k3
        rw [if_pos rfl] at h3
        have h4 := h.pos (show i + 1 ≤ l.length by omega) (t4 c.k3 to)
        omega
    · have h1 := I.took
      rw [← hs'] at h1
      rw [← hs, hhas, show ofF fr hr c = c.litres from if_pos q]
      omega
  · have e := vG_skip (to := to) (litres := litres) (got := got) hc q
    have h1 := I.took
    refine ⟨fun t ht => ?_, fun k => ?_, fun k => ?_, fun k hk => ?_, fun K hK hin => ?_, fun K hK hin => ?_, ?_⟩
    · rw [e]; exact I.oth t ht
    · unfold vG; rw [e]; exact I.less k
    · unfold vG; rw [e]; exact I.more k
    · unfold vG at hk ⊢; rw [e] at hk ⊢; exact I.both k hk
    · unfold vG sG; rw [e]; exact I.lost K hK hin
    · show (K.map fun k => ((backG fr to hr litres got l i).2 (t4 k to)).getD 0 - (allG l (t4 k to)).getD 0).sum = (backG fr to hr litres got l i).1 * got / litres
      rw [e]; exact I.won K hK hin
    · rw [hhas, show ofF fr hr c = 0 from if_neg q, Int.zero_add]
      unfold sG
      rw [e]
      exact h1
theorem RetOk.sen (h : RetOk fr to hr litres got l) : ∀ j i, j + i = l.length → SenI fr to hr litres got l i := by
  intro j
  induction j with
  | zero =>
    intro i hi
    obtain rfl : i = l.length := by omega
    exact SenI.start h
  | succ j ih =>
    intro i hi
    exact SenI.step h (List.getElem?_eq_getElem (show i < l.length by omega)) (ih (i + 1) (by omega))
theorem allG_sumT (h : ClaimsOk l) (t : Ti) : (allG l t).getD 0 = sumT l t := by
  have := allG_sum l.length (Nat.le_refl _) h.nodup t
  rwa [List.take_length] at this
end
end Go.Proofs.Ytcpogcdadlcdaaa

/- Layer 46: what the law asks of the titles, plainly. -/
namespace Go.Proofs.Ytcpogcdadlcdaaa
open Go Go.RowKit Classical

theorem allG_mem {l : List Cm} : ∀ (k : Nat), k ≤ l.length → (l.map Cm.ti).Nodup → ∀ t n, (allG (l.take k) t = some n ↔ ∃ c ∈ l.take k, c.ti = t ∧ c.litres = n) := by
  intro k
  induction k with
  | zero =>
    intro _ _ t n
    constructor
    · intro h; cases h
    · rintro ⟨c, hc, -⟩; cases hc
  | succ k ih =>
    intro hk hn t n
    have hk' : k < l.length := by omega
    have htk : l.take (k + 1) = l.take k ++ [l[k]] := by rw [List.take_add_one, List.getElem?_eq_getElem hk']; rfl
    have ih := ih (by omega) hn t n
    have hn2 := hn.sublist ((List.take_sublist (k + 1) l).map Cm.ti)
    rw [htk, List.map_append, List.nodup_append] at hn2
    rw [htk, allG_snoc]
    unfold iset
    by_cases q : t = l[k].ti
    · rw [if_pos q]
      constructor
      · intro h
        injection h with h
        exact ⟨l[k], List.mem_append_right _ (List.mem_singleton.2 rfl), q.symm, h⟩
      · rintro ⟨c, hc, h1, h2⟩
        rcases List.mem_append.1 hc with hc | hc
        · exact absurd (h1.trans q) (hn2.2.2 c.ti (List.mem_map_of_mem hc) l[k].ti (by simp))
        · rw [List.mem_singleton] at hc
          subst hc
          rw [h2]
    · rw [if_neg q, ih]
      constructor
      · rintro ⟨c, hc, h⟩
        exact ⟨c, List.mem_append_left _ hc, h⟩
      · rintro ⟨c, hc, h1, h2⟩
        rcases List.mem_append.1 hc with hc | hc
        · exact ⟨c, hc, h1, h2⟩
        · rw [List.mem_singleton] at hc
          subst hc
          exact absurd h1.symm q
theorem allG_mem' {l : List Cm} (h : ClaimsOk l) (t : Ti) (n : Int) : allG l t = some n ↔ ∃ c ∈ l, c.ti = t ∧ c.litres = n := by
  have := allG_mem l.length (Nat.le_refl _) h.nodup t n
  rwa [List.take_length] at this
/-- What Retitle's answer is, when there is one. -/
structure SenX (fr to hr litres got : Int) (l x : List Cm) : Prop extends RetOk fr to hr litres got l where
  arg : argB fr to hr litres got = true
  has : litres ≤ hasF fr hr l
  len : x.length ≤ 4096
  nd : (x.map Cm.ti).Nodup
  srt : x.Pairwise fun a b => ltT a.ti b.ti
  mem : ∀ c, c ∈ x ↔ endG fr to hr litres got l c.ti = some c.litres ∧ 0 < c.litres
  le : ∀ t n, endG fr to hr litres got l t = some n → n ≤ 1073741824
section
variable {fr to hr litres got : Int} {l x : List Cm}
theorem RetR.sen (h : RetR fr to hr litres got l x 0) : SenX fr to hr litres got l x := by
  rcases h with ⟨h1, h2, -⟩ | ⟨h1, h2⟩
  · exact absurd h2.symm h1
  have hlen : ¬ 4096 < l.length := fun h => by unfold preErr at h1; rw [if_pos h] at h1; cases h1
  have hok : ClaimsOk l := Classical.byContradiction fun h => by rw [preErr_bad (by omega) h] at h1; cases h1
  have harg : argB fr to hr litres got = true := Classical.byContradiction fun h => by rw [preErr_arg (by omega) hok h] at h1; cases h1
  rw [preErr_has (by omega) hok harg] at h1
  have hhas : ¬ hasF fr hr l < litres := fun h => by rw [if_pos h] at h1; cases h1
  obtain ⟨a1, a2, a3, a4, a5, a6⟩ := argB_iff.1 harg
  rcases h2 with ⟨h2, -⟩ | ⟨h2, y, hy, hm, ⟨h3, h4, -⟩ | ⟨h3, -, h5, h6⟩⟩
  · cases h2
  · cases h4
  subst h5
  exact ⟨⟨hok, a3, a5.1, a5.2, a6.1, a6.2⟩, harg, by omega, h3, hy, h6, hm, h2⟩
variable (h : SenX fr to hr litres got l x)
include h
theorem SenX.sen (i : Nat) (hi : i ≤ l.length) : SenI fr to hr litres got l i := h.toRetOk.sen (l.length - i) i (by omega)
theorem SenX.sum (t : Ti) : sumT x t = vG fr to hr litres got l 0 t := by
  have hp := h.toRetOk.pos (Nat.zero_le _) t
  by_cases q : 0 < vG fr to hr litres got l 0 t
  · have he : endG fr to hr litres got l t = some (vG fr to hr litres got l 0 t) := by
      unfold vG at q ⊢
      unfold endG
      cases e : (backG fr to hr litres got l 0).2 t with
      | none => rw [e] at q; exact absurd q (Int.lt_irrefl _)
      | some n => rfl
    have hm := (h.mem ⟨t.2.2.1, t.2.2.2, t.1, vG fr to hr litres got l 0 t, t.2.1⟩).2 ⟨he, q⟩
    exact sumT_mem h.nd hm
  · have h0 : vG fr to hr litres got l 0 t = 0 := by omega
    rw [h0]
    refine sumT_none fun c hc e => ?_
    obtain ⟨h1, h2⟩ := (h.mem c).1 hc
    rw [e] at h1
    unfold vG at h0
    unfold endG at h1
    rw [h1] at h0
    have h0 : c.litres = 0 := h0
    omega
theorem SenX.nowV (f : Int) (k : T3) : (stM hr f x k).getD 0 = if k.1 = hr then vG fr to hr litres got l 0 (t4 k f) else 0 := by rw [stM_val, h.sum]
omit h in
theorem SenX.wasV (h : ClaimsOk l) (f : Int) (k : T3) : (stM hr f l k).getD 0 = if k.1 = hr then (allG l (t4 k f)).getD 0 else 0 := by rw [stM_val, allG_sumT h]
omit h in
theorem stM_hr {hr f : Int} {l : List Cm} {k : T3} (h : stM hr f l k ≠ none) : k.1 = hr := by
  obtain ⟨c, -, h1, -, h2⟩ := stM_has.1 h
  rw [← h2]; exact h1
/-- What a farm has left is no more than it had. -/
theorem SenX.f1 {k : T3} {n : Int} (hk : stM hr fr l k = some n) : 0 ≤ (stM hr fr x k).getD 0 ∧ (stM hr fr x k).getD 0 ≤ n := by
  have e := stM_hr (k := k) (l := l) (hr := hr) (f := fr) (by rw [hk]; exact fun h => by cases h)
  have h1 := SenX.wasV (hr := hr) h.ok fr k
  have h2 := h.nowV fr k
  rw [if_pos e] at h1 h2
  rw [hk] at h1
  have h3 := (h.sen 0 (Nat.zero_le _)).less k
  have h4 := h.toRetOk.pos (Nat.zero_le _) (t4 k fr)
  have h1 : n = _ := h1
  omega
/-- It has no title that it had not. -/
theorem SenX.f2 {k : T3} (hk : stM hr fr x k ≠ none) : stM hr fr l k ≠ none := by
  obtain ⟨c, hc, h1, h2, h3⟩ := stM_has.1 hk
  have hm := endG_in ((h.mem c).1 hc).1
  rcases List.mem_append.1 hm with hm | hm
  · obtain ⟨a, ha, e⟩ := List.mem_map.1 hm
    have e : t4 a.k3 a.farm = t4 c.k3 c.farm := e
    obtain ⟨e1, e2⟩ := t4_inj e
    exact stM_has.2 ⟨a, ha, by rw [← h1]; exact congrArg Prod.fst e1, by rw [e2]; exact h2, by rw [e1]; exact h3⟩
  · obtain ⟨a, ha, e⟩ := List.mem_map.1 hm
    have e : t4 a.k3 to = t4 c.k3 c.farm := e
    exact absurd (h2.symm.trans (t4_inj e).2.symm) h.ne
/-- The other one has no less. -/
theorem SenX.f3 {k : T3} {n : Int} (hk : stM hr to l k = some n) : n ≤ (stM hr to x k).getD 0 := by
  have e := stM_hr (k := k) (l := l) (hr := hr) (f := to) (by rw [hk]; exact fun h => by cases h)
  have h1 := SenX.wasV (hr := hr) h.ok to k
  have h2 := h.nowV to k
  rw [if_pos e] at h1 h2
  rw [hk] at h1
  have h3 := (h.sen 0 (Nat.zero_le _)).more k
  have h1 : n = _ := h1
  omega
theorem SenX.f4 {k : T3} {n : Int} (hk : stM hr to x k = some n) : (stM hr to l k).getD 0 ≤ n ∧ ((stM hr to l k).getD 0 < n → (stM hr fr l k).getD 0 ≠ (stM hr fr x k).getD 0) := by
  have e := stM_hr (k := k) (l := x) (hr := hr) (f := to) (by rw [hk]; exact fun h => by cases h)
  have h1 := SenX.wasV (hr := hr) h.ok to k
  have h2 := h.nowV to k
  have h3 := SenX.wasV (hr := hr) h.ok fr k
  have h4 := h.nowV fr k
  rw [if_pos e] at h1 h2 h3 h4
  rw [hk] at h2
  have h2 : n = _ := h2
  have h5 := (h.sen 0 (Nat.zero_le _)).more k
  have h6 := (h.sen 0 (Nat.zero_le _)).both k
  refine ⟨by omega, fun h7 h8 => ?_⟩
  have := h6 (by omega)
  omega
theorem SenX.f5 {K : List T3} (hK : K.Nodup) (hm : ∀ k, k ∈ K ↔ stM hr fr l k ≠ none) : (K.map fun k => (stM hr fr l k).getD 0 - (stM hr fr x k).getD 0).sum = litres := by
  have hI := h.sen 0 (Nat.zero_le _)
  have h1 := hI.lost K hK fun c hc h1 h2 => (hm _).2 (stM_has.2 ⟨c, hc, h2, h1, rfl⟩)
  have h2 := hI.took
  rw [List.drop_zero] at h2
  have h3 := h.has
  rw [show litres = sG fr to hr litres got l 0 by omega, ← h1]
  congr 1
  refine List.map_congr_left fun k hk => ?_
  have e := stM_hr ((hm k).1 hk)
  rw [SenX.wasV h.ok, h.nowV, if_pos e, if_pos e]
theorem SenX.f6 {K : List T3} (hK : K.Nodup) (hm : ∀ k, k ∈ K ↔ stM hr to x k ≠ none) : (K.map fun k => (stM hr to x k).getD 0 - (stM hr to l k).getD 0).sum = got := by
  have hI := h.sen 0 (Nat.zero_le _)
  have h1 := hI.won K hK fun k e hk => by
    have h2 := h.nowV to k
    rw [if_pos e, show stM hr to x k = none from Classical.byContradiction fun q => hk ((hm k).2 q)] at h2
    rw [Option.getD_none] at h2
    omega
  have h2 := hI.took
  rw [List.drop_zero] at h2
  have h3 := h.has
  have h4 : sG fr to hr litres got l 0 = litres := by omega
  rw [h4, Int.mul_ediv_cancel_left _ (by have := h.l1; omega)] at h1
  rw [← h1]
  congr 1
  refine List.map_congr_left fun k hk => ?_
  have e := stM_hr ((hm k).1 hk)
  rw [SenX.wasV h.ok, h.nowV, if_pos e, if_pos e]
/-- All other claims remain. -/
theorem SenX.rest : restF hr fr to l = restF hr fr to x := by
  refine sorted_uniq (h.ok.2.filter _) (h.srt.filter _) fun c => ?_
  unfold restF
  rw [List.mem_filter, List.mem_filter]
  refine and_congr_left fun hb => ?_
  have ho : ¬ (c.ti.1 = hr ∧ (c.ti.2.2.2 = fr ∨ c.ti.2.2.2 = to)) := by
    rintro ⟨h1, h2⟩
    have h1 : c.hour = hr := h1
    have h2 : c.farm = fr ∨ c.farm = to := h2
    unfold restB at hb
    rcases h2 with h2 | h2 <;> simp [h1, h2] at hb
  have e := (h.sen 0 (Nat.zero_le _)).oth c.ti ho
  rw [h.mem c]
  unfold endG
  rw [e, allG_mem' h.ok]
  constructor
  · intro hc
    exact ⟨⟨c, hc, rfl, rfl⟩, by have := claimB_iff.1 (h.ok.1 c hc); omega⟩
  · rintro ⟨⟨a, ha, h1, h2⟩, -⟩
    rwa [← cm_ext h1 h2]
/-- What makes a claim valid for a district. -/
def clB (d : Dist) (c : Cm) : Prop := (0 ≤ c.right ∧ c.right < d.rights.length) ∧ (0 ≤ c.farm ∧ c.farm < d.farms.length) ∧ (0 ≤ c.hour ∧ c.hour < d.hours) ∧ (1 ≤ c.litres ∧ c.litres ≤ 1073741824) ∧ ∃ y, d.rights[c.right.toNat]? = some y ∧ y.kind = 1 ∧ y.rank = c.rank
def ClOk (d : Dist) (l : List Cm) : Prop := (∀ c ∈ l, clB d c) ∧ l.Pairwise fun a b => ltT a.ti b.ti
/-- Valid claims remain so. -/
theorem SenX.valid {d : Dist} (hd : ClOk d l) (hto : to < d.farms.length) : ClOk d x := by
  refine ⟨fun c hc => ?_, h.srt⟩
  obtain ⟨h1, h2⟩ := (h.mem c).1 hc
  have h3 := h.le _ _ h1
  have ha := argB_iff.1 h.arg
  rcases List.mem_append.1 (endG_in h1) with hm | hm
  · obtain ⟨a, ha, e⟩ := List.mem_map.1 hm
    obtain ⟨e1, e2⟩ := t4_inj (show t4 a.k3 a.farm = t4 c.k3 c.farm from e)
    simp only [Cm.k3, Prod.mk.injEq] at e1
    obtain ⟨p1, p2, p3, p4, p5⟩ := hd.1 a ha
    rw [e1.2.2, e1.2.1] at p5
    exact ⟨by omega, by omega, by omega, by omega, p5⟩
  · obtain ⟨a, ha', e⟩ := List.mem_map.1 hm
    obtain ⟨e1, e2⟩ := t4_inj (show t4 a.k3 to = t4 c.k3 c.farm from e)
    simp only [Cm.k3, Prod.mk.injEq] at e1
    obtain ⟨p1, p2, p3, p4, p5⟩ := hd.1 a ha'
    rw [e1.2.2, e1.2.1] at p5
    exact ⟨by omega, by omega, by omega, by omega, p5⟩
end
end Go.Proofs.Ytcpogcdadlcdaaa

/- Layer 26: the program's Check. -/
namespace Go.Proofs.Ytcpogcdadlcdaaa
open Go Go.RowKit Classical

def firstN : List Int → Int
  | [] => 0
  | a :: l => if a ≠ 0 then a else firstN l
section
variable {D : Nat → Prop} {w : World}
theorem c_cmpI (x y : Int) : CallZ Try.prog 36 #[iv x, iv y] w (fun v w' => v = iv (cmpN x y) ∧ w' = w) := by
  intro w0 hw
  subst hw
  rw [callsIn_wide]
  refine (kj_Compare x y w0).mono ?_
  rintro e w' ⟨rfl, rfl⟩
  exact ⟨_, rfl, rfl, rfl⟩
theorem c_cfirst {A : Option Addr} {n c : Nat} {l : List Int} (hl : SlR tInt D w A n l) : CallZ Try.prog 51 #[.slice A n c] w (fun v w' => v = iv (firstN l) ∧ w' = w) := by
  have ll := hl.len
  have le := hl.le
  refine fn_rule (args := [.slice A n c]) Try.func51 (by kernel_rfl) ?_
  refine len ?_
  refine loop_rule (fun k : Nat => [(7, iv (k : Int))]) (fun k u => k ≤ n ∧ w = u ∧ firstN l = firstN (l.drop k)) (fun k _ => n - k) 0 ⟨rfl, trivial⟩ ⟨by omega, rfl, rfl⟩ rfl ?_
  rintro G k u ⟨hk, rfl, hf⟩
  refine cD (fun hlt => ?_) (fun hge => ?_)
  · obtain ⟨b, o, cs, a, rfl, ha, hd, -, hc, rfl, -⟩ := hl.at_ (k := k) (by omega)
    refine idx k rfl (by omega) ?_
    refine ld (iv a) (hc 0 _ rfl) ?_
    refine cN (fun g => ?_) (fun g => ?_)
    · exact ret1 (iv a) rfl ⟨by rw [hf, hd]; unfold firstN; rw [if_pos g], rfl⟩
    · refine arI (by omega) ?_
      refine next (k + 1) ⟨by rw [Int.natCast_add]; rfl, trivial⟩ ⟨by omega, rfl, by rw [hf, hd]; exact if_neg (by omega)⟩ (by omega)
  · exact ret1 (iv 0) rfl ⟨by rw [hf, drop_end (by omega)]; rfl, rfl⟩
theorem cmpN_b (a b : Int) : -1 ≤ cmpN a b ∧ cmpN a b ≤ 1 := by
  unfold cmpN
  split
  · omega
  · split <;> omega
theorem c_corder (x y : Cm) : CallZ Try.prog 34 #[.agg (encJ x).toArray, .agg (encJ y).toArray] w (fun v w' => v = iv (cmpT x.ti y.ti) ∧ Ext w w') := by
  refine fn_rule (args := [.agg (encJ x).toArray, .agg (encJ y).toArray]) Try.func34 (by kernel_rfl) ?_
  refine box (fun b2 w1 h1 => ?_)
  refine box (fun b3 w2 h2 => ?_)
  have B2 : Blk w2 b2 60 (encJ x) := h1.blk.ext h2.ext
  have B3 : Blk w2 b3 60 (encJ y) := h2.blk
  have x02 := h1.ext.trans h2.ext
  refine drawP (.take 0 (.take 1 (.take 2 (.take 3 (.take 4 (.take 5 (.take 6 (.take 7 (.take 8 (.take 9 (.take 10 (.take 11 (.take 12 (.take 13 (.take 14 (.take 15 (.take 16 (.take 17 (.take 18 (.take 19 (.eff 20 (.eff 21 (.take 22 .done))))))))))))))))))))))) [] (fun z => Ext w2 z) mx (by kernel_rfl) (.refl _ _) ?_
  refine fldA ?_
  refine ldK (iv x.hour) (B2.cell rfl) trivial (.refl _ _) ?_
  refine fldA ?_
  refine ldK (iv y.hour) (B3.cell rfl) trivial (.refl _ _) ?_
  refine callQ (v := iv (cmpN x.hour y.hour)) (fun u _ => c_cmpI x.hour y.hour) ?_
  refine fldA ?_
  refine ldK (iv x.rank) (B2.cell rfl) trivial (.refl _ _) ?_
  refine fldA ?_
  refine ldK (iv y.rank) (B3.cell rfl) trivial (.refl _ _) ?_
  refine callQ (v := iv (cmpN x.rank y.rank)) (fun u _ => c_cmpI x.rank y.rank) ?_
  refine fldA ?_
  refine ldK (iv x.right) (B2.cell rfl) trivial (.refl _ _) ?_
  refine fldA ?_
  refine ldK (iv y.right) (B3.cell rfl) trivial (.refl _ _) ?_
  refine callQ (v := iv (cmpN x.right y.right)) (fun u _ => c_cmpI x.right y.right) ?_
  refine fldA ?_
  refine ldK (iv x.farm) (B2.cell rfl) trivial (.refl _ _) ?_
  refine fldA ?_
  refine ldK (iv y.farm) (B3.cell rfl) trivial (.refl _ _) ?_
  refine callQ (v := iv (cmpN x.farm y.farm)) (fun u _ => c_cmpI x.farm y.farm) ?_
  have q1 := cmpN_b x.hour y.hour
  have q2 := cmpN_b x.rank y.rank
  have q3 := cmpN_b x.right y.right
  have q4 := cmpN_b x.farm y.farm
  have hres : firstN [cmpN x.hour y.hour, cmpN x.rank y.rank, cmpN x.right y.right, cmpN x.farm y.farm] = cmpT x.ti y.ti := by
    unfold cmpT
    show (if _ then _ else if _ then _ else if _ then _ else if cmpN x.farm y.farm ≠ 0 then cmpN x.farm y.farm else 0) = _
    by_cases p : cmpN x.farm y.farm ≠ 0
    · rw [if_pos p]; rfl
    · rw [if_neg p, show (0 : Int) = cmpN x.farm y.farm by omega]; rfl
  obtain ⟨a1, ha1⟩ : ∃ a, a = cmpN x.hour y.hour := ⟨_, rfl⟩
  obtain ⟨a2, ha2⟩ : ∃ a, a = cmpN x.rank y.rank := ⟨_, rfl⟩
  obtain ⟨a3, ha3⟩ : ∃ a, a = cmpN x.right y.right := ⟨_, rfl⟩
  obtain ⟨a4, ha4⟩ : ∃ a, a = cmpN x.farm y.farm := ⟨_, rfl⟩
  rw [← ha1] at q1
  rw [← ha2] at q2
  rw [← ha3] at q3
  rw [← ha4] at q4
  rw [← ha1, ← ha2, ← ha3, ← ha4] at hres ⊢
  refine lit [iv a1, iv a2, iv a3, iv a4] (fun g w3 hq => ?_)
  have own : OwnF w2 w3 (some (ad g 0)) 4 4 3 1 ([a1, a2, a3, a4].map fun k => .int .i64 k) := OwnF.lit (.refl _ _) hq rfl
  have sl : SlR tInt (fun _ => True) w3 (some (ad g 0)) 4 [a1, a2, a3, a4] := own.ints (fun c hc => by
    simp only [List.mem_cons, List.not_mem_nil, or_false] at hc
    unfold I64
    omega) (by omega) fun _ _ => trivial
  refine strS hq.ext ?_
  refine call_of (c_cfirst sl) ?_
  rintro _ w4 ⟨rfl, rfl⟩
  refine strS hq.ext ?_
  exact ret1 (iv _) rfl ⟨by rw [hres], x02.trans hq.ext⟩
end
noncomputable def clErr (d : Dist) (l : List Cm) : Int := if dErr d ≠ 0 then dErr d else if 4096 < l.length then 2 else if ClOk d l then 0 else 260
theorem clErr_ok {d : Dist} {l : List Cm} : clErr d l = 0 ↔ dErr d = 0 ∧ l.length ≤ 4096 ∧ ClOk d l := by
  unfold clErr
  by_cases h1 : dErr d = 0
  · rw [if_neg (fun h => h h1)]
    by_cases h2 : 4096 < l.length
    · rw [if_pos h2]; exact ⟨fun h => (by cases h), fun h => by omega⟩
    · rw [if_neg h2]
      by_cases h3 : ClOk d l
      · rw [if_pos h3]; exact ⟨fun _ => ⟨h1, by omega, h3⟩, fun _ => rfl⟩
      · rw [if_neg h3]; exact ⟨fun h => (by cases h), fun h => absurd h.2.2 h3⟩
  · rw [if_pos h1]; exact ⟨fun h => absurd h h1, fun h => absurd h.1 h1⟩
theorem ClOk.snoc {d : Dist} {s : List Cm} {c : Cm} : ClOk d (s ++ [c]) ↔ ClOk d s ∧ clB d c ∧ ∀ b, s.getLast? = some b → ltT b.ti c.ti := by
  unfold ClOk
  rw [List.pairwise_append]
  constructor
  · rintro ⟨h1, h2, -, h3⟩
    exact ⟨⟨fun x hx => h1 x (List.mem_append_left _ hx), h2⟩, h1 c (by simp), fun b hb => h3 b (List.mem_of_getLast? hb) c (by simp)⟩
  · rintro ⟨⟨h1, h2⟩, h3, h4⟩
    refine ⟨fun x hx => ?_, h2, List.pairwise_singleton _ _, fun a ha b hb => ?_⟩
    · rw [List.mem_append, List.mem_singleton] at hx
      rcases hx with hx | rfl
      · exact h1 x hx
      · exact h3
    · rw [List.mem_singleton] at hb
      subst hb
      rcases List.eq_nil_or_concat s with rfl | ⟨t, y, rfl⟩
      · cases ha
      rw [List.concat_eq_append] at ha h2 h4
      have hy := h4 y (by simp)
      rw [List.mem_append, List.mem_singleton] at ha
      rcases ha with ha | rfl
      · exact ltT_trans ((List.pairwise_append.1 h2).2.2 a ha y (by simp)) hy
      · exact hy
theorem ClOk.take {d : Dist} {l : List Cm} (h : ClOk d l) (k : Nat) : ClOk d (l.take k) := ⟨fun c hc => h.1 c (List.mem_of_mem_take hc), h.2.sublist (List.take_sublist k l)⟩
section
variable {D : Nat → Prop} {w : World}
set_option maxRecDepth 8000 in
set_option maxHeartbeats 2000000 in
theorem c_clCheck {csd : List Value} {d : Dist} {A : Option Addr} {n c : Nat} {l : List Cm} (hd : DiR D w csd d) (hl : SlR tCm D w A n l) : CallZ Try.prog 16 #[.agg csd.toArray, .slice A n c] w (fun v w' => v = iv (clErr d l) ∧ Ext w w') := by
  have hd0 := hd
  have hlen := hl.len
  obtain ⟨A1, n1, c1, A2, n2, c2, A3, n3, c3, A4, n4, c4, A5, n5, c5, A6, n6, c6, rfl, -, hf, -, hri, -⟩ := hd.ex
  have lf := hf.len
  have lr := hri.len
  refine fn_rule (args := [.agg #[.string d.name, iv d.hours, iv d.cap, iv d.start, .slice A1 n1 c1, .slice A2 n2 c2, .slice A3 n3 c3, .slice A4 n4 c4, .slice A5 n5 c5, .slice A6 n6 c6], .slice A n c]) Try.func16 (by kernel_rfl) ?_
  refine box (fun b2 w1 h1 => ?_)
  have B2 : Blk w1 b2 38 [.string d.name, iv d.hours, iv d.cap, iv d.start, .slice A1 n1 c1, .slice A2 n2 c2, .slice A3 n3 c3, .slice A4 n4 c4, .slice A5 n5 c5, .slice A6 n6 c6] := h1.blk
  refine ldA [.string d.name, iv d.hours, iv d.cap, iv d.start, .slice A1 n1 c1, .slice A2 n2 c2, .slice A3 n3 c3, .slice A4 n4 c4, .slice A5 n5 c5, .slice A6 n6 c6] (.blk B2) rfl ?_
  refine call_of (c_eCheck (hd0.ext h1.ext)) ?_
  rintro _ w2 ⟨rfl, x2⟩
  have B2 := B2.ext x2
  have x02 := h1.ext.trans x2
  refine cN (fun he => ?_) (fun he => ?_)
  · exact ret1 (iv _) rfl ⟨by unfold clErr; rw [if_pos he], x02⟩
  refine len ?_
  refine cD (fun g1 => ?_) (fun g1 => ?_)
  · exact ret1 (iv 2) rfl ⟨by unfold clErr; rw [if_neg (fun h => h he), if_pos (by omega)], x02⟩
  have g1 : n ≤ 4096 := by omega
  have hl2 := hl.ext x02
  have hri2 := hri.ext x02
  have hE : clErr d l = if ClOk d l then 0 else 260 := by unfold clErr; rw [if_neg (fun h => h he), if_neg (by omega)]
  have bad : ¬ ClOk d l → iv 260 = iv (clErr d l) := fun h => by rw [hE, if_neg h]
  refine len ?_
  refine loop_rule (fun k : Nat => [(18, iv (k : Int))]) (fun k u => k ≤ n ∧ Ext w2 u ∧ ClOk d (l.take k)) (fun k _ => n - k) 0 ⟨rfl, trivial⟩ ⟨by omega, .refl _ _, ⟨fun c hc => (by cases hc), .nil⟩⟩ rfl ?_
  rintro G k u ⟨hk, xu, hok⟩
  refine cD (fun hlt => ?_) (fun hge => ?_)
  · obtain ⟨b, o, cs, m, rfl, hm, -, -, hc, rfl⟩ := (hl2.ext xu).at_ (k := k) (by omega)
    have htk : l.take (k + 1) = l.take k ++ [m] := by rw [List.take_add_one, hm]; rfl
    refine idx k rfl (by omega) ?_
    refine ldA (encJ m) hc rfl ?_
    refine alloc (fun b6 u1 a1 => ?_)
    refine stA (vs := encJ m) a1.blk rfl (Nat.le_of_ble_eq_true rfl) (by simp [Value.oneCell']) (fun u2 B6 k2 z2 => ?_)
    have B6 : Blk u2 b6 60 (encJ m) := B6
    have e6 := a1.at_
    have xu2 : Ext u u2 := a1.ext.then k2 fun b hb _ e => by omega
    have x2 := (x02.trans xu).trans xu2
    have B2 := (B2.ext xu).ext xu2
    have hsn : ClOk d l → clB d m ∧ ∀ b, (l.take k).getLast? = some b → ltT b.ti m.ti := fun h => by
      have := h.take (k + 1)
      rw [htk, ClOk.snoc] at this
      exact this.2
    refine fldA ?_
    refine ld (iv m.right) (B6.cell rfl) ?_
    refine cD (fun p0 => ?_) (fun p0 => ?_)
    rotate_left
    · refine drawP (.take 0 (.take 1 (.take 2 (.take 3 (.take 4 (.take 5 (.take 6 (.take 7 (.take 8 (.take 9 (.take 10 (.take 11 (.take 12 (.take 13 (.take 14 (.take 15 (.take 16 (.take 17 (.take 18 (.take 19 (.take 20 (.take 21 (.take 22 (.take 23 (.take 24 (.take 25 (.take 26 (.take 27 (.take 28 (.take 29 (.take 30 (.take 31 (.take 32 (.take 33 (.eff 34 (.take 35 (.take 36 (.take 37 .done)))))))))))))))))))))))))))))))))))))) [] (fun y => Ext u2 y) mx (by kernel_rfl) (.refl _ _) ?_
      refine strS (.refl _ _) ?_
      exact ret1 (iv 260) rfl ⟨bad fun hk => by have := (hsn hk).1.1; omega, x2⟩
    refine fldA ?_
    refine ld (iv m.right) (B6.cell rfl) ?_
    refine fldA ?_
    refine ld (.slice A4 n4 c4) (B2.cell rfl) ?_
    refine len ?_
    refine cD (fun p1 => ?_) (fun p1 => ?_)
    rotate_left
    · refine drawP (.take 0 (.take 1 (.take 2 (.take 3 (.take 4 (.take 5 (.take 6 (.take 7 (.take 8 (.take 9 (.take 10 (.take 11 (.take 12 (.take 13 (.take 14 (.take 15 (.take 16 (.take 17 (.take 18 (.take 19 (.take 20 (.take 21 (.take 22 (.take 23 (.take 24 (.take 25 (.take 26 (.take 27 (.take 28 (.take 29 (.take 30 (.take 31 (.take 32 (.take 33 (.eff 34 (.take 35 (.take 36 (.take 37 .done)))))))))))))))))))))))))))))))))))))) [] (fun y => Ext u2 y) mx (by kernel_rfl) (.refl _ _) ?_
      refine strS (.refl _ _) ?_
      exact ret1 (iv 260) rfl ⟨bad fun hk => by have := (hsn hk).1.1; omega, x2⟩
    refine fldA ?_
    refine ld (iv m.farm) (B6.cell rfl) ?_
    refine cD (fun p2 => ?_) (fun p2 => ?_)
    rotate_left
    · refine drawP (.take 0 (.take 1 (.take 2 (.take 3 (.take 4 (.take 5 (.take 6 (.take 7 (.take 8 (.take 9 (.take 10 (.take 11 (.take 12 (.take 13 (.take 14 (.take 15 (.take 16 (.take 17 (.take 18 (.take 19 (.take 20 (.take 21 (.take 22 (.take 23 (.take 24 (.take 25 (.take 26 (.take 27 (.take 28 (.take 29 (.take 30 (.take 31 (.take 32 (.take 33 (.eff 34 (.take 35 (.take 36 (.take 37 .done)))))))))))))))))))))))))))))))))))))) [] (fun y => Ext u2 y) mx (by kernel_rfl) (.refl _ _) ?_
      refine strS (.refl _ _) ?_
      exact ret1 (iv 260) rfl ⟨bad fun hk => by have := (hsn hk).1.2.1; omega, x2⟩
    refine fldA ?_
    refine ld (iv m.farm) (B6.cell rfl) ?_
    refine fldA ?_
    refine ld (.slice A2 n2 c2) (B2.cell rfl) ?_
    refine len ?_
    refine cD (fun p3 => ?_) (fun p3 => ?_)
    rotate_left
    · refine drawP (.take 0 (.take 1 (.take 2 (.take 3 (.take 4 (.take 5 (.take 6 (.take 7 (.take 8 (.take 9 (.take 10 (.take 11 (.take 12 (.take 13 (.take 14 (.take 15 (.take 16 (.take 17 (.take 18 (.take 19 (.take 20 (.take 21 (.take 22 (.take 23 (.take 24 (.take 25 (.take 26 (.take 27 (.take 28 (.take 29 (.take 30 (.take 31 (.take 32 (.take 33 (.eff 34 (.take 35 (.take 36 (.take 37 .done)))))))))))))))))))))))))))))))))))))) [] (fun y => Ext u2 y) mx (by kernel_rfl) (.refl _ _) ?_
      refine strS (.refl _ _) ?_
      exact ret1 (iv 260) rfl ⟨bad fun hk => by have := (hsn hk).1.2.1; omega, x2⟩
    refine fldA ?_
    refine ld (iv m.hour) (B6.cell rfl) ?_
    refine cD (fun p4 => ?_) (fun p4 => ?_)
    rotate_left
    · refine drawP (.take 0 (.take 1 (.take 2 (.take 3 (.take 4 (.take 5 (.take 6 (.take 7 (.take 8 (.take 9 (.take 10 (.take 11 (.take 12 (.take 13 (.take 14 (.take 15 (.take 16 (.take 17 (.take 18 (.take 19 (.take 20 (.take 21 (.take 22 (.take 23 (.take 24 (.take 25 (.take 26 (.take 27 (.take 28 (.take 29 (.take 30 (.take 31 (.take 32 (.take 33 (.eff 34 (.take 35 (.take 36 (.take 37 .done)))))))))))))))))))))))))))))))))))))) [] (fun y => Ext u2 y) mx (by kernel_rfl) (.refl _ _) ?_
      refine strS (.refl _ _) ?_
      exact ret1 (iv 260) rfl ⟨bad fun hk => by have := (hsn hk).1.2.2.1; omega, x2⟩
    refine fldA ?_
    refine ld (iv m.hour) (B6.cell rfl) ?_
    refine fldA ?_
    refine ld (iv d.hours) (B2.cell rfl) ?_
    refine cD (fun p5 => ?_) (fun p5 => ?_)
    rotate_left
    · refine drawP (.take 0 (.take 1 (.take 2 (.take 3 (.take 4 (.take 5 (.take 6 (.take 7 (.take 8 (.take 9 (.take 10 (.take 11 (.take 12 (.take 13 (.take 14 (.take 15 (.take 16 (.take 17 (.take 18 (.take 19 (.take 20 (.take 21 (.take 22 (.take 23 (.take 24 (.take 25 (.take 26 (.take 27 (.take 28 (.take 29 (.take 30 (.take 31 (.take 32 (.take 33 (.eff 34 (.take 35 (.take 36 (.take 37 .done)))))))))))))))))))))))))))))))))))))) [] (fun y => Ext u2 y) mx (by kernel_rfl) (.refl _ _) ?_
      refine strS (.refl _ _) ?_
      exact ret1 (iv 260) rfl ⟨bad fun hk => by have := (hsn hk).1.2.2.1; omega, x2⟩
    refine fldA ?_
    refine ld (iv m.litres) (B6.cell rfl) ?_
    refine cD (fun p6 => ?_) (fun p6 => ?_)
    rotate_left
    · refine drawP (.take 0 (.take 1 (.take 2 (.take 3 (.take 4 (.take 5 (.take 6 (.take 7 (.take 8 (.take 9 (.take 10 (.take 11 (.take 12 (.take 13 (.take 14 (.take 15 (.take 16 (.take 17 (.take 18 (.take 19 (.take 20 (.take 21 (.take 22 (.take 23 (.take 24 (.take 25 (.take 26 (.take 27 (.take 28 (.take 29 (.take 30 (.take 31 (.take 32 (.take 33 (.eff 34 (.take 35 (.take 36 (.take 37 .done)))))))))))))))))))))))))))))))))))))) [] (fun y => Ext u2 y) mx (by kernel_rfl) (.refl _ _) ?_
      refine strS (.refl _ _) ?_
      exact ret1 (iv 260) rfl ⟨bad fun hk => by have := (hsn hk).1.2.2.2.1; omega, x2⟩
    refine fldA ?_
    refine ld (iv m.litres) (B6.cell rfl) ?_
    refine cD (fun p7 => ?_) (fun p7 => ?_)
    rotate_left
    · refine drawP (.take 0 (.take 1 (.take 2 (.take 3 (.take 4 (.take 5 (.take 6 (.take 7 (.take 8 (.take 9 (.take 10 (.take 11 (.take 12 (.take 13 (.take 14 (.take 15 (.take 16 (.take 17 (.take 18 (.take 19 (.take 20 (.take 21 (.take 22 (.take 23 (.take 24 (.take 25 (.take 26 (.take 27 (.take 28 (.take 29 (.take 30 (.take 31 (.take 32 (.take 33 (.eff 34 (.take 35 (.take 36 (.take 37 .done)))))))))))))))))))))))))))))))))))))) [] (fun y => Ext u2 y) mx (by kernel_rfl) (.refl _ _) ?_
      refine strS (.refl _ _) ?_
      exact ret1 (iv 260) rfl ⟨bad fun hk => by have := (hsn hk).1.2.2.2.1; omega, x2⟩
    have hrn : m.right.toNat < n4 := by omega
    obtain ⟨br, orr, csr, y, rfl, hy, -, -, hcr, rfl⟩ := ((hri2.ext xu).ext xu2).at_ hrn
    have hyu : ∀ y', d.rights[m.right.toNat]? = some y' → y' = y := fun y' h => by rw [hy] at h; injection h with h; exact h.symm
    refine drawP (.take 0 (.take 1 (.take 2 (.take 3 (.take 4 (.take 5 (.take 6 (.take 7 (.take 8 (.take 9 (.take 10 (.take 11 (.take 12 (.take 13 (.take 14 (.take 15 (.take 16 (.take 17 (.take 18 (.take 19 (.take 20 (.take 21 (.take 22 (.take 23 (.take 24 (.take 25 (.take 26 (.take 27 (.take 28 (.take 29 (.take 30 (.take 31 (.take 32 (.take 33 (.eff 34 (.take 35 (.take 36 (.take 37 .done)))))))))))))))))))))))))))))))))))))) [] (fun y => Ext u2 y) mx (by kernel_rfl) (.refl _ _) ?_
    refine fldA ?_
    refine ldK (.slice (some (ad br orr)) n4 c4) (B2.cell rfl) trivial (.refl _ _) ?_
    refine fldA ?_
    refine ldK (iv m.right) (B6.cell rfl) trivial (.refl _ _) ?_
    refine idx m.right.toNat (by omega) (by omega) ?_
    refine fldA ?_
    refine ldK (iv y.kind) (hcr 1 _ rfl) trivial (.refl _ _) ?_
    refine cN (fun p8 => ?_) (fun p8 => ?_)
    · refine strS (.refl _ _) ?_
      exact ret1 (iv 260) rfl ⟨bad fun hk => by
        obtain ⟨y', e1, e2, -⟩ := (hsn hk).1.2.2.2.2
        rw [hyu _ e1] at e2; exact p8 e2, x2⟩
    refine fldA ?_
    refine ldK (.slice (some (ad br orr)) n4 c4) (B2.cell rfl) trivial (.refl _ _) ?_
    refine fldA ?_
    refine ldK (iv m.right) (B6.cell rfl) trivial (.refl _ _) ?_
    refine idx m.right.toNat (by omega) (by omega) ?_
    refine fldA ?_
    refine ldK (iv y.rank) (hcr 4 _ rfl) trivial (.refl _ _) ?_
    refine fldA ?_
    refine ldK (iv m.rank) (B6.cell rfl) trivial (.refl _ _) ?_
    refine cN (fun p9 => ?_) (fun p9 => ?_)
    · refine strS (.refl _ _) ?_
      exact ret1 (iv 260) rfl ⟨bad fun hk => by
        obtain ⟨y', e1, -, e2⟩ := (hsn hk).1.2.2.2.2
        rw [hyu _ e1] at e2; exact p9 e2, x2⟩
    have hcl : clB d m := ⟨by omega, by omega, by omega, by omega, y, hy, p8, p9⟩
    refine cD (fun hk0 => ?_) (fun hk0 => ?_)
    · obtain ⟨k1, hk1⟩ : ∃ j, k = j + 1 := ⟨k - 1, by omega⟩
      obtain ⟨bp, op, csp, mp, hA, hmp, -, -, hcp, rfl⟩ := ((hl2.ext xu).ext xu2).at_ (k := k1) (by omega)
      injection hA with hA
      injection hA with hA1 hA2
      subst hA1; subst hA2
      have hlast : (l.take k).getLast? = some mp := by rw [hk1, List.take_add_one, hmp]; simp
      refine arI (by omega) ?_
      rw [show (k : Int) - 1 = (k1 : Int) by omega]
      refine idx k1 rfl (by omega) ?_
      refine ldAK (encJ mp) hcp rfl trivial (.refl _ _) ?_
      refine ldAK (encJ m) (.blk B6) rfl trivial (.refl _ _) ?_
      refine call_of (c_corder mp m) ?_
      rintro _ u3 ⟨rfl, xu3⟩
      refine strS xu3 ?_
      refine cD (fun hge => ?_) (fun hlt5 => ?_)
      · exact ret1 (iv 260) rfl ⟨bad fun hk => absurd (cmpT_lt.2 ((hsn hk).2 mp hlast)) (by omega), x2.trans xu3⟩
      · refine arI (by omega) ?_
        refine next (k + 1) ⟨by rw [Int.natCast_add]; rfl, trivial⟩ ⟨by omega, (xu.trans xu2).trans xu3, ?_⟩ (by omega)
        rw [htk, ClOk.snoc]
        exact ⟨hok, hcl, fun b hb => by rw [hlast] at hb; injection hb with hb; subst hb; exact cmpT_lt.1 (by omega)⟩
    · refine strS (.refl _ _) ?_
      refine arI (by omega) ?_
      refine next (k + 1) ⟨by rw [Int.natCast_add]; rfl, trivial⟩ ⟨by omega, xu.trans xu2, ?_⟩ (by omega)
      rw [htk, ClOk.snoc]
      exact ⟨hok, hcl, fun b hb => by rw [show k = 0 by omega] at hb; cases hb⟩
  · rw [List.take_of_length_le (by omega)] at hok
    exact ret1 (iv 0) rfl ⟨by rw [hE, if_pos hok], x02.trans xu⟩
end
end Go.Proofs.Ytcpogcdadlcdaaa
