/- Contracts: the chapter's examples. -/
import Derived.Test.YtpmmhcgghldaaaaDoorR2
import Derived.Test.YtpmmhcgghldaaaaDoorVn
namespace Go.Proofs.YtpmmhcgghldaaaaDoor
open Go Go.RowKit

theorem rep_deep : ∀ {d : Nat} {D : Nat → Prop} {w : World} {cs : List Value} {t : Tr}, (tTr d).rep D w cs t → deep d t
  | 0, _, _, _, _, h => h.elim
  | d + 1, D, w, cs, t, h => by
    obtain ⟨_, _, _, _, _, _, rfl, _, _, _, hk, _⟩ := tr_open h
    intro k hk'
    obtain ⟨i, hi⟩ := List.getElem?_of_mem hk'
    obtain ⟨_, _, _, _, _, _, hr⟩ := hk.2.2 i k hi
    exact rep_deep hr
abbrev L0 : List (List Int) := [[0], [1], [2]]
abbrev P0 : List Pr := [(5, [0]), (2, [1]), (4, [0, 1])]
abbrev T0 : Tr := .mk 1 [] [.mk 2 [] [.mk 0 [2] [], .mk 0 [0] []], .mk 0 [1] []]
theorem ex_best : pbestL L0 P0 = (T0, 6, 0) := by kernel_rfl
theorem ex_next : pnextL L0 P0 = (1, true, 0) := by kernel_rfl
theorem ex_best0 : pbestL [] [] = (.mk 0 [] [], 0, 0) := by kernel_rfl
theorem ex_next1 : (pnextL [[0]] P0).2 = (false, 0) := by kernel_rfl
theorem ex_check1 : checkL [[3, 3]] [] = 500 := by kernel_rfl
theorem ex_check2 : checkL [] [(0, [])] = 500 := by kernel_rfl
theorem T0_deep {f : Nat} (h : deep f T0) : ∃ g, f = g + 3 := by
  rcases f with _ | _ | _ | g
  · exact h.elim
  · exact (h _ List.mem_cons_self).elim
  · exact (h _ List.mem_cons_self _ List.mem_cons_self).elim
  · exact ⟨g, rfl⟩
theorem ex_worth (g : Nat) : pworthL L0 P0 (g + 3) T0 = (6, true, 0) := by
  rw [pworthL_eq]
  have h : rworthF L0 P0 (g + 3) T0 (full 3) = 6 := by kernel_rfl
  unfold rworthL
  rw [if_neg (by decide), show full L0.length = full 3 from rfl, h]; rfl
theorem ex_follow (g : Nat) : pfollowL L0 P0 (g + 3) T0 [2] = ([2], 6, 0) := by
  rw [pfollowL_eq]
  unfold rfollowL
  rw [← pworthL_eq, ex_worth, if_neg (by decide), if_neg (by decide)]
  kernel_rfl
theorem ex_worth0 (g : Nat) : (pworthL [] [] (g + 1) (.mk 0 [0] [])).2 = (false, 0) := by kernel_rfl
theorem pr_mk {D : Nat → Prop} {w : World} {x : Pr} {A : Option Addr} {n c : Nat} (h1 : I64 x.1) (h2 : SlR tInt D w A n x.2) (h3 : n ≤ c) : tPr.rep D w [.int .i64 x.1, .slice A n c] x := ⟨[_], [_], rfl, ⟨rfl, h1⟩, A, n, c, rfl, h2, h3⟩
/-- A tree's cells as a slice's elements. -/
theorem flat_tr2 {d : Nat} {D : Nat → Prop} {w : World} {a b : Tr} {x1 x2 x3 y1 y2 y3 : Value} (ha : (tTr d).rep D w [x1, x2, x3] a) (hb : (tTr d).rep D w [y1, y2, y3] b) : FlatR (tTr d) D w [a, b] [x1, x2, x3, y1, y2, y3] := ⟨[_, _, _], [_, _, _], rfl, ha, [_, _, _], [], rfl, hb, rfl⟩

set_option maxRecDepth 20000 in
theorem c_sane {w : World} (hT : TabW w) : CallZ Tryd.prog 8 #[] w (fun v w' => v = .bool true ∧ Ext w w') := by
  refine fn_rule (args := []) Tryd.func8 (by kernel_rfl) ?_
  refine lit [.int .i64 0] (fun g1 w1 h1 => ?_)
  have q1 := h1.sl (xs := [0]) (D := All) trivial
  refine lit [.int .i64 1] (fun g2 w2 h2 => ?_)
  have q2 := h2.sl (xs := [1]) (D := All) trivial
  refine lit [.int .i64 2] (fun g3 w3 h3 => ?_)
  have q3 := h3.sl (xs := [2]) (D := All) trivial
  refine lit [.slice (some (ad g1 0)) 1 1, .slice (some (ad g2 0)) 1 1, .slice (some (ad g3 0)) 1 1] (fun g4 w4 h4 => ?_)
  have x34 := h4.ext
  have x24 := h3.ext.trans x34
  have x14 := h2.ext.trans x24
  have x04 := h1.ext.trans x14
  have hl : SlR tInts All w4 (some (ad g4 0)) 3 L0 := SlR.of_cells rfl (by decide) trivial (.blk h4.blk)
    ⟨[_], [_, _], rfl, ⟨_, _, _, rfl, q1.ext x14, Nat.le_refl _⟩, [_], [_], rfl, ⟨_, _, _, rfl, q2.ext x24, Nat.le_refl _⟩, [_], [], rfl, ⟨_, _, _, rfl, q3.ext x34, Nat.le_refl _⟩, rfl⟩
  refine lit [.int .i64 0] (fun g5 w5 h5 => ?_)
  have q5 := h5.sl (xs := [0]) (D := All) trivial
  refine bld [.int .i64 5, .slice (some (ad g5 0)) 1 1] (by kernel_rfl) ?_
  refine lit [.int .i64 1] (fun g6 w6 h6 => ?_)
  have q6 := h6.sl (xs := [1]) (D := All) trivial
  refine bld [.int .i64 2, .slice (some (ad g6 0)) 1 1] (by kernel_rfl) ?_
  refine lit [.int .i64 0, .int .i64 1] (fun g7 w7 h7 => ?_)
  have q7 := h7.sl (xs := [0, 1]) (D := All) trivial
  refine bld [.int .i64 4, .slice (some (ad g7 0)) 2 2] (by kernel_rfl) ?_
  refine lit [.agg #[.int .i64 5, .slice (some (ad g5 0)) 1 1], .agg #[.int .i64 2, .slice (some (ad g6 0)) 1 1], .agg #[.int .i64 4, .slice (some (ad g7 0)) 2 2]] (fun g8 w8 h8 => ?_)
  have x78 := h8.ext
  have x68 := h7.ext.trans x78
  have x58 := h6.ext.trans x68
  have x48 := h5.ext.trans x58
  have x08 := x04.trans x48
  have hp : SlR tPr All w8 (some (ad g8 0)) 3 P0 := SlR.of_cells rfl (by decide) trivial (.blk h8.blk)
    ⟨[_, _], [_, _, _, _], rfl, pr_mk (x := (5, [0])) ⟨by decide, by decide⟩ (q5.ext x58) (Nat.le_refl _), [_, _], [_, _], rfl, pr_mk (x := (2, [1])) ⟨by decide, by decide⟩ (q6.ext x68) (Nat.le_refl _), [_, _], [], rfl, pr_mk (x := (4, [0, 1])) ⟨by decide, by decide⟩ (q7.ext x78) (Nat.le_refl _), rfl⟩
  have cB := fun c d => c_Best (c := c) (d := d) (hl.ext x48) hp (hT.ext x08)
  rw [ex_best] at cB
  refine call_of (cB _ _) ?_
  rintro _ w9 ⟨cs, f, rfl, hr, -, hx9⟩
  obtain ⟨g, rfl⟩ := T0_deep (rep_deep hr)
  obtain ⟨A3, n3, c3, A4, n4, c4, rfl, -⟩ := tr_open hr
  refine alloc (fun r3 w10 h10 => ?_)
  refine stA (vs := [_, _, _]) h10.blk rfl (Nat.le_of_ble_eq_true rfl) (by simp [Value.oneCell']) (fun w11 hb11 k11 z11 => ?_)
  have e10 := h10.at_
  have s9 := hx9.size
  have x911 : Ext w9 w11 := h10.ext.then k11 (fun b hb _ e => by omega)
  have x811 := hx9.trans x911
  have hr11 := (tTr (g + 3)).ext hr x911
  have hl11 := hl.ext (x48.trans x811)
  have hp11 := hp.ext x811
  have hT11 := hT.ext (x08.trans x811)
  have cNx := fun c d => c_Next (c := c) (d := d) hl11 hp11
  rw [ex_next] at cNx
  refine call_of (cNx _ _) ?_
  rintro _ w12 ⟨rfl, x12⟩
  refine ldA [_, _, _] (.blk (hb11.ext x12)) rfl ?_
  have cW := fun c d => c_Worth (c := c) (d := d) (hl11.ext x12) (hp11.ext x12) (hT11.ext x12) ((tTr (g + 3)).ext hr11 x12)
  rw [ex_worth] at cW
  refine call_of (cW _ _) ?_
  rintro _ w13 ⟨rfl, x13⟩
  have x1113 := x12.trans x13
  refine ldA [_, _, _] (.blk (hb11.ext x1113)) rfl ?_
  refine lit [.int .i64 2] (fun g14 w14 h14 => ?_)
  have q14 := h14.sl (xs := [2]) (D := All) trivial
  have x1114 := x1113.trans h14.ext
  have cF := fun c d e => c_Follow (c := c) (d := d) (e := e) (hl11.ext x1114) (hp11.ext x1114) (hT11.ext x1114) ((tTr (g + 3)).ext hr11 x1114) q14
  rw [ex_follow] at cF
  refine call_of (cF _ _ _) ?_
  rintro _ w15 ⟨A5, n5, c5, rfl, q15, x15⟩
  have x1115 := x1114.trans x15
  have cB0 := fun A A' c d => c_Best (w := w15) (A := A) (A' := A') (c := c) (d := d) (D := All) (.nil) (.nil) (hT11.ext x1115)
  rw [ex_best0] at cB0
  refine call_of (cB0 _ _ _ _) ?_
  rintro _ w16 ⟨cs0, f0, rfl, hr0, -, x16⟩
  obtain ⟨f0, rfl⟩ := tr_pos hr0
  obtain ⟨A6, n6, c6, A7, n7, c7, rfl, -⟩ := tr_open hr0
  refine alloc (fun r15 w17 h17 => ?_)
  refine stA (vs := [_, _, _]) h17.blk rfl (Nat.le_of_ble_eq_true rfl) (by simp [Value.oneCell']) (fun w18 hb18 k18 z18 => ?_)
  have e17 := h17.at_
  have x1618 : Ext w16 w18 := h17.ext.then k18 (fun b hb _ e => by omega)
  have hr018 := (tTr (f0 + 1)).ext hr0 x1618
  have x1518 := x16.trans x1618
  have x1118 := x1115.trans x1518
  refine slcR 0 1 (hl11.ext x1118) (by decide) rfl rfl (by decide) (by decide) rfl (fun A8 hA8 => ?_)
  have cN1 := fun c d => c_Next (c := c) (d := d) (hA8 All w18 (hl11.ext x1118)) (hp11.ext x1118)
  have en1 : pnextL (([[0], [1], [2]] : List (List Int)).take 1 |>.drop 0) P0 = ((pnextL [[0]] P0).1, false, 0) := Prod.ext rfl ex_next1
  rw [en1] at cN1
  refine call_of (cN1 _ _) ?_
  rintro _ w19 ⟨rfl, x19⟩
  have x1119 := x1118.trans x19
  refine lit [.int .i64 0] (fun g20 w20 h20 => ?_)
  have q20 := h20.sl (xs := [0]) (D := All) trivial
  refine bld [.int .i64 0, .slice (some (ad g20 0)) 1 1, .slice none 0 0] (by kernel_rfl) ?_
  have x1120 := x1119.trans h20.ext
  have cW0 := fun A A' c d => c_Worth (w := w20) (A := A) (A' := A') (c := c) (d := d) (D := All) (.nil) (.nil) (hT11.ext x1120) (tr_mk (d := 0) (t := .mk 0 [0] []) (A' := none) (n' := 0) (c' := 0) ⟨by decide, by decide⟩ q20 (Nat.le_refl 1) .nil (Nat.le_refl 0))
  have ew0 : pworthL [] [] (0 + 1) (.mk 0 [0] []) = ((pworthL [] [] (0 + 1) (.mk 0 [0] [])).1, false, 0) := Prod.ext rfl (ex_worth0 0)
  rw [ew0] at cW0
  refine call_of (cW0 _ _ _ _) ?_
  rintro _ w21 ⟨rfl, x21⟩
  have x1121 := x1120.trans x21
  refine cN (fun h => absurd rfl h) (fun _ => ?_)
  refine cN (fun h => absurd rfl h) (fun _ => ?_)
  refine cN (fun h => absurd rfl h) (fun _ => ?_)
  refine cN (fun h => absurd rfl h) (fun _ => ?_)
  refine cN (fun h => absurd rfl h) (fun _ => ?_)
  refine cN (fun h => absurd rfl h) (fun _ => ?_)
  refine cN (fun h => absurd rfl h) (fun _ => ?_)
  refine lit [.int .i64 3, .int .i64 3] (fun g22 w22 h22 => ?_)
  have q22 := h22.sl (xs := [3, 3]) (D := All) trivial
  refine lit [.slice (some (ad g22 0)) 2 2] (fun g23 w23 h23 => ?_)
  have q23 : SlR tInts All w23 (some (ad g23 0)) 1 [[3, 3]] := SlR.of_cells rfl (by decide) trivial (.blk h23.blk) ⟨[_], [], rfl, ⟨_, _, _, rfl, q22.ext h23.ext, Nat.le_refl _⟩, rfl⟩
  have cC1 := fun A' c d => c_Check (A' := A') (c := c) (d := d) (p := []) q23 .nil
  rw [ex_check1] at cC1
  refine call_of (cC1 _ _ _) ?_
  rintro _ w24 ⟨rfl, x24'⟩
  refine cN (fun h => absurd rfl h) (fun _ => ?_)
  refine bld [.int .i64 0, .slice none 0 0] (by kernel_rfl) ?_
  refine lit [.agg #[.int .i64 0, .slice none 0 0]] (fun g25 w25 h25 => ?_)
  have q25 : SlR tPr All w25 (some (ad g25 0)) 1 [(0, [])] := SlR.of_cells rfl (by decide) trivial (.blk h25.blk) ⟨[_, _], [], rfl, pr_mk (x := (0, [])) ⟨by decide, by decide⟩ .nil (Nat.le_refl _), rfl⟩
  have cC2 := fun A c d => c_Check (A := A) (c := c) (d := d) (l := []) .nil q25
  rw [ex_check2] at cC2
  refine call_of (cC2 _ _ _) ?_
  rintro _ w26 ⟨rfl, x26⟩
  refine cN (fun h => absurd rfl h) (fun _ => ?_)
  have x2126 := ((h22.ext.trans h23.ext).trans (x24'.trans h25.ext)).trans x26
  have x1126 := x1121.trans x2126
  refine lit [.int .i64 2] (fun g27 w27 h27 => ?_)
  have q27 := h27.sl (xs := [2]) (D := All) trivial
  refine bld [.int .i64 0, .slice (some (ad g27 0)) 1 1, .slice none 0 0] (by kernel_rfl) ?_
  refine lit [.int .i64 0] (fun g28 w28 h28 => ?_)
  have q28 := h28.sl (xs := [0]) (D := All) trivial
  refine bld [.int .i64 0, .slice (some (ad g28 0)) 1 1, .slice none 0 0] (by kernel_rfl) ?_
  refine lit [.agg #[.int .i64 0, .slice (some (ad g27 0)) 1 1, .slice none 0 0], .agg #[.int .i64 0, .slice (some (ad g28 0)) 1 1, .slice none 0 0]] (fun g29 w29 h29 => ?_)
  refine bld [.int .i64 2, .slice none 0 0, .slice (some (ad g29 0)) 2 2] (by kernel_rfl) ?_
  refine lit [.int .i64 1] (fun g30 w30 h30 => ?_)
  have q30 := h30.sl (xs := [1]) (D := All) trivial
  refine bld [.int .i64 0, .slice (some (ad g30 0)) 1 1, .slice none 0 0] (by kernel_rfl) ?_
  refine lit [.agg #[.int .i64 2, .slice none 0 0, .slice (some (ad g29 0)) 2 2], .agg #[.int .i64 0, .slice (some (ad g30 0)) 1 1, .slice none 0 0]] (fun g31 w31 h31 => ?_)
  refine bld [.int .i64 1, .slice none 0 0, .slice (some (ad g31 0)) 2 2] (by kernel_rfl) ?_
  have z : I64 0 := ⟨by decide, by decide⟩
  have lf : ∀ {w : World} {g : Nat} {i : Int}, SlR tInt All w (some (ad g 0)) 1 [i] → (tTr 1).rep All w [.int .i64 0, .slice (some (ad g 0)) 1 1, .slice none 0 0] (.mk 0 [i] []) := fun h => tr_mk (d := 0) (t := .mk 0 _ []) z h (Nat.le_refl _) .nil (Nat.le_refl _)
  have k29 : SlR (tTr 1) All w29 (some (ad g29 0)) 2 [.mk 0 [2] [], .mk 0 [0] []] := SlR.of_cells rfl (by decide) trivial (.blk h29.blk) (flat_tr2 (lf (q27.ext (h28.ext.trans h29.ext))) (lf (q28.ext h29.ext)))
  have t2 : (tTr 2).rep All w31 [.int .i64 2, .slice none 0 0, .slice (some (ad g29 0)) 2 2] (.mk 2 [] [.mk 0 [2] [], .mk 0 [0] []]) := tr_mk (d := 1) (t := .mk 2 [] [.mk 0 [2] [], .mk 0 [0] []]) ⟨by decide, by decide⟩ .nil (Nat.le_refl _) (k29.ext (h30.ext.trans h31.ext)) (Nat.le_refl _)
  have k31 : SlR (tTr 2) All w31 (some (ad g31 0)) 2 [.mk 2 [] [.mk 0 [2] [], .mk 0 [0] []], .mk 0 [1] []] := SlR.of_cells rfl (by decide) trivial (.blk h31.blk) (flat_tr2 t2 (tr_up (lf (q30.ext h31.ext))))
  have t3 : (tTr 3).rep All w31 [.int .i64 1, .slice none 0 0, .slice (some (ad g31 0)) 2 2] T0 := tr_mk (d := 2) (t := T0) ⟨by decide, by decide⟩ .nil (Nat.le_refl _) k31 (Nat.le_refl _)
  refine alloc (fun r32 w32 h32 => ?_)
  refine stA (vs := [_, _, _]) h32.blk rfl (Nat.le_of_ble_eq_true rfl) (by simp [Value.oneCell']) (fun w33 hb33 k33 z33 => ?_)
  have e32 := h32.at_
  have x3133 : Ext w31 w33 := h32.ext.then k33 (fun b hb _ e => by omega)
  have x2631 := ((h27.ext.trans h28.ext).trans (h29.ext.trans h30.ext)).trans h31.ext
  have x1133 := x1126.trans (x2631.trans x3133)
  refine ldA [_, _, _] (.blk (hb11.ext x1133)) rfl ?_
  refine ldA [_, _, _] (.blk hb33) rfl ?_
  have eS : sameF 4 T0 T0 = true := by kernel_rfl
  have cS := c_Same 4 T0 T0 _ _ _ _ _ _ w33 (by decide) ((tTr (g + 3)).ext hr11 x1133) ((tTr 3).ext t3 x3133)
  rw [eS] at cS
  refine call_of cS ?_
  rintro _ w34 ⟨rfl, x34'⟩
  refine cE (fun _ => ?_) (fun h => absurd rfl h)
  refine cE (fun _ => ?_) (fun h => absurd rfl h)
  refine cE (fun _ => ?_) (fun h => absurd rfl h)
  refine lit [.int .i64 2] (fun g35 w35 h35 => ?_)
  have q35 := h35.sl (xs := [2]) (D := All) trivial
  have x1835 : Ext w18 w35 := ((x19.trans h20.ext).trans x21).trans (x2126.trans ((x2631.trans x3133).trans (x34'.trans h35.ext)))
  refine callB (b := true) (c_SameInts (q15.ext (x1518.trans x1835)) q35) (fun _ => ?_) (fun h => by cases h)
  refine cE (fun _ => ?_) (fun h => absurd rfl h)
  refine ldA [_, _, _] (.blk (hb18.ext x1835)) rfl ?_
  refine bld [.int .i64 0, .slice none 0 0, .slice none 0 0] (by kernel_rfl) ?_
  have eS0 : sameF 1 (.mk 0 [] []) (.mk 0 [] []) = true := by kernel_rfl
  have cS0 := c_Same 1 (.mk 0 [] []) (.mk 0 [] []) _ _ _ _ _ _ w35 (by decide) ((tTr (f0 + 1)).ext hr018 x1835) (tr_leaf (d := 0) (D := All) (w := w35))
  rw [eS0] at cS0
  refine call_of cS0 ?_
  rintro _ w36 ⟨rfl, x36⟩
  refine cE (fun _ => ?_) (fun h => absurd rfl h)
  exact ret1 (.bool true) rfl ⟨rfl, ((x08.trans x811).trans x1118).trans (x1835.trans x36)⟩
end Go.Proofs.YtpmmhcgghldaaaaDoor
