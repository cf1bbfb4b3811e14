/- Parts of the proof: Lv Lw Lx Ly M1 M2 M3. -/
import Derived.Test.YtehcphboliofaaaGreatDoorPT12
import Derived.Test.YtehcphboliofaaaGreatDoorPT11
import Derived.Test.YtehcphboliofaaaGreatDoorPT4
import Derived.Test.YtehcphboliofaaaGreatDoorPT9

/- Layer 4: Sync. -/
namespace Go.Proofs.YtehcphboliofaaaGreatDoor
open Go Go.RowKit

noncomputable def tornP (d : Dsk) : Dsk := match d.pend[d.left.toNat]? with
  | some x => ⟨(perfP d.secs (d.pend.take d.left.toNat)).set x.at_.toNat (x.data.take 64 ++ ((perfP d.secs (d.pend.take d.left.toNat)).getD x.at_.toNat []).drop 64), [], 0, true⟩
  | none => zeroD
noncomputable def syncP (d : Dsk) : Dsk × Int := if runsB d = false then (zeroD, 40) else if 0 ≤ d.left ∧ d.left < d.pend.length then (tornP d, 40)
  else (⟨perfP d.secs d.pend, [], if 0 ≤ d.left then d.left - d.pend.length else d.left, false⟩, 0)
theorem perfP_128 {s : List (List Nat)} {l : List Wr} (hs : ∀ x ∈ s, x.length = 128) (hl : ∀ x ∈ l, x.data.length = 128) : ∀ x ∈ perfP s l, x.length = 128 := by
  induction l generalizing s with
  | nil => exact hs
  | cons y l ih =>
    refine ih (s := s.set y.at_.toNat y.data) (fun x hx => ?_) fun x hx => hl x (List.mem_cons_of_mem _ hx)
    rcases List.mem_or_eq_of_mem_set hx with h | rfl
    · exact hs x h
    · exact hl y List.mem_cons_self
theorem flatS_at {D : Nat → Prop} {w : World} : ∀ {l : List (List Nat)} {cs : List Value} {i : Nat} {x : List Nat}, FlatR (tSl tU8) D w l cs → l[i]? = some x → ∃ A n c, cs[i]? = some (.slice A n c) ∧ SlR tU8 D w A n x ∧ n ≤ c
  | [], _, _, _, _, h => by simp at h
  | y :: l, cs, 0, x, ⟨c1, r, h, ⟨A1, n1, d1, h1, h1', h1''⟩, h2⟩, hx => by
    subst h; subst h1
    simp only [List.getElem?_cons_zero, Option.some.injEq] at hx
    subst hx
    exact ⟨A1, n1, d1, rfl, h1', h1''⟩
  | y :: l, cs, i + 1, x, ⟨c1, r, h, ⟨A1, n1, d1, h1, h1'⟩, h2⟩, hx => by
    subst h; subst h1
    simp only [List.getElem?_cons_succ] at hx
    obtain ⟨A, n, c, e, h3⟩ := flatS_at h2 hx
    exact ⟨A, n, c, by simpa using e, h3⟩
section
variable {D : Nat → Prop} {w : World}
theorem OwnS.rd {D' : Nat → Prop} {w0 : World} {v : Value} {n : Nat} {l : List (List Nat)} (h : OwnS D w0 w v n l) (hn : n ≤ 100000) (hl : l.length = n) (h1 : ∀ b, D b → D' b) (h2 : ∀ b, w0.heap.size ≤ b → D' b) : ∃ A c, v = .slice A n c ∧ n ≤ c ∧ SlR (tSl tU8) D' w A n l := by
  obtain ⟨g, c, cs, rest, rfl, hg, B, hcs, hc, hf⟩ := h
  refine ⟨some (ad g 0), c, rfl, by rw [List.length_append] at hc; omega, SlR.of_cells hl.symm (by omega) (h2 g hg) (fun j v hv => by rw [Nat.zero_add]; exact B.cell (by rw [List.getElem?_append_left (List.getElem?_eq_some_iff.1 hv).1]; exact hv)) (hf.more fun b _ h => h1 b h)⟩
theorem OwnS.kept {D' : Nat → Prop} {w0 w' : World} {v : Value} {n : Nat} {l : List (List Nat)} (h : OwnS D w0 w v n l) (k : Kept D' w w') (h1 : ∀ b, D b → D' b) (h2 : ∀ b, w0.heap.size ≤ b → D' b) : OwnS D w0 w' v n l := by
  obtain ⟨g, c, cs, rest, rfl, hg, B, hcs, hc, hf⟩ := h
  exact ⟨g, c, cs, rest, rfl, hg, B.kept k (h2 g hg), hcs, hc, hf.keep fun b hb hd => k.blk b hb (h1 b hd)⟩
theorem c_dSyncE {d : Dsk} {cs : List Value} (hd : DskR D w cs d) : CallZ Tryz.prog 109 #[.agg cs.toArray] w (fun v w' => RetE D w w' v (syncP d)) := by
  obtain ⟨A, n, c, B, m, c2, rfl, hs, hc, hp, hc2, hId⟩ := hd.ex
  have ln := hs.len
  have lm := hp.len
  have hs0 := hs.more (D' := fun b => D b ∧ b < w.heap.size) (by decide) fun b hb h => ⟨h, hb⟩
  have hp0 := hp.more (D' := fun b => D b ∧ b < w.heap.size) (by decide) fun b hb h => ⟨h, hb⟩
  refine fn_rule (args := [.agg #[.slice A n c, .slice B m c2, iv d.left, .bool d.stop]]) Tryz.func109 (by kernel_rfl) ?_
  refine box (fun g w1 h1 => ?_)
  have G1 : Blk w1 g 44 [.slice A n c, .slice B m c2, iv d.left, .bool d.stop] := h1.blk
  refine alloc (fun b2 w2 h2 => ?_)
  have R2 : Blk w2 b2 44 zeroDC := h2.blk
  have e1 := h1.at_
  have e2 := h2.at_
  have x02 := h1.ext.trans h2.ext
  have s1 := h1.ext.size
  have s02 := x02.size
  have G2 := G1.ext h2.ext
  have lg := G1.lt
  have lR := R2.lt
  refine ldA [.slice A n c, .slice B m c2, iv d.left, .bool d.stop] (.blk G2) rfl ?_
  refine callE (c_druns (hd.ext x02)) (fun w3 hq x3 => ?_) (fun w3 hq x3 => ?_)
  rotate_left
  · refine ldA zeroDC (.blk (R2.ext x3)) rfl ?_
    refine stA (vs := zeroDC) (R2.ext x3) rfl (Nat.le_of_ble_eq_true rfl) (by simp [Value.oneCell']) (fun we Be ke ze => ?_)
    refine ret ?_
    refine resL (.agg (zeroDC).toArray) (holds_agg (.blk Be) rfl) ?_
    exact ⟨zeroDC, by unfold syncP; rw [if_pos hq]; rfl, by unfold syncP; rw [if_pos hq]; exact zeroD_r, (x02.trans x3).then ke fun i hi _ e => by omega⟩
  have hq' : ¬ runsB d = false := by rw [hq]; decide
  have hok := (of_decide_eq_true hq).1
  obtain ⟨k1, k2, k3, k4, k5, k6, k7'⟩ := hok
  have x03 := x02.trans x3
  have G3 := G2.ext x3
  have R3 := R2.ext x3
  have s23 := x3.size
  have hat : ∀ x ∈ d.pend, 0 ≤ x.at_ ∧ x.at_ < n := fun x hx => by have := k6 x hx; rw [ln] at this; exact ⟨this.1, this.2.1⟩
  refine fldA ?_
  refine ld (.slice B m c2) (G3.cell rfl) ?_
  refine len ?_
  refine fldA ?_
  refine ld (iv d.left) (G3.cell rfl) ?_
  refine cD (fun h0 => ?_) (fun h0 => ?_)
  · refine fldA ?_
    refine ld (iv d.left) (G3.cell rfl) ?_
    refine cD (fun hlt => ?_) (fun hge => ?_)
    · obtain ⟨l, hl⟩ : ∃ l : Nat, d.left = (l : Int) := ⟨d.left.toNat, by omega⟩
      have hlm : l < m := by omega
      refine fldA ?_
      refine ld (.slice B m c2) (G3.cell rfl) ?_
      refine fldA ?_
      refine ld (iv d.left) (G3.cell rfl) ?_
      refine fldA ?_
      refine ld (iv d.left) (G3.cell rfl) ?_
      refine slcM 0 l l hp rfl hl hl (by omega) (by omega) (Nat.le_refl _) (by omega) rfl (fun A5 hA5 => ?_)
      have hfst : SlR tWr (fun b => D b ∧ b < w.heap.size) w3 A5 l (d.pend.take l) := by
        have := hA5 (fun b => D b ∧ b < w.heap.size) w3 (hp0.ext x03)
        rwa [List.drop_zero] at this
      refine fldA ?_
      refine ld (.slice A n c) (G3.cell rfl) ?_
      refine call_of (c_dperform (hs0.ext x03) hfst (by omega) (by omega) (by omega) fun x hx => hat x (List.mem_of_mem_take hx)) ?_
      rintro _ w4 ⟨⟨g4, c4, cs4, rest4, rfl, hg4, B4, hcs4, hc4, f4⟩, x4⟩
      refine bld [.slice (some (ad g4 0)) n c4, .slice none 0 0, iv 0, .bool true] (by kernel_rfl) ?_
      refine stA (vs := [.slice (some (ad g4 0)) n c4, .slice none 0 0, iv 0, .bool true]) (R3.ext x4) rfl (Nat.le_of_ble_eq_true rfl) (by simp [Value.oneCell']) (fun w5 R5 k5 _ => ?_)
      have R5 : Blk w5 b2 44 [.slice (some (ad g4 0)) n c4, .slice none 0 0, iv 0, .bool true] := R5
      have s4 := x4.size
      have s5 := k5.size
      have x05 : Ext w w5 := (x03.trans x4).then k5 fun j hj _ => by omega
      have G5 := (G3.ext x4).kept k5 (show g ≠ b2 by omega)
      have B5 := B4.kept k5 (show g4 ≠ b2 by omega)
      have f5 := f4.keep fun j hj h => k5.blk j hj (show j ≠ b2 by have := h.2; omega)
      have lB4 := B4.lt
      obtain ⟨bx, o, csx, x, hB, hx, -, -, hcx, hrep⟩ := (hp.ext x05).at_ (k := l) hlm
      subst hB
      obtain ⟨A6, n6, c6, rfl, hs6, hc6, hI6⟩ := wr_ex hrep
      refine fldA ?_
      refine ld (.slice (some (ad bx o)) m c2) (G5.cell rfl) ?_
      refine fldA ?_
      refine ld (iv d.left) (G5.cell rfl) ?_
      refine idx l hl hlm ?_
      refine ldA [iv x.at_, .slice A6 n6 c6] hcx rfl ?_
      refine alloc (fun b6 w6 h6 => ?_)
      refine stA (vs := [iv x.at_, .slice A6 n6 c6]) h6.blk rfl (Nat.le_of_ble_eq_true rfl) (by simp [Value.oneCell']) (fun w7 B7 k7 _ => ?_)
      have B7 : Blk w7 b6 104 [iv x.at_, .slice A6 n6 c6] := B7
      have e6 := h6.at_
      have x57 : Ext w5 w7 := h6.ext.then k7 fun j hj _ e => by omega
      have R7 := R5.ext x57
      have Bs7 := B5.ext x57
      obtain ⟨hx0, hx1⟩ := hat x (List.mem_of_getElem? hx)
      obtain ⟨i, hi⟩ : ∃ i : Nat, x.at_ = (i : Int) := ⟨x.at_.toNat, by omega⟩
      have hin : i < n := by omega
      have hpl : (perfP d.secs (d.pend.take l)).length = n := by rw [perfP_len, ln]
      obtain ⟨y, hy⟩ : ∃ y, (perfP d.secs (d.pend.take l))[i]? = some y := ⟨_, List.getElem?_eq_getElem (by omega)⟩
      have hy128 : y.length = 128 := perfP_128 k7' (fun z hz => (k6 z (List.mem_of_mem_take hz)).2.2) y (List.mem_of_getElem? hy)
      have hx128 : x.data.length = 128 := (k6 x (List.mem_of_getElem? hx)).2.2
      obtain ⟨A8, n8, c8, hcell, hs8, hc8⟩ := flatS_at f5 hy
      have hn8 : n8 = 128 := by have := hs8.len; omega
      have hn6 : n6 = 128 := by have := hs6.len; omega
      have hcell' : (cs4 ++ rest4)[i]? = some (.slice A8 n8 c8) := by rw [List.getElem?_append_left (by omega)]; exact hcell
      refine fldA ?_
      refine ld (.slice (some (ad g4 0)) n c4) (R7.cell rfl) ?_
      refine fldA ?_
      refine ld (iv x.at_) (B7.cell rfl) ?_
      refine idx i hi hin ?_
      refine ld (.slice A8 n8 c8) (by rw [Nat.zero_add, Nat.mul_one]; exact Bs7.cell hcell') ?_
      refine call_of (c_cloneB (hs8.ext x57) (by omega)) ?_
      rintro _ w8 ⟨A9, c9, rfl, o9⟩
      rcases o9.form with ⟨-, h, -⟩ | ⟨g9, rfl, hg9, hg9', hc9⟩
      · omega
      obtain ⟨rest9, B9, hcap9, -⟩ := o9.own.blk
      have B78 := B7.ext o9.ext
      have s57 := x57.size
      have s78 := o9.ext.size
      have l7 := B7.lt
      subst hn8; subst hn6
      refine drawP (.take 0 (.take 1 (.take 2 (.take 3 (.eff 4 .done))))) [] (fun y => Kept (fun j => j ≠ g9) w8 y) mx (by kernel_rfl) (.refl _ _) ?_
      refine slcA 0 64 rfl rfl (by omega) (by omega) (by omega) ?_
      refine fldA ?_
      refine ldK (.slice A6 128 c6) (B78.cell rfl) (show b6 ≠ g9 by omega) (.refl _ _) ?_
      refine cpy (n := 64) (m := 128) B9 (by rw [List.length_append, List.length_map]; omega) (((hs6.ext x57).ext o9.ext).u8src) (fun w9 B10 k9 _ => ?_) (h1 := u8s_one _)
      have B10 : Blk w9 g9 5 (u8s (x.data.take 64 ++ y.drop 64) ++ rest9) := by
        have e : (u8s y ++ rest9).drop (0 + min 128 64) = u8s (y.drop 64) ++ rest9 := by
          have hz : 0 + min 128 64 = 64 := rfl
          rw [hz, List.drop_append_of_le_length (by rw [List.length_map]; omega), ← List.map_drop]
        rw [e, List.take_zero, List.nil_append, ← List.map_take, ← List.append_assoc, ← List.map_append] at B10
        exact B10
      refine strS k9 ?_
      have R9 := (R7.ext o9.ext).kept k9 (show b2 ≠ g9 by omega)
      have B79 := B78.kept k9 (show b6 ≠ g9 by omega)
      have Bs9 := (Bs7.ext o9.ext).kept k9 (show g4 ≠ g9 by omega)
      refine fldA ?_
      refine ld (.slice (some (ad g4 0)) n c4) (R9.cell rfl) ?_
      refine fldA ?_
      refine ld (iv x.at_) (B79.cell rfl) ?_
      refine idx i hi hin ?_
      refine st Bs9 (by rw [List.length_append]; omega) rfl (fun wa Ba ka _ => ?_)
      rw [Nat.zero_add, Nat.mul_one, List.set_append_left _ _ (by omega)] at Ba
      have Ba : Blk wa g4 102 (cs4.set i (.slice (some (ad g9 0)) 128 c9) ++ rest4) := Ba
      have Ra := R9.kept ka (show b2 ≠ g4 by omega)
      refine ldA [.slice (some (ad g4 0)) n c4, .slice none 0 0, iv 0, .bool true] (.blk Ra) rfl ?_
      refine stA (vs := [.slice (some (ad g4 0)) n c4, .slice none 0 0, iv 0, .bool true]) Ra rfl (Nat.le_of_ble_eq_true rfl) (by simp [Value.oneCell']) (fun we Be ke _ => ?_)
      refine ret ?_
      refine resL (.agg #[.slice (some (ad g4 0)) n c4, .slice none 0 0, iv 0, .bool true]) (holds_agg (.blk Be) rfl) ?_
      have k5e : Kept (fun j => j ≠ g9 ∧ j ≠ g4 ∧ j ≠ b2) w5 we := ((((Ext.any x57).trans (Ext.any o9.ext)).trans (k9.weak fun j _ h => h.1)).trans (ka.weak fun j _ h => h.2.1)).trans (ke.weak fun j _ h => h.2.2)
      have xe : Ext w we := x05.then k5e fun j hj _ => by omega
      have kae : Kept (fun j => j ≠ g4 ∧ j ≠ b2) w9 we := (ka.weak fun j _ h => h.1).trans (ke.weak fun j _ h => h.2)
      have hb9 : ∀ z ∈ x.data.take 64 ++ y.drop 64, z < 256 := fun z hz => by
        rcases List.mem_append.1 hz with hz | hz
        · exact hs6.u8b z (List.mem_of_mem_take hz)
        · exact hs8.u8b z (List.mem_of_mem_drop hz)
      have hl9 : (x.data.take 64 ++ y.drop 64).length = 128 := by rw [List.length_append, List.length_take, List.length_drop]; omega
      have ht : SlR tU8 (fun j => (D j ∧ j < w.heap.size) ∧ j < w3.heap.size ∨ j = g9) we (some (ad g9 0)) 128 (x.data.take 64 ++ y.drop 64) := SlR.of_cells hl9.symm (by omega) (.inr rfl) (fun j v hv => by rw [Nat.zero_add]; exact (B10.kept kae ⟨by omega, by omega⟩).cell (by rw [List.getElem?_append_left (List.getElem?_eq_some_iff.1 hv).1]; exact hv)) (flat_u8s hb9)
      have fe := flatS_set ht hc9 i ((f5.keep fun j hj h => k5e.blk j hj (by have := h.2; exact ⟨by omega, by omega, by omega⟩)).more fun _ _ h => .inl h)
      have hsl : SlR (tSl tU8) (fun j => D j ∨ w.heap.size ≤ j) we (some (ad g4 0)) n ((perfP d.secs (d.pend.take l)).set i (x.data.take 64 ++ y.drop 64)) := SlR.of_cells (by rw [List.length_set, hpl]) (by omega) (.inr (by omega)) (fun j v hv => by rw [Nat.zero_add]; exact (Ba.kept ke (show g4 ≠ b2 by omega)).cell (by rw [List.getElem?_append_left (List.getElem?_eq_some_iff.1 hv).1]; exact hv)) (fe.more fun j _ h => h.elim (fun h => .inl h.1.1) fun h => .inr (by omega))
      have hres : syncP d = (⟨(perfP d.secs (d.pend.take l)).set i (x.data.take 64 ++ y.drop 64), [], 0, true⟩, 40) := by
        unfold syncP tornP
        rw [if_neg hq', if_pos (by omega), hl, Int.toNat_natCast, hx]
        simp only [hi, Int.toNat_natCast]
        rw [List.getD_eq_getElem?_getD, hy]
        rfl
      rw [List.length_append] at hc4
      refine ⟨[.slice (some (ad g4 0)) n c4, .slice none 0 0, iv 0, .bool true], by rw [hres]; rfl, ?_, xe⟩
      rw [hres]
      exact ⟨⟨some (ad g4 0), n, c4, none, 0, 0, rfl, hsl, by omega, .nil, Nat.le_refl _, (show I64 0 by unfold I64; omega)⟩⟩
    · have hres : syncP d = (⟨perfP d.secs d.pend, [], d.left - d.pend.length, false⟩, 0) := by
        unfold syncP; rw [if_neg hq', if_neg (by omega), if_pos (by omega)]
      rw [lm] at hres
      refine drawP (.take 0 (.take 1 (.take 2 (.take 3 (.take 5 (.take 6 (.eff 4 (.take 7 (.bar (.eff 8 .done)))))))))) [8] (fun y => Ext w3 y) mx (by kernel_rfl) (.refl _ _) ?_
      refine fldA ?_
      refine ldX (.slice A n c) (G3.cell rfl) (.refl _ _) ?_
      refine fldA ?_
      refine ldX (.slice B m c2) (G3.cell rfl) (.refl _ _) ?_
      refine fldA ?_
      refine ldX (iv d.left) (G3.cell rfl) (.refl _ _) ?_
      refine call_of (c_dperform (hs0.ext x03) (hp0.ext x03) (by omega) (by omega) (by omega) hat) ?_
      rintro _ w4 ⟨⟨g4, c4, cs4, rest4, rfl, hg4, B4, hcs4, hc4, f4⟩, x4⟩
      refine strS x4 ?_
      refine bld [.slice (some (ad g4 0)) n c4, .slice none 0 0, iv d.left, .bool false] (by kernel_rfl) ?_
      refine barS (fun _ => True) trivial ?_
      refine stA (vs := [.slice (some (ad g4 0)) n c4, .slice none 0 0, iv d.left, .bool false]) (R3.ext x4) rfl (Nat.le_of_ble_eq_true rfl) (by simp [Value.oneCell']) (fun w5 R5 k5 _ => ?_)
      have R5 : Blk w5 b2 44 [.slice (some (ad g4 0)) n c4, .slice none 0 0, iv d.left, .bool false] := R5
      refine strS trivial ?_
      refine fldA ?_
      refine ld (iv d.left) (R5.cell rfl) ?_
      refine cD (fun _ => ?_) (fun h => absurd h0 h)
      refine fldA ?_
      refine ld (iv d.left) (R5.cell rfl) ?_
      refine arI (n := d.left - (m : Int)) (by omega) ?_
      refine fldA ?_
      refine st R5 (Nat.le_of_ble_eq_true rfl) rfl (fun w6 R6 k6 _ => ?_)
      have R6 : Blk w6 b2 44 [.slice (some (ad g4 0)) n c4, .slice none 0 0, iv (d.left - (m : Int)), .bool false] := R6
      refine ldA [.slice (some (ad g4 0)) n c4, .slice none 0 0, iv (d.left - (m : Int)), .bool false] (.blk R6) rfl ?_
      refine stA (vs := [.slice (some (ad g4 0)) n c4, .slice none 0 0, iv (d.left - (m : Int)), .bool false]) R6 rfl (Nat.le_of_ble_eq_true rfl) (by simp [Value.oneCell']) (fun we Be ke _ => ?_)
      refine ret ?_
      refine resL (.agg #[.slice (some (ad g4 0)) n c4, .slice none 0 0, iv (d.left - (m : Int)), .bool false]) (holds_agg (.blk Be) rfl) ?_
      have kE : Kept (fun j => j ≠ b2) w4 we := (k5.trans k6).trans ke
      have xe : Ext w we := (x03.trans x4).then kE fun j hj _ => by omega
      have hsl : SlR (tSl tU8) (fun j => D j ∨ w.heap.size ≤ j) we (some (ad g4 0)) n (perfP d.secs d.pend) := SlR.of_cells (by rw [perfP_len, ln]) (by omega) (.inr (by omega)) (fun j v hv => by rw [Nat.zero_add]; exact (B4.kept kE (show g4 ≠ b2 by omega)).cell (by rw [List.getElem?_append_left (List.getElem?_eq_some_iff.1 hv).1]; exact hv)) ((f4.keep fun j hj h => kE.blk j hj (show j ≠ b2 by have := h.2; omega)).more fun _ _ h => .inl h.1.1)
      rw [List.length_append] at hc4
      refine ⟨[.slice (some (ad g4 0)) n c4, .slice none 0 0, iv (d.left - (m : Int)), .bool false], by rw [hres]; rfl, ?_, xe⟩
      rw [hres]
      exact ⟨⟨some (ad g4 0), n, c4, none, 0, 0, rfl, hsl, by omega, .nil, Nat.le_refl _, (show I64 (d.left - (m : Int)) by unfold I64 at *; omega)⟩⟩
  · have hres : syncP d = (⟨perfP d.secs d.pend, [], d.left, false⟩, 0) := by
      unfold syncP; rw [if_neg hq', if_neg (by omega), if_neg (by omega)]
    refine drawP (.take 0 (.take 1 (.take 2 (.take 3 (.take 5 (.take 6 (.eff 4 (.take 7 (.bar (.eff 8 .done)))))))))) [8] (fun y => Ext w3 y) mx (by kernel_rfl) (.refl _ _) ?_
    refine fldA ?_
    refine ldX (.slice A n c) (G3.cell rfl) (.refl _ _) ?_
    refine fldA ?_
    refine ldX (.slice B m c2) (G3.cell rfl) (.refl _ _) ?_
    refine fldA ?_
    refine ldX (iv d.left) (G3.cell rfl) (.refl _ _) ?_
    refine call_of (c_dperform (hs0.ext x03) (hp0.ext x03) (by omega) (by omega) (by omega) hat) ?_
    rintro _ w4 ⟨⟨g4, c4, cs4, rest4, rfl, hg4, B4, hcs4, hc4, f4⟩, x4⟩
    refine strS x4 ?_
    refine bld [.slice (some (ad g4 0)) n c4, .slice none 0 0, iv d.left, .bool false] (by kernel_rfl) ?_
    refine barS (fun _ => True) trivial ?_
    refine stA (vs := [.slice (some (ad g4 0)) n c4, .slice none 0 0, iv d.left, .bool false]) (R3.ext x4) rfl (Nat.le_of_ble_eq_true rfl) (by simp [Value.oneCell']) (fun w5 R5 k5 _ => ?_)
    have R5 : Blk w5 b2 44 [.slice (some (ad g4 0)) n c4, .slice none 0 0, iv d.left, .bool false] := R5
    refine strS trivial ?_
    refine fldA ?_
    refine ld (iv d.left) (R5.cell rfl) ?_
    refine cD (fun h => absurd h h0) (fun _ => ?_)
    refine ldA [.slice (some (ad g4 0)) n c4, .slice none 0 0, iv (d.left), .bool false] (.blk R5) rfl ?_
    refine stA (vs := [.slice (some (ad g4 0)) n c4, .slice none 0 0, iv (d.left), .bool false]) R5 rfl (Nat.le_of_ble_eq_true rfl) (by simp [Value.oneCell']) (fun we Be ke _ => ?_)
    refine ret ?_
    refine resL (.agg #[.slice (some (ad g4 0)) n c4, .slice none 0 0, iv (d.left), .bool false]) (holds_agg (.blk Be) rfl) ?_
    have kE : Kept (fun j => j ≠ b2) w4 we := k5.trans ke
    have xe : Ext w we := (x03.trans x4).then kE fun j hj _ => by omega
    have hsl : SlR (tSl tU8) (fun j => D j ∨ w.heap.size ≤ j) we (some (ad g4 0)) n (perfP d.secs d.pend) := SlR.of_cells (by rw [perfP_len, ln]) (by omega) (.inr (by omega)) (fun j v hv => by rw [Nat.zero_add]; exact (B4.kept kE (show g4 ≠ b2 by omega)).cell (by rw [List.getElem?_append_left (List.getElem?_eq_some_iff.1 hv).1]; exact hv)) ((f4.keep fun j hj h => kE.blk j hj (show j ≠ b2 by have := h.2; omega)).more fun _ _ h => .inl h.1.1)
    rw [List.length_append] at hc4
    refine ⟨[.slice (some (ad g4 0)) n c4, .slice none 0 0, iv (d.left), .bool false], by rw [hres]; rfl, ?_, xe⟩
    rw [hres]
    exact ⟨⟨some (ad g4 0), n, c4, none, 0, 0, rfl, hsl, by omega, .nil, Nat.le_refl _, (show I64 (d.left) by unfold I64 at *; omega)⟩⟩
end
end Go.Proofs.YtehcphboliofaaaGreatDoor

/- Layer 5: checksums, numbers, sectors. -/
namespace Go.Proofs.YtehcphboliofaaaGreatDoor
open Go Go.RowKit

def crcS (n : Nat) : Nat := n >>> 1 ^^^ (3988292384 * (n &&& 1)) % 4294967296
def crc8 : Nat → Nat → Nat
  | 0, n => n
  | k + 1, n => crcS (crc8 k n)
def crcF (n : Nat) (b : List Nat) : Nat := b.foldl (fun n c => crc8 8 (n ^^^ c)) n
def crcL (b : List Nat) : Nat := 4294967295 ^^^ crcF 4294967295 b
theorem crcS_lt {n : Nat} (h : n < 4294967296) : crcS n < 4294967296 := xor_lt (shr_lt h) (Nat.mod_lt _ (by omega))
theorem crc8_lt {n : Nat} (h : n < 4294967296) : ∀ k, crc8 k n < 4294967296
  | 0 => h
  | k + 1 => crcS_lt (crc8_lt h k)
theorem crcF_lt : ∀ (b : List Nat) {n : Nat}, (∀ x ∈ b, x < 256) → n < 4294967296 → crcF n b < 4294967296
  | [], n, _, h => h
  | x :: b, n, hb, h => crcF_lt b (fun y hy => hb y (List.mem_cons_of_mem _ hy)) (crc8_lt (xor_lt h (by have := hb x List.mem_cons_self; omega)) 8)
theorem crcL_lt {b : List Nat} (h : ∀ x ∈ b, x < 256) : crcL b < 4294967296 := xor_lt (by omega) (crcF_lt b h (by omega))
def getB (b : List Nat) : Nat := b.foldl (fun n c => ((n <<< 8) % 18446744073709551616) ||| c) 0
theorem get_lt : ∀ (b : List Nat) (n : Nat), n < 18446744073709551616 → (∀ x ∈ b, x < 256) → b.foldl (fun n c => ((n <<< 8) % 18446744073709551616) ||| c) n < 18446744073709551616
  | [], n, h, _ => h
  | x :: b, n, h, hb => get_lt b _ (Nat.or_lt_two_pow (n := 64) (Nat.mod_lt _ (by omega)) (by have := hb x List.mem_cons_self; omega)) fun y hy => hb y (List.mem_cons_of_mem _ hy)
theorem getB_lt {b : List Nat} (h : ∀ x ∈ b, x < 256) : getB b < 18446744073709551616 := get_lt b 0 (by omega) h
theorem notX32 {P : Program} {K : Value → Prop} {a : Nat} (h : a < 4294967296) (k : K (uv32 (4294967295 ^^^ a))) : PureP P (vS (Op.unary .xor (.int .u32 (a : Int)))) K := by
  rw [PureP_eq]
  refine pure_vval (fun w => ?_) k
  have e : bits .xor .u32 (4294967295 : Int) (a : Int) = ((4294967295 ^^^ a : Nat) : Int) := u32_xor_nat 4294967295 a (by omega) h
  have h1 : (Op.intBits .xor .u32 4294967295 (a : Int)).run P w = .ok (.int .u32 (bits .xor .u32 (4294967295 : Int) (a : Int))) w := rfl
  rw [e] at h1
  exact h1
section
variable {D : Nat → Prop} {w : World}
theorem c_jput {g o n c N : Nat} {t : TypeId} {cs : List Value} (hb : Blk w g t cs) (ho : o + n ≤ cs.length) (hn : n ≤ 8) : CallZ Tryz.prog 174 #[.slice (some (ad g o)) n c, uv64 N] w (fun v w' => v = .tuple #[] ∧ Blk w' g t (cs.take o ++ u8s (beB n N) ++ cs.drop (o + n)) ∧ Kept (fun b => b ≠ g) w w') := by
  have hl := beB_len n N
  refine fn_rule (args := [.slice (some (ad g o)) n c, uv64 N]) Tryz.func174 (by kernel_rfl) ?_
  refine len ?_
  refine loop_rule (fun k : Nat => [(7, iv (k : Int))]) (fun k u => k ≤ n ∧ Blk u g t (cs.take (o + (n - k)) ++ u8s ((beB n N).drop (n - k)) ++ cs.drop (o + n)) ∧ Kept (fun b => b ≠ g) w u) (fun k _ => n - k) 0 ⟨rfl, trivial⟩ ⟨by omega, ?_, .refl _ _⟩ rfl ?_
  · rw [Nat.sub_zero, List.drop_of_length_le (by omega)]
    simpa using hb
  rintro G k u ⟨hk, Bu, ku⟩
  refine cD (fun hlt => ?_) (fun hge => ?_)
  · refine len ?_
    refine arI (n := (n : Int) - 1) (by omega) ?_
    refine arI (n := (n : Int) - 1 - (k : Int)) (by omega) ?_
    refine arI (n := 8 * (k : Int)) (by omega) ?_
    refine shr64 (8 * k) (by omega) (by omega) ?_
    refine cv8 (N >>> (8 * k)) rfl ?_
    refine idx (n - 1 - k) (by omega) (by omega) ?_
    refine st (v := uv8 ((N >>> (8 * k)) % 256)) Bu ?_ rfl (fun u2 B2 k2 z2 => ?_)
    · rw [Nat.mul_one]
      simp only [List.length_append, List.length_take, List.length_map, List.length_drop]
      omega
    refine arI (by omega) ?_
    refine next (k + 1) ⟨by rw [Int.natCast_add]; rfl, trivial⟩ ⟨by omega, ?_, ku.trans k2⟩ (by omega)
    rw [Nat.mul_one, show o + (n - k) = o + (n - 1 - k) + 1 by omega, set_back (by omega)] at B2
    rw [beB_drop (show k < n by omega), show o + (n - (k + 1)) = o + (n - 1 - k) by omega]
    exact B2
  · obtain rfl : k = n := by omega
    rw [Nat.sub_self, List.drop_zero, Nat.add_zero] at Bu
    exact ret0 ⟨rfl, Bu, ku⟩
theorem c_jget {A : Option Addr} {n c : Nat} {b : List Nat} (hs : SlR tU8 D w A n b) : CallZ Tryz.prog 105 #[.slice A n c] w (fun v w' => v = uv64 (getB b) ∧ w' = w) := by
  have hb := hs.u8b
  have hlen := hs.len
  have hle := hs.le
  refine fn_rule (args := [.slice A n c]) Tryz.func105 (by kernel_rfl) ?_
  refine len ?_
  refine loop_rule (fun k : Nat => [(2, uv64 (getB (b.take k))), (7, iv (k : Int))]) (fun k u => k ≤ n ∧ w = u) (fun k _ => n - k) 0 ⟨rfl, rfl, trivial⟩ ⟨by omega, rfl⟩ rfl ?_
  rintro G k u ⟨hk, rfl⟩
  refine cD (fun hlt => ?_) (fun hge => ?_)
  · obtain ⟨bb, o, cs, x, rfl, hx, -, -, hcc, rfl, hx2⟩ := hs.at_ (k := k) (by omega)
    refine idx k rfl (by omega) ?_
    refine ld (uv8 x) (hcc 0 _ rfl) ?_
    have htk : b.take (k + 1) = b.take k ++ [x] := by rw [List.take_add_one, hx]; rfl
    have hf := getB_lt (b := b.take k) fun y hy => hb y (List.mem_of_mem_take hy)
    obtain ⟨f, hfe⟩ : ∃ f, f = getB (b.take k) := ⟨_, rfl⟩
    rw [← hfe] at hf ⊢
    refine shl64 8 rfl (by omega) ?_
    refine cv64 x rfl ?_
    rw [Nat.mod_eq_of_lt (show x < 18446744073709551616 by omega)]
    refine or64 (Nat.mod_lt _ (by omega)) (by omega) ?_
    refine arI (by omega) ?_
    refine next (k + 1) ⟨?_, by rw [Int.natCast_add]; rfl, trivial⟩ ⟨by omega, rfl⟩ (by omega)
    rw [htk]
    unfold getB at hfe ⊢
    rw [List.foldl_append, ← hfe]; rfl
  · rw [List.take_of_length_le (by omega)]
    exact ret1 (uv64 _) rfl ⟨rfl, rfl⟩
theorem c_jsum {A : Option Addr} {n c : Nat} {b : List Nat} (hs : SlR tU8 D w A n b) : CallZ Tryz.prog 175 #[.slice A n c] w (fun v w' => v = uv32 (crcL b) ∧ w' = w) := by
  have hb := hs.u8b
  have hlen := hs.len
  have hle := hs.le
  refine fn_rule (args := [.slice A n c]) Tryz.func175 (by kernel_rfl) ?_
  refine len ?_
  refine loop2 (fun (k f : Nat) => [(3, uv32 f), (8, iv (k : Int))]) (fun k f u => k ≤ n ∧ w = u ∧ f = crcF 4294967295 (b.take k)) (fun k _ _ => n - k) 0 4294967295 ⟨rfl, rfl, trivial⟩ ⟨by omega, rfl, rfl⟩ rfl ?_
  rintro G k f u ⟨hk, rfl, hf⟩
  have hfl : f < 4294967296 := by rw [hf]; exact crcF_lt _ (fun y hy => hb y (List.mem_of_mem_take hy)) (by omega)
  refine cD (fun hlt => ?_) (fun hge => ?_)
  · obtain ⟨bb, o, cs, x, rfl, hx, -, -, hcc, rfl, hx2⟩ := hs.at_ (k := k) (by omega)
    refine idx k rfl (by omega) ?_
    refine ld (uv8 x) (hcc 0 _ rfl) ?_
    refine cv32 x rfl ?_
    rw [Nat.mod_eq_of_lt (show x < 4294967296 by omega)]
    refine xor32 hfl (by omega) ?_
    obtain ⟨f0, hf0⟩ : ∃ f0, f0 = f ^^^ x := ⟨_, rfl⟩
    have hf0l : f0 < 4294967296 := by rw [hf0]; exact xor_lt hfl (by omega)
    rw [← hf0]
    refine loop2 (fun (i h : Nat) => [(3, uv32 h), (16, iv (i : Int))]) (fun i h u => i ≤ 8 ∧ w = u ∧ h = crc8 i f0) (fun i _ _ => 8 - i) 0 f0 ⟨rfl, rfl, trivial⟩ ⟨by omega, rfl, rfl⟩ rfl ?_
    rintro G2 i h u2 ⟨hi, rfl, hh⟩
    have hhl : h < 4294967296 := by rw [hh]; exact crc8_lt hf0l i
    refine cD (fun hlt2 => ?_) (fun hge2 => ?_)
    · refine shr32 1 rfl (by omega) ?_
      refine and32 (a := h) (b := 1) hhl (by omega) ?_
      refine arW ?_
      have e : IntKind.u32.wrap (3988292384 * ((h &&& 1 : Nat) : Int)) = ((3988292384 * (h &&& 1) % 4294967296 : Nat) : Int) := by
        rw [u32_wrap]; omega
      rw [e]
      refine xor32 (shr_lt hhl) (Nat.mod_lt _ (by omega)) ?_
      refine arI (n := (i : Int) + 1) (by omega) ?_
      exact next2 (i + 1) (crcS h) ⟨rfl, by rw [Int.natCast_add]; rfl, trivial⟩ ⟨by omega, rfl, by rw [hh]; rfl⟩ (by omega)
    · have hi8 : i = 8 := by omega
      subst hi8
      refine arI (n := (k : Int) + 1) (by omega) ?_
      refine next2 (k + 1) h ⟨rfl, by rw [Int.natCast_add]; rfl, trivial⟩ ⟨by omega, rfl, ?_⟩ (by omega)
      rw [List.take_add_one, hx, hh, hf0, hf]
      unfold crcF
      rw [List.foldl_append]
      rfl
  · rw [List.take_of_length_le (by omega)] at hf
    refine notX32 hfl ?_
    exact ret1 (uv32 (crcL b)) (by unfold crcL; rw [← hf]; rfl) ⟨rfl, rfl⟩
/-- What a sector's checksum is of; a sector. -/
def bodyB (num kind : Nat) (b : List Nat) : List Nat := beB 2 num ++ ([kind, b.length] ++ (b ++ List.replicate (112 - b.length) 0))
def encB (g num kind : Nat) (b : List Nat) : List Nat := beB 4 g ++ (beB 4 (crcL (bodyB num kind b)) ++ (bodyB num kind b ++ beB 4 g))
theorem bodyB_len {num kind : Nat} {b : List Nat} (h : b.length ≤ 112) : (bodyB num kind b).length = 116 := by
  unfold bodyB
  simp only [List.length_append, beB_len, List.length_cons, List.length_nil, List.length_replicate]
  omega
theorem bodyB_lt {num kind : Nat} {b : List Nat} (h : b.length ≤ 112) (hk : kind < 256) (hb : ∀ x ∈ b, x < 256) : ∀ x ∈ bodyB num kind b, x < 256 := fun x hx => by
  unfold bodyB at hx
  rcases List.mem_append.1 hx with hx | hx
  · exact beB_lt _ _ x hx
  rcases List.mem_append.1 hx with hx | hx
  · simp only [List.mem_cons, List.not_mem_nil, or_false] at hx; omega
  rcases List.mem_append.1 hx with hx | hx
  · exact hb x hx
  · rw [List.mem_replicate] at hx; omega
theorem encB_len {g num kind : Nat} {b : List Nat} (h : b.length ≤ 112) : (encB g num kind b).length = 128 := by
  unfold encB
  simp only [List.length_append, beB_len, bodyB_len h]
theorem encB_lt {g num kind : Nat} {b : List Nat} (h : b.length ≤ 112) (hk : kind < 256) (hb : ∀ x ∈ b, x < 256) : ∀ x ∈ encB g num kind b, x < 256 := fun x hx => by
  unfold encB at hx
  rcases List.mem_append.1 hx with hx | hx
  · exact beB_lt _ _ x hx
  rcases List.mem_append.1 hx with hx | hx
  · exact beB_lt _ _ x hx
  rcases List.mem_append.1 hx with hx | hx
  · exact bodyB_lt h hk hb x hx
  · exact beB_lt _ _ x hx
def setL (l : List Nat) (o : Nat) (new : List Nat) : List Nat := l.take o ++ new ++ l.drop (o + new.length)
theorem spl {X Y Z new : List Nat} {o : Nat} (hX : X.length = o) (hY : Y.length = new.length) : setL (X ++ (Y ++ Z)) o new = X ++ (new ++ Z) := by
  unfold setL
  rw [List.take_append, List.take_of_length_le (by omega), hX, Nat.sub_self, List.take_zero, List.append_nil, List.drop_append, List.drop_of_length_le (by omega), hX, show o + new.length - o = Y.length by omega, List.drop_append, List.drop_of_length_le (Nat.le_refl _), Nat.sub_self, List.drop_zero, List.nil_append, List.nil_append, List.append_assoc]
theorem rep_sp (a b : Nat) : List.replicate (a + b) 0 = List.replicate a 0 ++ List.replicate b 0 := List.replicate_append_replicate.symm
theorem enc_list {a b2 b : List Nat} {k : Nat} (ha : a.length = 4) (h2 : b2.length = 2) (hb : b.length ≤ 112) :
    setL (setL (setL (setL (setL (setL (List.replicate 128 0) 0 a) 8 b2) 10 [k]) 11 [b.length]) 12 b) 124 a = a ++ (List.replicate 4 0 ++ ((b2 ++ ([k, b.length] ++ (b ++ List.replicate (112 - b.length) 0))) ++ a)) := by
  have s1 : setL (List.replicate 128 0) 0 a = a ++ List.replicate 124 0 := by
    rw [show (128 : Nat) = 4 + 124 from rfl, rep_sp]
    exact spl (X := []) (Y := List.replicate 4 0) (Z := List.replicate 124 0) rfl (by rw [List.length_replicate, ha])
  rw [s1]
  have s2 : setL (a ++ List.replicate 124 0) 8 b2 = (a ++ List.replicate 4 0) ++ (b2 ++ List.replicate 118 0) := by
    rw [show (124 : Nat) = 4 + (2 + 118) from rfl, rep_sp, rep_sp 2, ← List.append_assoc]
    exact spl (by simp [ha]) (by simp [h2])
  rw [s2]
  have s3 : setL ((a ++ List.replicate 4 0) ++ (b2 ++ List.replicate 118 0)) 10 [k] = ((a ++ List.replicate 4 0) ++ b2) ++ ([k] ++ List.replicate 117 0) := by
    rw [show (118 : Nat) = 1 + 117 from rfl, rep_sp, ← List.append_assoc]
    exact spl (by simp [ha, h2]) (by simp)
  rw [s3]
  have s4 : setL (((a ++ List.replicate 4 0) ++ b2) ++ ([k] ++ List.replicate 117 0)) 11 [b.length] = (((a ++ List.replicate 4 0) ++ b2) ++ [k]) ++ ([b.length] ++ List.replicate 116 0) := by
    rw [show (117 : Nat) = 1 + 116 from rfl, rep_sp, ← List.append_assoc]
    exact spl (by simp [ha, h2]) (by simp)
  rw [s4]
  have s5 : setL ((((a ++ List.replicate 4 0) ++ b2) ++ [k]) ++ ([b.length] ++ List.replicate 116 0)) 12 b = ((((a ++ List.replicate 4 0) ++ b2) ++ [k]) ++ [b.length]) ++ (b ++ List.replicate (116 - b.length) 0) := by
    rw [show (116 : Nat) = b.length + (116 - b.length) by omega, rep_sp, ← List.append_assoc]
    rw [show b.length + (116 - b.length) - b.length = 116 - b.length by omega]
    exact spl (by simp [ha, h2]) (by simp)
  rw [s5]
  have s6 : setL (((((a ++ List.replicate 4 0) ++ b2) ++ [k]) ++ [b.length]) ++ (b ++ List.replicate (116 - b.length) 0)) 124 a = (((((a ++ List.replicate 4 0) ++ b2) ++ [k]) ++ [b.length]) ++ (b ++ List.replicate (112 - b.length) 0)) ++ (a ++ []) := by
    have h := spl (X := (((((a ++ List.replicate 4 0) ++ b2) ++ [k]) ++ [b.length]) ++ (b ++ List.replicate (112 - b.length) 0))) (Y := List.replicate 4 0) (Z := []) (new := a) (o := 124) (by simp [ha, h2]; omega) (by simp [ha])
    rw [← h]
    congr 1
    rw [show 116 - b.length = (112 - b.length) + 4 by omega, rep_sp]
    simp only [List.append_assoc, List.append_nil]
  rw [s6]
  simp only [List.append_assoc, List.append_nil, List.cons_append, List.nil_append]
theorem u8s_setL {L new : List Nat} {o : Nat} : u8s (setL L o new) = (u8s L).take o ++ u8s new ++ (u8s L).drop (o + new.length) := by
  unfold setL
  simp only [u8s, List.map_append, List.map_take, List.map_drop]
theorem u8s_set1 {L : List Nat} {i x : Nat} (h : i < L.length) : (u8s L).set i (uv8 x) = u8s (setL L i [x]) := by
  rw [u8s_setL, List.set_eq_take_append_cons_drop, if_pos (by rw [List.length_map]; exact h)]
  simp
theorem setL_len {L new : List Nat} {o : Nat} (h : o + new.length ≤ L.length) : (setL L o new).length = L.length := by
  unfold setL
  simp only [List.length_append, List.length_take, List.length_drop]
  omega
set_option maxRecDepth 8000 in
theorem c_jencode {A : Option Addr} {n c g num kind : Nat} {b : List Nat} (hs : SlR tU8 D w A n b) (hn : n ≤ 112) (hk : kind < 256) (hnum : num ≤ 140737488355328) : CallZ Tryz.prog 108 #[uv64 g, iv (num : Int), uv8 kind, .slice A n c] w (fun v w' => ∃ q, v = .slice (some (ad q 0)) 128 128 ∧ w.heap.size ≤ q ∧ Blk w' q 246 (u8s (encB g num kind b)) ∧ Ext w w') := by
  have hs := hs.more (D' := fun b => b < w.heap.size) (by decide) fun b hb _ => hb
  have hb8 := hs.u8b
  have hlen := hs.len
  refine fn_rule (args := [uv64 g, iv (num : Int), uv8 kind, .slice A n c]) Tryz.func108 (by kernel_rfl) ?_
  refine alloc (fun q w1 h1 => ?_)
  have e1 := h1.at_
  obtain ⟨L1, hL1⟩ : ∃ L1, L1 = List.replicate 128 0 := ⟨_, rfl⟩
  have B1 : Blk w1 q 246 (u8s L1) := by rw [hL1, u8s_rep]; exact h1.blk
  have l1 : L1.length = 128 := by rw [hL1, List.length_replicate]
  refine slcArr 0 4 rfl rfl (by omega) (by omega) (by omega) ?_
  refine call_of (c_jput (o := 0) (n := 4) (N := g) B1 (by rw [List.length_map]; omega) (by omega)) ?_
  rintro _ w2 ⟨rfl, B2, k2⟩
  obtain ⟨L2, hL2⟩ : ∃ L2, L2 = setL L1 0 (beB 4 g) := ⟨_, rfl⟩
  have B2 : Blk w2 q 246 (u8s L2) := by rw [hL2, u8s_setL, beB_len]; exact B2
  have l2 : L2.length = 128 := by rw [hL2, setL_len (by rw [beB_len]; omega)]; exact l1
  refine slcArr 8 10 rfl rfl (by omega) (by omega) (by omega) ?_
  refine cv64 num rfl ?_
  rw [Nat.mod_eq_of_lt (show num < 18446744073709551616 by omega)]
  refine call_of (c_jput (o := 8) (n := 2) (N := num) B2 (by rw [List.length_map]; omega) (by omega)) ?_
  rintro _ w3 ⟨rfl, B3, k3⟩
  obtain ⟨L3, hL3⟩ : ∃ L3, L3 = setL L2 8 (beB 2 num) := ⟨_, rfl⟩
  have B3 : Blk w3 q 246 (u8s L3) := by rw [hL3, u8s_setL, beB_len]; exact B3
  have l3 : L3.length = 128 := by rw [hL3, setL_len (by rw [beB_len]; omega)]; exact l2
  refine len ?_
  refine cv8 n rfl ?_
  rw [Nat.mod_eq_of_lt (show n < 256 by omega)]
  refine idxR 10 rfl (by omega) ?_
  refine st B3 (by rw [List.length_map]; omega) rfl (fun w4 B4 k4 _ => ?_)
  obtain ⟨L4, hL4⟩ : ∃ L4, L4 = setL L3 10 [kind] := ⟨_, rfl⟩
  have B4 : Blk w4 q 246 (u8s L4) := by rw [hL4, ← u8s_set1 (by omega)]; exact B4
  have l4 : L4.length = 128 := by rw [hL4, setL_len (by simp; omega)]; exact l3
  refine idxR 11 rfl (by omega) ?_
  refine st B4 (by rw [List.length_map]; omega) rfl (fun w5 B5 k5 _ => ?_)
  obtain ⟨L5, hL5⟩ : ∃ L5, L5 = setL L4 11 [n] := ⟨_, rfl⟩
  have B5 : Blk w5 q 246 (u8s L5) := by rw [hL5, ← u8s_set1 (by omega)]; exact B5
  have l5 : L5.length = 128 := by rw [hL5, setL_len (by simp; omega)]; exact l4
  have x15 : Ext w w5 := ((((h1.ext.then k2 fun j hj _ e => by omega).then k3 fun j hj _ e => by omega).then k4 fun j hj _ e => by omega).then k5 fun j hj _ e => by omega)
  refine slcArr 12 128 rfl rfl (by omega) (by omega) (by omega) ?_
  refine cpy (o := 12) (n := 116) (m := n) B5 (by rw [List.length_map]; omega) (hs.ext x15).u8src (fun w6 B6 k6 _ => ?_) (h1 := u8s_one _)
  obtain ⟨L6, hL6⟩ : ∃ L6, L6 = setL L5 12 b := ⟨_, rfl⟩
  have B6 : Blk w6 q 246 (u8s L6) := by
    rw [hL6, u8s_setL, hlen]
    rw [List.take_of_length_le (i := 116) (by rw [List.length_map]; omega), Nat.min_eq_left (show n ≤ 116 by omega)] at B6
    exact B6
  have l6 : L6.length = 128 := by rw [hL6, setL_len (by omega)]; exact l5
  refine slcArr 124 128 rfl rfl (by omega) (by omega) (by omega) ?_
  refine call_of (c_jput (o := 124) (n := 4) (N := g) B6 (by rw [List.length_map]; omega) (by omega)) ?_
  rintro _ w7 ⟨rfl, B7, k7⟩
  have hL7 : setL L6 124 (beB 4 g) = beB 4 g ++ (List.replicate 4 0 ++ (bodyB num kind b ++ beB 4 g)) := by
    rw [hL6, hL5, hL4, hL3, hL2, hL1, ← hlen]
    exact enc_list (beB_len _ _) (beB_len _ _) (by omega)
  have B7 : Blk w7 q 246 (u8s (beB 4 g ++ (List.replicate 4 0 ++ (bodyB num kind b ++ beB 4 g)))) := by
    rw [← hL7, u8s_setL, beB_len]; exact B7
  have x17 : Ext w w7 := (x15.then k6 fun j hj _ e => by omega).then k7 fun j hj _ e => by omega
  have hbl := bodyB_len (num := num) (kind := kind) (show b.length ≤ 112 by omega)
  have hbt := bodyB_lt (num := num) (show b.length ≤ 112 by omega) hk hb8
  have sl : SlR tU8 (fun _ => True) w7 (some (ad q 8)) 116 (bodyB num kind b) := SlR.of_cells hbl.symm (by omega) trivial (by
    have h := CellsAt.blk B7
    rw [u8s_app, u8s_app, u8s_app] at h
    have h2 := (CellsAt.app (CellsAt.app (CellsAt.app h).2).2).1
    rw [List.length_map, List.length_map, beB_len, List.length_replicate] at h2
    exact h2) (flat_u8s hbt)
  refine drawP (.take 0 (.take 1 (.take 2 (.take 3 (.bar (.eff 4 .done)))))) [4] (fun y => Ext w7 y) mx (by kernel_rfl) (.refl _ _) ?_
  refine slcArr 4 8 rfl rfl (by omega) (by omega) (by omega) ?_
  refine slcArr 8 124 rfl rfl (by omega) (by omega) (by omega) ?_
  refine callQ (fun y hy => c_jsum (sl.ext hy)) ?_
  refine cv64 (crcL (bodyB num kind b)) rfl ?_
  have hcl := crcL_lt hbt
  rw [Nat.mod_eq_of_lt (show crcL (bodyB num kind b) < 18446744073709551616 by omega)]
  refine barS (fun _ => True) trivial ?_
  refine call_of (c_jput (o := 4) (n := 4) (N := crcL (bodyB num kind b)) B7 (by simp only [List.length_map, List.length_append, beB_len, List.length_replicate, hbl]; omega) (by omega)) ?_
  rintro _ w8 ⟨rfl, B8, k8⟩
  have B8 : Blk w8 q 246 (u8s (encB g num kind b)) := by
    have e : encB g num kind b = setL (beB 4 g ++ (List.replicate 4 0 ++ (bodyB num kind b ++ beB 4 g))) 4 (beB 4 (crcL (bodyB num kind b))) := by
      rw [spl (beB_len _ _) (by rw [List.length_replicate, beB_len])]
      rfl
    rw [e, u8s_setL, beB_len]; exact B8
  refine strS trivial ?_
  refine slcArr 0 128 rfl rfl (by omega) (by omega) (by omega) ?_
  exact ret1 (.slice (some (ad q 0)) 128 128) rfl ⟨q, rfl, by omega, B8, x17.then k8 fun j hj _ e => by omega⟩
end
end Go.Proofs.YtehcphboliofaaaGreatDoor

/- Layer 5: good sectors. -/
namespace Go.Proofs.YtehcphboliofaaaGreatDoor
open Go Go.RowKit

def at8 (s : List Nat) (i : Nat) : Nat := s.getD i 0
/-- Whether a sector has the form of one with a number. -/
def goodP (s : List Nat) (num : Nat) : Prop := at8 s 11 ≤ 112 ∧ at8 s 10 ≤ 3 ∧ ¬ (at8 s 10 &&& 2 = 0 ∧ at8 s 11 < 112) ∧ ¬ (at8 s 10 &&& 1 = 0 ∧ at8 s 11 = 0) ∧ 0 < getB (s.take 4) ∧ s = encB (getB (s.take 4)) num (at8 s 10) ((s.drop 12).take (at8 s 11))
instance (s : List Nat) (num : Nat) : Decidable (goodP s num) := by unfold goodP; infer_instance
def goodB (s : List Nat) (num : Nat) : Bool := decide (goodP s num)
section
variable {D : Nat → Prop} {w : World}
theorem c_bytesEq {D2 : Nat → Prop} {A B : Option Addr} {n c m d : Nat} {a b : List Nat} (hs : SlR tU8 D w A n a) (ht : SlR tU8 D2 w B m b) : CallZ Tryz.prog 106 #[.slice A n c, .slice B m d] w (fun v w' => v = .bool (decide (a = b)) ∧ w' = w) := by
  have h1 := hs.u8b
  have h2 := ht.u8b
  refine fn_rule (args := [.slice A n c, .slice B m d]) Tryz.func106 (by kernel_rfl) ?_
  refine cvBS rfl hs ?_
  refine cvBS rfl ht ?_
  refine eqStr (fun h => ?_) (fun h => ?_)
  · exact ret1 (.bool true) rfl ⟨by rw [decide_eq_true (strB_inj h1 h2 h)], rfl⟩
  · exact ret1 (.bool false) rfl ⟨by rw [decide_eq_false (fun e => h (by rw [e]))], rfl⟩
theorem u8_cell {b o n k : Nat} {l : List Nat} (h : SlR tU8 D w (some (ad b o)) n l) (hk : k < n) : w.cell? (ad b (o + k * 1)) = some (uv8 (at8 l k)) ∧ at8 l k < 256 := by
  obtain ⟨b', o', cs, x, e, hx, -, -, hc, rfl, hx2⟩ := h.at_ hk
  injection e with e
  injection e with e1 e2
  subst e1; subst e2
  have hx3 : at8 l k = x := by unfold at8; rw [List.getD_eq_getElem?_getD, hx]; rfl
  rw [hx3]
  exact ⟨hc 0 _ rfl, hx2⟩
theorem and_le {a b : Nat} : a &&& b ≤ a := Nat.and_le_left
theorem c_jgood {A : Option Addr} {c num : Nat} {s : List Nat} (hs : SlR tU8 D w A 128 s) (hc : 128 ≤ c) (hnum : num ≤ 100000) : CallZ Tryz.prog 161 #[.slice A 128 c, iv (num : Int)] w (fun v w' => v = .bool (goodB s num) ∧ Ext w w') := by
  have hlen := hs.len
  obtain ⟨b, o, cs0, x0, rfl, -⟩ := hs.at_ (k := 0) (by omega)
  obtain ⟨c11, l11⟩ := u8_cell hs (k := 11) (by omega)
  obtain ⟨c10, l10⟩ := u8_cell hs (k := 10) (by omega)
  obtain ⟨n, hn⟩ : ∃ n, n = at8 s 11 := ⟨_, rfl⟩
  obtain ⟨k, hk⟩ : ∃ k, k = at8 s 10 := ⟨_, rfl⟩
  rw [← hn] at c11 l11
  rw [← hk] at c10 l10
  refine fn_rule (args := [.slice (some (ad b o)) 128 c, iv (num : Int)]) Tryz.func161 (by kernel_rfl) ?_
  have bad : ¬ goodP s num → (Value.bool false = .bool (goodB s num) ∧ Ext w w) := fun h => ⟨by unfold goodB; rw [decide_eq_false h], .refl _ _⟩
  refine idx 11 rfl (by omega) ?_
  refine ld (uv8 n) c11 ?_
  refine cvI (by omega) ?_
  refine cD (fun h => ?_) (fun h1 => ?_)
  · exact ret1 (.bool false) rfl (bad fun q => by have := q.1; omega)
  refine idx 10 rfl (by omega) ?_
  refine ld (uv8 k) c10 ?_
  refine cD (fun h => ?_) (fun h2 => ?_)
  · exact ret1 (.bool false) rfl (bad fun q => by have := q.2.1; omega)
  refine idx 10 rfl (by omega) ?_
  refine ld (uv8 k) c10 ?_
  refine and8 (a := k) (b := 2) l10 (by omega) ?_
  refine cE (fun h3 => ?_) (fun h3 => ?_)
  · refine cD (fun h4 => ?_) (fun h4 => ?_)
    · exact ret1 (.bool false) rfl (bad fun q => by have := q.2.2.1; rw [← hk, ← hn] at this; exact this ⟨by omega, by omega⟩)
    · refine idx 10 rfl (by omega) ?_
      refine ld (uv8 k) c10 ?_
      refine and8 (a := k) (b := 1) l10 (by omega) ?_
      refine cE (fun h5 => ?_) (fun h5 => ?_)
      · refine cE (fun h6 => ?_) (fun h6 => ?_)
        · exact ret1 (.bool false) rfl (bad fun q => by have := q.2.2.2.1; rw [← hk, ← hn] at this; exact this ⟨by omega, by omega⟩)
        · refine slcR 0 4 hs hc rfl rfl (by omega) (by omega) rfl (fun A4 hA4 => ?_)
          have s4 := hA4 _ w hs
          rw [List.drop_zero] at s4
          refine call_of (c_jget s4) ?_
          rintro _ w1 ⟨rfl, hw1⟩
          rw [hw1]
          clear hw1 w1
          refine drawP (.take 0 (.take 1 (.take 2 (.take 3 (.take 4 (.take 5 (.take 6 (.take 7 (.take 8 (.take 9 (.take 10 (.take 11 (.take 12 (.eff 13 (.eff 14 (.take 15 (.take 16 .done))))))))))))))))) [] (fun y => Ext w y) mx (by kernel_rfl) (.refl _ _) ?_
          refine cD (fun hg => ?_) (fun hg => ?_)
          · refine idx 10 rfl (by omega) ?_
            refine ldX (uv8 k) c10 (.refl _ _) ?_
            refine arI (n := 12 + (n : Int)) (by omega) ?_
            refine slcR 12 (12 + n) hs hc rfl (by show 12 + (n : Int) = ((12 + n : Nat) : Int); omega) (by omega) (by omega) rfl (fun A5 hA5 => ?_)
            have s5 := hA5 _ w hs
            have e5 : (s.take (12 + n)).drop 12 = (s.drop 12).take n := by rw [List.drop_take, Nat.add_sub_cancel_left]
            rw [e5, Nat.add_sub_cancel_left] at s5
            have hgl := getB_lt s4.u8b
            rw [Nat.add_sub_cancel_left]
            refine call_of (c_jencode (g := getB (s.take 4)) s5 (by omega) l10 (by omega)) ?_
            rintro _ w2 ⟨q, rfl, hq, B2, x2⟩
            have hb5 := s5.u8b
            have hl5 := s5.len
            refine strS x2 ?_
            have s6 : SlR tU8 (fun _ => True) w2 (some (ad q 0)) 128 (encB (getB (s.take 4)) num k ((s.drop 12).take n)) := SlR.of_cells (encB_len (by omega)).symm (by omega) trivial (.blk B2) (flat_u8s (encB_lt (by omega) l10 hb5))
            refine callB (c_bytesEq (hs.ext x2) s6) (fun hq2 => ?_) (fun hq2 => ?_)
            · refine strS x2 ?_
              refine ret1 (.bool true) rfl ⟨?_, x2⟩
              unfold goodB
              rw [decide_eq_true]
              refine ⟨by omega, by omega, (fun q => by rw [← hn] at q; omega), (fun q => by rw [← hn] at q; omega), by omega, ?_⟩
              rw [← hk, ← hn]
              exact of_decide_eq_true hq2
            · refine strS x2 ?_
              refine ret1 (.bool false) rfl ⟨?_, x2⟩
              unfold goodB
              rw [decide_eq_false]
              intro q
              have := q.2.2.2.2.2
              rw [← hk, ← hn] at this
              exact (of_decide_eq_false hq2) this
          · refine strS (.refl _ _) ?_
            refine strS (.refl _ _) ?_
            exact ret1 (.bool false) rfl (bad fun q => by have := q.2.2.2.2.1; omega)
      · refine slcR 0 4 hs hc rfl rfl (by omega) (by omega) rfl (fun A4 hA4 => ?_)
        have s4 := hA4 _ w hs
        rw [List.drop_zero] at s4
        refine call_of (c_jget s4) ?_
        rintro _ w1 ⟨rfl, hw1⟩
        rw [hw1]
        clear hw1 w1
        refine drawP (.take 0 (.take 1 (.take 2 (.take 3 (.take 4 (.take 5 (.take 6 (.take 7 (.take 8 (.take 9 (.take 10 (.take 11 (.take 12 (.eff 13 (.eff 14 (.take 15 (.take 16 .done))))))))))))))))) [] (fun y => Ext w y) mx (by kernel_rfl) (.refl _ _) ?_
        refine cD (fun hg => ?_) (fun hg => ?_)
        · refine idx 10 rfl (by omega) ?_
          refine ldX (uv8 k) c10 (.refl _ _) ?_
          refine arI (n := 12 + (n : Int)) (by omega) ?_
          refine slcR 12 (12 + n) hs hc rfl (by show 12 + (n : Int) = ((12 + n : Nat) : Int); omega) (by omega) (by omega) rfl (fun A5 hA5 => ?_)
          have s5 := hA5 _ w hs
          have e5 : (s.take (12 + n)).drop 12 = (s.drop 12).take n := by rw [List.drop_take, Nat.add_sub_cancel_left]
          rw [e5, Nat.add_sub_cancel_left] at s5
          have hgl := getB_lt s4.u8b
          rw [Nat.add_sub_cancel_left]
          refine call_of (c_jencode (g := getB (s.take 4)) s5 (by omega) l10 (by omega)) ?_
          rintro _ w2 ⟨q, rfl, hq, B2, x2⟩
          have hb5 := s5.u8b
          have hl5 := s5.len
          refine strS x2 ?_
          have s6 : SlR tU8 (fun _ => True) w2 (some (ad q 0)) 128 (encB (getB (s.take 4)) num k ((s.drop 12).take n)) := SlR.of_cells (encB_len (by omega)).symm (by omega) trivial (.blk B2) (flat_u8s (encB_lt (by omega) l10 hb5))
          refine callB (c_bytesEq (hs.ext x2) s6) (fun hq2 => ?_) (fun hq2 => ?_)
          · refine strS x2 ?_
            refine ret1 (.bool true) rfl ⟨?_, x2⟩
            unfold goodB
            rw [decide_eq_true]
            refine ⟨by omega, by omega, (fun q => by rw [← hn] at q; omega), (fun q => by rw [← hk] at q; omega), by omega, ?_⟩
            rw [← hk, ← hn]
            exact of_decide_eq_true hq2
          · refine strS x2 ?_
            refine ret1 (.bool false) rfl ⟨?_, x2⟩
            unfold goodB
            rw [decide_eq_false]
            intro q
            have := q.2.2.2.2.2
            rw [← hk, ← hn] at this
            exact (of_decide_eq_false hq2) this
        · refine strS (.refl _ _) ?_
          refine strS (.refl _ _) ?_
          exact ret1 (.bool false) rfl (bad fun q => by have := q.2.2.2.2.1; omega)
  · refine idx 10 rfl (by omega) ?_
    refine ld (uv8 k) c10 ?_
    refine and8 (a := k) (b := 1) l10 (by omega) ?_
    refine cE (fun h5 => ?_) (fun h5 => ?_)
    · refine cE (fun h6 => ?_) (fun h6 => ?_)
      · exact ret1 (.bool false) rfl (bad fun q => by have := q.2.2.2.1; rw [← hk, ← hn] at this; exact this ⟨by omega, by omega⟩)
      · refine slcR 0 4 hs hc rfl rfl (by omega) (by omega) rfl (fun A4 hA4 => ?_)
        have s4 := hA4 _ w hs
        rw [List.drop_zero] at s4
        refine call_of (c_jget s4) ?_
        rintro _ w1 ⟨rfl, hw1⟩
        rw [hw1]
        clear hw1 w1
        refine drawP (.take 0 (.take 1 (.take 2 (.take 3 (.take 4 (.take 5 (.take 6 (.take 7 (.take 8 (.take 9 (.take 10 (.take 11 (.take 12 (.eff 13 (.eff 14 (.take 15 (.take 16 .done))))))))))))))))) [] (fun y => Ext w y) mx (by kernel_rfl) (.refl _ _) ?_
        refine cD (fun hg => ?_) (fun hg => ?_)
        · refine idx 10 rfl (by omega) ?_
          refine ldX (uv8 k) c10 (.refl _ _) ?_
          refine arI (n := 12 + (n : Int)) (by omega) ?_
          refine slcR 12 (12 + n) hs hc rfl (by show 12 + (n : Int) = ((12 + n : Nat) : Int); omega) (by omega) (by omega) rfl (fun A5 hA5 => ?_)
          have s5 := hA5 _ w hs
          have e5 : (s.take (12 + n)).drop 12 = (s.drop 12).take n := by rw [List.drop_take, Nat.add_sub_cancel_left]
          rw [e5, Nat.add_sub_cancel_left] at s5
          have hgl := getB_lt s4.u8b
          rw [Nat.add_sub_cancel_left]
          refine call_of (c_jencode (g := getB (s.take 4)) s5 (by omega) l10 (by omega)) ?_
          rintro _ w2 ⟨q, rfl, hq, B2, x2⟩
          have hb5 := s5.u8b
          have hl5 := s5.len
          refine strS x2 ?_
          have s6 : SlR tU8 (fun _ => True) w2 (some (ad q 0)) 128 (encB (getB (s.take 4)) num k ((s.drop 12).take n)) := SlR.of_cells (encB_len (by omega)).symm (by omega) trivial (.blk B2) (flat_u8s (encB_lt (by omega) l10 hb5))
          refine callB (c_bytesEq (hs.ext x2) s6) (fun hq2 => ?_) (fun hq2 => ?_)
          · refine strS x2 ?_
            refine ret1 (.bool true) rfl ⟨?_, x2⟩
            unfold goodB
            rw [decide_eq_true]
            refine ⟨by omega, by omega, (fun q => by rw [← hk] at q; omega), (fun q => by rw [← hn] at q; omega), by omega, ?_⟩
            rw [← hk, ← hn]
            exact of_decide_eq_true hq2
          · refine strS x2 ?_
            refine ret1 (.bool false) rfl ⟨?_, x2⟩
            unfold goodB
            rw [decide_eq_false]
            intro q
            have := q.2.2.2.2.2
            rw [← hk, ← hn] at this
            exact (of_decide_eq_false hq2) this
        · refine strS (.refl _ _) ?_
          refine strS (.refl _ _) ?_
          exact ret1 (.bool false) rfl (bad fun q => by have := q.2.2.2.2.1; omega)
    · refine slcR 0 4 hs hc rfl rfl (by omega) (by omega) rfl (fun A4 hA4 => ?_)
      have s4 := hA4 _ w hs
      rw [List.drop_zero] at s4
      refine call_of (c_jget s4) ?_
      rintro _ w1 ⟨rfl, hw1⟩
      rw [hw1]
      clear hw1 w1
      refine drawP (.take 0 (.take 1 (.take 2 (.take 3 (.take 4 (.take 5 (.take 6 (.take 7 (.take 8 (.take 9 (.take 10 (.take 11 (.take 12 (.eff 13 (.eff 14 (.take 15 (.take 16 .done))))))))))))))))) [] (fun y => Ext w y) mx (by kernel_rfl) (.refl _ _) ?_
      refine cD (fun hg => ?_) (fun hg => ?_)
      · refine idx 10 rfl (by omega) ?_
        refine ldX (uv8 k) c10 (.refl _ _) ?_
        refine arI (n := 12 + (n : Int)) (by omega) ?_
        refine slcR 12 (12 + n) hs hc rfl (by show 12 + (n : Int) = ((12 + n : Nat) : Int); omega) (by omega) (by omega) rfl (fun A5 hA5 => ?_)
        have s5 := hA5 _ w hs
        have e5 : (s.take (12 + n)).drop 12 = (s.drop 12).take n := by rw [List.drop_take, Nat.add_sub_cancel_left]
        rw [e5, Nat.add_sub_cancel_left] at s5
        have hgl := getB_lt s4.u8b
        rw [Nat.add_sub_cancel_left]
        refine call_of (c_jencode (g := getB (s.take 4)) s5 (by omega) l10 (by omega)) ?_
        rintro _ w2 ⟨q, rfl, hq, B2, x2⟩
        have hb5 := s5.u8b
        have hl5 := s5.len
        refine strS x2 ?_
        have s6 : SlR tU8 (fun _ => True) w2 (some (ad q 0)) 128 (encB (getB (s.take 4)) num k ((s.drop 12).take n)) := SlR.of_cells (encB_len (by omega)).symm (by omega) trivial (.blk B2) (flat_u8s (encB_lt (by omega) l10 hb5))
        refine callB (c_bytesEq (hs.ext x2) s6) (fun hq2 => ?_) (fun hq2 => ?_)
        · refine strS x2 ?_
          refine ret1 (.bool true) rfl ⟨?_, x2⟩
          unfold goodB
          rw [decide_eq_true]
          refine ⟨by omega, by omega, (fun q => by rw [← hk] at q; omega), (fun q => by rw [← hk] at q; omega), by omega, ?_⟩
          rw [← hk, ← hn]
          exact of_decide_eq_true hq2
        · refine strS x2 ?_
          refine ret1 (.bool false) rfl ⟨?_, x2⟩
          unfold goodB
          rw [decide_eq_false]
          intro q
          have := q.2.2.2.2.2
          rw [← hk, ← hn] at this
          exact (of_decide_eq_false hq2) this
      · refine strS (.refl _ _) ?_
        refine strS (.refl _ _) ?_
        exact ret1 (.bool false) rfl (bad fun q => by have := q.2.2.2.2.1; omega)
end
end Go.Proofs.YtehcphboliofaaaGreatDoor

/- Layer 5: the records on sectors. -/
namespace Go.Proofs.YtehcphboliofaaaGreatDoor
open Go Go.RowKit

def genS (s : List Nat) : Nat := getB (s.take 4)
def curG (cur : Option (Nat × List Nat)) (s : List Nat) : Nat := match cur with | none => genS s | some (g, _) => g
def curB (cur : Option (Nat × List Nat)) : List Nat := match cur with | none => [] | some (_, b) => b
/-- Whether a sector goes on with the records. -/
def secOk (s : List Nat) (n : Nat) (cur : Option (Nat × List Nat)) (last : Nat) : Prop := goodP s n ∧ (at8 s 10 &&& 1 ≠ 0 ↔ cur = none) ∧ genS s = curG cur s ∧ last ≤ genS s
instance (s : List Nat) (n : Nat) (cur : Option (Nat × List Nat)) (last : Nat) : Decidable (secOk s n cur last) := by
  unfold secOk
  cases cur <;> infer_instance
def pieceB (s : List Nat) : List Nat := (s.drop 12).take (at8 s 11)
/-- The records, each with the number of sectors up to its end. -/
def recG : List (List Nat) → Nat → Option (Nat × List Nat) → Nat → List (Nat × List Nat)
  | [], _, _, _ => []
  | s :: r, n, cur, last => if secOk s n cur last then (if at8 s 10 &&& 2 ≠ 0 then (n + 1, curB cur ++ pieceB s) :: recG r (n + 1) none (genS s) else recG r (n + 1) (some (curG cur s, curB cur ++ pieceB s)) last) else []
section
variable {w : World}
theorem c_jrecords {A : Option Addr} {n c : Nat} : CallZ Tryz.prog 91 #[.slice A n c] w (fun v w' => ∃ b, v = .func (.func 160) #[] #[ptr b] ∧ Ext w w' ∧ Blk w' b 41 [.slice A n c] ∧ w.heap.size ≤ b) := by
  refine fn_rule (args := [.slice A n c]) Tryz.func91 (by kernel_rfl) ?_
  refine box (fun b w1 h1 => ?_)
  have e1 := h1.at_
  exact ret1 (.func (.func 160) #[] #[ptr b]) rfl ⟨b, rfl, h1.ext, h1.blk, by omega⟩
set_option maxRecDepth 8000 in
theorem c_jrecords1 {D : Nat → Prop} {lb bs N c : Nat} {l : List (List Nat)} {A : Option Addr} (J : Nat → World → Prop) (hs : SlR (tSl tU8) D w A N l) (hb : Blk w bs 41 [.slice A N c]) (hDb : D bs) (hl : ∀ s ∈ l, s.length = 128) (hN : N ≤ 4096)
    (hJ : ∀ i u u', J i u → Ext u u' → J i u')
    (hstep : ∀ i u0 u (e : Nat) b B m d, (recG l 0 none 0)[i]? = some (e, b) → J i u0 → Kept D w u0 → Ext u0 u → SlR tU8 (fun j => u0.heap.size ≤ j) u B m b → m ≤ d → m ≤ 1000000 → YieldP Tryz.prog lb [iv (e : Int), .slice B m d].toArray (fun y w' => y = .bool true ∧ J (i + 1) w' ∧ Kept D u w') u)
    (h0 : J 0 w) : CallZ Tryz.prog 160 #[.func (.yield lb) #[] #[], ptr bs] w (fun _ w' => J (recG l 0 none 0).length w' ∧ Kept D w w') := by
  have hlen := hs.len
  have hs := hs.more (D' := fun j => D j ∧ j < w.heap.size) (by decide) fun j hj h => ⟨h, hj⟩
  refine fn_ruleS (args := [.func (.yield lb) #[] #[], ptr bs]) Tryz.func160 rfl (by kernel_rfl) ?_
  refine loop_rule (fun (p : Nat × Nat × Nat) => [(3, iv (p.1 : Int)), (4, uv64 p.2.1)]) (fun p u => p.1 ≤ N ∧ p.2.1 < 18446744073709551616 ∧ Kept D w u ∧ J p.2.2 u ∧ ∃ done, done.length = p.2.2 ∧ recG l 0 none 0 = done ++ recG (l.drop p.1) p.1 none p.2.1) (fun p _ => N - p.1) (0, 0, 0) ⟨rfl, rfl, trivial⟩ ⟨Nat.zero_le _, (show (0 : Nat) < 18446744073709551616 by omega), .refl _ _, h0, [], rfl, rfl⟩ rfl ?_
  rintro G ⟨at0, last, i⟩ u0 ⟨hat, hlast, ku0, Ju0, done, hdone, htot0⟩
  simp only at hat hlast ku0 Ju0 hdone htot0
  refine loop_rule (fun (p : Nat × (Option (Nat × List Nat)) × Option Addr × Nat × Nat) => [(3, iv (at0 : Int)), (4, uv64 last), (5, .slice p.2.2.1 p.2.2.2.1 p.2.2.2.2), (6, iv (p.1 : Int))]) (fun p u => at0 ≤ p.1 ∧ p.1 ≤ N ∧ OwnF u0 u p.2.2.1 p.2.2.2.1 p.2.2.2.2 5 1 (u8s (curB p.2.1)) ∧ p.2.2.2.1 ≤ 112 * (p.1 - at0) ∧ (∀ x ∈ curB p.2.1, x < 256) ∧ recG l 0 none 0 = done ++ recG (l.drop p.1) p.1 p.2.1 last ∧ ((p.1 = at0 ∧ p.2.1 = none) ∨ (at0 < p.1 ∧ ∃ s b, l[at0]? = some s ∧ p.2.1 = some (genS s, b)))) (fun p _ => N - p.1) (at0, none, none, 0, 0) ⟨rfl, rfl, rfl, rfl, trivial⟩ ⟨Nat.le_refl _, hat, OwnF.nil (.refl _ _), Nat.zero_le _, (fun x hx => by cases hx), htot0, .inl ⟨rfl, rfl⟩⟩ rfl ?_
  rintro G2 ⟨n, cur, B, m, d⟩ u ⟨hn0, hnN, own, hm, hcB, htot, hcur⟩
  simp only at hn0 hnN own hm hcB htot hcur
  have hm : m ≤ 112 * (n - at0) := hm
  have own : OwnF u0 u B m d 5 1 (u8s (curB cur)) := own
  have ku : Kept D w u := ku0.then own.ext fun _ _ _ => trivial
  have Ju := hJ i u0 u Ju0 own.ext
  have hbu := hb.kept ku hDb
  refine ld (.slice A N c) (hbu.cell rfl) ?_
  refine len ?_
  refine cD (fun hlt => ?_) (fun hge => ?_)
  rotate_left
  · refine ret0 ⟨?_, ku⟩
    rw [drop_end (by omega), recG, List.append_nil] at htot
    rw [htot, hdone]; exact Ju
  obtain ⟨bx, o, cs, s, rfl, hx, hdr, -, hc, A2, n2, c2, rfl, hs2, hc2⟩ := (hs.kept ku fun b _ h => h.1).at_ (k := n) (by omega)
  have h128 : n2 = 128 := by have := hs2.len; have := hl s (List.mem_of_getElem? hx); omega
  subst h128
  refine ld (.slice (some (ad bx o)) N c) (hbu.cell rfl) ?_
  refine idx n rfl (by omega) ?_
  refine ld (.slice A2 128 c2) (hc 0 _ rfl) ?_
  obtain ⟨b2, o2, cs0, x0, rfl, -, -, hD2, -⟩ := hs2.at_ (k := 0) (by omega)
  obtain ⟨c11, l11⟩ := u8_cell hs2 (k := 11) (by omega)
  obtain ⟨c10, l10⟩ := u8_cell hs2 (k := 10) (by omega)
  obtain ⟨sat, hsat, hgat⟩ : ∃ sat, l[at0]? = some sat ∧ curG cur s = genS sat := by
    rcases hcur with ⟨h1, h2⟩ | ⟨h1, s0, b0, h2, h3⟩
    · subst h1; subst h2; exact ⟨s, hx, rfl⟩
    · subst h3; exact ⟨s0, h2, rfl⟩
  have hcn : cur = none ↔ n = at0 := by
    rcases hcur with ⟨h1, h2⟩ | ⟨h1, s0, b0, h2, h3⟩
    · exact ⟨fun _ => h1, fun _ => h2⟩
    · exact ⟨(fun h => by rw [h3] at h; cases h), fun h => by omega⟩
  obtain ⟨bx', o', cs', s', he', hx', -, -, hcat, A5, n5, c5, rfl, hs5, hc5⟩ := (hs.kept ku fun b _ h => h.1).at_ (k := at0) (by omega)
  injection he' with he'
  injection he' with he1 he2
  subst he1; subst he2
  have hss : s' = sat := by rw [hsat] at hx'; injection hx' with h; exact h.symm
  subst hss
  have h5 : n5 = 128 := by have := hs5.len; have := hl s' (List.mem_of_getElem? hx'); omega
  subst h5
  refine drawP (.take 0 (.take 1 (.eff 2 (.take 3 (.take 4 (.take 5 (.take 6 (.take 7 (.take 8 (.take 9 (.take 10 (.take 11 (.take 12 (.take 13 (.take 14 (.take 15 (.take 16 (.take 17 (.take 18 (.take 19 (.take 20 (.take 21 (.take 22 (.take 23 (.take 24 (.take 25 (.take 26 (.take 27 (.take 28 (.take 29 (.take 30 (.take 31 (.take 32 (.take 33 .done)))))))))))))))))))))))))))))))))) [] (fun y => Ext u y) mx (by kernel_rfl) (.refl _ _) ?_
  refine callE (c_jgood hs2 hc2 (by omega)) (fun w1 hq x1 => ?_) (fun w1 hq x1 => ?_)
  rotate_left
  · refine strS x1 ?_
    refine ret0 ⟨?_, ku.then x1 fun _ _ _ => trivial⟩
    rw [hdr, recG, if_neg ((fun q => (of_decide_eq_false hq) q.1)), List.append_nil] at htot
    rw [htot, hdone]; exact hJ i u _ Ju x1
  have hgood : goodP s n := of_decide_eq_true hq
  refine strT (fun y => Ext w1 y) (.refl _ _) (fun y hy => x1.trans hy) ?_
  refine idx 10 rfl (by omega) ?_
  refine ldX (uv8 (at8 s 10)) ((show Kept (fun _ => True) u w1 from x1).cell c10 trivial) (.refl _ _) ?_
  refine and8 (a := at8 s 10) (b := 1) l10 (by omega) ?_
  refine cN (fun hb1 => ?_) (fun hb1 => ?_)
  · refine cE (fun hna => ?_) (fun hna => ?_)
    · refine neB (fun h => absurd rfl h) (fun _ => ?_)
      refine slcR 0 4 hs2 hc2 rfl rfl (by omega) (by omega) rfl (fun A4 hA4 => ?_)
      have s4 : ∀ y, Ext u y → SlR tU8 (fun j => D j ∧ j < w.heap.size) y A4 4 (s.take 4) := fun y hy => by have := hA4 _ y (hs2.ext hy); rwa [List.drop_zero] at this
      refine callQ (fun y hy => c_jget (s4 y (x1.trans hy))) ?_
      refine ldX (.slice (some (ad bx o)) N c) ((hbu.ext x1).cell rfl) (.refl _ _) ?_
      refine idx at0 rfl (by omega) ?_
      refine ldX (.slice A5 128 c5) (hcat.kept x1 trivial 0 _ rfl) (.refl _ _) ?_
      refine slcR 0 4 hs5 hc5 rfl rfl (by omega) (by omega) rfl (fun A6 hA6 => ?_)
      have s6 : ∀ y, Ext u y → SlR tU8 (fun j => D j ∧ j < w.heap.size) y A6 4 (s'.take 4) := fun y hy => by have := hA6 _ y (hs5.ext hy); rwa [List.drop_zero] at this
      refine callQ (fun y hy => c_jget (s6 y (x1.trans hy))) ?_
      refine cN (fun hg => ?_) (fun hg => ?_)
      · refine ret0 ⟨?_, ku.then x1 fun _ _ _ => trivial⟩
        rw [hdr, recG, if_neg ((fun q => by have := q.2.2.1; rw [hgat] at this; unfold genS at this; omega)), List.append_nil] at htot
        rw [htot, hdone]; exact hJ i u _ Ju x1
      have hgg : genS s = genS s' := by unfold genS; omega
      refine slcR 0 4 hs2 hc2 rfl rfl (by omega) (by omega) rfl (fun A7 hA7 => ?_)
      have s7 : ∀ y, Ext u y → SlR tU8 (fun j => D j ∧ j < w.heap.size) y A7 4 (s.take 4) := fun y hy => by have := hA7 _ y (hs2.ext hy); rwa [List.drop_zero] at this
      refine callQ (fun y hy => c_jget (s7 y (x1.trans hy))) ?_
      refine cD (fun hlg => ?_) (fun hlg => ?_)
      · refine ret0 ⟨?_, ku.then x1 fun _ _ _ => trivial⟩
        rw [hdr, recG, if_neg ((fun q => by have := q.2.2.2; unfold genS at this; omega)), List.append_nil] at htot
        rw [htot, hdone]; exact hJ i u _ Ju x1
      have hsok : secOk s n cur last := ⟨hgood, ⟨fun _ => hcn.2 (by omega), fun _ => by omega⟩, by rw [hgat]; exact hgg, by unfold genS; omega⟩
      refine idx 11 rfl (by omega) ?_
      refine ld (uv8 (at8 s 11)) ((show Kept (fun _ => True) u w1 from x1).cell c11 trivial) ?_
      refine cvI (by omega) ?_
      refine arI (n := 12 + ((at8 s 11 : Nat) : Int)) (by omega) ?_
      have h112 := hgood.1
      refine slcR 12 (12 + at8 s 11) (hs2.ext x1) hc2 rfl (by show 12 + ((at8 s 11 : Nat) : Int) = ((12 + at8 s 11 : Nat) : Int); omega) (by omega) (by omega) rfl (fun A8 hA8 => ?_)
      have s8 := hA8 _ w1 (hs2.ext x1)
      rw [List.drop_take, Nat.add_sub_cancel_left] at s8
      rw [Nat.add_sub_cancel_left]
      refine appF (n := m) (m := at8 s 11) (c := d) (A := B) (own.then x1) s8.u8src (by omega) (fun F e w2 own2 k2 hF => ?_) (h1 := u8s_one _)
      have own2 : OwnF u0 w2 F (m + at8 s 11) e 5 1 (u8s (curB cur ++ pieceB s)) := by rw [u8s_app]; exact own2
      have kU : Kept (fun j => j < u0.heap.size) u w2 := (Ext.any x1).then k2 fun j _ hj e => by have := own.new j e; omega
      have su0 := ku0.size
      have ku2 : Kept D w w2 := ku0.then own2.ext fun _ _ _ => trivial
      refine idx 10 rfl (by omega) ?_
      refine ld (uv8 (at8 s 10)) (kU.cell c10 (show b2 < u0.heap.size by have := hD2.2; omega)) ?_
      refine and8 (a := at8 s 10) (b := 2) l10 (by omega) ?_
      rw [hdr, recG, if_pos hsok] at htot
      refine cN (fun hb2 => ?_) (fun hb2 => ?_)
      · rw [if_pos (show at8 s 10 &&& 2 ≠ 0 by omega)] at htot
        refine arI (n := (n : Int) + 1) (by omega) ?_
        refine slcR 0 4 (hs2.kept kU fun j _ h => by have := h.2; omega) hc2 rfl rfl (by omega) (by omega) rfl (fun A9 hA9 => ?_)
        have s9 := hA9 _ w2 (hs2.kept kU fun j _ h => by have := h.2; omega)
        rw [List.drop_zero] at s9
        refine call_of (c_jget s9) ?_
        rintro _ w3 ⟨rfl, hw3⟩
        rw [hw3]
        clear hw3 w3
        have hrec : (recG l 0 none 0)[i]? = some (n + 1, curB cur ++ pieceB s) := by
          rw [htot, List.getElem?_append_right (by omega), hdone, Nat.sub_self]; rfl
        have hbb : ∀ x ∈ curB cur ++ pieceB s, x < 256 := fun x hx => (List.mem_append.1 hx).elim (hcB x) (s8.u8b x)
        have hst := hstep i u0 w2 (n + 1) (curB cur ++ pieceB s) F (m + at8 s 11) e hrec Ju0 ku0 own2.ext (own2.u8 hbb (by omega) fun j hj => hj) own2.le (by omega)
        refine yield_of hst ?_
        rintro _ w4 ⟨rfl, J4, k4⟩
        refine next (n + 1, genS s, i + 1) ⟨rfl, rfl, trivial⟩ ⟨by show n + 1 ≤ N; omega, getB_lt s9.u8b, ku2.trans k4, J4, done ++ [(n + 1, curB cur ++ pieceB s)], by simp [hdone], ?_⟩ (by show N - (n + 1) < N - at0; omega)
        rw [htot, List.append_assoc]; rfl
      · rw [if_neg (show ¬ at8 s 10 &&& 2 ≠ 0 by omega)] at htot
        refine arI (n := (n : Int) + 1) (by omega) ?_
        refine next (n + 1, some (curG cur s, curB cur ++ pieceB s), F, m + at8 s 11, e) ⟨rfl, rfl, rfl, rfl, trivial⟩ ⟨by show at0 ≤ n + 1; omega, by show n + 1 ≤ N; omega, own2, by show m + at8 s 11 ≤ 112 * (n + 1 - at0); omega, fun x hx => (List.mem_append.1 hx).elim (hcB x) (s8.u8b x), htot, .inr ⟨by show at0 < n + 1; omega, s', curB cur ++ pieceB s, hsat, by show some (curG cur s, _) = some (genS s', _); rw [hgat]⟩⟩ (by show N - (n + 1) < N - n; omega)
    · refine neB (fun _ => ?_) (fun h => by cases h)
      refine ret0 ⟨?_, ku.then x1 fun _ _ _ => trivial⟩
      rw [hdr, recG, if_neg ((fun q => hna (by have := hcn.1 (q.2.1.1 (by omega)); omega))), List.append_nil] at htot
      rw [htot, hdone]; exact hJ i u _ Ju x1
  · refine cE (fun hna => ?_) (fun hna => ?_)
    · refine neB (fun _ => ?_) (fun h => by cases h)
      refine ret0 ⟨?_, ku.then x1 fun _ _ _ => trivial⟩
      rw [hdr, recG, if_neg ((fun q => (q.2.1.2 (hcn.2 (by omega))) (by omega))), List.append_nil] at htot
      rw [htot, hdone]; exact hJ i u _ Ju x1
    · refine neB (fun h => absurd rfl h) (fun _ => ?_)
      refine slcR 0 4 hs2 hc2 rfl rfl (by omega) (by omega) rfl (fun A4 hA4 => ?_)
      have s4 : ∀ y, Ext u y → SlR tU8 (fun j => D j ∧ j < w.heap.size) y A4 4 (s.take 4) := fun y hy => by have := hA4 _ y (hs2.ext hy); rwa [List.drop_zero] at this
      refine callQ (fun y hy => c_jget (s4 y (x1.trans hy))) ?_
      refine ldX (.slice (some (ad bx o)) N c) ((hbu.ext x1).cell rfl) (.refl _ _) ?_
      refine idx at0 rfl (by omega) ?_
      refine ldX (.slice A5 128 c5) (hcat.kept x1 trivial 0 _ rfl) (.refl _ _) ?_
      refine slcR 0 4 hs5 hc5 rfl rfl (by omega) (by omega) rfl (fun A6 hA6 => ?_)
      have s6 : ∀ y, Ext u y → SlR tU8 (fun j => D j ∧ j < w.heap.size) y A6 4 (s'.take 4) := fun y hy => by have := hA6 _ y (hs5.ext hy); rwa [List.drop_zero] at this
      refine callQ (fun y hy => c_jget (s6 y (x1.trans hy))) ?_
      refine cN (fun hg => ?_) (fun hg => ?_)
      · refine ret0 ⟨?_, ku.then x1 fun _ _ _ => trivial⟩
        rw [hdr, recG, if_neg ((fun q => by have := q.2.2.1; rw [hgat] at this; unfold genS at this; omega)), List.append_nil] at htot
        rw [htot, hdone]; exact hJ i u _ Ju x1
      have hgg : genS s = genS s' := by unfold genS; omega
      refine slcR 0 4 hs2 hc2 rfl rfl (by omega) (by omega) rfl (fun A7 hA7 => ?_)
      have s7 : ∀ y, Ext u y → SlR tU8 (fun j => D j ∧ j < w.heap.size) y A7 4 (s.take 4) := fun y hy => by have := hA7 _ y (hs2.ext hy); rwa [List.drop_zero] at this
      refine callQ (fun y hy => c_jget (s7 y (x1.trans hy))) ?_
      refine cD (fun hlg => ?_) (fun hlg => ?_)
      · refine ret0 ⟨?_, ku.then x1 fun _ _ _ => trivial⟩
        rw [hdr, recG, if_neg ((fun q => by have := q.2.2.2; unfold genS at this; omega)), List.append_nil] at htot
        rw [htot, hdone]; exact hJ i u _ Ju x1
      have hsok : secOk s n cur last := ⟨hgood, ⟨fun h => absurd (show at8 s 10 &&& 1 = 0 by omega) h, fun h => absurd (hcn.1 h) (by omega)⟩, by rw [hgat]; exact hgg, by unfold genS; omega⟩
      refine idx 11 rfl (by omega) ?_
      refine ld (uv8 (at8 s 11)) ((show Kept (fun _ => True) u w1 from x1).cell c11 trivial) ?_
      refine cvI (by omega) ?_
      refine arI (n := 12 + ((at8 s 11 : Nat) : Int)) (by omega) ?_
      have h112 := hgood.1
      refine slcR 12 (12 + at8 s 11) (hs2.ext x1) hc2 rfl (by show 12 + ((at8 s 11 : Nat) : Int) = ((12 + at8 s 11 : Nat) : Int); omega) (by omega) (by omega) rfl (fun A8 hA8 => ?_)
      have s8 := hA8 _ w1 (hs2.ext x1)
      rw [List.drop_take, Nat.add_sub_cancel_left] at s8
      rw [Nat.add_sub_cancel_left]
      refine appF (n := m) (m := at8 s 11) (c := d) (A := B) (own.then x1) s8.u8src (by omega) (fun F e w2 own2 k2 hF => ?_) (h1 := u8s_one _)
      have own2 : OwnF u0 w2 F (m + at8 s 11) e 5 1 (u8s (curB cur ++ pieceB s)) := by rw [u8s_app]; exact own2
      have kU : Kept (fun j => j < u0.heap.size) u w2 := (Ext.any x1).then k2 fun j _ hj e => by have := own.new j e; omega
      have su0 := ku0.size
      have ku2 : Kept D w w2 := ku0.then own2.ext fun _ _ _ => trivial
      refine idx 10 rfl (by omega) ?_
      refine ld (uv8 (at8 s 10)) (kU.cell c10 (show b2 < u0.heap.size by have := hD2.2; omega)) ?_
      refine and8 (a := at8 s 10) (b := 2) l10 (by omega) ?_
      rw [hdr, recG, if_pos hsok] at htot
      refine cN (fun hb2 => ?_) (fun hb2 => ?_)
      · rw [if_pos (show at8 s 10 &&& 2 ≠ 0 by omega)] at htot
        refine arI (n := (n : Int) + 1) (by omega) ?_
        refine slcR 0 4 (hs2.kept kU fun j _ h => by have := h.2; omega) hc2 rfl rfl (by omega) (by omega) rfl (fun A9 hA9 => ?_)
        have s9 := hA9 _ w2 (hs2.kept kU fun j _ h => by have := h.2; omega)
        rw [List.drop_zero] at s9
        refine call_of (c_jget s9) ?_
        rintro _ w3 ⟨rfl, hw3⟩
        rw [hw3]
        clear hw3 w3
        have hrec : (recG l 0 none 0)[i]? = some (n + 1, curB cur ++ pieceB s) := by
          rw [htot, List.getElem?_append_right (by omega), hdone, Nat.sub_self]; rfl
        have hbb : ∀ x ∈ curB cur ++ pieceB s, x < 256 := fun x hx => (List.mem_append.1 hx).elim (hcB x) (s8.u8b x)
        have hst := hstep i u0 w2 (n + 1) (curB cur ++ pieceB s) F (m + at8 s 11) e hrec Ju0 ku0 own2.ext (own2.u8 hbb (by omega) fun j hj => hj) own2.le (by omega)
        refine yield_of hst ?_
        rintro _ w4 ⟨rfl, J4, k4⟩
        refine next (n + 1, genS s, i + 1) ⟨rfl, rfl, trivial⟩ ⟨by show n + 1 ≤ N; omega, getB_lt s9.u8b, ku2.trans k4, J4, done ++ [(n + 1, curB cur ++ pieceB s)], by simp [hdone], ?_⟩ (by show N - (n + 1) < N - at0; omega)
        rw [htot, List.append_assoc]; rfl
      · rw [if_neg (show ¬ at8 s 10 &&& 2 ≠ 0 by omega)] at htot
        refine arI (n := (n : Int) + 1) (by omega) ?_
        refine next (n + 1, some (curG cur s, curB cur ++ pieceB s), F, m + at8 s 11, e) ⟨rfl, rfl, rfl, rfl, trivial⟩ ⟨by show at0 ≤ n + 1; omega, by show n + 1 ≤ N; omega, own2, by show m + at8 s 11 ≤ 112 * (n + 1 - at0); omega, fun x hx => (List.mem_append.1 hx).elim (hcB x) (s8.u8b x), htot, .inr ⟨by show at0 < n + 1; omega, s', curB cur ++ pieceB s, hsat, by show some (curG cur s, _) = some (genS s', _); rw [hgat]⟩⟩ (by show N - (n + 1) < N - n; omega)
end
end Go.Proofs.YtehcphboliofaaaGreatDoor

/- Layer 5: Open. -/
namespace Go.Proofs.YtehcphboliofaaaGreatDoor
open Go Go.RowKit

structure Jrn where
  recs : List (List Nat)
  many : Int
  syn : Int
abbrev zeroJ : Jrn := ⟨[], 0, 0⟩
abbrev zeroJC : List Value := [.slice none 0 0, iv 0, iv 0]
structure JrnR (D : Nat → Prop) (w : World) (cs : List Value) (j : Jrn) : Prop where
  of_ ::
  ex : ∃ A n c, cs = [.slice A n c, iv j.many, iv j.syn] ∧ SlR (tSl tU8) D w A n j.recs ∧ n ≤ c ∧ I64 j.many ∧ I64 j.syn
theorem zeroJ_r {D : Nat → Prop} {w : World} : JrnR D w zeroJC zeroJ := ⟨⟨none, 0, 0, rfl, .nil, Nat.le_refl _, (show I64 0 by unfold I64; omega), (show I64 0 by unfold I64; omega)⟩⟩
theorem JrnR.ext {D : Nat → Prop} {w w' : World} {cs : List Value} {j : Jrn} (h : JrnR D w cs j) (k : Ext w w') : JrnR D w' cs j :=
  let ⟨A, n, c, h1, h2, h3⟩ := h.ex; ⟨A, n, c, h1, h2.ext k, h3⟩
/-- A list of texts of the function's own, none of which lies in its block, all in E. -/
def LBx (E : Nat → Prop) (w0 u : World) (A : Option Addr) (n c : Nat) (l : List (List Nat)) : Prop := ∃ cs, OwnF w0 u A n c 102 1 cs ∧ FlatR (tSl tU8) (fun b => A ≠ some (ad b 0) ∧ E b) u l cs
theorem LBx.nil {E : Nat → Prop} {w0 u : World} (h : Ext w0 u) : LBx E w0 u none 0 0 [] := ⟨[], OwnF.nil h, rfl⟩
theorem LBx.ex {E : Nat → Prop} {w0 u : World} {A : Option Addr} {n c : Nat} {l : List (List Nat)} (h : LBx E w0 u A n c l) : Ext w0 u := let ⟨_, o, _⟩ := h; o.ext
theorem LBx.then {E : Nat → Prop} {w0 u u' : World} {A : Option Addr} {n c : Nat} {l : List (List Nat)} (h : LBx E w0 u A n c l) (k : Ext u u') : LBx E w0 u' A n c l := let ⟨cs, o, f⟩ := h; ⟨cs, o.then k, f.keep fun b hb _ => k.blk b hb trivial⟩
theorem LBx.thenK {E D : Nat → Prop} {w0 u u' : World} {A : Option Addr} {n c : Nat} {l : List (List Nat)} (h : LBx E w0 u A n c l) (k : Kept D u u') (hE : ∀ b, E b → D b) (hA : ∀ g, A = some (ad g 0) → D g) (hx : Ext w0 u') : LBx E w0 u' A n c l := let ⟨cs, o, f⟩ := h; ⟨cs, o.thenK k hA hx, f.keep fun b hb hd => k.blk b hb (hE b hd.2)⟩
theorem LBx.len {E : Nat → Prop} {w0 u : World} {A : Option Addr} {n c : Nat} {l : List (List Nat)} (h : LBx E w0 u A n c l) : n = l.length := by
  obtain ⟨cs, o, f⟩ := h
  exact LBy.len ⟨cs, o, f.more fun _ _ h => h.1⟩
theorem LBx.le {E : Nat → Prop} {w0 u : World} {A : Option Addr} {n c : Nat} {l : List (List Nat)} (h : LBx E w0 u A n c l) : n ≤ c := let ⟨_, o, _⟩ := h; o.le
theorem LBx.lt {E : Nat → Prop} {w0 u : World} {A : Option Addr} {n c g : Nat} {l : List (List Nat)} (h : LBx E w0 u A n c l) (hg : A = some (ad g 0)) : w0.heap.size ≤ g ∧ g < u.heap.size := by
  obtain ⟨cs, o, f⟩ := h
  refine ⟨o.new g hg, ?_⟩
  rcases o.form with ⟨q, -⟩ | ⟨q, h2, -, h3, -⟩
  · rw [q] at hg; cases hg
  · rw [h2] at hg; injection hg with hg; injection hg with hg; omega
theorem LBx.ty {E : Nat → Prop} {w0 u : World} {A : Option Addr} {n c b : Nat} {t : TypeId} {xs : List Value} {l : List (List Nat)} (h : LBx E w0 u A n c l) (hb : Blk u b t xs) (hne : t ≠ 102) : A ≠ some (ad b 0) := let ⟨_, o, _⟩ := h; own_tyL o hb hne
theorem LBx.rd {E : Nat → Prop} {w0 u : World} {A : Option Addr} {n c : Nat} {l : List (List Nat)} (h : LBx E w0 u A n c l) (hn : n ≤ 140737488355328) : SlR (tSl tU8) (fun _ => True) u A n l := by
  obtain ⟨cs, o, f⟩ := h
  exact LBy.rd ⟨cs, o, f.more fun _ _ h => h.1⟩ hn
theorem appX {E : Nat → Prop} {P : Program} {X : XK} {t : TypeId} [h : SliceTy P t 102 1] [hz : ZeroTy P 102 (.slice none 0 0)] [hby : BytesTy P 102 24] {ty : TypeId} {cst : Array Bool} {n c m d q : Nat} {A B : Option Addr} {l : List (List Nat)} {x : List Nat} {w0 u v : World} {K : VK}
    (own : LBx E w0 u A n c l) (hx : SlR tU8 (fun b => A ≠ some (ad b 0) ∧ E b) u B m x) (hd : m ≤ d) (hq : NewB u 102 [.slice B m d] q v) (hn : n ≤ 1000000)
    (kk : ∀ A' c' w', LBx E w0 w' A' (n + 1) c' (l ++ [x]) → Kept (fun b => A ≠ some (ad b 0)) v w' → (A' = A ∨ A' = none ∨ A' = some (ad v.heap.size 0)) → K (.slice A' (n + 1) c') w') : BuiP P .append #[t, t] ty cst #[.slice A n c, .slice (some (ad q 0)) 1 1] K X v := by
  obtain ⟨cs, o, f⟩ := own
  refine appF (zv := .slice none 0 0) (sz := 1) (by_ := 24) (o.then hq.ext) (hq.src (n := 1) rfl) (by omega) fun A' c' w' o' k' hA => ?_
  refine kk A' c' w' ⟨_, o', ?_⟩ k' hA
  have k2 : Kept (fun b => A ≠ some (ad b 0)) u w' := hq.ext.any.then k' fun _ _ h => h
  have hD : ∀ b, b < u.heap.size → A ≠ some (ad b 0) → A' ≠ some (ad b 0) := fun b hb h e => by
    rcases hA with r | r | r
    · exact h (r.symm.trans e)
    · rw [r] at e; cases e
    · rw [r] at e; injection e with e; injection e with e; have := hq.ext.size; omega
  have f1 : FlatR (tSl tU8) (fun b => (A ≠ some (ad b 0) ∧ E b) ∧ b < u.heap.size) u l cs := f.more fun b hb h => ⟨h, hb⟩
  have hx1 : SlR tU8 (fun b => (A ≠ some (ad b 0) ∧ E b) ∧ b < u.heap.size) u B m x := hx.more (by decide) fun b hb h => ⟨h, hb⟩
  have f2 : FlatR (tSl tU8) (fun b => (A ≠ some (ad b 0) ∧ E b) ∧ b < u.heap.size) w' l cs := f1.keep fun b hb h => k2.blk b hb h.1.1
  have hx2 : SlR tU8 (fun b => (A ≠ some (ad b 0) ∧ E b) ∧ b < u.heap.size) w' B m x := hx1.kept k2 fun b _ h => h.1.1
  exact (f2.more fun b _ h => ⟨hD b h.2 h.1.1, h.1.2⟩).app (FlatR.one (a := tSl tU8) ⟨B, m, d, rfl, hx2.more (by decide) fun b _ h => ⟨hD b h.2 h.1.1, h.1.2⟩, hd⟩)
def recsD (l : List (List Nat)) : List (List Nat) := (recG l 0 none 0).map (·.2)
theorem recG_len : ∀ (l : List (List Nat)) (n : Nat) (cur : Option (Nat × List Nat)) (last : Nat), (recG l n cur last).length ≤ l.length
  | [], _, _, _ => Nat.le_refl _
  | s :: r, n, cur, last => by
    unfold recG
    rw [List.length_cons]
    split
    · split
      · have := recG_len r (n + 1) none (genS s)
        rw [List.length_cons]; omega
      · have := recG_len r (n + 1) (some (curG cur s, curB cur ++ pieceB s)) last
        omega
    · simp
def openP (d : Dsk) : Jrn × Int := if ¬ okD d then (zeroJ, 40) else if d.stop = true then (zeroJ, 40) else if 0 < d.pend.length then (zeroJ, 1) else (⟨recsD d.secs, d.secs.length, (recsD d.secs).length⟩, 0)
def RetJ (w w' : World) (v : Value) (p : Jrn × Int) : Prop := ∃ cs, v = .tuple #[.agg cs.toArray, iv p.2] ∧ JrnR (fun _ => True) w' cs p.1 ∧ Ext w w'
section
variable {D : Nat → Prop} {w : World}
set_option maxRecDepth 4000 in
theorem c_jOpen {d : Dsk} {cs : List Value} (hd : DskR (fun _ => True) w cs d) : CallZ Tryz.prog 52 #[.agg cs.toArray] w (fun v w' => RetJ w w' v (openP d)) := by
  obtain ⟨A, n, c, B, m, c2, rfl, hs, hc, hp, hc2, hId⟩ := hd.ex
  have ln := hs.len
  have lm := hp.len
  have hs0 := hs.more (D' := fun b => b < w.heap.size) (by decide) fun b hb _ => hb
  refine fn_rule (args := [.agg #[.slice A n c, .slice B m c2, iv d.left, .bool d.stop]]) Tryz.func52 (by kernel_rfl) ?_
  refine box (fun g w1 h1 => ?_)
  have G1 : Blk w1 g 44 [.slice A n c, .slice B m c2, iv d.left, .bool d.stop] := h1.blk
  refine alloc (fun b2 w2 h2 => ?_)
  have R2 : Blk w2 b2 108 zeroJC := h2.blk
  have e1 := h1.at_
  have e2 := h2.at_
  have x02 := h1.ext.trans h2.ext
  have s1 := h1.ext.size
  have G2 := G1.ext h2.ext
  have lg := G1.lt
  refine ldA [.slice A n c, .slice B m c2, iv d.left, .bool d.stop] (.blk G2) rfl ?_
  refine call_of (c_dCheck (hd.ext x02)) ?_
  rintro _ w3 ⟨rfl, x3⟩
  have x03 := x02.trans x3
  have R3 := R2.ext x3
  have G3 := G2.ext x3
  have s23 := x3.size
  refine cN (fun h => ?_) (fun h => ?_)
  · have hno : ¬ okD d := fun q => h (dskE_0.2 q)
    have h40 : dskE d = 40 := by unfold dskE; rw [if_neg hno]
    refine bld zeroJC (by kernel_rfl) ?_
    refine stA (vs := zeroJC) R3 rfl (Nat.le_of_ble_eq_true rfl) (by simp [Value.oneCell']) (fun we Be ke ze => ?_)
    refine ret ?_
    refine resL (.agg (zeroJC).toArray) (holds_agg (.blk Be) rfl) ?_
    refine ⟨zeroJC, by unfold openP; rw [if_pos hno, h40]; rfl, by unfold openP; rw [if_pos hno]; exact zeroJ_r, x03.then ke fun i hi _ e => by omega⟩
  have hok : okD d := dskE_0.1 h
  have hnn : ¬ ¬ okD d := fun q => q hok
  have k1 := hok.1
  have k2 := hok.2.1
  have k7 := hok.2.2.2.2.2.2
  cases hst : d.stop with
  | true =>
    refine fldA ?_
    refine ld (.bool true) (G3.cell (by rw [hst]; rfl)) ?_
    refine bld zeroJC (by kernel_rfl) ?_
    refine stA (vs := zeroJC) R3 rfl (Nat.le_of_ble_eq_true rfl) (by simp [Value.oneCell']) (fun we Be ke ze => ?_)
    refine ret ?_
    refine resL (.agg (zeroJC).toArray) (holds_agg (.blk Be) rfl) ?_
    exact ⟨zeroJC, by unfold openP; rw [if_neg hnn, if_pos hst]; rfl, by unfold openP; rw [if_neg hnn, if_pos hst]; exact zeroJ_r, x03.then ke fun i hi _ e => by omega⟩
  | false =>
  have hst' : ¬ d.stop = true := by rw [hst]; decide
  refine fldA ?_
  refine ld (.bool false) (G3.cell (by rw [hst]; rfl)) ?_
  refine fldA ?_
  refine ld (.slice B m c2) (G3.cell rfl) ?_
  refine len ?_
  refine cD (fun hpos => ?_) (fun hpos => ?_)
  · refine bld zeroJC (by kernel_rfl) ?_
    refine stA (vs := zeroJC) R3 rfl (Nat.le_of_ble_eq_true rfl) (by simp [Value.oneCell']) (fun we Be ke ze => ?_)
    refine ret ?_
    refine resL (.agg (zeroJC).toArray) (holds_agg (.blk Be) rfl) ?_
    exact ⟨zeroJC, by unfold openP; rw [if_neg hnn, if_neg hst', if_pos (by omega)]; rfl, by unfold openP; rw [if_neg hnn, if_neg hst', if_pos (by omega)]; exact zeroJ_r, x03.then ke fun i hi _ e => by omega⟩
  refine fldA ?_
  refine ld (.slice A n c) (G3.cell rfl) ?_
  refine len ?_
  refine fldA ?_
  refine st R3 (Nat.le_of_ble_eq_true rfl) rfl (fun w4 R4 k4 _ => ?_)
  have R4 : Blk w4 b2 108 [.slice none 0 0, iv (n : Int), iv 0] := R4
  have G4 := G3.kept k4 (show g ≠ b2 by omega)
  have x04 : Ext w w4 := x03.then k4 fun i hi _ e => by omega
  have s34 := k4.size
  refine fldA ?_
  refine ld (.slice A n c) (G4.cell rfl) ?_
  refine call_of c_jrecords ?_
  rintro _ w9 ⟨bb, rfl, x79, Bb, hbb⟩
  have s79 := x79.size
  have lbb := Bb.lt
  have lR4 := R4.lt
  clear h1 h2
  refine range (gf := 160) (lb := #[ptr bb]) rfl (fun fn tmps w10 R hRR hF' hwf x10 z10 hD10 hl10 => ?_)
  show CallZ _ _ #[.func (.yield (w9.heap.size + 1)) #[] #[], ptr bb] w10 _
  have x410 := x79.trans x10
  have x010 := x04.trans x410
  have s10 := x410.size
  have R10 := R4.ext x410
  have hs10 : SlR (tSl tU8) (fun b => b < w.heap.size ∨ b = bb ∨ b = w9.heap.size) w10 A n d.secs := (hs0.ext x010).more (by decide) fun b _ h => .inl h
  have s04 := x04.size
  refine (c_jrecords1 (D := fun b => b < w.heap.size ∨ b = bb ∨ b = w9.heap.size) (fun i y => LoopAt y (w9.heap.size + 1) R ∧ ∃ A' m' d', Blk y b2 108 [.slice A' m' d', iv (n : Int), iv 0] ∧ LBx (fun j => j ≠ b2 ∧ j ≠ w9.heap.size + 1 ∧ j ≠ w9.heap.size) w y A' m' d' (((recG d.secs 0 none 0).take i).map (·.2))) hs10 (Bb.ext x10) (.inr (.inl rfl)) k7 (by omega) ?_ ?_ ⟨hl10, none, 0, 0, R10, LBx.nil x010⟩).mono ?_
  · rintro i u u' ⟨j1, A', m', d', j2, j3⟩ k
    exact ⟨j1.kept k trivial, A', m', d', j2.ext k, j3.then k⟩
  · rintro i u0 y e b B' mb db hrec ⟨l0, A', m', d', R0, own0⟩ ku0 xuy hsb hmb hm6
    have su0 := ku0.size
    have suy := xuy.size
    have hm' := own0.len
    have hil : i < (recG d.secs 0 none 0).length := (List.getElem?_eq_some_iff.1 hrec).1
    have hrl := recG_len d.secs 0 none 0
    have hm4 : m' ≤ 4096 := by rw [hm', List.length_map, List.length_take]; omega
    have lown := fun j (hj : A' = some (ad j 0)) => own0.lt hj
    have hlp : A' ≠ some (ad (w9.heap.size + 1) 0) := fun e => by
      obtain ⟨cs, o, f⟩ := own0
      obtain ⟨rest, hb3, _⟩ := Own.blk (e ▸ o.own)
      have h1 : u0.heap[w9.heap.size + 1]? = _ := hb3
      rw [show u0.heap[w9.heap.size + 1]? = _ from l0] at h1
      cases h1
    have hmk : A' ≠ some (ad w9.heap.size 0) := fun e => by
      obtain ⟨cs, o, f⟩ := own0
      obtain ⟨rest, hb3, _⟩ := Own.blk (e ▸ o.own)
      have h1 : u0.heap[w9.heap.size]? = _ := hb3
      rw [show u0.heap[w9.heap.size]? = _ from (ku0.blk _ (by omega) (.inr (.inr rfl))).trans hD10] at h1
      cases h1
    have hb2 : A' ≠ some (ad b2 0) := own0.ty R0 (by decide)
    subst hRR
    refine yield_rule (args := [iv (e : Int), .slice B' mb db]) (l0.kept xuy trivial) rfl rfl hF' hwf ?_
    refine mid' (l0.kept xuy trivial) (fun u3 k3 zk3 l3 => ?_)
    have R3 := (R0.ext xuy).kept k3 (by omega)
    have x0y : Ext w y := own0.ex.trans xuy
    have s0y := x0y.size
    have x03' : Ext w u3 := x0y.then k3 fun j hj _ => by omega
    have own3 := (own0.then xuy).thenK k3 (fun j hj => hj.2.1) (fun j hj e => hlp (e ▸ hj)) x03'
    have s3 := k3.size
    refine fldA ?_
    refine ld (.slice A' m' d') (R3.cell rfl) ?_
    refine lit [.slice B' mb db] (fun q u4 hq => ?_)
    have hx3 : SlR tU8 (fun j => A' ≠ some (ad j 0) ∧ j ≠ b2 ∧ j ≠ w9.heap.size + 1 ∧ j ≠ w9.heap.size) u3 B' mb b := (hsb.kept k3 fun j _ hj e => by omega).more (by decide) fun j _ hj => ⟨fun e => by have := lown j e; omega, by omega, by omega, by omega⟩
    refine appX own3 hx3 hmb hq (by omega) (fun A5 d5 u5 own5 k5 hA5 => ?_)
    have s34' := hq.ext.size
    have R5 := (R3.ext hq.ext).kept k5 hb2
    have l5 := (l3.kept hq.ext trivial).kept k5 hlp
    have hA5' : ∀ j, A5 = some (ad j 0) → j ≠ b2 ∧ j ≠ w9.heap.size + 1 ∧ w.heap.size ≤ j ∧ j ≠ bb := fun j hj => by
      have hge := (own5.lt hj).1
      refine ⟨fun e => own5.ty R5 (by decide) (e ▸ hj), fun e => ?_, hge, fun e => ?_⟩
      · rcases hA5 with r | r | r
        · exact hlp (by rw [← r, hj, e])
        · rw [r] at hj; cases hj
        · rw [r] at hj; injection hj with hj; injection hj with hj; omega
      · rcases hA5 with r | r | r
        · have hBb := ((Bb.ext x10).kept ku0 (.inr (.inl rfl)))
          exact own0.ty hBb (by decide) (by rw [← r, hj, e])
        · rw [r] at hj; cases hj
        · rw [r] at hj; injection hj with hj; injection hj with hj; omega
    refine fldA ?_
    refine st R5 (Nat.le_of_ble_eq_true rfl) rfl (fun u6 R6 k6 _ => ?_)
    have R6 : Blk u6 b2 108 [.slice A5 (m' + 1) d5, iv (n : Int), iv 0] := R6
    have l6 := l5.kept k6 (by omega)
    have own6 := own5.thenK k6 (fun j hj => hj.1) (fun j hj => (hA5' j hj).1) (own5.ex.then k6 fun j hj _ => by omega)
    refine roundN' _ l6 (fun u7 k7 l7 => ?_)
    have own7 := own6.thenK k7 (fun j hj => hj.2.1) (fun j hj => (hA5' j hj).2.1) (own6.ex.then k7 fun j hj _ => by omega)
    refine ⟨rfl, ⟨l7, A5, m' + 1, d5, R6.kept k7 (by omega), ?_⟩, ?_⟩
    · rw [List.take_add_one, hrec, List.map_append]
      exact own7
    · have hAn : ∀ j, (j < w.heap.size ∨ j = bb ∨ j = w9.heap.size) → A' ≠ some (ad j 0) := fun j hj e => by
        have h1 := lown j e
        rcases hj with hj | hj | hj
        · omega
        · subst hj
          exact own0.ty ((Bb.ext x10).kept ku0 (.inr (.inl rfl))) (by decide) e
        · subst hj
          exact hmk e
      have a1 : Kept (fun b => b < w.heap.size ∨ b = bb ∨ b = w9.heap.size) y u3 := k3.weak fun j _ hj e => by omega
      have a2 : Kept (fun b => b < w.heap.size ∨ b = bb ∨ b = w9.heap.size) u3 u5 := (Ext.any hq.ext).trans (k5.weak fun j _ hj => hAn j hj)
      have a3 : Kept (fun b => b < w.heap.size ∨ b = bb ∨ b = w9.heap.size) u5 u7 := (k6.weak fun j _ hj e => by omega).trans (k7.weak fun j _ hj e => by omega)
      exact a1.trans (a2.trans a3)
  · rintro _ y ⟨⟨ly, A', m', d', Ry, own⟩, ky⟩
    subst hRR
    refine range_end _ ly (by simp) (fun y1 k1 => ?_)
    have hlen := own.len
    rw [List.length_map, List.length_take, Nat.min_self] at hlen
    rw [List.take_length] at own
    have Ry1 := Ry.kept k1 (by omega)
    have lown := fun j (hj : A' = some (ad j 0)) => own.lt hj
    have hlp : A' ≠ some (ad (w9.heap.size + 1) 0) := fun e => by
      obtain ⟨cs, o, f⟩ := own
      obtain ⟨rest, hb3, _⟩ := Own.blk (e ▸ o.own)
      have h1 : y.heap[w9.heap.size + 1]? = _ := hb3
      rw [show y.heap[w9.heap.size + 1]? = _ from ly] at h1
      cases h1
    have hb2 : A' ≠ some (ad b2 0) := own.ty Ry (by decide)
    have hmk0 : y.heap[w9.heap.size]? = some (.deferred (some [])) := (ky.blk _ (by omega) (.inr (.inr rfl))).trans hD10
    have hmk : A' ≠ some (ad w9.heap.size 0) := fun e => by
      obtain ⟨cs, o, f⟩ := own
      obtain ⟨rest, hb3, _⟩ := Own.blk (e ▸ o.own)
      have h1 : y.heap[w9.heap.size]? = _ := hb3
      rw [hmk0] at h1
      cases h1
    have sy := ky.size
    have xwy : Ext w y := own.ex
    have xwy1 : Ext w y1 := xwy.then k1 fun j hj _ => by omega
    have own1 := own.thenK k1 (fun j hj => hj.2.1) (fun j hj e => hlp (e ▸ hj)) xwy1
    have hmk1 : y1.heap[w9.heap.size]? = some (.deferred (some [])) := (k1.blk _ (by omega) (by omega)).trans hmk0
    refine fldA ?_
    refine ld (.slice A' m' d') (Ry1.cell rfl) ?_
    refine len ?_
    refine fldA ?_
    refine st Ry1 (Nat.le_of_ble_eq_true rfl) rfl (fun y2 Ry2 k2 _ => ?_)
    have Ry2 : Blk y2 b2 108 [.slice A' m' d', iv (n : Int), iv (m' : Int)] := Ry2
    refine ldA [.slice A' m' d', iv (n : Int), iv (m' : Int)] (.blk Ry2) rfl ?_
    refine stA (vs := [.slice A' m' d', iv (n : Int), iv (m' : Int)]) Ry2 rfl (Nat.le_of_ble_eq_true rfl) (by simp [Value.oneCell']) (fun y3 Ry3 k3 _ => ?_)
    have Ry3 : Blk y3 b2 108 [.slice A' m' d', iv (n : Int), iv (m' : Int)] := Ry3
    have k13 : Kept (fun j => j ≠ b2) y1 y3 := k2.trans k3
    have xwy3 : Ext w y3 := xwy1.then k13 fun j hj _ => by omega
    have own3 := own1.thenK k13 (fun j hj => hj.1) (fun j hj e => hb2 (e ▸ hj)) xwy3
    have hmk3 : y3.heap[w9.heap.size]? = some (.deferred (some [])) := (k13.blk _ (by have := k1.size; omega) (by omega)).trans hmk1
    refine retM hmk3 ?_
    have k4' := Kept.putObj y3 w9.heap.size (.deferred none)
    refine resL (.agg #[.slice A' m' d', iv (n : Int), iv (m' : Int)]) (holds_agg (.blk (Ry3.kept k4' (by omega))) rfl) ?_
    have xe := xwy3.then k4' fun j hj _ => by omega
    have own4 := own3.thenK k4' (fun j hj => hj.2.2) (fun j hj e => hmk (e ▸ hj)) xe
    have hrl := recG_len d.secs 0 none 0
    have hres : openP d = (⟨recsD d.secs, n, m'⟩, 0) := by
      unfold openP
      rw [if_neg hnn, if_neg hst', if_neg (by omega), ln, hlen]
      unfold recsD
      rw [List.length_map]
    refine ⟨[.slice A' m' d', iv (n : Int), iv (m' : Int)], by rw [hres]; rfl, ?_, xe⟩
    rw [hres]
    exact ⟨⟨A', m', d', rfl, own4.rd (by omega), own4.le, (show I64 (n : Int) by unfold I64; omega), (show I64 (m' : Int) by unfold I64; omega)⟩⟩
end
end Go.Proofs.YtehcphboliofaaaGreatDoor

/- Layer 5: sectors, used, Check, Append. -/
namespace Go.Proofs.YtehcphboliofaaaGreatDoor
open Go Go.RowKit

def secN (b : List Nat) : Nat := max 1 ((b.length + 111) / 112)
def usedN (l : List (List Nat)) : Nat := (l.map secN).sum
theorem usedN_snoc (l : List (List Nat)) (x : List Nat) : usedN (l ++ [x]) = usedN l + secN x := by unfold usedN; simp
theorem secN_le (b : List Nat) : secN b ≤ b.length + 1 := by unfold secN; omega
/-- Bounded journals. -/
def jE (j : Jrn) : Int := if j.many < 1 ∨ j.many > 4096 ∨ j.syn < 0 ∨ j.syn > j.recs.length ∨ (usedN j.recs : Int) > j.many then 1 else 0
def appendP (j : Jrn) (b : List Nat) : Jrn × Int := if jE j ≠ 0 then (zeroJ, jE j) else if (secN b : Int) > j.many - usedN j.recs then (zeroJ, 2) else (⟨j.recs ++ [b], j.many, j.syn⟩, 0)
/-- All records together are not too long. -/
def SmallJ (l : List (List Nat)) : Prop := l.length ≤ 100000 ∧ ∀ b ∈ l, b.length ≤ 1000000
theorem usedN_le {l : List (List Nat)} (h : ∀ b ∈ l, b.length ≤ 1000000) : usedN l ≤ 1000001 * l.length := by
  induction l with
  | nil => simp [usedN]
  | cons a l ih =>
    have h1 := ih fun b hb => h b (List.mem_cons_of_mem _ hb)
    have h2 := h a List.mem_cons_self
    have h3 := secN_le a
    unfold usedN at *
    rw [List.map_cons, List.sum_cons, List.length_cons]
    omega
section
variable {D : Nat → Prop} {w : World}
theorem c_jsectors {A : Option Addr} {n c : Nat} {b : List Nat} (hs : SlR tU8 D w A n b) : CallZ Tryz.prog 101 #[.slice A n c] w (fun v w' => v = iv (secN b : Int) ∧ w' = w) := by
  have hlen := hs.len
  have hle := hs.le
  refine fn_rule (args := [.slice A n c]) Tryz.func101 (by kernel_rfl) ?_
  refine len ?_
  refine arI (n := (n : Int) + 112) (by omega) ?_
  refine arI (n := (n : Int) + 112 - 1) (by omega) ?_
  refine quoI (by omega) (by omega) (by omega) ?_
  refine ret1 (iv (max 1 (((n : Int) + 112 - 1) / 112))) rfl ⟨?_, rfl⟩
  have e : max 1 (((n : Int) + 112 - 1) / 112) = ((secN b : Nat) : Int) := by unfold secN; rw [hlen]; omega
  rw [e]
theorem c_jused {A : Option Addr} {n c : Nat} {l : List (List Nat)} (hs : SlR (tSl tU8) D w A n l) (hl : SmallJ l) : CallZ Tryz.prog 102 #[.slice A n c] w (fun v w' => v = iv (usedN l : Int) ∧ w' = w) := by
  have hlen := hs.len
  refine fn_rule (args := [.slice A n c]) Tryz.func102 (by kernel_rfl) ?_
  refine len ?_
  refine loop_rule (fun k : Nat => [(2, iv (usedN (l.take k) : Int)), (7, iv (k : Int))]) (fun k u => k ≤ n ∧ w = u) (fun k _ => n - k) 0 ⟨rfl, rfl, trivial⟩ ⟨by omega, rfl⟩ rfl ?_
  rintro G k u ⟨hk, rfl⟩
  refine cD (fun hlt => ?_) (fun hge => ?_)
  · obtain ⟨bx, o, cs, x, rfl, hx, -, -, hc, A2, n2, c2, rfl, hs2, hc2⟩ := hs.at_ (k := k) (by omega)
    refine idx k rfl (by omega) ?_
    refine ld (.slice A2 n2 c2) (hc 0 _ rfl) ?_
    have h1 := usedN_le (l := l.take k) fun b hb => hl.2 b (List.mem_of_mem_take hb)
    have h2 := hl.2 x (List.mem_of_getElem? hx)
    have h3 := secN_le x
    have h4 := hl.1
    rw [List.length_take] at h1
    refine call_of (c_jsectors hs2) ?_
    rintro _ w2 ⟨rfl, hw2⟩
    rw [hw2]
    clear hw2 w2
    have htk : l.take (k + 1) = l.take k ++ [x] := by rw [List.take_add_one, hx]; rfl
    refine arI (n := (usedN (l.take k) : Int) + (secN x : Int)) (by omega) ?_
    refine arI (n := (k : Int) + 1) (by omega) ?_
    refine next (k + 1) ⟨?_, by rw [Int.natCast_add]; rfl, trivial⟩ ⟨by omega, rfl⟩ (by omega)
    rw [htk, usedN_snoc, Int.natCast_add]; rfl
  · rw [List.take_of_length_le (by omega)]
    exact ret1 (iv _) rfl ⟨rfl, rfl⟩
theorem c_jCheck {j : Jrn} {cs : List Value} (hj : JrnR D w cs j) (hl : SmallJ j.recs) : CallZ Tryz.prog 100 #[.agg cs.toArray] w (fun v w' => v = iv (jE j) ∧ Ext w w') := by
  obtain ⟨A, n, c, rfl, hs, hc, hI1, hI2⟩ := hj.ex
  have hlen := hs.len
  refine fn_rule (args := [.agg #[.slice A n c, iv j.many, iv j.syn]]) Tryz.func100 (by kernel_rfl) ?_
  refine box (fun g w1 h1 => ?_)
  have G1 : Blk w1 g 108 [.slice A n c, iv j.many, iv j.syn] := h1.blk
  have x1 := h1.ext
  have bad : (j.many < 1 ∨ j.many > 4096 ∨ j.syn < 0 ∨ j.syn > j.recs.length ∨ (usedN j.recs : Int) > j.many) → (iv 1 = iv (jE j) ∧ Ext w w1) := fun h => ⟨by unfold jE; rw [if_pos h], x1⟩
  refine drawP (.take 0 (.take 1 (.take 2 (.take 3 (.take 4 (.take 5 (.take 6 (.take 7 (.take 8 (.take 9 (.take 10 (.take 11 (.take 12 (.take 13 (.take 14 (.take 15 (.take 16 (.take 17 (.take 18 (.take 19 (.take 20 (.take 21 (.take 22 (.take 23 (.take 24 (.take 25 (.take 26 (.take 27 (.take 28 .done))))))))))))))))))))))))))))) [] (fun y => y = w1) mx (by kernel_rfl) rfl ?_
  refine fldA ?_
  refine ld (iv j.many) (G1.cell rfl) ?_
  refine cD (fun h => ?_) (fun a1 => ?_)
  · exact ret1 (iv 1) rfl (bad (by omega))
  refine fldA ?_
  refine ld (iv j.many) (G1.cell rfl) ?_
  refine cD (fun h => ?_) (fun a2 => ?_)
  · exact ret1 (iv 1) rfl (bad (by omega))
  refine fldA ?_
  refine ld (iv j.syn) (G1.cell rfl) ?_
  refine cD (fun h => ?_) (fun a3 => ?_)
  · exact ret1 (iv 1) rfl (bad (by omega))
  refine fldA ?_
  refine ld (iv j.syn) (G1.cell rfl) ?_
  refine fldA ?_
  refine ld (.slice A n c) (G1.cell rfl) ?_
  refine len ?_
  refine cD (fun h => ?_) (fun a4 => ?_)
  · exact ret1 (iv 1) rfl (bad (by omega))
  refine fldA ?_
  refine ld (.slice A n c) (G1.cell rfl) ?_
  refine callQ (fun y hy => by subst hy; exact c_jused (hs.ext x1) hl) ?_
  refine fldA ?_
  refine ld (iv j.many) (G1.cell rfl) ?_
  refine cD (fun h => ?_) (fun a5 => ?_)
  · exact ret1 (iv 1) rfl (bad (by omega))
  exact ret1 (iv 0) rfl ⟨by unfold jE; rw [if_neg (by omega)], x1⟩
end
end Go.Proofs.YtehcphboliofaaaGreatDoor

/- Layer 5: Append. -/
namespace Go.Proofs.YtehcphboliofaaaGreatDoor
open Go Go.RowKit

theorem JrnR.kept {D D' : Nat → Prop} {w w' : World} {cs : List Value} {j : Jrn} (h : JrnR D w cs j) (k : Kept D' w w') (hd : ∀ b, b < w.heap.size → D b → D' b) : JrnR D w' cs j :=
  let ⟨A, n, c, h1, h2, h3⟩ := h.ex; ⟨A, n, c, h1, h2.kept k hd, h3⟩
theorem JrnR.more {D D' : Nat → Prop} {w : World} {cs : List Value} {j : Jrn} (h : JrnR D w cs j) (hd : ∀ b, b < w.heap.size → D b → D' b) : JrnR D' w cs j :=
  let ⟨A, n, c, h1, h2, h3⟩ := h.ex; ⟨A, n, c, h1, h2.more (by decide) hd, h3⟩
/-- A journal that comes back; what it takes lies in D or is new. -/
def RetJE (D : Nat → Prop) (w w' : World) (v : Value) (p : Jrn × Int) : Prop := ∃ cs, v = .tuple #[.agg cs.toArray, iv p.2] ∧ JrnR (fun b => D b ∨ w.heap.size ≤ b) w' cs p.1 ∧ Ext w w'
section
variable {D D1 : Nat → Prop} {w : World}
theorem c_jAppendE {j : Jrn} {cs : List Value} {E : Option Addr} {k ce : Nat} {b : List Nat} (hj : JrnR D1 w cs j) (hl : SmallJ j.recs) (hb : SlR tU8 D w E k b) (hk : k ≤ 1000000) : CallZ Tryz.prog 62 #[.agg cs.toArray, .slice E k ce] w (fun v w' => RetJE D1 w w' v (appendP j b)) := by
  obtain ⟨A, n, c, rfl, hs, hc, hI1, hI2⟩ := hj.ex
  have hlen := hs.len
  have hblen := hb.len
  have hs0 := hs.more (D' := fun b => D1 b ∧ b < w.heap.size) (by decide) fun b hb h => ⟨h, hb⟩
  have hl1 := hl.1
  refine fn_rule (args := [.agg #[.slice A n c, iv j.many, iv j.syn], .slice E k ce]) Tryz.func62 (by kernel_rfl) ?_
  refine box (fun g w1 h1 => ?_)
  have G1 : Blk w1 g 108 [.slice A n c, iv j.many, iv j.syn] := h1.blk
  refine alloc (fun b4 w2 h2 => ?_)
  have R2 : Blk w2 b4 108 zeroJC := h2.blk
  have e1 := h1.at_
  have e2 := h2.at_
  have x02 := h1.ext.trans h2.ext
  have s1 := h1.ext.size
  have G2 := G1.ext h2.ext
  have lg := G1.lt
  refine ldA [.slice A n c, iv j.many, iv j.syn] (.blk G2) rfl ?_
  refine call_of (c_jCheck (hj.ext x02) hl) ?_
  rintro _ w3 ⟨rfl, x3⟩
  have x03 := x02.trans x3
  have R3 := R2.ext x3
  have G3 := G2.ext x3
  have s03 := x03.size
  refine cN (fun h => ?_) (fun h => ?_)
  · refine bld zeroJC (by kernel_rfl) ?_
    refine stA (vs := zeroJC) R3 rfl (Nat.le_of_ble_eq_true rfl) (by simp [Value.oneCell']) (fun we Be ke ze => ?_)
    refine ret ?_
    refine resL (.agg (zeroJC).toArray) (holds_agg (.blk Be) rfl) ?_
    exact ⟨zeroJC, by unfold appendP; rw [if_pos h]; rfl, by unfold appendP; rw [if_pos h]; exact zeroJ_r, x03.then ke fun i hi _ e => by omega⟩
  have hE : ¬ jE j ≠ 0 := fun q => q h
  have hjc : ¬ (j.many < 1 ∨ j.many > 4096 ∨ j.syn < 0 ∨ j.syn > j.recs.length ∨ (usedN j.recs : Int) > j.many) := fun q => by
    unfold jE at h
    rw [if_pos q] at h
    omega
  refine drawP (.take 0 (.take 1 (.take 2 (.take 3 (.take 4 (.take 5 (.take 6 (.take 7 (.take 8 .done))))))))) [] (fun y => y = w3) mx (by kernel_rfl) rfl ?_
  refine callQ (fun y hy => by subst hy; exact c_jsectors (hb.ext x03)) ?_
  refine fldA ?_
  refine ld (iv j.many) (G3.cell rfl) ?_
  refine fldA ?_
  refine ld (.slice A n c) (G3.cell rfl) ?_
  refine callQ (fun y hy => by subst hy; exact c_jused (hs.ext x03) hl) ?_
  refine arI (n := j.many - (usedN j.recs : Int)) (by omega) ?_
  refine cD (fun hgt => ?_) (fun hgt => ?_)
  · refine bld zeroJC (by kernel_rfl) ?_
    refine stA (vs := zeroJC) R3 rfl (Nat.le_of_ble_eq_true rfl) (by simp [Value.oneCell']) (fun we Be ke ze => ?_)
    refine ret ?_
    refine resL (.agg (zeroJC).toArray) (holds_agg (.blk Be) rfl) ?_
    exact ⟨zeroJC, by unfold appendP; rw [if_neg hE, if_pos hgt]; rfl, by unfold appendP; rw [if_neg hE, if_pos hgt]; exact zeroJ_r, x03.then ke fun i hi _ e => by omega⟩
  have lR3 := R3.lt
  have lG3 := G3.lt
  have hE4 : ∀ i, (D1 i ∧ i < w.heap.size) ∨ w3.heap.size ≤ i → i ≠ g ∧ i ≠ b4 := fun i h => by
    rcases h with ⟨-, h⟩ | h <;> omega
  have rd7 : SlR (tSl tU8) (fun i => (D1 i ∧ i < w.heap.size) ∨ w3.heap.size ≤ i) w3 A n j.recs := (hs0.ext x03).more (by decide) fun i _ hi => .inl hi
  refine fldA ?_
  refine ld (.slice A n c) (G3.cell rfl) ?_
  refine call_of (c_clipS rd7 hc) ?_
  rintro _ w4 ⟨A8, rfl, hA8, hw4⟩
  rw [hw4]
  clear hw4 w4
  have rd8 := hA8 _ _ rd7
  refine call_of (c_cloneB (hb.ext x03) hk) ?_
  rintro _ w5 ⟨A5, c5, rfl, o5⟩
  refine lit [.slice A5 k c5] (fun q w6 h6 => ?_)
  obtain ⟨cs8, src8, f8⟩ := rd8.srcs
  have x35 := o5.ext
  have x36 := x35.trans h6.ext
  refine appG (src8.ext x36) (h6.src (n := 1) rfl) (by omega) (by omega) (fun A9 c9 w9 o9 => ?_) (hA := fun e => by subst e; exact rd8.none0)
  have x39 := x36.trans o9.ext
  have s39 := x39.size
  have s36 := x36.size
  refine fldA ?_
  refine st (G3.ext x39) (Nat.le_of_ble_eq_true rfl) rfl (fun wa Ga ka _ => ?_)
  have Ga : Blk wa g 108 [.slice A9 (n + 1) c9, iv j.many, iv j.syn] := Ga
  have Ra := (R3.ext x39).kept ka (show b4 ≠ g by omega)
  refine ldA [.slice A9 (n + 1) c9, iv j.many, iv j.syn] (.blk Ga) rfl ?_
  refine stA (vs := [.slice A9 (n + 1) c9, iv j.many, iv j.syn]) Ra rfl (Nat.le_of_ble_eq_true rfl) (by simp [Value.oneCell']) (fun we Be ke _ => ?_)
  refine ret ?_
  refine resL (.agg #[.slice A9 (n + 1) c9, iv j.many, iv j.syn]) (holds_agg (.blk Be) rfl) ?_
  have kE : Kept (fun i => i ≠ g ∧ i ≠ b4) w9 we := (ka.weak fun i _ h => h.1).then ke fun i _ h => h.2
  have xe : Ext w we := (x03.trans x39).then kE fun i hi _ => by omega
  have hres : appendP j b = (⟨j.recs ++ [b], j.many, j.syn⟩, 0) := by unfold appendP; rw [if_neg hE, if_neg hgt]
  refine ⟨[.slice A9 (n + 1) c9, iv j.many, iv j.syn], by rw [hres]; rfl, ?_, xe⟩
  rw [hres]
  have hb5 := hb.u8b
  have f9 : FlatR (tSl tU8) (fun i => (D1 i ∧ i < w.heap.size) ∨ w3.heap.size ≤ i) w9 j.recs cs8 := f8.keep fun i hi _ => x39.blk i hi trivial
  have r5 : SlR tU8 (fun i => (D1 i ∧ i < w.heap.size) ∨ w3.heap.size ≤ i) w9 A5 k b := ((o5.u8 (D := fun i => (D1 i ∧ i < w.heap.size) ∨ w3.heap.size ≤ i) hb5 (by omega) fun i hi => .inr hi).ext h6.ext).ext o9.ext
  have fE : FlatR (tSl tU8) (fun i => (D1 i ∧ i < w.heap.size) ∨ w3.heap.size ≤ i) we (j.recs ++ [b]) (cs8 ++ [.slice A5 k c5]) := (f9.app (FlatR.one (a := tSl tU8) ⟨A5, k, c5, rfl, r5, o5.le⟩)).keep fun i hi h => kE.blk i hi (hE4 i h)
  have ownE := o9.own.kept kE (fun i hi => by have h := o9.new i (own_at o9.own hi); omega)
  exact ⟨⟨A9, n + 1, c9, rfl, ownE.rd (a := tSl tU8) (fE.more fun i _ h => h.elim (fun h => .inl h.1) fun h => .inr (by omega)) (by rw [List.length_append, hlen]; rfl) (by omega) fun i hi => .inr (by have h := o9.new i (own_at o9.own (by rw [hi]; rfl)); omega), o9.le, hI1, hI2⟩⟩
end
end Go.Proofs.YtehcphboliofaaaGreatDoor
