/- Parts of the proof: Gx Gy Gz H1 H3 H4 H5 H6 H7 D0 D7 D1 D2 D4 D5 D6. -/
import Derived.Test.YtmjcaclakggafaaM6
import Derived.Test.YtmjcaclakggafaaM5
import Derived.Test.YtmjcaclakggafaaM4

/- Layer 40: own, valid, Own, Award, Pair. -/
namespace Go.Proofs.Ytmjcaclakggafaa
open Go Go.RowKit Go.Sort

instance eqMark : EqTy Try.prog 50 := ⟨by kernel_rfl⟩
section
variable {D : Nat → Prop} {w : World}
theorem c_comp {x y : Int × Int} : CallZ Try.prog 49 #[.agg (encC x).toArray, .agg (encC y).toArray] w (fun v w' => v = iv (cmpC x y) ∧ Ext w w') := by
  intro w0 hw
  subst hw
  rw [callsIn_wide]
  refine (k_cmp x y w0).mono ?_
  rintro e w' ⟨rfl, q, os, rfl⟩
  refine ⟨_, rfl, rfl, rfl, rfl, rfl, ?_, fun i hi _ => ?_⟩
  · show w0.heap.size ≤ (w0.heap ++ os).size
    rw [Array.size_append]; omega
  · show (w0.heap ++ os)[i]? = w0.heap[i]?
    exact Array.getElem?_append_left hi
theorem cmpC_le {x y : Int × Int} : cmpC x y ≤ 0 ↔ y.1 < x.1 ∨ (x.1 = y.1 ∧ x.2 ≤ y.2) := by unfold cmpC cmpK; repeat' split <;> omega
theorem cmpC_ge {x y : Int × Int} : 0 ≤ cmpC x y ↔ x.1 < y.1 ∨ (x.1 = y.1 ∧ y.2 ≤ x.2) := by unfold cmpC cmpK; repeat' split <;> omega
theorem ne_none {m : Mk} : ((m.late == false) && ((m.level == 0) && ((m.claim == 0) && ((m.index == 0) && true)))) = decide (m = Mk.none) := by
  obtain ⟨l, L, c, i⟩ := m
  rw [Bool.eq_iff_iff]
  simp [Mk.none]
theorem c_gown {m : Mk} {x : Int × Int} (hx : 0 ≤ x.1 ∧ x.1 ≤ 1073741824) (hm : 0 ≤ m.level ∧ m.level ≤ 1073741824) : CallZ Try.prog 37 #[.agg (encM m).toArray, .agg (encC x).toArray] w (fun v w' => v = iv (ownV m x.1 x.2) ∧ Ext w w') := by
  obtain ⟨l, L, c0, i0⟩ := m
  have hm : 0 ≤ L ∧ L ≤ 1073741824 := hm
  refine fn_rule (args := [.agg #[.bool l, iv L, iv c0, iv i0], .agg #[iv x.1, iv x.2]]) Try.func37 (by kernel_rfl) ?_
  refine box (fun b2 w1 h1 => ?_)
  refine box (fun b3 w2 h2 => ?_)
  have x2 := h1.ext.trans h2.ext
  have B2 : Blk w2 b2 50 [.bool l, iv L, iv c0, iv i0] := h1.blk.ext h2.ext
  have B3 : Blk w2 b3 101 (encC x) := h2.blk
  refine ldA (encC x) (.blk B3) rfl ?_
  refine fldA ?_
  refine ld (iv c0) (B2.cell rfl) ?_
  refine fldA ?_
  refine ld (iv i0) (B2.cell rfl) ?_
  refine bld (encC (c0, i0)) (by kernel_rfl) ?_
  refine call_of (c_comp (x := x) (y := (c0, i0))) ?_
  rintro _ w3 ⟨rfl, x3⟩
  have B2 := B2.ext x3
  have B3 := B3.ext x3
  have x3 := x2.trans x3
  have hle := cmpC_le (x := x) (y := (c0, i0))
  have hge := cmpC_ge (x := x) (y := (c0, i0))
  obtain ⟨o, ho⟩ : ∃ o, o = cmpC x (c0, i0) := ⟨_, rfl⟩
  rw [← ho] at hle hge ⊢
  have hle : o ≤ 0 ↔ c0 < x.1 ∨ (x.1 = c0 ∧ x.2 ≤ i0) := hle
  have hge : 0 ≤ o ↔ x.1 < c0 ∨ (x.1 = c0 ∧ i0 ≤ x.2) := hge
  clear ho
  refine ldA [.bool l, iv L, iv c0, iv i0] (.blk B2) rfl ?_
  refine bld [.bool false, iv 0, iv 0, iv 0] (by kernel_rfl) ?_
  refine eqS ((l == false) && ((L == 0) && ((c0 == 0) && ((i0 == 0) && true)))) (by kernel_rfl) (fun q => ?_) (fun q => ?_)
  · rw [show ((l == false) && ((L == 0) && ((c0 == 0) && ((i0 == 0) && true)))) = decide ((⟨l, L, c0, i0⟩ : Mk) = Mk.none) from @ne_none ⟨l, L, c0, i0⟩, decide_eq_true_eq] at q
    exact ret1 (iv 0) rfl ⟨by unfold ownV; rw [if_pos q], x3⟩
  rw [show ((l == false) && ((L == 0) && ((c0 == 0) && ((i0 == 0) && true)))) = decide ((⟨l, L, c0, i0⟩ : Mk) = Mk.none) from @ne_none ⟨l, L, c0, i0⟩, decide_eq_false_iff_not] at q
  cases l with
  | false =>
    refine fldA ?_
    refine ld (.bool false) (B2.cell rfl) ?_
    refine cD (fun g => ?_) (fun g => ?_)
    · refine fldA ?_
      refine ld (iv x.1) (B3.cell rfl) ?_
      refine quoI (by omega) (by omega) (by omega) ?_
      refine fldA ?_
      refine ld (iv L) (B2.cell rfl) ?_
      refine ret1 (iv (min (x.1 / 2) L)) rfl ⟨?_, x3⟩
      unfold ownV
      rw [if_neg q, if_neg (by simp), if_pos (show upTo ⟨false, L, c0, i0⟩ x.1 x.2 from hle.1 g)]
    · refine fldA ?_
      refine ld (.bool false) (B2.cell rfl) ?_
      refine fldA ?_
      refine ld (iv x.1) (B3.cell rfl) ?_
      refine quoI (by omega) (by omega) (by omega) ?_
      refine fldA ?_
      refine ld (iv L) (B2.cell rfl) ?_
      refine arI (by omega) ?_
      refine ret1 (iv (min (x.1 / 2) (L - 1))) rfl ⟨?_, x3⟩
      unfold ownV
      rw [if_neg q, if_neg (by simp), if_neg (show ¬ upTo ⟨false, L, c0, i0⟩ x.1 x.2 from fun h => g (hle.2 h))]
  | true =>
    refine fldA ?_
    refine ld (.bool true) (B2.cell rfl) ?_
    refine fldA ?_
    refine ld (.bool true) (B2.cell rfl) ?_
    refine cD (fun g => ?_) (fun g => ?_)
    · refine fldA ?_
      refine ld (iv x.1) (B3.cell rfl) ?_
      refine fldA ?_
      refine ld (iv x.1) (B3.cell rfl) ?_
      refine fldA ?_
      refine ld (iv x.1) (B3.cell rfl) ?_
      refine quoI (by omega) (by omega) (by omega) ?_
      refine arI (by omega) ?_
      refine fldA ?_
      refine ld (iv L) (B2.cell rfl) ?_
      refine arI (by omega) ?_
      refine arI (by omega) ?_
      refine ret1 (iv (x.1 - min (x.1 - x.1 / 2) (L - 1))) rfl ⟨?_, x3⟩
      unfold ownV
      rw [if_neg q, if_pos rfl, if_pos (show upTo ⟨true, L, c0, i0⟩ x.1 x.2 from hge.1 g)]
    · refine fldA ?_
      refine ld (iv x.1) (B3.cell rfl) ?_
      refine fldA ?_
      refine ld (iv x.1) (B3.cell rfl) ?_
      refine fldA ?_
      refine ld (iv x.1) (B3.cell rfl) ?_
      refine quoI (by omega) (by omega) (by omega) ?_
      refine arI (by omega) ?_
      refine fldA ?_
      refine ld (iv L) (B2.cell rfl) ?_
      refine arI (by omega) ?_
      refine ret1 (iv (x.1 - min (x.1 - x.1 / 2) L)) rfl ⟨?_, x3⟩
      unfold ownV
      rw [if_neg q, if_pos rfl, if_neg (show ¬ upTo ⟨true, L, c0, i0⟩ x.1 x.2 from fun h => g (hge.2 h))]
/-- Which marks are valid. -/
def VM (m : Mk) : Prop := m = Mk.none ∨ (m.Lit ∧ m.claim ≤ 1073741824 ∧ 0 ≤ m.index ∧ m.index < 664)
theorem VM.b {m : Mk} (h : VM m) : 0 ≤ m.level ∧ m.level ≤ 1073741824 := by
  rcases h with rfl | ⟨h, h1, -⟩
  · exact ⟨by decide, by decide⟩
  · have := h.lo
    have := h.hi
    have := h.c0
    split at * <;> omega
noncomputable instance (m : Mk) : Decidable (VM m) := Classical.propDecidable _
noncomputable def validMk (m : Mk) : Bool := decide (VM m)
theorem c_gvalid {m : Mk} : CallZ Try.prog 36 #[.agg (encM m).toArray] w (fun v w' => v = .bool (validMk m) ∧ Ext w w') := by
  have key : ∀ {b : Bool}, (b = true ↔ VM m) → b = validMk m := fun {b} h => by
    unfold validMk
    cases b with
    | true => exact (decide_eq_true (h.1 rfl)).symm
    | false => exact (decide_eq_false fun k => by cases h.2 k).symm
  obtain ⟨l, L, c0, i0⟩ := m
  refine fn_rule (args := [.agg #[.bool l, iv L, iv c0, iv i0]]) Try.func36 (by kernel_rfl) ?_
  refine box (fun b1 w1 h1 => ?_)
  have B : Blk w1 b1 50 [.bool l, iv L, iv c0, iv i0] := h1.blk
  refine ldA [.bool l, iv L, iv c0, iv i0] (.blk B) rfl ?_
  refine bld [.bool false, iv 0, iv 0, iv 0] (by kernel_rfl) ?_
  refine eqS ((l == false) && ((L == 0) && ((c0 == 0) && ((i0 == 0) && true)))) (by kernel_rfl) (fun q => ?_) (fun q => ?_)
  · rw [show ((l == false) && ((L == 0) && ((c0 == 0) && ((i0 == 0) && true)))) = decide ((⟨l, L, c0, i0⟩ : Mk) = Mk.none) from @ne_none ⟨l, L, c0, i0⟩, decide_eq_true_eq] at q
    exact ret1 (.bool true) rfl ⟨by rw [← key (b := true) ⟨fun _ => .inl q, fun _ => rfl⟩], h1.ext⟩
  rw [show ((l == false) && ((L == 0) && ((c0 == 0) && ((i0 == 0) && true)))) = decide ((⟨l, L, c0, i0⟩ : Mk) = Mk.none) from @ne_none ⟨l, L, c0, i0⟩, decide_eq_false_iff_not] at q
  have fal : ¬ ((⟨l, L, c0, i0⟩ : Mk).Lit ∧ c0 ≤ 1073741824 ∧ 0 ≤ i0 ∧ i0 < 664) → false = validMk ⟨l, L, c0, i0⟩ := fun h => key ⟨fun h => (by cases h), fun k => (k.elim q h).elim⟩
  have tru : ((⟨l, L, c0, i0⟩ : Mk).Lit ∧ c0 ≤ 1073741824 ∧ 0 ≤ i0 ∧ i0 < 664) → true = validMk ⟨l, L, c0, i0⟩ := fun h => key ⟨fun _ => .inr h, fun _ => rfl⟩
  have lhi : (⟨l, L, c0, i0⟩ : Mk).Lit → 1 ≤ L ∧ 0 ≤ c0 ∧ L ≤ c0 := fun h => by
    have h1 : 1 ≤ L := h.lo
    have h2 : L ≤ if l = true then c0 - c0 / 2 else c0 / 2 := h.hi
    have h3 : 0 ≤ c0 := h.c0
    split at h2 <;> omega
  refine fldA ?_
  refine ld (iv c0) (B.cell rfl) ?_
  refine cD (fun g1 => ?_) (fun g1 => ?_)
  · exact ret1 (.bool false) rfl ⟨by rw [← fal fun h => by have := lhi h.1; omega], h1.ext⟩
  refine fldA ?_
  refine ld (iv c0) (B.cell rfl) ?_
  refine cD (fun g2 => ?_) (fun g2 => ?_)
  · exact ret1 (.bool false) rfl ⟨by rw [← fal fun h => by omega], h1.ext⟩
  refine fldA ?_
  refine ld (iv i0) (B.cell rfl) ?_
  refine cD (fun g3 => ?_) (fun g3 => ?_)
  · exact ret1 (.bool false) rfl ⟨by rw [← fal fun h => by omega], h1.ext⟩
  refine fldA ?_
  refine ld (iv i0) (B.cell rfl) ?_
  refine cD (fun g4 => ?_) (fun g4 => ?_)
  · exact ret1 (.bool false) rfl ⟨by rw [← fal fun h => by omega], h1.ext⟩
  refine fldA ?_
  refine ld (iv L) (B.cell rfl) ?_
  refine cD (fun g5 => ?_) (fun g5 => ?_)
  · exact ret1 (.bool false) rfl ⟨by rw [← fal fun h => by have := lhi h.1; omega], h1.ext⟩
  refine fldA ?_
  refine ld (iv L) (B.cell rfl) ?_
  refine fldA ?_
  refine ld (iv c0) (B.cell rfl) ?_
  refine cD (fun g6 => ?_) (fun g6 => ?_)
  · exact ret1 (.bool false) rfl ⟨by rw [← fal fun h => by have := lhi h.1; omega], h1.ext⟩
  cases l with
  | false =>
    refine fldA ?_
    refine ld (.bool false) (B.cell rfl) ?_
    refine fldA ?_
    refine ld (iv L) (B.cell rfl) ?_
    refine fldA ?_
    refine ld (iv c0) (B.cell rfl) ?_
    refine quoI (by omega) (by omega) (by omega) ?_
    refine cD (fun g => ?_) (fun g => ?_)
    · exact ret1 (.bool true) rfl ⟨by rw [← tru ⟨⟨by show 1 ≤ L; omega, g, by show 0 ≤ c0; omega⟩, by omega, by omega, by omega⟩], h1.ext⟩
    · exact ret1 (.bool false) rfl ⟨by rw [← fal fun h => g h.1.hi], h1.ext⟩
  | true =>
    refine fldA ?_
    refine ld (.bool true) (B.cell rfl) ?_
    refine fldA ?_
    refine ld (iv L) (B.cell rfl) ?_
    refine fldA ?_
    refine ld (iv c0) (B.cell rfl) ?_
    refine fldA ?_
    refine ld (iv c0) (B.cell rfl) ?_
    refine quoI (by omega) (by omega) (by omega) ?_
    refine arI (by omega) ?_
    refine cD (fun g => ?_) (fun g => ?_)
    · exact ret1 (.bool true) rfl ⟨by rw [← tru ⟨⟨by show 1 ≤ L; omega, g, by show 0 ≤ c0; omega⟩, by omega, by omega, by omega⟩], h1.ext⟩
    · exact ret1 (.bool false) rfl ⟨by rw [← fal fun h => g h.1.hi], h1.ext⟩
noncomputable def ownE (m : Mk) (i c : Int) : Int := if VM m then (if 0 ≤ i ∧ i < 664 ∧ 0 ≤ c ∧ c ≤ 1073741824 then 0 else 1) else 400
theorem c_gOwn {m : Mk} {i c : Int} : CallZ Try.prog 16 #[.agg (encM m).toArray, iv i, iv c] w (fun v w' => v = .tuple #[iv (if ownE m i c = 0 then ownV m c i else 0), iv (ownE m i c)] ∧ Ext w w') := by
  have bad : VM m → ¬ (0 ≤ i ∧ i < 664 ∧ 0 ≤ c ∧ c ≤ 1073741824) → ownE m i c = 1 := fun h k => by unfold ownE; rw [if_pos h, if_neg k]
  refine fn_rule (args := [.agg (encM m).toArray, iv i, iv c]) Try.func16 (by kernel_rfl) ?_
  refine box (fun b w1 h1 => ?_)
  have B : Blk w1 b 50 (encM m) := h1.blk
  refine ldA (encM m) (.blk B) rfl ?_
  refine callE (c_gvalid (m := m)) (fun w2 q x2 => ?_) (fun w2 q x2 => ?_)
  · have hv : VM m := of_decide_eq_true q
    have x12 := h1.ext.trans x2
    refine cD (fun g1 => ?_) (fun g1 => ?_)
    · exact ret2 (iv 0) (iv 1) rfl rfl ⟨by rw [bad hv (by omega)]; rfl, x12⟩
    refine cD (fun g2 => ?_) (fun g2 => ?_)
    · exact ret2 (iv 0) (iv 1) rfl rfl ⟨by rw [bad hv (by omega)]; rfl, x12⟩
    refine cD (fun g3 => ?_) (fun g3 => ?_)
    · exact ret2 (iv 0) (iv 1) rfl rfl ⟨by rw [bad hv (by omega)]; rfl, x12⟩
    refine cD (fun g4 => ?_) (fun g4 => ?_)
    · exact ret2 (iv 0) (iv 1) rfl rfl ⟨by rw [bad hv (by omega)]; rfl, x12⟩
    refine ldA (encM m) (.blk (B.ext x2)) rfl ?_
    refine bld (encC (c, i)) (by kernel_rfl) ?_
    refine call_of (c_gown (m := m) (x := (c, i)) ⟨by show 0 ≤ c; omega, by show c ≤ _; omega⟩ hv.b) ?_
    rintro _ w3 ⟨rfl, x3⟩
    have e : ownE m i c = 0 := by unfold ownE; rw [if_pos hv, if_pos ⟨by omega, by omega, by omega, by omega⟩]
    exact ret2 (iv (ownV m c i)) (iv 0) rfl rfl ⟨by rw [e]; rfl, x12.trans x3⟩
  · have hv : ¬ VM m := of_decide_eq_false q
    have e : ownE m i c = 400 := by unfold ownE; rw [if_neg hv]
    exact ret2 (iv 0) (iv 400) rfl rfl ⟨by rw [e]; rfl, h1.ext.trans x2⟩
/-- The awards by a mark. -/
def awL (m : Mk) (l : List Int) : List Int := (List.range l.length).map fun i => ownV m (clA l i) i
theorem awL_snoc {m : Mk} {l : List Int} {k : Nat} {c : Int} (h : l[k]? = some c) : awL m (l.take (k + 1)) = awL m (l.take k) ++ [ownV m c k] := by
  have hk := (List.getElem?_eq_some_iff.1 h).1
  unfold awL
  rw [List.length_take, List.length_take, Nat.min_eq_left (by omega), Nat.min_eq_left (by omega), List.range_succ, List.map_append]
  congr 1
  · refine List.map_congr_left fun i hi => ?_
    have := List.mem_range.1 hi
    unfold clA
    rw [List.getD_eq_getElem?_getD, List.getD_eq_getElem?_getD, List.getElem?_take, List.getElem?_take, if_pos (by omega), if_pos (by omega)]
  · unfold clA
    rw [List.map_cons, List.map_nil, List.getD_eq_getElem?_getD, List.getElem?_take, if_pos (by omega), h]; rfl
theorem MarkOf.vm {E : Int} {l : List Int} {m : Mk} (h : MarkOf E l m) (he : tErr E l = 0) : VM m := by
  unfold MarkOf at h
  by_cases hE : E = 0
  · rw [if_neg fun k => k.2 hE] at h; exact .inl h
  · rw [if_pos ⟨he, hE⟩] at h
    obtain ⟨hlen, hcl, -⟩ := tErr_no he
    have hix := h.1.ix
    refine .inr ⟨h.1.lit, ?_, by omega, by omega⟩
    rw [h.1.cl]
    refine (hcl _ ?_).2
    unfold clA
    rw [List.getD_eq_getElem?_getD, List.getElem?_eq_getElem (by omega : m.index.toNat < l.length)]
    exact List.getElem_mem _
set_option maxRecDepth 4000 in
theorem c_gAward {E : Int} {l : List Int} {A : Option Addr} {n c : Nat} (hl : SlR tInt D w A n l) (hE : I64 E) : CallZ Try.prog 19 #[iv E, .slice A n c] w (fun v w' => (tErr E l ≠ 0 ∧ v = .tuple #[.slice none 0 0, iv (tErr E l)] ∧ Ext w w') ∨
    (tErr E l = 0 ∧ ∃ m A' n' c', MarkOf E l m ∧ v = .tuple #[.slice A' n' c', iv 0] ∧ OwnF w w' A' n' c' 3 1 ((awL m l).map fun k => .int .i64 k) ∧ n' = l.length)) := by
  have l1 := hl.len
  refine fn_rule (args := [iv E, .slice A n c]) Try.func19 (by kernel_rfl) ?_
  refine call_of (c_gThr hl hE) ?_
  rintro _ w1 ⟨x1, m, rfl, hm⟩
  obtain ⟨e, hee⟩ : ∃ e, e = tErr E l := ⟨_, rfl⟩
  rw [← hee]
  refine alloc (fun b w2 h2 => ?_)
  refine stA (vs := encM m) h2.blk rfl (Nat.le_of_ble_eq_true rfl) (by simp [Value.oneCell']) (fun w3 B k3 z3 => ?_)
  have B : Blk w3 b 50 (encM m) := B
  have e2 := h2.at_
  have x3 : Ext w w3 := (x1.trans h2.ext).then k3 fun b hb _ e => by have := x1.size; omega
  refine cN (fun g => ?_) (fun g => ?_)
  · exact ret2 (.slice none 0 0) (iv e) rfl rfl (.inl ⟨g, rfl, x3⟩)
  have he : tErr E l = 0 := by rw [← hee]; exact g
  obtain ⟨hlen, hcl, -⟩ := tErr_no he
  have hvm := (hm.vm he).b
  refine len ?_
  refine loop_rule (fun s : Nat × Option Addr × Nat => [(20, iv (s.1 : Int)), (4, .slice s.2.1 s.1 s.2.2)]) (fun s u => s.1 ≤ n ∧ OwnF w3 u s.2.1 s.1 s.2.2 3 1 ((awL m (l.take s.1)).map fun k => .int .i64 k)) (fun s _ => n - s.1) (0, none, 0) ⟨rfl, rfl, trivial⟩ ⟨by omega, .nil (.refl _ _)⟩ rfl ?_
  rintro G ⟨k, C, cb⟩ u ⟨hk, own⟩
  refine cD (fun hlt => ?_) (fun hge => ?_)
  · have hlt : k < n := by omega
    obtain ⟨b, o, cs, a, rfl, ha, -, -, hc, rfl, hi⟩ := (hl.ext (x3.trans own.ext)).at_ hlt
    have hac := hcl a (List.mem_of_getElem? ha)
    refine idx k rfl hlt ?_
    refine ld (iv a) (hc 0 _ rfl) ?_
    refine ldA (encM m) (.blk (B.ext own.ext)) rfl ?_
    refine bld (encC (a, (k : Int))) (by kernel_rfl) ?_
    refine call_of (c_gown (m := m) (x := (a, (k : Int))) hac hvm) ?_
    rintro _ u1 ⟨rfl, y1⟩
    refine lit [iv (ownV m a k)] (fun g u2 hq => ?_)
    refine appF (own.then (y1.trans hq.ext)) (hq.src (sz := 1) rfl) (by omega) (fun A' c' u3 o3 _ _ => ?_)
    refine arI (by omega) ?_
    refine next (k + 1, A', c') ⟨by rw [Int.natCast_add]; rfl, rfl, trivial⟩ ⟨by omega, ?_⟩ (by simp only; omega)
    rw [awL_snoc ha, List.map_append]; exact o3
  · have hkn : k = n := by omega
    subst hkn
    rw [List.take_of_length_le (by omega)] at own
    exact ret2 (.slice C k cb) (iv 0) rfl rfl (.inr ⟨g, m, C, k, cb, hm, rfl, own.base x3, by omega⟩)
end
end Go.Proofs.Ytmjcaclakggafaa

/- Layer 40: Pair; what the laws use of their own; the awards of a mark. -/
namespace Go.Proofs.Ytmjcaclakggafaa
open Go Go.RowKit

theorem clA_b {l : List Int} (h : ∀ c ∈ l, 0 ≤ c ∧ c ≤ 1073741824) {i : Nat} (hi : i < l.length) : 0 ≤ clA l i ∧ clA l i ≤ 1073741824 := by
  refine h _ ?_
  unfold clA
  rw [List.getD_eq_getElem?_getD, List.getElem?_eq_getElem hi]
  exact List.getElem_mem _
theorem clA_at {l : List Int} {i : Nat} {c : Int} (h : l[i]? = some c) : clA l i = c := by unfold clA; rw [List.getD_eq_getElem?_getD, h]; rfl
theorem MarkOf.awd {E : Int} {l : List Int} {m : Mk} (h : MarkOf E l m) (he : tErr E l = 0) : Awd l E (fun i => ownV m (clA l i) i) := by
  obtain ⟨hlen, hcl, -⟩ := tErr_no he
  unfold MarkOf at h
  by_cases hE : E = 0
  · rw [if_neg fun k => k.2 hE] at h
    subst h
    have z : ∀ c i, ownV Mk.none c i = 0 := fun c i => by unfold ownV; rw [if_pos rfl]
    refine ⟨fun i hi => ?_, ?_, fun i k hi hk h1 => ?_⟩
    · have := clA_b hcl hi
      rw [z]; omega
    · rw [sumN_congr (g := fun _ => 0) fun i _ => z _ _, sumN_zero, hE]
    · rw [z] at h1; omega
  · rw [if_pos ⟨he, hE⟩] at h
    exact h.1.awd (fun i hi => (clA_b hcl hi).1) h.2
theorem MarkOf.uniq {E : Int} {l : List Int} {m m' : Mk} (h : MarkOf E l m) (k : MarkOf E l m') : m = m' := by
  unfold MarkOf at h k
  by_cases hh : tErr E l = 0 ∧ E ≠ 0
  · rw [if_pos hh] at h k
    obtain ⟨hlen, hcl, -⟩ := tErr_no hh.1
    exact h.1.uniq k.1 (fun i hi => (clA_b hcl hi).1) (by rw [h.2, k.2])
  · rw [if_neg hh] at h k; rw [h, k]
theorem awL_len {m : Mk} {l : List Int} : (awL m l).length = l.length := by unfold awL; rw [List.length_map, List.length_range]
theorem awL_at {m : Mk} {l : List Int} {i : Nat} (h : i < l.length) : (awL m l)[i]? = some (ownV m (clA l i) i) := by
  unfold awL
  rw [List.getElem?_map, List.getElem?_range h]; rfl
theorem own_small {m : Mk} {l : List Int} {E : Int} (h : Awd l E (fun i => ownV m (clA l i) i)) (hcl : ∀ c ∈ l, 0 ≤ c ∧ c ≤ 1073741824) {i : Nat} (hi : i < l.length) : 0 ≤ ownV m (clA l i) i ∧ ownV m (clA l i) i ≤ 1073741824 := by
  have h1 := h.b i hi
  have h1 : 0 ≤ ownV m (clA l i) i ∧ ownV m (clA l i) i ≤ clA l i := h1
  have h2 := clA_b hcl hi
  omega
theorem awL_small {m : Mk} {l : List Int} {E : Int} (h : Awd l E (fun i => ownV m (clA l i) i)) (hcl : ∀ c ∈ l, 0 ≤ c ∧ c ≤ 1073741824) : ∀ x ∈ awL m l, I64 x := fun x hx => by
  unfold awL at hx
  obtain ⟨i, hi, rfl⟩ := List.mem_map.1 hx
  have := own_small h hcl (List.mem_range.1 hi)
  unfold I64; omega
/-- What Pair says. -/
def pairV (E c d : Int) : Int × Int × Int :=
  if 0 ≤ c ∧ c ≤ 1073741824 ∧ 0 ≤ d ∧ d ≤ 1073741824 ∧ 0 ≤ E ∧ E ≤ c + d then
    (max 0 (E - d) + (E - max 0 (E - d) - max 0 (E - c)) / 2, max 0 (E - d) + (E - max 0 (E - d) - max 0 (E - c)) - (E - max 0 (E - d) - max 0 (E - c)) / 2, 0)
  else (0, 0, 400)
section
variable {D : Nat → Prop} {w : World}
abbrev OkL (l : List Int) : Prop := ∀ c ∈ l, 0 ≤ c ∧ c ≤ 1073741824
theorem c_r40Same {xs ys : List Int} {A B : Option Addr} {n c n' c' : Nat} (hl : SlR tInt D w A n xs) (hm : SlR tInt D w B n' ys) : CallZ Try.prog 13 #[.slice A n c, .slice B n' c'] w (fun v w' => v = .bool (decide (xs = ys)) ∧ w' = w) := by
  have l1 := hl.len
  have l2 := hm.len
  have e1 := hl.le
  refine fn_rule (args := [.slice A n c, .slice B n' c']) Try.func13 (by kernel_rfl) ?_
  refine len ?_
  refine len ?_
  refine cN (fun q => ?_) (fun q => ?_)
  · exact ret1 (.bool false) rfl ⟨by rw [decide_eq_false fun h => q (by subst h; omega)], rfl⟩
  have q : n = n' := by omega
  refine loop_rule (fun k : Nat => [(5, iv (k : Int))]) (fun k u => k ≤ n ∧ w = u ∧ ∀ i, i < k → xs[i]? = ys[i]?) (fun k _ => n - k) 0 ⟨rfl, trivial⟩ ⟨by omega, rfl, fun i hi => by omega⟩ rfl ?_
  rintro G k u ⟨hk, rfl, hs⟩
  refine len ?_
  refine cD (fun hlt => ?_) (fun hge => ?_)
  · have hlt : k < n := by omega
    obtain ⟨b, o, cs, a, rfl, ha, -, -, hc, rfl, -⟩ := hl.at_ hlt
    obtain ⟨b', o', cs', a', rfl, ha', -, -, hc', rfl, -⟩ := hm.at_ (k := k) (by omega)
    refine drawX [0, 1, 2, 3, 4, 5, 6, 7, 8] [] mx (by kernel_rfl) ?_
    refine idx k rfl hlt ?_
    refine ldX (iv a) (hc 0 _ rfl) (.refl _ _) ?_
    refine idx k rfl (by omega) ?_
    refine ldX (iv a') (hc' 0 _ rfl) (.refl _ _) ?_
    refine cN (fun g => ?_) (fun g => ?_)
    · refine ret1 (.bool false) rfl ⟨?_, rfl⟩
      rw [decide_eq_false]
      rintro rfl
      rw [ha] at ha'; injection ha' with ha'; exact g ha'
    · refine arI (by omega) ?_
      refine next (k + 1) ⟨by rw [Int.natCast_add]; rfl, trivial⟩ ⟨by omega, rfl, fun i hi => ?_⟩ (by omega)
      by_cases e : i = k
      · subst e; rw [ha, ha', g]
      · exact hs i (by omega)
  · refine ret1 (.bool true) rfl ⟨?_, rfl⟩
    rw [decide_eq_true]
    apply List.ext_getElem?
    intro i
    by_cases hi : i < n
    · exact hs i (by omega)
    · rw [List.getElem?_eq_none (by omega), List.getElem?_eq_none (by omega)]
end
end Go.Proofs.Ytmjcaclakggafaa

/- Layer 40: the laws' sane answers true. -/
namespace Go.Proofs.Ytmjcaclakggafaa
open Go Go.RowKit
instance eqRange : EqTy Try.prog 61 := ⟨by kernel_rfl⟩

theorem m40 : MarkOf 3 [2, 4] ⟨false, 2, 4, 1⟩ := by
  unfold MarkOf
  rw [if_pos (by decide)]
  exact ⟨⟨⟨by decide, by decide, by decide⟩, ⟨by decide, by decide⟩, rfl⟩, by decide⟩
theorem m41 : MarkOf 1 [1, 1] ⟨true, 1, 1, 1⟩ := by
  unfold MarkOf
  rw [if_pos (by decide)]
  exact ⟨⟨⟨by decide, by decide, by decide⟩, ⟨by decide, by decide⟩, rfl⟩, by decide⟩
theorem v40 : VM ⟨false, 2, 4, 1⟩ := .inr ⟨⟨by decide, by decide, by decide⟩, by decide, by decide, by decide⟩
theorem own_ok {m : Mk} {i c : Int} (h : VM m) (k : 0 ≤ i ∧ i < 664 ∧ 0 ≤ c ∧ c ≤ 1073741824) : ownE m i c = 0 := by unfold ownE; rw [if_pos h, if_pos k]
theorem OwnF.is {w0 w : World} {A : Option Addr} {n c : Nat} {e : TypeId} {xs : List Int} (h : OwnF w0 w A n c e 1 (xs.map fun k => .int .i64 k)) (hx : ∀ x ∈ xs, I64 x) (hle : n ≤ 140737488355328) : SlR tInt (fun b => w0.heap.size ≤ b) w A n xs := h.ints hx hle fun _ h => h
theorem smallG {l : List Int} (h : (l.all fun x => decide (0 ≤ x) && decide (x ≤ 100)) = true) : ∀ x ∈ l, I64 x := fun x hx => by have := List.all_eq_true.1 h x hx; simp only [Bool.and_eq_true, decide_eq_true_eq] at this; unfold I64; constructor <;> omega
section
variable {w : World}
theorem c_gAward' {D : Nat → Prop} {E : Int} {l : List Int} {A : Option Addr} {n c : Nat} (hl : SlR tInt D w A n l) (he : tErr E l = 0) : CallZ Try.prog 19 #[iv E, .slice A n c] w (fun v w' => ∃ m A' n' c', MarkOf E l m ∧ v = .tuple #[.slice A' n' c', iv 0] ∧ SlR tInt (fun b => w.heap.size ≤ b) w' A' n' (awL m l) ∧ n' ≤ c' ∧ Ext w w' ∧ n' = l.length) := by
  obtain ⟨hlen, hcl, h0, hs⟩ := tErr_no he
  have hb := isum_b hcl
  unfold isum at hb
  have c1 := c_gAward (c := c) hl (show I64 E by unfold I64; omega)
  intro w0 hw
  refine (c1 w0 hw).mono ?_
  rintro e w' ⟨v, hv, hR⟩
  refine ⟨v, hv, ?_⟩
  rcases hR with ⟨h, -⟩ | ⟨-, m, A', n', c', hm, hv2, own, hn⟩
  · exact absurd he h
  · exact ⟨m, A', n', c', hm, hv2, own.is (awL_small (hm.awd he) hcl) (by omega), own.le, own.ext, hn⟩
end
end Go.Proofs.Ytmjcaclakggafaa

/- The laws GarmentPublic, GarmentOrder, GarmentDual. -/
namespace Go.Proofs.Ytmjcaclakggafaa
open Go Go.RowKit

theorem tErr_ok {E : Int} {l : List Int} (h : l.length ≤ 60 ∧ OkL l ∧ 0 ≤ E ∧ E ≤ isum l) : tErr E l = 0 := by
  unfold tErr
  rw [if_neg (by omega), show l.all okC = true from List.all_eq_true.2 (fun c hc => decide_eq_true (h.2.1 c hc)), Bool.true_and, if_pos (decide_eq_true ⟨h.2.2.1, h.2.2.2⟩)]
theorem awL_b {m : Mk} {l : List Int} {E : Int} (h : Awd l E (fun i => ownV m (clA l i) i)) (hcl : OkL l) : OkL (awL m l) := fun x hx => by
  unfold awL at hx
  obtain ⟨i, hi, rfl⟩ := List.mem_map.1 hx
  exact own_small h hcl (List.mem_range.1 hi)
theorem awL_sum {m : Mk} {l : List Int} {E : Int} (h : Awd l E (fun i => ownV m (clA l i) i)) : isum (awL m l) = E := by
  rw [← h.s, sumN_map]; rfl
theorem clA_sum {l : List Int} : sumN (clA l) l.length = isum l := by
  have := clm_sum (l := l) (f := fun c _ => c)
  rw [clm_fst] at this
  exact this
/-- What a slice of awards has at an index. -/
theorem awL_get {m : Mk} {l : List Int} {k : Nat} {a : Int} (h : (awL m l)[k]? = some a) (hk : k < l.length) : a = ownV m (clA l k) k := by
  rw [awL_at hk] at h; injection h with h; exact h.symm
section
variable {D : Nat → Prop} {w : World} {l : List Int} {sh mo : Int} {A : Option Addr} {n c : Nat}
end
end Go.Proofs.Ytmjcaclakggafaa

/- The reference's Own and Pair; the law GarmentOwnSpec. -/
namespace Go.Proofs.Ytmjcaclakggafaa
open Go Go.RowKit

section
variable {w : World}
end
end Go.Proofs.Ytmjcaclakggafaa

/- The law GarmentConsistent. -/
namespace Go.Proofs.Ytmjcaclakggafaa
open Go Go.RowKit

theorem bitA {op : BinOp} {k : IntKind} {a b : Int} {K : Value → Prop} (h : K (.int k (bits op k a b))) : BitP op k a b K := by rw [BitP_eq]; exact h
/-- Whether a claimant is among those who divide again. -/
def whoV (who : Int) (i : Nat) : Int := bits .and .u64 (who.fdiv (2 ^ (min (i : Int).toNat IntKind.u64.bits))) 1
def ix (who : Int) (k : Nat) : List Nat := (List.range k).filter fun i => decide (whoV who i = 1)
theorem ix_yes {who : Int} {k : Nat} (h : whoV who k = 1) : ix who (k + 1) = ix who k ++ [k] := by
  unfold ix
  rw [List.range_succ, List.filter_append, List.filter_cons_of_pos (by simpa using h)]; rfl
theorem ix_no {who : Int} {k : Nat} (h : ¬ whoV who k = 1) : ix who (k + 1) = ix who k := by
  unfold ix
  rw [List.range_succ, List.filter_append, List.filter_cons_of_neg (by simpa using h)]; simp
theorem ix_len {who : Int} {k : Nat} : (ix who k).length ≤ k := by
  have := List.length_filter_le (fun i => decide (whoV who i = 1)) (List.range k)
  rw [List.length_range] at this
  exact this
theorem ix_lt {who : Int} {k i : Nat} (h : i ∈ ix who k) : i < k := List.mem_range.1 (List.mem_filter.1 h).1
theorem ix_pw {who : Int} {k : Nat} : (ix who k).Pairwise (· < ·) := List.Pairwise.filter _ List.pairwise_lt_range
theorem kLt_ix {c i j c' i' j' p p' : Int} (h1 : i < i' → p < p') (h2 : i' < i → p' < p) (h : kLt c i j c' i' j') : kLt c p j c' p' j' := by unfold kLt at *; omega
/-- Some of the claimants divide what they have as before. -/
theorem Awd.part {l : List Int} {E : Int} {a : Nat → Int} (h : Awd l E a) {I : List Nat} (hI : ∀ i ∈ I, i < l.length) (hp : I.Pairwise (· < ·)) :
    Awd (I.map (clA l)) (isum (I.map a)) (fun j => a (I.getD j 0)) := by
  have at_ : ∀ {j : Nat} (hj : j < (I.map (clA l)).length), clA (I.map (clA l)) j = clA l (I.getD j 0) ∧ I.getD j 0 ∈ I := fun {j} hj => by
    rw [List.length_map] at hj
    have e : I.getD j 0 = I[j] := by rw [List.getD_eq_getElem?_getD, List.getElem?_eq_getElem hj]; rfl
    refine ⟨?_, by rw [e]; exact List.getElem_mem _⟩
    rw [e]
    show (I.map (clA l)).getD j 0 = _
    rw [List.getD_eq_getElem?_getD, List.getElem?_map, List.getElem?_eq_getElem hj]; rfl
  have mono : ∀ {j k : Nat}, k < I.length → j < k → I.getD j 0 < I.getD k 0 := fun {j k} hk hjk => by
    rw [List.getD_eq_getElem?_getD, List.getD_eq_getElem?_getD, List.getElem?_eq_getElem hk, List.getElem?_eq_getElem (show j < I.length by omega)]
    exact List.pairwise_iff_getElem.1 hp j k (by omega) hk hjk
  refine ⟨fun j hj => ?_, ?_, fun j k hj hk h1 h2 => ?_⟩
  · rw [(at_ hj).1]; exact h.b _ (hI _ (at_ hj).2)
  · rw [List.length_map, ← clA_sum, List.length_map]
    refine sumN_congr fun j hj => ?_
    show a (I.getD j 0) = (I.map a).getD j 0
    rw [List.getD_eq_getElem?_getD, List.getD_eq_getElem?_getD, List.getElem?_map, List.getElem?_eq_getElem hj]; rfl
  · have e1 := at_ hj
    have e2 := at_ hk
    rw [e2.1] at h2
    have := h.d _ _ (hI _ e1.2) (hI _ e2.2) h1 h2
    rw [e1.1, e2.1]
    rw [List.length_map] at hj hk
    refine kLt_ix (fun hlt => ?_) (fun hlt => ?_) this
    · by_cases q : j < k
      · omega
      · by_cases q2 : j = k
        · subst q2; omega
        · have := mono hj (show k < j by omega); omega
    · by_cases q : k < j
      · omega
      · by_cases q2 : j = k
        · subst q2; omega
        · have := mono hk (show j < k by omega); omega
/-- Two slices of the function's own that do not share. -/
def dj (A B : Option Addr) : Prop := ∀ g, A = some (ad g 0) → B ≠ some (ad g 0)
theorem dj.symm {A B : Option Addr} (h : dj A B) : dj B A := fun g h1 h2 => h g h2 h1
theorem dj.app {A A' B : Option Addr} {w0 u : World} {n c sz : Nat} {e : TypeId} {cs : List Value} (h : dj A B) (hA : A' = A ∨ A' = none ∨ A' = some (ad u.heap.size 0)) (hB : OwnF w0 u B n c e sz cs) : dj A' B := by
  intro g h1 h2
  rcases hA with e | e | e
  · exact h g (e ▸ h1) h2
  · rw [e] at h1; cases h1
  · rw [e] at h1
    injection h1 with h1; injection h1 with h1
    rcases hB.form with ⟨e2, -⟩ | ⟨g', e2, -, hlt, -⟩
    · rw [e2] at h2; cases h2
    · rw [e2] at h2; injection h2 with h2; injection h2 with h2; omega
theorem srcOf {w : World} {g : Nat} {t : TypeId} {v : Value} (h : Blk w g t [v]) : Src w (some (ad g 0)) 1 1 [v] := ⟨rfl, fun _ => ⟨g, 0, rfl, fun j x hx => by rw [Nat.zero_add]; exact h.cell hx⟩⟩
theorem own_ne {w0 w : World} {A : Option Addr} {n c sz : Nat} {e : TypeId} {cs : List Value} (h : OwnF w0 w A n c e sz cs) {g : Nat} (hg : w.heap.size ≤ g) : A ≠ some (ad g 0) := fun e2 => by
  rcases h.form with ⟨e3, -⟩ | ⟨g', e3, -, hlt, -⟩
  · rw [e3] at e2; cases e2
  · rw [e3] at e2; injection e2 with e2; injection e2 with e2; omega
section
variable {D : Nat → Prop} {w : World} {l : List Int} {sh mo who : Int} {A : Option Addr} {n c : Nat}
end
end Go.Proofs.Ytmjcaclakggafaa

/- The reference's Threshold. -/
namespace Go.Proofs.Ytmjcaclakggafaa
open Go Go.RowKit

/-- How many litres of a claim are before a level or in it. -/
def toF (late : Bool) (L c : Int) : Int := if late then c / 2 + max 0 (c - c / 2 - L + 1) else max 0 (min (c / 2) L)
def toN (late : Bool) (L : Int) (l : List Int) (k : Nat) : Int := sumN (fun i => toF late L (clA l i)) k
def toV (late : Bool) (L : Int) (l : List Int) : Int := toN late L l l.length
/-- The level that is before a mark's. -/
def befL (m : Mk) : Int := if m.late then m.level + 1 else m.level - 1
instance (m : Mk) (c i : Int) : Decidable (m.level ≤ (if m.late then c - c / 2 else c / 2) ∧ upTo m c i) := inferInstance
def oneV (m : Mk) (c i : Int) : Int := if m.level ≤ (if m.late then c - c / 2 else c / 2) ∧ upTo m c i then 1 else 0
theorem own_pt {m : Mk} {c i : Int} (h : m.Lit) (hc : 0 ≤ c) : ownV m c i = toF m.late (befL m) c + oneV m c i := by
  obtain ⟨l, L, c0, i0⟩ := m
  have h1 : 1 ≤ L := h.lo
  cases l with
  | false =>
    have e1 : befL ⟨false, L, c0, i0⟩ = L - 1 := rfl
    have e2 : toF false (L - 1) c = max 0 (min (c / 2) (L - 1)) := rfl
    rw [e1]
    show _ = toF false (L - 1) c + oneV ⟨false, L, c0, i0⟩ c i
    rw [e2]
    by_cases hq : c0 < c ∨ (c = c0 ∧ i ≤ i0)
    · rw [own_ee h hq]
      by_cases g : L ≤ c / 2
      · rw [show oneV ⟨false, L, c0, i0⟩ c i = 1 from if_pos ⟨g, hq⟩]; omega
      · rw [show oneV ⟨false, L, c0, i0⟩ c i = 0 from if_neg fun k => g k.1]; omega
    · rw [own_en h hq, show oneV ⟨false, L, c0, i0⟩ c i = 0 from if_neg fun k => hq k.2]; omega
  | true =>
    have e1 : befL ⟨true, L, c0, i0⟩ = L + 1 := rfl
    have e2 : toF true (L + 1) c = c / 2 + max 0 (c - c / 2 - (L + 1) + 1) := rfl
    rw [e1]
    show _ = toF true (L + 1) c + oneV ⟨true, L, c0, i0⟩ c i
    rw [e2]
    by_cases hq : c < c0 ∨ (c = c0 ∧ i0 ≤ i)
    · rw [own_le h hq]
      by_cases g : L ≤ c - c / 2
      · rw [show oneV ⟨true, L, c0, i0⟩ c i = 1 from if_pos ⟨g, hq⟩]; omega
      · rw [show oneV ⟨true, L, c0, i0⟩ c i = 0 from if_neg fun k => g k.1]; omega
    · rw [own_ln h hq, show oneV ⟨true, L, c0, i0⟩ c i = 0 from if_neg fun k => hq k.2]; omega
section
variable {l : List Int} {m : Mk} {E : Int}
theorem place_eq (h : m.Lit) (hl : ∀ i, i < l.length → 0 ≤ clA l i) : ownS m l = toV m.late (befL m) l + sumN (fun i => oneV m (clA l i) i) l.length := by
  unfold ownS toV toN
  rw [← sumN_add]
  exact sumN_congr fun i hi => own_pt h (hl i hi)
theorem Mk.Of.nat (h : m.Of l) : m.index.toNat < l.length ∧ ((m.index.toNat : Nat) : Int) = m.index := by have := h.ix; omega
/-- .. and at the mark's own claimant. -/
theorem own_at (h : m.Of l) : ownV m (clA l m.index.toNat) (m.index.toNat : Nat) = m.j := by
  rw [h.nat.2, ← h.cl]; exact own_self h.lit
theorem lev_early (h : m.Of l) (hl : ∀ i, i < l.length → 0 ≤ clA l i) (hs : ownS m l = E) (he : m.late = false) {x : Int} (_hx : 0 ≤ x) : E ≤ toV false x l ↔ m.level ≤ x := by
  obtain ⟨b, L, c0, i0⟩ := m
  have he : b = false := he
  subst he
  have lit := h.lit
  have h1 : 1 ≤ L := lit.lo
  have h2 : L ≤ c0 / 2 := lit.hi
  constructor
  · intro hE
    by_cases q : L ≤ x
    · exact q
    exfalso
    have := sumN_lt (f := fun i => toF false x (clA l i)) (g := fun i => ownV ⟨false, L, c0, i0⟩ (clA l i) i) (n := l.length) (fun i hi => by
      have := hl i hi
      show max 0 (min (clA l i / 2) x) ≤ _
      by_cases hq : c0 < clA l i ∨ (clA l i = c0 ∧ (i : Int) ≤ i0)
      · rw [own_ee lit hq]; omega
      · rw [own_en lit hq]; omega) ⟨i0.toNat, h.nat.1, by
        have e : ownV ⟨false, L, c0, i0⟩ (clA l i0.toNat) (i0.toNat : Nat) = L := own_at h
        rw [e]
        show max 0 (min (clA l i0.toNat / 2) x) < L
        omega⟩
    have hs : sumN (fun i => ownV ⟨false, L, c0, i0⟩ (clA l i) i) l.length = E := hs
    rw [hs] at this
    have : toV false x l < E := this
    omega
  · intro hLx
    have hLx : L ≤ x := hLx
    rw [← hs]
    exact sumN_le fun i hi => by
      have := hl i hi
      show _ ≤ max 0 (min (clA l i / 2) x)
      by_cases hq : c0 < clA l i ∨ (clA l i = c0 ∧ (i : Int) ≤ i0)
      · rw [own_ee lit hq]; omega
      · rw [own_en lit hq]; omega
theorem lev_late (h : m.Of l) (hl : ∀ i, i < l.length → 0 ≤ clA l i) (hs : ownS m l = E) (he : m.late = true) {x : Int} (_hx : 1 ≤ x) : E ≤ toV true x l ↔ x ≤ m.level := by
  obtain ⟨b, L, c0, i0⟩ := m
  have he : b = true := he
  subst he
  have lit := h.lit
  have h1 : 1 ≤ L := lit.lo
  have h2 : L ≤ c0 - c0 / 2 := lit.hi
  have hcl : c0 = clA l i0.toNat := h.cl
  constructor
  · intro hE
    by_cases q : x ≤ L
    · exact q
    exfalso
    have := sumN_lt (f := fun i => toF true x (clA l i)) (g := fun i => ownV ⟨true, L, c0, i0⟩ (clA l i) i) (n := l.length) (fun i hi => by
      have := hl i hi
      show clA l i / 2 + max 0 (clA l i - clA l i / 2 - x + 1) ≤ _
      by_cases hq : clA l i < c0 ∨ (clA l i = c0 ∧ i0 ≤ (i : Int))
      · rw [own_le lit hq]; omega
      · rw [own_ln lit hq]; omega) ⟨i0.toNat, h.nat.1, by
        have e : ownV ⟨true, L, c0, i0⟩ (clA l i0.toNat) (i0.toNat : Nat) = c0 - L + 1 := own_at h
        rw [e]
        show clA l i0.toNat / 2 + max 0 (clA l i0.toNat - clA l i0.toNat / 2 - x + 1) < c0 - L + 1
        rw [← hcl]
        omega⟩
    have hs : sumN (fun i => ownV ⟨true, L, c0, i0⟩ (clA l i) i) l.length = E := hs
    rw [hs] at this
    have : toV true x l < E := this
    omega
  · intro hLx
    have hLx : x ≤ L := hLx
    rw [← hs]
    exact sumN_le fun i hi => by
      have := hl i hi
      show _ ≤ clA l i / 2 + max 0 (clA l i - clA l i / 2 - x + 1)
      by_cases hq : clA l i < c0 ∨ (clA l i = c0 ∧ i0 ≤ (i : Int))
      · rw [own_le lit hq]; omega
      · rw [own_ln lit hq]; omega
theorem late_big (h : m.Of l) (hl : ∀ i, i < l.length → 0 ≤ clA l i) (hs : ownS m l = E) (he : m.late = true) {x : Int} (_hx : 0 ≤ x) : toV false x l < E := by
  obtain ⟨b, L, c0, i0⟩ := m
  have he : b = true := he
  subst he
  have lit := h.lit
  have h1 : 1 ≤ L := lit.lo
  have h2 : L ≤ c0 - c0 / 2 := lit.hi
  have hcl : c0 = clA l i0.toNat := h.cl
  rw [← hs]
  refine sumN_lt (f := fun i => toF false x (clA l i)) (g := fun i => ownV ⟨true, L, c0, i0⟩ (clA l i) i) (n := l.length) (fun i hi => ?_) ⟨i0.toNat, h.nat.1, ?_⟩
  · have := hl i hi
    show max 0 (min (clA l i / 2) x) ≤ _
    by_cases hq : clA l i < c0 ∨ (clA l i = c0 ∧ i0 ≤ (i : Int))
    · rw [own_le lit hq]; omega
    · rw [own_ln lit hq]; omega
  · have e : ownV ⟨true, L, c0, i0⟩ (clA l i0.toNat) (i0.toNat : Nat) = c0 - L + 1 := own_at h
    rw [e]
    show max 0 (min (clA l i0.toNat / 2) x) < c0 - L + 1
    rw [← hcl]
    have := lit.c0
    omega
theorem toF_b {late : Bool} {L c : Int} (hL : 0 ≤ L) (hc : 0 ≤ c ∧ c ≤ 1073741824) : 0 ≤ toF late L c ∧ toF late L c ≤ 1073741825 := by
  unfold toF
  split <;> omega
theorem toN_b {late : Bool} {L : Int} (hL : 0 ≤ L) (hcl : OkL l) {k : Nat} (hk : k ≤ l.length) : 0 ≤ toN late L l k ∧ toN late L l k ≤ k * 1073741825 :=
  sumN_b fun i hi => toF_b hL (clA_b hcl (by omega))
end
section
variable {D : Nat → Prop} {w : World} {l : List Int} {A : Option Addr} {n c : Nat}
end
end Go.Proofs.Ytmjcaclakggafaa

/- The reference's place, level, Threshold, Award; the law GarmentSpec. -/
namespace Go.Proofs.Ytmjcaclakggafaa
open Go Go.RowKit

section
variable {D : Nat → Prop} {w : World} {l : List Int} {A : Option Addr} {n c : Nat}
end
end Go.Proofs.Ytmjcaclakggafaa

/- The reference's Threshold and Award; the law GarmentSpec. -/
namespace Go.Proofs.Ytmjcaclakggafaa
open Go Go.RowKit

section
variable {D : Nat → Prop} {w : World} {l : List Int} {A : Option Addr} {n c : Nat}
/-- What Award answers. -/
noncomputable def awX (E : Int) (l : List Int) (m : Mk) : List Int := if tErr E l = 0 then awL m l else []
theorem c_gAwardX {E : Int} (hl : SlR tInt D w A n l) (hE : I64 E) : CallZ Try.prog 19 #[iv E, .slice A n c] w (fun v w' => ∃ m A' n' c', MarkOf E l m ∧ v = .tuple #[.slice A' n' c', iv (tErr E l)] ∧ SlR tInt (fun _ => True) w' A' n' (awX E l m) ∧ Ext w w') := by
  intro w0 hw
  refine (c_gAward (c := c) hl hE w0 hw).mono ?_
  rintro e w' ⟨v, hv, hR⟩
  refine ⟨v, hv, ?_⟩
  rcases hR with ⟨h, hv2, x⟩ | ⟨he, m, A', n', c', hm, hv2, own, hn⟩
  · exact ⟨Mk.none, none, 0, 0, by unfold MarkOf; rw [if_neg fun k => h k.1], hv2, by unfold awX; rw [if_neg h]; exact .nil, x⟩
  · obtain ⟨hlen, hcl, -⟩ := tErr_no he
    refine ⟨m, A', n', c', hm, by rw [he]; exact hv2, ?_, own.ext⟩
    unfold awX
    rw [if_pos he]
    exact (own.is (awL_small (hm.awd he) hcl) (by omega)).more (by decide) fun _ _ _ => trivial
end
end Go.Proofs.Ytmjcaclakggafaa

/- Layer 41, plainly: the parts of the reaches. -/
namespace Go.Proofs.Ytmjcaclakggafaa
open Go Go.RowKit

def fmC (d : Dist) (k : Nat) : Farm := d.farms.getD k ⟨ByteArray.empty, 0, 0, 0⟩
theorem fmC_at {d : Dist} {k : Nat} {x : Farm} (h : d.farms[k]? = some x) : fmC d k = x := by unfold fmC; rw [List.getD_eq_getElem?_getD, h]; rfl
/-- A part of a reach: whether it is a farm, and its index. -/
abbrev Pt : Type := Bool × Nat
def isF (d : Dist) (r : Int) (i : Nat) : Bool := decide ((fmC d i).reach = r)
def isC (d : Dist) (r : Int) (i : Nat) : Bool := decide ((rcC d i).up = r)
def ptsF (d : Dist) (r : Int) (k : Nat) : List Pt := ((List.range k).filter (isF d r)).map fun i => (true, i)
def ptsC (d : Dist) (r : Int) (k : Nat) : List Pt := ((List.range k).filter (isC d r)).map fun i => (false, i)
/-- The parts of a reach. -/
def ptsV (d : Dist) (r : Int) : List Pt := ptsF d r d.farms.length ++ ptsC d r d.reaches.length
theorem ptsF_yes {d : Dist} {r : Int} {k : Nat} (h : (fmC d k).reach = r) : ptsF d r (k + 1) = ptsF d r k ++ [(true, k)] := by
  unfold ptsF
  rw [List.range_succ, List.filter_append, List.map_append, List.filter_cons_of_pos (by unfold isF; exact decide_eq_true h)]; rfl
theorem ptsF_no {d : Dist} {r : Int} {k : Nat} (h : ¬ (fmC d k).reach = r) : ptsF d r (k + 1) = ptsF d r k := by
  unfold ptsF
  rw [List.range_succ, List.filter_append, List.map_append, List.filter_cons_of_neg (by unfold isF; rw [decide_eq_true_eq]; exact h)]; simp
theorem ptsC_yes {d : Dist} {r : Int} {k : Nat} (h : (rcC d k).up = r) : ptsC d r (k + 1) = ptsC d r k ++ [(false, k)] := by
  unfold ptsC
  rw [List.range_succ, List.filter_append, List.map_append, List.filter_cons_of_pos (by unfold isC; exact decide_eq_true h)]; rfl
theorem ptsC_no {d : Dist} {r : Int} {k : Nat} (h : ¬ (rcC d k).up = r) : ptsC d r (k + 1) = ptsC d r k := by
  unfold ptsC
  rw [List.range_succ, List.filter_append, List.map_append, List.filter_cons_of_neg (by unfold isC; rw [decide_eq_true_eq]; exact h)]; simp
theorem ptsF_len {d : Dist} {r : Int} {k : Nat} : (ptsF d r k).length ≤ k := by
  unfold ptsF; rw [List.length_map]; exact Nat.le_trans (List.length_filter_le _ _) (by rw [List.length_range]; exact Nat.le_refl k)
theorem ptsC_len {d : Dist} {r : Int} {k : Nat} : (ptsC d r k).length ≤ k := by
  unfold ptsC; rw [List.length_map]; exact Nat.le_trans (List.length_filter_le _ _) (by rw [List.length_range]; exact Nat.le_refl k)
theorem ptsV_len {d : Dist} {r : Int} : (ptsV d r).length ≤ d.farms.length + d.reaches.length := by
  unfold ptsV; rw [List.length_append]; have := ptsF_len (d := d) (r := r) (k := d.farms.length); have := ptsC_len (d := d) (r := r) (k := d.reaches.length); omega
theorem mem_ptsF {d : Dist} {r : Int} {k : Nat} {p : Pt} : p ∈ ptsF d r k ↔ p.1 = true ∧ p.2 < k ∧ (fmC d p.2).reach = r := by
  obtain ⟨b, i⟩ := p
  unfold ptsF isF
  simp only [List.mem_map, List.mem_filter, List.mem_range, decide_eq_true_eq, Prod.mk.injEq]
  constructor
  · rintro ⟨a, ⟨h1, h2⟩, rfl, rfl⟩; exact ⟨rfl, h1, h2⟩
  · rintro ⟨rfl, h1, h2⟩; exact ⟨i, ⟨h1, h2⟩, rfl, rfl⟩
theorem mem_ptsC {d : Dist} {r : Int} {k : Nat} {p : Pt} : p ∈ ptsC d r k ↔ p.1 = false ∧ p.2 < k ∧ (rcC d p.2).up = r := by
  obtain ⟨b, i⟩ := p
  unfold ptsC isC
  simp only [List.mem_map, List.mem_filter, List.mem_range, decide_eq_true_eq, Prod.mk.injEq]
  constructor
  · rintro ⟨a, ⟨h1, h2⟩, rfl, rfl⟩; exact ⟨rfl, h1, h2⟩
  · rintro ⟨rfl, h1, h2⟩; exact ⟨i, ⟨h1, h2⟩, rfl, rfl⟩
theorem mem_ptsV {d : Dist} {r : Int} {p : Pt} : p ∈ ptsV d r ↔ (p.1 = true ∧ p.2 < d.farms.length ∧ (fmC d p.2).reach = r) ∨ (p.1 = false ∧ p.2 < d.reaches.length ∧ (rcC d p.2).up = r) := by
  unfold ptsV; rw [List.mem_append, mem_ptsF, mem_ptsC]
theorem ptsV_nodup {d : Dist} {r : Int} : (ptsV d r).Nodup := by
  unfold ptsV
  refine List.nodup_append.2 ⟨?_, ?_, fun a ha b hb e => ?_⟩
  · exact List.pairwise_map.2 ((List.Pairwise.filter _ List.nodup_range).imp fun h e => h (by injection e))
  · exact List.pairwise_map.2 ((List.Pairwise.filter _ List.nodup_range).imp fun h e => h (by injection e))
  · subst e
    have := (mem_ptsF.1 ha).1
    rw [(mem_ptsC.1 hb).1] at this; cases this
end Go.Proofs.Ytmjcaclakggafaa

/- Layer 41: contract of grow. -/
namespace Go.Proofs.Ytmjcaclakggafaa
open Go Go.RowKit

instance keyInt1 : KeyL Try.prog 3 kvI := keyI Try.underlying3
abbrev encP (p : Pt) : List Value := [.bool p.1, iv (p.2 : Int)]
def tPt : Ty Pt := tFl 2 encP fun _ => rfl
abbrev cps (l : List Pt) : List Value := l.flatMap encP
theorem flat_cps {D : Nat → Prop} {w : World} : ∀ {s : List Pt}, FlatR tPt D w s (cps s)
  | [] => rfl
  | x :: s => ⟨encP x, cps s, rfl, rfl, flat_cps⟩
theorem cps_app {a b : List Pt} : cps (a ++ b) = cps a ++ cps b := List.flatMap_append
theorem cps_len : ∀ {a : List Pt}, (cps a).length = a.length * 2
  | [] => rfl
  | x :: a => by show (encP x ++ cps a).length = (a.length + 1) * 2; rw [List.length_append, cps_len]; show 2 + _ = _; omega
/-- Two slices of one's own that do not share. -/
def djA (A B : Option Addr) : Prop := ∀ g, A = some (ad g 0) → B ≠ some (ad g 0)
theorem djA.symm {A B : Option Addr} (h : djA A B) : djA B A := fun g h1 h2 => h g h2 h1
theorem djA.app {A A' B : Option Addr} {w0 u : World} {n c sz : Nat} {e : TypeId} {cs : List Value} (h : djA A B) (hA : A' = A ∨ A' = none ∨ A' = some (ad u.heap.size 0)) (hB : OwnF w0 u B n c e sz cs) : djA A' B := by
  intro g h1 h2
  rcases hA with e | e | e
  · exact h g (e ▸ h1) h2
  · rw [e] at h1; cases h1
  · rw [e] at h1
    injection h1 with h1; injection h1 with h1
    rcases hB.form with ⟨e2, -⟩ | ⟨g', e2, -, hlt, -⟩
    · rw [e2] at h2; cases h2
    · rw [e2] at h2; injection h2 with h2; injection h2 with h2; omega
theorem ownTy {w0 w : World} {A : Option Addr} {n c sz : Nat} {e t : TypeId} {cs xs : List Value} {b : Nat} (h : OwnF w0 w A n c e sz cs) (hb : Blk w b t xs) (hne : t ≠ e) : A ≠ some (ad b 0) := fun e2 => by
  obtain ⟨rest, hb3, _⟩ := Own.blk (e2 ▸ h.own)
  exact hne (hb.uniq hb3).1
theorem ownMap {κ : Type} {kv : κ → Value} {f : κ → Option Value} {w0 w : World} {A : Option Addr} {n c sz : Nat} {e : TypeId} {cs : List Value} {b : Nat} (h : OwnF w0 w A n c e sz cs) (hb : MapG kv w b f) : A ≠ some (ad b 0) := fun e2 => by
  obtain ⟨rest, hb3, _⟩ := Own.blk (e2 ▸ h.own)
  obtain ⟨L, q, hE, -⟩ := hb
  have h1 : w.heap[b]? = _ := hb3
  rw [hE.at_] at h1
  cases h1
/-- The parts so far: each reach has a slice of the function's own. -/
structure PtsM (w0 u : World) (g : Nat) (f : Int → List Pt) (S : Int → Option Addr × Nat × Nat) : Prop where
  map : ∃ m : Int → Option Value, MapG kvI u g m ∧ ∀ r, (m r).getD (.slice none 0 0) = .slice (S r).1 (S r).2.1 (S r).2.2
  own : ∀ r, OwnF w0 u (S r).1 (S r).2.1 (S r).2.2 92 2 (cps (f r))
  dj : ∀ r r', r ≠ r' → djA (S r).1 (S r').1
theorem PtsM.len {w0 u : World} {g : Nat} {f : Int → List Pt} {S : Int → Option Addr × Nat × Nat} (h : PtsM w0 u g f S) (r : Int) : (S r).2.1 = (f r).length := by
  have := (h.own r).own.len
  rw [cps_len] at this; omega
theorem PtsM.ext {w0 u u' : World} {g : Nat} {f : Int → List Pt} {S : Int → Option Addr × Nat × Nat} (h : PtsM w0 u g f S) (k : Ext u u') : PtsM w0 u' g f S := by
  obtain ⟨⟨m, h1, h2⟩, h3, h4⟩ := h
  exact ⟨⟨m, h1.kept k trivial, h2⟩, fun r => (h3 r).then k, h4⟩
theorem PtsM.step {w0 u v z : World} {g : Nat} {f f' : Int → List Pt} {S : Int → Option Addr × Nat × Nat} {m : Int → Option Value} (r : Int) {p : Pt} {A' : Option Addr} {n' c' : Nat} (h3 : ∀ r, OwnF w0 u (S r).1 (S r).2.1 (S r).2.2 92 2 (cps (f r))) (h4 : ∀ r r', r ≠ r' → djA (S r).1 (S r').1) (hm : ∀ r, (m r).getD (.slice none 0 0) = .slice (S r).1 (S r).2.1 (S r).2.2)
    (o : OwnF w0 v A' n' c' 92 2 (cps (f r) ++ encP p)) (k : Kept (fun b => (S r).1 ≠ some (ad b 0)) u v) (hA : A' = (S r).1 ∨ A' = none ∨ ∃ t : World, A' = some (ad t.heap.size 0) ∧ Ext u t) {f0 : Int → Option Value} (M4 : MapG kvI v g f0) (M : MapG kvI z g (pset m r (.slice A' n' c'))) (k5 : Kept (fun b => b ≠ g) v z) (x : Ext w0 z)
    (hf : ∀ q, f' q = if q = r then f r ++ [p] else f q) : ∃ S', PtsM w0 z g f' S' := by
  refine ⟨fun q => if q = r then (A', n', c') else S q, ⟨_, M, fun q => ?_⟩, fun q => ?_, fun q q' hqq => ?_⟩
  · unfold pset
    by_cases e : q = r
    · simp only [if_pos e]; rfl
    · simp only [if_neg e]; exact hm q
  · rw [hf q]
    by_cases e : q = r
    · simp only [if_pos e]
      rw [cps_app]
      have := o.thenK k5 (fun b hb e2 => ownMap o M4 (by rw [← e2]; exact hb)) x
      simpa using this
    · simp only [if_neg e]
      have o' := (h3 q).thenK k (fun b hb e2 => h4 r q (fun h => e h.symm) b e2 hb) o.ext
      exact o'.thenK k5 (fun b hb e2 => ownMap o' M4 (by rw [← e2]; exact hb)) x
  · have hh : ∀ q, q ≠ r → djA A' (S q).1 := fun q hq2 => by
      rcases hA with e | e | ⟨t, e, xt⟩
      · rw [e]; exact h4 r q (fun h => hq2 h.symm)
      · rw [e]; intro g h; cases h
      · intro g' h1 h2
        rw [e] at h1
        injection h1 with h1; injection h1 with h1
        rcases (h3 q).form with ⟨e2, -⟩ | ⟨g2, e2, -, hlt, -⟩
        · rw [e2] at h2; cases h2
        · rw [e2] at h2; injection h2 with h2; injection h2 with h2
          have := xt.size; omega
    by_cases e : q = r
    · simp only [if_pos e, if_neg (show ¬ q' = r from fun h => hqq (by rw [e, h]))]
      exact hh q' (fun h => hqq (by rw [e, h]))
    · by_cases e' : q' = r
      · simp only [if_neg e, if_pos e']; exact (hh q e).symm
      · simp only [if_neg e, if_neg e']; exact h4 q q' hqq
/-- The parts of all reaches, as the tree holds them. -/
structure TreR (D : Nat → Prop) (w : World) (g : Nat) (d : Dist) : Prop where
  own : D g
  ex : ∃ m : Int → Option Value, MapG kvI w g m ∧ ∀ r : Int, ∃ A n c, (m r).getD (.slice none 0 0) = .slice A n c ∧ SlR tPt D w A n (ptsV d r) ∧ n ≤ c
theorem TreR.kept {D D' : Nat → Prop} {w w' : World} {g : Nat} {d : Dist} (h : TreR D w g d) (k : Kept D' w w') (hd : ∀ b, b < w.heap.size → D b → D' b) : TreR D w' g d := by
  obtain ⟨h0, m, h1, h2⟩ := h
  refine ⟨h0, m, h1.kept k (hd g h1.lt h0), fun r => ?_⟩
  obtain ⟨A, n, c, e, hs, hc⟩ := h2 r
  exact ⟨A, n, c, e, hs.kept k hd, hc⟩
theorem TreR.ext {D : Nat → Prop} {w w' : World} {g : Nat} {d : Dist} (h : TreR D w g d) (k : Ext w w') : TreR D w' g d := h.kept k fun _ _ _ => trivial
section
variable {D : Nat → Prop} {w : World}
set_option maxRecDepth 4000 in
theorem c_dgrow {d : Dist} {A1 A2 A3 A4 A5 A6 : Option Addr} {n1 c1 n2 c2 n3 c3 n4 c4 n5 c5 n6 c6 : Nat} (hr : SlR tReach D w A1 n1 d.reaches) (hf : SlR tFarm D w A2 n2 d.farms) (hn : d.reaches.length ≤ 64 ∧ d.farms.length ≤ 600) :
    CallZ Try.prog 35 #[.agg #[.string d.name, iv d.hours, iv d.cap, iv d.start, .slice A1 n1 c1, .slice A2 n2 c2, .slice A3 n3 c3, .slice A4 n4 c4, .slice A5 n5 c5, .slice A6 n6 c6]] w
      (fun v w' => ∃ g, v = .agg #[.string d.name, iv d.hours, iv d.cap, iv d.start, .slice A1 n1 c1, .slice A2 n2 c2, .slice A3 n3 c3, .slice A4 n4 c4, .slice A5 n5 c5, .slice A6 n6 c6, .map (some g)] ∧ Ext w w' ∧ TreR (fun b => w.heap.size ≤ b) w' g d) := by
  have lr := hr.len
  have lf := hf.len
  refine fn_rule (args := [.agg #[.string d.name, iv d.hours, iv d.cap, iv d.start, .slice A1 n1 c1, .slice A2 n2 c2, .slice A3 n3 c3, .slice A4 n4 c4, .slice A5 n5 c5, .slice A6 n6 c6]]) Try.func35 (by kernel_rfl) ?_
  refine box (fun b1 w1 h1 => ?_)
  refine alloc (fun b2 w2 h2 => ?_)
  have B1 : Blk w2 b1 31 [.string d.name, iv d.hours, iv d.cap, iv d.start, .slice A1 n1 c1, .slice A2 n2 c2, .slice A3 n3 c3, .slice A4 n4 c4, .slice A5 n5 c5, .slice A6 n6 c6] := h1.blk.ext h2.ext
  refine ldA _ (.blk B1) rfl ?_
  refine mmap (fun g w3 hg hw3 => ?_)
  have x3 : Ext w2 w3 := by rw [hw3]; exact Kept.alloc _ _ _
  have M3 : MapG kvI w3 g (fun _ => none) := by rw [hg, hw3]; exact MapG.new kvI w2
  refine bld [.string d.name, iv d.hours, iv d.cap, iv d.start, .slice A1 n1 c1, .slice A2 n2 c2, .slice A3 n3 c3, .slice A4 n4 c4, .slice A5 n5 c5, .slice A6 n6 c6, .map (some g)] (by kernel_rfl) ?_
  refine alloc (fun b3 w4 h4 => ?_)
  refine stA (vs := [.string d.name, iv d.hours, iv d.cap, iv d.start, .slice A1 n1 c1, .slice A2 n2 c2, .slice A3 n3 c3, .slice A4 n4 c4, .slice A5 n5 c5, .slice A6 n6 c6, .map (some g)]) h4.blk rfl (Nat.le_of_ble_eq_true rfl) (by simp [Value.oneCell']) (fun w5 B3 k5 z5 => ?_)
  have e1 := h1.at_
  have e2 := h2.at_
  have e4 := h4.at_
  have s1 := h1.size
  have s2 := h2.size
  have s3 := x3.size
  have sg := M3.lt
  have s4 := h4.size
  have x5 : Ext w w5 := (((h1.ext.trans h2.ext).trans x3).trans h4.ext).then k5 fun b hb _ e => by omega
  have B3 : Blk w5 b3 78 [.string d.name, iv d.hours, iv d.cap, iv d.start, .slice A1 n1 c1, .slice A2 n2 c2, .slice A3 n3 c3, .slice A4 n4 c4, .slice A5 n5 c5, .slice A6 n6 c6, .map (some g)] := B3
  have B1 : Blk w5 b1 31 [.string d.name, iv d.hours, iv d.cap, iv d.start, .slice A1 n1 c1, .slice A2 n2 c2, .slice A3 n3 c3, .slice A4 n4 c4, .slice A5 n5 c5, .slice A6 n6 c6] := (B1.ext (x3.trans h4.ext)).kept k5 (by omega)
  have B2 : Blk w5 b2 78 [.string ByteArray.empty, iv 0, iv 0, iv 0, .slice none 0 0, .slice none 0 0, .slice none 0 0, .slice none 0 0, .slice none 0 0, .slice none 0 0, .map none] := (h2.blk.ext (x3.trans h4.ext)).kept k5 (by omega)
  have M5 : MapG kvI w5 g (fun _ => none) := (M3.kept h4.ext trivial).kept k5 (by have := M3.lt; omega)
  have hgw : w.heap.size ≤ g := by omega
  have hg1 := M5.lt
  refine fldA ?_
  refine ld (.slice A2 n2 c2) (B1.cell rfl) ?_
  refine len ?_
  refine loop_rule (fun k : Nat => [(14, iv (k : Int))]) (fun k u => k ≤ n2 ∧ (∃ S, PtsM w u g (fun r => ptsF d r k) S) ∧ Ext w u ∧ Blk u b1 31 [.string d.name, iv d.hours, iv d.cap, iv d.start, .slice A1 n1 c1, .slice A2 n2 c2, .slice A3 n3 c3, .slice A4 n4 c4, .slice A5 n5 c5, .slice A6 n6 c6] ∧ Blk u b3 78 [.string d.name, iv d.hours, iv d.cap, iv d.start, .slice A1 n1 c1, .slice A2 n2 c2, .slice A3 n3 c3, .slice A4 n4 c4, .slice A5 n5 c5, .slice A6 n6 c6, .map (some g)] ∧ Blk u b2 78 [.string ByteArray.empty, iv 0, iv 0, iv 0, .slice none 0 0, .slice none 0 0, .slice none 0 0, .slice none 0 0, .slice none 0 0, .slice none 0 0, .map none]) (fun k _ => n2 - k) 0 ⟨rfl, trivial⟩ ⟨by omega, ⟨fun _ => (none, 0, 0), ⟨_, M5, fun _ => rfl⟩, fun _ => OwnF.nil x5, fun _ _ _ g h => by cases h⟩, x5, B1, B3, B2⟩ rfl ?_
  rintro G k u ⟨hk, ⟨S, P⟩, xu, B1, B3, B2⟩
  refine cD (fun hlt => ?_) (fun hge => ?_)
  · have hlt : k < n2 := by omega
    obtain ⟨b, o, cs, x, rfl, hx, -, -, hc, rfl⟩ := (hf.ext xu).at_ hlt
    refine idx k rfl hlt ?_
    refine ldA x.c hc rfl ?_
    refine alloc (fun b5 u1 i1 => ?_)
    have y1 := i1.at_
    have q1 := i1.size
    refine stA (vs := x.c) i1.blk rfl (Nat.le_of_ble_eq_true rfl) (by simp [Value.oneCell']) (fun u2 B5 k2 z2 => ?_)
    have xu2 : Ext u u2 := i1.ext.then k2 fun b hb _ e => by omega
    have hl := P.len x.reach
    have P2 := P.ext xu2
    have B1 := B1.ext xu2
    have B3 := B3.ext xu2
    have B2 := B2.ext xu2
    have B5 : Blk u2 b5 48 x.c := B5
    obtain ⟨⟨m, Mm, hm⟩, ho, hdj⟩ := P2
    have hlF := ptsF_len (d := d) (r := x.reach) (k := d.farms.length)
    have hlF' := ptsF_len (d := d) (r := x.reach) (k := k)
    have hlC := ptsC_len (d := d) (r := x.reach) (k := k)
    have hl : (S x.reach).2.1 ≤ 10000 := by rw [hl]; omega
    have n3 := ownTy (ho x.reach) B3 (by decide)
    have n5 := ownTy (ho x.reach) B5 (by decide)
    have n1 := ownTy (ho x.reach) B1 (by decide)
    have n2 := ownTy (ho x.reach) B2 (by decide)
    have nm := ownMap (ho x.reach) Mm
    have hgl := Mm.lt
    have l1 := B1.lt
    have l2 := B2.lt
    have l3 := B3.lt
    refine drawP (.take 0 (.take 1 (.take 2 (.take 3 (.take 4 (.take 5 (.take 6 (.take 7 (.take 8 (.take 9 (.take 10 (.eff 11 (.eff 12 (.bar (.eff 13 .done))))))))))))))) [13] (fun z => Kept (fun b => (S x.reach).1 ≠ some (ad b 0)) u2 z) mx (by kernel_rfl) (.refl _ _) ?_
    refine fldA ?_
    refine ldK (.map (some g)) (B3.cell rfl) n3 (.refl _ _) ?_
    refine fldA ?_
    refine ldK (iv x.reach) (B5.cell rfl) n5 (.refl _ _) ?_
    refine fldA ?_
    refine ldK (.map (some g)) (B3.cell rfl) n3 (.refl _ _) ?_
    refine fldA ?_
    refine ldK (iv x.reach) (B5.cell rfl) n5 (.refl _ _) ?_
    refine lookG1 (kv := kvI) x.reach (.slice (S x.reach).1 (S x.reach).2.1 (S x.reach).2.2) (fun z hz => ⟨m, Mm.kept hz nm, hm _⟩) ?_
    refine bld [.bool true, iv (k : Int)] (by kernel_rfl) ?_
    refine lit [.agg #[.bool true, iv (k : Int)]] (fun hg2 u3 hq => ?_)
    refine strS (Ext.any hq.ext) ?_
    refine appF ((ho x.reach).then hq.ext) (hq.src (sz := 2) rfl) (by omega) (fun A' c' u4 o4 k4 hA => ?_)
    have k24 : Kept (fun b => (S x.reach).1 ≠ some (ad b 0)) u2 u4 := (Ext.any hq.ext).trans k4
    refine strS k24 ?_
    refine barS (fun _ => True) trivial ?_
    have Mm4 := Mm.kept k24 nm
    refine mupdG (kv := kvI) x.reach Mm4 (fun u5 M5 k5 z5 => ?_)
    refine strS trivial ?_
    refine arI (by omega) ?_
    have x25 : Ext w u5 := (o4.ext).then k5 fun b hb _ e => by omega
    refine next (k + 1) ⟨by rw [Int.natCast_add]; rfl, trivial⟩ ⟨by omega, PtsM.step (f := fun r => ptsF d r k) (p := (true, k)) x.reach ho hdj hm o4 k24 (hA.imp id (Or.imp id fun e => ⟨u3, e, hq.ext⟩)) Mm4 M5 k5 x25 (fun q => ?_), x25, (B1.kept k24 n1).kept k5 (by omega), (B3.kept k24 n3).kept k5 (by omega), (B2.kept k24 n2).kept k5 (by omega)⟩ (by omega)
    have ef : (fmC d k).reach = x.reach := by rw [fmC_at hx]
    by_cases e : q = x.reach
    · rw [if_pos e, e]
      exact ptsF_yes ef
    · rw [if_neg e]
      exact ptsF_no (fun h => e (by rw [← h]; exact ef))
  · refine fldA ?_
    refine ld (.slice A1 n1 c1) (B1.cell rfl) ?_
    refine len ?_
    refine loop_rule (fun k : Nat => [(36, iv (k : Int))]) (fun k u => k ≤ n1 ∧ (∃ S, PtsM w u g (fun r => ptsF d r d.farms.length ++ ptsC d r k) S) ∧ Ext w u ∧ Blk u b1 31 [.string d.name, iv d.hours, iv d.cap, iv d.start, .slice A1 n1 c1, .slice A2 n2 c2, .slice A3 n3 c3, .slice A4 n4 c4, .slice A5 n5 c5, .slice A6 n6 c6] ∧ Blk u b3 78 [.string d.name, iv d.hours, iv d.cap, iv d.start, .slice A1 n1 c1, .slice A2 n2 c2, .slice A3 n3 c3, .slice A4 n4 c4, .slice A5 n5 c5, .slice A6 n6 c6, .map (some g)] ∧ Blk u b2 78 [.string ByteArray.empty, iv 0, iv 0, iv 0, .slice none 0 0, .slice none 0 0, .slice none 0 0, .slice none 0 0, .slice none 0 0, .slice none 0 0, .map none]) (fun k _ => n1 - k) 0 ⟨rfl, trivial⟩ ⟨by omega, ⟨S, by obtain rfl : k = d.farms.length := (by omega); simpa [ptsC] using P⟩, xu, B1, B3, B2⟩ rfl ?_
    rintro G k u ⟨hk, ⟨S, P⟩, xu, B1, B3, B2⟩
    refine cD (fun hlt => ?_) (fun hge => ?_)
    · have hlt : k < n1 := by omega
      obtain ⟨b, o, cs, x, rfl, hx, -, -, hc, rfl⟩ := (hr.ext xu).at_ hlt
      refine idx k rfl hlt ?_
      refine ldA x.c hc rfl ?_
      refine alloc (fun b5 u1 i1 => ?_)
      have y1 := i1.at_
      have q1 := i1.size
      refine stA (vs := x.c) i1.blk rfl (Nat.le_of_ble_eq_true rfl) (by simp [Value.oneCell']) (fun u2 B5 k2 z2 => ?_)
      have xu2 : Ext u u2 := i1.ext.then k2 fun b hb _ e => by omega
      have hl := P.len x.up
      have P2 := P.ext xu2
      have B1 := B1.ext xu2
      have B3 := B3.ext xu2
      have B2 := B2.ext xu2
      have B5 : Blk u2 b5 66 x.c := B5
      obtain ⟨⟨m, Mm, hm⟩, ho, hdj⟩ := P2
      have hlF := ptsF_len (d := d) (r := x.up) (k := d.farms.length)
      have hlF' := ptsF_len (d := d) (r := x.up) (k := k)
      have hlC := ptsC_len (d := d) (r := x.up) (k := k)
      have hl : (S x.up).2.1 ≤ 10000 := by rw [hl]; rw [List.length_append]; omega
      have n3 := ownTy (ho x.up) B3 (by decide)
      have n5 := ownTy (ho x.up) B5 (by decide)
      have n1 := ownTy (ho x.up) B1 (by decide)
      have n2 := ownTy (ho x.up) B2 (by decide)
      have nm := ownMap (ho x.up) Mm
      have hgl := Mm.lt
      have l1 := B1.lt
      have l2 := B2.lt
      have l3 := B3.lt
      refine drawP (.take 0 (.take 1 (.take 2 (.take 3 (.take 4 (.take 5 (.take 6 (.take 7 (.take 8 (.take 9 (.take 10 (.eff 11 (.eff 12 (.bar (.eff 13 .done))))))))))))))) [13] (fun z => Kept (fun b => (S x.up).1 ≠ some (ad b 0)) u2 z) mx (by kernel_rfl) (.refl _ _) ?_
      refine fldA ?_
      refine ldK (.map (some g)) (B3.cell rfl) n3 (.refl _ _) ?_
      refine fldA ?_
      refine ldK (iv x.up) (B5.cell rfl) n5 (.refl _ _) ?_
      refine fldA ?_
      refine ldK (.map (some g)) (B3.cell rfl) n3 (.refl _ _) ?_
      refine fldA ?_
      refine ldK (iv x.up) (B5.cell rfl) n5 (.refl _ _) ?_
      refine lookG1 (kv := kvI) x.up (.slice (S x.up).1 (S x.up).2.1 (S x.up).2.2) (fun z hz => ⟨m, Mm.kept hz nm, hm _⟩) ?_
      refine bld [.bool false, iv (k : Int)] (by kernel_rfl) ?_
      refine lit [.agg #[.bool false, iv (k : Int)]] (fun hg2 u3 hq => ?_)
      refine strS (Ext.any hq.ext) ?_
      refine appF ((ho x.up).then hq.ext) (hq.src (sz := 2) rfl) (by omega) (fun A' c' u4 o4 k4 hA => ?_)
      have k24 : Kept (fun b => (S x.up).1 ≠ some (ad b 0)) u2 u4 := (Ext.any hq.ext).trans k4
      refine strS k24 ?_
      refine barS (fun _ => True) trivial ?_
      have Mm4 := Mm.kept k24 nm
      refine mupdG (kv := kvI) x.up Mm4 (fun u5 M5 k5 z5 => ?_)
      refine strS trivial ?_
      refine arI (by omega) ?_
      have x25 : Ext w u5 := (o4.ext).then k5 fun b hb _ e => by omega
      refine next (k + 1) ⟨by rw [Int.natCast_add]; rfl, trivial⟩ ⟨by omega, PtsM.step (f := fun r => ptsF d r d.farms.length ++ ptsC d r k) (p := (false, k)) x.up ho hdj hm o4 k24 (hA.imp id (Or.imp id fun e => ⟨u3, e, hq.ext⟩)) Mm4 M5 k5 x25 (fun q => ?_), x25, (B1.kept k24 n1).kept k5 (by omega), (B3.kept k24 n3).kept k5 (by omega), (B2.kept k24 n2).kept k5 (by omega)⟩ (by omega)
      have ef : (rcC d k).up = x.up := by rw [rcC_at hx]
      by_cases e : q = x.up
      · rw [if_pos e, e]
        show _ ++ _ = _; rw [ptsC_yes ef, List.append_assoc]
      · rw [if_neg e]
        show _ ++ _ = _; rw [ptsC_no (fun h => e (by rw [← h]; exact ef))]
    · have hkn : k = d.reaches.length := by omega
      refine ldA _ (.blk B3) rfl ?_
      refine stA (vs := [.string d.name, iv d.hours, iv d.cap, iv d.start, .slice A1 n1 c1, .slice A2 n2 c2, .slice A3 n3 c3, .slice A4 n4 c4, .slice A5 n5 c5, .slice A6 n6 c6, .map (some g)]) B2 rfl (Nat.le_of_ble_eq_true rfl) (by simp [Value.oneCell']) (fun u6 B6 k6 z6 => ?_)
      have B6 : Blk u6 b2 78 [.string d.name, iv d.hours, iv d.cap, iv d.start, .slice A1 n1 c1, .slice A2 n2 c2, .slice A3 n3 c3, .slice A4 n4 c4, .slice A5 n5 c5, .slice A6 n6 c6, .map (some g)] := B6
      have l2 := B2.lt
      have hgl := P.map
      refine ret ?_
      refine resL _ (holds_agg (CellsAt.blk B6) rfl) ?_
      have x6 : Ext w u6 := xu.then k6 fun b hb _ e => by omega
      refine ⟨g, rfl, x6, hgw, ?_⟩
      obtain ⟨⟨m, Mm, hm⟩, ho, -⟩ := P
      refine ⟨m, Mm.kept k6 (fun e => by
        obtain ⟨L, q, hE, -⟩ := Mm
        have h1 : u.heap[b2]? = _ := B2
        rw [← e, hE.at_] at h1
        cases h1), fun r => ⟨_, _, _, hm r, ?_, (ho r).le⟩⟩
      have o := (ho r).thenK k6 (fun b hb e => ownTy (ho r) B2 (by decide) (by rw [← e]; exact hb)) x6
      have hl := o.own.len
      rw [cps_len, hkn] at hl
      rw [hkn] at o
      have hp : (ptsF d r d.farms.length ++ ptsC d r d.reaches.length).length ≤ 664 := by
        have := ptsV_len (d := d) (r := r)
        unfold ptsV at this; omega
      exact Own.rd (a := tPt) o.own flat_cps (by unfold ptsV; omega) (by omega) (fun b hb => o.new b hb)
end
end Go.Proofs.Ytmjcaclakggafaa

/- Losses, plainly: what arrives does not decrease with the parcel; the least parcel of which so much arrives, by halving (as in evidence). -/
namespace Go.Proofs.Ytmjcaclakggafaa
open Go Go.RowKit

theorem First.uniq {p : Int → Bool} {lo hi a b : Int} (h : First p lo hi a) (k : First p lo hi b) : a = b := by
  rcases Int.lt_trichotomy a b with h1 | h1 | h1
  · have := k.no a h.le h1
    rw [h.yes (by have := k.ge; omega)] at this; cases this
  · exact h1
  · have := h.no b k.le h1
    rw [k.yes (by have := h.ge; omega)] at this; cases this
def bs (p : Int → Bool) : Nat → Int → Int → Int
  | 0, lo, _ => lo
  | n + 1, lo, hi => if lo < hi then (if p ((lo + hi) / 2) then bs p n lo ((lo + hi) / 2) else bs p n ((lo + hi) / 2 + 1) hi) else lo
theorem bs_first {p : Int → Bool} {a b : Int} (hm : ∀ v v', a ≤ v → v ≤ v' → v' ≤ b → p v = true → p v' = true) : ∀ (n : Nat) {lo hi : Int}, Half p a b lo hi → hi - lo < 2 ^ n → First p a b (bs p n lo hi)
  | 0, lo, hi, h, hn => h.done (by simp at hn; omega)
  | n + 1, lo, hi, h, hn => by
    unfold bs
    have e : (2 : Int) ^ (n + 1) = 2 * 2 ^ n := by rw [Int.pow_succ]; omega
    by_cases hlt : lo < hi
    · rw [if_pos hlt]
      cases hp : p ((lo + hi) / 2) with
      | true => rw [if_pos rfl]; exact bs_first hm n (h.left (by omega) (by omega) hp) (by omega)
      | false => rw [if_neg (by simp)]; exact bs_first hm n (h.right hm (by omega) (by omega) hp) (by omega)
    · rw [if_neg hlt]; exact h.done (by omega)

/-! ### what arrives -/
def arrB (r : Reach) (v : Int) : Int := v - (lostR r v).lo
def arrW (r : Reach) (v : Int) : Int := v - (lostR r v).hi
section
variable {r : Reach} {v v' w : Int}
theorem floor_mono {n d : Int} (hd : 0 < d) (hn : 0 ≤ n) (hnd : n ≤ d) (h : v ≤ v') : v * n / d ≤ v' * n / d ∧ v' * n / d ≤ v * n / d + (v' - v) := by
  have h1 : v * n ≤ v' * n := Int.mul_le_mul_of_nonneg_right h hn
  have h2 : v' * n ≤ v * n + (v' - v) * d := by
    have : (v' - v) * n ≤ (v' - v) * d := Int.mul_le_mul_of_nonneg_left hnd (by omega)
    rw [Int.sub_mul] at this; omega
  refine ⟨Int.ediv_le_ediv hd h1, ?_⟩
  rw [← Int.add_mul_ediv_right _ _ (by omega)]
  exact Int.ediv_le_ediv hd h2
theorem ceil_mono {n d : Int} (hd : 0 < d) (hnd : n ≤ d) (h : v ≤ v') : upI (v' * n) d ≤ upI (v * n) d + (v' - v) := by
  have h2 : v' * n ≤ v * n + (v' - v) * d := by
    have : (v' - v) * n ≤ (v' - v) * d := Int.mul_le_mul_of_nonneg_left hnd (by omega)
    rw [Int.sub_mul] at this; omega
  unfold upI
  rw [← Int.add_mul_ediv_right _ _ (by omega)]
  exact Int.ediv_le_ediv hd (by omega)
theorem lost_eq (hl : lossOk r = true) (hv : 0 ≤ v) : lostR r v = ⟨min v (r.evap.lo + v * r.s0.n / r.s0.d), if v = 0 then 0 else min v (r.evap.hi + upI (v * r.s1.n) r.s1.d)⟩ := by
  obtain ⟨h1, h2⟩ := lossOk_iff.1 hl
  unfold lostR
  by_cases h : v = 0
  · subst h; rw [if_pos rfl, if_pos rfl, Int.zero_mul, Int.zero_ediv]; congr 1; omega
  · rw [if_neg h, if_neg h]
theorem arrB_mono (hl : lossOk r = true) (hv : 0 ≤ v) (h : v ≤ v') : arrB r v ≤ arrB r v' := by
  obtain ⟨h1, h2⟩ := lossOk_iff.1 hl
  obtain ⟨h3, h4, _⟩ := sharesQ_iff.1 h2
  obtain ⟨q1, q2, q3⟩ := shareQ_iff.1 h3
  obtain ⟨d1, -⟩ := qValid_iff.1 q1
  have f := floor_mono (v := v) (v' := v') (show 0 < r.s0.d by omega) q2 q3 h
  unfold arrB
  rw [lost_eq hl hv, lost_eq hl (by omega)]
  show v - min v _ ≤ v' - min v' _
  omega
theorem arrW_mono (hl : lossOk r = true) (hv : 0 ≤ v) (h : v ≤ v') : arrW r v ≤ arrW r v' := by
  obtain ⟨h1, h2⟩ := lossOk_iff.1 hl
  obtain ⟨h3, h4, _⟩ := sharesQ_iff.1 h2
  obtain ⟨q1, q2, q3⟩ := shareQ_iff.1 h4
  obtain ⟨d1, -⟩ := qValid_iff.1 q1
  have f := ceil_mono (v := v) (v' := v') (show 0 < r.s1.d by omega) q3 h
  have s := share_le (v := v') h4 (by omega)
  unfold arrW
  rw [lost_eq hl hv, lost_eq hl (by omega)]
  show v - (if v = 0 then 0 else _) ≤ v' - (if v' = 0 then 0 else _)
  by_cases e : v = 0
  · rw [if_pos e]
    by_cases e' : v' = 0
    · rw [if_pos e']; omega
    · rw [if_neg e']; omega
  · rw [if_neg e, if_neg (by omega)]; omega
theorem arr_le (hl : lossOk r = true) (hv : 0 ≤ v ∧ v ≤ 1073741824) : 0 ≤ arrW r v ∧ arrW r v ≤ arrB r v ∧ arrB r v ≤ v := by
  have h := lost_le hl hv
  obtain ⟨h1, h2⟩ := lossOk_iff.1 hl
  obtain ⟨h3, h4, h5⟩ := sharesQ_iff.1 h2
  have : (lostR r v).lo ≤ (lostR r v).hi := by
    rw [lost_eq hl hv.1]
    show min v _ ≤ if v = 0 then 0 else min v _
    by_cases e : v = 0
    · rw [if_pos e]; omega
    · rw [if_neg e]
      obtain ⟨q1, q2, q3⟩ := shareQ_iff.1 h3
      obtain ⟨q1', q2', q3'⟩ := shareQ_iff.1 h4
      obtain ⟨d1, -⟩ := qValid_iff.1 q1
      obtain ⟨d1', -⟩ := qValid_iff.1 q1'
      have k : v * r.s0.n / r.s0.d ≤ upI (v * r.s1.n) r.s1.d := by
        have a1 : v * r.s0.n / r.s0.d * r.s0.d ≤ v * r.s0.n := Int.ediv_mul_le _ (by omega)
        have a2 : v * r.s1.n ≤ upI (v * r.s1.n) r.s1.d * r.s1.d := by
          have : v * r.s1.n + r.s1.d - 1 < ((v * r.s1.n + r.s1.d - 1) / r.s1.d + 1) * r.s1.d := Int.lt_ediv_add_one_mul_self _ (by omega)
          unfold upI
          rw [Int.add_mul] at this
          omega
        generalize v * r.s0.n / r.s0.d = x at a1
        generalize upI (v * r.s1.n) r.s1.d = y at a2
        have b1 : x * r.s0.d * r.s1.d ≤ v * r.s0.n * r.s1.d := Int.mul_le_mul_of_nonneg_right a1 (by omega)
        have b2 : v * r.s1.n * r.s0.d ≤ y * r.s1.d * r.s0.d := Int.mul_le_mul_of_nonneg_right a2 (by omega)
        have b3 : v * (r.s0.n * r.s1.d) ≤ v * (r.s1.n * r.s0.d) := Int.mul_le_mul_of_nonneg_left h5 hv.1
        have b4 : x * (r.s0.d * r.s1.d) ≤ y * (r.s0.d * r.s1.d) := by
          rw [← Int.mul_assoc, ← Int.mul_assoc] at b3 ⊢
          rw [Int.mul_right_comm y r.s0.d r.s1.d]
          omega
        exact Int.le_of_mul_le_mul_right b4 (Int.mul_pos (by omega) (by omega))
      omega
  unfold arrW arrB
  omega
/-- The least parcel of which w litres arrive at best (at worst), one more than the greatest one if there is none. -/
def lvB (r : Reach) (w : Int) : Int := bs (fun v => decide (w ≤ arrB r v)) 31 0 1073741825
def lvW (r : Reach) (w : Int) : Int := bs (fun v => decide (w ≤ arrW r v)) 31 0 1073741825
theorem lvB_first (hl : lossOk r = true) : First (fun v => decide (w ≤ arrB r v)) 0 1073741825 (lvB r w) :=
  bs_first (fun v v' h1 h2 _ h => by rw [decide_eq_true_eq] at h ⊢; have := arrB_mono hl h1 h2; omega) 31 (Half.start (by omega)) (by decide)
theorem lvW_first (hl : lossOk r = true) : First (fun v => decide (w ≤ arrW r v)) 0 1073741825 (lvW r w) :=
  bs_first (fun v v' h1 h2 _ h => by rw [decide_eq_true_eq] at h ⊢; have := arrW_mono hl h1 h2; omega) 31 (Half.start (by omega)) (by decide)
end
def reachV (r : Reach) (w : Int) : Int × Bool := if lErr r w ≠ 0 then (0, false) else if lvB r w > 1073741824 then (0, false) else (lvB r w, true)
def mostV (r : Reach) (w : Int) : Int := if lErr r w ≠ 0 then 0 else lvW r (w + 1) - 1
end Go.Proofs.Ytmjcaclakggafaa

/- Contracts of sort.Search, losses.least, losses.Need (as in evidence). -/
namespace Go.Proofs.Ytmjcaclakggafaa
open Go Go.RowKit

def needL (r : Reach) (w : Int) : Int × Bool := if lErr r w ≠ 0 then (0, false) else if lvW r w > 1073741824 then (0, false) else (lvW r w, true)
section
variable {D : Nat → Prop} {w : World}
/-- sort.Search with a function that answers p, and leaves alone what was there. -/
theorem c_Search {n : Nat} {p : Int → Bool} {fn : FuncId} {cap : Array Value} [he : Enters Try.prog fn] (hn : n ≤ 4611686018427387904) (hm : ∀ v v' : Int, 0 ≤ v → v ≤ v' → v' ≤ n → p v = true → p v' = true)
    (hc : ∀ (v : Int) (w' : World), 0 ≤ v → v < n → Ext w w' → CallZ Try.prog fn ([iv v] ++ cap.toList).toArray w' (fun u w'' => u = .bool (p v) ∧ Ext w' w'')) :
    CallZ Try.prog 96 #[iv (n : Int), .func (.func fn) #[] cap] w (fun v w' => ∃ k : Int, v = iv k ∧ First p 0 n k ∧ Ext w w') := by
  refine fn_rule (args := [iv (n : Int), .func (.func fn) #[] cap]) Try.func96 (by kernel_rfl) ?_
  refine loop2 (fun (lo hi : Int) => [(5, iv lo), (6, iv hi)]) (fun lo hi w' => Half p 0 n lo hi ∧ Ext w w') (fun lo hi _ => (hi - lo).toNat) 0 (n : Int) ⟨rfl, rfl, trivial⟩ ⟨Half.start (by omega), .refl _ _⟩ rfl ?_
  rintro G lo hi w' ⟨h, xw⟩
  have h1 := h.a_lo
  have h2 := h.lo_hi
  have h3 := h.hi_b
  refine cD (fun hlt => ?_) (fun hge => ?_)
  · refine arI (by omega) ?_
    obtain ⟨s, hs⟩ : ∃ s : Nat, lo + hi = (s : Int) := ⟨(lo + hi).toNat, by omega⟩
    refine convU (n := s) (by omega) (by omega) ?_
    refine shrR (by decide) ?_
    refine conv (k := .i64) ?_
    have e : IntKind.i64.wrap (((s : Int)).fdiv (2 ^ (min (1 : Int).toNat IntKind.u64.bits))) = (lo + hi) / 2 := by
      rw [show (2 : Int) ^ (min (1 : Int).toNat IntKind.u64.bits) = 2 by decide, Int.fdiv_eq_ediv_of_nonneg _ (by omega), i64_wrap_id (by omega), hs]
    rw [e]
    obtain ⟨m, hmm⟩ : ∃ m, m = (lo + hi) / 2 := ⟨_, rfl⟩
    rw [← hmm]
    refine callE (hc m w' (by omega) (by omega) xw) (fun w2 hp x2 => ?_) (fun w2 hp x2 => ?_)
    · exact next2 lo m ⟨rfl, rfl, trivial⟩ ⟨h.left (by omega) (by omega) hp, xw.trans x2⟩ (by omega)
    · refine arI (by omega) ?_
      exact next2 (m + 1) hi ⟨rfl, rfl, trivial⟩ ⟨h.right hm (by omega) (by omega) hp, xw.trans x2⟩ (by omega)
  · exact ret1 (iv lo) rfl ⟨lo, rfl, h.done (by omega), xw⟩
/-- A function that a closure holds, which answers g and leaves alone what was there. -/
def Fun1 (fn : FuncId) (cap : Array Value) (w : World) (g : Int → Int) : Prop := ∀ (v : Int) (w' : World), 0 ≤ v → v ≤ 1073741824 → Ext w w' → CallZ Try.prog fn ([iv v] ++ cap.toList).toArray w' (fun u w'' => u = iv (g v) ∧ Ext w' w'')
theorem c_lleast1 {fn : FuncId} {cap : Array Value} [he : Enters Try.prog fn] {g : Int → Int} {ba bw : Nat} {t : TypeId} {w0 : World} {v x : Int} (hc : Fun1 fn cap w0 g) (hx : Ext w0 w) (hv : 0 ≤ v ∧ v ≤ 1073741824)
    (h1 : Blk w ba t [.func (.func fn) #[] cap]) (h2 : Blk w bw 3 [iv x]) : CallZ Try.prog 97 #[iv v, ptr ba, ptr bw] w (fun u w' => u = .bool (decide (g v > x)) ∧ Ext w w') := by
  refine fn_rule (args := [iv v, ptr ba, ptr bw]) Try.func97 (by kernel_rfl) ?_
  refine drawK (fun _ => True) [0, 1, 3, 2, 4, 5] [2] mx (by kernel_rfl) ?_
  refine ldK (.func (.func fn) #[] cap) (h1.cell rfl) trivial (.refl _ _) ?_
  refine ldK (iv x) (h2.cell rfl) trivial (.refl _ _) ?_
  refine call_of (hc v w hv.1 hv.2 hx) ?_
  rintro _ w2 ⟨rfl, x2⟩
  refine strK x2 ?_
  refine cD (fun q => ?_) (fun q => ?_)
  · exact ret1 (.bool true) rfl ⟨by rw [decide_eq_true q], x2⟩
  · exact ret1 (.bool false) rfl ⟨by rw [decide_eq_false q], x2⟩
theorem c_lleast {fn : FuncId} {cap : Array Value} [he : Enters Try.prog fn] {g : Int → Int} {x : Int} (hc : Fun1 fn cap w g) (hm : ∀ v v', 0 ≤ v → v ≤ v' → g v ≤ g v') :
    CallZ Try.prog 79 #[iv x, .func (.func fn) #[] cap] w (fun u w' => ∃ k : Int, u = iv k ∧ First (fun v => decide (g v > x)) 0 1073741825 k ∧ Ext w w') := by
  refine fn_rule (args := [iv x, .func (.func fn) #[] cap]) Try.func79 (by kernel_rfl) ?_
  refine box (fun bw w1 h1 => ?_)
  refine box (fun ba w2 h2 => ?_)
  have x2 := h1.ext.trans h2.ext
  refine call_of (c_Search (fn := 97) (cap := #[ptr ba, ptr bw]) (n := 1073741825) (p := fun v => decide (g v > x)) (by omega) (fun v v' h0 h1 _ h => by rw [decide_eq_true_eq] at h ⊢; have := hm v v' h0 h1; omega)
    (fun v w' hv0 hv1 xw => c_lleast1 hc (x2.trans xw) ⟨hv0, by omega⟩ (h2.blk.ext xw) ((h1.blk.ext h2.ext).ext xw))) ?_
  rintro _ w3 ⟨k, rfl, hk, x3⟩
  exact ret1 (iv k) rfl ⟨k, rfl, hk, x2.trans x3⟩
theorem c_lNeed1 {r : Reach} {b : Nat} {t : TypeId} {v : Int} (hok : lossOk r = true) (hv : 0 ≤ v ∧ v ≤ 1073741824) (hb : Blk w b t r.c) : CallZ Try.prog 80 #[iv v, ptr b] w (fun u w' => u = iv (arrW r v) ∧ Ext w w') := by
  refine fn_rule (args := [iv v, ptr b]) Try.func80 (by kernel_rfl) ?_
  refine ldA _ (.blk hb) rfl ?_
  refine call_of (c_llost hok hv) ?_
  rintro _ w2 ⟨rfl, x2⟩
  have h := lost_le hok hv
  refine fldV (cs := [iv (lostR r v).lo, iv (lostR r v).hi]) (iv (lostR r v).hi) rfl ?_
  refine arI (by omega) ?_
  exact ret1 (iv (v - (lostR r v).hi)) rfl ⟨rfl, x2⟩
theorem c_lNeed {r : Reach} {x : Int} : CallZ Try.prog 67 #[r.v, iv x] w (fun u w' => u = .tuple #[iv (needL r x).1, .bool (needL r x).2, iv (lErr r x)] ∧ Ext w w') := by
  refine fn_rule (args := [.agg #[.string r.name, iv r.up, iv r.delay, iv r.cap, iv r.bank, iv r.siphon, iv r.evap.lo, iv r.evap.hi, iv r.s0.n, iv r.s0.d, iv r.s1.n, iv r.s1.d], iv x]) Try.func67 (by kernel_rfl) ?_
  refine box (fun b w1 h1 => ?_)
  refine ldA r.c (.blk h1.blk) rfl ?_
  refine call_of c_lvalid ?_
  rintro _ w2 ⟨rfl, x2⟩
  refine cN (fun he => ?_) (fun he => ?_)
  · exact ret3 (iv 0) (.bool false) (iv (lErr r x)) rfl rfl rfl ⟨by unfold needL; rw [if_pos he], h1.ext.trans x2⟩
  have he : lErr r x = 0 := he
  obtain ⟨hok, hx⟩ := lErr_ok.1 he
  refine arI (by omega) ?_
  refine call_of (c_lleast (fn := 80) (cap := #[ptr b]) (g := arrW r) (x := x - 1) (fun v w' h0 h2 xw => c_lNeed1 hok ⟨h0, h2⟩ ((h1.blk.ext x2).ext xw)) (fun v v' h0 h => arrW_mono hok h0 h)) ?_
  rintro _ w3 ⟨k, rfl, hk, x3⟩
  have e : (fun v => decide (arrW r v > x - 1)) = fun v => decide (x ≤ arrW r v) := funext fun v => decide_eq_decide.2 ⟨fun h => by omega, fun h => by omega⟩
  rw [e] at hk
  obtain rfl := hk.uniq (lvW_first hok)
  have xx := (h1.ext.trans x2).trans x3
  refine cD (fun q => ?_) (fun q => ?_)
  · exact ret3 (iv 0) (.bool false) (iv 0) rfl rfl rfl ⟨by unfold needL; rw [if_neg (by simp [he]), if_pos q, he], xx⟩
  · exact ret3 (iv (lvW r x)) (.bool true) (iv 0) rfl rfl rfl ⟨by unfold needL; rw [if_neg (by simp [he]), if_neg q, he], xx⟩
end
end Go.Proofs.Ytmjcaclakggafaa

/- Layer 41, plainly: the claims of the parts, the needs, and what a division is. -/
namespace Go.Proofs.Ytmjcaclakggafaa
open Go Go.RowKit

/-- The claim of a part. -/
def clP (cl hs : List Int) (p : Pt) : Int := if p.1 then clA cl p.2 else clA hs p.2
def clmV (d : Dist) (cl hs : List Int) (r : Nat) : List Int := (ptsV d r).map (clP cl hs)
/-- What a reach needs, if so much is claimed at its end. -/
def needV (x : Reach) (total : Int) : Option Int :=
  if total = 0 then some 0 else if total > 1073741824 then none else if lvW x total > 1073741824 then none else some (max (lvW x total) x.siphon)
/-- The needs, after k reaches, from the leaves. -/
def needsN (d : Dist) (cl : List Int) : Nat → Option (List Int)
  | 0 => some (List.replicate d.reaches.length 0)
  | k + 1 => match needsN d cl k with
    | none => none
    | some hs => match needV (rcC d (d.reaches.length - 1 - k)) (isum (clmV d cl hs (d.reaches.length - 1 - k))) with
      | none => none
      | some v => some (hs.set (d.reaches.length - 1 - k) v)
def needsV (d : Dist) (cl : List Int) : Option (List Int) := needsN d cl d.reaches.length
def claimOk (d : Dist) (cl : List Int) : Bool := decide (cl.length = d.farms.length) && cl.all okC
def divErr (d : Dist) (cl : List Int) : Int := if dErr d ≠ 0 then dErr d else if claimOk d cl then 0 else 410
/-- What enters a reach. -/
def cut (d : Dist) (r : Nat) (n : Int) : Int := if n < (rcC d r).siphon then 0 else n
def workV (d : Dist) (cl hs hd : List Int) (r : Nat) : Int := min (arrW (rcC d r) (clA hd r)) (isum (clmV d cl hs r))
def Mk0 : Mk := Mk.none
def mkA (l : List Mk) (i : Nat) : Mk := l.getD i Mk.none
/-- What is divided at the end of a reach. -/
structure DivAt (d : Dist) (cl hs hd aw : List Int) (mk : List Mk) (r : Nat) : Prop where
  mark : MarkOf (workV d cl hs hd r) (clmV d cl hs r) (mkA mk r)
  farm : ∀ k i, (ptsV d r)[k]? = some (true, i) → clA aw i = ownV (mkA mk r) (clA (clmV d cl hs r) k) k
  child : ∀ k i, (ptsV d r)[k]? = some (false, i) → clA hd i = cut d i (ownV (mkA mk r) (clA (clmV d cl hs r) k) k)
/-- A division. -/
structure DivV (d : Dist) (cl hs : List Int) (E : Int) (hd aw : List Int) (mk : List Mk) : Prop where
  lh : hd.length = d.reaches.length
  la : aw.length = d.farms.length
  lm : mk.length = d.reaches.length
  top : clA hd 0 = cut d 0 (min E (clA hs 0))
  at_ : ∀ r, r < d.reaches.length → DivAt d cl hs hd aw mk r
end Go.Proofs.Ytmjcaclakggafaa

/- Layer 41, plainly: what a division keeps. -/
namespace Go.Proofs.Ytmjcaclakggafaa
open Go Go.RowKit

structure Val (d : Dist) : Prop where
  n : 0 < d.reaches.length ∧ d.reaches.length ≤ 64
  f : d.farms.length ≤ 600
  up0 : (rcC d 0).up = -1
  up : ∀ k, 0 < k → k < d.reaches.length → 0 ≤ (rcC d k).up ∧ (rcC d k).up < k
  rc : ∀ k, k < d.reaches.length → reachOk (rcC d k) = true
  fm : ∀ i, i < d.farms.length → 0 ≤ (fmC d i).reach ∧ (fmC d i).reach < d.reaches.length
theorem val_of {d : Dist} (h : dErr d = 0) : Val d := by
  unfold dErr at h
  cases h1 : tooMany d with
  | true => rw [h1] at h; cases h
  | false =>
    rw [h1] at h
    cases h2 : validB d with
    | false => rw [h2] at h; cases h
    | true =>
      obtain ⟨a1, a2, -, a4, -⟩ := validB_iff.1 h2
      obtain ⟨-, -, -, a5⟩ := headOk_iff.1 a1
      unfold tooMany at h1
      simp only [Bool.not_eq_false', Bool.and_eq_true, decide_eq_true_eq] at h1
      have hu : ∀ k, k < d.reaches.length → upOk k (rcC d k).up = true ∧ reachOk (rcC d k) = true := fun k hk => by
        have e := List.getElem?_eq_getElem hk
        rw [rcC_at e]
        have := reachesB_up a2 e
        rwa [Nat.zero_add] at this
      refine ⟨⟨a5, h1.1⟩, h1.2.1, ?_, fun k h0 hk => ?_, fun k hk => (hu k hk).2, fun i hi => ?_⟩
      · have := (hu 0 a5).1
        unfold upOk at this
        rw [if_pos rfl] at this
        exact of_decide_eq_true this
      · have := (hu k hk).1
        unfold upOk at this
        rw [if_neg (by omega)] at this
        have := inI_iff.1 this
        omega
      · have e := List.getElem?_eq_getElem hi
        rw [fmC_at e]
        have := List.all_eq_true.1 a4 _ (List.mem_of_getElem? e)
        unfold farmOk at this
        simp only [Bool.and_eq_true] at this
        have := inI_iff.1 this.2.1
        omega
section
variable {d : Dist} {cl hs hd aw : List Int} {mk : List Mk} {E : Int}
theorem claimOk_iff : claimOk d cl = true ↔ cl.length = d.farms.length ∧ OkL cl := by
  unfold claimOk okC
  simp only [Bool.and_eq_true, decide_eq_true_eq, List.all_eq_true]
theorem divErr_ok : divErr d cl = 0 ↔ dErr d = 0 ∧ claimOk d cl = true := by
  unfold divErr
  by_cases h : dErr d = 0
  · rw [if_neg (by simp [h])]
    cases claimOk d cl <;> simp [h]
  · rw [if_pos h]; simp [h]
theorem Val.loss (v : Val d) {r : Nat} (hr : r < d.reaches.length) : lossOk (rcC d r) = true ∧ 0 ≤ (rcC d r).siphon ∧ (rcC d r).siphon ≤ 1073741824 := by
  obtain ⟨-, h1, -, h2, h3⟩ := reachOk_iff.1 (v.rc r hr)
  exact ⟨h3, by omega, by omega⟩
/-- The child's reach lies behind. -/
theorem Val.child (v : Val d) {r j : Nat} (h : (false, j) ∈ ptsV d r) : r < j ∧ j < d.reaches.length := by
  rcases mem_ptsV.1 h with h | h
  · cases h.1
  · obtain ⟨-, h2, h3⟩ := h
    by_cases h0 : j = 0
    · subst h0; have := v.up0; simp only at h3; omega
    · have := v.up j (by omega) h2
      simp only at h3; omega
theorem clA_set {l : List Int} {i j : Nat} {x : Int} (hi : i < l.length) : clA (l.set i x) j = if i = j then x else clA l j := by
  unfold clA
  rw [List.getD_eq_getElem?_getD, List.getElem?_set]
  by_cases h : i = j
  · rw [if_pos h, if_pos h, if_pos hi]; rfl
  · rw [if_neg h, if_neg h, ← List.getD_eq_getElem?_getD]
theorem clmV_set (v : Val d) {r i : Nat} {x : Int} (h : i ≤ r) (hi : i < hs.length) : clmV d cl (hs.set i x) r = clmV d cl hs r := by
  unfold clmV
  refine List.map_congr_left fun p hp => ?_
  unfold clP
  obtain ⟨b, j⟩ := p
  cases b with
  | true => rfl
  | false =>
    have := (v.child hp).1
    show clA (hs.set i x) j = clA hs j
    rw [clA_set hi, if_neg (by omega)]
theorem okL_zero {n : Nat} : OkL (List.replicate n 0) := fun c hc => by rw [List.eq_of_mem_replicate hc]; omega
theorem clA_ok {l : List Int} (h : OkL l) (i : Nat) : 0 ≤ clA l i ∧ clA l i ≤ 1073741824 := by
  by_cases hi : i < l.length
  · exact clA_b h hi
  · unfold clA; rw [List.getD_eq_getElem?_getD, List.getElem?_eq_none (by omega)]; exact ⟨Int.le_refl _, by decide⟩
theorem clmV_ok (h1 : OkL cl) (h2 : OkL hs) (r : Nat) : OkL (clmV d cl hs r) := fun c hc => by
  obtain ⟨p, -, rfl⟩ := List.mem_map.1 hc
  unfold clP
  split
  · exact clA_ok h1 _
  · exact clA_ok h2 _
theorem clmV_len {r : Nat} : (clmV d cl hs r).length = (ptsV d r).length := List.length_map _
theorem Val.len (v : Val d) {r : Nat} : (clmV d cl hs r).length ≤ 664 := by
  rw [clmV_len]; have := ptsV_len (d := d) (r := r); have := v.n; have := v.f; omega
theorem needV_b (x : Reach) (total : Int) (hx : 0 ≤ x.siphon ∧ x.siphon ≤ 1073741824) (hl : lossOk x = true) {u : Int} (h : needV x total = some u) : 0 ≤ u ∧ u ≤ 1073741824 ∧ (u = 0 ∨ x.siphon ≤ u) ∧ (0 ≤ total → total ≤ arrW x u) := by
  unfold needV at h
  have hf := lvW_first (w := total) hl
  split at h
  · injection h with h; subst h
    have := arr_le hl (v := 0) (by omega)
    omega
  · split at h
    · cases h
    · split at h
      · cases h
      · injection h with h; subst h
        have h1 := hf.le
        refine ⟨by omega, by omega, .inr (by omega), fun _ => ?_⟩
        have h2 := hf.yes (by omega)
        rw [decide_eq_true_eq] at h2
        have := arrW_mono hl h1 (show lvW x total ≤ max (lvW x total) x.siphon by omega)
        omega
theorem needsN_ok (v : Val d) : ∀ (k : Nat) {hs : List Int}, k ≤ d.reaches.length → needsN d cl k = some hs → hs.length = d.reaches.length ∧ OkL hs ∧ ∀ r, d.reaches.length - k ≤ r → r < d.reaches.length → needV (rcC d r) (isum (clmV d cl hs r)) = some (clA hs r)
  | 0, hs, _, h => by
    unfold needsN at h
    injection h with h; subst h
    exact ⟨List.length_replicate .., okL_zero, fun r h1 h2 => by omega⟩
  | k + 1, hs, hk, h => by
    unfold needsN at h
    cases h1 : needsN d cl k with
    | none => rw [h1] at h; cases h
    | some hs0 =>
      rw [h1] at h
      obtain ⟨e1, e2, e3⟩ := needsN_ok v k (by omega) h1
      dsimp only at h
      cases h2 : needV (rcC d (d.reaches.length - 1 - k)) (isum (clmV d cl hs0 (d.reaches.length - 1 - k))) with
      | none => rw [h2] at h; cases h
      | some u =>
        rw [h2] at h
        injection h with h; subst h
        obtain ⟨j, hj⟩ : ∃ j, j = d.reaches.length - 1 - k := ⟨_, rfl⟩
        rw [← hj] at h2 ⊢
        have hjl : j < hs0.length := by omega
        obtain ⟨l1, l2, l3⟩ := v.loss (r := j) (by omega)
        obtain ⟨b1, b2, -⟩ := needV_b _ _ ⟨l2, l3⟩ l1 h2
        refine ⟨by rw [List.length_set]; exact e1, fun c hc => ?_, fun r hr hr2 => ?_⟩
        · rcases List.mem_or_eq_of_mem_set hc with hc | rfl
          · exact e2 c hc
          · exact ⟨b1, b2⟩
        · rw [clmV_set v (by omega) hjl, clA_set hjl]
          by_cases q : j = r
          · subst q; rw [if_pos rfl]; exact h2
          · rw [if_neg q]; exact e3 r (by omega) hr2
theorem needsV_ok (v : Val d) (h : needsV d cl = some hs) : hs.length = d.reaches.length ∧ OkL hs ∧ ∀ r, r < d.reaches.length → needV (rcC d r) (isum (clmV d cl hs r)) = some (clA hs r) := by
  obtain ⟨h1, h2, h3⟩ := needsN_ok v _ (Nat.le_refl _) h
  exact ⟨h1, h2, fun r hr => h3 r (by omega) hr⟩
/-- What is known of a right district, right claims, and their needs. -/
structure Rdy (d : Dist) (cl hs : List Int) : Prop where
  v : Val d
  okc : OkL cl
  lc : cl.length = d.farms.length
  okh : OkL hs
  lh : hs.length = d.reaches.length
  nd : ∀ r, r < d.reaches.length → needV (rcC d r) (isum (clmV d cl hs r)) = some (clA hs r)
theorem rdy_of (h : divErr d cl = 0) (hn : needsV d cl = some hs) : Rdy d cl hs := by
  obtain ⟨h1, h2⟩ := divErr_ok.1 h
  have v := val_of h1
  obtain ⟨a1, a2, a3⟩ := needsV_ok v hn
  obtain ⟨b1, b2⟩ := claimOk_iff.1 h2
  exact ⟨v, b2, b1, a2, a1, a3⟩
theorem Rdy.sum (R : Rdy d cl hs) (r : Nat) : 0 ≤ isum (clmV d cl hs r) ∧ isum (clmV d cl hs r) ≤ 664 * 1073741824 := by
  have h := isum_b (clmV_ok (d := d) R.okc R.okh r)
  have := R.v.len (cl := cl) (hs := hs) (r := r)
  refine ⟨h.1, Int.le_trans h.2 ?_⟩
  have : ((clmV d cl hs r).length : Int) ≤ 664 := by omega
  omega
theorem Rdy.work (R : Rdy d cl hs) {r : Nat} (hr : r < d.reaches.length) (hh : 0 ≤ clA hd r ∧ clA hd r ≤ 1073741824) : tErr (workV d cl hs hd r) (clmV d cl hs r) = 0 ∧ 0 ≤ workV d cl hs hd r ∧ workV d cl hs hd r ≤ arrW (rcC d r) (clA hd r) ∧ workV d cl hs hd r ≤ isum (clmV d cl hs r) := by
  have h1 := arr_le (R.v.loss hr).1 hh
  have h2 := R.sum r
  have h3 := R.v.len (cl := cl) (hs := hs) (r := r)
  have h4 := clmV_ok (d := d) R.okc R.okh r
  have h5 : 0 ≤ workV d cl hs hd r ∧ workV d cl hs hd r ≤ arrW (rcC d r) (clA hd r) ∧ workV d cl hs hd r ≤ isum (clmV d cl hs r) := by unfold workV; omega
  refine ⟨?_, h5⟩
  unfold tErr
  rw [if_neg (by omega), if_pos]
  rw [Bool.and_eq_true, decide_eq_true_eq, List.all_eq_true]
  refine ⟨fun c hc => ?_, h5.1, h5.2.2⟩
  unfold okC
  exact decide_eq_true (h4 c hc)
theorem cut_b {r : Nat} {n : Int} (h : 0 ≤ n) : 0 ≤ cut d r n ∧ cut d r n ≤ n ∧ (cut d r n = 0 ∨ (rcC d r).siphon ≤ cut d r n) := by unfold cut; split <;> omega
theorem cut_mono {r : Nat} {n m : Int} (h0 : 0 ≤ n) (h : n ≤ m) : cut d r n ≤ cut d r m := by unfold cut; split <;> split <;> omega
theorem pt_at {r k : Nat} {p : Pt} (h : (ptsV d r)[k]? = some p) : clA (clmV d cl hs r) k = clP cl hs p ∧ k < (clmV d cl hs r).length := by
  refine ⟨clA_at ?_, ?_⟩
  · unfold clmV; rw [List.getElem?_map, h]; rfl
  · rw [clmV_len]; exact (List.getElem?_eq_some_iff.1 h).1
theorem Val.farm (v : Val d) {i : Nat} (hi : i < d.farms.length) : ∃ r k : Nat, r < d.reaches.length ∧ (fmC d i).reach = r ∧ (ptsV d r)[k]? = some (true, i) := by
  obtain ⟨h1, h2⟩ := v.fm i hi
  have hm : (true, i) ∈ ptsV d ((fmC d i).reach.toNat : Nat) := mem_ptsV.2 (.inl ⟨rfl, hi, by simp only; omega⟩)
  obtain ⟨k, hk⟩ := List.getElem?_of_mem hm
  exact ⟨_, k, by omega, by omega, hk⟩
theorem Val.par (v : Val d) {j : Nat} (h0 : 0 < j) (hj : j < d.reaches.length) : ∃ r k : Nat, r < j ∧ (ptsV d r)[k]? = some (false, j) := by
  obtain ⟨h1, h2⟩ := v.up j h0 hj
  have hm : (false, j) ∈ ptsV d ((rcC d j).up.toNat : Nat) := mem_ptsV.2 (.inr ⟨rfl, hj, by simp only; omega⟩)
  obtain ⟨k, hk⟩ := List.getElem?_of_mem hm
  exact ⟨_, k, by omega, hk⟩
variable {E' : Int} {hd' aw' : List Int} {mk' : List Mk}
/-- The heads: none is more than the need. -/
theorem DivV.head (D : DivV d cl hs E hd aw mk) (R : Rdy d cl hs) (hE : 0 ≤ E) : ∀ (r : Nat), r < d.reaches.length → 0 ≤ clA hd r ∧ clA hd r ≤ clA hs r ∧ (clA hd r = 0 ∨ (rcC d r).siphon ≤ clA hd r) := by
  intro r
  induction r using Nat.strongRecOn with
  | ind r ih =>
    intro hr
    by_cases h0 : r = 0
    · subst h0
      rw [D.top]
      have := clA_ok R.okh 0
      have := cut_b (d := d) (r := 0) (n := min E (clA hs 0)) (by omega)
      omega
    · obtain ⟨p, k, hp, hk⟩ := R.v.par (by omega) hr
      have ip := ih p hp (by omega)
      have hb := clA_ok R.okh p
      obtain ⟨he, -⟩ := R.work (hd := hd) (r := p) (by omega) (by omega)
      have A := (D.at_ p (by omega)).mark.awd he
      obtain ⟨e1, e2⟩ := pt_at (cl := cl) (hs := hs) hk
      have b := A.b k e2
      rw [(D.at_ p (by omega)).child k r hk]
      have := cut_b (d := d) (r := r) b.1
      have e3 : clA (clmV d cl hs p) k = clA hs r := e1
      rw [e3] at b this ⊢
      omega
theorem DivV.ok (D : DivV d cl hs E hd aw mk) (R : Rdy d cl hs) (hE : 0 ≤ E) {r : Nat} (hr : r < d.reaches.length) : 0 ≤ clA hd r ∧ clA hd r ≤ 1073741824 := by
  have := D.head R hE r hr; have := clA_ok R.okh r; omega
/-- The awards at the end of a reach. -/
theorem DivV.awd (D : DivV d cl hs E hd aw mk) (R : Rdy d cl hs) (hE : 0 ≤ E) {r : Nat} (hr : r < d.reaches.length) : Awd (clmV d cl hs r) (workV d cl hs hd r) (fun i => ownV (mkA mk r) (clA (clmV d cl hs r) i) i) :=
  (D.at_ r hr).mark.awd (R.work hr (D.ok R hE hr)).1
/-- A division is what it is. -/
theorem DivV.uniq (D : DivV d cl hs E hd aw mk) (D' : DivV d cl hs E hd' aw' mk') (R : Rdy d cl hs) (_hE : 0 ≤ E) : hd = hd' ∧ aw = aw' ∧ mk = mk' := by
  have hh : ∀ (r : Nat), r < d.reaches.length → clA hd r = clA hd' r ∧ mkA mk r = mkA mk' r := by
    intro r
    induction r using Nat.strongRecOn with
    | ind r ih =>
      intro hr
      have e1 : clA hd r = clA hd' r := by
        by_cases h0 : r = 0
        · subst h0; rw [D.top, D'.top]
        · obtain ⟨p, k, hp, hk⟩ := R.v.par (by omega) hr
          rw [(D.at_ p (by omega)).child k r hk, (D'.at_ p (by omega)).child k r hk, (ih p hp (by omega)).2]
      refine ⟨e1, ?_⟩
      have h1 := (D.at_ r hr).mark
      have h2 := (D'.at_ r hr).mark
      unfold workV at h1 h2
      rw [e1] at h1
      exact h1.uniq h2
  have ext : ∀ {l l' : List Int} {n : Nat}, l.length = n → l'.length = n → (∀ i, i < n → clA l i = clA l' i) → l = l' := fun {l l' n} h1 h2 h => by
    refine List.ext_getElem (by omega) fun i q1 q2 => ?_
    have := h i (by omega)
    rwa [clA_at (List.getElem?_eq_getElem q1), clA_at (List.getElem?_eq_getElem q2)] at this
  refine ⟨ext D.lh D'.lh fun r hr => (hh r hr).1, ext D.la D'.la fun i hi => ?_, List.ext_getElem (by rw [D.lm, D'.lm]) fun i q1 q2 => ?_⟩
  · obtain ⟨r, k, hr, -, hk⟩ := R.v.farm hi
    rw [(D.at_ r hr).farm k i hk, (D'.at_ r hr).farm k i hk, (hh r hr).2]
  · have := (hh i (by rw [← D.lm]; exact q1)).2
    unfold mkA at this
    rwa [List.getD_eq_getElem?_getD, List.getD_eq_getElem?_getD, List.getElem?_eq_getElem q1, List.getElem?_eq_getElem q2] at this
/-- With more no farm gets less. -/
theorem DivV.more (D : DivV d cl hs E hd aw mk) (D' : DivV d cl hs E' hd' aw' mk') (R : Rdy d cl hs) (hE : 0 ≤ E) (hEE : E ≤ E') : ∀ i, i < d.farms.length → clA aw i ≤ clA aw' i := by
  have hE' : 0 ≤ E' := by omega
  have wm : ∀ r, r < d.reaches.length → clA hd r ≤ clA hd' r → workV d cl hs hd r ≤ workV d cl hs hd' r := fun r hr h => by
    have := arrW_mono (R.v.loss hr).1 (D.ok R hE hr).1 h
    unfold workV; omega
  have hh : ∀ (r : Nat), r < d.reaches.length → clA hd r ≤ clA hd' r := by
    intro r
    induction r using Nat.strongRecOn with
    | ind r ih =>
      intro hr
      by_cases h0 : r = 0
      · subst h0
        rw [D.top, D'.top]
        have := clA_ok R.okh 0
        exact cut_mono (by omega) (by omega)
      · obtain ⟨p, k, hp, hk⟩ := R.v.par (by omega) hr
        have hp' : p < d.reaches.length := by omega
        rw [(D.at_ p hp').child k r hk, (D'.at_ p hp').child k r hk]
        have A := D.awd R hE hp'
        have A' := D'.awd R hE' hp'
        have hk2 := (pt_at (cl := cl) (hs := hs) hk).2
        exact cut_mono (A.b k hk2).1 (A.mono A' (wm p hp' (ih p hp hp')) k hk2)
  intro i hi
  obtain ⟨r, k, hr, -, hk⟩ := R.v.farm hi
  rw [(D.at_ r hr).farm k i hk, (D'.at_ r hr).farm k i hk]
  exact (D.awd R hE hr).mono (D'.awd R hE' hr) (wm r hr (hh r hr)) k (pt_at (cl := cl) (hs := hs) hk).2
/-- Whoever is awarded all has its claim. -/
theorem Awd.all {l : List Int} {E : Int} {a : Nat → Int} (h : Awd l E a) (he : E = isum l) : ∀ i, i < l.length → a i = clA l i := fun i hi => by
  by_cases q : a i = clA l i
  · exact q
  exfalso
  have hb := h.b i hi
  have := sumN_lt (f := a) (g := clA l) (n := l.length) (fun j hj => (h.b j hj).2) ⟨i, hi, by omega⟩
  rw [h.s, clA_sum] at this
  omega
/-- Nobody gets more than its claim; with enough everybody gets it. -/
theorem DivV.met (D : DivV d cl hs E hd aw mk) (R : Rdy d cl hs) (hE : 0 ≤ E) : ∀ i, i < d.farms.length → 0 ≤ clA aw i ∧ clA aw i ≤ clA cl i ∧ (clA hs 0 ≤ E → clA aw i = clA cl i) := by
  have full : clA hs 0 ≤ E → ∀ (r : Nat), r < d.reaches.length → clA hd r = clA hs r ∧ workV d cl hs hd r = isum (clmV d cl hs r) := by
    intro hq r
    induction r using Nat.strongRecOn with
    | ind r ih =>
      intro hr
      have nb : ∀ j, j < d.reaches.length → 0 ≤ clA hs j ∧ (clA hs j = 0 ∨ (rcC d j).siphon ≤ clA hs j) ∧ isum (clmV d cl hs j) ≤ arrW (rcC d j) (clA hs j) := fun j hj => by
        obtain ⟨l1, l2, l3⟩ := R.v.loss hj
        obtain ⟨b1, -, b3, b4⟩ := needV_b _ _ ⟨l2, l3⟩ l1 (R.nd j hj)
        exact ⟨b1, b3, b4 (R.sum j).1⟩
      have e : clA hd r = clA hs r := by
        by_cases h0 : r = 0
        · subst h0
          rw [D.top]
          have := nb 0 hr
          unfold cut; split <;> omega
        · obtain ⟨p, k, hp, hk⟩ := R.v.par (by omega) hr
          have hp' : p < d.reaches.length := by omega
          obtain ⟨e1, e2⟩ := pt_at (cl := cl) (hs := hs) hk
          rw [(D.at_ p hp').child k r hk, (D.awd R hE hp').all (ih p hp hp').2 k e2, e1]
          show cut d r (clA hs r) = clA hs r
          have := nb r hr
          unfold cut; split <;> omega
      refine ⟨e, ?_⟩
      have := nb r hr
      unfold workV
      rw [e]; omega
  intro i hi
  obtain ⟨r, k, hr, -, hk⟩ := R.v.farm hi
  obtain ⟨e1, e2⟩ := pt_at (cl := cl) (hs := hs) hk
  have e3 : clA (clmV d cl hs r) k = clA cl i := e1
  rw [(D.at_ r hr).farm k i hk]
  have A := D.awd R hE hr
  have b := A.b k e2
  rw [e3] at b
  refine ⟨by rw [e3]; exact b.1, by rw [e3]; exact b.2, fun hq => ?_⟩
  rw [A.all (full hq r hr).2 k e2, e3]
end
end Go.Proofs.Ytmjcaclakggafaa

/- Layer 41, plainly: what the parts of a reach got; equal claims at the reach 0. -/
namespace Go.Proofs.Ytmjcaclakggafaa
open Go Go.RowKit

theorem pw_len : ∀ {I : List Nat} {n lo : Nat}, I.Pairwise (· < ·) → (∀ i ∈ I, lo ≤ i ∧ i < n) → I.length ≤ n - lo
  | [], _, _, _, _ => by simp
  | a :: t, n, lo, hp, h => by
    obtain ⟨h1, h2⟩ := List.pairwise_cons.1 hp
    have ha := h a List.mem_cons_self
    have := pw_len (n := n) (lo := a + 1) h2 fun i hi => ⟨h1 i hi, (h i (List.mem_cons_of_mem _ hi)).2⟩
    rw [List.length_cons]
    omega
section
variable {d : Dist} {cl hs hd aw : List Int} {mk : List Mk} {E : Int}
theorem DivV.got (D : DivV d cl hs E hd aw mk) (R : Rdy d cl hs) (hE : 0 ≤ E) {r : Nat} (hr : r < d.reaches.length) {k : Nat} (hk : k < (clmV d cl hs r).length) :
    0 ≤ clA (clmV d aw hd r) k ∧ clA (clmV d aw hd r) k ≤ ownV (mkA mk r) (clA (clmV d cl hs r) k) k ∧
    (k < (ptsF d r d.farms.length).length ∨ (∀ j, j < d.reaches.length → (rcC d j).siphon ≤ 0) → clA (clmV d aw hd r) k = ownV (mkA mk r) (clA (clmV d cl hs r) k) k) := by
  rw [clmV_len] at hk
  obtain ⟨p, hp⟩ : ∃ p, (ptsV d r)[k]? = some p := ⟨_, List.getElem?_eq_getElem hk⟩
  obtain ⟨b, i⟩ := p
  have e := (pt_at (cl := aw) (hs := hd) hp).1
  have hk2 := (pt_at (cl := cl) (hs := hs) hp).2
  have A := (D.awd R hE hr).b k hk2
  rw [e]
  cases b with
  | true =>
    have h := (D.at_ r hr).farm k i hp
    show 0 ≤ clA aw i ∧ clA aw i ≤ _ ∧ (_ → clA aw i = _)
    rw [h]
    exact ⟨A.1, Int.le_refl _, fun _ => rfl⟩
  | false =>
    have h := (D.at_ r hr).child k i hp
    have hc := R.v.child (List.mem_of_getElem? hp)
    show 0 ≤ clA hd i ∧ clA hd i ≤ _ ∧ (_ → clA hd i = _)
    rw [h]
    have c := cut_b (d := d) (r := i) A.1
    refine ⟨c.1, c.2.1, fun hq => ?_⟩
    rcases hq with hq | hq
    · exfalso
      unfold ptsV at hp
      rw [List.getElem?_append_left hq] at hp
      have := (mem_ptsF.1 (List.mem_of_getElem? hp)).1
      cases this
    · have := hq i hc.2
      unfold cut
      rw [if_neg (by have := A.1; omega)]
theorem DivV.sum (D : DivV d cl hs E hd aw mk) (R : Rdy d cl hs) (hE : 0 ≤ E) {r : Nat} (hr : r < d.reaches.length) : isum (clmV d aw hd r) ≤ arrW (rcC d r) (clA hd r) := by
  have A := D.awd R hE hr
  have hl : (clmV d aw hd r).length = (clmV d cl hs r).length := by rw [clmV_len, clmV_len]
  rw [← clA_sum, hl]
  have := sumN_le (n := (clmV d cl hs r).length) (f := clA (clmV d aw hd r)) fun k hk => (D.got R hE hr hk).2.1
  rw [A.s] at this
  have := (R.work hr (D.ok R hE hr)).2.2.1
  omega
/-- Some of the parts divide what they have as before. -/
theorem DivV.part (D : DivV d cl hs E hd aw mk) (R : Rdy d cl hs) (hE : 0 ≤ E) {r : Nat} (hr : r < d.reaches.length) {I : List Nat} (hp : I.Pairwise (· < ·)) (hI : ∀ i ∈ I, i < (clmV d cl hs r).length ∧ (i < (ptsF d r d.farms.length).length ∨ (∀ j, j < d.reaches.length → (rcC d j).siphon ≤ 0))) {m : Mk}
    (hm : MarkOf (isum (I.map (clA (clmV d aw hd r)))) (I.map (clA (clmV d cl hs r))) m) : tErr (isum (I.map (clA (clmV d aw hd r)))) (I.map (clA (clmV d cl hs r))) = 0 ∧ awL m (I.map (clA (clmV d cl hs r))) = I.map (clA (clmV d aw hd r)) := by
  have A := D.awd R hE hr
  have e : I.map (clA (clmV d aw hd r)) = I.map (fun i => ownV (mkA mk r) (clA (clmV d cl hs r) i) i) := List.map_congr_left fun i hi => (D.got R hE hr (hI i hi).1).2.2 (hI i hi).2
  have P := A.part (I := I) (fun i hi => (hI i hi).1) hp
  rw [e] at hm ⊢
  have ok : OkL (I.map (clA (clmV d cl hs r))) := fun c hc => by
    obtain ⟨i, -, rfl⟩ := List.mem_map.1 hc
    exact clA_ok (clmV_ok R.okc R.okh r) i
  have hlen : I.length ≤ (clmV d cl hs r).length := by
    have := pw_len (lo := 0) hp fun i hi => ⟨by omega, (hI i hi).1⟩
    omega
  have h664 := R.v.len (cl := cl) (hs := hs) (r := r)
  have s1 := sumN_le (n := (I.map (clA (clmV d cl hs r))).length) (f := fun j => (fun i => ownV (mkA mk r) (clA (clmV d cl hs r) i) i) (I.getD j 0)) (g := clA (I.map (clA (clmV d cl hs r)))) fun j hj => (P.b j hj).2
  have s0 := sumN_le (n := (I.map (clA (clmV d cl hs r))).length) (f := fun _ => 0) (g := fun j => (fun i => ownV (mkA mk r) (clA (clmV d cl hs r) i) i) (I.getD j 0)) fun j hj => (P.b j hj).1
  rw [sumN_zero] at s0
  rw [P.s] at s0 s1
  rw [clA_sum] at s1
  have he : tErr (isum (I.map (fun i => ownV (mkA mk r) (clA (clmV d cl hs r) i) i))) (I.map (clA (clmV d cl hs r))) = 0 := by
    unfold tErr
    rw [if_neg (by rw [List.length_map]; omega), if_pos]
    rw [Bool.and_eq_true, decide_eq_true_eq, List.all_eq_true]
    refine ⟨fun c hc => ?_, s0, s1⟩
    unfold okC
    exact decide_eq_true (ok c hc)
  refine ⟨he, ?_⟩
  have U := (hm.awd he).uniq P
  refine List.ext_getElem (by rw [awL_len, List.length_map, List.length_map]) fun j q1 q2 => ?_
  have hj : j < (I.map (clA (clmV d cl hs r))).length := by rw [awL_len] at q1; exact q1
  have h1 := awL_at (m := m) hj
  rw [List.getElem?_eq_getElem q1] at h1
  injection h1 with h1
  rw [h1, U j hj, List.getElem_map]
  have hj2 : j < I.length := by rw [List.length_map] at hj; exact hj
  show (fun i => ownV (mkA mk r) (clA (clmV d cl hs r) i) i) (I.getD j 0) = _
  rw [List.getD_eq_getElem?_getD, List.getElem?_eq_getElem hj2]; rfl
variable {cl' hs' hd' aw' : List Int} {mk' : List Mk}
/-- Claims at the ends of other reaches matter only through the needs of the children. -/
theorem DivV.others (D : DivV d cl hs E hd aw mk) (D' : DivV d cl' hs' E hd' aw' mk') (R : Rdy d cl hs) (R' : Rdy d cl' hs') (h : clmV d cl hs 0 = clmV d cl' hs' 0) :
    clA hd 0 = clA hd' 0 ∧ mkA mk 0 = mkA mk' 0 ∧ ∀ i, i < d.farms.length → (fmC d i).reach = 0 → clA aw i = clA aw' i := by
  have h0 := R.v.n.1
  have e0 : clA hs 0 = clA hs' 0 := by
    have a := R.nd 0 h0
    have b := R'.nd 0 h0
    rw [h] at a
    rw [a] at b
    injection b
  have e1 : clA hd 0 = clA hd' 0 := by rw [D.top, D'.top, e0]
  have m1 := (D.at_ 0 h0).mark
  have m2 := (D'.at_ 0 h0).mark
  unfold workV at m1 m2
  rw [h, e1] at m1
  have e2 := m1.uniq m2
  refine ⟨e1, e2, fun i hi hr => ?_⟩
  obtain ⟨r, k, hr2, hq, hk⟩ := R.v.farm hi
  obtain rfl : r = 0 := by omega
  rw [(D.at_ 0 h0).farm k i hk, (D'.at_ 0 h0).farm k i hk, e2, h]
end
end Go.Proofs.Ytmjcaclakggafaa
