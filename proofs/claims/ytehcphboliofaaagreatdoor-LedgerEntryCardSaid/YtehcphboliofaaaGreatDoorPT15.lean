/- Parts of the proof: Ma Mb Mc Md Me Zg. -/
import Derived.Test.YtehcphboliofaaaGreatDoorPT14
import Derived.Test.YtehcphboliofaaaGreatDoorPT8
import Derived.Test.YtehcphboliofaaaGreatDoorPT11
import Derived.Test.YtehcphboliofaaaGreatDoorPT10
import Derived.Test.YtehcphboliofaaaGreatDoorPT7
import Derived.Test.YtehcphboliofaaaGreatDoorCards
import Derived.Test.YtehcphboliofaaaGreatDoorTie
import Derived.Lib.LaidTab
import Derived.Stop.LaidErr

/- Layer 56: the ledger of a run. -/
namespace Go.Proofs.YtehcphboliofaaaGreatDoor
open Go Go.RowKit

/-- The number of the first account of a kind; the number of an account. -/
def firstN (a : Int) : Int := if a = 5 then 1024 else if a = 6 then 11 else if a = 4 then 10 else if a = 3 then 9 else if a = 2 then 8 else if a = 7 then 2 else if a = 1 then 1 else 0
def numA (a : Int × Int) : Int := if a.1 = 2 ∨ a.1 = 3 ∨ a.1 = 4 ∨ a.1 = 6 then firstN a.1 + 5 * a.2 else if a.1 = 5 then firstN a.1 + a.2 else firstN a.1
theorem firstN_b (a : Int) : 0 ≤ firstN a ∧ firstN a ≤ 1024 := by unfold firstN; repeat' split <;> omega
instance keyIntL : KeyL Tryz.prog 3 kvI := keyI Tryz.underlying3
/-- The accounts of a district. -/
def inK (R F : Nat) (a : Int × Int) : Prop := a = (0, 0) ∨ a = (1, 0) ∨ a = (7, 0) ∨ (∃ i : Nat, i < R ∧ (a = (2, (i : Int)) ∨ a = (3, (i : Int)) ∨ a = (4, (i : Int)) ∨ a = (6, (i : Int)))) ∨ ∃ j : Nat, j < F ∧ a = (5, (j : Int))
theorem inK_b {R F : Nat} {a : Int × Int} (h : inK R F a) (hR : R ≤ 64) (hF : F ≤ 600) : 0 ≤ a.2 ∧ a.2 ≤ 600 := by
  rcases h with rfl | rfl | rfl | ⟨i, hi, rfl | rfl | rfl | rfl⟩ | ⟨j, hj, rfl⟩ <;> constructor <;> show (_ : Int) ≤ _ <;> simp only <;> omega
theorem end_inK {d : Dist} {x : Run} {hour i : Nat} (hi : i < d.reaches.length) : ∀ m ∈ endL d x hour i, inK d.reaches.length d.farms.length m.frm ∧ inK d.reaches.length d.farms.length m.to := fun m hm => by
  unfold endL lossL childL farmL at hm
  simp only [List.mem_append, List.mem_cons, List.not_mem_nil, or_false, List.mem_map, List.mem_filter, List.mem_range] at hm
  rcases hm with ((((rfl | rfl) | ⟨k, hk, rfl⟩) | ⟨k, hk, rfl⟩)) | rfl
  · exact ⟨.inr (.inr (.inr (.inl ⟨i, hi, .inl rfl⟩))), .inr (.inr (.inr (.inl ⟨i, hi, .inr (.inl rfl)⟩)))⟩
  · exact ⟨.inr (.inr (.inr (.inl ⟨i, hi, .inl rfl⟩))), .inr (.inr (.inr (.inl ⟨i, hi, .inr (.inr (.inl rfl))⟩)))⟩
  · exact ⟨.inr (.inr (.inr (.inl ⟨i, hi, .inl rfl⟩))), .inr (.inr (.inr (.inl ⟨k, hk.1, .inl rfl⟩)))⟩
  · exact ⟨.inr (.inr (.inr (.inl ⟨i, hi, .inl rfl⟩))), .inr (.inr (.inr (.inr ⟨k, hk.1, rfl⟩)))⟩
  · exact ⟨.inr (.inr (.inr (.inl ⟨i, hi, .inl rfl⟩))), .inr (.inr (.inr (.inl ⟨i, hi, .inr (.inr (.inr rfl))⟩)))⟩
theorem moves_inK {d : Dist} {x : Run} {hour : Nat} (h0 : 0 < d.reaches.length) : ∀ m ∈ movesL d x hour, inK d.reaches.length d.farms.length m.frm ∧ inK d.reaches.length d.farms.length m.to := fun m hm => by
  unfold movesL prefL headL at hm
  rcases List.mem_append.1 hm with hm | hm
  · simp only [List.mem_cons, List.not_mem_nil, or_false] at hm
    rcases hm with rfl | rfl | rfl
    · exact ⟨.inl rfl, .inr (.inl rfl)⟩
    · exact ⟨.inr (.inl rfl), .inr (.inr (.inl rfl))⟩
    · exact ⟨.inr (.inl rfl), .inr (.inr (.inr (.inl ⟨0, h0, .inl rfl⟩)))⟩
  · obtain ⟨i, hi, hm⟩ := List.mem_flatMap.1 hm
    exact end_inK (List.mem_range.1 hi) m hm
theorem mov_inK {d : Dist} {x : Run} {hour : Int} (h0 : 0 < d.reaches.length) : ∀ m ∈ movV d x hour, inK d.reaches.length d.farms.length m.frm ∧ inK d.reaches.length d.farms.length m.to := fun m hm => by
  unfold movV at hm
  split at hm
  · exact moves_inK h0 m (List.mem_filter.1 hm).1
  · cases hm
theorem mov_len {d : Dist} {x : Run} {hour : Int} (h1 : d.reaches.length ≤ 64) (h2 : d.farms.length ≤ 600) : (movV d x hour).length ≤ 42691 := by
  unfold movV
  split
  · refine Nat.le_trans (List.length_filter_le _ _) ?_
    have := prefL_len (x := x) (hour := hour.toNat) h1 h2 d.reaches.length
    unfold movesL
    omega
  · exact Nat.zero_le _
/-- The postings of a run, hour by hour. -/
def addM (h : Nat) (l : List Post) (m : Mv) : List Post := l ++ [⟨(l.length : Int), (h : Int), 1, numA m.frm, numA m.to, m.litres⟩]
def oflS (d : Dist) : List Post := if 0 < d.start then [⟨0, 0, 1, 0, 1, d.start⟩] else []
def oflH (d : Dist) (x : Run) (l : List Post) (h : Nat) : List Post := (movV d x (h : Int)).foldl (addM h) l
def oflL (d : Dist) (x : Run) (k : Nat) : List Post := (List.range k).foldl (oflH d x) (oflS d)
theorem oflL_succ {d : Dist} {x : Run} {k : Nat} : oflL d x (k + 1) = (movV d x (k : Int)).foldl (addM k) (oflL d x k) := by unfold oflL; rw [List.range_succ, List.foldl_append]; rfl
theorem foldM_len (h : Nat) : ∀ (ms : List Mv) (l : List Post), (ms.foldl (addM h) l).length = l.length + ms.length
  | [], l => rfl
  | m :: ms, l => by rw [List.foldl_cons, foldM_len h ms, List.length_cons]; unfold addM; rw [List.length_append, List.length_singleton]; omega
theorem foldM_snoc {h : Nat} {ms : List Mv} {m : Mv} {l : List Post} : (ms ++ [m]).foldl (addM h) l = addM h (ms.foldl (addM h) l) m := by rw [List.foldl_append]; rfl
theorem oflL_len {d : Dist} {x : Run} (h1 : d.reaches.length ≤ 64) (h2 : d.farms.length ≤ 600) : ∀ k, (oflL d x k).length ≤ 1 + k * 42691
  | 0 => by show (oflS d).length ≤ _; unfold oflS; split <;> simp
  | k + 1 => by
    rw [oflL_succ, foldM_len]
    have := oflL_len (x := x) h1 h2 k
    have := mov_len (x := x) (hour := (k : Int)) h1 h2
    omega
def oflE (d : Dist) (x : Run) : Int := if bErr d x ≠ 0 then bErr d x else if 4096 < (oflL d x d.hours.toNat).length then 2 else 0
def oflV (d : Dist) (x : Run) : List Post := if oflE d x = 0 then oflL d x d.hours.toNat else []
section
variable {D : Nat → Prop} {w : World}
theorem c_lnumber {a : Int × Int} (hb : 0 ≤ a.2 ∧ a.2 ≤ 1000000) : CallZ Tryz.prog 70 #[.agg #[iv a.1, iv a.2]] w (fun v w' => v = iv (numA a) ∧ Ext w w') := by
  refine fn_rule (args := [.agg #[iv a.1, iv a.2]]) Tryz.func70 (by kernel_rfl) ?_
  refine box (fun b1 w1 h1 => ?_)
  have B1 : Blk w1 b1 74 [iv a.1, iv a.2] := h1.blk
  refine mmap (fun g w2 hg hw2 => ?_)
  have x2 : Ext w1 w2 := by rw [hw2]; exact Kept.alloc _ _ _
  have M2 : MapG kvI w2 g (fun _ => none) := by rw [hg, hw2]; exact MapG.new kvI w1
  clear hw2
  have lb := B1.lt
  refine mupdG (kv := kvI) 1 M2 (fun u1 M1 q1 _ => ?_)
  refine mupdG (kv := kvI) 7 M1 (fun u2 M2 q2 _ => ?_)
  refine mupdG (kv := kvI) 2 M2 (fun u3 M3 q3 _ => ?_)
  refine mupdG (kv := kvI) 3 M3 (fun u4 M4 q4 _ => ?_)
  refine mupdG (kv := kvI) 4 M4 (fun u5 M5 q5 _ => ?_)
  refine mupdG (kv := kvI) 6 M5 (fun u6 M6 q6 _ => ?_)
  refine mupdG (kv := kvI) 5 M6 (fun u7 M7 q7 _ => ?_)
  have qq : Kept (fun b => b ≠ g) w2 u7 := (((((q1.trans q2).trans q3).trans q4).trans q5).trans q6).trans q7
  have B7 := (B1.ext x2).kept qq (show b1 ≠ g by omega)
  have x17 : Ext w1 u7 := x2.then qq fun i hi _ => by omega
  have x07 : Ext w u7 := h1.ext.trans x17
  obtain ⟨f, hf⟩ : ∃ f : Int → Option Value, MapG kvI u7 g f ∧ ∀ k, (f k).getD (iv 0) = iv (firstN k) := by
    refine ⟨_, M7, fun k => ?_⟩
    unfold pset firstN
    by_cases e1 : k = 5
    · rw [if_pos e1, if_pos e1]; rfl
    rw [if_neg e1, if_neg e1]
    by_cases e2 : k = 6
    · rw [if_pos e2, if_pos e2]; rfl
    rw [if_neg e2, if_neg e2]
    by_cases e3 : k = 4
    · rw [if_pos e3, if_pos e3]; rfl
    rw [if_neg e3, if_neg e3]
    by_cases e4 : k = 3
    · rw [if_pos e4, if_pos e4]; rfl
    rw [if_neg e4, if_neg e4]
    by_cases e5 : k = 2
    · rw [if_pos e5, if_pos e5]; rfl
    rw [if_neg e5, if_neg e5]
    by_cases e6 : k = 7
    · rw [if_pos e6, if_pos e6]; rfl
    rw [if_neg e6, if_neg e6]
    by_cases e7 : k = 1
    · rw [if_pos e7, if_pos e7]; rfl
    rw [if_neg e7, if_neg e7]; rfl
  obtain ⟨Mf, hf⟩ := hf
  have hfb := firstN_b a.1
  have way : (a.1 = 2 ∨ a.1 = 3 ∨ a.1 = 4 ∨ a.1 = 6) → numA a = firstN a.1 + 5 * a.2 := fun h => by unfold numA; rw [if_pos h]
  refine idxR 0 rfl (by omega) ?_
  refine ld (iv a.1) (B7.cell rfl) ?_
  refine cE (fun h2 => ?_) (fun h2 => ?_)
  · refine idxR 0 rfl (by omega) ?_
    refine ld (iv a.1) (B7.cell rfl) ?_
    refine lookG1 (kv := kvI) a.1 (iv (firstN a.1)) (fun y hy => by subst hy; exact ⟨f, Mf, hf _⟩) ?_
    refine idxR 1 rfl (by omega) ?_
    refine ld (iv a.2) (B7.cell rfl) ?_
    refine arI (n := 5 * a.2) (by omega) ?_
    refine arI (n := firstN a.1 + 5 * a.2) (by omega) ?_
    exact ret1 (iv _) rfl ⟨by rw [way (.inl h2)], x07⟩
  refine cE (fun h3 => ?_) (fun h3 => ?_)
  · refine idxR 0 rfl (by omega) ?_
    refine ld (iv a.1) (B7.cell rfl) ?_
    refine lookG1 (kv := kvI) a.1 (iv (firstN a.1)) (fun y hy => by subst hy; exact ⟨f, Mf, hf _⟩) ?_
    refine idxR 1 rfl (by omega) ?_
    refine ld (iv a.2) (B7.cell rfl) ?_
    refine arI (n := 5 * a.2) (by omega) ?_
    refine arI (n := firstN a.1 + 5 * a.2) (by omega) ?_
    exact ret1 (iv _) rfl ⟨by rw [way (.inr (.inl h3))], x07⟩
  refine cE (fun h4 => ?_) (fun h4 => ?_)
  · refine idxR 0 rfl (by omega) ?_
    refine ld (iv a.1) (B7.cell rfl) ?_
    refine lookG1 (kv := kvI) a.1 (iv (firstN a.1)) (fun y hy => by subst hy; exact ⟨f, Mf, hf _⟩) ?_
    refine idxR 1 rfl (by omega) ?_
    refine ld (iv a.2) (B7.cell rfl) ?_
    refine arI (n := 5 * a.2) (by omega) ?_
    refine arI (n := firstN a.1 + 5 * a.2) (by omega) ?_
    exact ret1 (iv _) rfl ⟨by rw [way (.inr (.inr (.inl h4)))], x07⟩
  refine cE (fun h6 => ?_) (fun h6 => ?_)
  · refine idxR 0 rfl (by omega) ?_
    refine ld (iv a.1) (B7.cell rfl) ?_
    refine lookG1 (kv := kvI) a.1 (iv (firstN a.1)) (fun y hy => by subst hy; exact ⟨f, Mf, hf _⟩) ?_
    refine idxR 1 rfl (by omega) ?_
    refine ld (iv a.2) (B7.cell rfl) ?_
    refine arI (n := 5 * a.2) (by omega) ?_
    refine arI (n := firstN a.1 + 5 * a.2) (by omega) ?_
    exact ret1 (iv _) rfl ⟨by rw [way (.inr (.inr (.inr h6)))], x07⟩
  have hno : ¬ (a.1 = 2 ∨ a.1 = 3 ∨ a.1 = 4 ∨ a.1 = 6) := by omega
  refine cE (fun h5 => ?_) (fun h5 => ?_)
  · refine idxR 0 rfl (by omega) ?_
    refine ld (iv a.1) (B7.cell rfl) ?_
    refine lookG1 (kv := kvI) a.1 (iv (firstN a.1)) (fun y hy => by subst hy; exact ⟨f, Mf, hf _⟩) ?_
    refine idxR 1 rfl (by omega) ?_
    refine ld (iv a.2) (B7.cell rfl) ?_
    refine arI (n := firstN a.1 + a.2) (by omega) ?_
    exact ret1 (iv _) rfl ⟨by unfold numA; rw [if_neg hno, if_pos h5], x07⟩
  · refine idxR 0 rfl (by omega) ?_
    refine ld (iv a.1) (B7.cell rfl) ?_
    refine lookG1 (kv := kvI) a.1 (iv (firstN a.1)) (fun y hy => by subst hy; exact ⟨f, Mf, hf _⟩) ?_
    exact ret1 (iv _) rfl ⟨by unfold numA; rw [if_neg hno, if_neg h5], x07⟩
theorem c_lOf1 {w0 : World} {p m d : Nat} {A : Option Addr} {l : List Post} {hour n : Int} {f t : Int × Int} (Bp : Blk w p 22 [.slice A m d]) (own : OwnF w0 w A m d 26 6 (l.flatMap Post.c)) (hl : m ≤ 1000000000) (hf : 0 ≤ f.2 ∧ f.2 ≤ 1000000) (ht : 0 ≤ t.2 ∧ t.2 ≤ 1000000) (hp : w0.heap.size ≤ p) :
    CallZ Tryz.prog 69 #[iv hour, .agg #[iv f.1, iv f.2], .agg #[iv t.1, iv t.2], iv n, ptr p] w (fun v w' => v = .tuple #[] ∧ ∃ A' d', Blk w' p 22 [.slice A' (m + 1) d'] ∧ OwnF w0 w' A' (m + 1) d' 26 6 ((l ++ [(⟨(m : Int), hour, 1, numA f, numA t, n⟩ : Post)]).flatMap Post.c) ∧
      Kept (fun b => b ≠ p ∧ A ≠ some (ad b 0)) w w' ∧ (∀ g, A' = some (ad g 0) → A = some (ad g 0) ∨ w.heap.size ≤ g)) := by
  refine fn_rule (args := [iv hour, .agg #[iv f.1, iv f.2], .agg #[iv t.1, iv t.2], iv n, ptr p]) Tryz.func69 (by kernel_rfl) ?_
  refine box (fun b6 w1 h1 => ?_)
  refine box (fun b7 w2 h2 => ?_)
  have B6 : Blk w2 b6 74 [iv f.1, iv f.2] := h1.blk.ext h2.ext
  have B7 : Blk w2 b7 74 [iv t.1, iv t.2] := h2.blk
  have x2 := h1.ext.trans h2.ext
  have Bp2 := Bp.ext x2
  refine drawP (.take 0 (.take 1 (.take 2 (.take 3 (.take 4 (.take 6 (.take 8 (.eff 5 (.eff 7 (.take 9 (.eff 10 (.eff 11 (.bar (.eff 12 .done)))))))))))))) [12] (fun y => Kept (fun b => A ≠ some (ad b 0)) w2 y) mx (by kernel_rfl) (.refl _ _) ?_
  have np : A ≠ some (ad p 0) := own_tyL own Bp (by decide)
  have n6 : A ≠ some (ad b6 0) := own_tyL (own.then x2) B6 (by decide)
  have n7 : A ≠ some (ad b7 0) := own_tyL (own.then x2) B7 (by decide)
  refine ldK (.slice A m d) (Bp2.cell rfl) np (.refl _ _) ?_
  refine ldK (.slice A m d) (Bp2.cell rfl) np (.refl _ _) ?_
  refine len ?_
  refine ldAK [iv f.1, iv f.2] (.blk B6) rfl n6 (.refl _ _) ?_
  refine ldAK [iv t.1, iv t.2] (.blk B7) rfl n7 (.refl _ _) ?_
  refine call_of (c_lnumber (a := f) hf) ?_
  rintro _ w3 ⟨rfl, x3⟩
  refine strS (Ext.any x3) ?_
  refine call_of (c_lnumber (a := t) ht) ?_
  rintro _ w4 ⟨rfl, x4⟩
  have x24 := x3.trans x4
  refine strS (Ext.any x24) ?_
  obtain ⟨q, hq⟩ : ∃ q : Post, q = ⟨(m : Int), hour, 1, numA f, numA t, n⟩ := ⟨_, rfl⟩
  refine bld [iv (m : Int), iv hour, iv 1, iv (numA f), iv (numA t), iv n] (by kernel_rfl) ?_
  refine lit [.agg #[iv (m : Int), iv hour, iv 1, iv (numA f), iv (numA t), iv n]] (fun g w5 h5 => ?_)
  have x25 := x24.trans h5.ext
  refine strS (Ext.any x25) ?_
  have hB5 : Blk w5 g 26 q.c := by rw [hq]; exact h5.blk
  have x05 := x2.trans x25
  refine appF (own.then x05) (srcP6 hB5) (by omega) (fun A' d' w6 own6 k6 hA => ?_)
  refine strS ((Ext.any x25).trans k6) ?_
  refine barS (fun _ => True) trivial ?_
  have Bp6 := (Bp.ext x05).kept k6 np
  refine st Bp6 (Nat.le_of_ble_eq_true rfl) rfl (fun w7 B7' k7 _ => ?_)
  have B7' : Blk w7 p 22 [.slice A' (m + 1) d'] := B7'
  refine strS trivial ?_
  have np' : A' ≠ some (ad p 0) := own_tyL own6 Bp6 (by decide)
  refine ret0 ⟨rfl, A', d', B7', ?_, ((Ext.any x05).trans (k6.weak fun _ _ h => h.2)).trans (k7.weak fun _ _ h => h.1), fun g' hg => ?_⟩
  · have := own6.thenK k7 (fun g hg e => np' (by rw [hg, e])) (own6.ext.then k7 fun i hi _ e => by omega)
    rw [List.flatMap_append, ← hq]
    simpa using this
  · rcases hA with e | e | e
    · exact .inl (e ▸ hg)
    · rw [e] at hg; cases hg
    · rw [e] at hg; injection hg with hg; injection hg with hg; exact .inr (by have := x05.size; omega)
end
end Go.Proofs.YtehcphboliofaaaGreatDoor

/- Layer 56: Of; Root of nothing. -/
namespace Go.Proofs.YtehcphboliofaaaGreatDoor
open Go Go.RowKit

section
variable {D : Nat → Prop} {w : World}
theorem c_lRoot0 (hN : NumW w) : CallZ Tryz.prog 23 #[.agg #[.slice none 0 0]] w (fun v w' => v = .tuple #[.agg (u8s (tagB (bl noneT) [])).toArray, iv 0] ∧ Ext w w') := by
  refine fn_rule (args := [.agg #[.slice none 0 0]]) Tryz.func23 (by kernel_rfl) ?_
  refine box (fun b1 w1 h1 => ?_)
  have B1 : Blk w1 b1 24 [.slice none 0 0] := h1.blk
  refine alloc (fun b2 w2 h2 => ?_)
  have x02 := h1.ext.trans h2.ext
  have e1 := h1.at_
  have e2 := h2.at_
  have s1 := h1.ext.size
  have h0 : ldgErr [] = 0 := ldgErr_0.2 ⟨by simp, LOk.nil⟩
  refine ldA [.slice none 0 0] (.blk (B1.ext h2.ext)) rfl ?_
  refine call_of (c_gCheck (D := fun _ => True) (l := []) .nil) ?_
  rintro _ w3 ⟨rfl, x3⟩
  rw [h0]
  refine cN (fun h => absurd rfl h) (fun _ => ?_)
  refine ldA [.slice none 0 0] (.blk ((B1.ext h2.ext).ext x3)) rfl ?_
  refine call_of (c_textsX (D := fun _ => True) (l := []) .nil (fun p hp => by cases hp) (by omega)) ?_
  rintro _ w4 ⟨T, cT, rfl, -, x4, -⟩
  have x24 := x3.trans x4
  refine call_of (c_mRoot0 (hN.ext (x02.trans x24))) ?_
  rintro _ w5 ⟨rfl, x5⟩
  have B2 := h2.blk.ext (x24.trans x5)
  have htl : (u8s (tagB (bl noneT) [])).length = 32 := by rw [List.length_map]; exact shaB_len _
  refine stA (vs := u8s (tagB (bl noneT) [])) B2 htl (by rw [htl]; exact Nat.le_refl _) (fun v hv => List.all_eq_true.1 (u8s_one _) v hv) (fun w6 B6 k6 _ => ?_)
  have B6 : Blk w6 b2 47 (u8s (tagB (bl noneT) [])) := by
    have e : ∀ X : List Value, X.length = 32 → X.drop (0 + (u8s (tagB (bl noneT) [])).length) = [] := fun X hX => List.drop_of_length_le (by rw [htl]; omega)
    rw [List.take_zero, List.nil_append, e _ rfl, List.append_nil] at B6
    exact B6
  refine ret ?_
  refine resL _ (holds_agg (.blk B6) htl) ?_
  exact ⟨rfl, ((x02.trans x24).trans x5).then k6 fun b hb _ e => by omega⟩
set_option maxRecDepth 8000 in
set_option maxHeartbeats 2000000 in
theorem c_lOf {csd csx : List Value} {d : Dist} {x : Run} (hd : DiR D w csd d) (hx : RuR D w csx x) : CallZ Tryz.prog 31 #[.agg csd.toArray, .agg csx.toArray] w
    (fun v w' => Ext w w' ∧ ∃ A n c, v = .tuple #[.agg #[.slice A n c], iv (oflE d x)] ∧ SlR tPost (fun b => w.heap.size ≤ b) w' A n (oflV d x) ∧ n ≤ c) := by
  obtain ⟨A1, n1, c1, A2, n2, c2, A3, n3, c3, A4, n4, c4, A5, n5, c5, A6, n6, c6, rfl, hr, hfa, -⟩ := hd.ex
  obtain ⟨B1, m1, e1, B2, m2, e2, B3, m3, e3, B4, m4, e4, B5, m5, e5, B6, m6, e6, B7, m7, e7, rfl, -⟩ := hx.ex
  refine fn_rule (args := [.agg #[.string d.name, iv d.hours, iv d.cap, iv d.start, .slice A1 n1 c1, .slice A2 n2 c2, .slice A3 n3 c3, .slice A4 n4 c4, .slice A5 n5 c5, .slice A6 n6 c6], .agg #[.slice B1 m1 e1, .slice B2 m2 e2, .slice B3 m3 e3, .slice B4 m4 e4, .slice B5 m5 e5, .slice B6 m6 e6, .slice B7 m7 e7]]) Tryz.func31 (by kernel_rfl) ?_
  refine box (fun bd w1 h1 => ?_)
  refine box (fun bx w2 h2 => ?_)
  refine alloc (fun b4 w3 h3 => ?_)
  have R3 : Blk w3 b4 24 [.slice none 0 0] := h3.blk
  have Bd : Blk w3 bd 64 [.string d.name, iv d.hours, iv d.cap, iv d.start, .slice A1 n1 c1, .slice A2 n2 c2, .slice A3 n3 c3, .slice A4 n4 c4, .slice A5 n5 c5, .slice A6 n6 c6] := (h1.blk.ext h2.ext).ext h3.ext
  have Bx : Blk w3 bx 68 [.slice B1 m1 e1, .slice B2 m2 e2, .slice B3 m3 e3, .slice B4 m4 e4, .slice B5 m5 e5, .slice B6 m6 e6, .slice B7 m7 e7] := h2.blk.ext h3.ext
  have a1 := h1.at_
  have a2 := h2.at_
  have a3 := h3.at_
  have x03 := (h1.ext.trans h2.ext).trans h3.ext
  have s2 := (h1.ext.trans h2.ext).size
  refine ldA [.string d.name, iv d.hours, iv d.cap, iv d.start, .slice A1 n1 c1, .slice A2 n2 c2, .slice A3 n3 c3, .slice A4 n4 c4, .slice A5 n5 c5, .slice A6 n6 c6] (.blk Bd) rfl ?_
  refine ldA [.slice B1 m1 e1, .slice B2 m2 e2, .slice B3 m3 e3, .slice B4 m4 e4, .slice B5 m5 e5, .slice B6 m6 e6, .slice B7 m7 e7] (.blk Bx) rfl ?_
  refine call_of (c_bCheck (hd.ext x03) (hx.ext x03)) ?_
  rintro _ w4 ⟨rfl, x4⟩
  have x04 := x03.trans x4
  have R4 := R3.ext x4
  have Bd := Bd.ext x4
  have Bx := Bx.ext x4
  have s04 := x04.size
  have l4 := R4.lt
  refine cN (fun he => ?_) (fun he => ?_)
  · refine ldA [.slice none 0 0] (.blk R4) rfl ?_
    refine stA (vs := [.slice none 0 0]) R4 rfl (Nat.le_of_ble_eq_true rfl) (by simp [Value.oneCell']) (fun we Be ke _ => ?_)
    have Be : Blk we b4 24 [.slice none 0 0] := Be
    refine ret ?_
    refine resL _ (holds_agg (.blk Be) rfl) ?_
    have hE : oflE d x = bErr d x := by unfold oflE; rw [if_pos he]
    exact ⟨x04.then ke fun i hi _ e => by omega, none, 0, 0, by rw [hE]; rfl, by unfold oflV; rw [hE, if_neg he]; exact .nil, Nat.le_refl _⟩
  have he : bErr d x = 0 := he
  obtain ⟨⟨ht, hv⟩, -, -⟩ := bErr_ok.1 he
  obtain ⟨⟨hR, hF⟩, hH1, hH2⟩ := valid_bounds ht hv
  have h0 : 0 < d.reaches.length := (bErr_fm he).1.nr
  obtain ⟨H, hHe⟩ : ∃ H : Nat, d.hours = (H : Int) := ⟨d.hours.toNat, by omega⟩
  have hHn : d.hours.toNat = H := by omega
  have hE : oflE d x = if 4096 < (oflL d x H).length then 2 else 0 := by unfold oflE; rw [if_neg (fun q => q he), hHn]
  refine alloc (fun b6 w5 h5 => ?_)
  have P5 : Blk w5 b6 22 [.slice none 0 0] := h5.blk
  have a5 := h5.at_
  have l6 := P5.lt
  have Bd5 := Bd.ext h5.ext
  have ldd := Bd.lt
  have ldx := Bx.lt
  refine fldA ?_
  refine fldA ?_
  refine ld (iv d.start) (Bd5.cell rfl) ?_
  refine cD (fun hpos => ?_) (fun hneg => ?_)
  · refine bld [iv 0, iv 0] (by kernel_rfl) ?_
    refine bld [iv 1, iv 0] (by kernel_rfl) ?_
    refine fldA ?_
    refine fldA ?_
    refine ld (iv d.start) (Bd5.cell rfl) ?_
    refine call_of (c_lOf1 (w0 := w4) (l := []) (f := (0, 0)) (t := (1, 0)) (hour := 0) (n := d.start) P5 (OwnF.nil h5.ext) (by omega) (by decide) (by decide) (by omega)) ?_
    rintro _ u0 ⟨rfl, A0, c0, P0, own0, k0, -⟩
    have own0 : OwnF w4 u0 A0 (0 + 1) c0 26 6 ((oflL d x 0).flatMap Post.c) := by
      have e : oflL d x 0 = [⟨0, 0, 1, 0, 1, d.start⟩] := by show oflS d = _; unfold oflS; rw [if_pos hpos]
      rw [e]
      have e0 : numA (0, 0) = 0 := by decide
      have e1 : numA (1, 0) = 1 := by decide
      rw [e0, e1] at own0
      exact own0
    refine fldA ?_
    refine ld (iv d.hours) ((Bd.ext (OwnF.ext own0)).cell rfl) ?_
    refine loop_rule (fun k : Nat => [(34, iv (k : Int))]) (fun k u => k ≤ H ∧ ∃ A m c, Blk u b6 22 [.slice A m c] ∧ OwnF w4 u A m c 26 6 ((oflL d x k).flatMap Post.c)) (fun k _ => H - k) 0 ⟨rfl, trivial⟩ ⟨Nat.zero_le _, A0, (0 + 1), c0, P0, own0⟩ rfl ?_
    rintro G k u ⟨hk, Ak, mk, ck, Pu, ownu⟩
    have x4u := ownu.ext
    have s4u := x4u.size
    have lPu := Pu.lt
    have hmk : mk = (oflL d x k).length := by have := ownu.own.len; rw [posts_len] at this; omega
    have hml := oflL_len (x := x) hR hF k
    refine cD (fun hlt => ?_) (fun hge => ?_)
    · have hml' : mk ≤ 200000000 := by omega
      refine ldA [.string d.name, iv d.hours, iv d.cap, iv d.start, .slice A1 n1 c1, .slice A2 n2 c2, .slice A3 n3 c3, .slice A4 n4 c4, .slice A5 n5 c5, .slice A6 n6 c6] (.blk (Bd.ext x4u)) rfl ?_
      refine ldA [.slice B1 m1 e1, .slice B2 m2 e2, .slice B3 m3 e3, .slice B4 m4 e4, .slice B5 m5 e5, .slice B6 m6 e6, .slice B7 m7 e7] (.blk (Bx.ext x4u)) rfl ?_
      refine call_of (c_bMoves (hour := (k : Int)) (hd.ext (x04.trans x4u)) (hx.ext (x04.trans x4u))) ?_
      rintro _ u1 ⟨x1, Am, nm, cm, rfl, sm, hcm⟩
      have hnm := sm.len
      have hmv := mov_len (x := x) (hour := (k : Int)) hR hF
      have su1 := x1.size
      have sl1 : ∀ g, Ak = some (ad g 0) → g < u.heap.size := fun g hg => by
        rcases ownu.form with ⟨e, -⟩ | ⟨j', e, -, hl', -⟩
        · rw [e] at hg; cases hg
        · rw [e] at hg; injection hg with hg; injection hg with hg; omega
      refine len ?_
      refine loop_rule (fun j : Nat => [(46, iv (j : Int))]) (fun j v => j ≤ nm ∧ Kept (fun i => u.heap.size ≤ i ∧ i < u1.heap.size) u1 v ∧ ∃ A m c, Blk v b6 22 [.slice A m c] ∧ OwnF w4 v A m c 26 6 ((((movV d x (k : Int)).take j).foldl (addM k) (oflL d x k)).flatMap Post.c) ∧ ∀ g, A = some (ad g 0) → g < u.heap.size ∨ u1.heap.size ≤ g) (fun j _ => nm - j) 0 ⟨rfl, trivial⟩ ⟨by omega, .refl _ _, Ak, mk, ck, Pu.ext x1, ownu.then x1, fun g hg => .inl (sl1 g hg)⟩ rfl ?_
      rintro G2 j v ⟨hj, kv, Aj, mj, cj, Pv, ownv, hAj⟩
      have sv := kv.size
      have hmj : mj = (oflL d x k).length + j := by
        have := ownv.own.len
        rw [posts_len, foldM_len, List.length_take] at this
        have : ((oflL d x k).length + min j (movV d x (k : Int)).length) * 6 = mj * 6 := this
        omega
      refine cD (fun hlt2 => ?_) (fun hge2 => ?_)
      · obtain ⟨bx', o, cs, m, rfl, hm, -, -, hc, hcs⟩ := ((sm.more (D' := fun i => u.heap.size ≤ i ∧ i < u1.heap.size) (by decide) fun b hb h => ⟨h, hb⟩).kept kv fun i _ h => h).at_ (k := j) (by omega)
        have hcs : cs = m.c := hcs
        subst hcs
        refine idx j rfl (by omega) ?_
        refine ldA m.c hc rfl ?_
        refine alloc (fun b12 v1 hv1 => ?_)
        refine stA (vs := m.c) hv1.blk rfl (Nat.le_of_ble_eq_true rfl) (by simp [Value.oneCell']) (fun v2 M2 k2 _ => ?_)
        have M2 : Blk v2 b12 138 m.c := M2
        have a12 := hv1.at_
        have xv2 : Ext v v2 := hv1.ext.then k2 fun b hb _ e => by omega
        have sv2 := xv2.size
        refine fldA ?_
        refine ldA [iv m.frm.1, iv m.frm.2] ((CellsAt.blk M2).mid 0 2) rfl ?_
        refine fldA ?_
        refine ldA [iv m.to.1, iv m.to.2] ((CellsAt.blk M2).mid 2 2) rfl ?_
        refine fldA ?_
        refine ld (iv m.litres) (M2.cell rfl) ?_
        obtain ⟨hK1, hK2⟩ := mov_inK h0 m (List.mem_of_getElem? hm)
        have hb1 := inK_b hK1 hR hF
        have hb2 := inK_b hK2 hR hF
        refine call_of (c_lOf1 (Pv.ext xv2) (ownv.then xv2) (by omega) (by omega) (by omega) (by omega)) ?_
        rintro _ v3 ⟨rfl, A3, c3', P3, own3, k3, hA3⟩
        refine arI (n := (j : Int) + 1) (by omega) ?_
        refine next (j + 1) ⟨by rw [Int.natCast_add]; rfl, trivial⟩ ⟨by omega, (kv.ext xv2).trans (k3.weak fun i _ hi => ⟨by omega, fun e => by have := hAj i e; omega⟩), A3, mj + 1, c3', P3, ?_, fun g hg => ?_⟩ (by omega)
        · have htk : (movV d x (k : Int)).take (j + 1) = (movV d x (k : Int)).take j ++ [m] := by rw [List.take_add_one, hm]; rfl
          rw [htk, foldM_snoc]
          have hfl := foldM_len k ((movV d x (k : Int)).take j) (oflL d x k)
          rw [List.length_take, show min j (movV d x (k : Int)).length = j by omega, ← hmj] at hfl
          obtain ⟨L, hL⟩ : ∃ L, L = ((movV d x (k : Int)).take j).foldl (addM k) (oflL d x k) := ⟨_, rfl⟩
          rw [← hL] at own3 hfl ⊢
          show OwnF _ _ _ _ _ _ _ ((L ++ [(⟨(L.length : Int), (k : Int), 1, numA m.frm, numA m.to, m.litres⟩ : Post)]).flatMap Post.c)
          rw [hfl]
          exact own3
        · rcases hA3 g hg with h | h
          · exact hAj g h
          · exact .inr (by omega)
      · refine arI (n := (k : Int) + 1) (by omega) ?_
        refine next (k + 1) ⟨by rw [Int.natCast_add]; rfl, trivial⟩ ⟨by omega, Aj, mj, cj, Pv, ?_⟩ (by omega)
        rw [oflL_succ]
        rw [List.take_of_length_le (by omega)] at ownv
        exact ownv
    · obtain rfl : k = H := by omega
      have R4u := R4.ext x4u
      refine ld (.slice Ak mk ck) (Pu.cell rfl) ?_
      refine len ?_
      refine cD (fun hbig => ?_) (fun hbig => ?_)
      · refine ldA [.slice none 0 0] (.blk R4u) rfl ?_
        refine stA (vs := [.slice none 0 0]) R4u rfl (Nat.le_of_ble_eq_true rfl) (by simp [Value.oneCell']) (fun we Be ke _ => ?_)
        have Be : Blk we b4 24 [.slice none 0 0] := Be
        refine ret ?_
        refine resL _ (holds_agg (.blk Be) rfl) ?_
        rw [if_pos (by omega)] at hE
        exact ⟨(x04.trans x4u).then ke fun i hi _ e => by omega, none, 0, 0, by rw [hE]; rfl, by unfold oflV; rw [hE, if_neg (by decide)]; exact .nil, Nat.le_refl _⟩
      · refine ld (.slice Ak mk ck) (Pu.cell rfl) ?_
        refine bld [.slice Ak mk ck] (by kernel_rfl) ?_
        refine stA (vs := [.slice Ak mk ck]) R4u rfl (Nat.le_of_ble_eq_true rfl) (by simp [Value.oneCell']) (fun we Be ke _ => ?_)
        have Be : Blk we b4 24 [.slice Ak mk ck] := Be
        refine ret ?_
        refine resL _ (holds_agg (.blk Be) rfl) ?_
        rw [if_neg (by omega)] at hE
        have n4 : Ak ≠ some (ad b4 0) := own_tyL ownu R4u (by decide)
        have ownw := ownu.base x04
        have owne := ownw.thenK ke (fun g hg e => n4 (by rw [hg, e])) (ownw.ext.then ke fun i hi _ e => by omega)
        refine ⟨(x04.trans x4u).then ke fun i hi _ e => by omega, Ak, mk, ck, by rw [hE]; rfl, ?_, owne.le⟩
        unfold oflV
        rw [hE, if_pos rfl, hHn]
        exact own_posts owne (by omega) fun b hb => hb
  · have own0 : OwnF w4 w5 none 0 0 26 6 ((oflL d x 0).flatMap Post.c) := by
      have e : oflL d x 0 = [] := by show oflS d = _; unfold oflS; rw [if_neg (by omega)]
      rw [e]
      exact OwnF.nil h5.ext
    refine fldA ?_
    refine ld (iv d.hours) ((Bd.ext (OwnF.ext own0)).cell rfl) ?_
    refine loop_rule (fun k : Nat => [(34, iv (k : Int))]) (fun k u => k ≤ H ∧ ∃ A m c, Blk u b6 22 [.slice A m c] ∧ OwnF w4 u A m c 26 6 ((oflL d x k).flatMap Post.c)) (fun k _ => H - k) 0 ⟨rfl, trivial⟩ ⟨Nat.zero_le _, none, 0, 0, P5, own0⟩ rfl ?_
    rintro G k u ⟨hk, Ak, mk, ck, Pu, ownu⟩
    have x4u := ownu.ext
    have s4u := x4u.size
    have lPu := Pu.lt
    have hmk : mk = (oflL d x k).length := by have := ownu.own.len; rw [posts_len] at this; omega
    have hml := oflL_len (x := x) hR hF k
    refine cD (fun hlt => ?_) (fun hge => ?_)
    · have hml' : mk ≤ 200000000 := by omega
      refine ldA [.string d.name, iv d.hours, iv d.cap, iv d.start, .slice A1 n1 c1, .slice A2 n2 c2, .slice A3 n3 c3, .slice A4 n4 c4, .slice A5 n5 c5, .slice A6 n6 c6] (.blk (Bd.ext x4u)) rfl ?_
      refine ldA [.slice B1 m1 e1, .slice B2 m2 e2, .slice B3 m3 e3, .slice B4 m4 e4, .slice B5 m5 e5, .slice B6 m6 e6, .slice B7 m7 e7] (.blk (Bx.ext x4u)) rfl ?_
      refine call_of (c_bMoves (hour := (k : Int)) (hd.ext (x04.trans x4u)) (hx.ext (x04.trans x4u))) ?_
      rintro _ u1 ⟨x1, Am, nm, cm, rfl, sm, hcm⟩
      have hnm := sm.len
      have hmv := mov_len (x := x) (hour := (k : Int)) hR hF
      have su1 := x1.size
      have sl1 : ∀ g, Ak = some (ad g 0) → g < u.heap.size := fun g hg => by
        rcases ownu.form with ⟨e, -⟩ | ⟨j', e, -, hl', -⟩
        · rw [e] at hg; cases hg
        · rw [e] at hg; injection hg with hg; injection hg with hg; omega
      refine len ?_
      refine loop_rule (fun j : Nat => [(46, iv (j : Int))]) (fun j v => j ≤ nm ∧ Kept (fun i => u.heap.size ≤ i ∧ i < u1.heap.size) u1 v ∧ ∃ A m c, Blk v b6 22 [.slice A m c] ∧ OwnF w4 v A m c 26 6 ((((movV d x (k : Int)).take j).foldl (addM k) (oflL d x k)).flatMap Post.c) ∧ ∀ g, A = some (ad g 0) → g < u.heap.size ∨ u1.heap.size ≤ g) (fun j _ => nm - j) 0 ⟨rfl, trivial⟩ ⟨by omega, .refl _ _, Ak, mk, ck, Pu.ext x1, ownu.then x1, fun g hg => .inl (sl1 g hg)⟩ rfl ?_
      rintro G2 j v ⟨hj, kv, Aj, mj, cj, Pv, ownv, hAj⟩
      have sv := kv.size
      have hmj : mj = (oflL d x k).length + j := by
        have := ownv.own.len
        rw [posts_len, foldM_len, List.length_take] at this
        have : ((oflL d x k).length + min j (movV d x (k : Int)).length) * 6 = mj * 6 := this
        omega
      refine cD (fun hlt2 => ?_) (fun hge2 => ?_)
      · obtain ⟨bx', o, cs, m, rfl, hm, -, -, hc, hcs⟩ := ((sm.more (D' := fun i => u.heap.size ≤ i ∧ i < u1.heap.size) (by decide) fun b hb h => ⟨h, hb⟩).kept kv fun i _ h => h).at_ (k := j) (by omega)
        have hcs : cs = m.c := hcs
        subst hcs
        refine idx j rfl (by omega) ?_
        refine ldA m.c hc rfl ?_
        refine alloc (fun b12 v1 hv1 => ?_)
        refine stA (vs := m.c) hv1.blk rfl (Nat.le_of_ble_eq_true rfl) (by simp [Value.oneCell']) (fun v2 M2 k2 _ => ?_)
        have M2 : Blk v2 b12 138 m.c := M2
        have a12 := hv1.at_
        have xv2 : Ext v v2 := hv1.ext.then k2 fun b hb _ e => by omega
        have sv2 := xv2.size
        refine fldA ?_
        refine ldA [iv m.frm.1, iv m.frm.2] ((CellsAt.blk M2).mid 0 2) rfl ?_
        refine fldA ?_
        refine ldA [iv m.to.1, iv m.to.2] ((CellsAt.blk M2).mid 2 2) rfl ?_
        refine fldA ?_
        refine ld (iv m.litres) (M2.cell rfl) ?_
        obtain ⟨hK1, hK2⟩ := mov_inK h0 m (List.mem_of_getElem? hm)
        have hb1 := inK_b hK1 hR hF
        have hb2 := inK_b hK2 hR hF
        refine call_of (c_lOf1 (Pv.ext xv2) (ownv.then xv2) (by omega) (by omega) (by omega) (by omega)) ?_
        rintro _ v3 ⟨rfl, A3, c3', P3, own3, k3, hA3⟩
        refine arI (n := (j : Int) + 1) (by omega) ?_
        refine next (j + 1) ⟨by rw [Int.natCast_add]; rfl, trivial⟩ ⟨by omega, (kv.ext xv2).trans (k3.weak fun i _ hi => ⟨by omega, fun e => by have := hAj i e; omega⟩), A3, mj + 1, c3', P3, ?_, fun g hg => ?_⟩ (by omega)
        · have htk : (movV d x (k : Int)).take (j + 1) = (movV d x (k : Int)).take j ++ [m] := by rw [List.take_add_one, hm]; rfl
          rw [htk, foldM_snoc]
          have hfl := foldM_len k ((movV d x (k : Int)).take j) (oflL d x k)
          rw [List.length_take, show min j (movV d x (k : Int)).length = j by omega, ← hmj] at hfl
          obtain ⟨L, hL⟩ : ∃ L, L = ((movV d x (k : Int)).take j).foldl (addM k) (oflL d x k) := ⟨_, rfl⟩
          rw [← hL] at own3 hfl ⊢
          show OwnF _ _ _ _ _ _ _ ((L ++ [(⟨(L.length : Int), (k : Int), 1, numA m.frm, numA m.to, m.litres⟩ : Post)]).flatMap Post.c)
          rw [hfl]
          exact own3
        · rcases hA3 g hg with h | h
          · exact hAj g h
          · exact .inr (by omega)
      · refine arI (n := (k : Int) + 1) (by omega) ?_
        refine next (k + 1) ⟨by rw [Int.natCast_add]; rfl, trivial⟩ ⟨by omega, Aj, mj, cj, Pv, ?_⟩ (by omega)
        rw [oflL_succ]
        rw [List.take_of_length_le (by omega)] at ownv
        exact ownv
    · obtain rfl : k = H := by omega
      have R4u := R4.ext x4u
      refine ld (.slice Ak mk ck) (Pu.cell rfl) ?_
      refine len ?_
      refine cD (fun hbig => ?_) (fun hbig => ?_)
      · refine ldA [.slice none 0 0] (.blk R4u) rfl ?_
        refine stA (vs := [.slice none 0 0]) R4u rfl (Nat.le_of_ble_eq_true rfl) (by simp [Value.oneCell']) (fun we Be ke _ => ?_)
        have Be : Blk we b4 24 [.slice none 0 0] := Be
        refine ret ?_
        refine resL _ (holds_agg (.blk Be) rfl) ?_
        rw [if_pos (by omega)] at hE
        exact ⟨(x04.trans x4u).then ke fun i hi _ e => by omega, none, 0, 0, by rw [hE]; rfl, by unfold oflV; rw [hE, if_neg (by decide)]; exact .nil, Nat.le_refl _⟩
      · refine ld (.slice Ak mk ck) (Pu.cell rfl) ?_
        refine bld [.slice Ak mk ck] (by kernel_rfl) ?_
        refine stA (vs := [.slice Ak mk ck]) R4u rfl (Nat.le_of_ble_eq_true rfl) (by simp [Value.oneCell']) (fun we Be ke _ => ?_)
        have Be : Blk we b4 24 [.slice Ak mk ck] := Be
        refine ret ?_
        refine resL _ (holds_agg (.blk Be) rfl) ?_
        rw [if_neg (by omega)] at hE
        have n4 : Ak ≠ some (ad b4 0) := own_tyL ownu R4u (by decide)
        have ownw := ownu.base x04
        have owne := ownw.thenK ke (fun g hg e => n4 (by rw [hg, e])) (ownw.ext.then ke fun i hi _ e => by omega)
        refine ⟨(x04.trans x4u).then ke fun i hi _ e => by omega, Ak, mk, ck, by rw [hE]; rfl, ?_, owne.le⟩
        unfold oflV
        rw [hE, if_pos rfl, hHn]
        exact own_posts owne (by omega) fun b hb => hb
end
end Go.Proofs.YtehcphboliofaaaGreatDoor

/- Law 56: the example of sane, plainly. -/
namespace Go.Proofs.YtehcphboliofaaaGreatDoor
open Go Go.RowKit

def lA : List Post := [⟨3, 1, 1, 0, 1, 5⟩, ⟨4, 2, 1, 1, 9, 2⟩]
def pA : Post := ⟨7, 2, 1, 9, 2, 2⟩
def pB : Post := ⟨7, 2, 1, 9, 2, 3⟩
def lB : List Post := lA ++ [pA]
theorem lA_ok : LOk lA := by
  refine (LOk_snoc (l := [⟨3, 1, 1, 0, 1, 5⟩])).2 ⟨(LOk_snoc (l := [])).2 ⟨LOk.nil, ?_⟩, ?_⟩
  · exact { no := by decide, hour := by decide, sort := by decide, n := by decide, frm := by decide, to := by decide, ne := by decide, aft := (fun q h => by cases h), has := fun h => absurd rfl h, fit := by decide }
  · exact { no := by decide, hour := by decide, sort := by decide, n := by decide, frm := by decide, to := by decide, ne := by decide, aft := (fun q h => by injection h with h; subst h; decide), has := fun _ => by decide, fit := by decide }
theorem lB_ok : LOk lB := LOk_snoc.2 ⟨lA_ok, { no := by decide, hour := by decide, sort := by decide, n := by decide, frm := by decide, to := by decide, ne := by decide, aft := (fun q h => by injection h with h; subst h; decide), has := fun _ => by decide, fit := by decide }⟩
theorem lC_bad : ¬ LOk (lA ++ [pB]) := fun h => absurd ((LOk_snoc.1 h).2.has (by decide)) (by decide)
theorem eA : ldgErr lA = 0 := ldgErr_0.2 ⟨by decide, lA_ok⟩
theorem eB : ldgErr lB = 0 := ldgErr_0.2 ⟨by decide, lB_ok⟩
theorem e0 : ldgErr [] = 0 := ldgErr_0.2 ⟨by decide, LOk.nil⟩
theorem post_A : postE lA pA = 0 := by unfold postE; rw [if_neg (fun h => h eA)]; exact eB
theorem post_B : postE lA pB = 560 := by unfold postE; rw [if_neg (fun h => h eA)]; unfold ldgErr; rw [if_neg (by decide), if_neg lC_bad]
theorem bal_1 : balE lA 1 1 1 = 0 := by unfold balE; rw [if_neg (fun h => h eA), if_pos (by decide)]
theorem bal_1v : balH lA (1, 1) 1 = 5 := by decide
theorem bal_2 : balE lB 1 1 4096 = 0 := by unfold balE; rw [if_neg (fun h => h eB), if_pos (by decide)]
theorem bal_2v : balH lB (1, 1) 4096 = 3 := by decide
theorem bal_3 : balE lA 3 0 0 = 1 := by unfold balE; rw [if_neg (fun h => h eA), if_neg (by decide)]
theorem bals_1 : balsE lB 1 = 0 := by unfold balsE; rw [if_neg (fun h => h eB), if_pos (by decide)]
theorem bals_2 : balsE lB 2 = 0 := by unfold balsE; rw [if_neg (fun h => h eB), if_pos (by decide)]
theorem balP_1 : balP lB 1 4096 = [(0, -5), (1, 3), (2, 2)] := by kernel_rfl
theorem balP_2 : balP lB 2 4096 = [] := by kernel_rfl
theorem sane_dsk : (newP 6).2 = 0 ∧ loadP (newP 6).1 = ([], 0) ∧ (storeP (newP 6).1 lA).2 = 0 ∧ (storeP (storeP (newP 6).1 lA).1 lB).2 = 0 ∧ loadP (storeP (storeP (newP 6).1 lA).1 lB).1 = (lB, 0) ∧ (storeP (storeP (storeP (newP 6).1 lA).1 lB).1 lA).2 = 560 := by
  obtain ⟨a1, a2, a3, a4⟩ := Hol.new (n := 6) (by omega)
  have a4 : (newP 6).1.secs.length = 6 := a4
  refine ⟨a1, Hol.load (l := []) a2 LOk.nil, ?_⟩
  rcases Hol.store (l := lA) (k := 0) (m := 1) a2 (by omega) lA_ok (by decide) (by decide) with ⟨h, -⟩ | ⟨b1, b2, b3, b4⟩ | ⟨h, -⟩
  · rw [a4] at h; exact absurd h (by decide)
  rotate_left
  · rw [a3] at h; exact absurd h (by decide)
  have b4 := b4 (by rw [a3]; decide)
  rw [a3] at b4
  rw [a4] at b3
  rcases Hol.store (l := lB) (k := 2) b2 (by omega) lB_ok (by decide) (by decide) with ⟨h, -⟩ | ⟨c1, c2, c3, c4⟩ | ⟨h, -⟩
  · rw [b3] at h; exact absurd h (by decide)
  rotate_left
  · rw [b4] at h; exact absurd h (by decide)
  refine ⟨b1, c1, Hol.load c2 lB_ok, ?_⟩
  unfold storeP
  have hr := c2.recs
  unfold storeP at hr c2
  rw [if_neg (fun q => q eA), c2.open_, if_neg (fun q => q rfl), if_pos]
  rw [hr]
  intro h
  exact absurd (congrArg List.length h) (by decide)
def zd56 : Dist := ⟨ByteArray.empty, 0, 0, 0, [], [], [], [], [], []⟩
def zx56 : Run := ⟨[], [], [], [], [], [], []⟩
theorem zd_err : bErr zd56 zx56 = 191 := by kernel_rfl
theorem zd_of : oflE zd56 zx56 = 191 := by unfold oflE; rw [zd_err]; rfl
end Go.Proofs.YtehcphboliofaaaGreatDoor

/- Law 56: sane. -/
namespace Go.Proofs.YtehcphboliofaaaGreatDoor
open Go Go.RowKit

/-- What comes behind several orders of one thing is shown once: by the slots and the world. -/
theorem draw_has {P : Program} {ops : Array Oper} {K : Fr → World → Prop} {X : XK} {F : Fr} {w : World} {σ : Type} (enc : σ → List (Nat × Value)) (I : σ → World → Prop) (h : DrawH P ops (fun F' w' => ∃ s, Has F' (enc s) ∧ I s w') X F w) (k : ∀ G s w', I s w' → K (upds (enc s) (mix (wr ops.toList) F G)) w') : DrawH P ops K X F w :=
  draw_then h fun F' w' hf ⟨s, hs, hi⟩ => by
    have hm : mix (wr ops.toList) F F' = F' := funext fun j => by
      show (bif memN j (wr ops.toList) then F' j else F j) = F' j
      cases hb : memN j (wr ops.toList) with
      | true => rfl
      | false => exact (hf j hb).symm
    have := k F' s w' hi
    rwa [hm, upds_has hs] at this
instance eqDig : EqTy Tryz.prog 47 := ⟨by kernel_rfl⟩
instance eqPost : EqTy Tryz.prog 26 := ⟨by kernel_rfl⟩
theorem cells_u8 : Tryz.prog.cellsOf 5 = 1 := by kernel_rfl
theorem part_u8 {l : List Nat} {i x : Nat} (h : l[i]? = some x) : partV Tryz.prog 5 (u8s l) (i * Tryz.prog.cellsOf 5) = some (uv8 x) := by
  unfold partV
  rw [Tryz.underlying5, cells_u8, Nat.mul_one]
  show (u8s l)[i]? = _
  rw [List.getElem?_map, h]
  rfl
theorem eqV_u8 (x : Nat) (d : Nat) : eqV Tryz.prog (d + 1) 5 (uv8 x) (uv8 x) = some true := by
  unfold eqV
  rw [Tryz.underlying5]
  show some ((x : Int) == (x : Int)) = _
  rw [beq_self_eq_true]
theorem eqI_self {l : List Nat} : ∀ {is : List Nat}, (∀ i ∈ is, i < l.length) → eqI Tryz.prog (eqV Tryz.prog 7) 5 (u8s l) (u8s l) is = some true
  | [], _ => rfl
  | i :: is, h => by
    obtain ⟨x, hx⟩ : ∃ x, l[i]? = some x := ⟨_, List.getElem?_eq_getElem (h i List.mem_cons_self)⟩
    unfold eqI
    rw [part_u8 hx, eqI_self fun j hj => h j (List.mem_cons_of_mem _ hj)]
    dsimp only
    rw [eqV_u8]
    rfl
theorem eqV_dig {l : List Nat} (h : l.length = 32) : eqV Tryz.prog 8 47 (.agg (u8s l).toArray) (.agg (u8s l).toArray) = some true := by
  unfold eqV
  rw [Tryz.underlying47]
  show (if (Tryz.prog.info? 5).isSome then eqI Tryz.prog (eqV Tryz.prog 7) 5 (u8s l) (u8s l) (List.range 32) else none) = some true
  rw [if_pos (by kernel_rfl)]
  exact eqI_self fun i hi => by rw [h]; exact List.mem_range.1 hi
section
variable {w : World}
theorem c_lposting {no hour f t n : Int} : CallZ Tryz.prog 39 #[iv no, iv hour, iv f, iv t, iv n] w (fun v w' => v = .agg #[iv no, iv hour, iv 1, iv f, iv t, iv n] ∧ Ext w w') := by
  refine fn_rule (args := [iv no, iv hour, iv f, iv t, iv n]) Tryz.func39 (by kernel_rfl) ?_
  refine alloc (fun b w1 h1 => ?_)
  refine bld [iv no, iv hour, iv 1, iv f, iv t, iv n] (by kernel_rfl) ?_
  refine stA (vs := [iv no, iv hour, iv 1, iv f, iv t, iv n]) h1.blk rfl (Nat.le_of_ble_eq_true rfl) (by simp [Value.oneCell']) (fun w2 B2 k2 _ => ?_)
  have B2 : Blk w2 b 26 [iv no, iv hour, iv 1, iv f, iv t, iv n] := B2
  have e1 := h1.at_
  refine ret ?_
  refine resL _ (holds_agg (.blk B2) rfl) ?_
  exact ⟨rfl, h1.ext.then k2 fun i hi _ e => by omega⟩
theorem zd_r : DiR (fun _ => True) w [.string ByteArray.empty, iv 0, iv 0, iv 0, .slice none 0 0, .slice none 0 0, .slice none 0 0, .slice none 0 0, .slice none 0 0, .slice none 0 0] zd56 := DiR.of_ ⟨_, _, _, _, _, _, _, _, _, _, _, _, _, _, _, _, _, _, rfl, .nil, .nil, .nil, .nil, .nil, .nil⟩
theorem zx_r : RuR (fun _ => True) w [.slice none 0 0, .slice none 0 0, .slice none 0 0, .slice none 0 0, .slice none 0 0, .slice none 0 0, .slice none 0 0] zx56 := RuR.of_ ⟨_, _, _, _, _, _, _, _, _, _, _, _, _, _, _, _, _, _, _, _, _, rfl, .nil, .nil, .nil, .nil, .nil, .nil, .nil, Nat.le_refl _, Nat.le_refl _⟩
set_option maxRecDepth 10000 in
set_option maxHeartbeats 8000000 in
theorem c_lsane (hN : NumW w) : CallZ Tryz.prog 10 #[] w (fun v w' => v = .bool true ∧ Ext w w') := by
  obtain ⟨d0, hd0⟩ : ∃ d0, d0 = (newP 6).1 := ⟨_, rfl⟩
  obtain ⟨s1, s2, s3, s4, s5, s6⟩ := sane_dsk
  rw [← hd0] at s2 s3 s4 s5 s6
  obtain ⟨d1, hd1⟩ : ∃ d1, d1 = (storeP d0 lA).1 := ⟨_, rfl⟩
  rw [← hd1] at s4 s5 s6
  obtain ⟨d2, hd2⟩ : ∃ d2, d2 = (storeP d1 lB).1 := ⟨_, rfl⟩
  rw [← hd2] at s5 s6
  obtain ⟨d3, hd3⟩ : ∃ d3, d3 = (storeP d2 lA).1 := ⟨_, rfl⟩
  obtain ⟨rt, hrt⟩ : ∃ rt : List Nat, rt = tagB (bl noneT) [] := ⟨_, rfl⟩
  have hrl : rt.length = 32 := by rw [hrt]; exact shaB_len _
  refine fn_rule (args := []) Tryz.func10 (by kernel_rfl) ?_
  refine call_of c_lposting ?_
  rintro _ w1 ⟨rfl, x1⟩
  refine call_of c_lposting ?_
  rintro _ w2 ⟨rfl, x2⟩
  refine lit [.agg #[iv 3, iv 1, iv 1, iv 0, iv 1, iv 5], .agg #[iv 4, iv 2, iv 1, iv 1, iv 9, iv 2]] (fun g w3 h3 => ?_)
  refine bld [.slice (some (ad g 0)) 2 2] (by kernel_rfl) ?_
  refine alloc (fun b1' wa1' ha1' => ?_)
  refine stA (vs := [.slice (some (ad g 0)) 2 2]) ha1'.blk rfl (Nat.le_of_ble_eq_true rfl) (by simp [Value.oneCell']) (fun w1' L1' k1' _ => ?_)
  have L1' : Blk w1' b1' 24 [.slice (some (ad g 0)) 2 2] := L1'
  have at1' := ha1'.at_
  have xs : Ext w3 w1' := ha1'.ext.then k1' fun i hi _ e => by omega
  have sA : SlR tPost (fun _ => True) w1' (some (ad g 0)) 2 lA := (SlR.of_cells rfl (by decide) trivial (.blk h3.blk) ⟨_, _, rfl, rfl, _, _, rfl, rfl, rfl⟩ : SlR tPost (fun _ => True) w3 (some (ad g 0)) 2 lA).ext xs
  have x0 : Ext w w1' := (x1.trans x2).trans (h3.ext.trans xs)
  refine draw_has (fun s : Nat × Option Addr × Nat × Nat => [(2, ptr s.1), (3, iv 0)]) (fun s u => Ext w1' u ∧ Blk u s.1 24 [.slice s.2.1 s.2.2.1 s.2.2.2] ∧ SlR tPost (fun _ => True) u s.2.1 s.2.2.1 lB) ?_ ?_
  · have xc : Ext w1' w1' := .refl _ _
    refine drawP (.take 0 (.alt 1 (.alt 2 (.take 3 (.take 4 (.take 5 (.eff 6 (.eff 7 (.take 8 .done)))))) (.eff 6 (.eff 2 (.take 3 (.take 4 (.take 5 (.eff 7 (.take 8 .done)))))))) (.eff 6 (.eff 1 (.eff 2 (.take 3 (.take 4 (.take 5 (.eff 7 (.take 8 .done)))))))))) [] (fun y => Ext w1' y) mx (by kernel_rfl) (.refl _ _) ?_
    refine ldAX [.slice (some (ad g 0)) 2 2] (.blk L1') rfl (.refl _ _) ?_
    refine ⟨?q1, ?q6⟩
    case' q1 =>
      refine call_of c_lposting ?_
      rintro _ wp ⟨rfl, xp⟩
      have xc := xc.trans xp
      try (have B6 := Blk.ext B6 xp)
      refine strS xc ?_
      refine ⟨?q12, ?q16⟩
    case' q12 =>
      refine call_of (c_gPost (p := pA) (sA.ext xc)) ?_
      rintro _ wq ⟨xq, F, m, c', rfl, ⟨h, -⟩ | ⟨-, sF, -⟩⟩
      · exact absurd post_A h
      have xc := xc.trans xq
      have sF : SlR tPost (fun b => wp.heap.size ≤ b ∧ b < wq.heap.size) wq F m lB := sF.more (by decide) fun _ hb h => ⟨h, hb⟩
      try (have lb6 := Blk.lt B6)
      try (have B6 := Blk.ext B6 xq)
      rw [post_A]
      refine strS xc ?_
      refine alloc (fun b6 wa h6 => ?_)
      have e6 := h6.at_
      have B6 : Blk wa b6 24 [.slice none 0 0] := h6.blk
      have m6 : w1'.heap.size ≤ b6 := by have := xc.size; omega
      have xc := xc.trans h6.ext
      try (have sF := SlR.ext sF h6.ext)
      refine strS xc ?_
    case' q16 =>
      refine alloc (fun b6 wa h6 => ?_)
      have e6 := h6.at_
      have B6 : Blk wa b6 24 [.slice none 0 0] := h6.blk
      have m6 : w1'.heap.size ≤ b6 := by have := xc.size; omega
      have xc := xc.trans h6.ext
      try (have sF := SlR.ext sF h6.ext)
      refine strS xc ?_
      refine call_of (c_gPost (p := pA) (sA.ext xc)) ?_
      rintro _ wq ⟨xq, F, m, c', rfl, ⟨h, -⟩ | ⟨-, sF, -⟩⟩
      · exact absurd post_A h
      have xc := xc.trans xq
      have sF : SlR tPost (fun b => wa.heap.size ≤ b ∧ b < wq.heap.size) wq F m lB := sF.more (by decide) fun _ hb h => ⟨h, hb⟩
      try (have lb6 := Blk.lt B6)
      try (have B6 := Blk.ext B6 xq)
      rw [post_A]
      refine strS xc ?_
    case' q6 =>
      refine alloc (fun b6 wa h6 => ?_)
      have e6 := h6.at_
      have B6 : Blk wa b6 24 [.slice none 0 0] := h6.blk
      have m6 : w1'.heap.size ≤ b6 := by have := xc.size; omega
      have xc := xc.trans h6.ext
      try (have sF := SlR.ext sF h6.ext)
      refine strS xc ?_
      refine call_of c_lposting ?_
      rintro _ wp ⟨rfl, xp⟩
      have xc := xc.trans xp
      try (have B6 := Blk.ext B6 xp)
      refine strS xc ?_
      refine call_of (c_gPost (p := pA) (sA.ext xc)) ?_
      rintro _ wq ⟨xq, F, m, c', rfl, ⟨h, -⟩ | ⟨-, sF, -⟩⟩
      · exact absurd post_A h
      have xc := xc.trans xq
      have sF : SlR tPost (fun b => wp.heap.size ≤ b ∧ b < wq.heap.size) wq F m lB := sF.more (by decide) fun _ hb h => ⟨h, hb⟩
      try (have lb6 := Blk.lt B6)
      try (have B6 := Blk.ext B6 xq)
      rw [post_A]
      refine strS xc ?_
    all_goals
      refine stA (vs := [.slice F m c']) B6 rfl (Nat.le_of_ble_eq_true rfl) (by simp [Value.oneCell']) (fun wz C6 k6 _ => ?_)
      have C6 : Blk wz b6 24 [.slice F m c'] := C6
      have xz : Ext w1' wz := xc.then k6 fun i hi _ e => by omega
      have sz : SlR tPost (fun _ => True) wz F m lB := (sF.kept k6 fun b _ h => by omega).more (by decide) fun _ _ _ => trivial
      refine strS xz ?_
      exact ⟨(b6, F, m, c'), ⟨rfl, rfl, trivial⟩, xz, C6, sz⟩
  rintro G2 ⟨b2, F, m, c⟩ w5 ⟨x15, L2, sB⟩
  have hm3 : 3 = m := sB.len
  subst hm3
  have L1 := L1'.ext x15
  have sA := sA.ext x15
  have x0 := x0.trans x15
  refine draw_has (fun b4 : Nat => [(4, ptr b4), (5, iv 560)]) (fun _ u => Ext w5 u) ?_ ?_
  · have xc : Ext w5 w5 := .refl _ _
    refine drawP (.take 0 (.alt 1 (.alt 2 (.take 3 (.take 4 (.take 5 (.eff 6 (.eff 7 (.take 8 .done)))))) (.eff 6 (.eff 2 (.take 3 (.take 4 (.take 5 (.eff 7 (.take 8 .done)))))))) (.eff 6 (.eff 1 (.eff 2 (.take 3 (.take 4 (.take 5 (.eff 7 (.take 8 .done)))))))))) [] (fun y => Ext w5 y) mx (by kernel_rfl) (.refl _ _) ?_
    refine ldAX [.slice (some (ad g 0)) 2 2] (.blk L1) rfl (.refl _ _) ?_
    refine ⟨?r1, ?r6⟩
    case' r1 =>
      refine call_of c_lposting ?_
      rintro _ wp ⟨rfl, xp⟩
      have xc := xc.trans xp
      try (have B6 := Blk.ext B6 xp)
      refine strS xc ?_
      refine ⟨?r12, ?r16⟩
    case' r12 =>
      refine call_of (c_gPost (p := pB) (sA.ext xc)) ?_
      rintro _ wq ⟨xq, F, m, c', rfl, ⟨-, rfl, rfl, rfl⟩ | ⟨h, -⟩⟩
      rotate_left
      · exact absurd h (by rw [post_B]; decide)
      have xc := xc.trans xq
      try (have B6 := Blk.ext B6 xq)
      rw [post_B]
      refine strS xc ?_
      refine alloc (fun b6 wa h6 => ?_)
      have e6 := h6.at_
      have B6 : Blk wa b6 24 [.slice none 0 0] := h6.blk
      have m6 : w5.heap.size ≤ b6 := by have := xc.size; omega
      have xc := xc.trans h6.ext
      try (have sF := SlR.ext sF h6.ext)
      refine strS xc ?_
    case' r16 =>
      refine alloc (fun b6 wa h6 => ?_)
      have e6 := h6.at_
      have B6 : Blk wa b6 24 [.slice none 0 0] := h6.blk
      have m6 : w5.heap.size ≤ b6 := by have := xc.size; omega
      have xc := xc.trans h6.ext
      try (have sF := SlR.ext sF h6.ext)
      refine strS xc ?_
      refine call_of (c_gPost (p := pB) (sA.ext xc)) ?_
      rintro _ wq ⟨xq, F, m, c', rfl, ⟨-, rfl, rfl, rfl⟩ | ⟨h, -⟩⟩
      rotate_left
      · exact absurd h (by rw [post_B]; decide)
      have xc := xc.trans xq
      try (have B6 := Blk.ext B6 xq)
      rw [post_B]
      refine strS xc ?_
    case' r6 =>
      refine alloc (fun b6 wa h6 => ?_)
      have e6 := h6.at_
      have B6 : Blk wa b6 24 [.slice none 0 0] := h6.blk
      have m6 : w5.heap.size ≤ b6 := by have := xc.size; omega
      have xc := xc.trans h6.ext
      try (have sF := SlR.ext sF h6.ext)
      refine strS xc ?_
      refine call_of c_lposting ?_
      rintro _ wp ⟨rfl, xp⟩
      have xc := xc.trans xp
      try (have B6 := Blk.ext B6 xp)
      refine strS xc ?_
      refine call_of (c_gPost (p := pB) (sA.ext xc)) ?_
      rintro _ wq ⟨xq, F, m, c', rfl, ⟨-, rfl, rfl, rfl⟩ | ⟨h, -⟩⟩
      rotate_left
      · exact absurd h (by rw [post_B]; decide)
      have xc := xc.trans xq
      try (have B6 := Blk.ext B6 xq)
      rw [post_B]
      refine strS xc ?_
    all_goals
      refine stA (vs := [.slice none 0 0]) B6 rfl (Nat.le_of_ble_eq_true rfl) (by simp [Value.oneCell']) (fun wz C6 k6 _ => ?_)
      have xz : Ext w5 wz := xc.then k6 fun i hi _ e => by omega
      refine strS xz ?_
      exact ⟨b6, ⟨rfl, rfl, trivial⟩, xz⟩
  intro G4 b4 w6 x56
  have L1 := L1.ext x56
  have L2 := L2.ext x56
  have sA := sA.ext x56
  have sB := sB.ext x56
  have x0 := x0.trans x56
  refine ldA [.slice (some (ad g 0)) 2 2] (.blk L1) rfl ?_
  refine call_of (c_gBalance sA) ?_
  rintro _ w7 ⟨rfl, x7⟩
  rw [bal_1, if_pos rfl, bal_1v]
  refine ldA [.slice F 3 c] (.blk (L2.ext x7)) rfl ?_
  refine call_of (c_gBalance (sB.ext x7)) ?_
  rintro _ w8 ⟨rfl, x8⟩
  have x68 := x7.trans x8
  rw [bal_2, if_pos rfl, bal_2v]
  refine ldA [.slice F 3 c] (.blk (L2.ext x68)) rfl ?_
  refine call_of (c_gBalances (so := 1) (sB.ext x68)) ?_
  rintro _ w9 ⟨x9, C1, m1, k1, rfl, sC1⟩
  have x69 := x68.trans x9
  rw [bals_1, if_pos rfl, balP_1] at sC1
  rw [bals_1]
  have hm1 : 3 = m1 := sC1.len
  subst hm1
  refine ldA [.slice F 3 c] (.blk (L2.ext x69)) rfl ?_
  refine call_of (c_gBalances (so := 2) (sB.ext x69)) ?_
  rintro _ w10 ⟨x10, C2, m2, k2, rfl, sC2⟩
  rw [bals_2, if_pos rfl, balP_2] at sC2
  rw [bals_2]
  have hm2 : 0 = m2 := sC2.len
  subst hm2
  have x6a := x69.trans x10
  refine ldA [.slice (some (ad g 0)) 2 2] (.blk (L1.ext x6a)) rfl ?_
  refine call_of (c_gBalance (sA.ext x6a)) ?_
  rintro _ w11 ⟨rfl, x11⟩
  rw [bal_3, if_neg (by decide)]
  have x6b := x6a.trans x11
  have sC1 := sC1.ext (x10.trans x11)
  have L1 := L1.ext x6b
  have L2 := L2.ext x6b
  have sA := sA.ext x6b
  have sB := sB.ext x6b
  have x0 := x0.trans x6b
  refine call_of (c_dNew (n := 6) (by unfold I64; omega)) ?_
  rintro _ w12 ⟨cs0, rfl, D0, x12⟩
  rw [← hd0] at D0
  rw [s1]
  obtain ⟨A0, n0, c0, B0, m0, e0', rfl, -⟩ := D0.ex
  refine alloc (fun b16 wa16 ha16 => ?_)
  refine stA (vs := [.slice A0 n0 c0, .slice B0 m0 e0', iv d0.left, .bool d0.stop]) ha16.blk rfl (Nat.le_of_ble_eq_true rfl) (by simp [Value.oneCell']) (fun w16 L16 k16 _ => ?_)
  have L16 : Blk w16 b16 44 [.slice A0 n0 c0, .slice B0 m0 e0', iv d0.left, .bool d0.stop] := L16
  have at16 := ha16.at_
  have xs : Ext w12 w16 := ha16.ext.then k16 fun i hi _ e => by omega
  have D0 := D0.ext xs
  have xb := x12.trans xs
  refine ldA [.slice A0 n0 c0, .slice B0 m0 e0', iv d0.left, .bool d0.stop] (.blk L16) rfl ?_
  refine call_of (c_lLoad D0) ?_
  rintro _ w13 ⟨x13, E1, q1, f1, rfl, sE1, -⟩
  rw [s2] at sE1 ⊢
  have hq1 : 0 = q1 := sE1.len
  subst hq1
  refine alloc (fun b18 wa18 ha18 => ?_)
  refine stA (vs := [.slice E1 0 f1]) ha18.blk rfl (Nat.le_of_ble_eq_true rfl) (by simp [Value.oneCell']) (fun w18 L18 k18 _ => ?_)
  have L18 : Blk w18 b18 24 [.slice E1 0 f1] := L18
  have at18 := ha18.at_
  have xs : Ext w13 w18 := ha18.ext.then k18 fun i hi _ e => by omega
  have L16 := (L16.ext x13).ext xs
  have D0 := (D0.ext x13).ext xs
  have xb := xb.trans (x13.trans xs)
  refine ldA [.slice A0 n0 c0, .slice B0 m0 e0', iv d0.left, .bool d0.stop] (.blk L16) rfl ?_
  refine ldA [.slice (some (ad g 0)) 2 2] (.blk (L1.ext xb)) rfl ?_
  refine call_of (c_lStore D0 (sA.ext xb)) ?_
  rintro _ w14 ⟨cs1, rfl, D1, x14⟩
  rw [← hd1] at D1
  rw [s3]
  obtain ⟨A1, n1, c1, B1, m1', e1', rfl, -⟩ := D1.ex
  refine alloc (fun b20 wa20 ha20 => ?_)
  refine stA (vs := [.slice A1 n1 c1, .slice B1 m1' e1', iv d1.left, .bool d1.stop]) ha20.blk rfl (Nat.le_of_ble_eq_true rfl) (by simp [Value.oneCell']) (fun w20 L20 k20 _ => ?_)
  have L20 : Blk w20 b20 44 [.slice A1 n1 c1, .slice B1 m1' e1', iv d1.left, .bool d1.stop] := L20
  have at20 := ha20.at_
  have xs : Ext w14 w20 := ha20.ext.then k20 fun i hi _ e => by omega
  have D1 := D1.ext xs
  have xb := xb.trans (x14.trans xs)
  have L18 := L18.ext (x14.trans xs)
  refine ldA [.slice A1 n1 c1, .slice B1 m1' e1', iv d1.left, .bool d1.stop] (.blk L20) rfl ?_
  refine ldA [.slice F 3 c] (.blk (L2.ext xb)) rfl ?_
  refine call_of (c_lStore D1 (sB.ext xb)) ?_
  rintro _ w15 ⟨cs2, rfl, D2, x15'⟩
  rw [← hd2] at D2
  rw [s4]
  obtain ⟨A2, n2, c2, B2, m2', e2', rfl, -⟩ := D2.ex
  refine alloc (fun b22 wa22 ha22 => ?_)
  refine stA (vs := [.slice A2 n2 c2, .slice B2 m2' e2', iv d2.left, .bool d2.stop]) ha22.blk rfl (Nat.le_of_ble_eq_true rfl) (by simp [Value.oneCell']) (fun w22 L22 k22 _ => ?_)
  have L22 : Blk w22 b22 44 [.slice A2 n2 c2, .slice B2 m2' e2', iv d2.left, .bool d2.stop] := L22
  have at22 := ha22.at_
  have xs : Ext w15 w22 := ha22.ext.then k22 fun i hi _ e => by omega
  have D2 : DskR (fun _ => True) w22 _ d2 := (D2.ext xs).more fun _ _ _ => trivial
  have xb := xb.trans (x15'.trans xs)
  have L18 := L18.ext (x15'.trans xs)
  refine ldA [.slice A2 n2 c2, .slice B2 m2' e2', iv d2.left, .bool d2.stop] (.blk L22) rfl ?_
  refine call_of (c_lLoad D2) ?_
  rintro _ w16' ⟨x16, E2, q2, f2, rfl, sE2, -⟩
  rw [s5] at sE2 ⊢
  have hq2 : 3 = q2 := sE2.len
  subst hq2
  refine alloc (fun b24 wa24 ha24 => ?_)
  refine stA (vs := [.slice E2 3 f2]) ha24.blk rfl (Nat.le_of_ble_eq_true rfl) (by simp [Value.oneCell']) (fun w24 L24 k24 _ => ?_)
  have L24 : Blk w24 b24 24 [.slice E2 3 f2] := L24
  have at24 := ha24.at_
  have xs : Ext w16' w24 := ha24.ext.then k24 fun i hi _ e => by omega
  have L22 := (L22.ext x16).ext xs
  have D2 := (D2.ext x16).ext xs
  have sE2 := sE2.ext xs
  have xb := xb.trans (x16.trans xs)
  have L18 := L18.ext (x16.trans xs)
  refine ldA [.slice A2 n2 c2, .slice B2 m2' e2', iv d2.left, .bool d2.stop] (.blk L22) rfl ?_
  refine ldA [.slice (some (ad g 0)) 2 2] (.blk (L1.ext xb)) rfl ?_
  refine call_of (c_lStore D2 (sA.ext xb)) ?_
  rintro _ w17 ⟨cs3, rfl, D3, x17⟩
  rw [← hd3] at D3
  rw [s6]
  obtain ⟨A3, n3, c3, B3, m3', e3', rfl, -⟩ := D3.ex
  refine alloc (fun b26 wa26 ha26 => ?_)
  refine stA (vs := [.slice A3 n3 c3, .slice B3 m3' e3', iv d3.left, .bool d3.stop]) ha26.blk rfl (Nat.le_of_ble_eq_true rfl) (by simp [Value.oneCell']) (fun w26 L26 k26 _ => ?_)
  have L26 : Blk w26 b26 44 [.slice A3 n3 c3, .slice B3 m3' e3', iv d3.left, .bool d3.stop] := L26
  have at26 := ha26.at_
  have xs : Ext w17 w26 := ha26.ext.then k26 fun i hi _ e => by omega
  have sE2 := sE2.ext (x17.trans xs)
  have L24 := L24.ext (x17.trans xs)
  have xb := xb.trans (x17.trans xs)
  have L18 := L18.ext (x17.trans xs)
  refine bld [.slice none 0 0] (by kernel_rfl) ?_
  refine call_of (c_lRoot0 (hN.ext (x0.trans xb))) ?_
  rintro _ w18' ⟨rfl, x18⟩
  rw [← hrt]
  have hul : (u8s rt).length = 32 := by rw [List.length_map]; exact hrl
  refine alloc (fun b28 wa28 ha28 => ?_)
  refine stA (vs := u8s rt) ha28.blk hul (by rw [hul]; exact Nat.le_refl _) (fun v hv => List.all_eq_true.1 (u8s_one _) v hv) (fun w28 L28 k28 _ => ?_)
  have L28 : Blk w28 b28 47 (u8s rt) := by
    have e : ∀ X : List Value, X.length = 32 → X.drop (0 + (u8s rt).length) = [] := fun X hX => List.drop_of_length_le (by rw [hul]; omega)
    rw [List.take_zero, List.nil_append, e _ rfl, List.append_nil] at L28
    exact L28
  have at28 := ha28.at_
  have xs : Ext w18' w28 := ha28.ext.then k28 fun i hi _ e => by omega
  have sE2 := sE2.ext (x18.trans xs)
  have L24 := L24.ext (x18.trans xs)
  have xb := xb.trans (x18.trans xs)
  have L18 := L18.ext (x18.trans xs)
  refine bld [.string ByteArray.empty, iv 0, iv 0, iv 0, .slice none 0 0, .slice none 0 0, .slice none 0 0, .slice none 0 0, .slice none 0 0, .slice none 0 0] (by kernel_rfl) ?_
  refine bld [.slice none 0 0, .slice none 0 0, .slice none 0 0, .slice none 0 0, .slice none 0 0, .slice none 0 0, .slice none 0 0] (by kernel_rfl) ?_
  refine call_of (c_lOf (zd_r (w := w28)) zx_r) ?_
  rintro _ w19 ⟨x19, O1, o1, o2, rfl, -⟩
  rw [zd_of]
  refine alloc (fun b30 wa30 ha30 => ?_)
  refine stA (vs := [.slice O1 o1 o2]) ha30.blk rfl (Nat.le_of_ble_eq_true rfl) (by simp [Value.oneCell']) (fun w30 L30 k30 _ => ?_)
  have L30 : Blk w30 b30 24 [.slice O1 o1 o2] := L30
  have at30 := ha30.at_
  have xs : Ext w19 w30 := ha30.ext.then k30 fun i hi _ e => by omega
  have sE2 := sE2.ext (x19.trans xs)
  have L24 := L24.ext (x19.trans xs)
  have L28 := L28.ext (x19.trans xs)
  have xb := xb.trans (x19.trans xs)
  have L18 := L18.ext (x19.trans xs)
  iterate 15 refine cN (fun h => absurd rfl h) (fun _ => ?_)
  refine bld [.slice none 0 0] (by kernel_rfl) ?_
  refine call_of (c_gCheck (D := fun _ => True) (l := []) .nil) ?_
  rintro _ w31 ⟨rfl, x31⟩
  rw [e0]
  refine cN (fun h => absurd rfl h) (fun _ => ?_)
  have xb := xb.trans x31
  refine ldA [.slice (some (ad g 0)) 2 2] (.blk (L1.ext xb)) rfl ?_
  refine call_of (c_gCheck (sA.ext xb)) ?_
  rintro _ w32 ⟨rfl, x32⟩
  rw [eA]
  refine cN (fun h => absurd rfl h) (fun _ => ?_)
  have xb := xb.trans x32
  have x3' := x31.trans x32
  have L2 := L2.ext xb
  have sB := sB.ext xb
  have sC1 := sC1.ext xb
  have sE2 := sE2.ext x3'
  have L24 := L24.ext x3'
  have L28 := L28.ext x3'
  have L18 := L18.ext x3'
  have x0 := x0.trans xb
  refine drawP (.take 0 (.take 1 (.take 2 (.take 3 (.take 4 (.take 5 (.take 6 (.take 7 (.take 8 (.take 9 (.take 10 (.take 11 (.take 12 (.take 13 (.take 14 (.take 15 (.take 16 (.eff 17 (.eff 18 (.take 19 (.take 20 (.take 21 (.take 22 (.take 23 (.take 24 (.take 25 (.take 26 (.take 27 (.take 28 (.take 29 (.take 30 (.take 31 (.eff 32 (.take 33 (.take 34 .done))))))))))))))))))))))))))))))))))) [] (fun y => Ext w32 y) mx (by kernel_rfl) (.refl _ _) ?_
  refine fldA ?_
  refine ldX (.slice F 3 c) (L2.cell rfl) (.refl _ _) ?_
  refine len ?_
  iterate 3 refine cN (fun h => absurd rfl h) (fun _ => ?_)
  refine bld [iv 0, iv (-5)] (by kernel_rfl) ?_
  refine bld [iv 1, iv 3] (by kernel_rfl) ?_
  refine bld [iv 2, iv 2] (by kernel_rfl) ?_
  refine lit [.agg #[iv 0, iv (-5)], .agg #[iv 1, iv 3], .agg #[iv 2, iv 2]] (fun g3 w33 h33 => ?_)
  refine strS h33.ext ?_
  have sL : SlR tAB (fun _ => True) w33 (some (ad g3 0)) 3 [(0, -5), (1, 3), (2, 2)] := SlR.of_cells rfl (by decide) trivial (.blk h33.blk) ⟨_, _, rfl, rfl, _, _, rfl, rfl, _, _, rfl, rfl, rfl⟩
  refine call_of (c_r56SamePairs ((sC1.more (D' := fun _ => True) (by decide) fun _ _ _ => trivial).ext h33.ext) sL) ?_
  rintro _ wr ⟨rfl, hwr⟩
  rw [hwr, decide_eq_true rfl]
  clear hwr wr
  refine strS h33.ext ?_
  refine len ?_
  refine fldA ?_
  refine ldX (.slice E1 0 f1) (L18.cell rfl) (.refl _ _) ?_
  refine len ?_
  refine arI (by decide) ?_
  refine cD (fun h => absurd h (by omega)) (fun _ => ?_)
  refine ldAX (u8s rt) (.blk L28) hul (.refl _ _) ?_
  refine call_of (c_mRoot0 (hN.ext (x0.trans h33.ext))) ?_
  rintro _ w34 ⟨rfl, x34⟩
  rw [← hrt]
  refine strS (h33.ext.trans x34) ?_
  refine neS true (eqV_dig hrl) (fun h => by cases h) (fun _ => ?_)
  have x3'' := h33.ext.trans x34
  have L2 := L2.ext x3''
  have sB := sB.ext x3''
  have sE2 := (sE2.more (D' := fun _ => True) (by decide) fun _ _ _ => trivial).ext x3''
  have L24 := L24.ext x3''
  have x0 := x0.trans x3''
  obtain ⟨bF, oF, csF, pF, rfl, hx, -, -, hcF, hcs⟩ := sB.at_ (k := 2) (show 2 < 3 by decide)
  have hp : some pA = some pF := hx
  injection hp with hp
  subst hp
  have hcs : csF = pA.c := hcs
  subst hcs
  refine drawP (.take 0 (.take 1 (.take 2 (.take 3 (.eff 4 (.take 5 (.take 6 (.take 7 (.take 8 (.eff 9 (.take 10 (.take 11 .done)))))))))))) [] (fun y => Ext w34 y) mx (by kernel_rfl) (.refl _ _) ?_
  refine fldA ?_
  refine ldX (.slice (some (ad bF oF)) 3 c) (L2.cell rfl) (.refl _ _) ?_
  refine idx 2 rfl (by omega) ?_
  refine ldAX pA.c hcF rfl (.refl _ _) ?_
  refine call_of c_lposting ?_
  rintro _ w35 ⟨rfl, x35⟩
  refine strS x35 ?_
  refine eqS true (by kernel_rfl) (fun _ => ?_) (fun h => by cases h)
  refine ldAX [.slice E2 3 f2] (.blk L24) rfl (.refl _ _) ?_
  refine ldAX [.slice (some (ad bF oF)) 3 c] (.blk L2) rfl (.refl _ _) ?_
  refine call_of (c_r56Same (sE2.ext x35) (sB.ext x35)) ?_
  rintro _ w36 ⟨rfl, x36⟩
  rw [decide_eq_true rfl]
  refine strS (x35.trans x36) ?_
  exact ret1 (.bool true) rfl ⟨rfl, (x0.trans x35).trans x36⟩
end
end Go.Proofs.YtehcphboliofaaaGreatDoor

/- Law 56: LedgerSpec. -/
namespace Go.Proofs.YtehcphboliofaaaGreatDoor
open Go Go.RowKit Classical

/-- A ledger at hand. -/
def LedR (D : Nat → Prop) (w : World) (cs : List Value) (l : List Post) : Prop := ∃ A n c, cs = [.slice A n c] ∧ SlR tPost D w A n l ∧ n ≤ c
noncomputable def postV (l : List Post) (p : Post) : List Post := if postE l p = 0 then l ++ [p] else []
theorem post_rd {w : World} {D : Nat → Prop} {l : List Post} {p : Post} {B : Option Addr} {m c' : Nat} (h : (postE l p ≠ 0 ∧ B = none ∧ m = 0 ∧ c' = 0) ∨ (postE l p = 0 ∧ SlR tPost D w B m (l ++ [p]) ∧ m ≤ c')) : SlR tPost (fun _ => True) w B m (postV l p) ∧ m ≤ c' := by
  unfold postV
  rcases h with ⟨h, rfl, rfl, rfl⟩ | ⟨h, h1, h2⟩
  · rw [if_neg h]; exact ⟨.nil, Nat.le_refl _⟩
  · rw [if_pos h]; exact ⟨h1.more (by decide) fun _ _ _ => trivial, h2⟩
section
variable {D : Nat → Prop} {w : World} {l : List Post} {csl csp : List Value}
end
end Go.Proofs.YtehcphboliofaaaGreatDoor

/- Closing: what ledgers that are handed in read as; the numbers of the digest. -/
namespace Go.Proofs.YtehcphboliofaaaGreatDoor
open Go Go.RowKit Go.ChangeShapes Go.WideShapes Go.ChangeAt

theorem rd_posting : Rd Tryz.prog 26 tPost := by
  refine Rd.of (fun y : Int × Int × Int × Int × Int × Int => (⟨y.1, y.2.1, y.2.2.1, y.2.2.2.1, y.2.2.2.2.1, y.2.2.2.2.2⟩ : Post))
    (Rd.struct Tryz.underlying26 (by kernel_rfl) fun n => .cons (rdAt Tryz.prog 3 tInt n) rfl (.cons (rdAt Tryz.prog 3 tInt n) rfl (.cons (rdAt Tryz.prog 3 tInt n) rfl (.cons (rdAt Tryz.prog 3 tInt n) rfl (.cons (rdAt Tryz.prog 3 tInt n) rfl (.one (rdAt Tryz.prog 3 tInt n) rfl)))))) ?_
  rintro W cs ⟨a, b, c, d, e, f⟩ ⟨_, _, rfl, ⟨rfl, -⟩, _, _, rfl, ⟨rfl, -⟩, _, _, rfl, ⟨rfl, -⟩, _, _, rfl, ⟨rfl, -⟩, _, _, rfl, ⟨rfl, -⟩, ⟨rfl, -⟩⟩
  rfl
instance : Rd Tryz.prog 26 tPost := rd_posting
theorem rd_posts : Rd Tryz.prog 22 (tSl tPost) := inferInstance
theorem rd_led : Rd Tryz.prog 24 (tSl tPost) := Rd.struct Tryz.underlying24 (by kernel_rfl) fun n => .one (rd_posts.h n) rfl
theorem LedR.of {D : Nat → Prop} {w : World} {cs : List Value} {l : List Post} (h : (tSl tPost).rep D w cs l) : LedR D w cs l := by
  obtain ⟨A, n, c, h1, h2, h3⟩ := h
  exact ⟨A, n, c, h1, h2, h3⟩
theorem gStart : Tryz.prog.globalNamed "acequia/digest.start" = some 0 := by kernel_rfl
theorem gNums : Tryz.prog.globalNamed "acequia/digest.numbers" = some 1 := by kernel_rfl
theorem gStartT : (Tryz.prog.globals[0]?).map (·.type) = some 277 := by kernel_rfl
theorem gNumsT : (Tryz.prog.globals[1]?).map (·.type) = some 308 := by kernel_rfl
theorem tab_cells {W : World} {name : String} {l : List Nat} {g : Nat} (ht : Lib.TabIs Tryz.prog W name .u32 (l.map fun n : Nat => (n : Int))) (hg : Tryz.prog.globalNamed name = some g) : CellsAt (z W) g 0 (u32s l) := fun j v hv => by
  rw [List.getElem?_map] at hv
  cases hj : l[j]? with
  | none => rw [hj] at hv; cases hv
  | some x =>
    rw [hj] at hv
    obtain rfl : Value.int .u32 (x : Int) = v := Option.some.inj hv
    have hlt := (List.getElem?_eq_some_iff.1 hj).1
    have := ht.cell hg j (by rw [List.length_map]; exact hlt)
    rw [Nat.zero_add]
    rw [List.getD_eq_getElem?_getD, List.getElem?_map, hj] at this
    exact this
theorem numW {W : World} (h : laidMetH Tryz.prog [("acequia/digest.start", Rows.laid_acequia_digest_start), ("acequia/digest.numbers", Rows.laid_acequia_digest_numbers)] W) : NumW (z W) := by
  have h : laidMet Tryz.prog [("acequia/digest.start", Rows.laid_acequia_digest_start), ("acequia/digest.numbers", Rows.laid_acequia_digest_numbers)] W := h
  have h1 := Lib.tabIs_of_head (k := .u32) (zs := startL.map fun n : Nat => (n : Int)) (rest := [("acequia/digest.numbers", Rows.laid_acequia_digest_numbers)]) gStart gStartT Tryz.underlying277 Tryz.underlying222 (by kernel_rfl) (by kernel_rfl) h
  have h2 := Lib.tabIs_of_head (k := .u32) (zs := numsL.map fun n : Nat => (n : Int)) (rest := []) gNums gNumsT Tryz.underlying308 Tryz.underlying222 (by kernel_rfl) (by kernel_rfl) h.tail
  exact ⟨tab_cells h1 gStart, tab_cells h2 gNums⟩
end Go.Proofs.YtehcphboliofaaaGreatDoor
