/- The program's way is the reference's: sets of bits against lists. -/
import Derived.Test.YtpmmhcgghldaaaaDoorQ9
namespace Go.Proofs.YtpmmhcgghldaaaaDoor

/-- What a measurement shows of a hypothesis, by the numbers. -/
theorem shw_mask {l : List (List Int)} {x : Pr} {i : Nat} (hi : i < l.length) (hl : ∀ y ∈ l, setOk y = true) (hx : setOk x.2 = true) : shw l x i = decide (mask x.2 &&& (l.map mask).getD i 0 ≠ 0) := by
  unfold shw
  have e : l.getD i [] = l[i] := by rw [List.getD_eq_getElem?_getD, List.getElem?_eq_getElem hi]; rfl
  have e2 : (l.map mask).getD i 0 = mask l[i] := by rw [List.getD_eq_getElem?_getD, List.getElem?_map, List.getElem?_eq_getElem hi]; rfl
  rw [e, e2, Bool.eq_iff_iff, decide_eq_true_iff]
  exact shows_mask hx (hl _ (List.getElem_mem hi))
theorem shown_bit {l : List (List Int)} {x : Pr} (hl : ∀ y ∈ l, setOk y = true) (hx : setOk x.2 = true) (i : Nat) : (shownM (l.map mask) (mask x.2)).testBit i = (decide (i < l.length) && shw l x i) := by
  rw [shownM_bit, List.length_map]
  by_cases hi : i < l.length
  · rw [shw_mask hi hl hx]
  · rw [decide_eq_false hi]; rfl
/-- The part of a set for which a measurement shows somebody. -/
theorem part_true {l : List (List Int)} {x : Pr} {S : Nat} (hl : ∀ y ∈ l, setOk y = true) (hx : setOk x.2 = true) : partL l x (mem S l.length) true = mem (shownM (l.map mask) (mask x.2) &&& S) l.length := by
  unfold partL mem
  rw [List.filter_filter]
  refine List.filter_congr fun i hi => ?_
  have hi := List.mem_range.1 hi
  rw [Nat.testBit_and, shown_bit hl hx, decide_eq_true hi]
  cases shw l x i <;> simp
theorem part_false {l : List (List Int)} {x : Pr} {S : Nat} (hS : S < 2 ^ l.length) (hl : ∀ y ∈ l, setOk y = true) (hx : setOk x.2 = true) : partL l x (mem S l.length) false = mem (S - (shownM (l.map mask) (mask x.2) &&& S)) l.length := by
  have h1 := part_bits_split (l := l) (x := x) (list := mem S l.length)
  rw [part_true hl hx, bitsL_mem hS, bitsL_mem (Nat.lt_of_le_of_lt Nat.and_le_right hS)] at h1
  have h2 : partL l x (mem S l.length) false = (List.range l.length).filter (fun i => S.testBit i && !shw l x i) := by
    unfold partL mem
    rw [List.filter_filter]
    refine List.filter_congr fun i _ => ?_
    cases shw l x i <;> simp
  have h3 : S - (shownM (l.map mask) (mask x.2) &&& S) = bitsL (partL l x (mem S l.length) false) := by omega
  rw [h3, h2]
  unfold mem
  refine List.filter_congr fun i hi => ?_
  rw [filter_testBit, decide_eq_true (List.mem_range.1 hi)]; simp

theorem psOfEq (l : List (List Int)) (p : List Pr) : (pdOf l p).ps = p.map fun x => (x.1, shownM (l.map mask) (mask x.2)) := by
  unfold PD.ps pdOf
  induction p with
  | nil => rfl
  | cons x r ih => simp only [List.map_cons, List.zip_cons_cons]; rw [ih]
theorem part_bits {l : List (List Int)} {x : Pr} {S : Nat} (hS : S < 2 ^ l.length) (hl : ∀ y ∈ l, setOk y = true) (hx : setOk x.2 = true) : bitsL (partL l x (mem S l.length) true) = shownM (l.map mask) (mask x.2) &&& S := by
  rw [part_true hl hx, bitsL_mem (Nat.lt_of_le_of_lt Nat.and_le_right hS)]
/-- One measurement's turn: the reference's and the program's. -/
theorem step_eq {l : List (List Int)} {x : Pr} {S i : Nat} {c : Nat → Int} {rec : Nat → Int × Int} {a : Int × Bool} {b : Int × Int} (hS : S < 2 ^ l.length) (hl : ∀ y ∈ l, setOk y = true) (hx : setOk x.2 = true)
    (hc : ∀ T, T < S → c T = (rec T).1) (h1 : a.1 = b.1) (h2 : a.2 = decide (0 ≤ b.2)) :
    (rstep l c S a x).1 = (pstep rec S i (x.1, shownM (l.map mask) (mask x.2)) b).1 ∧ (rstep l c S a x).2 = decide (0 ≤ (pstep rec S i (x.1, shownM (l.map mask) (mask x.2)) b).2) := by
  rw [rstep_eq (part_bits hS hl hx)]
  unfold pstep
  by_cases hs : psep (shownM (l.map mask) (mask x.2)) S = true
  · obtain ⟨p1, p2, p3⟩ := psep_lt hs
    rw [if_neg (by omega), if_pos hs, hc _ p1, hc _ p2, h1]
    by_cases hcnd : b.2 < 0 ∨ x.1 + max (rec (shownM (l.map mask) (mask x.2) &&& S)).1 (rec (S - (shownM (l.map mask) (mask x.2) &&& S))).1 < b.1
    · rw [if_pos hcnd, if_pos (by rcases hcnd with h | h; left; rw [h2, decide_eq_false (by omega)]; right; exact h)]
      exact ⟨rfl, (decide_eq_true (by omega)).symm⟩
    · rw [if_neg hcnd, if_neg (by rintro (h | h); rw [h2, decide_eq_false_iff_not] at h; exact hcnd (.inl (by omega)); exact hcnd (.inr h))]
      exact ⟨h1, h2⟩
  · rw [if_neg hs, if_pos (by
      unfold psep at hs
      simp at hs
      by_cases h0 : shownM (l.map mask) (mask x.2) &&& S = 0
      · exact .inl h0
      · exact .inr (hs h0))]
    exact ⟨h1, h2⟩
theorem fold_eq {l : List (List Int)} {S : Nat} {c : Nat → Int} {rec : Nat → Int × Int} (hS : S < 2 ^ l.length) (hl : ∀ y ∈ l, setOk y = true) (hc : ∀ T, T < S → c T = (rec T).1) :
    ∀ (p : List Pr) (i : Nat) (a : Int × Bool) (b : Int × Int), (∀ x ∈ p, setOk x.2 = true) → a.1 = b.1 → a.2 = decide (0 ≤ b.2) →
      (p.foldl (rstep l c S) a).1 = (pfold rec S i (p.map fun x => (x.1, shownM (l.map mask) (mask x.2))) b).1
  | [], _, _, _, _, h, _ => h
  | x :: r, i, a, b, hp, h1, h2 => by
    obtain ⟨e1, e2⟩ := step_eq (i := i) hS hl (hp x List.mem_cons_self) hc h1 h2
    exact fold_eq hS hl hc r (i + 1) _ _ (fun y hy => hp y (List.mem_cons_of_mem _ hy)) e1 e2
/-- The reference's table of costs is the program's. -/
theorem tab_eq {l : List (List Int)} {p : List Pr} (hl : ∀ y ∈ l, setOk y = true) (hp : ∀ x ∈ p, setOk x.2 = true) : ∀ s, s ≤ 2 ^ l.length → ∀ T, T < s → (rtab l p s).getD T 0 = (B (pdOf l p).ps T).1
  | 0, _, T, h => absurd h (Nat.not_lt_zero _)
  | s + 1, hs, T, h => by
    have ih := tab_eq hl hp s (by omega)
    have hlen := rtab_len l p s
    rw [rtab, List.getD_eq_getElem?_getD]
    by_cases hT : T < s
    · rw [List.getElem?_append_left (by omega), ← List.getD_eq_getElem?_getD]; exact ih T hT
    · have : T = s := by omega
      subst this
      rw [List.getElem?_append_right (by omega), hlen, Nat.sub_self]
      show (rcost l p (fun k => (rtab l p T).getD k 0) T).1 = _
      unfold rcost
      rw [B_eq, psOfEq, ← psOfEq]
      have := fold_eq (S := T) (c := fun k => (rtab l p T).getD k 0) (rec := B (pdOf l p).ps) (by omega) hl (fun k hk => ih k hk) p 0 (0, false) (0, -1) hp rfl rfl
      rw [this, ← psOfEq]

/-- What the best choice is: the least cost, at the first measurement that has it. -/
def pval (rec : Nat → Int × Int) (S : Nat) (x : Int × Nat) : Int := x.1 + max (rec (x.2 &&& S)).1 (rec (S - (x.2 &&& S))).1
theorem pfold_first {rec : Nat → Int × Int} {S : Nat} : ∀ (ps : List (Int × Nat)) (i : Nat) (acc : Int × Int), (acc.2 < 0 ∨ acc.2 < i) →
    let res := pfold rec S i ps acc
    (res = acc ∧ (acc.2 < 0 → ∀ x ∈ ps, psep x.2 S = false) ∧ (0 ≤ acc.2 → ∀ x ∈ ps, psep x.2 S = true → acc.1 ≤ pval rec S x)) ∨
    (∃ (j : Nat) (x : Int × Nat), ps[j]? = some x ∧ res = (pval rec S x, ((i + j : Nat) : Int)) ∧ psep x.2 S = true ∧ (0 ≤ acc.2 → pval rec S x < acc.1) ∧
      (∀ (k : Nat) (y : Int × Nat), k < j → ps[k]? = some y → psep y.2 S = true → pval rec S x < pval rec S y) ∧ (∀ (k : Nat) (y : Int × Nat), ps[k]? = some y → psep y.2 S = true → pval rec S x ≤ pval rec S y))
  | [], i, acc, _ => .inl ⟨rfl, fun _ _ h => (by cases h), fun _ _ h => (by cases h)⟩
  | x :: r, i, acc, ha => by
    intro res
    have hres : res = pfold rec S (i + 1) r (pstep rec S i x acc) := rfl
    by_cases hs : psep x.2 S = true
    · by_cases hc : acc.2 < 0 ∨ pval rec S x < acc.1
      · have he : pstep rec S i x acc = (pval rec S x, (i : Int)) := by unfold pstep; rw [if_pos hs]; unfold pval at hc ⊢; rw [if_pos hc]
        rw [he] at hres
        rcases pfold_first (rec := rec) (S := S) r (i + 1) (pval rec S x, (i : Int)) (.inr (by show (i : Int) < ((i + 1 : Nat) : Int); omega)) with ⟨h1, h2, h3⟩ | ⟨j, y, hj, h1, h2, h3, h4, h5⟩
        · refine .inr ⟨0, x, rfl, by rw [hres, h1]; rfl, hs, fun h => by rcases hc with h' | h'; omega; exact h', fun k y hk => absurd hk (Nat.not_lt_zero _), fun k y hk hy => ?_⟩
          cases k with
          | zero => simp at hk; subst hk; exact Int.le_refl _
          | succ k => exact h3 (by show (0 : Int) ≤ (i : Int); omega) y (List.mem_of_getElem? (by simpa using hk)) hy
        · have h3 := h3 (by show (0 : Int) ≤ (i : Int); omega)
          refine .inr ⟨j + 1, y, by simpa using hj, by rw [hres, h1]; congr 2; omega, h2, fun h => by rcases hc with h' | h'; omega; exact Int.lt_trans h3 h', fun k z hk hz hzs => ?_, fun k z hz hzs => ?_⟩
          · cases k with
            | zero => simp at hz; subst hz; exact h3
            | succ k => exact h4 k z (by omega) (by simpa using hz) hzs
          · cases k with
            | zero => simp at hz; subst hz; exact Int.le_of_lt h3
            | succ k => exact h5 k z (by simpa using hz) hzs
      · have he : pstep rec S i x acc = acc := by unfold pstep; rw [if_pos hs]; unfold pval at hc; rw [if_neg hc]
        have hc' := not_or.1 hc
        rw [he] at hres
        rcases pfold_first (rec := rec) (S := S) r (i + 1) acc (by rcases ha with h | h; exact .inl h; right; omega) with ⟨h1, h2, h3⟩ | ⟨j, y, hj, h1, h2, h3, h4, h5⟩
        · refine .inl ⟨by rw [hres, h1], fun h => absurd h hc'.1, fun h z hz hzs => ?_⟩
          rcases List.mem_cons.1 hz with rfl | hz
          · have := hc'.2; omega
          · exact h3 h z hz hzs
        · refine .inr ⟨j + 1, y, by simpa using hj, by rw [hres, h1]; congr 2; omega, h2, h3, fun k z hk hz hzs => ?_, fun k z hz hzs => ?_⟩
          · cases k with
            | zero => simp at hz; subst hz; have := h3 (by omega); have := hc'.2; omega
            | succ k => exact h4 k z (by omega) (by simpa using hz) hzs
          · cases k with
            | zero => simp at hz; subst hz; have := h3 (by omega); have := hc'.2; omega
            | succ k => exact h5 k z (by simpa using hz) hzs
    · have he : pstep rec S i x acc = acc := by unfold pstep; rw [if_neg hs]
      rw [he] at hres
      rcases pfold_first (rec := rec) (S := S) r (i + 1) acc (by rcases ha with h | h; exact .inl h; right; omega) with ⟨h1, h2, h3⟩ | ⟨j, y, hj, h1, h2, h3, h4, h5⟩
      · refine .inl ⟨by rw [hres, h1], fun h z hz => ?_, fun h z hz hzs => ?_⟩
        · rcases List.mem_cons.1 hz with rfl | hz
          · simpa using hs
          · exact h2 h z hz
        · rcases List.mem_cons.1 hz with rfl | hz
          · exact absurd hzs hs
          · exact h3 h z hz hzs
      · refine .inr ⟨j + 1, y, by simpa using hj, by rw [hres, h1]; congr 2; omega, h2, h3, fun k z hk hz hzs => ?_, fun k z hz hzs => ?_⟩
        · cases k with
          | zero => simp at hz; subst hz; exact absurd hzs hs
          | succ k => exact h4 k z (by omega) (by simpa using hz) hzs
        · cases k with
          | zero => simp at hz; subst hz; exact absurd hzs hs
          | succ k => exact h5 k z (by simpa using hz) hzs
end Go.Proofs.YtpmmhcgghldaaaaDoor
