/- What the functions of probe compute, in plain Lean: part 6, sets of suspects as numbers. -/
import Derived.Test.YtpmmhcgghldaaaaDoorPr
namespace Go.Proofs.YtpmmhcgghldaaaaDoor

theorem set_nats : ∀ {l : List Int} {last : Int}, setFrom last l = true → -1 ≤ last → ∃ L : List Nat, l = ofNats L ∧ L.Pairwise (· < ·) ∧ ∀ i ∈ L, last < (i : Int) ∧ i < 12
  | [], _, _, _ => ⟨[], rfl, List.Pairwise.nil, fun _ h => by cases h⟩
  | x :: r, last, h, hl => by
    simp only [setFrom, Bool.and_eq_true, decide_eq_true_eq] at h
    obtain ⟨L, h1, h2, h3⟩ := set_nats h.2 (by omega)
    refine ⟨x.toNat :: L, ?_, List.pairwise_cons.2 ⟨fun i hi => by have := h3 i hi; omega, h2⟩, fun i hi => ?_⟩
    · rw [h1]; unfold ofNats; rw [List.map_cons]; congr 1; omega
    · rcases List.mem_cons.1 hi with rfl | hi
      · omega
      · have := h3 i hi; omega
theorem maskFrom_bit (i : Nat) : ∀ (L : List Nat) (m : Nat), (maskFrom m (ofNats L)).testBit i = (m.testBit i || L.contains i)
  | [], m => by simp [ofNats, maskFrom]
  | x :: r, m => by
    show (maskFrom (m ||| 2 ^ ((x : Int)).toNat) (ofNats r)).testBit i = _
    rw [maskFrom_bit i r, Int.toNat_natCast, Nat.testBit_or, Nat.testBit_two_pow, List.contains_cons]
    by_cases h : x = i
    · subst h; simp
    · have : (i == x) = false := beq_eq_false_iff_ne.2 (fun e => h e.symm)
      rw [this, decide_eq_false h]; simp
theorem mask_bit (L : List Nat) (i : Nat) : (mask (ofNats L)).testBit i = L.contains i := by
  unfold mask; rw [maskFrom_bit]; simp
theorem sorted_ext : ∀ {a b : List Nat}, a.Pairwise (· < ·) → b.Pairwise (· < ·) → (∀ i, i ∈ a ↔ i ∈ b) → a = b
  | [], [], _, _, _ => rfl
  | [], y :: s, _, _, h => by have := (h y).2 List.mem_cons_self; cases this
  | x :: r, [], _, _, h => by have := (h x).1 List.mem_cons_self; cases this
  | x :: r, y :: s, ha, hb, h => by
    obtain ⟨a1, a2⟩ := List.pairwise_cons.1 ha
    obtain ⟨b1, b2⟩ := List.pairwise_cons.1 hb
    have hxy : x = y := by
      have h1 := (h x).1 List.mem_cons_self
      have h2 := (h y).2 List.mem_cons_self
      rcases List.mem_cons.1 h1 with e | h1
      · exact e
      · rcases List.mem_cons.1 h2 with e | h2
        · exact e.symm
        · have := b1 x h1; have := a1 y h2; omega
    subst hxy
    rw [sorted_ext a2 b2 (fun i => ?_)]
    constructor
    · intro hi
      have := (h i).1 (List.mem_cons_of_mem _ hi)
      rcases List.mem_cons.1 this with e | h'
      · subst e; have := a1 i hi; omega
      · exact h'
    · intro hi
      have := (h i).2 (List.mem_cons_of_mem _ hi)
      rcases List.mem_cons.1 this with e | h'
      · subst e; have := b1 i hi; omega
      · exact h'
theorem mask_inj {a b : List Int} (ha : setOk a = true) (hb : setOk b = true) (h : mask a = mask b) : a = b := by
  obtain ⟨A, rfl, a1, a2⟩ := set_nats ha (by omega)
  obtain ⟨B, rfl, b1, b2⟩ := set_nats hb (by omega)
  rw [sorted_ext a1 b1 (fun i => ?_)]
  have e := congrArg (fun m => m.testBit i) h
  simp only [mask_bit] at e
  rw [← List.contains_iff_mem, ← List.contains_iff_mem, e]
/-- The hypothesis is there already: by its number. -/
theorem any_mask {x : List Int} (hx : setOk x = true) : ∀ {pre : List (List Int)}, (∀ y ∈ pre, setOk y = true) → pre.any (fun y => x == y) = (ofNats (pre.map mask)).contains ((mask x : Nat) : Int)
  | [], _ => rfl
  | y :: r, h => by
    have ih := any_mask hx (pre := r) (fun z hz => h z (List.mem_cons_of_mem _ hz))
    show (x == y || r.any (fun y => x == y)) = ((((mask y : Nat) : Int) :: ofNats (r.map mask)).contains ((mask x : Nat) : Int))
    rw [List.contains_cons, ih]
    congr 1
    rw [Bool.eq_iff_iff, beq_iff_eq, beq_iff_eq]
    constructor
    · rintro rfl; rfl
    · intro e; exact mask_inj hx (h y List.mem_cons_self) (by omega)
theorem and_ne_zero {a b : Nat} : a &&& b ≠ 0 ↔ ∃ i, a.testBit i = true ∧ b.testBit i = true := by
  constructor
  · intro h
    apply Classical.byContradiction
    intro hn
    apply h
    apply Nat.eq_of_testBit_eq
    intro i
    rw [Nat.testBit_and, Nat.zero_testBit]
    cases h1 : a.testBit i with
    | false => rfl
    | true =>
      cases h2 : b.testBit i with
      | false => rfl
      | true => exact absurd ⟨i, h1, h2⟩ hn
  · rintro ⟨i, h1, h2⟩ e
    have : (a &&& b).testBit i = true := by rw [Nat.testBit_and, h1, h2]; rfl
    rw [e, Nat.zero_testBit] at this; cases this
/-- A measurement shows somebody: by the numbers. -/
theorem shows_mask {a b : List Int} (ha : setOk a = true) (hb : setOk b = true) : showsL a b = true ↔ mask a &&& mask b ≠ 0 := by
  obtain ⟨A, rfl, _, _⟩ := set_nats ha (by omega)
  obtain ⟨B, rfl, _, _⟩ := set_nats hb (by omega)
  rw [and_ne_zero]
  simp only [mask_bit, List.contains_iff_mem]
  unfold showsL ofNats
  rw [List.any_eq_true]
  constructor
  · rintro ⟨x, hx, h⟩
    obtain ⟨y, hy, e⟩ := List.any_eq_true.1 h
    obtain ⟨i, hi, rfl⟩ := List.mem_map.1 hx
    obtain ⟨j, hj, rfl⟩ := List.mem_map.1 hy
    have : i = j := by have := eq_of_beq e; omega
    subst this
    exact ⟨i, hi, hj⟩
  · rintro ⟨i, h1, h2⟩
    exact ⟨(i : Int), List.mem_map.2 ⟨i, h1, rfl⟩, List.any_eq_true.2 ⟨(i : Int), List.mem_map.2 ⟨i, h2, rfl⟩, beq_self_eq_true _⟩⟩

/-- The hypotheses for which a measurement shows somebody. -/
def shownFrom (s : Nat) : Nat → Nat → List Nat → Nat
  | _, acc, [] => acc
  | i, acc, t :: r => shownFrom s (i + 1) (if s &&& t ≠ 0 then acc ||| 2 ^ i else acc) r
def shownM (truths : List Nat) (s : Nat) : Nat := shownFrom s 0 0 truths
theorem shownFrom_bit (s j : Nat) : ∀ (ts : List Nat) (i acc : Nat), (shownFrom s i acc ts).testBit j = (acc.testBit j || (decide (i ≤ j ∧ j < i + ts.length) && decide (s &&& ts.getD (j - i) 0 ≠ 0)))
  | [], i, acc => by
    show acc.testBit j = _
    have f1 : decide (i ≤ j ∧ j < i + ([] : List Nat).length) = false := decide_eq_false (fun h => by have := h.2; simp at this; omega)
    rw [f1]; simp
  | t :: r, i, acc => by
    unfold shownFrom
    rw [shownFrom_bit s j r (i + 1)]
    by_cases hji : j = i
    · subst hji
      have e1 : decide (j + 1 ≤ j ∧ j < j + 1 + r.length) = false := decide_eq_false (by omega)
      have e2 : decide (j ≤ j ∧ j < j + (t :: r).length) = true := decide_eq_true (by simp)
      rw [e1, e2, Nat.sub_self]
      by_cases hs : s &&& t ≠ 0
      · rw [if_pos hs, Nat.testBit_or, Nat.testBit_two_pow_self]; simp [hs]
      · rw [if_neg hs]
        have : s &&& t = 0 := by omega
        simp [this]
    · have e3 : (if s &&& t ≠ 0 then acc ||| 2 ^ i else acc).testBit j = acc.testBit j := by
        split
        · rw [Nat.testBit_or, Nat.testBit_two_pow, decide_eq_false (fun e => hji e.symm), Bool.or_false]
        · rfl
      rw [e3]
      by_cases hlt : j < i
      · have f1 : decide (i + 1 ≤ j ∧ j < i + 1 + r.length) = false := decide_eq_false (by omega)
        have f2 : decide (i ≤ j ∧ j < i + (t :: r).length) = false := decide_eq_false (by omega)
        rw [f1, f2]; simp
      · have e4 : decide (i + 1 ≤ j ∧ j < i + 1 + r.length) = decide (i ≤ j ∧ j < i + (t :: r).length) := by
          rw [decide_eq_decide, List.length_cons]; omega
        rw [e4, show j - i = (j - (i + 1)) + 1 from by omega]
        simp
theorem shownM_bit (ts : List Nat) (s j : Nat) : (shownM ts s).testBit j = (decide (j < ts.length) && decide (s &&& ts.getD j 0 ≠ 0)) := by
  unfold shownM
  rw [shownFrom_bit]
  simp
theorem shownFrom_lt {s : Nat} : ∀ {ts : List Nat} {i acc : Nat}, acc < 4096 → i + ts.length ≤ 12 → shownFrom s i acc ts < 4096
  | [], _, _, h, _ => h
  | t :: r, i, acc, h, hl => by
    unfold shownFrom
    rw [List.length_cons] at hl
    refine shownFrom_lt ?_ (by omega)
    split
    · have : 2 ^ i ≤ 2 ^ 11 := Nat.pow_le_pow_right (by omega) (by omega)
      exact or_lt h (by omega)
    · exact h
theorem shownM_lt {ts : List Nat} {s : Nat} (h : ts.length ≤ 12) : shownM ts s < 4096 := shownFrom_lt (by omega) (by omega)
end Go.Proofs.YtpmmhcgghldaaaaDoor
