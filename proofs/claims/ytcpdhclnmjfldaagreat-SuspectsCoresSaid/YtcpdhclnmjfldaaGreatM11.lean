/- Parts of the proof: S1 S2 S3 Sk Ss S4 S5 S6 S7. -/
import Derived.Test.YtcpdhclnmjfldaaGreatM10
import Derived.Test.YtcpdhclnmjfldaaGreatM9
import Derived.Test.YtcpdhclnmjfldaaGreatM3
import Derived.WalkKit
import Derived.LoopTactic
import Derived.Sort.Grow
import Derived.Test.YtcpdhclnmjfldaaGreatProg
import Derived.Shelf.SlSortCmp.NoneTotal
import Derived.Shelf.Lay
import Derived.Ground.SlsfProg
import Derived.Ground.NamesProg

/- Layer 49, plainly: minimal sets in a table, their order. -/
namespace Go.Proofs.YtcpdhclnmjfldaaGreat
open Go Go.RowKit

/-! ### the order of lists -/
def cmpL : List Int → List Int → Int
  | [], [] => 0
  | [], _ :: _ => -1
  | _ :: _, [] => 1
  | a :: l, b :: m => if a < b then -1 else if b < a then 1 else cmpL l m
theorem cmpL_refl : ∀ l : List Int, cmpL l l = 0
  | [] => rfl
  | a :: l => by unfold cmpL; rw [if_neg (by omega), if_neg (by omega)]; exact cmpL_refl l
theorem cmpL_zero : ∀ {l m : List Int}, cmpL l m = 0 → l = m
  | [], [], _ => rfl
  | [], _ :: _, h => absurd h (by unfold cmpL; decide)
  | _ :: _, [], h => absurd h (by unfold cmpL; decide)
  | a :: l, b :: m, h => by
    unfold cmpL at h
    split at h
    · cases h
    · split at h
      · cases h
      · rw [cmpL_zero h, show a = b by omega]
theorem cmpL_swap : ∀ l m : List Int, cmpL m l = - cmpL l m
  | [], [] => by unfold cmpL; decide
  | [], _ :: _ => by unfold cmpL; decide
  | _ :: _, [] => by unfold cmpL; decide
  | a :: l, b :: m => by
    unfold cmpL
    by_cases h1 : a < b
    · rw [if_pos h1, if_neg (by omega), if_pos h1]; rfl
    · by_cases h2 : b < a
      · rw [if_pos h2, if_neg h1, if_pos h2]
      · rw [if_neg h1, if_neg h2, if_neg h2, if_neg h1]; exact cmpL_swap l m
theorem cmpL_trans : ∀ {a b c : List Int}, cmpL a b < 0 → cmpL b c < 0 → cmpL a c < 0
  | [], [], _, h, _ => absurd h (by unfold cmpL; decide)
  | [], _ :: _, [], _, h => absurd h (by unfold cmpL; decide)
  | [], _ :: _, _ :: _, _, _ => by unfold cmpL; decide
  | _ :: _, [], _, h, _ => absurd h (by unfold cmpL; decide)
  | _ :: _, _ :: _, [], _, h => absurd h (by unfold cmpL; decide)
  | a :: l, b :: m, c :: k, h1, h2 => by
    unfold cmpL at h1 h2 ⊢
    by_cases g1 : a < b
    · by_cases g2 : b < c
      · rw [if_pos (by omega)]; decide
      · rw [if_neg g2] at h2
        by_cases g3 : c < b
        · rw [if_pos g3] at h2; exact absurd h2 (by decide)
        · rw [if_pos (by omega)]; decide
    · rw [if_neg g1] at h1
      by_cases g3 : b < a
      · rw [if_pos g3] at h1; exact absurd h1 (by decide)
      · rw [if_neg g3] at h1
        by_cases g2 : b < c
        · rw [if_pos (by omega)]; decide
        · rw [if_neg g2] at h2
          by_cases g4 : c < b
          · rw [if_pos g4] at h2; exact absurd h2 (by decide)
          · rw [if_neg g4] at h2
            rw [if_neg (by omega), if_neg (by omega)]
            exact cmpL_trans h1 h2
theorem cmpL_tri (a b : List Int) : cmpL a b < 0 ∨ a = b ∨ cmpL b a < 0 := by
  have := cmpL_swap a b
  by_cases h : cmpL a b = 0
  · exact .inr (.inl (cmpL_zero h))
  · omega
/-- A set into its place. -/
def putS : List (List Int) → List Int → List (List Int)
  | [], x => [x]
  | y :: l, x => if cmpL y x < 0 then y :: putS l x else x :: y :: l
theorem putS_perm : ∀ (l : List (List Int)) (x : List Int), (putS l x).Perm (x :: l)
  | [], x => .refl _
  | y :: l, x => by
    unfold putS
    split
    · exact ((putS_perm l x).cons y).trans (List.Perm.swap x y l)
    · exact .refl _
theorem putS_sort : ∀ {l : List (List Int)} {x : List Int}, l.Pairwise (fun a b => cmpL a b < 0) → x ∉ l → (putS l x).Pairwise (fun a b => cmpL a b < 0)
  | [], x, _, _ => by unfold putS; simp
  | y :: l, x, h, hx => by
    rw [List.pairwise_cons] at h
    unfold putS
    split
    · rename_i hy
      rw [List.pairwise_cons]
      refine ⟨fun z hz => ?_, putS_sort h.2 fun e => hx (List.mem_cons_of_mem _ e)⟩
      rcases List.mem_cons.1 ((putS_perm l x).mem_iff.1 hz) with rfl | hz
      · exact hy
      · exact h.1 z hz
    · rename_i hy
      have hxy : cmpL x y < 0 := by
        rcases cmpL_tri x y with e | e | e
        · exact e
        · exact absurd (e ▸ List.mem_cons_self) hx
        · exact absurd e hy
      rw [List.pairwise_cons]
      refine ⟨fun z hz => ?_, List.pairwise_cons.2 h⟩
      rcases List.mem_cons.1 hz with rfl | hz
      · exact hxy
      · exact cmpL_trans hxy (h.1 z hz)
def putsS (ls : List (List Int)) : List (List Int) := ls.foldl putS []
theorem putsS_snoc (ls : List (List Int)) (x : List Int) : putsS (ls ++ [x]) = putS (putsS ls) x := by unfold putsS; rw [List.foldl_append]; rfl
theorem puts_acc : ∀ {ls acc : List (List Int)}, acc.Pairwise (fun a b => cmpL a b < 0) → (acc ++ ls).Nodup → (ls.foldl putS acc).Perm (acc ++ ls) ∧ (ls.foldl putS acc).Pairwise (fun a b => cmpL a b < 0)
  | [], acc, h, _ => by rw [List.append_nil]; exact ⟨.refl _, h⟩
  | x :: ls, acc, h, hn => by
    have hp : (putS acc x ++ ls).Perm (acc ++ x :: ls) := ((putS_perm acc x).append_right ls).trans List.perm_middle.symm
    have hx : x ∉ acc := fun hx => by
      rw [List.nodup_append] at hn
      exact hn.2.2 x hx x List.mem_cons_self rfl
    obtain ⟨p, s⟩ := puts_acc (ls := ls) (putS_sort h hx) (hp.nodup_iff.2 hn)
    exact ⟨p.trans hp, s⟩
theorem putsS_ok {ls : List (List Int)} (h : ls.Nodup) : (putsS ls).Perm ls ∧ (putsS ls).Pairwise (fun a b => cmpL a b < 0) := by
  have := puts_acc (ls := ls) (acc := []) .nil (by simpa using h)
  simpa [putsS] using this
/-- What is sorted, and the same sets, is the same list. -/
theorem putsS_uniq {ls l : List (List Int)} (h : ls.Nodup) (hp : l.Perm ls) (hs : l.Pairwise (fun a b => ¬ cmpL b a < 0)) : l = putsS ls := by
  obtain ⟨p, s⟩ := putsS_ok h
  refine List.Perm.eq_of_pairwise (le := fun a b => ¬ cmpL b a < 0) (fun a b _ _ h1 h2 => ?_) hs (s.imp fun {a b} h => ?_) (hp.trans p.symm)
  · rcases cmpL_tri a b with e | e | e
    · exact absurd e h2
    · exact e
    · exact absurd e h1
  · have := cmpL_swap a b; omega

/-! ### the minimal sets -/
theorem bit_sub' : ∀ (i n : Nat), n.testBit i = true → ∀ j, (n - 2 ^ i).testBit j = (n.testBit j && !decide (j = i))
  | 0, n, h, 0 => by
    rw [Nat.testBit_zero, decide_eq_true_eq] at h
    rw [Nat.testBit_zero, decide_eq_false (by rw [Nat.pow_zero]; omega)]; simp
  | 0, n, h, j + 1 => by
    rw [Nat.testBit_zero, decide_eq_true_eq] at h
    rw [Nat.testBit_succ, Nat.testBit_succ, show (n - 2 ^ 0) / 2 = n / 2 by rw [Nat.pow_zero]; omega]; simp
  | i + 1, n, h, 0 => by
    rw [Nat.testBit_succ] at h
    have hp : 2 ^ (i + 1) = 2 * 2 ^ i := by rw [Nat.pow_succ]; omega
    have := Nat.ge_two_pow_of_testBit h
    rw [Nat.testBit_zero, Nat.testBit_zero, show (n - 2 ^ (i + 1)) % 2 = n % 2 by omega]; simp
  | i + 1, n, h, j + 1 => by
    rw [Nat.testBit_succ] at h
    have hp : 2 ^ (i + 1) = 2 * 2 ^ i := by rw [Nat.pow_succ]; omega
    have := Nat.ge_two_pow_of_testBit h
    rw [Nat.testBit_succ, Nat.testBit_succ, show (n - 2 ^ (i + 1)) / 2 = n / 2 - 2 ^ i by omega, bit_sub' i (n / 2) h j]
    simp
theorem bit_sub {n i : Nat} (h : n.testBit i = true) (j : Nat) : (n - 2 ^ i).testBit j = (n.testBit j && !decide (j = i)) := bit_sub' i n h j
theorem bit_le {n i : Nat} (h : n.testBit i = true) : 2 ^ i ≤ n := Nat.ge_two_pow_of_testBit h
def tget (t : List Bool) (n : Nat) : Bool := t.getD n false
/-- A set of the table, without whose members it is none. -/
def minB (t : List Bool) (S n : Nat) : Bool := tget t n && (List.range S).all fun i => !n.testBit i || !tget t (n - 2 ^ i)
theorem minB_iff {t : List Bool} {S n : Nat} : minB t S n = true ↔ tget t n = true ∧ ∀ i, i < S → n.testBit i = true → tget t (n - 2 ^ i) = false := by
  unfold minB
  simp only [Bool.and_eq_true, List.all_eq_true, List.mem_range, Bool.or_eq_true, Bool.not_eq_true']
  refine ⟨fun ⟨h1, h2⟩ => ⟨h1, fun i hi hb => ?_⟩, fun ⟨h1, h2⟩ => ⟨h1, fun i hi => ?_⟩⟩
  · rcases h2 i hi with h | h
    · rw [hb] at h; cases h
    · exact h
  · cases hb : n.testBit i with
    | false => exact .inl rfl
    | true => exact .inr (h2 i hi hb)
def minL (t : List Bool) (S : Nat) : List (List Int) := ((List.range t.length).filter (minB t S)).map fun n => membersL n S
def minV (t : List Bool) (S : Nat) : List (List Int) := putsS (minL t S)
theorem members_inj {S n m : Nat} (hn : n < 2 ^ S) (hm : m < 2 ^ S) (h : membersL n S = membersL m S) : n = m := by
  apply Nat.eq_of_testBit_eq
  intro i
  by_cases hi : i < S
  · have key : ∀ k, k.testBit i = true ↔ (i : Int) ∈ membersL k S := fun k => by
      unfold membersL
      simp only [List.mem_map, List.mem_filter, List.mem_range]
      exact ⟨fun h => ⟨i, ⟨hi, h⟩, rfl⟩, fun ⟨j, ⟨_, hj⟩, e⟩ => by rw [show i = j by omega]; exact hj⟩
    rw [Bool.eq_iff_iff, key, key, h]
  · rw [Nat.testBit_lt_two_pow (Nat.lt_of_lt_of_le hn (Nat.pow_le_pow_right (by omega) (by omega))), Nat.testBit_lt_two_pow (Nat.lt_of_lt_of_le hm (Nat.pow_le_pow_right (by omega) (by omega)))]
theorem mem_members {S n : Nat} {v : Int} : v ∈ membersL n S ↔ ∃ i : Nat, i < S ∧ n.testBit i = true ∧ v = i := by
  unfold membersL
  simp only [List.mem_map, List.mem_filter, List.mem_range]
  exact ⟨fun ⟨j, ⟨h1, h2⟩, e⟩ => ⟨j, h1, h2, e.symm⟩, fun ⟨j, h1, h2, e⟩ => ⟨j, ⟨h1, h2⟩, e.symm⟩⟩
theorem minL_nodup {t : List Bool} {S : Nat} (h : t.length ≤ 2 ^ S) : (minL t S).Nodup := by
  unfold minL
  have h0 : ((List.range t.length).filter (minB t S)).Nodup := List.nodup_range.filter _
  have h1 : ∀ a ∈ (List.range t.length).filter (minB t S), a < 2 ^ S := fun a ha => Nat.lt_of_lt_of_le (List.mem_range.1 (List.mem_filter.1 ha).1) h
  generalize (List.range t.length).filter (minB t S) = l at h0 h1
  induction l with
  | nil => exact .nil
  | cons a l ih =>
    rw [List.nodup_cons] at h0
    rw [List.map_cons, List.nodup_cons]
    refine ⟨fun hm => ?_, ih h0.2 fun b hb => h1 b (List.mem_cons_of_mem _ hb)⟩
    obtain ⟨b, hb, e⟩ := List.mem_map.1 hm
    have := members_inj (h1 b (List.mem_cons_of_mem _ hb)) (h1 a List.mem_cons_self) e
    subst this
    exact h0.1 hb
theorem mem_minV {t : List Bool} {S : Nat} (h : t.length ≤ 2 ^ S) {l : List Int} : l ∈ minV t S ↔ ∃ n, n < t.length ∧ minB t S n = true ∧ l = membersL n S := by
  unfold minV
  rw [(putsS_ok (minL_nodup h)).1.mem_iff]
  unfold minL
  simp only [List.mem_map, List.mem_filter, List.mem_range]
  exact ⟨fun ⟨n, ⟨h1, h2⟩, e⟩ => ⟨n, h1, h2, e.symm⟩, fun ⟨n, h1, h2, e⟩ => ⟨n, ⟨h1, h2⟩, e.symm⟩⟩
/-- Below each set of the table lies a minimal one. -/
theorem min_below {t : List Bool} {S : Nat} : ∀ n, n < 2 ^ S → tget t n = true → ∃ m, minB t S m = true ∧ m ≤ n ∧ ∀ i, m.testBit i = true → n.testBit i = true := by
  intro n
  induction n using Nat.strongRecOn with
  | _ n ih =>
    intro hn ht
    by_cases hm : minB t S n = true
    · exact ⟨n, hm, Nat.le_refl _, fun _ h => h⟩
    · have : ∃ i, i < S ∧ n.testBit i = true ∧ tget t (n - 2 ^ i) = true := by
        apply Classical.byContradiction
        intro hno
        exact hm (minB_iff.2 ⟨ht, fun i hi hb => by
          cases hc : tget t (n - 2 ^ i) with
          | false => rfl
          | true => exact absurd ⟨i, hi, hb, hc⟩ hno⟩)
      obtain ⟨i, hi, hb, hc⟩ := this
      have h2 := bit_le hb
      have h3 : 0 < 2 ^ i := Nat.two_pow_pos i
      obtain ⟨m, m1, m2, m3⟩ := ih (n - 2 ^ i) (by omega) (by omega) hc
      refine ⟨m, m1, by omega, fun j hj => ?_⟩
      have := m3 j hj
      rw [bit_sub hb, Bool.and_eq_true] at this
      exact this.1
end Go.Proofs.YtcpdhclnmjfldaaGreat

/- Layer 49, plainly: what the minimal sets say. -/
namespace Go.Proofs.YtcpdhclnmjfldaaGreat
open Go Go.RowKit

theorem setB_iff49 {n : Nat} : ∀ {l : List Int} {last : Int}, setB n last l = true ↔ (∀ i ∈ l, last < i ∧ i < n) ∧ l.Pairwise (· < ·)
  | [], last => by unfold setB; simp
  | a :: r, last => by
    unfold setB
    rw [Bool.and_eq_true, Bool.and_eq_true, decide_eq_true_eq, decide_eq_true_eq, setB_iff49 (l := r), List.pairwise_cons]
    constructor
    · rintro ⟨h1, h2, h3, h4⟩
      refine ⟨fun i hi => ?_, fun i hi => (h3 i hi).1, h4⟩
      rcases List.mem_cons.1 hi with rfl | hi
      · exact ⟨h1, h2⟩
      · have := h3 i hi; omega
    · rintro ⟨h1, h2, h3⟩
      have := h1 a List.mem_cons_self
      exact ⟨this.1, this.2, fun i hi => ⟨h2 i hi, (h1 i (List.mem_cons_of_mem _ hi)).2⟩, h3⟩
theorem setB_sub {n : Nat} {l l' : List Int} {last : Int} (h : setB n last l = true) (hs : l'.Sublist l) : setB n last l' = true := by
  rw [setB_iff49] at h ⊢
  exact ⟨fun i hi => h.1 i (hs.subset hi), h.2.sublist hs⟩
section
variable {d : Dist} {x x' : Ev} {set l : List Int}
def minSets (d : Dist) (x : Ev) : List (List Int) := minV (tableV d x) x.suspects.length
theorem minSets_err (h : evErr d x ≠ 0) : minSets d x = [] := by unfold minSets minV minL; rw [table_none h]; rfl
theorem table_le2 : (tableV d x).length ≤ 2 ^ x.suspects.length := by
  by_cases h : evErr d x = 0
  · rw [table_len h]; exact Nat.le_refl _
  · rw [table_none h]; exact Nat.zero_le _
theorem tget_expl (h : evErr d x = 0) {n : Nat} (hn : n < 2 ^ x.suspects.length) : tget (tableV d x) n = explV d x (membersL n x.suspects.length) := by
  unfold tget; rw [List.getD_eq_getElem?_getD, table_get h hn]; rfl
theorem mem_min : l ∈ minSets d x ↔ ∃ n, n < (tableV d x).length ∧ minB (tableV d x) x.suspects.length n = true ∧ l = membersL n x.suspects.length := mem_minV table_le2
theorem min_expl (hl : l ∈ minSets d x) : evErr d x = 0 ∧ explV d x l = true ∧ askErr d x l = 0 := by
  obtain ⟨n, hn, hm, rfl⟩ := mem_min.1 hl
  have he : evErr d x = 0 := by
    by_cases h : evErr d x = 0
    · exact h
    · rw [table_none h] at hn; exact absurd hn (Nat.not_lt_zero _)
  rw [table_len he] at hn
  exact ⟨he, by rw [← tget_expl he hn]; exact (minB_iff.1 hm).1, ask_members he n⟩
theorem expl_mono (he : askErr d x set = 0) (he' : askErr d x l = 0) (hs : ∀ i ∈ set, i ∈ l) (h : explV d x set = true) : explV d x l = true :=
  expl_more he he' rfl hs rfl (fun k v v' h1 h2 => by rw [h1] at h2; injection h2 with h2; rw [h2]; exact .refl _) h
/-- Below whatever explains lies a minimal set. -/
theorem expl_below (he : askErr d x set = 0) (h : explV d x set = true) : ∃ l ∈ minSets d x, ∀ i ∈ l, i ∈ set := by
  obtain ⟨h1, h2, h3⟩ := table_or he
  have hg : tget (tableV d x) (orL set) = true := by unfold tget; rw [List.getD_eq_getElem?_getD, h1]; exact h
  obtain ⟨m, m1, m2, m3⟩ := min_below _ h3 hg
  refine ⟨membersL m x.suspects.length, mem_min.2 ⟨m, by omega, m1, rfl⟩, fun i hi => ?_⟩
  obtain ⟨j, hj, hb, rfl⟩ := mem_members.1 hi
  have hs := (setB_iff49.1 (askErr_ok.1 he).2).1
  exact (orL_bit fun i hi => by have := hs i hi; omega).1 (m3 j hb)
theorem ask_sub (he : askErr d x set = 0) (hs : l.Sublist set) : askErr d x l = 0 := askErr_ok.2 ⟨(askErr_ok.1 he).1, setB_sub (askErr_ok.1 he).2 hs⟩
def cntS (L : List (List Int)) (i : Int) : Nat := (L.filter fun l => decide (i ∈ l)).length
theorem cntS_pos {L : List (List Int)} {i : Int} : 0 < cntS L i ↔ ∃ l ∈ L, i ∈ l := by
  unfold cntS
  rw [List.length_pos_iff_exists_mem]
  simp only [List.mem_filter, decide_eq_true_eq]
def namedV (d : Dist) (x : Ev) : List Int := ((List.range x.suspects.length).filter fun i : Nat => decide (0 < cntS (minSets d x) i)).map fun i : Nat => (i : Int)
def neededV (d : Dist) (x : Ev) : List Int := ((List.range x.suspects.length).filter fun i : Nat => decide (0 < cntS (minSets d x) i) && decide (cntS (minSets d x) i = (minSets d x).length)).map fun i : Nat => (i : Int)
theorem mem_named {i : Int} : i ∈ namedV d x ↔ ∃ l ∈ minSets d x, i ∈ l := by
  unfold namedV
  simp only [List.mem_map, List.mem_filter, List.mem_range, decide_eq_true_eq, cntS_pos]
  constructor
  · rintro ⟨j, ⟨-, l, hl, hj⟩, rfl⟩; exact ⟨l, hl, hj⟩
  · rintro ⟨l, hl, hi⟩
    obtain ⟨n, -, -, rfl⟩ := mem_min.1 hl
    obtain ⟨j, hj, -, rfl⟩ := mem_members.1 hi
    exact ⟨j, ⟨hj, _, hl, hi⟩, rfl⟩
theorem mem_needed {i : Int} : i ∈ neededV d x ↔ (∃ l ∈ minSets d x, i ∈ l) ∧ ∀ l ∈ minSets d x, i ∈ l := by
  unfold neededV
  simp only [List.mem_map, List.mem_filter, List.mem_range, decide_eq_true_eq, Bool.and_eq_true, cntS_pos]
  have key : ∀ j : Int, cntS (minSets d x) j = (minSets d x).length ↔ ∀ l ∈ minSets d x, j ∈ l := fun j => by
    unfold cntS
    rw [List.length_filter_eq_length_iff]
    simp only [decide_eq_true_eq]
  constructor
  · rintro ⟨j, ⟨-, h1, h2⟩, rfl⟩; exact ⟨h1, (key _).1 h2⟩
  · rintro ⟨⟨l, hl, hi⟩, h2⟩
    obtain ⟨n, -, -, rfl⟩ := mem_min.1 hl
    obtain ⟨j, hj, -, rfl⟩ := mem_members.1 hi
    exact ⟨j, ⟨hj, ⟨_, hl, hi⟩, (key _).2 h2⟩, rfl⟩
/-- Who is not named can be taken out. -/
theorem innocent (he : askErr d x set = 0) (h : explV d x set = true) : askErr d x (set.filter fun t => decide (t ∈ namedV d x)) = 0 ∧ explV d x (set.filter fun t => decide (t ∈ namedV d x)) = true := by
  have h2 := ask_sub (l := set.filter fun t => decide (t ∈ namedV d x)) he List.filter_sublist
  obtain ⟨l, hl, hs⟩ := expl_below he h
  obtain ⟨-, l1, l2⟩ := min_expl hl
  exact ⟨h2, expl_mono l2 h2 (fun i hi => List.mem_filter.2 ⟨hs i hi, decide_eq_true (mem_named.2 ⟨l, hl, hi⟩)⟩) l1⟩
/-- Who is needed in what explains is in each minimal set that lies in it. -/
theorem needed_in (he : askErr d x set = 0) {i : Nat} {t : Int} (hi : set[i]? = some t) (h : explV d x (set.take i ++ set.drop (i + 1)) = false) {m : List Int} (hm : m ∈ minSets d x) (hs : ∀ j ∈ m, j ∈ set) : t ∈ m := by
  apply Classical.byContradiction
  intro ht
  obtain ⟨-, l1, l2⟩ := min_expl hm
  have hsub : (set.take i ++ set.drop (i + 1)).Sublist set := by rw [← List.eraseIdx_eq_take_drop_succ]; exact List.eraseIdx_sublist _ _
  have := expl_mono l2 (ask_sub he hsub) (fun j hj => by
    obtain ⟨k, hk, e⟩ := List.getElem_of_mem (hs j hj)
    by_cases hki : k = i
    · subst hki
      rw [List.getElem?_eq_getElem hk] at hi
      injection hi with hi
      exact absurd (by rw [← hi, e]; exact hj) ht
    · rw [List.mem_append]
      by_cases hlt : k < i
      · exact .inl (by rw [List.mem_take_iff_getElem]; exact ⟨k, by omega, e⟩)
      · exact .inr (by rw [List.mem_drop_iff_getElem]; exact ⟨k - (i + 1), by omega, by rw [← e]; congr 1; omega⟩)) l1
  rw [h] at this; cases this
theorem ask_rest (he : askErr d x set = 0) (i : Nat) : askErr d x (set.take i ++ set.drop (i + 1)) = 0 := by
  refine ask_sub he ?_
  rw [← List.eraseIdx_eq_take_drop_succ]; exact List.eraseIdx_sublist _ _
def smallV (S : Nat) (L : List (List Int)) : List (List Int) := L.filter fun l => decide (l.length = L.foldl (fun m l => min m l.length) S)
def blameV (d : Dist) (x : Ev) (i : Int) : Option (List Int) := (minSets d x).find? fun l => decide (i ∈ l)
end
end Go.Proofs.YtcpdhclnmjfldaaGreat

/- Layer 49: contracts of members, minimal; lists of lists in memory. -/
namespace Go.Proofs.YtcpdhclnmjfldaaGreat
open Go Go.RowKit

theorem members_done {n i S : Nat} (hi : i ≤ S) (h : n >>> i = 0) : membersL n i = membersL n S := by
  have key : ∀ j, i ≤ j → n.testBit j = false := fun j hj => by
    have : n < 2 ^ i := by
      rw [Nat.shiftRight_eq_div_pow] at h
      rcases Nat.div_eq_zero_iff.1 h with h | h
      · exact absurd h (by have := Nat.two_pow_pos i; omega)
      · exact h
    exact Nat.testBit_lt_two_pow (Nat.lt_of_lt_of_le this (Nat.pow_le_pow_right (by omega) hj))
  obtain ⟨k, rfl⟩ : ∃ k, S = i + k := ⟨S - i, by omega⟩
  clear hi h
  induction k with
  | zero => rfl
  | succ k ih =>
    rw [ih, show i + (k + 1) = (i + k) + 1 by omega, members_snoc, if_neg (by rw [key _ (by omega)]; decide), List.append_nil]
theorem shr_zero {n S : Nat} (h : n < 2 ^ S) : n >>> S = 0 := by rw [Nat.shiftRight_eq_div_pow]; exact Nat.div_eq_of_lt h
section
variable {w : World}
set_option maxRecDepth 8000 in
theorem c_smembers {n S : Nat} (hn : n < 2 ^ S) (hS : S ≤ 12) : CallZ Tryz.prog 34 #[iv (n : Int)] w (fun v w' => ∃ A k c, v = .slice A k c ∧ OwnF w w' A k c 3 1 ((membersL n S).map fun v => Value.int .i64 v)) := by
  have hpow : 2 ^ S ≤ 4096 := Nat.le_trans (Nat.pow_le_pow_right (by omega) hS) (by decide)
  refine fn_rule (args := [iv (n : Int)]) Tryz.func34 (by kernel_rfl) ?_
  refine loop4 (fun (i : Nat) (A : Option Addr) (k c : Nat) => [(3, iv (i : Int)), (2, .slice A k c)])
    (fun i A k c z => i ≤ S ∧ OwnF w z A k c 3 1 ((membersL n i).map fun v => Value.int .i64 v)) (fun i _ _ _ _ => S - i) 0 none 0 0 ⟨rfl, rfl, trivial⟩ ⟨by omega, OwnF.nil (.refl _ _)⟩ rfl ?_
  rintro G2 i A' n' c' z ⟨hi, hset⟩
  have hl2 := hset.own.len
  rw [List.length_map] at hl2
  have hml := members_len n i
  refine shrV (fun sh hsh => ?_)
  have hsh : sh = n >>> i := by rw [hsh, Int.toNat_natCast]
  have hshl : sh ≤ n := by rw [hsh, Nat.shiftRight_eq_div_pow]; exact Nat.div_le_self _ _
  refine cD (fun hlti => ?_) (fun hgei => ?_)
  · have hlti : i < S := by
      rcases Nat.lt_or_ge i S with h | h
      · exact h
      · have : i = S := by omega
        rw [this, shr_zero hn] at hsh
        omega
    refine shrV (fun sh2 hsh2 => ?_)
    have hsh2 : sh2 = n >>> i := by rw [hsh2, Int.toNat_natCast]
    refine andV (a := sh2) (b := 1) (fun an han => ?_)
    have hb : an = 1 ↔ n.testBit i = true := by rw [han, hsh2]; exact bit_one
    refine cD (fun h1' => ?_) (fun h1' => ?_)
    · have hb1 := hb.1 (by omega)
      refine lit [iv (i : Int)] (fun q z1 hq => ?_)
      refine appF (hset.then hq.ext) (hq.src (sz := 1) rfl) (by omega) (fun A3 c3 z2 o2 k2 hA => ?_)
      refine arI (by omega) ?_
      refine next4 (i + 1) A3 (n' + 1) c3 ⟨by rw [Int.natCast_add]; rfl, rfl, trivial⟩ ⟨by omega, ?_⟩ (by omega)
      rw [members_snoc, if_pos hb1, List.map_append]; exact o2
    · have hb0 : ¬ n.testBit i = true := fun h => h1' (by have := hb.2 h; omega)
      refine arI (by omega) ?_
      refine next4 (i + 1) A' n' c' ⟨by rw [Int.natCast_add]; rfl, rfl, trivial⟩ ⟨by omega, ?_⟩ (by omega)
      rw [members_snoc, if_neg hb0, List.append_nil]; exact hset
  · rw [members_done hi (show n >>> i = 0 by omega)] at hset
    exact ret1 (.slice A' n' c') rfl ⟨A', n', c', rfl, hset⟩

/-! ### lists of lists -/
structure Hd where
  A : Option Addr
  n : Nat
  c : Nat
  l : List Int
abbrev Hd.v (h : Hd) : Value := .slice h.A h.n h.c
/-- A head reads as its list; its cells lie in blocks of numbers. -/
structure HdI (w0 u : World) (h : Hd) : Prop where
  rd : SlR tInt (fun b => w0.heap.size ≤ b ∧ ∃ cs, Blk u b 3 cs) u h.A h.n h.l
  le : h.n ≤ h.c
theorem HdI.step {w0 u u' : World} {h : Hd} (x : HdI w0 u h) (k : ∀ b cs, Blk u b 3 cs → w0.heap.size ≤ b → u'.heap[b]? = u.heap[b]?) : HdI w0 u' h :=
  ⟨(x.rd.keep fun b _ ⟨h0, cs, hB⟩ => k b cs hB h0).more (by decide) fun b _ ⟨h0, cs, hB⟩ => ⟨h0, cs, (k b cs hB h0).trans hB⟩, x.le⟩
theorem HdI.kept {w0 u u' : World} {D : Nat → Prop} {h : Hd} (x : HdI w0 u h) (k : Kept D u u') (hD : ∀ b cs, Blk u b 3 cs → w0.heap.size ≤ b → D b) : HdI w0 u' h :=
  x.step fun b cs hB h0 => k.blk b hB.lt (hD b cs hB h0)
theorem HdI.ext {w0 u u' : World} {h : Hd} (x : HdI w0 u h) (k : Ext u u') : HdI w0 u' h := x.kept k fun _ _ _ _ => trivial
theorem HdI.own {w0 u v : World} {A : Option Addr} {n c : Nat} {l : List Int} (o : OwnF v u A n c 3 1 (l.map fun k => .int .i64 k)) (hv : w0.heap.size ≤ v.heap.size) (hl : ∀ x ∈ l, I64 x) (hle : n ≤ 140737488355328) : HdI w0 u ⟨A, n, c, l⟩ := by
  refine ⟨?_, o.le⟩
  rcases o.form with ⟨rfl, h0, -⟩ | ⟨g, rfl, hg, -, -⟩
  · have := o.own.len
    rw [List.length_map] at this
    have e : l = [] := List.eq_nil_of_length_eq_zero (by omega)
    rw [e, h0]; exact .nil
  · obtain ⟨rest, hB, -⟩ := Own.blk o.own
    refine Own.rd (a := tInt) (e := 3) o.own (flat_ints hl) (by have := o.own.len; simpa using this.symm) hle fun g' hg' => ?_
    injection hg' with hg'; injection hg' with hg'
    subst hg'
    exact ⟨by omega, _, hB⟩
theorem HdI.rdT {w0 u : World} {h : Hd} (x : HdI w0 u h) : SlR tInt (fun _ => True) u h.A h.n h.l := x.rd.more (by decide) fun _ _ _ => trivial
theorem HdI.rdN {w0 u : World} {h : Hd} (x : HdI w0 u h) : SlR tInt (fun b => w0.heap.size ≤ b) u h.A h.n h.l := x.rd.more (by decide) fun _ _ h => h.1
theorem HdI.base {w0 v0 u : World} {h : Hd} (x : HdI w0 u h) (hv : v0.heap.size ≤ w0.heap.size) : HdI v0 u h := ⟨x.rd.more (by decide) fun _ _ h => ⟨Nat.le_trans hv h.1, h.2⟩, x.le⟩
theorem flat_hds {D : Nat → Prop} {w0 u : World} : ∀ {s : List Hd}, (∀ h ∈ s, HdI w0 u h) → (∀ b, w0.heap.size ≤ b → D b) → FlatR (tSl tInt) D u (s.map (·.l)) (s.map Hd.v)
  | [], _, _ => rfl
  | h :: s, hs, hD => ⟨[h.v], s.map Hd.v, rfl, ⟨h.A, h.n, h.c, rfl, (hs h List.mem_cons_self).rd.more (by decide) fun _ _ h => hD _ h.1, (hs h List.mem_cons_self).le⟩, flat_hds (fun x hx => hs x (List.mem_cons_of_mem _ hx)) hD⟩
/-- A list of lists that the function has made. -/
structure OwnL (w0 u : World) (A : Option Addr) (n c : Nat) (s : List Hd) : Prop where
  own : OwnF w0 u A n c 43 1 (s.map Hd.v)
  hds : ∀ h ∈ s, HdI w0 u h
theorem OwnL.nil {w0 u : World} (h : Ext w0 u) : OwnL w0 u none 0 0 [] := ⟨.nil h, fun h hh => by simp at hh⟩
theorem OwnL.len {w0 u : World} {A : Option Addr} {n c : Nat} {s : List Hd} (h : OwnL w0 u A n c s) : n = s.length := by have := h.own.own.len; simpa using this.symm
theorem OwnL.ext {w0 u u' : World} {A : Option Addr} {n c : Nat} {s : List Hd} (h : OwnL w0 u A n c s) (k : Ext u u') : OwnL w0 u' A n c s := ⟨h.own.then k, fun x hx => (h.hds x hx).ext k⟩
theorem OwnL.base {w0 v0 u : World} {A : Option Addr} {n c : Nat} {s : List Hd} (h : OwnL w0 u A n c s) (k : Ext v0 w0) : OwnL v0 u A n c s := ⟨h.own.base k, fun x hx => (h.hds x hx).base k.size⟩
theorem OwnL.rd {D : Nat → Prop} {w0 u : World} {A : Option Addr} {n c : Nat} {s : List Hd} (h : OwnL w0 u A n c s) (hle : n ≤ 140737488355328) (hD : ∀ b, w0.heap.size ≤ b → D b) : SlR (tSl tInt) D u A n (s.map (·.l)) :=
  Own.rd (a := tSl tInt) (e := 43) h.own.own (flat_hds h.hds hD) (by rw [List.length_map]; exact h.len) hle fun g hg => hD g (h.own.new g hg)

theorem and_bit {k i : Nat} (h : k.testBit i = true) : k &&& 2 ^ i = 2 ^ i := by
  apply Nat.eq_of_testBit_eq
  intro j
  rw [Nat.testBit_and, Nat.testBit_two_pow]
  by_cases hj : i = j
  · subst hj; rw [h]; rfl
  · rw [decide_eq_false hj, Bool.and_false]
/-! ### minimal -/
theorem c_sminimal {A : Option Addr} {n c : Nat} : CallZ Tryz.prog 33 #[.slice A n c] w (fun v w' => ∃ b, v = .func (.func 60) #[] #[ptr b] ∧ Ext w w' ∧ Blk w' b 53 [.slice A n c] ∧ w.heap.size ≤ b) := by
  refine fn_rule (args := [.slice A n c]) Tryz.func33 (by kernel_rfl) ?_
  refine box (fun b w1 h1 => ?_)
  have a1 := h1.at_
  exact ret1 (.func (.func 60) #[] #[ptr b]) rfl ⟨b, rfl, h1.ext, h1.blk, by omega⟩
theorem min_step {t : List Bool} {k i : Nat} {ok : Bool} (h : ok = (tget t k && (List.range i).all fun j => !k.testBit j || !tget t (k - 2 ^ j))) :
    (ok && (!k.testBit i || !tget t (k - 2 ^ i))) = (tget t k && (List.range (i + 1)).all fun j => !k.testBit j || !tget t (k - 2 ^ j)) := by
  rw [List.range_succ, List.all_append, h]
  simp [Bool.and_assoc]
theorem min_done {t : List Bool} {S k i : Nat} (hi : i ≤ S) (h : k >>> i = 0) : (tget t k && (List.range i).all fun j => !k.testBit j || !tget t (k - 2 ^ j)) = minB t S k := by
  have key : ∀ j, i ≤ j → k.testBit j = false := fun j hj => by
    have : k < 2 ^ i := by
      rw [Nat.shiftRight_eq_div_pow] at h
      rcases Nat.div_eq_zero_iff.1 h with h | h
      · exact absurd h (by have := Nat.two_pow_pos i; omega)
      · exact h
    exact Nat.testBit_lt_two_pow (Nat.lt_of_lt_of_le this (Nat.pow_le_pow_right (by omega) hj))
  rw [Bool.eq_iff_iff, minB_iff]
  simp only [Bool.and_eq_true, List.all_eq_true, List.mem_range, Bool.or_eq_true, Bool.not_eq_true']
  refine ⟨fun ⟨h1, h2⟩ => ⟨h1, fun j hj hb => ?_⟩, fun ⟨h1, h2⟩ => ⟨h1, fun j hj => ?_⟩⟩
  · by_cases hji : j < i
    · rcases h2 j hji with h | h
      · rw [hb] at h; cases h
      · exact h
    · rw [key j (by omega)] at hb; cases hb
  · cases hb : k.testBit j with
    | false => exact .inl rfl
    | true => exact .inr (h2 j (by omega) hb)
theorem min_false {t : List Bool} {S k i : Nat} (hi : i ≤ S) (h : (tget t k && (List.range i).all fun j => !k.testBit j || !tget t (k - 2 ^ j)) = false) : minB t S k = false := by
  cases hm : minB t S k with
  | false => rfl
  | true =>
    rw [minB_iff] at hm
    rw [← Bool.not_eq_true] at h
    refine absurd ?_ h
    simp only [Bool.and_eq_true, List.all_eq_true, List.mem_range, Bool.or_eq_true, Bool.not_eq_true']
    refine ⟨hm.1, fun j hj => ?_⟩
    cases hb : k.testBit j with
    | false => exact .inl rfl
    | true => exact .inr (hm.2 j (by omega) hb)
set_option maxRecDepth 8000 in
theorem c_smin1 {t : List Bool} {S l bt n c : Nat} {A : Option Addr} {D D' : Nat → Prop} (J : Nat → World → Prop) (hS : S ≤ 12) (hlen : t.length ≤ 2 ^ S) (hD : D bt) (hDD : ∀ b, D' b → D b)
    (hstep : ∀ (k : Nat) u, k < n → minB t S k = true → J k u → YieldP Tryz.prog l [iv (k : Int)].toArray (fun v w' => v = .bool true ∧ J (k + 1) w' ∧ Kept D u w') u)
    (hskip : ∀ (k : Nat) u, k < n → minB t S k = false → J k u → J (k + 1) u) (hb : Blk w bt 53 [.slice A n c]) (hs : SlR tBool D' w A n t) (h0 : J 0 w) :
    CallZ Tryz.prog 60 #[.func (.yield l) #[] #[], ptr bt] w (fun _ w' => J n w') := by
  have ht := hs.len
  have hpow : 2 ^ S ≤ 4096 := Nat.le_trans (Nat.pow_le_pow_right (by omega) hS) (by decide)
  refine fn_rule (args := [.func (.yield l) #[] #[], ptr bt]) Tryz.func60 (by kernel_rfl) ?_
  refine ld (.slice A n c) (hb.cell rfl) ?_
  refine len ?_
  refine loop_rule (fun k : Nat => [(8, iv (k : Int))]) (fun k u => k ≤ n ∧ Blk u bt 53 [.slice A n c] ∧ SlR tBool D' u A n t ∧ J k u) (fun k _ => n - k) 0 ⟨rfl, trivial⟩ ⟨by omega, hb, hs, h0⟩ rfl ?_
  clear hb hs h0
  rintro G k u ⟨hk, hb, hs, hj⟩
  refine cD (fun hlt => ?_) (fun hge => ?_)
  rotate_left
  · obtain rfl : k = n := by omega
    exact ret0 hj
  have hlt : k < n := by omega
  obtain ⟨b, o, cs, y, rfl, hy, -, -, hc, rfl⟩ := hs.at_ hlt
  have hyt : y = tget t k := by unfold tget; rw [List.getD_eq_getElem?_getD, hy]; rfl
  have cellAt : ∀ j, j < n → u.cell? (ad b (o + j * 1)) = some (.bool (tget t j)) := fun j hj => by
    obtain ⟨b', o', cs', y', e, hy', -, -, hc', rfl⟩ := hs.at_ hj
    simp only [Option.some.injEq, Addr.mk.injEq] at e
    obtain ⟨rfl, rfl, -⟩ := e
    have : y' = tget t j := by unfold tget; rw [List.getD_eq_getElem?_getD, hy']; rfl
    rw [← this]; exact hc' 0 _ rfl
  refine idx k rfl hlt ?_
  refine ld (.bool y) (hc 0 _ rfl) ?_
  refine loop2 (fun (i : Nat) (ok : Bool) => [(5, iv (i : Int)), (4, .bool ok)]) (fun i ok z => i ≤ S ∧ u = z ∧ ok = (tget t k && (List.range i).all fun j => !k.testBit j || !tget t (k - 2 ^ j))) (fun i _ _ => S - i) 0 y ⟨rfl, rfl, trivial⟩ ⟨by omega, rfl, by rw [hyt]; simp⟩ rfl ?_
  rintro G2 i ok z ⟨hi, rfl, hok⟩
  cases ok with
  | false =>
    refine arI (by omega) ?_
    exact next (k + 1) ⟨by rw [Int.natCast_add]; rfl, trivial⟩ ⟨by omega, hb, hs, hskip k u hlt (min_false hi hok.symm) hj⟩ (by omega)
  | true =>
    refine shrV (fun sh hsh => ?_)
    have hsh : sh = k >>> i := by rw [hsh, Int.toNat_natCast]
    have hshl : sh ≤ k := by rw [hsh, Nat.shiftRight_eq_div_pow]; exact Nat.div_le_self _ _
    refine cD (fun hlti => ?_) (fun hgei => ?_)
    · have hlti : i < S := by
        rcases Nat.lt_or_ge i S with h | h
        · exact h
        · have : i = S := by omega
          rw [this, shr_zero (show k < 2 ^ S by omega)] at hsh
          omega
      have hst := min_step hok
      have andc : ∀ {sh2 an : Nat}, sh2 = k >>> i → an = sh2 &&& 1 → (an = 1 ↔ k.testBit i = true) ∧ (an = 0 ∨ an = 1) := fun h1 h2 => by
        rw [h2, h1]; refine ⟨bit_one, ?_⟩; rw [Nat.and_one_is_mod]; omega
      cases hbit : k.testBit i with
      | false =>
        refine drawQ mx (by kernel_rfl) ?_
        refine shrV (fun sh2 hsh2 => ?_)
        have hsh2 : sh2 = k >>> i := by rw [hsh2, Int.toNat_natCast]
        have hshl2 : sh2 ≤ k := by rw [hsh2, Nat.shiftRight_eq_div_pow]; exact Nat.div_le_self _ _
        refine andV (a := sh2) (b := 1) (fun an han => ?_)
        obtain ⟨q1, q2⟩ := andc hsh2 han
        have q3 : an = 0 := by
          rcases q2 with h | h
          · exact h
          · rw [q1.1 h] at hbit; cases hbit
        refine cD (fun _ => ?_) (fun h => absurd (by omega) h)
        refine arI (by omega) ?_
        refine next2 (i + 1) true ⟨by rw [Int.natCast_add]; rfl, rfl, trivial⟩ ⟨by omega, rfl, ?_⟩ (by omega)
        rw [← hst, hbit]; rfl
      | true =>
        have hle := bit_le hbit
        have hlt2 : k - 2 ^ i < n := Nat.lt_of_le_of_lt (Nat.sub_le _ _) (show k < n by omega)
        have hcell := cellAt _ hlt2
        cases hv : tget t (k - 2 ^ i) with
        | false =>
          rw [hv] at hcell
          refine drawQ mx (by kernel_rfl) ?_
          refine shrV (fun sh2 hsh2 => ?_)
          have hsh2 : sh2 = k >>> i := by rw [hsh2, Int.toNat_natCast]
          have hshl2 : sh2 ≤ k := by rw [hsh2, Nat.shiftRight_eq_div_pow]; exact Nat.div_le_self _ _
          refine andV (a := sh2) (b := 1) (fun an han => ?_)
          obtain ⟨q1, q2⟩ := andc hsh2 han
          have q3 : an = 1 := q1.2 hbit
          refine cD (fun h => absurd h (by omega)) (fun _ => ?_)
          refine ld (.slice (some (ad b o)) n c) (hb.cell rfl) ?_
          refine shl1 (fun pw hpw _ => ?_)
          have hpw : pw = 2 ^ i := by rw [hpw, Int.toNat_natCast]
          refine andNotV (a := k) (b := pw) (fun c' hc' => ?_)
          have hc' : c' = k - 2 ^ i := by
            rw [hc', hpw]
            rw [and_bit hbit]
          refine idx c' rfl (by omega) ?_
          refine ld (.bool false) (by rw [hc']; exact hcell) ?_
          refine arI (by omega) ?_
          refine next2 (i + 1) true ⟨by rw [Int.natCast_add]; rfl, rfl, trivial⟩ ⟨by omega, rfl, ?_⟩ (by omega)
          rw [← hst, hbit, hv]; rfl
        | true =>
          rw [hv] at hcell
          refine drawQ mx (by kernel_rfl) ?_
          refine shrV (fun sh2 hsh2 => ?_)
          have hsh2 : sh2 = k >>> i := by rw [hsh2, Int.toNat_natCast]
          have hshl2 : sh2 ≤ k := by rw [hsh2, Nat.shiftRight_eq_div_pow]; exact Nat.div_le_self _ _
          refine andV (a := sh2) (b := 1) (fun an han => ?_)
          obtain ⟨q1, q2⟩ := andc hsh2 han
          have q3 : an = 1 := q1.2 hbit
          refine cD (fun h => absurd h (by omega)) (fun _ => ?_)
          refine ld (.slice (some (ad b o)) n c) (hb.cell rfl) ?_
          refine shl1 (fun pw hpw _ => ?_)
          have hpw : pw = 2 ^ i := by rw [hpw, Int.toNat_natCast]
          refine andNotV (a := k) (b := pw) (fun c' hc' => ?_)
          have hc' : c' = k - 2 ^ i := by
            rw [hc', hpw]
            rw [and_bit hbit]
          refine idx c' rfl (by omega) ?_
          refine ld (.bool true) (by rw [hc']; exact hcell) ?_
          refine arI (by omega) ?_
          refine next2 (i + 1) false ⟨by rw [Int.natCast_add]; rfl, rfl, trivial⟩ ⟨by omega, rfl, ?_⟩ (by omega)
          rw [← hst, hbit, hv]; rfl
    · have hm : minB t S k = true := by rw [← min_done hi (show k >>> i = 0 by omega)]; exact hok.symm
      refine yield_of (hstep k u hlt hm hj) ?_
      rintro _ u2 ⟨rfl, hj2, k2⟩
      refine arI (by omega) ?_
      exact next (k + 1) ⟨by rw [Int.natCast_add]; rfl, trivial⟩ ⟨by omega, hb.kept k2 hD, hs.kept k2 fun b _ h => hDD b h, hj2⟩ (by omega)
end
end Go.Proofs.YtcpdhclnmjfldaaGreat

/- The order of lists of numbers, in the kit's own walk (what the sort asks of it). -/
namespace Go.Proofs.YtcpdhclnmjfldaaGreat
open Go Go.RowKit Go.Sort

def cmpK (a b : Int) : Int := if a < b then -1 else if b < a then 1 else 0
theorem k_Compare (x y : Int) (W : World) : Calls Tryz.prog 63 #[.int .i64 x, .int .i64 y] W fun e w' => e = .returned (.int .i64 (cmpK x y)) ∧ w' = W := by
  go_enter Tryz.func63, Tryz.ntmps63
  go_wp2
  · go_ret
    refine ⟨congrArg Ending.returned ?_, rfl⟩
    have h : x < y := by assumption
    show Value.int .i64 (-1) = .int .i64 (cmpK x y)
    unfold cmpK; rw [if_pos h]
  · go_ret
    refine ⟨congrArg Ending.returned ?_, rfl⟩
    have h : y < x := by assumption
    show Value.int .i64 1 = .int .i64 (cmpK x y)
    unfold cmpK; rw [if_neg (by omega), if_pos h]
  · go_ret
    refine ⟨congrArg Ending.returned ?_, rfl⟩
    have h : y ≤ x := by assumption
    have h' : x ≤ y := by assumption
    show Value.int .i64 0 = .int .i64 (cmpK x y)
    unfold cmpK; rw [if_neg (by omega), if_neg (by omega)]
theorem cmpL_cons (x y : Int) (a b : List Int) : cmpL (x :: a) (y :: b) = if cmpK x y ≠ 0 then cmpK x y else cmpL a b := by
  have e : cmpL (x :: a) (y :: b) = if x < y then -1 else if y < x then 1 else cmpL a b := by rw [cmpL]
  rw [e]
  unfold cmpK
  by_cases h1 : x < y
  · rw [if_pos h1, if_pos h1, if_pos (by decide)]
  · by_cases h2 : y < x
    · rw [if_neg h1, if_pos h2, if_neg h1, if_pos h2, if_pos (by decide)]
    · rw [if_neg h1, if_neg h2, if_neg h1, if_neg h2, if_neg (by simp)]
/-- A row of numbers in a world. -/
def IntsAt (W : World) (A : Option Addr) (l : List Int) : Prop := ∀ k v, l[k]? = some v → ∃ b o, A = some ⟨b, o, none⟩ ∧ W.cell? ⟨b, o + k, none⟩ = some (.int .i64 v)
set_option maxRecDepth 100000 in
theorem k_cmpSl (A B : Option Addr) (n m c1 c2 : Nat) (l k : List Int) (W : World) (hn : l.length = n) (hm : k.length = m) (hl : IntsAt W A l) (hk : IntsAt W B k) (hn63 : n < 1000000) (hm63 : m < 1000000) :
    Calls Tryz.prog 36 #[.slice A n c1, .slice B m c2] W fun e w' => e = .returned (.int .i64 (cmpL l k)) ∧ w' = W := by
  go_enter Tryz.func36, Tryz.ntmps36
  go_wp2
  go_loop [11] (fun i => ∃ j : Nat, j ≤ n ∧ i = .int .i64 j ∧ j ≤ m ∧ cmpL (l.drop j) (k.drop j) = cmpL l k) (fun i => n - (Go.RowKit.intOf i).toNat)
  case atStart => exact ⟨0, by omega, rfl, by omega, by rw [List.drop_zero, List.drop_zero]⟩
  case round =>
    obtain ⟨j, hj, rfl, hjm, hc⟩ := hrel
    by_cases hlt : j < n
    · obtain ⟨x, hx⟩ : ∃ x, l[j]? = some x := ⟨_, List.getElem?_eq_getElem (by omega : j < l.length)⟩
      obtain ⟨b1, o1, rfl, hx1⟩ := hl j x hx
      have hd1 : l.drop j = x :: l.drop (j + 1) := by
        have h1 : j < l.length := by omega
        rw [List.getElem?_eq_getElem h1] at hx
        injection hx with hx
        rw [← hx]; exact List.drop_eq_getElem_cons h1
      by_cases hlm : j < m
      · obtain ⟨y, hy⟩ : ∃ y, k[j]? = some y := ⟨_, List.getElem?_eq_getElem (by omega : j < k.length)⟩
        obtain ⟨b2, o2, rfl, hy1⟩ := hk j y hy
        have hd2 : k.drop j = y :: k.drop (j + 1) := by
          have h1 : j < k.length := by omega
          rw [List.getElem?_eq_getElem h1] at hy
          injection hy with hy
          rw [← hy]; exact List.drop_eq_getElem_cons h1
        have e : cmpL l k = if cmpK x y ≠ 0 then cmpK x y else cmpL (l.drop (j + 1)) (k.drop (j + 1)) := by
          rw [← hc, hd1, hd2, cmpL_cons]
        have k1 := k_Compare x y W
        obtain ⟨r, hr⟩ : ∃ r, r = cmpK x y := ⟨_, rfl⟩
        rw [← hr] at e k1
        have e1 : r ≠ 0 → r = cmpL l k := fun h => by rw [e, if_pos h]
        have e2 : r = 0 → cmpL (l.drop (j + 1)) (k.drop (j + 1)) = cmpL l k := fun h => by rw [e, if_neg (by simp [h])]
        clear hd1 hd2 hx hy hl hk hr e hc
        go_wp2_with (go_at_call 63; refine k1.mono ?_; rintro e w' ⟨rfl, rfl⟩)
        · have h : r ≠ 0 := by have := ‹(r != 0) = true›; simpa using this
          go_ret
          refine ⟨congrArg Ending.returned ?_, rfl⟩
          exact congrArg (Value.int .i64) (e1 h)
        · have h : r = 0 := by first | assumption | (have := ‹(r != 0) = false›; simpa using this)
          go_round
          case rel => exact ⟨j + 1, by omega, rfl, by omega, e2 h⟩
          case measure => simp [Go.RowKit.intOf]; omega
      · have hge : m ≤ j := by omega
        have hk0 : k.drop j = [] := List.drop_eq_nil_of_le (by omega)
        have hr : cmpL l k = 1 := by rw [← hc, hd1, hk0]; rfl
        clear hk0
        clear hd1 hx hl hk hc
        go_wp2
        go_ret
        first
          | exact ⟨rfl, rfl⟩
          | exact ⟨congrArg Ending.returned (congrArg (Value.int .i64) hr.symm), rfl⟩
    · have hjn : j = n := by omega
      have hr : cmpL l k = if n < m then -1 else 0 := by
        have hl0 : l.drop j = [] := List.drop_eq_nil_of_le (by omega)
        rw [← hc, hl0]
        by_cases h : n < m
        · rw [if_pos h]
          have h1 : j < k.length := by omega
          rw [List.drop_eq_getElem_cons h1]; rfl
        · have hk0 : k.drop j = [] := List.drop_eq_nil_of_le (by omega)
          rw [if_neg h, hk0]; rfl
      have hr1 : n < m → cmpL l k = -1 := fun h => by rw [hr, if_pos h]
      have hr2 : ¬ n < m → cmpL l k = 0 := fun h => by rw [hr, if_neg h]
      clear hl hk hc hr
      go_wp2
      · have h : n < m := by first | assumption | omega
        go_ret
        first
          | exact ⟨rfl, rfl⟩
          | exact ⟨congrArg Ending.returned (congrArg (Value.int .i64) (hr1 h).symm), rfl⟩
      · have h : ¬ n < m := by omega
        go_ret
        first
          | exact ⟨rfl, rfl⟩
          | exact ⟨congrArg Ending.returned (congrArg (Value.int .i64) (hr2 h).symm), rfl⟩
end Go.Proofs.YtcpdhclnmjfldaaGreat

/- The sort, laid over this program. -/
namespace Go.Proofs
open Go.Shelf Go.RowKit Go.Lib Go.Sort
shelf_lay_g SlLaysF.n6 Slsf 6 at Tryz 35 as Tryz.lsort
#print axioms Tryz.lsort
end Go.Proofs

/- Layer 49: the sort's contract in this layer's words; contract of Minimal. -/
namespace Go.Proofs.YtcpdhclnmjfldaaGreat
open Go Go.Sort Go.Shelf Go.RowKit

/-! ### the sort -/
/-- The heads that read in a world, apart from a block. -/
def HdIn (w0 w : World) (g : Nat) : Type := {h : Hd // HdI w0 w h ∧ ¬ (∃ cs, Blk w g 3 cs) ∧ h.l.length ≤ 100000}
section
variable {w0 w : World} {g : Nat}
def HdIn.zero (hg : ¬ ∃ cs, Blk w g 3 cs) : HdIn w0 w g := ⟨⟨none, 0, 0, []⟩, ⟨.nil, Nat.le_refl _⟩, hg, Nat.zero_le _⟩
def encH (x : HdIn w0 w g) : Value := x.1.v
def cmpH (x y : HdIn w0 w g) : Int := cmpL x.1.l y.1.l
theorem cmpH_lt (x y : HdIn w0 w g) : ltOf cmpH x y = true ↔ cmpL x.1.l y.1.l < 0 := by unfold ltOf cmpH; rw [decide_eq_true_eq]
theorem cmpH_nlt (x y : HdIn w0 w g) : ltOf cmpH x y = false ↔ ¬ cmpL x.1.l y.1.l < 0 := by rw [← cmpH_lt]; simp
theorem cmpH_swo : SWO (ltOf (cmpH (w0 := w0) (w := w) (g := g))) where
  irrefl x := by rw [cmpH_nlt, cmpL_refl]; decide
  trans x y z h1 h2 := by rw [cmpH_lt] at *; exact cmpL_trans h1 h2
  ntrans x y z h1 h2 := by
    rw [cmpH_nlt] at *
    intro h
    rcases cmpL_tri x.1.l y.1.l with e | e | e
    · exact h1 e
    · rw [e] at h; exact h2 h
    · exact h2 (cmpL_trans e h)
variable {n : Nat} {os : Array Obj} [Inhabited (HdIn w0 w g)]
theorem sort_keptH (d : Array (HdIn w0 w g)) : Kept (fun b => b ≠ g) w (sortWorld encH w g 0 n d os) := by
  refine ⟨rfl, rfl, rfl, ?_, fun i hi hne => ?_⟩
  · show w.heap.size ≤ ((w.heap.modify g _) ++ os).size
    simp
  · show ((w.heap.modify g _) ++ os)[i]? = w.heap[i]?
    rw [Array.getElem?_append_left (by simpa using hi), Array.getElem?_modify, if_neg (fun e => hne e.symm)]
theorem sort_blkH {t : TypeId} {cs rest : List Value} (h : Blk w g t (cs ++ rest)) (d : Array (HdIn w0 w g)) (hd : d.size = cs.length) : Blk (sortWorld encH w g 0 n d os) g t (d.toList.map encH ++ rest) := by
  have hlt := h.lt
  unfold Blk at h
  show ((w.heap.modify g (onCells (putCells encH 0 d))) ++ os)[g]? = _
  rw [Array.getElem?_append_left (by simpa using hlt), Array.getElem?_modify, if_pos rfl, h]
  show some (Obj.cells (putCells encH 0 d (cs ++ rest).toArray) t (0, 0)) = some (Obj.cells (d.toList.map encH ++ rest).toArray t (0, 0))
  have key : putCells encH 0 d (cs ++ rest).toArray = (d.toList.map encH ++ rest).toArray := by
    apply Array.ext_getElem?
    intro j
    unfold putCells
    rw [Array.getElem?_mapIdx, List.getElem?_toArray, List.getElem?_toArray]
    by_cases hj : j < cs.length
    · rw [List.getElem?_append_left hj, List.getElem?_append_left (by simp [hd]; exact hj), List.getElem?_eq_getElem hj, List.getElem?_map]
      show some (if _ then _ else _) = _
      rw [if_pos (by omega), Nat.sub_zero, getElem!_pos d j (by omega), Array.getElem?_toList, Array.getElem?_eq_getElem (by omega)]
      rfl
    · rw [List.getElem?_append_right (by omega), List.getElem?_append_right (by simp [hd]; omega)]
      have el : (d.toList.map encH).length = cs.length := by rw [List.length_map, Array.length_toList, hd]
      rw [el]
      cases hr : rest[j - cs.length]? with
      | none => rfl
      | some v =>
        show some (if _ then _ else _) = _
        rw [if_neg (by omega)]
  rw [key]
theorem ints_sort (d : Array (HdIn w0 w g)) (x : HdIn w0 w g) : IntsAt (sortWorld encH w g 0 n d os) x.1.A x.1.l := fun k v hv => by
  obtain ⟨b, o, cs, hA, ⟨-, cs', hB⟩, hc, hcs, -⟩ := x.2.1.rd.2.2 k v hv
  rw [hcs] at hc
  have hc0 := hc 0 _ rfl
  have hne : b ≠ g := fun e => x.2.2.1 ⟨cs', e ▸ hB⟩
  refine ⟨b, o, hA, ?_⟩
  have := (sort_keptH (n := n) (os := os) d).cell hc0 hne
  simpa [tInt] using this
end
section
variable {w0 w : World} {g n : Nat}
set_option maxRecDepth 100000 in
theorem c_sortL {c : Nat} {s : List Hd} {rest : List Value} (hb : Blk w g 43 (s.map Hd.v ++ rest)) (hn : n = s.length) (hs : ∀ h ∈ s, HdI w0 w h) (hlen : ∀ h ∈ s, h.l.length ≤ 100000) (hl : s.length ≤ 1000000) :
    CallZ Tryz.prog 35 #[.slice (some (ad g 0)) n c, .func (.func 36) #[] #[]] w (fun v w' => v = .tuple #[] ∧ ∃ s' : List Hd, s'.Perm s ∧ (s'.map (·.l)).Pairwise (fun a b => ¬ cmpL b a < 0) ∧ Blk w' g 43 (s'.map Hd.v ++ rest) ∧ Kept (fun b => b ≠ g) w w') := by
  intro v0 hw
  subst hw
  subst hn
  have hs1 : ∀ h ∈ s, HdI w0 v0 h := fun h hh => (hs h hh).step fun _ _ _ _ => rfl
  have hb1 : Blk v0 g 43 (s.map Hd.v ++ rest) := hb
  clear hs hb
  have hs := hs1
  have hb := hb1
  clear hs1 hb1
  have hg : ¬ ∃ cs, Blk v0 g 3 cs := fun ⟨cs, h⟩ => absurd (hb.uniq h).1 (by decide)
  have inh : Inhabited (HdIn w0 v0 g) := ⟨HdIn.zero hg⟩
  obtain ⟨d, hd⟩ : ∃ d : List (HdIn w0 v0 g), d.map (·.1) = s := by
    clear hb hl
    induction s with
    | nil => exact ⟨[], rfl⟩
    | cons h s ih =>
      obtain ⟨d, hd⟩ := ih (fun x hx => hlen x (List.mem_cons_of_mem _ hx)) fun x hx => hs x (List.mem_cons_of_mem _ hx)
      exact ⟨⟨h, hs h List.mem_cons_self, hg, hlen h List.mem_cons_self⟩ :: d, congrArg (h :: ·) hd⟩
  have hds : d.length = s.length := by rw [← hd, List.length_map]
  have hdv : s.map Hd.v = d.map encH := by rw [← hd, List.map_map]; rfl
  rw [callsIn_wide]
  have hcon := Any.slices_SortFunc Tryz.lsort (encH (w0 := w0) (w := v0) (g := g)) (fun _ => rfl) cmpH cmpH_swo 36 #[] g 0 c d.toArray v0 (enters_of Tryz.func36 (by kernel_rfl) rfl)
    (fun m os dk hdk x y => (k_cmpSl x.1.A y.1.A x.1.n y.1.n x.1.c y.1.c x.1.l y.1.l _ x.2.1.rd.len y.2.1.rd.len (ints_sort dk x) (ints_sort dk y) (by have := x.2.2.2; have := x.2.1.rd.len; omega) (by have := y.2.2.2; have := y.2.1.rd.len; omega)).mono fun e w' ⟨h1, h2⟩ => ⟨h1, 0, #[], by rw [h2, grow_empty]; rfl⟩)
    (fun j hj => by
      have hj' : j < d.length := by simpa using hj
      rw [getElem!_pos d.toArray j hj, Nat.zero_add]
      refine ⟨hb.cell ?_, hb.frozen _⟩
      rw [hdv, List.getElem?_append_left (by simpa using hj'), List.getElem?_map, List.getElem?_eq_getElem hj']
      rfl) hb.lt (by simp; omega)
  change Calls Tryz.prog 35 _ _ _ at hcon
  rw [show d.toArray.size = s.length by rw [List.size_toArray, hds]] at hcon
  refine hcon.mono ?_
  rintro e w' ⟨rfl, d', m, os, hp, hso, rfl⟩
  have hd's : d'.size = s.length := by have := hp.1; rw [this]; simpa using hds
  have hperm : d'.toList.Perm d := by
    have := hp.2.2
    rw [Array.extract_eq_self_of_le (by omega), Array.extract_eq_self_of_le (by simp; omega)] at this
    simpa using this
  refine ⟨_, rfl, rfl, d'.toList.map (·.1), by rw [← hd]; exact hperm.map _, ?_, ?_, ⟨rfl, rfl, rfl, (sort_keptH (w := v0) d').size, (sort_keptH (w := v0) d').blk⟩⟩
  · rw [List.map_map, List.pairwise_map, List.pairwise_iff_getElem]
    intro a b ha hb' hab
    have ha' : a < d'.size := by simpa using ha
    have hb'' : b < d'.size := by simpa using hb'
    have h1 := hso a b (Nat.zero_le _) hab (by omega)
    rw [getElem!_pos d' b hb'', getElem!_pos d' a ha', cmpH_nlt] at h1
    simpa using h1
  · have := sort_blkH (n := m) (os := os) hb d' (by rw [List.length_map]; exact hd's)
    rw [List.map_map]
    exact this
end
end Go.Proofs.YtcpdhclnmjfldaaGreat

/- Layer 49: contract of Minimal. -/
namespace Go.Proofs.YtcpdhclnmjfldaaGreat
open Go Go.Sort Go.Shelf Go.RowKit

theorem c_sortNil {w : World} {c : Nat} {fv : Value} : CallZ Tryz.prog 35 #[.slice none 0 c, fv] w (fun v w' => v = .tuple #[] ∧ w' = w) := by
  intro v0 hw
  subst hw
  rw [callsIn_wide]
  have hcon := AnyF.slices_SortFunc_none (P := Tryz.prog) { Tryz.lsort with } none c fv v0
  change Calls Tryz.prog 35 _ _ _ at hcon
  refine hcon.mono ?_
  rintro e w' ⟨rfl, rfl⟩
  exact ⟨_, rfl, rfl, rfl⟩
theorem loop_ne {u : World} {l b : Nat} {r : Loop} {t : TypeId} {cs : List Value} (hl : LoopAt u l r) (hB : Blk u b t cs) : b ≠ l := fun e => by
  subst e; unfold LoopAt at hl; unfold Blk at hB; rw [hl] at hB; cases hB
theorem own_loop {w0 u : World} {A : Option Addr} {n c sz l : Nat} {e : TypeId} {cs : List Value} {r : Loop} (o : OwnF w0 u A n c e sz cs) (hl : LoopAt u l r) : A ≠ some (ad l 0) := fun e2 => by
  obtain ⟨rest, hb, _⟩ := Own.blk (e2 ▸ o.own)
  exact loop_ne hl hb rfl
theorem own_cap {w0 u : World} {g n c sz : Nat} {e : TypeId} {cs : List Value} (o : OwnF w0 u (some (ad g 0)) n c e sz cs) : c ≤ maxLen := by
  rcases o.own.2 with ⟨h, _⟩ | ⟨g', cap', cur, hv, _, _, _, h2, _⟩
  · cases h
  · injection hv with _ _ hc; rw [hc]; exact h2
/-- What Minimal has so far. -/
def minPre (t : List Bool) (S k : Nat) : List (List Int) := ((List.range k).filter (minB t S)).map fun n => membersL n S
theorem minPre_yes {t : List Bool} {S k : Nat} (h : minB t S k = true) : minPre t S (k + 1) = minPre t S k ++ [membersL k S] := by
  unfold minPre; rw [List.range_succ, List.filter_append, List.map_append]; simp [h]
theorem minPre_no {t : List Bool} {S k : Nat} (h : minB t S k = false) : minPre t S (k + 1) = minPre t S k := by
  unfold minPre; rw [List.range_succ, List.filter_append, List.map_append]; simp [h]
section
variable {w : World}
set_option maxRecDepth 8000 in
theorem c_sMinimal {D : Nat → Prop} {csd csx : List Value} {d : Dist} {x : Ev} (hd : DiR D w csd d) (hx : EvR D w csx x) : CallZ Tryz.prog 10 #[.agg csd.toArray, .agg csx.toArray] w
    (fun v w' => ∃ A n c s, v = .tuple #[.slice A n c, iv (evErr d x)] ∧ OwnL w w' A n c s ∧ s.map (·.l) = minSets d x) := by
  have hd := hd.more (D' := fun _ => True) fun _ _ _ => trivial
  have hx := hx.more (D' := fun _ => True) fun _ _ _ => trivial
  obtain ⟨A1, n1, c1, A2, n2, c2, A3, n3, c3, A4, n4, c4, A5, n5, c5, A6, n6, c6, rfl, -⟩ := hd.ex
  obtain ⟨W1, m1, e1, S1, m2, e2, rfl, hwv, hsu, -⟩ := hx.ex
  refine fn_rule (args := [.agg #[.string d.name, iv d.hours, iv d.cap, iv d.start, .slice A1 n1 c1, .slice A2 n2 c2, .slice A3 n3 c3, .slice A4 n4 c4, .slice A5 n5 c5, .slice A6 n6 c6], .agg #[.slice W1 m1 e1, .slice S1 m2 e2]]) Tryz.func10 (by kernel_rfl) ?_
  refine box (fun bd w1 h1 => ?_)
  refine box (fun bx w2 h2 => ?_)
  refine alloc (fun b4 w3 h3 => ?_)
  have e1' := h1.at_
  have e2' := h2.at_
  have e3' := h3.at_
  have s1 := h1.size
  have s2 := h2.size
  have s3 := h3.size
  have x3 : Ext w w3 := (h1.ext.trans h2.ext).trans h3.ext
  have Bd : Blk w3 bd 31 [.string d.name, iv d.hours, iv d.cap, iv d.start, .slice A1 n1 c1, .slice A2 n2 c2, .slice A3 n3 c3, .slice A4 n4 c4, .slice A5 n5 c5, .slice A6 n6 c6] := h1.blk.ext (h2.ext.trans h3.ext)
  have Bx : Blk w3 bx 35 [.slice W1 m1 e1, .slice S1 m2 e2] := h2.blk.ext h3.ext
  have B4 : Blk w3 b4 38 [.slice none 0 0] := h3.blk
  refine ldA [.string d.name, iv d.hours, iv d.cap, iv d.start, .slice A1 n1 c1, .slice A2 n2 c2, .slice A3 n3 c3, .slice A4 n4 c4, .slice A5 n5 c5, .slice A6 n6 c6] (.blk Bd) rfl ?_
  refine ldA [.slice W1 m1 e1, .slice S1 m2 e2] (.blk Bx) rfl ?_
  refine call_of (c_Table (hd.ext x3) (hx.ext x3)) ?_
  rintro _ w4 ⟨TA, tn, tc, rfl, oT⟩
  have x04 := x3.trans oT.ext
  have B4 := B4.ext oT.ext
  have l4 := B4.lt
  obtain ⟨e, he⟩ : ∃ e, e = evErr d x := ⟨_, rfl⟩
  rw [← he]
  refine cN (fun g => ?_) (fun g => ?_)
  · refine st1 B4 rfl (fun w5 B5 k5 => ?_)
    refine ret ?_
    refine resL _ (holds_cell (B5.cell rfl)) ?_
    exact ⟨none, 0, 0, [], rfl, OwnL.nil (x04.then k5 fun b hb _ => by omega), (minSets_err (by rw [← he]; exact g)).symm⟩
  have hev : evErr d x = 0 := by rw [← he]; exact g
  obtain ⟨-, -, hS⟩ := ev_sizes hev
  have tl := table_len hev
  have hpow : 2 ^ x.suspects.length ≤ 4096 := Nat.le_trans (Nat.pow_le_pow_right (by omega) hS) (by decide)
  have sT := oT.bools (D := fun b => w3.heap.size ≤ b) (by rw [tl]; omega) fun _ h => h
  have hms : minSets d x = putsS (minPre (tableV d x) x.suspects.length tn) := by unfold minSets minV minL minPre; rw [sT.len]
  rw [hms]
  have htl : (tableV d x).length ≤ 2 ^ x.suspects.length := by rw [tl]; exact Nat.le_refl _
  have hnd : (minPre (tableV d x) x.suspects.length tn).Nodup := by have := minL_nodup htl; unfold minL at this; rw [sT.len] at this; exact this
  generalize tableV d x = t at sT htl hnd ⊢
  generalize x.suspects.length = S at hS hpow htl hnd ⊢
  have htn := sT.len
  clear hms tl
  refine call_of c_sminimal ?_
  rintro _ w5 ⟨bt, rfl, x5, Bt, hbt⟩
  have x05 := x04.trans x5
  have B4 := B4.ext x5
  have sT := sT.ext x5
  have z5 := x5.size
  have z04 := x04.size
  have lt' := Bt.lt
  have z34 := oT.ext.size
  have hb4t : b4 ≠ bt := by omega
  have sT : SlR tBool (fun b => b ≠ b4 ∧ b < w5.heap.size) w5 TA tn t := sT.more (by decide) fun b hb h => ⟨by omega, hb⟩
  refine range (gf := 60) (lb := #[ptr bt]) rfl (fun fn tmps w6 R hR hF hwf x6 z6 hD6 hl6 => ?_)
  show CallZ _ _ #[.func (.yield (w5.heap.size + 1)) #[] #[], ptr bt] w6 _
  have w64 : w.heap.size ≤ b4 := by have := (h1.ext.trans h2.ext).size; omega
  refine (c_smin1 (D := fun b => b ≠ b4 ∧ b < w5.heap.size) (D' := fun b => b ≠ b4 ∧ b < w5.heap.size) (S := S) (t := t) (fun k u => Kept (fun b => b ≠ b4 ∧ b ≠ w5.heap.size + 1) w6 u ∧ LoopAt u (w5.heap.size + 1) R ∧ ∃ A n c s, Blk u b4 38 [.slice A n c] ∧ OwnL w u A n c s ∧ (∀ g, A = some (ad g 0) → w6.heap.size ≤ g) ∧ s.map (·.l) = minPre t S k ∧ n ≤ k)
    hS htl ⟨by omega, by omega⟩ (fun b h => h) ?_ ?_ (Bt.ext x6) (sT.ext x6) ⟨.refl _ _, hl6, none, 0, 0, [], B4.ext x6, OwnL.nil (x05.trans x6), (fun g h => by cases h), rfl, Nat.le_refl _⟩).mono ?_
  · rintro k u hk hm ⟨k5, l5, A, n, c, s, C4, o, hA6, hs, hn⟩
    subst hR
    refine yield_rule (args := [iv (k : Int)]) l5 rfl rfl hF hwf ?_
    refine mid' l5 (fun u6 k6 z66 l6 => ?_)
    have kz := k5.size
    have x0u : Ext w u6 := ((x05.trans x6).then k5 fun b hb _ => ⟨by omega, by omega⟩).then k6 fun b hb _ => by omega
    have C6 := C4.kept k6 (by omega)
    have o6 : OwnL w u6 A n c s := ⟨o.own.thenK k6 (fun g hg e => own_loop o.own l5 (e ▸ hg)) x0u, fun h hh => (o.hds h hh).kept k6 fun b cs hB _ => loop_ne l5 hB⟩
    refine drawP (.take 0 (.take 1 (.eff 2 (.eff 3 (.eff 4 (.bar (.eff 5 .done))))))) [5] (fun z => Kept (fun b => A ≠ some (ad b 0)) u6 z) mx (by kernel_rfl) (.refl _ _) ?_
    refine ldK (.slice A n c) (C6.cell rfl) (own_ty o6.own C6 (by decide)) (.refl _ _) ?_
    refine call_of (c_smembers (n := k) (S := S) (by omega) hS) ?_
    rintro _ u7 ⟨A', n', c', rfl, o'⟩
    refine strS (Ext.any o'.ext) ?_
    have hn' : n' ≤ 12 := by
      have h1 := o'.own.len
      rw [List.length_map] at h1
      have h2 := members_len k S
      omega
    have hH : HdI w u7 ⟨A', n', c', membersL k S⟩ := HdI.own o' x0u.size (fun v hv => by have := members_bound k S v hv; unfold I64; omega) (by omega)
    refine lit [.slice A' n' c'] (fun gg u8 hq => ?_)
    have x68 := o'.ext.trans hq.ext
    refine strS (Ext.any x68) ?_
    refine appF (o6.own.then x68) (hq.src (sz := 1) rfl) (by omega) (fun A2 c2' u9 p k9 hA => ?_)
    have xk : Kept (fun b => A ≠ some (ad b 0)) u6 u9 := (Ext.any x68).trans k9
    refine strS xk ?_
    refine barS (fun _ => True) trivial ?_
    have C9 := C6.kept xk (own_ty o6.own C6 (by decide))
    refine st1 C9 rfl (fun u10 C10 k10 => ?_)
    refine strS trivial ?_
    have l9 := l6.kept xk (own_loop o6.own l6)
    have l10 := l9.kept k10 (show w5.heap.size + 1 ≠ b4 by omega)
    refine roundN' _ l10 (fun u11 k11 l11 => ?_)
    have kA : ∀ b, b < w6.heap.size → A ≠ some (ad b 0) := fun b hb e => by have := hA6 b e; omega
    have z67 := x68.size
    have z68 := k6.size
    have x09 : Ext w u9 := p.ext
    have x010 : Ext w u10 := x09.then k10 fun b hb _ => by omega
    have x011 : Ext w u11 := x010.then k11 fun b hb _ => by omega
    have hp : OwnL w u11 A2 (n + 1) c2' (s ++ [⟨A', n', c', membersL k S⟩]) := by
      refine ⟨?_, fun h hh => ?_⟩
      · have p1 := p.thenK k10 (fun g hg e => own_ty p C9 (by decide) (e ▸ hg)) x010
        have p2 := p1.thenK k11 (fun g hg e => own_loop p1 l10 (e ▸ hg)) x011
        rw [List.map_append]; exact p2
      · have h9 : HdI w u9 h := by
          rcases List.mem_append.1 hh with hh | hh
          · exact (o6.hds h hh).kept xk fun b cs hB _ => own_ty o6.own hB (by decide)
          · rw [List.mem_singleton] at hh
            subst hh
            exact (hH.ext hq.ext).kept k9 fun b cs hB _ => own_ty (o6.own.then x68) hB (by decide)
        have h10 := h9.kept k10 fun b cs hB _ e => by subst e; exact absurd (hB.uniq C9).1 (by decide)
        exact h10.kept k11 fun b cs hB _ => loop_ne l10 hB
    refine ⟨rfl, ⟨(((k5.then k6 fun b _ h => h.2).then xk fun b hb _ => kA b hb).then k10 fun b _ h => h.1).then k11 fun b _ h => h.2, l11, A2, n + 1, c2', _, C10.kept k11 (by omega), hp, fun g hg => ?_, by rw [List.map_append, hs, minPre_yes hm]; rfl, by omega⟩, ?_⟩
    · rcases hA with h | h | h
      · exact hA6 g (h ▸ hg)
      · rw [h] at hg; cases hg
      · rw [h] at hg; injection hg with hg; injection hg with hg; omega
    · exact (((k6.weak fun b hb h => by omega).then xk fun b hb h => kA b (by omega)).then k10 fun b hb h => h.1).then k11 fun b hb h => by omega
  · rintro k u hk hm ⟨k5, l5, A, n, c, s, C4, o, hA6, hs, hn⟩
    exact ⟨k5, l5, A, n, c, s, C4, o, hA6, by rw [hs, minPre_no hm], by omega⟩
  · rintro v u ⟨k5, l5, A, n, c, s, C4, o, hA6, hs, hn⟩
    subst hR
    refine range_end _ l5 (by simp) (fun u6 k6 => ?_)
    have kz := k5.size
    have x0u : Ext w u6 := ((x05.trans x6).then k5 fun b hb _ => ⟨by omega, by omega⟩).then k6 fun b hb _ => by omega
    have C6 := C4.kept k6 (by omega)
    have o6 : OwnL w u6 A n c s := ⟨o.own.thenK k6 (fun g hg e => own_loop o.own l5 (e ▸ hg)) x0u, fun h hh => (o.hds h hh).kept k6 fun b cs hB _ => loop_ne l5 hB⟩
    have hD7 : u6.heap[w5.heap.size]? = some (.deferred (some [])) := ((k5.then k6 fun _ _ h => h.2).blk _ (by omega) ⟨by omega, by omega⟩).trans hD6
    have hnl := o6.len
    clear o l5 C4 k5
    refine ld (.slice A n c) (C6.cell rfl) ?_
    rcases o6.own.form with ⟨rfl, rfl, rfl⟩ | ⟨g, rfl, hg1, hg2, hle⟩
    · refine call_of c_sortNil ?_
      rintro _ _ ⟨rfl, rfl⟩
      refine ld (.slice none 0 0) (C6.cell rfl) ?_
      refine st1 C6 rfl (fun u7 C7 k7 => ?_)
      have hD8 : u7.heap[w5.heap.size]? = some (.deferred (some [])) := (k7.blk _ (by have := k6.size; omega) (by omega)).trans hD7
      refine retM hD8 ?_
      have k8 := Kept.putObj u7 w5.heap.size (.deferred none)
      refine resL _ (holds_cell ((C7.kept k8 (by omega)).cell rfl)) ?_
      have xe := (x0u.then k7 fun b hb _ => by omega).then k8 fun b hb _ => by omega
      obtain rfl : s = [] := List.eq_nil_of_length_eq_zero hnl.symm
      rw [← hs]
      exact ⟨none, 0, 0, [], by rw [g]; rfl, OwnL.nil xe, rfl⟩
    · have hcap := own_cap o6.own
      obtain ⟨rest, hB, hcl, -⟩ := Own.blk o6.own.own
      have hlen : ∀ h ∈ s, h.l.length ≤ 100000 := fun h hh => by
        have : h.l ∈ minPre t S tn := by rw [← hs]; exact List.mem_map.2 ⟨h, hh, rfl⟩
        unfold minPre at this
        obtain ⟨k, -, hk⟩ := List.mem_map.1 this
        have := members_len k S
        rw [← hk]; omega
      have hg6 := hA6 g rfl
      refine call_of (c_sortL hB hnl o6.hds hlen (by omega)) ?_
      rintro _ u7 ⟨rfl, s', hperm, hsort, B7, k7⟩
      have kz2 := k6.size
      have C7 := C6.kept k7 (show b4 ≠ g by omega)
      refine ld (.slice (some (ad g 0)) n c) (C7.cell rfl) ?_
      refine st1 C7 rfl (fun u8 C8 k8 => ?_)
      have k78 : Kept (fun b => b ≠ g ∧ b ≠ b4) u6 u8 := (k7.weak fun _ _ h => h.1).trans (k8.weak fun _ _ h => h.2)
      have hD8 : u8.heap[w5.heap.size]? = some (.deferred (some [])) := (k78.blk _ (by omega) ⟨by omega, by omega⟩).trans hD7
      refine retM hD8 ?_
      have k9 := Kept.putObj u8 w5.heap.size (.deferred none)
      refine resL _ (holds_cell ((C8.kept k9 (by omega)).cell rfl)) ?_
      have x07 : Ext w u7 := x0u.then k7 fun b hb _ => by omega
      have x08 : Ext w u8 := x07.then k8 fun b hb _ => by omega
      have xe := x08.then k9 fun b hb _ => by omega
      have hlen' : s'.length = s.length := hperm.length_eq
      have o7 : OwnF w u7 (some (ad g 0)) n c 43 1 (s'.map Hd.v) := ⟨Own.of_blk B7 (by rw [List.length_map, hlen', hnl]; simp) (by
        rw [← hcl, List.length_append, List.length_append, List.length_map, List.length_map, hlen']) hle hcap, x07, fun g' hg' => by injection hg' with hg'; injection hg' with hg'; omega⟩
      have o8 := o7.thenK k8 (fun g' hg' e => own_ty o7 C7 (by decide) (e ▸ hg')) x08
      have o9 := o8.thenK k9 (fun g' hg' => by injection hg' with hg'; injection hg' with hg'; show g' ≠ _; omega) xe
      refine ⟨some (ad g 0), n, c, s', by rw [show e = 0 by rw [he, hev]]; rfl, ⟨o9, fun h hh => ?_⟩, ?_⟩
      · have h7 := (o6.hds h (hperm.mem_iff.1 hh)).kept k7 fun b cs hB' _ e => by subst e; exact absurd (hB.uniq hB').1 (by decide)
        have h8 := h7.kept k8 fun b cs hB' _ e => by subst e; exact absurd (hB'.uniq C7).1 (by decide)
        exact h8.kept k9 fun b cs hB' _ e => by
          subst e
          unfold Blk at hB'
          rw [hD8] at hB'; cases hB'
      · exact putsS_uniq hnd (by rw [← hs]; exact hperm.map _) hsort
end
end Go.Proofs.YtcpdhclnmjfldaaGreat

/- Layer 49: contracts of Contains, Has, chosen, Smallest, Blame. -/
namespace Go.Proofs.YtcpdhclnmjfldaaGreat
open Go Go.RowKit

theorem mem_take_succ {α : Type} {l : List α} {k : Nat} {y x : α} (hy : l[k]? = some y) : x ∈ l.take (k + 1) ↔ x ∈ l.take k ∨ x = y := by
  rw [List.take_add_one, hy, List.mem_append]; simp
section
variable {D : Nat → Prop} {w : World}
theorem c_indexI {l : List Int} {x : Int} {A : Option Addr} {n c : Nat} (h : SlR tInt D w A n l) : CallZ Tryz.prog 69 #[.slice A n c, iv x] w (fun v w' => (∃ i : Int, v = iv i ∧ (0 ≤ i ↔ x ∈ l)) ∧ w' = w) := by
  have hl := h.len
  refine fn_rule (args := [.slice A n c, iv x]) Tryz.func69 (by kernel_rfl) ?_
  have hle := h.le
  refine len ?_
  refine loop_rule (fun k : Nat => [(8, iv (k : Int))]) (fun k u => k ≤ n ∧ w = u ∧ x ∉ l.take k) (fun k _ => n - k) 0 ⟨rfl, trivial⟩ ⟨by omega, rfl, by simp⟩ rfl ?_
  rintro G k u ⟨hk, rfl, hno⟩
  refine cD (fun hlt => ?_) (fun hge => ?_)
  · have hlt : k < n := by omega
    obtain ⟨b, o, cs, y, rfl, hy, -, -, hc, rfl, -⟩ := h.at_ hlt
    refine idx k rfl hlt ?_
    refine ld (iv y) (hc 0 _ rfl) ?_
    refine cE (fun e => ?_) (fun e => ?_)
    · exact ret1 (iv (k : Int)) rfl ⟨⟨_, rfl, fun _ => by rw [e]; exact List.mem_of_getElem? hy, fun _ => by omega⟩, rfl⟩
    · refine arI (by omega) ?_
      exact next (k + 1) ⟨by rw [Int.natCast_add]; rfl, trivial⟩ ⟨by omega, rfl, fun hm => by
        rcases (mem_take_succ hy).1 hm with h | h
        · exact hno h
        · exact e h⟩ (by omega)
  · rw [List.take_of_length_le (by omega)] at hno
    exact ret1 (iv (-1)) rfl ⟨⟨_, rfl, fun h => by omega, fun h => absurd h hno⟩, rfl⟩
theorem c_containsI {l : List Int} {x : Int} {A : Option Addr} {n c : Nat} (h : SlR tInt D w A n l) : CallZ Tryz.prog 48 #[.slice A n c, iv x] w (fun v w' => v = .bool (decide (x ∈ l)) ∧ w' = w) := by
  refine fn_rule (args := [.slice A n c, iv x]) Tryz.func48 (by kernel_rfl) ?_
  refine call_of (c_indexI h) ?_
  rintro _ _ ⟨⟨i, rfl, hi⟩, rfl⟩
  refine cD (fun g => ?_) (fun g => ?_)
  · exact ret1 (.bool true) rfl ⟨by rw [decide_eq_true (hi.1 (by omega))], rfl⟩
  · exact ret1 (.bool false) rfl ⟨by rw [decide_eq_false fun h => absurd (hi.2 h) (by omega)], rfl⟩
theorem c_r49Has {l : List Int} {x : Int} {A : Option Addr} {n c : Nat} (h : SlR tInt D w A n l) : CallZ Tryz.prog 23 #[.slice A n c, iv x] w (fun v w' => v = .bool (decide (x ∈ l)) ∧ w' = w) := by
  have hl := h.len
  have hle := h.le
  refine fn_rule (args := [.slice A n c, iv x]) Tryz.func23 (by kernel_rfl) ?_
  refine loop_rule (fun k : Nat => [(5, iv (k : Int))]) (fun k u => k ≤ n ∧ w = u ∧ x ∉ l.take k) (fun k _ => n - k) 0 ⟨rfl, trivial⟩ ⟨by omega, rfl, by simp⟩ rfl ?_
  rintro G k u ⟨hk, rfl, hno⟩
  refine len ?_
  refine cD (fun hlt => ?_) (fun hge => ?_)
  · have hlt : k < n := by omega
    obtain ⟨b, o, cs, y, rfl, hy, -, -, hc, rfl, -⟩ := h.at_ hlt
    refine idx k rfl hlt ?_
    refine ld (iv y) (hc 0 _ rfl) ?_
    refine cE (fun e => ?_) (fun e => ?_)
    · exact ret1 (.bool true) rfl ⟨by rw [decide_eq_true (by rw [← e]; exact List.mem_of_getElem? hy)], rfl⟩
    · refine arI (by omega) ?_
      exact next (k + 1) ⟨by rw [Int.natCast_add]; rfl, trivial⟩ ⟨by omega, rfl, fun hm => by
        rcases (mem_take_succ hy).1 hm with h | h
        · exact hno h
        · exact e h.symm⟩ (by omega)
  · rw [List.take_of_length_le (by omega)] at hno
    exact ret1 (.bool false) rfl ⟨by rw [decide_eq_false hno], rfl⟩
/-- A cell of a list of lists. -/
theorem OwnL.cell {w0 : World} {A : Option Addr} {n c : Nat} {s : List Hd} (h : OwnL w0 w A n c s) {k : Nat} (hk : k < n) : ∃ g hd, A = some (ad g 0) ∧ s[k]? = some hd ∧ w.cell? (ad g (0 + k * 1)) = some hd.v ∧ HdI w0 w hd := by
  have hn := h.len
  rcases h.own.form with ⟨-, rfl, -⟩ | ⟨g, rfl, -⟩
  · omega
  · obtain ⟨rest, hB, -⟩ := Own.blk h.own.own
    obtain ⟨hd, hhd⟩ : ∃ hd, s[k]? = some hd := ⟨_, List.getElem?_eq_getElem (by omega : k < s.length)⟩
    refine ⟨g, hd, rfl, hhd, ?_, h.hds hd (List.mem_of_getElem? hhd)⟩
    rw [Nat.zero_add, Nat.mul_one]
    exact hB.cell (by rw [List.getElem?_append_left (by rw [List.length_map]; omega), List.getElem?_map, hhd]; rfl)
set_option maxRecDepth 4000 in
theorem c_chosenL {w0 : World} {f : FuncId} [he : Enters Tryz.prog f] {cv : Value} {A : Option Addr} {n c : Nat} {s : List Hd} (p : List Int → Bool) (o : OwnL w0 w A n c s) (hn : n ≤ 100000)
    (hp : ∀ u (h : Hd), Ext w u → HdI w0 u h → CallZ Tryz.prog f #[h.v, cv] u (fun v w' => v = .bool (p h.l) ∧ w' = u)) :
    CallZ Tryz.prog 41 #[.slice A n c, .func (.func f) #[] #[cv]] w (fun v w' => ∃ A' n' c', v = .slice A' n' c' ∧ OwnF w w' A' n' c' 43 1 ((s.filter fun h => p h.l).map Hd.v) ∧ n' ≤ n) := by
  have hln := o.len
  refine fn_rule (args := [.slice A n c, .func (.func f) #[] #[cv]]) Tryz.func41 (by kernel_rfl) ?_
  refine len ?_
  refine loop4 (fun (k : Nat) (B : Option Addr) (m e : Nat) => [(9, iv (k : Int)), (4, .slice B m e)]) (fun k B m e u => k ≤ n ∧ m ≤ k ∧ OwnF w u B m e 43 1 (((s.take k).filter fun h => p h.l).map Hd.v)) (fun k _ _ _ _ => n - k) 0 none 0 0 ⟨rfl, rfl, trivial⟩ ⟨by omega, Nat.le_refl _, OwnF.nil (.refl _ _)⟩ rfl ?_
  rintro G k B m e u ⟨hk, hm, q⟩
  refine cD (fun hlt => ?_) (fun hge => ?_)
  · have hlt : k < n := by omega
    obtain ⟨g, hd, rfl, hhd, hc, hI⟩ := o.cell hlt
    have htk : s.take (k + 1) = s.take k ++ [hd] := by rw [List.take_add_one, hhd]; rfl
    refine idx k rfl hlt ?_
    refine ld hd.v (q.ext.cell hc trivial) ?_
    have hI' := hI.ext q.ext
    refine call_of (hp u hd q.ext hI') ?_
    rintro _ _ ⟨rfl, rfl⟩
    cases hb : p hd.l with
    | true =>
      refine lit [hd.v] (fun gg u1 hq => ?_)
      refine appF (q.then hq.ext) (hq.src (sz := 1) rfl) (by omega) (fun B' e' u2 q2 kk hA => ?_)
      refine arI (by omega) ?_
      refine next4 (k + 1) B' (m + 1) e' ⟨by rw [Int.natCast_add]; rfl, rfl, trivial⟩ ⟨by omega, by omega, ?_⟩ (by omega)
      rw [htk, List.filter_append, List.map_append, show [hd].filter (fun h => p h.l) = [hd] by simp [hb]]
      exact q2
    | false =>
      refine arI (by omega) ?_
      refine next4 (k + 1) B m e ⟨by rw [Int.natCast_add]; rfl, rfl, trivial⟩ ⟨by omega, by omega, ?_⟩ (by omega)
      rw [htk, List.filter_append, List.map_append, show [hd].filter (fun h => p h.l) = [] by simp [hb]]
      simpa using q
  · rw [List.take_of_length_le (by omega)] at q
    exact ret1 (.slice B m e) rfl ⟨B, m, e, rfl, q, by omega⟩
theorem c_sSmall1 {b : Nat} {k : Int} {A : Option Addr} {n c : Nat} (hb : Blk w b 3 [iv k]) (_h : n ≤ 140737488355328) : CallZ Tryz.prog 42 #[.slice A n c, ptr b] w (fun v w' => v = .bool (decide ((n : Int) = k)) ∧ w' = w) := by
  refine fn_rule (args := [.slice A n c, ptr b]) Tryz.func42 (by kernel_rfl) ?_
  refine len ?_
  refine ld (iv k) (hb.cell rfl) ?_
  refine cE (fun g => ?_) (fun g => ?_)
  · exact ret1 (.bool true) rfl ⟨by rw [decide_eq_true g], rfl⟩
  · exact ret1 (.bool false) rfl ⟨by rw [decide_eq_false g], rfl⟩
theorem c_sBlame1 {b : Nat} {k : Int} {A : Option Addr} {n c : Nat} {l : List Int} (hb : Blk w b 3 [iv k]) (h : SlR tInt D w A n l) : CallZ Tryz.prog 47 #[.slice A n c, ptr b] w (fun v w' => v = .bool (decide (k ∈ l)) ∧ w' = w) := by
  refine fn_rule (args := [.slice A n c, ptr b]) Tryz.func47 (by kernel_rfl) ?_
  refine ld (iv k) (hb.cell rfl) ?_
  refine call_of (c_containsI h) ?_
  rintro _ _ ⟨rfl, rfl⟩
  exact ret1 (.bool (decide (k ∈ l))) rfl ⟨rfl, rfl⟩
theorem min_len {d : Dist} {x : Ev} : (minSets d x).length ≤ 4096 := by
  by_cases h : evErr d x = 0
  · obtain ⟨-, -, hS⟩ := ev_sizes h
    have h1 : (minSets d x).length = (minL (tableV d x) x.suspects.length).length := by
      unfold minSets minV; exact (putsS_ok (minL_nodup table_le2)).1.length_eq
    have h2 : (minL (tableV d x) x.suspects.length).length ≤ (tableV d x).length := by
      unfold minL
      rw [List.length_map]
      have := List.length_filter_le (minB (tableV d x) x.suspects.length) (List.range (tableV d x).length)
      rw [List.length_range] at this; exact this
    have h3 := table_len h
    have h4 : 2 ^ x.suspects.length ≤ 4096 := Nat.le_trans (Nat.pow_le_pow_right (by omega) hS) (by decide)
    omega
  · rw [minSets_err h]; simp
theorem min_mem_len {d : Dist} {x : Ev} {l : List Int} (hl : l ∈ minSets d x) : l.length ≤ 12 ∧ ∀ v ∈ l, 0 ≤ v ∧ v < x.suspects.length := by
  obtain ⟨n, -, -, rfl⟩ := mem_min.1 hl
  have he := (min_expl hl).1
  obtain ⟨-, -, hS⟩ := ev_sizes he
  have := members_len n x.suspects.length
  exact ⟨by omega, members_bound n _⟩
set_option maxRecDepth 8000 in
theorem c_sSmallest {csd csx : List Value} {d : Dist} {x : Ev} (hd : DiR D w csd d) (hx : EvR D w csx x) : CallZ Tryz.prog 12 #[.agg csd.toArray, .agg csx.toArray] w
    (fun v w' => ∃ A n c s, v = .tuple #[.slice A n c, iv (evErr d x)] ∧ OwnL w w' A n c s ∧ s.map (·.l) = smallV x.suspects.length (minSets d x)) := by
  have hd := hd.more (D' := fun _ => True) fun _ _ _ => trivial
  have hx := hx.more (D' := fun _ => True) fun _ _ _ => trivial
  obtain ⟨A1, n1, c1, A2, n2, c2, A3, n3, c3, A4, n4, c4, A5, n5, c5, A6, n6, c6, rfl, -⟩ := hd.ex
  obtain ⟨W1, m1, e1, S1, m2, e2, rfl, hwv, hsu, -⟩ := hx.ex
  have lsu := hsu.len
  refine fn_rule (args := [.agg #[.string d.name, iv d.hours, iv d.cap, iv d.start, .slice A1 n1 c1, .slice A2 n2 c2, .slice A3 n3 c3, .slice A4 n4 c4, .slice A5 n5 c5, .slice A6 n6 c6], .agg #[.slice W1 m1 e1, .slice S1 m2 e2]]) Tryz.func12 (by kernel_rfl) ?_
  refine box (fun bd w1 h1 => ?_)
  refine box (fun bx w2 h2 => ?_)
  have x2 := h1.ext.trans h2.ext
  have Bd : Blk w2 bd 31 [.string d.name, iv d.hours, iv d.cap, iv d.start, .slice A1 n1 c1, .slice A2 n2 c2, .slice A3 n3 c3, .slice A4 n4 c4, .slice A5 n5 c5, .slice A6 n6 c6] := h1.blk.ext h2.ext
  have Bx : Blk w2 bx 35 [.slice W1 m1 e1, .slice S1 m2 e2] := h2.blk
  refine ldA [.string d.name, iv d.hours, iv d.cap, iv d.start, .slice A1 n1 c1, .slice A2 n2 c2, .slice A3 n3 c3, .slice A4 n4 c4, .slice A5 n5 c5, .slice A6 n6 c6] (.blk Bd) rfl ?_
  refine ldA [.slice W1 m1 e1, .slice S1 m2 e2] (.blk Bx) rfl ?_
  refine call_of (c_sMinimal (hd.ext x2) (hx.ext x2)) ?_
  rintro _ w3 ⟨A, n, c, s, rfl, o, hs⟩
  have x3 := x2.trans o.own.ext
  have Bx := Bx.ext o.own.ext
  obtain ⟨e, he⟩ : ∃ e, e = evErr d x := ⟨_, rfl⟩
  rw [← he]
  refine cN (fun g => ?_) (fun g => ?_)
  · exact ret2 (.slice none 0 0) (iv e) rfl rfl ⟨none, 0, 0, [], rfl, OwnL.nil x3, by rw [minSets_err (by rw [← he]; exact g)]; rfl⟩
  have hln := o.len
  have hml := min_len (d := d) (x := x)
  have hml2 : n = (minSets d x).length := by rw [← hs, List.length_map]; exact hln
  have hev : evErr d x = 0 := by rw [← he]; exact g
  obtain ⟨-, -, hS⟩ := ev_sizes hev
  refine fldA ?_
  refine ld (.slice S1 m2 e2) (Bx.cell rfl) ?_
  refine len ?_
  refine alloc (fun bf w4 h4 => ?_)
  refine st1 h4.blk rfl (fun w5 B5 k5 => ?_)
  have a4 := h4.at_
  have x35 : Ext w3 w5 := h4.ext.then k5 fun b hb _ => by omega
  have o5 := o.ext x35
  refine len ?_
  refine loop_rule (fun k : Nat => [(23, iv (k : Int))]) (fun k u => k ≤ n ∧ Kept (fun b => b ≠ bf) w5 u ∧ ∃ m : Nat, Blk u bf 3 [iv (m : Int)] ∧ m = ((minSets d x).take k).foldl (fun m l => min m l.length) x.suspects.length) (fun k _ => n - k) 0 ⟨rfl, trivial⟩ ⟨by omega, .refl _ _, m2, B5, by rw [List.take_zero]; exact lsu.symm⟩ rfl ?_
  rintro G k u ⟨hk, ku, m, Bm, hm⟩
  have xu : Ext w3 u := x35.then ku fun b hb _ => by omega
  refine cD (fun hlt => ?_) (fun hge => ?_)
  · have hlt : k < n := by omega
    obtain ⟨g', hh, rfl, hhd, hc, hI⟩ := o.cell hlt
    have hmk : (minSets d x)[k]? = some hh.l := by rw [← hs, List.getElem?_map, hhd]; rfl
    have hhl := (min_mem_len (List.mem_of_getElem? hmk)).1
    have hll := hI.rd.len
    refine idx k rfl hlt ?_
    refine ld hh.v (xu.cell hc trivial) ?_
    refine ld (iv (m : Int)) (Bm.cell rfl) ?_
    refine len ?_
    refine st1 Bm rfl (fun u1 B1 k1 => ?_)
    refine arI (by omega) ?_
    refine next (k + 1) ⟨by rw [Int.natCast_add]; rfl, trivial⟩ ⟨by omega, ku.trans k1, min m hh.l.length, ?_, ?_⟩ (by omega)
    · have : min (m : Int) (hh.n : Int) = ((min m hh.l.length : Nat) : Int) := by rw [hll]; omega
      rw [← this]; exact B1
    · rw [List.take_add_one, hmk, List.foldl_append, ← hm]; rfl
  · rw [List.take_of_length_le (by omega)] at hm
    refine call_of (c_chosenL (fun l => decide (l.length = m)) (o.ext xu) (by omega) (fun u' h xu' hI => ?_)) ?_
    · refine (c_sSmall1 (k := (m : Int)) (Bm.ext xu') (hI.rd.le)).mono ?_
      rintro v _ ⟨rfl, rfl⟩
      refine ⟨?_, rfl⟩
      have := hI.rd.len
      rw [this]
      congr 1
      exact decide_eq_decide.2 (by omega)
    rintro _ w7 ⟨A', n', c', rfl, o', hn'⟩
    refine ret2 (.slice A' n' c') (iv 0) rfl rfl ⟨A', n', c', _, by rw [g], ⟨o'.base (x3.trans xu), fun h hh => (((o.hds h (List.mem_filter.1 hh).1).base x2.size).ext xu).ext o'.ext⟩, ?_⟩
    unfold smallV
    rw [← hm, ← hs, List.filter_map]
    rfl
set_option maxRecDepth 8000 in
theorem c_sBlame {csd csx : List Value} {d : Dist} {x : Ev} {k : Int} (hd : DiR D w csd d) (hx : EvR D w csx x) : CallZ Tryz.prog 20 #[.agg csd.toArray, .agg csx.toArray, iv k] w
    (fun v w' => ∃ A n c, v = .tuple #[.slice A n c, .bool (if 0 ≤ k ∧ k < x.suspects.length then (blameV d x k).isSome else false), iv (if evErr d x ≠ 0 then evErr d x else if 0 ≤ k ∧ k < x.suspects.length then 0 else 1)] ∧ Ext w w' ∧
      SlR tInt (fun b => w.heap.size ≤ b) w' A n (if 0 ≤ k ∧ k < x.suspects.length then (blameV d x k).getD [] else [])) := by
  have hd := hd.more (D' := fun _ => True) fun _ _ _ => trivial
  have hx := hx.more (D' := fun _ => True) fun _ _ _ => trivial
  obtain ⟨A1, n1, c1, A2, n2, c2, A3, n3, c3, A4, n4, c4, A5, n5, c5, A6, n6, c6, rfl, -⟩ := hd.ex
  obtain ⟨W1, m1, e1, S1, m2, e2, rfl, hwv, hsu, -⟩ := hx.ex
  have lsu := hsu.len
  refine fn_rule (args := [.agg #[.string d.name, iv d.hours, iv d.cap, iv d.start, .slice A1 n1 c1, .slice A2 n2 c2, .slice A3 n3 c3, .slice A4 n4 c4, .slice A5 n5 c5, .slice A6 n6 c6], .agg #[.slice W1 m1 e1, .slice S1 m2 e2], iv k]) Tryz.func20 (by kernel_rfl) ?_
  refine box (fun bd w1 h1 => ?_)
  refine box (fun bx w2 h2 => ?_)
  refine box (fun bk w2' h2' => ?_)
  have x2 := (h1.ext.trans h2.ext).trans h2'.ext
  have Bd : Blk w2' bd 31 [.string d.name, iv d.hours, iv d.cap, iv d.start, .slice A1 n1 c1, .slice A2 n2 c2, .slice A3 n3 c3, .slice A4 n4 c4, .slice A5 n5 c5, .slice A6 n6 c6] := h1.blk.ext (h2.ext.trans h2'.ext)
  have Bx : Blk w2' bx 35 [.slice W1 m1 e1, .slice S1 m2 e2] := h2.blk.ext h2'.ext
  have Bk : Blk w2' bk 3 [iv k] := h2'.blk
  refine ldA [.string d.name, iv d.hours, iv d.cap, iv d.start, .slice A1 n1 c1, .slice A2 n2 c2, .slice A3 n3 c3, .slice A4 n4 c4, .slice A5 n5 c5, .slice A6 n6 c6] (.blk Bd) rfl ?_
  refine ldA [.slice W1 m1 e1, .slice S1 m2 e2] (.blk Bx) rfl ?_
  refine call_of (c_sMinimal (hd.ext x2) (hx.ext x2)) ?_
  rintro _ w3 ⟨A, n, c, s, rfl, o, hs⟩
  have x3 := x2.trans o.own.ext
  have Bx := Bx.ext o.own.ext
  have Bk := Bk.ext o.own.ext
  obtain ⟨e, he⟩ : ∃ e, e = evErr d x := ⟨_, rfl⟩
  rw [← he]
  refine cN (fun g => ?_) (fun g => ?_)
  · have hb : blameV d x k = none := by unfold blameV; rw [minSets_err (by rw [← he]; exact g)]; rfl
    exact ret3 (.slice none 0 0) (.bool false) (iv e) rfl rfl rfl ⟨none, 0, 0, by rw [if_pos g, hb]; simp, x3, by rw [hb]; simp; exact .nil⟩
  have e0 : ¬ e ≠ 0 := fun h => h g
  have no : ¬ (0 ≤ k ∧ k < x.suspects.length) → ∃ A n c, Value.tuple #[.slice none 0 0, .bool false, iv 1] = .tuple #[.slice A n c, .bool (if 0 ≤ k ∧ k < x.suspects.length then (blameV d x k).isSome else false), iv (if e ≠ 0 then e else if 0 ≤ k ∧ k < x.suspects.length then 0 else 1)] ∧ Ext w w3 ∧
      SlR tInt (fun b => w.heap.size ≤ b) w3 A n (if 0 ≤ k ∧ k < x.suspects.length then (blameV d x k).getD [] else []) := fun h => ⟨none, 0, 0, by rw [if_neg e0, if_neg h, if_neg h], x3, by rw [if_neg h]; exact .nil⟩
  refine ld (iv k) (Bk.cell rfl) ?_
  refine cD (fun g1 => ?_) (fun g1 => ?_)
  · exact ret3 (.slice none 0 0) (.bool false) (iv 1) rfl rfl rfl (no (by omega))
  refine ld (iv k) (Bk.cell rfl) ?_
  refine fldA ?_
  refine ld (.slice S1 m2 e2) (Bx.cell rfl) ?_
  refine len ?_
  refine cD (fun g2 => ?_) (fun g2 => ?_)
  · exact ret3 (.slice none 0 0) (.bool false) (iv 1) rfl rfl rfl (no (by omega))
  have hk : 0 ≤ k ∧ k < x.suspects.length := by omega
  rw [if_neg e0, if_pos hk, if_pos hk, if_pos hk]
  have hml := min_len (d := d) (x := x)
  have hml2 : n = (minSets d x).length := by rw [← hs, List.length_map]; exact o.len
  refine call_of (c_chosenL (fun l => decide (k ∈ l)) o (by omega) (fun u' h xu' hI => ?_)) ?_
  · exact c_sBlame1 (Bk.ext xu') hI.rdT
  rintro _ w7 ⟨A', n', c', rfl, o', hn'⟩
  have hbl : blameV d x k = ((s.filter fun h => decide (k ∈ h.l)).map (·.l))[0]? := by
    unfold blameV
    rw [← List.head?_filter, ← hs, List.filter_map, List.head?_eq_getElem?]
    rfl
  have oL : OwnL w w7 A' n' c' (s.filter fun h => decide (k ∈ h.l)) := ⟨o'.base x3, fun h hh => ((o.hds h (List.mem_filter.1 hh).1).base x2.size).ext o'.ext⟩
  have hlen := oL.len
  refine len ?_
  refine cD (fun g3 => ?_) (fun g3 => ?_)
  · obtain ⟨g', hh, rfl, hhd, hc, hI⟩ := oL.cell (show 0 < n' by omega)
    refine idx 0 rfl (by omega) ?_
    refine ld hh.v hc ?_
    have hb : blameV d x k = some hh.l := by rw [hbl, List.getElem?_map, hhd]; rfl
    exact ret3 hh.v (.bool true) (iv 0) rfl rfl rfl ⟨hh.A, hh.n, hh.c, by rw [hb]; rfl, x3.trans o'.ext, by rw [hb]; exact hI.rdN⟩
  · have hb : blameV d x k = none := by
      rw [hbl, List.getElem?_map, List.getElem?_eq_none (by omega)]; rfl
    exact ret3 (.slice none 0 0) (.bool false) (iv 0) rfl rfl rfl ⟨none, 0, 0, by rw [hb]; rfl, x3.trans o'.ext, by rw [hb]; exact .nil⟩
end
end Go.Proofs.YtcpdhclnmjfldaaGreat

/- Layer 49: contracts of counted, Named, Needed. -/
namespace Go.Proofs.YtcpdhclnmjfldaaGreat
open Go Go.RowKit

theorem count_nodup {L : List (List Int)} {i : Int} (h : ∀ l ∈ L, l.Nodup) : L.flatten.count i = cntS L i := by
  unfold cntS
  induction L with
  | nil => rfl
  | cons l L ih =>
    have h1 := h l List.mem_cons_self
    have h2 := ih fun x hx => h x (List.mem_cons_of_mem _ hx)
    rw [List.flatten_cons, List.count_append, h2]
    by_cases hi : i ∈ l
    · rw [List.filter_cons_of_pos (by simpa using hi), List.length_cons, h1.count, if_pos hi]; omega
    · rw [List.filter_cons_of_neg (by simpa using hi), List.count_eq_zero.2 hi]; omega
theorem min_nodup {d : Dist} {x : Ev} {l : List Int} (hl : l ∈ minSets d x) : l.Nodup := by
  obtain ⟨n, -, -, rfl⟩ := mem_min.1 hl
  have := (setB_iff49.1 (members_set (n := n) (S := x.suspects.length))).2
  exact this.imp fun {a b} h => by omega
section
variable {D : Nat → Prop} {w : World}
set_option maxRecDepth 4000 in
theorem c_chosenI {f : FuncId} [he : Enters Tryz.prog f] {cv1 cv2 cv3 : Value} {A : Option Addr} {n c : Nat} {l : List Int} (p : Int → Bool) (o : SlR tInt D w A n l) (hn : n ≤ 100000)
    (hp : ∀ u (i : Int), Ext w u → i ∈ l → CallZ Tryz.prog f #[iv i, cv1, cv2, cv3] u (fun v w' => v = .bool (p i) ∧ w' = u)) :
    CallZ Tryz.prog 67 #[.slice A n c, .func (.func f) #[] #[cv1, cv2, cv3]] w (fun v w' => ∃ A' n' c', v = .slice A' n' c' ∧ OwnF w w' A' n' c' 3 1 ((l.filter p).map fun k => .int .i64 k) ∧ n' ≤ n) := by
  have hln := o.len
  refine fn_rule (args := [.slice A n c, .func (.func f) #[] #[cv1, cv2, cv3]]) Tryz.func67 (by kernel_rfl) ?_
  refine len ?_
  refine loop4 (fun (k : Nat) (B : Option Addr) (m e : Nat) => [(9, iv (k : Int)), (4, .slice B m e)]) (fun k B m e u => k ≤ n ∧ m ≤ k ∧ OwnF w u B m e 3 1 (((l.take k).filter p).map fun k => .int .i64 k)) (fun k _ _ _ _ => n - k) 0 none 0 0 ⟨rfl, rfl, trivial⟩ ⟨by omega, Nat.le_refl _, OwnF.nil (.refl _ _)⟩ rfl ?_
  rintro G k B m e u ⟨hk, hm, q⟩
  refine cD (fun hlt => ?_) (fun hge => ?_)
  · have hlt : k < n := by omega
    obtain ⟨g, ofs, cs, i, rfl, hhd, -, -, hc, rfl, -⟩ := o.at_ hlt
    have htk : l.take (k + 1) = l.take k ++ [i] := by rw [List.take_add_one, hhd]; rfl
    refine idx k rfl hlt ?_
    refine ld (iv i) (q.ext.cell (hc 0 _ rfl) trivial) ?_
    refine call_of (hp u i q.ext (List.mem_of_getElem? hhd)) ?_
    rintro _ _ ⟨rfl, rfl⟩
    cases hb : p i with
    | true =>
      refine lit [iv i] (fun gg u1 hq => ?_)
      refine appF (q.then hq.ext) (hq.src (sz := 1) rfl) (by omega) (fun B' e' u2 q2 kk hA => ?_)
      refine arI (by omega) ?_
      refine next4 (k + 1) B' (m + 1) e' ⟨by rw [Int.natCast_add]; rfl, rfl, trivial⟩ ⟨by omega, by omega, ?_⟩ (by omega)
      rw [htk, List.filter_append, List.map_append, show [i].filter p = [i] by simp [hb]]
      exact q2
    | false =>
      refine arI (by omega) ?_
      refine next4 (k + 1) B m e ⟨by rw [Int.natCast_add]; rfl, rfl, trivial⟩ ⟨by omega, by omega, ?_⟩ (by omega)
      rw [htk, List.filter_append, List.map_append, show [i].filter p = [] by simp [hb]]
      simpa using q
  · rw [List.take_of_length_le (by omega)] at q
    exact ret1 (.slice B m e) rfl ⟨B, m, e, rfl, q, by omega⟩
set_option maxRecDepth 8000 in
theorem c_scounted {f : FuncId} [he : Enters Tryz.prog f] {csd csx : List Value} {d : Dist} {x : Ev} (q : Nat → Nat → Bool) (hd : DiR D w csd d) (hx : EvR D w csx x)
    (hq : ∀ u (a b : Nat), CallZ Tryz.prog f #[iv (a : Int), iv (b : Int)] u (fun v w' => v = .bool (q a b) ∧ w' = u)) : CallZ Tryz.prog 43 #[.agg csd.toArray, .agg csx.toArray, .func (.func f) #[] #[]] w
    (fun v w' => ∃ A n c, v = .tuple #[.slice A n c, iv (evErr d x)] ∧ OwnF w w' A n c 3 1 ((if evErr d x = 0 then ((List.range x.suspects.length).filter fun i : Nat => q (cntS (minSets d x) i) (minSets d x).length).map fun i : Nat => (i : Int) else []).map fun k => .int .i64 k)) := by
  have hd := hd.more (D' := fun _ => True) fun _ _ _ => trivial
  have hx := hx.more (D' := fun _ => True) fun _ _ _ => trivial
  obtain ⟨A1, n1, c1, A2, n2, c2, A3, n3, c3, A4, n4, c4, A5, n5, c5, A6, n6, c6, rfl, -⟩ := hd.ex
  obtain ⟨W1, m1, e1, S1, m2, e2, rfl, hwv, hsu, -⟩ := hx.ex
  have lsu := hsu.len
  refine fn_rule (args := [.agg #[.string d.name, iv d.hours, iv d.cap, iv d.start, .slice A1 n1 c1, .slice A2 n2 c2, .slice A3 n3 c3, .slice A4 n4 c4, .slice A5 n5 c5, .slice A6 n6 c6], .agg #[.slice W1 m1 e1, .slice S1 m2 e2], .func (.func f) #[] #[]]) Tryz.func43 (by kernel_rfl) ?_
  refine box (fun bd w1 h1 => ?_)
  refine box (fun bx w2 h2 => ?_)
  refine box (fun bf w2' h2' => ?_)
  have x2 := (h1.ext.trans h2.ext).trans h2'.ext
  have Bd : Blk w2' bd 31 [.string d.name, iv d.hours, iv d.cap, iv d.start, .slice A1 n1 c1, .slice A2 n2 c2, .slice A3 n3 c3, .slice A4 n4 c4, .slice A5 n5 c5, .slice A6 n6 c6] := h1.blk.ext (h2.ext.trans h2'.ext)
  have Bx : Blk w2' bx 35 [.slice W1 m1 e1, .slice S1 m2 e2] := h2.blk.ext h2'.ext
  have Bf : Blk w2' bf _ [.func (.func f) #[] #[]] := h2'.blk
  refine ldA [.string d.name, iv d.hours, iv d.cap, iv d.start, .slice A1 n1 c1, .slice A2 n2 c2, .slice A3 n3 c3, .slice A4 n4 c4, .slice A5 n5 c5, .slice A6 n6 c6] (.blk Bd) rfl ?_
  refine ldA [.slice W1 m1 e1, .slice S1 m2 e2] (.blk Bx) rfl ?_
  refine call_of (c_sMinimal (hd.ext x2) (hx.ext x2)) ?_
  rintro _ w3 ⟨A, n, c, s, rfl, o, hs⟩
  have x3 := x2.trans o.own.ext
  have Bx := Bx.ext o.own.ext
  have Bf := Bf.ext o.own.ext
  refine alloc (fun b8 w4 h4 => ?_)
  refine st1 h4.blk rfl (fun w5 B8 k5 => ?_)
  have a4 := h4.at_
  have x35 : Ext w3 w5 := h4.ext.then k5 fun b hb _ => by omega
  have x05 := x3.trans x35
  have Bx := Bx.ext x35
  have Bf := Bf.ext x35
  have lx5 := Bx.lt
  have lf5 := Bf.lt
  have o := o.ext x35
  obtain ⟨e, he'⟩ : ∃ e, e = evErr d x := ⟨_, rfl⟩
  rw [← he']
  refine cN (fun g => ?_) (fun g => ?_)
  · exact ret2 (.slice none 0 0) (iv e) rfl rfl ⟨none, 0, 0, rfl, by rw [if_neg g]; exact OwnF.nil x05⟩
  rw [if_pos g]
  have hev : evErr d x = 0 := by rw [← he']; exact g
  obtain ⟨-, -, hS⟩ := ev_sizes hev
  have hln := o.len
  have hml := min_len (d := d) (x := x)
  have hml2 : n = (minSets d x).length := by rw [← hs, List.length_map]; exact hln
  refine mmap (fun gm v1 hgm hv1 => ?_)
  have xv1 : Ext w5 v1 := by rw [hv1]; exact Kept.alloc _ _ _
  have M1 : MapFn .i64 v1 gm (fun _ => none) := by rw [hv1, hgm]; exact MapFn.new .i64 w5
  refine alloc (fun b9 w6 h6 => ?_)
  refine st1 h6.blk rfl (fun w7 B9 k7 => ?_)
  have a6 := h6.at_
  have x67 : Ext v1 w7 := h6.ext.then k7 fun b hb _ => by omega
  have M7 := M1.kept x67 trivial
  have x57 := xv1.trans x67
  have B8 := B8.ext x57
  have Bx := Bx.ext x57
  have Bf := Bf.ext x57
  have o7 := o.ext x57
  have lgm := M1.lt
  have l8 := B8.lt
  have lx := Bx.lt
  have lf := Bf.lt
  have gm8 : gm = w5.heap.size := hgm
  have z5 := x35.size
  have l8' : b8 < w5.heap.size := by have := k5.size; have := h4.size; omega
  refine ld (.slice A n c) (B8.cell rfl) ?_
  refine len ?_
  refine loop_rule (fun k : Nat => [(27, iv (k : Int))]) (fun k u => k ≤ n ∧ Kept (fun b => b ≠ gm) w7 u ∧ ∃ F, MapFn .i64 u gm F ∧ ∀ i, (F i).getD (iv 0) = iv (((((minSets d x).take k).flatten.count i : Nat)) : Int)) (fun k _ => n - k) 0 ⟨rfl, trivial⟩ ⟨by omega, .refl _ _, _, M7, fun i => rfl⟩ rfl ?_
  rintro G k u ⟨hk, ku, F, MF, hF⟩
  have xu : Ext w5 u := x57.then ku fun b hb _ => by omega
  refine cD (fun hlt => ?_) (fun hge => ?_)
  · have hlt : k < n := by omega
    obtain ⟨g', ⟨Ah, nh, ch, lh⟩, rfl, hhd, hc, hI⟩ := o.cell hlt
    have hc : u.cell? (ad g' (0 + k * 1)) = some (.slice Ah nh ch) := xu.cell hc trivial
    have hI : HdI w2' w5 ⟨Ah, nh, ch, lh⟩ := hI
    have hmk : (minSets d x)[k]? = some lh := by rw [← hs, List.getElem?_map, hhd]; rfl
    obtain ⟨hhl, hhb⟩ := min_mem_len (List.mem_of_getElem? hmk)
    have hll : lh.length = nh := hI.rd.len
    have htk : ((minSets d x).take (k + 1)).flatten = ((minSets d x).take k).flatten ++ lh := by rw [List.take_add_one, hmk, List.flatten_append]; simp
    refine idx k rfl hlt ?_
    refine ld (.slice Ah nh ch) hc ?_
    refine len ?_
    refine loop_rule (fun j : Nat => [(33, iv (j : Int))]) (fun j z => j ≤ nh ∧ Kept (fun b => b ≠ gm) u z ∧ ∃ F, MapFn .i64 z gm F ∧ ∀ i, (F i).getD (iv 0) = iv ((((((minSets d x).take k).flatten ++ lh.take j).count i : Nat)) : Int)) (fun j _ => nh - j) 0 ⟨rfl, trivial⟩ ⟨by omega, .refl _ _, F, MF, fun i => by rw [hF, List.take_zero, List.append_nil]⟩ rfl ?_
    rintro G2 j z ⟨hj, kz, F2, MF2, hF2⟩
    have hcnt : ∀ i, (((minSets d x).take k).flatten ++ lh.take j).count i ≤ 60000 := fun i => by
      refine Nat.le_trans List.count_le_length ?_
      rw [List.length_append, List.length_flatten]
      have h1 : ∀ (L : List (List Int)), (∀ l ∈ L, l.length ≤ 12) → (L.map List.length).sum ≤ 12 * L.length := by
        intro L
        induction L with
        | nil => intro _; simp
        | cons l L ih => intro h; have := h l List.mem_cons_self; have := ih fun x hx => h x (List.mem_cons_of_mem _ hx); simp only [List.map_cons, List.sum_cons, List.length_cons]; omega
      have h2 := h1 ((minSets d x).take k) fun l hl => (min_mem_len (List.mem_of_mem_take hl)).1
      have h3 := List.length_take_le k (minSets d x)
      have h4 := List.length_take_le j lh
      have h5 := List.length_take_le' k (minSets d x)
      have h6 := List.length_take_le' j lh
      omega
    refine cD (fun hltj => ?_) (fun hgej => ?_)
    · have hltj : j < nh := by omega
      have kk : Kept (fun b => b ≠ gm) w7 z := ku.trans kz
      have xz : Ext w5 z := x57.then kk fun b hb _ => by omega
      have B9 := B9.kept kk (by omega)
      obtain ⟨b', o', cs, i, rfl, hi, -, -, hc', rfl, -⟩ := (show SlR tInt (fun _ => True) z Ah nh lh from (hI.ext xz).rdT).at_ hltj
      have htj : lh.take (j + 1) = lh.take j ++ [i] := by rw [List.take_add_one, hi]; rfl
      have hcn := hcnt i
      refine idx j rfl hltj ?_
      refine ld (iv i) (hc' 0 _ rfl) ?_
      refine ld (.map (some gm)) (B9.cell rfl) ?_
      refine look1 (f := F2) (iv ((((((minSets d x).take k).flatten ++ lh.take j).count i : Nat)) : Int)) (fun y hy => by subst hy; exact MF2) (hF2 i) ?_
      refine arI (by omega) ?_
      refine mupd MF2 (fun z2 M2 k2 zz2 => ?_)
      have M2 : MapFn .i64 z2 gm (fset F2 i (iv ((((((minSets d x).take k).flatten ++ lh.take j).count i : Nat) : Int) + 1))) := M2
      refine arI (by omega) ?_
      refine next (j + 1) ⟨by rw [Int.natCast_add]; rfl, trivial⟩ ⟨by omega, kz.trans k2, _, M2, fun i' => ?_⟩ (by omega)
      unfold fset
      have key : ∀ i', (((minSets d x).take k).flatten ++ lh.take j ++ [i]).count i' = (((minSets d x).take k).flatten ++ lh.take j).count i' + [i].count i' := fun _ => List.count_append
      rw [htj, ← List.append_assoc, key]
      by_cases hii : i' = i
      · rw [if_pos hii, hii, show List.count i [i] = 1 by simp]; rfl
      · rw [if_neg hii, hF2 i', show List.count i' [i] = 0 from List.count_eq_zero.2 (by simpa using hii)]; rfl
    · refine arI (by omega) ?_
      have etk : lh.take j = lh := List.take_of_length_le (by omega)
      refine next (k + 1) ⟨by rw [Int.natCast_add]; rfl, trivial⟩ ⟨by omega, ku.trans kz, F2, MF2, fun i => by rw [hF2, htk, etk]⟩ (by omega)
  · have hF : ∀ i, (F i).getD (iv 0) = iv ((cntS (minSets d x) i : Nat) : Int) := fun i => by
      rw [hF, List.take_of_length_le (by omega), count_nodup fun l hl => min_nodup hl]
    have Bx := Bx.kept ku (by omega)
    have Bf := Bf.kept ku (by omega)
    have B8 := B8.kept ku (by omega)
    have B9 := B9.kept ku (by omega)
    refine fldA ?_
    refine ld (.slice S1 m2 e2) (Bx.cell rfl) ?_
    refine len ?_
    refine loop4 (fun (k : Nat) (B : Option Addr) (m e : Nat) => [(46, iv (k : Int)), (6, .slice B m e)]) (fun k B m e z => k ≤ m2 ∧ m ≤ k ∧ OwnF u z B m e 3 1 (((List.range k).map fun i : Nat => (i : Int)).map fun k => .int .i64 k)) (fun k _ _ _ _ => m2 - k) 0 none 0 0 ⟨rfl, rfl, trivial⟩ ⟨by omega, Nat.le_refl _, OwnF.nil (.refl _ _)⟩ rfl ?_
    rintro G2 k2 B m e' z ⟨hk2, hm, oz⟩
    refine cD (fun hltk => ?_) (fun hgek => ?_)
    · have hltk : k2 < m2 := by omega
      refine lit [iv (k2 : Int)] (fun gg u1 hq1 => ?_)
      refine appF (oz.then hq1.ext) (hq1.src (sz := 1) rfl) (by omega) (fun B' e2' u2 q2 kk hA => ?_)
      refine arI (by omega) ?_
      refine next4 (k2 + 1) B' (m + 1) e2' ⟨by rw [Int.natCast_add]; rfl, rfl, trivial⟩ ⟨by omega, by omega, ?_⟩ (by omega)
      rw [List.range_succ, List.map_append, List.map_append]
      exact q2
    obtain rfl : k2 = m2 := by omega
    have zz := oz.ext
    have MF := MF.kept zz trivial
    have Bf := Bf.ext zz
    have B8 := B8.ext zz
    have B9 := B9.ext zz
    have hi12 : k2 ≤ 12 := by rw [← lsu]; exact hS
    have si := oz.ints (D := fun _ => True) (fun v hv => by obtain ⟨i, hi, rfl⟩ := List.mem_map.1 hv; have := List.mem_range.1 hi; unfold I64; omega) (by omega) fun _ _ => trivial
    refine call_of (c_chosenI (f := 68) (cv1 := ptr bf) (cv2 := ptr b9) (cv3 := ptr b8) (fun i => q (cntS (minSets d x) i) (minSets d x).length) si (by omega) (fun u' i xu' hi => ?_)) ?_
    · refine fn_rule (args := [iv i, ptr bf, ptr b9, ptr b8]) Tryz.func68 (by kernel_rfl) ?_
      refine ld (.func (.func f) #[] #[]) ((Bf.ext xu').cell rfl) ?_
      refine ld (.map (some gm)) ((B9.ext xu').cell rfl) ?_
      refine look1 (f := F) (iv ((cntS (minSets d x) i : Nat) : Int)) (fun y hy => by subst hy; exact MF.kept xu' trivial) (hF i) ?_
      refine ld (.slice A n c) ((B8.ext xu').cell rfl) ?_
      refine len ?_
      refine call_of (hq u' (cntS (minSets d x) i) n) ?_
      rintro _ _ ⟨rfl, rfl⟩
      exact ret1 (.bool _) rfl ⟨by rw [hml2], rfl⟩
    rintro _ w8 ⟨A', n', c', rfl, o', hn'⟩
    have xe : Ext w z := (x05.trans (x57.then ku fun b hb _ => by omega)).trans zz
    refine ret2 (.slice A' n' c') (iv 0) rfl rfl ⟨A', n', c', by rw [g], ?_⟩
    have := o'.base xe
    rw [List.filter_map] at this
    rw [lsu]
    exact this
theorem c_sNamed {csd csx : List Value} {d : Dist} {x : Ev} (hd : DiR D w csd d) (hx : EvR D w csx x) : CallZ Tryz.prog 15 #[.agg csd.toArray, .agg csx.toArray] w
    (fun v w' => ∃ A n c, v = .tuple #[.slice A n c, iv (evErr d x)] ∧ OwnF w w' A n c 3 1 ((namedV d x).map fun k => .int .i64 k)) := by
  obtain ⟨A1, n1, c1, A2, n2, c2, A3, n3, c3, A4, n4, c4, A5, n5, c5, A6, n6, c6, rfl, -⟩ := hd.ex
  obtain ⟨W1, m1, e1, S1, m2, e2, rfl, -⟩ := hx.ex
  refine fn_rule (args := [.agg #[.string d.name, iv d.hours, iv d.cap, iv d.start, .slice A1 n1 c1, .slice A2 n2 c2, .slice A3 n3 c3, .slice A4 n4 c4, .slice A5 n5 c5, .slice A6 n6 c6], .agg #[.slice W1 m1 e1, .slice S1 m2 e2]]) Tryz.func15 (by kernel_rfl) ?_
  refine box (fun bd w1 h1 => ?_)
  refine box (fun bx w2 h2 => ?_)
  have x2 := h1.ext.trans h2.ext
  have Bd : Blk w2 bd 31 [.string d.name, iv d.hours, iv d.cap, iv d.start, .slice A1 n1 c1, .slice A2 n2 c2, .slice A3 n3 c3, .slice A4 n4 c4, .slice A5 n5 c5, .slice A6 n6 c6] := h1.blk.ext h2.ext
  have Bx : Blk w2 bx 35 [.slice W1 m1 e1, .slice S1 m2 e2] := h2.blk
  refine ldA [.string d.name, iv d.hours, iv d.cap, iv d.start, .slice A1 n1 c1, .slice A2 n2 c2, .slice A3 n3 c3, .slice A4 n4 c4, .slice A5 n5 c5, .slice A6 n6 c6] (.blk Bd) rfl ?_
  refine ldA [.slice W1 m1 e1, .slice S1 m2 e2] (.blk Bx) rfl ?_
  refine call_of (c_scounted (f := 44) (fun a _ => decide (0 < a)) (hd.ext x2) (hx.ext x2) (fun u a b => ?_)) ?_
  · refine fn_rule (args := [iv (a : Int), iv (b : Int)]) Tryz.func44 (by kernel_rfl) ?_
    refine cD (fun h => ?_) (fun h => ?_)
    · exact ret1 (.bool true) rfl ⟨by rw [decide_eq_true (by omega)], rfl⟩
    · exact ret1 (.bool false) rfl ⟨by rw [decide_eq_false (by omega)], rfl⟩
  rintro _ w3 ⟨A, n, c, rfl, o⟩
  refine ret2 (.slice A n c) (iv (evErr d x)) rfl rfl ⟨A, n, c, rfl, ?_⟩
  have e : (if evErr d x = 0 then ((List.range x.suspects.length).filter fun i : Nat => decide (0 < cntS (minSets d x) i)).map fun i : Nat => (i : Int) else []) = namedV d x := by
    by_cases h : evErr d x = 0
    · rw [if_pos h]; rfl
    · rw [if_neg h]
      unfold namedV
      rw [minSets_err h]
      rw [List.filter_eq_nil_iff.2 fun i _ => by simp [cntS]]; rfl
  rw [e] at o
  exact o.base x2
theorem c_sNeeded {csd csx : List Value} {d : Dist} {x : Ev} (hd : DiR D w csd d) (hx : EvR D w csx x) : CallZ Tryz.prog 18 #[.agg csd.toArray, .agg csx.toArray] w
    (fun v w' => ∃ A n c, v = .tuple #[.slice A n c, iv (evErr d x)] ∧ OwnF w w' A n c 3 1 ((neededV d x).map fun k => .int .i64 k)) := by
  obtain ⟨A1, n1, c1, A2, n2, c2, A3, n3, c3, A4, n4, c4, A5, n5, c5, A6, n6, c6, rfl, -⟩ := hd.ex
  obtain ⟨W1, m1, e1, S1, m2, e2, rfl, -⟩ := hx.ex
  refine fn_rule (args := [.agg #[.string d.name, iv d.hours, iv d.cap, iv d.start, .slice A1 n1 c1, .slice A2 n2 c2, .slice A3 n3 c3, .slice A4 n4 c4, .slice A5 n5 c5, .slice A6 n6 c6], .agg #[.slice W1 m1 e1, .slice S1 m2 e2]]) Tryz.func18 (by kernel_rfl) ?_
  refine box (fun bd w1 h1 => ?_)
  refine box (fun bx w2 h2 => ?_)
  have x2 := h1.ext.trans h2.ext
  have Bd : Blk w2 bd 31 [.string d.name, iv d.hours, iv d.cap, iv d.start, .slice A1 n1 c1, .slice A2 n2 c2, .slice A3 n3 c3, .slice A4 n4 c4, .slice A5 n5 c5, .slice A6 n6 c6] := h1.blk.ext h2.ext
  have Bx : Blk w2 bx 35 [.slice W1 m1 e1, .slice S1 m2 e2] := h2.blk
  refine ldA [.string d.name, iv d.hours, iv d.cap, iv d.start, .slice A1 n1 c1, .slice A2 n2 c2, .slice A3 n3 c3, .slice A4 n4 c4, .slice A5 n5 c5, .slice A6 n6 c6] (.blk Bd) rfl ?_
  refine ldA [.slice W1 m1 e1, .slice S1 m2 e2] (.blk Bx) rfl ?_
  refine call_of (c_scounted (f := 46) (fun a b => decide (0 < a) && decide (a = b)) (hd.ext x2) (hx.ext x2) (fun u a b => ?_)) ?_
  · refine fn_rule (args := [iv (a : Int), iv (b : Int)]) Tryz.func46 (by kernel_rfl) ?_
    refine cD (fun h => ?_) (fun h => ?_)
    · refine cE (fun h2 => ?_) (fun h2 => ?_)
      · exact ret1 (.bool true) rfl ⟨by rw [decide_eq_true (by omega), decide_eq_true (by omega)]; rfl, rfl⟩
      · exact ret1 (.bool false) rfl ⟨by rw [decide_eq_true (by omega), decide_eq_false (by omega)]; rfl, rfl⟩
    · exact ret1 (.bool false) rfl ⟨by rw [decide_eq_false (by omega)]; rfl, rfl⟩
  rintro _ w3 ⟨A, n, c, rfl, o⟩
  refine ret2 (.slice A n c) (iv (evErr d x)) rfl rfl ⟨A, n, c, rfl, ?_⟩
  have e : (if evErr d x = 0 then ((List.range x.suspects.length).filter fun i : Nat => decide (0 < cntS (minSets d x) i) && decide (cntS (minSets d x) i = (minSets d x).length)).map fun i : Nat => (i : Int) else []) = neededV d x := by
    by_cases h : evErr d x = 0
    · rw [if_pos h]; rfl
    · rw [if_neg h]
      unfold neededV
      rw [minSets_err h]
      rw [List.filter_eq_nil_iff.2 fun i _ => by simp [cntS]]; rfl
  rw [e] at o
  exact o.base x2
end
end Go.Proofs.YtcpdhclnmjfldaaGreat
