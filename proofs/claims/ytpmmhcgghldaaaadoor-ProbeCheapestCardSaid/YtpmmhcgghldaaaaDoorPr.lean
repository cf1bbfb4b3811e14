/- What the functions of probe compute, in plain Lean: part 5, the program's own way: trailing zeros, lists of bits, the best choice. -/
import Derived.Test.YtpmmhcgghldaaaaDoorPq
import Derived.KernelRfl
namespace Go.Proofs.YtpmmhcgghldaaaaDoor

def tab64 : List Nat := [0, 1, 56, 2, 57, 49, 28, 3, 61, 58, 42, 50, 38, 29, 17, 4, 62, 47, 59, 36, 45, 43, 51, 22, 53, 39, 33, 30, 24, 18, 12, 5, 63, 55, 48, 27, 60, 41, 37, 16, 46, 35, 44, 21, 52, 32, 23, 11, 54, 26, 40, 15, 34, 20, 31, 10, 25, 14, 19, 9, 13, 8, 7, 6]
/-- Where Go looks the number of trailing zeros up. -/
def tzAt (x : Nat) : Nat := ((x &&& (18446744073709551616 - x)) * 285870213051353865 % 18446744073709551616) >>> 58
def tz (x : Nat) : Nat := tab64.getD (tzAt x) 0
def tzOk (s : Nat) : Bool := s == 0 || decide (tzAt s < 64) && decide (tz s < 12) && decide (s &&& (s - 1) < s)
def listOk (s : Nat) : Bool := s == 0 || mem s 12 == tz s :: mem (s &&& (s - 1)) 12
theorem tz_all : ((List.range 4096).all fun s => tzOk s && listOk s) = true := by kernel_rfl
theorem tz_ok {s : Nat} (h : s < 4096) : tzOk s = true := by
  have := List.all_eq_true.1 tz_all s (List.mem_range.2 h)
  simp only [Bool.and_eq_true] at this
  exact this.1
theorem list_ok {s : Nat} (h : s < 4096) (h0 : s ≠ 0) : mem s 12 = tz s :: mem (s &&& (s - 1)) 12 := by
  have := List.all_eq_true.1 tz_all s (List.mem_range.2 h)
  simp only [Bool.and_eq_true] at this
  have h2 := this.2
  unfold listOk at h2
  rw [Bool.or_eq_true] at h2
  rcases h2 with h2 | h2
  · exact absurd (eq_of_beq h2) h0
  · exact eq_of_beq h2
theorem tz_spec {s : Nat} (h : s < 4096) (h0 : s ≠ 0) : tzAt s < 64 ∧ tz s < 12 ∧ s &&& (s - 1) < s := by
  have := tz_ok h
  unfold tzOk at this
  rw [Bool.or_eq_true] at this
  rcases this with h2 | h2
  · exact absurd (eq_of_beq h2) h0
  · simp only [Bool.and_eq_true, decide_eq_true_eq] at h2; exact ⟨h2.1.1, h2.1.2, h2.2⟩

/-! ### the best choice, by sets of bits -/
def psep (m S : Nat) : Bool := !(m &&& S == 0) && !(m &&& S == S)
def pstep (rec : Nat → Int × Int) (S i : Nat) (x : Int × Nat) (acc : Int × Int) : Int × Int :=
  if psep x.2 S = true then (if acc.2 < 0 ∨ x.1 + max (rec (x.2 &&& S)).1 (rec (S - (x.2 &&& S))).1 < acc.1 then (x.1 + max (rec (x.2 &&& S)).1 (rec (S - (x.2 &&& S))).1, (i : Int)) else acc) else acc
def pfold (rec : Nat → Int × Int) (S : Nat) : Nat → List (Int × Nat) → Int × Int → Int × Int
  | _, [], acc => acc
  | i, x :: r, acc => pfold rec S (i + 1) r (pstep rec S i x acc)
def pb (ps : List (Int × Nat)) : Nat → Nat → Int × Int
  | 0, _ => (0, -1)
  | f + 1, S => pfold (pb ps f) S 0 ps (0, -1)
def B (ps : List (Int × Nat)) (S : Nat) : Int × Int := pb ps (S + 1) S
theorem psep_lt {m S : Nat} (h : psep m S = true) : m &&& S < S ∧ S - (m &&& S) < S ∧ 0 < m &&& S := by
  unfold psep at h
  simp at h
  have : m &&& S ≤ S := Nat.and_le_right
  omega
theorem pfold_congr {r1 r2 : Nat → Int × Int} {S : Nat} (h : ∀ T, T < S → r1 T = r2 T) : ∀ (ps : List (Int × Nat)) (i : Nat) (acc : Int × Int), pfold r1 S i ps acc = pfold r2 S i ps acc
  | [], _, _ => rfl
  | x :: r, i, acc => by
    have e : pstep r1 S i x acc = pstep r2 S i x acc := by
      unfold pstep
      by_cases hs : psep x.2 S = true
      · obtain ⟨h1, h2, _⟩ := psep_lt hs
        rw [h _ h1, h _ h2]
      · rw [if_neg hs, if_neg hs]
    unfold pfold
    rw [e]
    exact pfold_congr h r (i + 1) _
theorem pb_fuel {ps : List (Int × Nat)} : ∀ (S f g : Nat), S < f → S < g → pb ps f S = pb ps g S := by
  intro S
  induction S using Nat.strongRecOn with
  | _ S ih =>
    intro f g hf hg
    obtain ⟨f, rfl⟩ : ∃ k, f = k + 1 := ⟨f - 1, by omega⟩
    obtain ⟨g, rfl⟩ : ∃ k, g = k + 1 := ⟨g - 1, by omega⟩
    exact pfold_congr (fun T hT => ih T hT f g (by omega) (by omega)) ps 0 _
theorem B_eq (ps : List (Int × Nat)) (S : Nat) : B ps S = pfold (B ps) S 0 ps (0, -1) := by
  show pfold (pb ps S) S 0 ps (0, -1) = _
  exact pfold_congr (fun T hT => pb_fuel T _ _ (by omega) (by omega)) ps 0 _
def psOk (ps : List (Int × Nat)) : Prop := ∀ x ∈ ps, 1 ≤ x.1 ∧ x.1 ≤ 1048576
def accOk (S : Nat) (i : Nat) (a : Int × Int) : Prop := 0 ≤ a.1 ∧ a.1 ≤ S * 1048576 ∧ -1 ≤ a.2 ∧ a.2 < i
theorem pstep_ok {rec : Nat → Int × Int} {S i : Nat} {x : Int × Nat} {acc : Int × Int} (hr : ∀ T, T < S → 0 ≤ (rec T).1 ∧ (rec T).1 ≤ T * 1048576) (hx : 1 ≤ x.1 ∧ x.1 ≤ 1048576) (ha : accOk S i acc) : accOk S (i + 1) (pstep rec S i x acc) := by
  unfold pstep
  obtain ⟨a1, a2, a3, a4⟩ := ha
  split
  · rename_i hs
    obtain ⟨h1, h2, h3⟩ := psep_lt hs
    have r1 := hr _ h1
    have r2 := hr _ h2
    split
    · exact ⟨by show (0 : Int) ≤ x.1 + max _ _; omega, by show x.1 + max _ _ ≤ (S : Int) * 1048576; omega, by show (-1 : Int) ≤ (i : Int); omega, by show (i : Int) < ((i + 1 : Nat) : Int); omega⟩
    · exact ⟨a1, a2, a3, by omega⟩
  · exact ⟨a1, a2, a3, by omega⟩
theorem pfold_ok {rec : Nat → Int × Int} {S : Nat} (hr : ∀ T, T < S → 0 ≤ (rec T).1 ∧ (rec T).1 ≤ T * 1048576) : ∀ (ps : List (Int × Nat)) (i : Nat) (acc : Int × Int), psOk ps → accOk S i acc → accOk S (i + ps.length) (pfold rec S i ps acc)
  | [], i, acc, _, h => h
  | x :: r, i, acc, hp, h => by
    have := pfold_ok hr r (i + 1) (pstep rec S i x acc) (fun y hy => hp y (List.mem_cons_of_mem _ hy)) (pstep_ok hr (hp x List.mem_cons_self) h)
    rw [List.length_cons, show i + (r.length + 1) = i + 1 + r.length from by omega]
    exact this
theorem B_ok {ps : List (Int × Nat)} (hp : psOk ps) (S : Nat) : accOk S ps.length (B ps S) := by
  induction S using Nat.strongRecOn with
  | _ S ih =>
    rw [B_eq]
    have := pfold_ok (rec := B ps) (S := S) (fun T hT => ⟨(ih T hT).1, (ih T hT).2.1⟩) ps 0 (0, -1) hp ⟨by decide, by show (0 : Int) ≤ (S : Int) * 1048576; omega, by decide, by decide⟩
    rwa [Nat.zero_add] at this
end Go.Proofs.YtpmmhcgghldaaaaDoor
