/- What the functions of probe compute, in plain Lean: part 1, sets and validity. -/
namespace Go.Proofs.YtpmmhcgghldaaaaDoor

/-- A strictly increasing list of numbers from above 'last' to 11. -/
def setFrom (last : Int) : List Int → Bool
  | [] => true
  | x :: r => decide (last < x) && decide (x < 12) && setFrom x r
def setOk (l : List Int) : Bool := setFrom (-1) l
def maskFrom (m : Nat) : List Int → Nat
  | [] => m
  | x :: r => maskFrom (m ||| 2 ^ x.toNat) r
def mask (l : List Int) : Nat := maskFrom 0 l
theorem pow_lt {x : Int} (h : x < 12) : 2 ^ x.toNat < 4096 := by
  have : 2 ^ x.toNat ≤ 2 ^ 11 := Nat.pow_le_pow_right (by omega) (by omega)
  omega
theorem or_lt {a b : Nat} (ha : a < 4096) (hb : b < 4096) : a ||| b < 4096 := Nat.or_lt_two_pow (n := 12) ha hb
theorem maskFrom_lt {m : Nat} (hm : m < 4096) : ∀ {l : List Int} {last : Int}, setFrom last l = true → maskFrom m l < 4096 := by
  intro l
  induction l generalizing m with
  | nil => intro last _; exact hm
  | cons x r ih =>
    intro last h
    simp only [setFrom, Bool.and_eq_true, decide_eq_true_eq] at h
    exact ih (or_lt hm (pow_lt h.1.2)) h.2
theorem mask_lt {l : List Int} (h : setOk l = true) : mask l < 4096 := maskFrom_lt (by omega) h

/-- The hypotheses are sets, pairwise different. -/
def hypsFrom (pre : List (List Int)) : List (List Int) → Bool
  | [] => true
  | x :: r => setOk x && !(pre.any (fun y => x == y)) && hypsFrom (pre ++ [x]) r
def hypsOk (l : List (List Int)) : Bool := hypsFrom [] l
def probeOk (p : Int × List Int) : Bool := decide (1 ≤ p.1) && decide (p.1 ≤ 1048576) && !p.2.isEmpty && setOk p.2
def checkL (l : List (List Int)) (p : List (Int × List Int)) : Int :=
  if 12 < l.length ∨ 12 < p.length then 2 else if hypsOk l && p.all probeOk then 0 else 500

def showsL (a b : List Int) : Bool := a.any fun x => b.any fun y => x == y
/-- The members of a set of bits among the first n numbers. -/
def mem (s n : Nat) : List Nat := (List.range n).filter fun i => s.testBit i
def bitsFrom (m : Nat) : List Nat → Nat
  | [] => m
  | i :: r => bitsFrom (m + 2 ^ i) r
def bitsL (l : List Nat) : Nat := bitsFrom 0 l
def fewL (l : List (List Int)) (p : List (Int × List Int)) : Bool :=
  !(decide (8 < l.length) && decide (l.length ≤ 12) || decide (100 < l.length) || decide (100 < p.length)) && l.all (fun x => decide (x.length ≤ 100)) && p.all (fun x => decide (x.2.length ≤ 100))
end Go.Proofs.YtpmmhcgghldaaaaDoor
