/- What the functions of probe compute, in plain Lean: part 3, trees. -/
import Derived.Test.YtpmmhcgghldaaaaDoorP6
namespace Go.Proofs.YtpmmhcgghldaaaaDoor

abbrev Pr := Int × List Int
def full (N : Nat) : List Nat := mem (2 ^ N - 1) N
def kid (t : Tr) (i : Nat) : Tr := t.kids.getD i (.mk 0 [] [])
def prAt (p : List Pr) (i : Int) : Pr := p.getD i.toNat (0, [])
def ofNats (l : List Nat) : List Int := l.map fun k : Nat => (k : Int)

def rbestL (l : List (List Int)) (p : List Pr) : Tr × Int × Int :=
  if checkL l p ≠ 0 then (.mk 0 [] [], 0, checkL l p)
  else (rtreeF l p (fun k => (rtab l p (2 ^ l.length)).getD k 0) (l.length + 1) (full l.length), (rtab l p (2 ^ l.length)).getD (2 ^ l.length - 1) 0, 0)
def rnextL (l : List (List Int)) (p : List Pr) : Int × Bool × Int :=
  if (rbestL l p).2.2 ≠ 0 ∨ (rbestL l p).1.kids = [] then (0, false, (rbestL l p).2.2) else ((rbestL l p).1.probe, true, 0)
def sameF : Nat → Tr → Tr → Bool
  | 0, _, _ => false
  | d + 1, a, b => a.probe == b.probe && a.rest == b.rest && (a.kids.length == b.kids.length) && (a.kids.zip b.kids).all fun x => sameF d x.1 x.2

/-- The worst cost of a tree; -1 if it is not right. -/
def rworthF (l : List (List Int)) (p : List Pr) : Nat → Tr → List Nat → Int
  | 0, _, _ => -1
  | d + 1, t, list =>
    if t.kids = [] then (if (p.any fun x => sepL l x list) = true ∨ t.probe ≠ 0 ∨ t.rest ≠ ofNats list then -1 else 0)
    else if t.rest ≠ [] ∨ t.kids.length ≠ 2 ∨ t.probe < 0 ∨ t.probe ≥ p.length then -1
    else if partL l (prAt p t.probe) list false = [] ∨ partL l (prAt p t.probe) list true = [] then -1
    else if rworthF l p d (kid t 0) (partL l (prAt p t.probe) list false) < 0 ∨ rworthF l p d (kid t 1) (partL l (prAt p t.probe) list true) < 0 then -1
    else (prAt p t.probe).1 + max (rworthF l p d (kid t 0) (partL l (prAt p t.probe) list false)) (rworthF l p d (kid t 1) (partL l (prAt p t.probe) list true))
theorem prAt_ok {p : List Pr} (hok : prOk p) {i : Int} (h0 : 0 ≤ i) (h1 : i < p.length) : 1 ≤ (prAt p i).1 ∧ (prAt p i).1 ≤ 1048576 := by
  unfold prAt
  have hi : i.toNat < p.length := by omega
  rw [List.getD_eq_getElem?_getD, List.getElem?_eq_getElem hi]
  exact hok _ (List.getElem_mem hi)
theorem rworthF_le {l : List (List Int)} {p : List Pr} (hok : prOk p) : ∀ (d : Nat) (t : Tr) (list : List Nat), -1 ≤ rworthF l p d t list ∧ rworthF l p d t list ≤ list.length * 1048576
  | 0, t, list => by unfold rworthF; omega
  | d + 1, t, list => by
    unfold rworthF
    split
    · split <;> omega
    split
    · omega
    rename_i h1 h2
    split
    · omega
    rename_i h3
    split
    · omega
    rename_i h4
    have e1 := rworthF_le (l := l) hok d (kid t 0) (partL l (prAt p t.probe) list false)
    have e2 := rworthF_le (l := l) hok d (kid t 1) (partL l (prAt p t.probe) list true)
    have hs := part_split (l := l) (x := prAt p t.probe) (list := list)
    have hx := prAt_ok hok (i := t.probe) (by omega) (by omega)
    have n1 : 0 < (partL l (prAt p t.probe) list false).length := List.length_pos_iff.2 fun e => h3 (.inl e)
    have n2 : 0 < (partL l (prAt p t.probe) list true).length := List.length_pos_iff.2 fun e => h3 (.inr e)
    omega
def rworthL (l : List (List Int)) (p : List Pr) (d : Nat) (t : Tr) : Int × Bool × Int :=
  if checkL l p ≠ 0 then (0, false, checkL l p)
  else if rworthF l p d t (full l.length) < 0 then (0, false, 0) else (rworthF l p d t (full l.length), true, 0)
/-- Where a truth leads to, and what it costs. -/
def followF (p : List Pr) (truth : List Int) : Nat → Tr → Int → List Int × Int
  | 0, t, c => (t.rest, c)
  | d + 1, t, c => if t.kids = [] then (t.rest, c) else followF p truth d (kid t (if showsL (prAt p t.probe).2 truth then 1 else 0)) (c + (prAt p t.probe).1)
def rfollowL (l : List (List Int)) (p : List Pr) (d : Nat) (t : Tr) (truth : List Int) : List Int × Int × Int :=
  if (rworthL l p d t).2.2 ≠ 0 then ([], 0, (rworthL l p d t).2.2)
  else if (rworthL l p d t).2.1 = false ∨ setOk truth = false then ([], 0, 500)
  else ((followF p truth d t 0).1, (followF p truth d t 0).2, 0)

theorem checkL_ok {l : List (List Int)} {p : List Pr} (h : checkL l p = 0) : l.length ≤ 12 ∧ p.length ≤ 12 ∧ hypsOk l = true ∧ p.all probeOk = true := by
  unfold checkL at h
  split at h
  · cases h
  · split at h
    · rename_i h1 h2
      obtain ⟨h3, h4⟩ : hypsOk l = true ∧ p.all probeOk = true := by simpa using h2
      exact ⟨by omega, by omega, h3, h4⟩
    · cases h
theorem prOk_of {p : List Pr} (h : p.all probeOk = true) : prOk p := fun x hx => by
  have := List.all_eq_true.1 h x hx
  unfold probeOk at this
  simp at this
  omega
theorem checkL_val (l : List (List Int)) (p : List Pr) : 0 ≤ checkL l p ∧ checkL l p ≤ 500 := by
  unfold checkL; split
  · decide
  · split <;> decide
theorem full_len (N : Nat) : (full N).length ≤ N := mem_len _ _
theorem full_lt {N i : Nat} (h : i ∈ full N) : i < N := mem_lt h
theorem full_bits (N : Nat) : bitsL (full N) = 2 ^ N - 1 := bitsL_mem (by have := Nat.two_pow_pos N; omega)
end Go.Proofs.YtpmmhcgghldaaaaDoor
