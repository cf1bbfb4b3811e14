/- Parts of the proof: E1 E2 E3 E4 E5 E6 E7 E8. -/
import Derived.Test.YtcpdhclnmjfldaaM5
import Derived.Test.YtcpdhclnmjfldaaM3
import Derived.Test.YtcpdhclnmjfldaaM4

/- Losses, plainly: what arrives does not decrease with the parcel; the least parcel of which so much arrives, by halving. -/
namespace Go.Proofs.Ytcpdhclnmjfldaa
open Go Go.RowKit

/-! ### halving -/
/-- From lo on, the first number for which p holds is res; none up to hi if res is hi. -/
structure First (p : Int → Bool) (lo hi res : Int) : Prop where
  le : lo ≤ res
  ge : res ≤ hi
  no : ∀ v, lo ≤ v → v < res → p v = false
  yes : res < hi → p res = true
theorem First.uniq {p : Int → Bool} {lo hi a b : Int} (h : First p lo hi a) (k : First p lo hi b) : a = b := by
  rcases Int.lt_trichotomy a b with h1 | h1 | h1
  · have := k.no a h.le h1
    rw [h.yes (by have := k.ge; omega)] at this; cases this
  · exact h1
  · have := h.no b k.le h1
    rw [k.yes (by have := h.ge; omega)] at this; cases this
def bs (p : Int → Bool) : Nat → Int → Int → Int
  | 0, lo, _ => lo
  | n + 1, lo, hi => if lo < hi then (if p ((lo + hi) / 2) then bs p n lo ((lo + hi) / 2) else bs p n ((lo + hi) / 2 + 1) hi) else lo
/-- What halving keeps. -/
structure Half (p : Int → Bool) (a b lo hi : Int) : Prop where
  a_lo : a ≤ lo
  lo_hi : lo ≤ hi
  hi_b : hi ≤ b
  no : ∀ v, a ≤ v → v < lo → p v = false
  yes : hi < b → p hi = true
theorem Half.start {p : Int → Bool} {a b : Int} (h : a ≤ b) : Half p a b a b := ⟨Int.le_refl _, h, Int.le_refl _, fun v h1 h2 => by omega, fun h => by omega⟩
theorem Half.left {p : Int → Bool} {a b lo hi m : Int} (h : Half p a b lo hi) (h1 : lo ≤ m) (h2 : m < hi) (hp : p m = true) : Half p a b lo m := ⟨h.a_lo, h1, by have := h.hi_b; omega, h.no, fun _ => hp⟩
theorem Half.right {p : Int → Bool} {a b lo hi m : Int} (hm : ∀ v v', a ≤ v → v ≤ v' → v' ≤ b → p v = true → p v' = true) (h : Half p a b lo hi) (h1 : lo ≤ m) (h2 : m < hi) (hp : p m = false) : Half p a b (m + 1) hi :=
  ⟨by have := h.a_lo; omega, by omega, h.hi_b, fun v hv hv2 => (by
    cases hpv : p v with
    | false => rfl
    | true => rw [hm v m hv (by omega) (by have := h.hi_b; omega) hpv] at hp; cases hp), h.yes⟩
theorem Half.done {p : Int → Bool} {a b lo hi : Int} (h : Half p a b lo hi) (e : hi ≤ lo) : First p a b lo := by
  have := h.lo_hi
  obtain rfl : lo = hi := by omega
  exact ⟨h.a_lo, h.hi_b, h.no, h.yes⟩
theorem bs_first {p : Int → Bool} {a b : Int} (hm : ∀ v v', a ≤ v → v ≤ v' → v' ≤ b → p v = true → p v' = true) : ∀ (n : Nat) {lo hi : Int}, Half p a b lo hi → hi - lo < 2 ^ n → First p a b (bs p n lo hi)
  | 0, lo, hi, h, hn => h.done (by simp at hn; omega)
  | n + 1, lo, hi, h, hn => by
    unfold bs
    have e : (2 : Int) ^ (n + 1) = 2 * 2 ^ n := by rw [Int.pow_succ]; omega
    by_cases hlt : lo < hi
    · rw [if_pos hlt]
      cases hp : p ((lo + hi) / 2) with
      | true => rw [if_pos rfl]; exact bs_first hm n (h.left (by omega) (by omega) hp) (by omega)
      | false => rw [if_neg (by simp)]; exact bs_first hm n (h.right hm (by omega) (by omega) hp) (by omega)
    · rw [if_neg hlt]; exact h.done (by omega)

/-! ### what arrives -/
def arrB (r : Reach) (v : Int) : Int := v - (lostR r v).lo
def arrW (r : Reach) (v : Int) : Int := v - (lostR r v).hi
section
variable {r : Reach} {v v' w : Int}
theorem floor_mono {n d : Int} (hd : 0 < d) (hn : 0 ≤ n) (hnd : n ≤ d) (h : v ≤ v') : v * n / d ≤ v' * n / d ∧ v' * n / d ≤ v * n / d + (v' - v) := by
  have h1 : v * n ≤ v' * n := Int.mul_le_mul_of_nonneg_right h hn
  have h2 : v' * n ≤ v * n + (v' - v) * d := by
    have : (v' - v) * n ≤ (v' - v) * d := Int.mul_le_mul_of_nonneg_left hnd (by omega)
    rw [Int.sub_mul] at this; omega
  refine ⟨Int.ediv_le_ediv hd h1, ?_⟩
  rw [← Int.add_mul_ediv_right _ _ (by omega)]
  exact Int.ediv_le_ediv hd h2
theorem ceil_mono {n d : Int} (hd : 0 < d) (hnd : n ≤ d) (h : v ≤ v') : upI (v' * n) d ≤ upI (v * n) d + (v' - v) := by
  have h2 : v' * n ≤ v * n + (v' - v) * d := by
    have : (v' - v) * n ≤ (v' - v) * d := Int.mul_le_mul_of_nonneg_left hnd (by omega)
    rw [Int.sub_mul] at this; omega
  unfold upI
  rw [← Int.add_mul_ediv_right _ _ (by omega)]
  exact Int.ediv_le_ediv hd (by omega)
theorem lost_eq (hl : lossOk r = true) (hv : 0 ≤ v) : lostR r v = ⟨min v (r.evap.lo + v * r.s0.n / r.s0.d), if v = 0 then 0 else min v (r.evap.hi + upI (v * r.s1.n) r.s1.d)⟩ := by
  obtain ⟨h1, h2⟩ := lossOk_iff.1 hl
  unfold lostR
  by_cases h : v = 0
  · subst h; rw [if_pos rfl, if_pos rfl, Int.zero_mul, Int.zero_ediv]; congr 1; omega
  · rw [if_neg h, if_neg h]
theorem arrB_mono (hl : lossOk r = true) (hv : 0 ≤ v) (h : v ≤ v') : arrB r v ≤ arrB r v' := by
  obtain ⟨h1, h2⟩ := lossOk_iff.1 hl
  obtain ⟨h3, h4, _⟩ := sharesQ_iff.1 h2
  obtain ⟨q1, q2, q3⟩ := shareQ_iff.1 h3
  obtain ⟨d1, -⟩ := qValid_iff.1 q1
  have f := floor_mono (v := v) (v' := v') (show 0 < r.s0.d by omega) q2 q3 h
  unfold arrB
  rw [lost_eq hl hv, lost_eq hl (by omega)]
  show v - min v _ ≤ v' - min v' _
  omega
theorem arrW_mono (hl : lossOk r = true) (hv : 0 ≤ v) (h : v ≤ v') : arrW r v ≤ arrW r v' := by
  obtain ⟨h1, h2⟩ := lossOk_iff.1 hl
  obtain ⟨h3, h4, _⟩ := sharesQ_iff.1 h2
  obtain ⟨q1, q2, q3⟩ := shareQ_iff.1 h4
  obtain ⟨d1, -⟩ := qValid_iff.1 q1
  have f := ceil_mono (v := v) (v' := v') (show 0 < r.s1.d by omega) q3 h
  have s := share_le (v := v') h4 (by omega)
  unfold arrW
  rw [lost_eq hl hv, lost_eq hl (by omega)]
  show v - (if v = 0 then 0 else _) ≤ v' - (if v' = 0 then 0 else _)
  by_cases e : v = 0
  · rw [if_pos e]
    by_cases e' : v' = 0
    · rw [if_pos e']; omega
    · rw [if_neg e']; omega
  · rw [if_neg e, if_neg (by omega)]; omega
theorem arr_le (hl : lossOk r = true) (hv : 0 ≤ v ∧ v ≤ 1073741824) : 0 ≤ arrW r v ∧ arrW r v ≤ arrB r v ∧ arrB r v ≤ v := by
  have h := lost_le hl hv
  obtain ⟨h1, h2⟩ := lossOk_iff.1 hl
  obtain ⟨h3, h4, h5⟩ := sharesQ_iff.1 h2
  have : (lostR r v).lo ≤ (lostR r v).hi := by
    rw [lost_eq hl hv.1]
    show min v _ ≤ if v = 0 then 0 else min v _
    by_cases e : v = 0
    · rw [if_pos e]; omega
    · rw [if_neg e]
      obtain ⟨q1, q2, q3⟩ := shareQ_iff.1 h3
      obtain ⟨q1', q2', q3'⟩ := shareQ_iff.1 h4
      obtain ⟨d1, -⟩ := qValid_iff.1 q1
      obtain ⟨d1', -⟩ := qValid_iff.1 q1'
      have k : v * r.s0.n / r.s0.d ≤ upI (v * r.s1.n) r.s1.d := by
        have a1 : v * r.s0.n / r.s0.d * r.s0.d ≤ v * r.s0.n := Int.ediv_mul_le _ (by omega)
        have a2 : v * r.s1.n ≤ upI (v * r.s1.n) r.s1.d * r.s1.d := by
          have : v * r.s1.n + r.s1.d - 1 < ((v * r.s1.n + r.s1.d - 1) / r.s1.d + 1) * r.s1.d := Int.lt_ediv_add_one_mul_self _ (by omega)
          unfold upI
          rw [Int.add_mul] at this
          omega
        generalize v * r.s0.n / r.s0.d = x at a1
        generalize upI (v * r.s1.n) r.s1.d = y at a2
        have b1 : x * r.s0.d * r.s1.d ≤ v * r.s0.n * r.s1.d := Int.mul_le_mul_of_nonneg_right a1 (by omega)
        have b2 : v * r.s1.n * r.s0.d ≤ y * r.s1.d * r.s0.d := Int.mul_le_mul_of_nonneg_right a2 (by omega)
        have b3 : v * (r.s0.n * r.s1.d) ≤ v * (r.s1.n * r.s0.d) := Int.mul_le_mul_of_nonneg_left h5 hv.1
        have b4 : x * (r.s0.d * r.s1.d) ≤ y * (r.s0.d * r.s1.d) := by
          rw [← Int.mul_assoc, ← Int.mul_assoc] at b3 ⊢
          rw [Int.mul_right_comm y r.s0.d r.s1.d]
          omega
        exact Int.le_of_mul_le_mul_right b4 (Int.mul_pos (by omega) (by omega))
      omega
  unfold arrW arrB
  omega
/-- The least parcel of which w litres arrive at best (at worst), one more than the greatest one if there is none. -/
def lvB (r : Reach) (w : Int) : Int := bs (fun v => decide (w ≤ arrB r v)) 31 0 1073741825
def lvW (r : Reach) (w : Int) : Int := bs (fun v => decide (w ≤ arrW r v)) 31 0 1073741825
theorem lvB_first (hl : lossOk r = true) : First (fun v => decide (w ≤ arrB r v)) 0 1073741825 (lvB r w) :=
  bs_first (fun v v' h1 h2 _ h => by rw [decide_eq_true_eq] at h ⊢; have := arrB_mono hl h1 h2; omega) 31 (Half.start (by omega)) (by decide)
theorem lvW_first (hl : lossOk r = true) : First (fun v => decide (w ≤ arrW r v)) 0 1073741825 (lvW r w) :=
  bs_first (fun v v' h1 h2 _ h => by rw [decide_eq_true_eq] at h ⊢; have := arrW_mono hl h1 h2; omega) 31 (Half.start (by omega)) (by decide)
end
def reachV (r : Reach) (w : Int) : Int × Bool := if lErr r w ≠ 0 then (0, false) else if lvB r w > 1073741824 then (0, false) else (lvB r w, true)
def mostV (r : Reach) (w : Int) : Int := if lErr r w ≠ 0 then 0 else lvW r (w + 1) - 1
end Go.Proofs.Ytcpdhclnmjfldaa

/- Layer 48: the data, and what is computed, plainly. -/
namespace Go.Proofs.Ytcpdhclnmjfldaa
open Go Go.RowKit

abbrev Rg.c (x : Rg) : List Value := [iv x.lo, iv x.hi]
def tRg : Ty Rg := tFl 2 Rg.c fun _ => rfl
structure Wv where
  hour : Int
  heads : List Rg
  outlets : List Rg
  tails : List Rg
structure Su where
  kind : Int
  index : Int
  most : Int
abbrev Su.c (x : Su) : List Value := [iv x.kind, iv x.index, iv x.most]
def tSu : Ty Su := tFl 3 Su.c fun _ => rfl
structure Ev where
  waves : List Wv
  suspects : List Su
structure Tru where
  heads : List Int
  outlets : List Int
  tails : List Int
  arrived : List Int
  taken : List Int
def tWv : Ty Wv := tMap (tPair tInt (tPair (tSl tRg) (tPair (tSl tRg) (tSl tRg)))) fun w => (w.hour, w.heads, w.outlets, w.tails)
def tEv : Ty Ev := tMap (tPair (tSl tWv) (tSl tSu)) fun x => (x.waves, x.suspects)
abbrev tIs : Ty (List Int) := tSl tInt
def tTru : Ty Tru := tMap (tPair tIs (tPair tIs (tPair tIs (tPair tIs tIs)))) fun t => (t.heads, t.outlets, t.tails, t.arrived, t.taken)

/-! ### what is right -/
def rgsB (many : Nat) (l : List Rg) : Bool := decide (l.length = many) && l.all fun x => rgOk x 1073741824
def waveB (d : Dist) (last : Int) (w : Wv) : Bool := decide (last < w.hour) && (decide (w.hour < d.hours) && (rgsB d.reaches.length w.heads && (rgsB d.farms.length w.outlets && rgsB d.reaches.length w.tails)))
def wavesB (d : Dist) : Int → List Wv → Bool
  | _, [] => true
  | last, w :: r => waveB d last w && wavesB d w.hour r
def manyN (d : Dist) (kind : Int) : Int := if kind = 1 ∨ kind = 3 ∨ kind = 4 then d.reaches.length else if kind = 2 then d.farms.length else 0
def suB (d : Dist) (b : Int × Int) (s : Su) : Bool := decide (0 ≤ s.index) && (decide (s.index < manyN d s.kind) && (inI s.most 1 1073741824 && (decide (b.1 < s.kind) || (decide (b.1 = s.kind) && decide (b.2 < s.index)))))
def susB (d : Dist) : Int × Int → List Su → Bool
  | _, [] => true
  | b, s :: r => suB d b s && susB d (s.kind, s.index) r
def evErr (d : Dist) (x : Ev) : Int := if dErr d ≠ 0 then dErr d else if x.waves.length > 24 ∨ x.suspects.length > 12 then 2 else if wavesB d (-1) x.waves && susB d (0, -1) x.suspects then 0 else 480
def setB (n : Nat) : Int → List Int → Bool
  | _, [] => true
  | last, i :: r => decide (last < i) && (decide (i < n) && setB n i r)
def askErr (d : Dist) (x : Ev) (set : List Int) : Int := if evErr d x ≠ 0 then evErr d x else if setB x.suspects.length (-1) set then 0 else 480

/-! ### who is to blame -/
def s0 : Su := ⟨0, 0, 0⟩
def suAt (x : Ev) (i : Int) : Su := x.suspects.getD i.toNat s0
def blF (x : Ev) (set : List Int) (key : Int × Int) : Option Int := set.findSome? fun i => if ((suAt x i).kind, (suAt x i).index) = key then some (suAt x i).most else none
def meterV (bl : Int × Int → Option Int) (kind index : Int) (read : Rg) : Rg := match bl (kind, index) with
  | some n => ⟨0, max n read.hi⟩
  | none => read

def rE0 : Reach := ⟨ByteArray.empty, 0, 0, 0, 0, 0, ⟨0, 0⟩, ⟨0, 0⟩, ⟨0, 0⟩⟩
def fE0 : Farm := ⟨ByteArray.empty, 0, 0, 0⟩
def rcE (d : Dist) (k : Nat) : Reach := d.reaches.getD k rE0
def fmE (d : Dist) (k : Nat) : Farm := d.farms.getD k fE0
def suE (x : Ev) (k : Nat) : Su := x.suspects.getD k s0
/-! ### what may leave the end of a reach -/
inductive Dst where
  | tail (r : Nat)
  | head (k : Nat)
  | outlet (f : Nat)
  | taken (i : Nat)
deriving DecidableEq
def g0 : Rg := ⟨0, 0⟩
def tailP (bl : Int × Int → Option Int) (w : Wv) (r : Nat) : List (Rg × Dst) := [(meterV bl 3 r (w.tails.getD r g0), .tail r)]
def headP (d : Dist) (f : Nat → Rg) (r n : Nat) : List (Rg × Dst) := ((List.range n).filter fun k : Nat => decide ((rcE d k).up = (r : Int))).map fun k : Nat => (f k, .head k)
def outP (d : Dist) (bl : Int × Int → Option Int) (w : Wv) (r n : Nat) : List (Rg × Dst) := ((List.range n).filter fun k : Nat => decide ((fmE d k).reach = (r : Int))).map fun k : Nat => (meterV bl 2 k (w.outlets.getD k g0), .outlet k)
def pumpP (x : Ev) (bl : Int × Int → Option Int) (r n : Nat) : List (Rg × Dst) := ((List.range n).filter fun i : Nat => decide ((suE x i).kind = 4) && decide ((suE x i).index = (r : Int))).map fun i : Nat => (meterV bl 4 r g0, .taken i)
def partsL (d : Dist) (x : Ev) (bl : Int × Int → Option Int) (w : Wv) (f : Nat → Rg) (r : Nat) : List (Rg × Dst) :=
  tailP bl w r ++ (headP d f r d.reaches.length ++ (outP d bl w r d.farms.length ++ pumpP x bl r x.suspects.length))
def loS (l : List (Rg × Dst)) : Int := (l.map fun p => p.1.lo).sum
def hiS (l : List (Rg × Dst)) : Int := (l.map fun p => p.1.hi).sum

/-! ### the heads that are possible -/
def headV (d : Dist) (x : Ev) (bl : Int × Int → Option Int) (w : Wv) (f : Nat → Rg) (r : Nat) (y : Reach) : Rg :=
  ⟨max (reachV y (loS (partsL d x bl w f r))).1 (meterV bl 1 r (w.heads.getD r g0)).lo, min (mostV y (min 1073741824 (hiS (partsL d x bl w f r)))) (meterV bl 1 r (w.heads.getD r g0)).hi⟩
def setF {α : Type} (f : Nat → α) (r : Nat) (v : α) : Nat → α := fun k => if k = r then v else f k
/-- From the reach n - 1 up to the reach 0. -/
def followV (d : Dist) (x : Ev) (bl : Int × Int → Option Int) (w : Wv) : Nat → (Nat → Rg) → Option (Nat → Rg)
  | 0, f => some f
  | n + 1, f =>
    if loS (partsL d x bl w f n) > 1073741824 then none
    else if (reachV (rcE d n) (loS (partsL d x bl w f n))).2 = false ∨ (headV d x bl w f n (rcE d n)).lo > (headV d x bl w f n (rcE d n)).hi then none
    else followV d x bl w n (setF f n (headV d x bl w f n (rcE d n)))
def explB (d : Dist) (x : Ev) (set : List Int) : Bool := x.waves.all fun w => (followV d x (blF x set) w d.reaches.length fun _ => g0).isSome
end Go.Proofs.Ytcpdhclnmjfldaa

/- Layer 48, plainly: whom a Truth fits. A Truth that fits shows that the heads are possible. -/
namespace Go.Proofs.Ytcpdhclnmjfldaa
open Go Go.RowKit

/-! ### sums of parts -/
def owner (d : Dist) (x : Ev) : Dst → Int
  | .tail r => r
  | .head k => (rcE d k).up
  | .outlet k => (fmE d k).reach
  | .taken i => (suE x i).index
def sumT (T : Dst → Int) (l : List (Rg × Dst)) : Int := (l.map fun p => T p.2).sum
theorem sum_le_map {α : Type} {f g : α → Int} : ∀ {l : List α}, (∀ a ∈ l, f a ≤ g a) → (l.map f).sum ≤ (l.map g).sum
  | [], _ => Int.le_refl _
  | a :: l, h => by
    simp only [List.map_cons, List.sum_cons]
    have h1 := h a List.mem_cons_self
    have h2 := sum_le_map (l := l) (f := f) (g := g) fun b hb => h b (List.mem_cons_of_mem _ hb)
    omega
/-- A Truth, as numbers by place, fits a wave. -/
structure FitsT (d : Dist) (x : Ev) (bl : Int × Int → Option Int) (w : Wv) (T : Dst → Int) (A : Nat → Int) : Prop where
  heads : ∀ r, r < d.reaches.length → (meterV bl 1 r (w.heads.getD r g0)).lo ≤ T (.head r) ∧ T (.head r) ≤ (meterV bl 1 r (w.heads.getD r g0)).hi
  outlets : ∀ k, k < d.farms.length → (meterV bl 2 k (w.outlets.getD k g0)).lo ≤ T (.outlet k) ∧ T (.outlet k) ≤ (meterV bl 2 k (w.outlets.getD k g0)).hi
  tails : ∀ r, r < d.reaches.length → (meterV bl 3 r (w.tails.getD r g0)).lo ≤ T (.tail r) ∧ T (.tail r) ≤ (meterV bl 3 r (w.tails.getD r g0)).hi
  taken : ∀ i, i < x.suspects.length → 0 ≤ T (.taken i) ∧ T (.taken i) ≤ if (suE x i).kind = 4 then (bl ((suE x i).kind, (suE x i).index)).getD 0 else 0
  arr : ∀ r, r < d.reaches.length → A r = sumT T (partsL d x bl w (fun _ => g0) r) ∧ arrW (rcE d r) (T (.head r)) ≤ A r ∧ A r ≤ arrB (rcE d r) (T (.head r))

/-- What is right of a district, a wave and a set, for all that follows. -/
structure WavOk (d : Dist) (x : Ev) (bl : Int × Int → Option Int) (w : Wv) : Prop where
  loss : ∀ r, r < d.reaches.length → lossOk (rcE d r) = true
  up : ∀ k, k < d.reaches.length → (rcE d k).up < k
  up0 : ∀ k, 0 < k → k < d.reaches.length → 0 ≤ (rcE d k).up
  farm : ∀ k, k < d.farms.length → 0 ≤ (fmE d k).reach ∧ (fmE d k).reach < d.reaches.length
  heads : ∀ r, r < d.reaches.length → rgOk (w.heads.getD r g0) 1073741824 = true
  outlets : ∀ k, k < d.farms.length → rgOk (w.outlets.getD k g0) 1073741824 = true
  tails : ∀ r, r < d.reaches.length → rgOk (w.tails.getD r g0) 1073741824 = true
  sus : ∀ i, i < x.suspects.length → (suE x i).kind = 4 → 0 ≤ (suE x i).index ∧ (suE x i).index < d.reaches.length
  bl : ∀ key n, bl key = some n → 1 ≤ n ∧ n ≤ 1073741824

section
variable {d : Dist} {x : Ev} {bl : Int × Int → Option Int} {w : Wv} {f g : Nat → Rg} {r k n : Nat} {T : Dst → Int} {A : Nat → Int}
theorem meter_ok (hb : ∀ key n, bl key = some n → 1 ≤ n ∧ n ≤ 1073741824) {kd ix : Int} {y : Rg} (h : rgOk y 1073741824 = true) : rgOk (meterV bl kd ix y) 1073741824 = true := by
  rw [rgOk_iff] at h ⊢
  unfold meterV
  split
  · rename_i n hn
    have := hb _ n hn
    show 0 ≤ (0 : Int) ∧ 0 ≤ max n y.hi ∧ max n y.hi ≤ 1073741824
    omega
  · exact h
theorem g0_ok : rgOk g0 1073741824 = true := by decide
/-- Which parts there are does not hang on the heads; their ranges hang on those of the children alone. -/
theorem mem_parts {p : Rg × Dst} : p ∈ partsL d x bl w f r ↔ p = (meterV bl 3 r (w.tails.getD r g0), .tail r) ∨ (∃ k, k < d.reaches.length ∧ (rcE d k).up = (r : Int) ∧ p = (f k, .head k)) ∨
    (∃ k, k < d.farms.length ∧ (fmE d k).reach = (r : Int) ∧ p = (meterV bl 2 k (w.outlets.getD k g0), .outlet k)) ∨ ∃ i, i < x.suspects.length ∧ (suE x i).kind = 4 ∧ (suE x i).index = (r : Int) ∧ p = (meterV bl 4 r g0, .taken i) := by
  unfold partsL tailP headP outP pumpP
  simp only [List.mem_append, List.mem_cons, List.not_mem_nil, or_false, List.mem_map, List.mem_filter, List.mem_range, Bool.and_eq_true, decide_eq_true_eq]
  constructor
  · rintro (h | ⟨k, ⟨h1, h2⟩, rfl⟩ | ⟨k, ⟨h1, h2⟩, rfl⟩ | ⟨i, ⟨h1, h2, h3⟩, rfl⟩)
    · exact .inl h
    · exact .inr (.inl ⟨k, h1, h2, rfl⟩)
    · exact .inr (.inr (.inl ⟨k, h1, h2, rfl⟩))
    · exact .inr (.inr (.inr ⟨i, h1, h2, h3, rfl⟩))
  · rintro (h | ⟨k, h1, h2, rfl⟩ | ⟨k, h1, h2, rfl⟩ | ⟨i, h1, h2, h3, rfl⟩)
    · exact .inl h
    · exact .inr (.inl ⟨k, ⟨h1, h2⟩, rfl⟩)
    · exact .inr (.inr (.inl ⟨k, ⟨h1, h2⟩, rfl⟩))
    · exact .inr (.inr (.inr ⟨i, ⟨h1, h2, h3⟩, rfl⟩))
theorem parts_congr (h : ∀ k, k < d.reaches.length → (rcE d k).up = (r : Int) → f k = g k) : partsL d x bl w f r = partsL d x bl w g r := by
  have e : headP d f r d.reaches.length = headP d g r d.reaches.length := by
    unfold headP
    refine List.map_congr_left fun k hk => ?_
    rw [List.mem_filter, List.mem_range, decide_eq_true_eq] at hk
    rw [h k hk.1 hk.2]
  unfold partsL; rw [e]
theorem sumT_parts : sumT T (partsL d x bl w f r) = sumT T (partsL d x bl w g r) := by
  unfold sumT partsL headP
  simp only [List.map_append, List.map_map]
  rfl
theorem lo_pos (hw : WavOk d x bl w) (hf : ∀ k, k < d.reaches.length → (rcE d k).up = (r : Int) → 0 ≤ (f k).lo) (hr : r < d.reaches.length) : ∀ p ∈ partsL d x bl w f r, 0 ≤ p.1.lo := by
  intro p hp
  rcases mem_parts.1 hp with rfl | ⟨k, h1, h2, rfl⟩ | ⟨k, h1, h2, rfl⟩ | ⟨i, h1, h2, h3, rfl⟩
  · exact (rgOk_iff.1 (meter_ok hw.bl (hw.tails r hr))).1
  · exact hf k h1 h2
  · exact (rgOk_iff.1 (meter_ok hw.bl (hw.outlets k h1))).1
  · exact (rgOk_iff.1 (meter_ok hw.bl g0_ok)).1
theorem sum_pos {α : Type} {h : α → Int} : ∀ {l : List α}, (∀ a ∈ l, 0 ≤ h a) → 0 ≤ (l.map h).sum
  | [], _ => Int.le_refl _
  | a :: l, hl => by
    simp only [List.map_cons, List.sum_cons]
    have h1 := hl a List.mem_cons_self
    have h2 := sum_pos (l := l) (h := h) fun b hb => hl b (List.mem_cons_of_mem _ hb)
    omega
/-- Each part of a Truth that fits is in its range. -/
theorem fits_part (hf : FitsT d x bl w T A) (hg : ∀ k, k < d.reaches.length → (rcE d k).up = (r : Int) → (f k).lo ≤ T (.head k) ∧ T (.head k) ≤ (f k).hi) (hr : r < d.reaches.length) : ∀ p ∈ partsL d x bl w f r, p.1.lo ≤ T p.2 ∧ T p.2 ≤ p.1.hi := by
  intro p hp
  rcases mem_parts.1 hp with rfl | ⟨k, h1, h2, rfl⟩ | ⟨k, h1, h2, rfl⟩ | ⟨i, h1, h2, h3, rfl⟩
  · exact hf.tails r hr
  · exact hg k h1 h2
  · exact hf.outlets k h1
  · have h := hf.taken i h1
    rw [if_pos h2, h2, h3] at h
    show (meterV bl 4 r g0).lo ≤ _ ∧ _ ≤ (meterV bl 4 r g0).hi
    unfold meterV
    cases hb : bl (4, (r : Int)) with
    | none =>
      rw [hb] at h
      show (0 : Int) ≤ _ ∧ _ ≤ (0 : Int)
      simpa using h
    | some n =>
      rw [hb] at h
      simp only [Option.getD_some] at h
      show (0 : Int) ≤ T (.taken i) ∧ T (.taken i) ≤ max n 0
      omega
theorem head_ok (hw : WavOk d x bl w) (hr : r < d.reaches.length) {lo hi h a : Int} (h0 : 0 ≤ lo) (hla : lo ≤ a) (hah : a ≤ hi) (hh : 0 ≤ h ∧ h ≤ 1073741824) (h1 : arrW (rcE d r) h ≤ a) (h2 : a ≤ arrB (rcE d r) h) :
    lo ≤ 1073741824 ∧ (reachV (rcE d r) lo).2 = true ∧ (reachV (rcE d r) lo).1 ≤ h ∧ h ≤ mostV (rcE d r) (min 1073741824 hi) := by
  have hl := hw.loss r hr
  have ha := arr_le hl hh
  have e1 : lErr (rcE d r) lo = 0 := lErr_ok.2 ⟨hl, by omega, by omega⟩
  have e2 : lErr (rcE d r) (min 1073741824 hi) = 0 := lErr_ok.2 ⟨hl, by omega, by omega⟩
  have f1 := lvB_first (w := lo) hl
  have f2 := lvW_first (w := min 1073741824 hi + 1) hl
  have l1 : lvB (rcE d r) lo ≤ h := by
    rcases Int.lt_or_le h (lvB (rcE d r) lo) with hc | hc
    · have := f1.no h hh.1 hc
      simp only [decide_eq_false_iff_not] at this
      omega
    · exact hc
  refine ⟨by omega, ?_, ?_, ?_⟩
  · unfold reachV; rw [if_neg (by simp [e1]), if_neg (by omega)]
  · unfold reachV; rw [if_neg (by simp [e1]), if_neg (by omega)]; exact l1
  · unfold mostV
    rw [if_neg (by simp [e2])]
    rcases Int.lt_or_le h (lvW (rcE d r) (min 1073741824 hi + 1)) with hc | hc
    · omega
    · have hy := f2.yes (by omega)
      rw [decide_eq_true_eq] at hy
      have := arrW_mono hl f2.le hc
      omega
theorem fits_follow (hw : WavOk d x bl w) (hf : FitsT d x bl w T A) : ∀ (n : Nat) (f : Nat → Rg), n ≤ d.reaches.length → (∀ k, n ≤ k → k < d.reaches.length → 0 ≤ (f k).lo ∧ (f k).lo ≤ T (.head k) ∧ T (.head k) ≤ (f k).hi) → (followV d x bl w n f).isSome = true
  | 0, f, _, _ => rfl
  | n + 1, f, hn, hg => by
    have hr : n < d.reaches.length := by omega
    have kid : ∀ k, k < d.reaches.length → (rcE d k).up = (n : Int) → 0 ≤ (f k).lo ∧ (f k).lo ≤ T (.head k) ∧ T (.head k) ≤ (f k).hi := fun k h1 h2 => hg k (by have := hw.up k h1; omega) h1
    have hp := fits_part (f := f) hf (fun k h1 h2 => (kid k h1 h2).2) hr
    have ha := hf.arr n hr
    rw [sumT_parts (g := f)] at ha
    have s1 : loS (partsL d x bl w f n) ≤ sumT T (partsL d x bl w f n) := sum_le_map fun p hp' => (hp p hp').1
    have s2 : sumT T (partsL d x bl w f n) ≤ hiS (partsL d x bl w f n) := sum_le_map fun p hp' => (hp p hp').2
    have s0 : 0 ≤ loS (partsL d x bl w f n) := sum_pos (lo_pos hw (fun k h1 h2 => (kid k h1 h2).1) hr)
    have ho := hf.heads n hr
    have hm := rgOk_iff.1 (meter_ok hw.bl (kd := 1) (ix := n) (hw.heads n hr))
    obtain ⟨q1, q2, q3, q4⟩ := head_ok hw hr (lo := loS (partsL d x bl w f n)) (hi := hiS (partsL d x bl w f n)) (a := A n) (h := T (.head n)) s0 (by omega) (by omega) (by omega) ha.2.1 ha.2.2
    have hlo : (headV d x bl w f n (rcE d n)).lo ≤ T (.head n) := by show max _ _ ≤ _; omega
    have hhi : T (.head n) ≤ (headV d x bl w f n (rcE d n)).hi := by show _ ≤ min _ _; omega
    have hl0 : 0 ≤ (headV d x bl w f n (rcE d n)).lo := by show 0 ≤ max _ _; omega
    unfold followV
    rw [if_neg (by omega), if_neg (by rw [q2]; simp; omega)]
    refine fits_follow hw hf n _ (by omega) fun k h1 h2 => ?_
    unfold setF
    by_cases e : k = n
    · subst e; rw [if_pos rfl]; exact ⟨hl0, hlo, hhi⟩
    · rw [if_neg e]; exact hg k (by omega) h2
end
end Go.Proofs.Ytcpdhclnmjfldaa

/- Layer 48, plainly: the Truth that is filled fits. -/
namespace Go.Proofs.Ytcpdhclnmjfldaa
open Go Go.RowKit

def setD (T : Dst → Int) (a : Dst) (v : Int) : Dst → Int := fun b => if b = a then v else T b
def distL : Int → List (Rg × Dst) → List (Dst × Int)
  | _, [] => []
  | left, p :: l => (p.2, p.1.lo + min left (p.1.hi - p.1.lo)) :: distL (left - min left (p.1.hi - p.1.lo)) l
def putL (T : Dst → Int) : List (Dst × Int) → Dst → Int
  | [] => T
  | p :: l => putL (setD T p.1 p.2) l
def T0 (f : Nat → Rg) : Dst → Int := fun a => if a = .head 0 then (f 0).lo else 0
def arrV (d : Dist) (x : Ev) (bl : Int × Int → Option Int) (w : Wv) (f : Nat → Rg) (r : Nat) (T : Dst → Int) : Int := max (loS (partsL d x bl w f r)) (arrW (rcE d r) (T (.head r)))
def fillT (d : Dist) (x : Ev) (bl : Int × Int → Option Int) (w : Wv) (f : Nat → Rg) : Nat → Dst → Int
  | 0 => T0 f
  | r + 1 => putL (fillT d x bl w f r) (distL (arrV d x bl w f r (fillT d x bl w f r) - loS (partsL d x bl w f r)) (partsL d x bl w f r))
def fillA (d : Dist) (x : Ev) (bl : Int × Int → Option Int) (w : Wv) (f : Nat → Rg) (r : Nat) : Int := arrV d x bl w f r (fillT d x bl w f r)

theorem dist_fst : ∀ {l : List (Rg × Dst)} {left : Int}, (distL left l).map (·.1) = l.map (·.2)
  | [], _ => rfl
  | p :: l, left => by unfold distL; rw [List.map_cons, List.map_cons, dist_fst]
theorem dist_ok : ∀ {l : List (Rg × Dst)} {left : Int}, (∀ p ∈ l, p.1.lo ≤ p.1.hi) → 0 ≤ left → left ≤ hiS l - loS l → ((distL left l).map (·.2)).sum = loS l + left ∧ ∀ (j : Nat) (p : Rg × Dst), l[j]? = some p → ∃ v, (distL left l)[j]? = some (p.2, v) ∧ p.1.lo ≤ v ∧ v ≤ p.1.hi
  | [], left, _, h0, h1 => by
    have : left = 0 := by simp [hiS, loS] at h1; omega
    subst this
    exact ⟨rfl, fun j p h => by simp at h⟩
  | p :: l, left, hl, h0, h1 => by
    have hp := hl p List.mem_cons_self
    have e1 : hiS (p :: l) = p.1.hi + hiS l := rfl
    have e2 : loS (p :: l) = p.1.lo + loS l := rfl
    rw [e1, e2] at h1
    obtain ⟨k1, k2⟩ := dist_ok (l := l) (left := left - min left (p.1.hi - p.1.lo)) (fun q hq => hl q (List.mem_cons_of_mem _ hq)) (by omega) (by
      have : loS l ≤ hiS l := sum_le_map fun q hq => hl q (List.mem_cons_of_mem _ hq)
      omega)
    unfold distL
    refine ⟨by rw [List.map_cons, List.sum_cons, k1, e2]; simp only []; omega, fun j q hq => ?_⟩
    cases j with
    | zero =>
      rw [List.getElem?_cons_zero] at hq
      injection hq with hq; subst hq
      exact ⟨_, rfl, by omega, by omega⟩
    | succ j => rw [List.getElem?_cons_succ] at hq ⊢; exact k2 j q hq
theorem put_not : ∀ {l : List (Dst × Int)} {T : Dst → Int} {b : Dst}, b ∉ l.map (·.1) → putL T l b = T b
  | [], _, _, _ => rfl
  | p :: l, T, b, h => by
    rw [List.map_cons, List.mem_cons, not_or] at h
    unfold putL
    rw [put_not h.2]
    unfold setD
    rw [if_neg h.1]
theorem put_mem : ∀ {l : List (Dst × Int)} {T : Dst → Int} {a : Dst} {v : Int}, (l.map (·.1)).Nodup → (a, v) ∈ l → putL T l a = v
  | p :: l, T, a, v, hn, h => by
    rw [List.map_cons, List.nodup_cons] at hn
    unfold putL
    rcases List.mem_cons.1 h with h | h
    · subst h
      rw [put_not hn.1]
      unfold setD
      rw [if_pos rfl]
    · exact put_mem hn.2 h
section
variable {d : Dist} {x : Ev} {bl : Int × Int → Option Int} {w : Wv} {f g : Nat → Rg} {r k n : Nat} {T : Dst → Int} {A : Nat → Int}
theorem parts_nodup : ((partsL d x bl w f r).map (·.2)).Nodup := by
  have h1 : ∀ (q : Nat → Bool) (m : Nat) (c : Nat → Dst), (∀ a b, c a = c b → a = b) → (((List.range m).filter q).map c).Nodup := fun q m c hc => by
    unfold List.Nodup
    rw [List.pairwise_map]
    exact ((List.nodup_range (n := m)).filter q).imp fun h e => h (hc _ _ e)
  unfold partsL tailP headP outP pumpP
  simp only [List.map_append, List.map_map, List.map_cons, List.map_nil]
  rw [List.nodup_append, List.nodup_append, List.nodup_append]
  refine ⟨by simp, ⟨h1 _ _ _ fun a b e => by injection e, ⟨h1 _ _ _ fun a b e => by injection e, h1 _ _ _ fun a b e => by injection e, ?_⟩, ?_⟩, ?_⟩
  · intro a ha b hb e
    obtain ⟨_, _, rfl⟩ := List.mem_map.1 ha
    obtain ⟨_, _, rfl⟩ := List.mem_map.1 hb
    cases e
  · intro a ha b hb e
    obtain ⟨_, _, rfl⟩ := List.mem_map.1 ha
    rcases List.mem_append.1 hb with hb | hb
    · obtain ⟨_, _, rfl⟩ := List.mem_map.1 hb; cases e
    · obtain ⟨_, _, rfl⟩ := List.mem_map.1 hb; cases e
  · intro a ha b hb e
    rw [List.mem_singleton] at ha
    subst ha
    rcases List.mem_append.1 hb with hb | hb
    · obtain ⟨_, _, rfl⟩ := List.mem_map.1 hb; cases e
    rcases List.mem_append.1 hb with hb | hb
    · obtain ⟨_, _, rfl⟩ := List.mem_map.1 hb; cases e
    · obtain ⟨_, _, rfl⟩ := List.mem_map.1 hb; cases e
theorem parts_own : ∀ p ∈ partsL d x bl w f r, owner d x p.2 = (r : Int) := by
  intro p hp
  rcases mem_parts.1 hp with rfl | ⟨k, h1, h2, rfl⟩ | ⟨k, h1, h2, rfl⟩ | ⟨i, h1, h2, h3, rfl⟩
  · rfl
  · exact h2
  · exact h2
  · exact h3
/-- What holds of the heads that are found. -/
structure FOK (d : Dist) (x : Ev) (bl : Int × Int → Option Int) (w : Wv) (f : Nat → Rg) (r : Nat) : Prop where
  lo : loS (partsL d x bl w f r) ≤ 1073741824
  can : (reachV (rcE d r) (loS (partsL d x bl w f r))).2 = true
  eq : f r = headV d x bl w f r (rcE d r)
  le : (f r).lo ≤ (f r).hi
theorem headV_congr (h : ∀ k, k < d.reaches.length → (rcE d k).up = (r : Int) → f k = g k) : headV d x bl w f r (rcE d r) = headV d x bl w g r (rcE d r) := by
  unfold headV; rw [parts_congr h]
theorem follow_ok (hw : WavOk d x bl w) : ∀ (n : Nat) (f0 f : Nat → Rg), n ≤ d.reaches.length → followV d x bl w n f0 = some f → (∀ k, n ≤ k → f k = f0 k) ∧ ∀ r, r < n → FOK d x bl w f r
  | 0, f0, f, _, h => by
    injection h with h; subst h
    exact ⟨fun _ _ => rfl, fun r hr => by omega⟩
  | n + 1, f0, f, hn, h => by
    unfold followV at h
    by_cases h1 : loS (partsL d x bl w f0 n) > 1073741824
    · rw [if_pos h1] at h; cases h
    rw [if_neg h1] at h
    by_cases h2 : (reachV (rcE d n) (loS (partsL d x bl w f0 n))).2 = false ∨ (headV d x bl w f0 n (rcE d n)).lo > (headV d x bl w f0 n (rcE d n)).hi
    · rw [if_pos h2] at h; cases h
    rw [if_neg h2] at h
    obtain ⟨k1, k2⟩ := follow_ok hw n _ f (by omega) h
    have hk : ∀ k, n + 1 ≤ k → f k = f0 k := fun k hk => by
      rw [k1 k (by omega)]; unfold setF; rw [if_neg (by omega)]
    have hkid : ∀ k, k < d.reaches.length → (rcE d k).up = (n : Int) → f k = f0 k := fun k h1 h2 => hk k (by have := hw.up k h1; omega)
    refine ⟨hk, fun r hr => ?_⟩
    by_cases e : r = n
    · subst e
      have hfn : f r = headV d x bl w f0 r (rcE d r) := by rw [k1 r (by omega)]; unfold setF; rw [if_pos rfl]
      refine ⟨?_, ?_, ?_, ?_⟩
      · rw [parts_congr hkid]; omega
      · rw [parts_congr hkid]
        cases hc : (reachV (rcE d r) (loS (partsL d x bl w f0 r))).2 with
        | true => rfl
        | false => exact absurd (.inl hc) h2
      · rw [headV_congr hkid]; exact hfn
      · rw [hfn]; omega
    · exact k2 r (by omega)
theorem fill_fits (hw : WavOk d x bl w) (hR : 0 < d.reaches.length) (hf : ∀ r, r < d.reaches.length → FOK d x bl w f r) : ∀ n, n ≤ d.reaches.length →
    (∀ a, (∀ r, r < n → ∀ p ∈ partsL d x bl w f r, p.2 ≠ a) → fillT d x bl w f n a = T0 f a) ∧
    ∀ r, r < n → (∀ p ∈ partsL d x bl w f r, p.1.lo ≤ fillT d x bl w f n p.2 ∧ fillT d x bl w f n p.2 ≤ p.1.hi) ∧ sumT (fillT d x bl w f n) (partsL d x bl w f r) = fillA d x bl w f r ∧ fillT d x bl w f n (.head r) = fillT d x bl w f r (.head r) ∧
      ((f r).lo ≤ fillT d x bl w f r (.head r) ∧ fillT d x bl w f r (.head r) ≤ (f r).hi)
  | 0, _ => ⟨fun a _ => rfl, fun r hr => by omega⟩
  | n + 1, hn => by
    obtain ⟨i1, i2⟩ := fill_fits hw hR hf n (by omega)
    have hnR : n < d.reaches.length := by omega
    have kid : ∀ r, r < d.reaches.length → ∀ k, k < d.reaches.length → (rcE d k).up = (r : Int) → 0 ≤ (f k).lo ∧ (f k).lo ≤ (f k).hi := fun r hr k h1 h2 => by
      have h := hf k h1
      refine ⟨?_, h.le⟩
      rw [h.eq]
      have := (rgOk_iff.1 (meter_ok hw.bl (kd := 1) (ix := k) (hw.heads k h1))).1
      show 0 ≤ max _ _
      omega
    have rng : ∀ r, r < d.reaches.length → ∀ p ∈ partsL d x bl w f r, p.1.lo ≤ p.1.hi := by
      intro r hr p hp
      rcases mem_parts.1 hp with rfl | ⟨k, h1, h2, rfl⟩ | ⟨k, h1, h2, rfl⟩ | ⟨i, h1, h2, h3, rfl⟩
      · exact (rgOk_iff.1 (meter_ok hw.bl (hw.tails r hr))).2.1
      · exact (kid r hr k h1 h2).2
      · exact (rgOk_iff.1 (meter_ok hw.bl (hw.outlets k h1))).2.1
      · exact (rgOk_iff.1 (meter_ok hw.bl g0_ok)).2.1
    -- the head of the reach n stands already
    have hhead : (f n).lo ≤ fillT d x bl w f n (.head n) ∧ fillT d x bl w f n (.head n) ≤ (f n).hi := by
      by_cases e : n = 0
      · subst e
        show (f 0).lo ≤ T0 f (.head 0) ∧ T0 f (.head 0) ≤ (f 0).hi
        unfold T0
        rw [if_pos rfl]
        exact ⟨Int.le_refl _, (hf 0 hR).le⟩
      · have h0 := hw.up0 n (by omega) hnR
        have h1 := hw.up n hnR
        obtain ⟨q, hq⟩ : ∃ q : Nat, (rcE d n).up = (q : Int) := ⟨(rcE d n).up.toNat, by omega⟩
        exact (i2 q (by omega)).1 (f n, .head n) (mem_parts.2 (.inr (.inl ⟨n, hnR, hq, rfl⟩)))
    have hfn := hf n hnR
    have own := rgOk_iff.1 (meter_ok hw.bl (kd := 1) (ix := n) (hw.heads n hnR))
    have hlo : (f n).lo = max (reachV (rcE d n) (loS (partsL d x bl w f n))).1 (meterV bl 1 n (w.heads.getD n g0)).lo := by rw [hfn.eq]; rfl
    have hhi : (f n).hi = min (mostV (rcE d n) (min 1073741824 (hiS (partsL d x bl w f n)))) (meterV bl 1 n (w.heads.getD n g0)).hi := by rw [hfn.eq]; rfl
    have s0 : 0 ≤ loS (partsL d x bl w f n) := sum_pos (lo_pos hw (fun k h1 h2 => (kid n hnR k h1 h2).1) hnR)
    have s1 : loS (partsL d x bl w f n) ≤ hiS (partsL d x bl w f n) := sum_le_map (rng n hnR)
    have hle := hfn.lo
    have hl := hw.loss n hnR
    have e2 : lErr (rcE d n) (min 1073741824 (hiS (partsL d x bl w f n))) = 0 := lErr_ok.2 ⟨hl, by omega, by omega⟩
    have hcap : arrW (rcE d n) (fillT d x bl w f n (.head n)) ≤ hiS (partsL d x bl w f n) := by
      have f2 := lvW_first (w := min 1073741824 (hiS (partsL d x bl w f n)) + 1) hl
      have hm : fillT d x bl w f n (.head n) ≤ mostV (rcE d n) (min 1073741824 (hiS (partsL d x bl w f n))) := by omega
      unfold mostV at hm
      rw [if_neg (by simp [e2])] at hm
      have := f2.no (fillT d x bl w f n (.head n)) (by omega) (by omega)
      simp only [decide_eq_false_iff_not] at this
      omega
    obtain ⟨a, ha⟩ : ∃ a, a = fillA d x bl w f n := ⟨_, rfl⟩
    have ha' : a = max (loS (partsL d x bl w f n)) (arrW (rcE d n) (fillT d x bl w f n (.head n))) := ha
    obtain ⟨k1, k2⟩ := dist_ok (l := partsL d x bl w f n) (left := a - loS (partsL d x bl w f n)) (rng n hnR) (by omega) (by omega)
    have hst : fillT d x bl w f (n + 1) = putL (fillT d x bl w f n) (distL (a - loS (partsL d x bl w f n)) (partsL d x bl w f n)) := by rw [ha]; rfl
    have nd : ((distL (a - loS (partsL d x bl w f n)) (partsL d x bl w f n)).map (·.1)).Nodup := by rw [dist_fst]; exact parts_nodup
    have keep : ∀ b, owner d x b ≠ (n : Int) → fillT d x bl w f (n + 1) b = fillT d x bl w f n b := fun b hb => by
      rw [hst, put_not]
      rw [dist_fst]
      intro hm
      obtain ⟨p, hp, rfl⟩ := List.mem_map.1 hm
      exact hb (parts_own p hp)
    have hown : owner d x (.head n) ≠ (n : Int) := by
      have := hw.up n hnR
      show (rcE d n).up ≠ _
      omega
    refine ⟨fun b hb => ?_, fun r hr => ?_⟩
    · rw [hst, put_not, i1 b fun r hr => hb r (by omega)]
      rw [dist_fst]
      intro hm
      obtain ⟨p, hp, rfl⟩ := List.mem_map.1 hm
      exact hb n (by omega) p hp rfl
    · by_cases e : r = n
      · subst e
        refine ⟨fun p hp => ?_, ?_, keep _ hown, hhead⟩
        · obtain ⟨j, hj⟩ := List.getElem?_of_mem hp
          obtain ⟨v, hv, hv2⟩ := k2 j p hj
          rw [hst, put_mem nd (List.mem_of_getElem? hv)]
          exact hv2
        · unfold sumT
          rw [show (fun p : Rg × Dst => fillT d x bl w f (r + 1) p.2) = (fillT d x bl w f (r + 1)) ∘ (·.2) from rfl, ← List.map_map, ← dist_fst (left := a - loS (partsL d x bl w f r)), List.map_map, ← ha]
          have : (distL (a - loS (partsL d x bl w f r)) (partsL d x bl w f r)).map ((fillT d x bl w f (r + 1)) ∘ (·.1)) = (distL (a - loS (partsL d x bl w f r)) (partsL d x bl w f r)).map (·.2) :=
            List.map_congr_left fun q hq => by
              show fillT d x bl w f (r + 1) q.1 = q.2
              rw [hst]; exact put_mem nd hq
          rw [this, k1]; omega
      · have hr' : r < n := by omega
        obtain ⟨j1, j2, j3, j4⟩ := i2 r hr'
        have kp : ∀ p ∈ partsL d x bl w f r, fillT d x bl w f (n + 1) p.2 = fillT d x bl w f n p.2 := fun p hp => keep _ (by rw [parts_own p hp]; omega)
        refine ⟨fun p hp => by rw [kp p hp]; exact j1 p hp, ?_, ?_, j4⟩
        · rw [← j2]
          unfold sumT
          exact congrArg List.sum (List.map_congr_left fun p hp => kp p hp)
        · rw [← j3]
          refine keep _ ?_
          have := hw.up r (by omega)
          show (rcE d r).up ≠ _
          omega
theorem filled (hw : WavOk d x bl w) (hR : 0 < d.reaches.length) (hf : ∀ r, r < d.reaches.length → FOK d x bl w f r) : FitsT d x bl w (fillT d x bl w f d.reaches.length) (fillA d x bl w f) := by
  obtain ⟨i1, i2⟩ := fill_fits hw hR hf d.reaches.length (Nat.le_refl _)
  have fl : ∀ r, r < d.reaches.length → (f r).lo = max (reachV (rcE d r) (loS (partsL d x bl w f r))).1 (meterV bl 1 r (w.heads.getD r g0)).lo ∧ (f r).hi = min (mostV (rcE d r) (min 1073741824 (hiS (partsL d x bl w f r)))) (meterV bl 1 r (w.heads.getD r g0)).hi := fun r hr => by
    have := (hf r hr).eq
    exact ⟨by rw [this]; rfl, by rw [this]; rfl⟩
  refine ⟨fun r hr => ?_, fun k hk => ?_, fun r hr => ?_, fun i hi => ?_, fun r hr => ?_⟩
  · obtain ⟨-, -, h3, h4⟩ := i2 r hr
    have := fl r hr
    rw [h3]; omega
  · have := hw.farm k hk
    obtain ⟨q, hq⟩ : ∃ q : Nat, (fmE d k).reach = (q : Int) := ⟨(fmE d k).reach.toNat, by omega⟩
    exact (i2 q (by omega)).1 _ (mem_parts.2 (.inr (.inr (.inl ⟨k, hk, hq, rfl⟩))))
  · exact (i2 r hr).1 _ (mem_parts.2 (.inl rfl))
  · by_cases hk : (suE x i).kind = 4
    · rw [if_pos hk, hk]
      have hx := hw.sus i hi hk
      obtain ⟨q, hq⟩ : ∃ q : Nat, (suE x i).index = (q : Int) := ⟨(suE x i).index.toNat, by omega⟩
      have h := (i2 q (by omega)).1 (meterV bl 4 q g0, .taken i) (mem_parts.2 (.inr (.inr (.inr ⟨i, hi, hk, hq, rfl⟩))))
      rw [hq]
      unfold meterV at h
      cases hb : bl (4, (q : Int)) with
      | none =>
        rw [hb] at h
        have h1 : (0 : Int) ≤ fillT d x bl w f d.reaches.length (.taken i) := h.1
        have h2 : fillT d x bl w f d.reaches.length (.taken i) ≤ (0 : Int) := h.2
        exact ⟨h1, h2⟩
      | some n =>
        have := hw.bl _ n hb
        rw [hb] at h
        have h1 : (0 : Int) ≤ fillT d x bl w f d.reaches.length (.taken i) := h.1
        have h2 : fillT d x bl w f d.reaches.length (.taken i) ≤ max n 0 := h.2
        exact ⟨h1, by show _ ≤ n; omega⟩
    · rw [if_neg hk, i1 (.taken i) fun r _ p hp e => ?_]
      · unfold T0; rw [if_neg (by simp)]; omega
      · rcases mem_parts.1 hp with rfl | ⟨k, h1, h2, rfl⟩ | ⟨k, h1, h2, rfl⟩ | ⟨j, h1, h2, h3, rfl⟩
        · cases e
        · cases e
        · cases e
        · injection e with e; subst e; exact hk h2
  · obtain ⟨-, h2, h3, h4⟩ := i2 r hr
    have own := rgOk_iff.1 (meter_ok hw.bl (kd := 1) (ix := r) (hw.heads r hr))
    have hl := hw.loss r hr
    have hfr := hf r hr
    have := fl r hr
    have s0 : 0 ≤ loS (partsL d x bl w f r) := sum_pos (lo_pos hw (fun k h1 h2 => by
      rw [(hf k h1).eq]
      have := (rgOk_iff.1 (meter_ok hw.bl (kd := 1) (ix := k) (hw.heads k h1))).1
      show 0 ≤ max _ _
      omega) hr)
    have hle := hfr.lo
    have e1 : lErr (rcE d r) (loS (partsL d x bl w f r)) = 0 := lErr_ok.2 ⟨hl, by omega, by omega⟩
    have hcan := hfr.can
    have hal := arr_le hl (v := fillT d x bl w f r (.head r)) (by omega)
    have hA : fillA d x bl w f r = max (loS (partsL d x bl w f r)) (arrW (rcE d r) (fillT d x bl w f r (.head r))) := rfl
    refine ⟨by rw [sumT_parts (g := f), h2], ?_, ?_⟩
    · rw [h3]; omega
    · rw [h3]
      have f1 := lvB_first (w := loS (partsL d x bl w f r)) hl
      unfold reachV at hcan this
      rw [if_neg (by simp [e1])] at hcan this
      by_cases hc : lvB (rcE d r) (loS (partsL d x bl w f r)) > 1073741824
      · rw [if_pos hc] at hcan; cases hcan
      · rw [if_neg hc] at this
        have hy := f1.yes (by omega)
        rw [decide_eq_true_eq] at hy
        have := arrB_mono hl f1.le (show lvB (rcE d r) (loS (partsL d x bl w f r)) ≤ fillT d x bl w f r (.head r) by omega)
        omega
end
end Go.Proofs.Ytcpdhclnmjfldaa

/- Contracts of sort.Search, losses.least, losses.Reachable, losses.Most. -/
namespace Go.Proofs.Ytcpdhclnmjfldaa
open Go Go.RowKit

section
variable {D : Nat → Prop} {w : World}
/-- sort.Search with a function that answers p, and leaves alone what was there. -/
theorem c_Search {n : Nat} {p : Int → Bool} {fn : FuncId} {cap : Array Value} [he : Enters Try.prog fn] (hn : n ≤ 4611686018427387904) (hm : ∀ v v' : Int, 0 ≤ v → v ≤ v' → v' ≤ n → p v = true → p v' = true)
    (hc : ∀ (v : Int) (w' : World), 0 ≤ v → v < n → Ext w w' → CallZ Try.prog fn ([iv v] ++ cap.toList).toArray w' (fun u w'' => u = .bool (p v) ∧ Ext w' w'')) :
    CallZ Try.prog 79 #[iv (n : Int), .func (.func fn) #[] cap] w (fun v w' => ∃ k : Int, v = iv k ∧ First p 0 n k ∧ Ext w w') := by
  refine fn_rule (args := [iv (n : Int), .func (.func fn) #[] cap]) Try.func79 (by kernel_rfl) ?_
  refine loop2 (fun (lo hi : Int) => [(5, iv lo), (6, iv hi)]) (fun lo hi w' => Half p 0 n lo hi ∧ Ext w w') (fun lo hi _ => (hi - lo).toNat) 0 (n : Int) ⟨rfl, rfl, trivial⟩ ⟨Half.start (by omega), .refl _ _⟩ rfl ?_
  rintro G lo hi w' ⟨h, xw⟩
  have h1 := h.a_lo
  have h2 := h.lo_hi
  have h3 := h.hi_b
  refine cD (fun hlt => ?_) (fun hge => ?_)
  · refine arI (by omega) ?_
    obtain ⟨s, hs⟩ : ∃ s : Nat, lo + hi = (s : Int) := ⟨(lo + hi).toNat, by omega⟩
    refine convU (n := s) (by omega) (by omega) ?_
    refine shrR (by decide) ?_
    refine conv (k := .i64) ?_
    have e : IntKind.i64.wrap (((s : Int)).fdiv (2 ^ (min (1 : Int).toNat IntKind.u64.bits))) = (lo + hi) / 2 := by
      rw [show (2 : Int) ^ (min (1 : Int).toNat IntKind.u64.bits) = 2 by decide, Int.fdiv_eq_ediv_of_nonneg _ (by omega), i64_wrap_id (by omega), hs]
    rw [e]
    obtain ⟨m, hmm⟩ : ∃ m, m = (lo + hi) / 2 := ⟨_, rfl⟩
    rw [← hmm]
    refine callE (hc m w' (by omega) (by omega) xw) (fun w2 hp x2 => ?_) (fun w2 hp x2 => ?_)
    · exact next2 lo m ⟨rfl, rfl, trivial⟩ ⟨h.left (by omega) (by omega) hp, xw.trans x2⟩ (by omega)
    · refine arI (by omega) ?_
      exact next2 (m + 1) hi ⟨rfl, rfl, trivial⟩ ⟨h.right hm (by omega) (by omega) hp, xw.trans x2⟩ (by omega)
  · exact ret1 (iv lo) rfl ⟨lo, rfl, h.done (by omega), xw⟩
/-- A function that a closure holds, which answers g and leaves alone what was there. -/
def Fun1 (fn : FuncId) (cap : Array Value) (w : World) (g : Int → Int) : Prop := ∀ (v : Int) (w' : World), 0 ≤ v → v ≤ 1073741824 → Ext w w' → CallZ Try.prog fn ([iv v] ++ cap.toList).toArray w' (fun u w'' => u = iv (g v) ∧ Ext w' w'')
theorem c_lleast1 {fn : FuncId} {cap : Array Value} [he : Enters Try.prog fn] {g : Int → Int} {ba bw : Nat} {t : TypeId} {w0 : World} {v x : Int} (hc : Fun1 fn cap w0 g) (hx : Ext w0 w) (hv : 0 ≤ v ∧ v ≤ 1073741824)
    (h1 : Blk w ba t [.func (.func fn) #[] cap]) (h2 : Blk w bw 3 [iv x]) : CallZ Try.prog 80 #[iv v, ptr ba, ptr bw] w (fun u w' => u = .bool (decide (g v > x)) ∧ Ext w w') := by
  refine fn_rule (args := [iv v, ptr ba, ptr bw]) Try.func80 (by kernel_rfl) ?_
  refine drawK (fun _ => True) [0, 1, 3, 2, 4, 5] [2] mx (by kernel_rfl) ?_
  refine ldK (.func (.func fn) #[] cap) (h1.cell rfl) trivial (.refl _ _) ?_
  refine ldK (iv x) (h2.cell rfl) trivial (.refl _ _) ?_
  refine call_of (hc v w hv.1 hv.2 hx) ?_
  rintro _ w2 ⟨rfl, x2⟩
  refine strK x2 ?_
  refine cD (fun q => ?_) (fun q => ?_)
  · exact ret1 (.bool true) rfl ⟨by rw [decide_eq_true q], x2⟩
  · exact ret1 (.bool false) rfl ⟨by rw [decide_eq_false q], x2⟩
theorem c_lleast {fn : FuncId} {cap : Array Value} [he : Enters Try.prog fn] {g : Int → Int} {x : Int} (hc : Fun1 fn cap w g) (hm : ∀ v v', 0 ≤ v → v ≤ v' → g v ≤ g v') :
    CallZ Try.prog 54 #[iv x, .func (.func fn) #[] cap] w (fun u w' => ∃ k : Int, u = iv k ∧ First (fun v => decide (g v > x)) 0 1073741825 k ∧ Ext w w') := by
  refine fn_rule (args := [iv x, .func (.func fn) #[] cap]) Try.func54 (by kernel_rfl) ?_
  refine box (fun bw w1 h1 => ?_)
  refine box (fun ba w2 h2 => ?_)
  have x2 := h1.ext.trans h2.ext
  refine call_of (c_Search (fn := 80) (cap := #[ptr ba, ptr bw]) (n := 1073741825) (p := fun v => decide (g v > x)) (by omega) (fun v v' h0 h1 _ h => by rw [decide_eq_true_eq] at h ⊢; have := hm v v' h0 h1; omega)
    (fun v w' hv0 hv1 xw => c_lleast1 hc (x2.trans xw) ⟨hv0, by omega⟩ (h2.blk.ext xw) ((h1.blk.ext h2.ext).ext xw))) ?_
  rintro _ w3 ⟨k, rfl, hk, x3⟩
  exact ret1 (iv k) rfl ⟨k, rfl, hk, x2.trans x3⟩
theorem c_lReach1 {r : Reach} {b : Nat} {t : TypeId} {v : Int} (hok : lossOk r = true) (hv : 0 ≤ v ∧ v ≤ 1073741824) (hb : Blk w b t r.c) : CallZ Try.prog 55 #[iv v, ptr b] w (fun u w' => u = iv (arrB r v) ∧ Ext w w') := by
  refine fn_rule (args := [iv v, ptr b]) Try.func55 (by kernel_rfl) ?_
  refine ldA _ (.blk hb) rfl ?_
  refine call_of (c_llost hok hv) ?_
  rintro _ w2 ⟨rfl, x2⟩
  have h := lost_le hok hv
  refine fldV (cs := [iv (lostR r v).lo, iv (lostR r v).hi]) (iv (lostR r v).lo) rfl ?_
  refine arI (by omega) ?_
  exact ret1 (iv (v - (lostR r v).lo)) rfl ⟨rfl, x2⟩
theorem c_lMost1 {r : Reach} {b : Nat} {t : TypeId} {v : Int} (hok : lossOk r = true) (hv : 0 ≤ v ∧ v ≤ 1073741824) (hb : Blk w b t r.c) : CallZ Try.prog 57 #[iv v, ptr b] w (fun u w' => u = iv (arrW r v) ∧ Ext w w') := by
  refine fn_rule (args := [iv v, ptr b]) Try.func57 (by kernel_rfl) ?_
  refine ldA _ (.blk hb) rfl ?_
  refine call_of (c_llost hok hv) ?_
  rintro _ w2 ⟨rfl, x2⟩
  have h := lost_le hok hv
  refine fldV (cs := [iv (lostR r v).lo, iv (lostR r v).hi]) (iv (lostR r v).hi) rfl ?_
  refine arI (by omega) ?_
  exact ret1 (iv (v - (lostR r v).hi)) rfl ⟨rfl, x2⟩
theorem c_lReach {r : Reach} {x : Int} : CallZ Try.prog 39 #[r.v, iv x] w (fun u w' => u = .tuple #[iv (reachV r x).1, .bool (reachV r x).2, iv (lErr r x)] ∧ Ext w w') := by
  refine fn_rule (args := [.agg #[.string r.name, iv r.up, iv r.delay, iv r.cap, iv r.bank, iv r.siphon, iv r.evap.lo, iv r.evap.hi, iv r.s0.n, iv r.s0.d, iv r.s1.n, iv r.s1.d], iv x]) Try.func39 (by kernel_rfl) ?_
  refine box (fun b w1 h1 => ?_)
  refine ldA r.c (.blk h1.blk) rfl ?_
  refine call_of c_lvalid ?_
  rintro _ w2 ⟨rfl, x2⟩
  refine cN (fun he => ?_) (fun he => ?_)
  · exact ret3 (iv 0) (.bool false) (iv (lErr r x)) rfl rfl rfl ⟨by unfold reachV; rw [if_pos he], h1.ext.trans x2⟩
  have he : lErr r x = 0 := he
  obtain ⟨hok, hx⟩ := lErr_ok.1 he
  refine arI (by omega) ?_
  refine call_of (c_lleast (fn := 55) (cap := #[ptr b]) (g := arrB r) (x := x - 1) (fun v w' h0 h2 xw => c_lReach1 hok ⟨h0, h2⟩ ((h1.blk.ext x2).ext xw)) (fun v v' h0 h => arrB_mono hok h0 h)) ?_
  rintro _ w3 ⟨k, rfl, hk, x3⟩
  have e : (fun v => decide (arrB r v > x - 1)) = fun v => decide (x ≤ arrB r v) := funext fun v => decide_eq_decide.2 ⟨fun h => by omega, fun h => by omega⟩
  rw [e] at hk
  obtain rfl := hk.uniq (lvB_first hok)
  have xx := (h1.ext.trans x2).trans x3
  refine cD (fun q => ?_) (fun q => ?_)
  · exact ret3 (iv 0) (.bool false) (iv 0) rfl rfl rfl ⟨by unfold reachV; rw [if_neg (by simp [he]), if_pos q, he], xx⟩
  · exact ret3 (iv (lvB r x)) (.bool true) (iv 0) rfl rfl rfl ⟨by unfold reachV; rw [if_neg (by simp [he]), if_neg q, he], xx⟩
theorem c_lMost {r : Reach} {x : Int} : CallZ Try.prog 40 #[r.v, iv x] w (fun u w' => u = .tuple #[iv (mostV r x), iv (lErr r x)] ∧ Ext w w') := by
  refine fn_rule (args := [.agg #[.string r.name, iv r.up, iv r.delay, iv r.cap, iv r.bank, iv r.siphon, iv r.evap.lo, iv r.evap.hi, iv r.s0.n, iv r.s0.d, iv r.s1.n, iv r.s1.d], iv x]) Try.func40 (by kernel_rfl) ?_
  refine box (fun b w1 h1 => ?_)
  refine ldA r.c (.blk h1.blk) rfl ?_
  refine call_of c_lvalid ?_
  rintro _ w2 ⟨rfl, x2⟩
  refine cN (fun he => ?_) (fun he => ?_)
  · exact ret2 (iv 0) (iv (lErr r x)) rfl rfl ⟨by unfold mostV; rw [if_pos he], h1.ext.trans x2⟩
  have he : lErr r x = 0 := he
  obtain ⟨hok, hx⟩ := lErr_ok.1 he
  refine call_of (c_lleast (fn := 57) (cap := #[ptr b]) (g := arrW r) (x := x) (fun v w' h0 h2 xw => c_lMost1 hok ⟨h0, h2⟩ ((h1.blk.ext x2).ext xw)) (fun v v' h0 h => arrW_mono hok h0 h)) ?_
  rintro _ w3 ⟨k, rfl, hk, x3⟩
  have e : (fun v => decide (arrW r v > x)) = fun v => decide (x + 1 ≤ arrW r v) := funext fun v => decide_eq_decide.2 ⟨fun h => by omega, fun h => by omega⟩
  rw [e] at hk
  obtain rfl := hk.uniq (lvW_first hok)
  have xx := (h1.ext.trans x2).trans x3
  have := hk.le
  have := hk.ge
  refine arI (by omega) ?_
  exact ret2 (iv (lvW r (x + 1) - 1)) (iv 0) rfl rfl ⟨by unfold mostV; rw [if_neg (by simp [he]), he], xx⟩
end
end Go.Proofs.Ytcpdhclnmjfldaa

/- Layer 48: contracts of right, Check. -/
namespace Go.Proofs.Ytcpdhclnmjfldaa
open Go Go.RowKit

section
variable {D : Nat → Prop} {w : World} {A : Option Addr} {n c : Nat}
theorem c_eright481 {y : Rg} : CallZ Try.prog 74 #[.agg y.c.toArray] w (fun v w' => v = .bool (!rgOk y 1073741824) ∧ Ext w w') := by
  refine fn_rule (args := [.agg #[iv y.lo, iv y.hi]]) Try.func74 (by kernel_rfl) ?_
  refine box (fun g w1 h1 => ?_)
  have b1 : Blk w1 g _ [iv y.lo, iv y.hi] := h1.blk
  have no : ¬ (0 ≤ y.lo ∧ y.lo ≤ y.hi ∧ y.hi ≤ 1073741824) → Value.bool true = .bool (!rgOk y 1073741824) := fun h => by
    cases hr : rgOk y 1073741824 with
    | false => rfl
    | true => exact absurd (rgOk_iff.1 hr) h
  refine fldA ?_
  refine ld (iv y.lo) (b1.cell rfl) ?_
  refine cD (fun q => ?_) (fun q1 => ?_)
  · exact ret1 (.bool true) rfl ⟨no fun h => by omega, h1.ext⟩
  refine fldA ?_
  refine ld (iv y.lo) (b1.cell rfl) ?_
  refine fldA ?_
  refine ld (iv y.hi) (b1.cell rfl) ?_
  refine cD (fun q => ?_) (fun q2 => ?_)
  · exact ret1 (.bool true) rfl ⟨no fun h => by omega, h1.ext⟩
  refine fldA ?_
  refine ld (iv y.hi) (b1.cell rfl) ?_
  refine cD (fun q => ?_) (fun q3 => ?_)
  · exact ret1 (.bool true) rfl ⟨no fun h => by omega, h1.ext⟩
  · exact ret1 (.bool false) rfl ⟨by rw [rgOk_iff.2 (by omega)]; rfl, h1.ext⟩
abbrev rgP (y : Rg) : Bool := rgOk y 1073741824
theorem c_indRg {xs : List Rg} (h : SlR tRg D w A n xs) : CallZ Try.prog 91 #[.slice A n c, .func (.func 74) #[] #[]] w (fun v w' => (∃ i : Int, v = iv i ∧ (0 ≤ i ↔ xs.all rgP = false)) ∧ Ext w w') := by
  refine fn_rule (args := [.slice A n c, .func (.func 74) #[] #[]]) Try.func91 (by kernel_rfl) ?_
  refine len ?_
  refine loop_rule (fun k : Nat => [(8, iv (k : Int))]) (fun k w' => k ≤ n ∧ Ext w w' ∧ xs.all rgP = (xs.drop k).all rgP) (fun k _ => n - k) 0 ⟨rfl, trivial⟩ ⟨by omega, .refl _ _, rfl⟩ rfl ?_
  rintro G k w' ⟨hk, xw, he⟩
  refine cD (fun hlt => ?_) (fun hge => ?_)
  · obtain ⟨b, o, cs, x, rfl, hx, hdx, -, hc, rfl⟩ := (h.ext xw).at_ (show k < n by omega)
    rw [hdx, List.all_cons] at he
    refine idx k rfl (by omega) ?_
    refine ldA x.c hc rfl ?_
    refine callE (c_eright481 (y := x)) (fun w2 g x2 => ?_) (fun w2 g x2 => ?_)
    · refine ret1 (iv (k : Int)) rfl ⟨⟨k, rfl, ?_⟩, xw.trans x2⟩
      simp only [Bool.not_eq_true'] at g
      rw [he, show rgP x = false from g]; simp
    · simp only [Bool.not_eq_false'] at g
      refine arI (by have := h.le; omega) ?_
      refine next (k + 1) ⟨by rw [Int.natCast_add]; rfl, trivial⟩ ⟨by omega, xw.trans x2, ?_⟩ (by omega)
      rw [he, show rgP x = true from g]; rfl
  · refine ret1 (iv (-1)) rfl ⟨⟨-1, rfl, ?_⟩, xw⟩
    rw [he, List.drop_eq_nil_of_le (by have := h.len; omega)]; simp
theorem c_contRg {xs : List Rg} (h : SlR tRg D w A n xs) : CallZ Try.prog 73 #[.slice A n c, .func (.func 74) #[] #[]] w (fun v w' => v = .bool (!xs.all rgP) ∧ Ext w w') := by
  refine fn_rule (args := [.slice A n c, .func (.func 74) #[] #[]]) Try.func73 (by kernel_rfl) ?_
  refine call_of (c_indRg h) ?_
  rintro _ w' ⟨⟨i, rfl, hi⟩, xw⟩
  refine cD (fun g => ?_) (fun g => ?_)
  · exact ret1 (.bool true) rfl ⟨by rw [hi.1 g]; rfl, xw⟩
  · exact ret1 (.bool false) rfl ⟨by rw [show xs.all rgP = true from by cases ha : xs.all rgP with | true => rfl | false => exact absurd (hi.2 ha) g]; rfl, xw⟩
theorem c_right48 {xs : List Rg} {m : Nat} {k : Int} (h : SlR tRg D w A n xs) (hk : k = (m : Int)) : CallZ Try.prog 50 #[.slice A n c, iv k] w (fun v w' => v = .bool (rgsB m xs) ∧ Ext w w') := by
  subst hk
  refine fn_rule (args := [.slice A n c, iv (m : Int)]) Try.func50 (by kernel_rfl) ?_
  have hl := h.len
  refine len ?_
  refine cD (fun g1 => ?_) (fun g1 => ?_)
  · refine callE (c_contRg h) (fun w2 g x2 => ?_) (fun w2 g x2 => ?_)
    · simp only [Bool.not_eq_true'] at g
      exact ret1 (.bool false) rfl ⟨by unfold rgsB; rw [decide_eq_true (by omega), Bool.true_and]; exact congrArg Value.bool g.symm, x2⟩
    · simp only [Bool.not_eq_false'] at g
      exact ret1 (.bool true) rfl ⟨by unfold rgsB; rw [decide_eq_true (by omega), Bool.true_and]; exact congrArg Value.bool g.symm, x2⟩
  · exact ret1 (.bool false) rfl ⟨by unfold rgsB; rw [decide_eq_false (by omega), Bool.false_and], .refl _ _⟩

/-! ### Check -/
/-- An evidence's cells. -/
structure EvR (D : Nat → Prop) (w : World) (cs : List Value) (x : Ev) : Prop where
  of_ ::
  ex : ∃ W1 n1 c1 S1 n2 c2, cs = [.slice W1 n1 c1, .slice S1 n2 c2] ∧ SlR tWv D w W1 n1 x.waves ∧ SlR tSu D w S1 n2 x.suspects ∧ n1 ≤ c1 ∧ n2 ≤ c2
theorem EvR.keep {w w' : World} {cs : List Value} {d : Ev} (hk : ∀ b, b < w.heap.size → D b → w'.heap[b]? = w.heap[b]?) (h : EvR D w cs d) : EvR D w' cs d := by
  obtain ⟨A1, n1, c1, A2, n2, c2, h, h1, h2, h3⟩ := h.ex
  exact ⟨A1, n1, c1, A2, n2, c2, h, h1.keep hk, h2.keep hk, h3⟩
theorem EvR.more {D' : Nat → Prop} {w : World} {cs : List Value} {d : Ev} (hk : ∀ b, b < w.heap.size → D b → D' b) (h : EvR D w cs d) : EvR D' w cs d := by
  obtain ⟨A1, n1, c1, A2, n2, c2, h, h1, h2, h3⟩ := h.ex
  exact ⟨A1, n1, c1, A2, n2, c2, h, h1.more (by decide) hk, h2.more (by decide) hk, h3⟩
theorem EvR.kept {D' : Nat → Prop} {w w' : World} {cs : List Value} {d : Ev} (h : EvR D w cs d) (k : Kept D' w w') (hd : ∀ b, b < w.heap.size → D b → D' b) : EvR D w' cs d := h.keep fun b hb hD => k.blk b hb (hd b hb hD)
theorem EvR.ext {w w' : World} {cs : List Value} {d : Ev} (h : EvR D w cs d) (k : Ext w w') : EvR D w' cs d := h.kept k fun _ _ _ => trivial
theorem fset_many {R F : Int} (k : Int) : ((fset (fset (fset (fset (fun _ => none) 1 (iv R)) 2 (iv F)) 3 (iv R)) 4 (iv R)) k).getD (iv 0) = iv (if k = 1 ∨ k = 3 ∨ k = 4 then R else if k = 2 then F else 0) := by
  unfold fset
  by_cases h4 : k = 4
  · subst h4; rfl
  by_cases h3 : k = 3
  · subst h3; rfl
  by_cases h2 : k = 2
  · subst h2; rfl
  by_cases h1 : k = 1
  · subst h1; rfl
  rw [if_neg h4, if_neg h3, if_neg h2, if_neg h1, if_neg (by omega), if_neg h2]; rfl
end
end Go.Proofs.Ytcpdhclnmjfldaa

/- Layer 48: contract of Check. -/
namespace Go.Proofs.Ytcpdhclnmjfldaa
open Go Go.RowKit

theorem wv_open {D : Nat → Prop} {w : World} {cs : List Value} {x : Wv} (h : tWv.rep D w cs x) : ∃ H1 h1 k1 O1 o1 k2 T1 t1 k3, cs = [iv x.hour, .slice H1 h1 k1, .slice O1 o1 k2, .slice T1 t1 k3] ∧ I64 x.hour ∧ SlR tRg D w H1 h1 x.heads ∧ SlR tRg D w O1 o1 x.outlets ∧ SlR tRg D w T1 t1 x.tails := by
  obtain ⟨_, _, rfl, ⟨rfl, hh⟩, _, _, rfl, ⟨H1, h1, k1, rfl, g1, -⟩, _, _, rfl, ⟨O1, o1, k2, rfl, g2, -⟩, T1, t1, k3, rfl, g3, -⟩ := h
  exact ⟨H1, h1, k1, O1, o1, k2, T1, t1, k3, rfl, hh, g1, g2, g3⟩
theorem evErr_480 {d : Dist} {x : Ev} (h0 : dErr d = 0) (h1 : ¬ (x.waves.length > 24 ∨ x.suspects.length > 12)) (h2 : (wavesB d (-1) x.waves && susB d (0, -1) x.suspects) = false) : evErr d x = 480 := by
  unfold evErr; rw [if_neg (by simp [h0]), if_neg h1, h2, if_neg (by simp)]
section
variable {D : Nat → Prop} {w : World}
set_option maxRecDepth 8000 in
theorem c_eCheck48 {csd csx : List Value} {d : Dist} {x : Ev} (hd : DiR D w csd d) (hx : EvR D w csx x) : CallZ Try.prog 35 #[.agg csd.toArray, .agg csx.toArray] w
    (fun v w' => v = iv (evErr d x) ∧ Ext w w') := by
  have hd := hd.more (D' := fun b => b < w.heap.size) fun b hb _ => hb
  have hx := hx.more (D' := fun b => b < w.heap.size) fun b hb _ => hb
  obtain ⟨A1, n1, c1, A2, n2, c2, A3, n3, c3, A4, n4, c4, A5, n5, c5, A6, n6, c6, rfl, hr, hfa, -⟩ := hd.ex
  obtain ⟨W1, m1, e1, S1, m2, e2, rfl, hw, hs, -⟩ := hx.ex
  have ln := hr.len
  have lf := hfa.len
  have lw := hw.len
  have ls := hs.len
  have lnb := hr.le
  have lfb := hfa.le
  refine fn_rule (args := [.agg #[.string d.name, iv d.hours, iv d.cap, iv d.start, .slice A1 n1 c1, .slice A2 n2 c2, .slice A3 n3 c3, .slice A4 n4 c4, .slice A5 n5 c5, .slice A6 n6 c6], .agg #[.slice W1 m1 e1, .slice S1 m2 e2]]) Try.func35 (by kernel_rfl) ?_
  refine box (fun bd w1 h1 => ?_)
  refine box (fun bx w2 h2 => ?_)
  have x2 := h1.ext.trans h2.ext
  have Bd : Blk w2 bd 31 [.string d.name, iv d.hours, iv d.cap, iv d.start, .slice A1 n1 c1, .slice A2 n2 c2, .slice A3 n3 c3, .slice A4 n4 c4, .slice A5 n5 c5, .slice A6 n6 c6] := h1.blk.ext h2.ext
  have Bx : Blk w2 bx 35 [.slice W1 m1 e1, .slice S1 m2 e2] := h2.blk
  refine ldA _ (.blk Bd) rfl ?_
  refine call_of (c_eCheck (hd.ext x2)) ?_
  rintro _ w3 ⟨rfl, x3⟩
  have x03 := x2.trans x3
  have Bd3 := Bd.ext x3
  have Bx3 := Bx.ext x3
  refine cN (fun q0 => ?_) (fun q0 => ?_)
  · exact ret1 (iv (dErr d)) rfl ⟨by unfold evErr; rw [if_pos q0], x03⟩
  have q0 : dErr d = 0 := q0
  have lim : (x.waves.length > 24 ∨ x.suspects.length > 12) → (iv 2 : Value) = iv (evErr d x) := fun h => by unfold evErr; rw [if_neg (by simp [q0]), if_pos h]
  refine fldA ?_
  refine ld (.slice W1 m1 e1) (Bx3.cell rfl) ?_
  refine len ?_
  refine cD (fun q1 => ?_) (fun q1 => ?_)
  · exact ret1 (iv 2) rfl ⟨lim (.inl (by omega)), x03⟩
  refine fldA ?_
  refine ld (.slice S1 m2 e2) (Bx3.cell rfl) ?_
  refine len ?_
  refine cD (fun q2 => ?_) (fun q2 => ?_)
  · exact ret1 (iv 2) rfl ⟨lim (.inr (by omega)), x03⟩
  have q12 : ¬ (x.waves.length > 24 ∨ x.suspects.length > 12) := by omega
  have bad : (wavesB d (-1) x.waves && susB d (0, -1) x.suspects) = false → (iv 480 : Value) = iv (evErr d x) := fun h => by rw [evErr_480 q0 q12 h]
  refine fldA ?_
  refine ld (.slice W1 m1 e1) (Bx3.cell rfl) ?_
  refine len ?_
  refine loop2 (fun (k : Nat) (last : Int) => [(30, iv (k : Int)), (5, iv last)]) (fun k last u => k ≤ m1 ∧ Ext w3 u ∧ wavesB d (-1) x.waves = wavesB d last (x.waves.drop k)) (fun k _ _ => m1 - k) 0 (-1) ⟨rfl, rfl, trivial⟩ ⟨by omega, .refl _ _, rfl⟩ rfl ?_
  rintro G k last u ⟨hk, xu, hwb⟩
  have x0u := x03.trans xu
  refine cD (fun hlt => ?_) (fun hge => ?_)
  · have hlt : k < m1 := by omega
    obtain ⟨b, o, cs, v, rfl, hv, hdv, -, hc, hrep⟩ := (hw.ext x0u).at_ hlt
    obtain ⟨H1, h1', k1, O1, o1, k2, T1, t1, k3, rfl, hi64, sh, so, st⟩ := wv_open hrep
    rw [hdv] at hwb
    have bad2 : waveB d last v = false → (iv 480 : Value) = iv (evErr d x) := fun h => bad (by rw [hwb]; unfold wavesB; rw [h]; rfl)
    refine idx k rfl hlt ?_
    refine ldA _ hc rfl ?_
    refine alloc (fun t u1 h1'' => ?_)
    refine stA (vs := [iv v.hour, .slice H1 h1' k1, .slice O1 o1 k2, .slice T1 t1 k3]) h1''.blk rfl (Nat.le_of_ble_eq_true rfl) (by simp [Value.oneCell']) (fun u2 tb s2 zs => ?_)
    have t1' := h1''.at_
    have xu2 : Ext u u2 := h1''.ext.then s2 fun b hb _ e => by omega
    have tb : Blk u2 t 52 [iv v.hour, .slice H1 h1' k1, .slice O1 o1 k2, .slice T1 t1 k3] := tb
    have Bd2 := (Bd3.ext xu).ext xu2
    have x02 := x0u.trans xu2
    refine fldA ?_
    refine ld (iv v.hour) (tb.cell rfl) ?_
    refine cD (fun q => ?_) (fun p1 => ?_)
    · exact ret1 (iv 480) rfl ⟨bad2 (by unfold waveB; rw [decide_eq_false (by omega)]; rfl), x02⟩
    refine fldA ?_
    refine ld (iv v.hour) (tb.cell rfl) ?_
    refine fldA ?_
    refine ld (iv d.hours) (Bd2.cell rfl) ?_
    refine cD (fun q => ?_) (fun p2 => ?_)
    · exact ret1 (iv 480) rfl ⟨bad2 (by unfold waveB; rw [decide_eq_true (by omega), decide_eq_false (by omega)]; rfl), x02⟩
    refine fldA ?_
    refine ld (.slice H1 h1' k1) (tb.cell rfl) ?_
    refine fldA ?_
    refine ld (.slice A1 n1 c1) (Bd2.cell rfl) ?_
    refine len ?_
    refine callE (c_right48 (m := d.reaches.length) (sh.ext xu2) (by omega)) (fun u3 g3 x3' => ?_) (fun u3 g3 x3' => ?_)
    rotate_left
    · exact ret1 (iv 480) rfl ⟨bad2 (by unfold waveB; rw [g3, decide_eq_true (by omega), decide_eq_true (by omega)]; rfl), x02.trans x3'⟩
    refine fldA ?_
    refine ld (.slice O1 o1 k2) ((tb.ext x3').cell rfl) ?_
    refine fldA ?_
    refine ld (.slice A2 n2 c2) ((Bd2.ext x3').cell rfl) ?_
    refine len ?_
    refine callE (c_right48 (m := d.farms.length) ((so.ext xu2).ext x3') (by omega)) (fun u4 g4 x4' => ?_) (fun u4 g4 x4' => ?_)
    rotate_left
    · exact ret1 (iv 480) rfl ⟨bad2 (by unfold waveB; rw [g3, g4, decide_eq_true (by omega), decide_eq_true (by omega)]; rfl), (x02.trans x3').trans x4'⟩
    refine fldA ?_
    refine ld (.slice T1 t1 k3) (((tb.ext x3').ext x4').cell rfl) ?_
    refine fldA ?_
    refine ld (.slice A1 n1 c1) (((Bd2.ext x3').ext x4').cell rfl) ?_
    refine len ?_
    refine callE (c_right48 (m := d.reaches.length) (((st.ext xu2).ext x3').ext x4') (by omega)) (fun u5 g5 x5' => ?_) (fun u5 g5 x5' => ?_)
    rotate_left
    · exact ret1 (iv 480) rfl ⟨bad2 (by unfold waveB; rw [g3, g4, g5, decide_eq_true (by omega), decide_eq_true (by omega)]; rfl), ((x02.trans x3').trans x4').trans x5'⟩
    have x25 := (x3'.trans x4').trans x5'
    refine fldA ?_
    refine ld (iv v.hour) ((tb.ext x25).cell rfl) ?_
    refine arI (by omega) ?_
    refine next2 (k + 1) v.hour ⟨rfl, rfl, trivial⟩ ⟨by omega, (xu.trans xu2).trans x25, ?_⟩ (by omega)
    rw [hwb]
    show (waveB d last v && wavesB d v.hour (x.waves.drop (k + 1))) = _
    unfold waveB
    rw [g3, g4, g5, decide_eq_true (by omega), decide_eq_true (by omega)]; rfl
  have hwt : wavesB d (-1) x.waves = true := by rw [hwb, List.drop_eq_nil_of_le (by omega)]; rfl
  clear hwb
  rw [hwt, Bool.true_and] at bad
  have Bdu := Bd3.ext xu
  have Bxu := Bx3.ext xu
  refine mmap (fun gm v1 hgm hv1 => ?_)
  have xv1 : Ext u v1 := by rw [hv1]; exact Kept.alloc _ _ _
  have M1 : MapFn .i64 v1 gm (fun _ => none) := by rw [hv1, hgm]; exact MapFn.new .i64 u
  have Bd1 := Bdu.ext xv1
  have Bx1 := Bxu.ext xv1
  have lbd := Bdu.lt
  have lbx := Bxu.lt
  refine fldA ?_
  refine ld (.slice A1 n1 c1) (Bd1.cell rfl) ?_
  refine len ?_
  refine mupd M1 (fun v2 M2 k2 z2 => ?_)
  refine fldA ?_
  refine ld (.slice A2 n2 c2) ((Bd1.kept k2 (by omega)).cell rfl) ?_
  refine len ?_
  refine mupd M2 (fun v3 M3 k3 z3 => ?_)
  refine fldA ?_
  refine ld (.slice A1 n1 c1) (((Bd1.kept k2 (by omega)).kept k3 (by omega)).cell rfl) ?_
  refine len ?_
  refine mupd M3 (fun v4 M4 k4 z4 => ?_)
  refine fldA ?_
  refine ld (.slice A1 n1 c1) ((((Bd1.kept k2 (by omega)).kept k3 (by omega)).kept k4 (by omega)).cell rfl) ?_
  refine len ?_
  refine mupd M4 (fun v5 M5 k5 z5 => ?_)
  have M5 : MapFn .i64 v5 gm (fset (fset (fset (fset (fun _ => none) 1 (iv (n1 : Int))) 2 (iv (n2 : Int))) 3 (iv (n1 : Int))) 4 (iv (n1 : Int))) := M5
  have xu5 : Ext u v5 := (((xv1.then k2 fun b hb _ => by omega).then k3 fun b hb _ => by omega).then k4 fun b hb _ => by omega).then k5 fun b hb _ => by omega
  have Bx5 := Bxu.ext xu5
  refine bld [iv 0, iv (-1)] (by kernel_rfl) ?_
  refine alloc (fun q v6 h6 => ?_)
  refine stA (vs := [iv 0, iv (-1)]) h6.blk rfl (Nat.le_of_ble_eq_true rfl) (by simp [Value.oneCell']) (fun v7 b7 k7 z7 => ?_)
  have b7 : Blk v7 q 98 [iv 0, iv (-1)] := b7
  have a6 := h6.at_
  have s6 := h6.size
  have su5 := xu5.size
  have x57 : Ext v5 v7 := h6.ext.then k7 fun b hb _ => by omega
  have x07 := (x0u.trans xu5).trans x57
  have M7 := M5.kept x57 trivial
  have lgm := M5.lt
  have Bx7 := Bx5.ext x57
  refine fldA ?_
  refine ld (.slice S1 m2 e2) (Bx7.cell rfl) ?_
  refine len ?_
  refine loop_rule (fun k : Nat => [(93, iv (k : Int))]) (fun k z => k ≤ m2 ∧ Kept (fun b => b ≠ q) v7 z ∧ ∃ b : Int × Int, Blk z q 98 [iv b.1, iv b.2] ∧ susB d (0, -1) x.suspects = susB d b (x.suspects.drop k)) (fun k _ => m2 - k) 0 ⟨rfl, trivial⟩ ⟨by omega, .refl _ _, (0, -1), b7, rfl⟩ rfl ?_
  rintro G3 j z ⟨hj, kz, bf, bz, hsb⟩
  have x5z : Ext v5 z := x57.then kz fun b hb _ e => by omega
  have x0z := (x0u.trans xu5).trans x5z
  refine cD (fun hlt => ?_) (fun hge => ?_)
  rotate_left
  · have hst : susB d (0, -1) x.suspects = true := by rw [hsb, List.drop_eq_nil_of_le (by omega)]; rfl
    exact ret1 (iv 0) rfl ⟨by unfold evErr; rw [if_neg (by simp [q0]), if_neg q12, hwt, hst]; rfl, x0z⟩
  have hlt : j < m2 := by omega
  obtain ⟨b, o, cs, s, rfl, hsv, hds, -, hc, rfl⟩ := (hs.ext x0z).at_ hlt
  rw [hds] at hsb
  have bad3 : suB d bf s = false → (iv 480 : Value) = iv (evErr d x) := fun h => bad (by rw [hsb]; unfold susB; rw [h]; rfl)
  refine idx j rfl hlt ?_
  refine ldA s.c hc rfl ?_
  refine alloc (fun t z1 h1'' => ?_)
  refine stA (vs := s.c) h1''.blk rfl (Nat.le_of_ble_eq_true rfl) (by simp [Value.oneCell']) (fun z2 tb s2 zs => ?_)
  have t1' := h1''.at_
  have xz2 : Ext z z2 := h1''.ext.then s2 fun b hb _ e => by omega
  have tb : Blk z2 t 92 s.c := tb
  have bz2 := bz.ext xz2
  have bzl := bz.lt
  have x02 := x0z.trans xz2
  have Mz := (M5.kept x5z trivial).kept xz2 trivial
  refine fldA ?_
  refine ld (iv s.index) (tb.cell rfl) ?_
  refine cD (fun q => ?_) (fun p1 => ?_)
  · exact ret1 (iv 480) rfl ⟨bad3 (by unfold suB; rw [decide_eq_false (by omega)]; rfl), x02⟩
  refine fldA ?_
  refine ld (iv s.index) (tb.cell rfl) ?_
  refine fldA ?_
  refine ld (iv s.kind) (tb.cell rfl) ?_
  refine look1 (f := fset (fset (fset (fset (fun _ => none) 1 (iv (n1 : Int))) 2 (iv (n2 : Int))) 3 (iv (n1 : Int))) 4 (iv (n1 : Int))) (iv (manyN d s.kind)) (fun y hy => by subst hy; exact Mz) (by rw [fset_many]; unfold manyN; rw [ln, lf]) ?_
  refine cD (fun q => ?_) (fun p2 => ?_)
  · exact ret1 (iv 480) rfl ⟨bad3 (by unfold suB; rw [decide_eq_true (by omega), decide_eq_false (by omega)]; rfl), x02⟩
  have pre : ∀ e, suB d bf s = (inI s.most 1 1073741824 && e) → suB d bf s = (inI s.most 1 1073741824 && e) := fun _ h => h
  refine fldA ?_
  refine ld (iv s.most) (tb.cell rfl) ?_
  refine cD (fun q => ?_) (fun p3 => ?_)
  · exact ret1 (iv 480) rfl ⟨bad3 (by
      cases h : suB d bf s with
      | false => rfl
      | true => unfold suB at h; simp only [Bool.and_eq_true, inI_iff] at h; omega), x02⟩
  refine fldA ?_
  refine ld (iv s.most) (tb.cell rfl) ?_
  refine cD (fun q => ?_) (fun p4 => ?_)
  · exact ret1 (iv 480) rfl ⟨bad3 (by
      cases h : suB d bf s with
      | false => rfl
      | true => unfold suB at h; simp only [Bool.and_eq_true, inI_iff] at h; omega), x02⟩
  refine fldA ?_
  refine ld (iv s.kind) (tb.cell rfl) ?_
  refine fldA ?_
  refine ld (iv bf.1) (bz2.cell rfl) ?_
  refine cD (fun q => ?_) (fun p5 => ?_)
  · exact ret1 (iv 480) rfl ⟨bad3 (by
      cases h : suB d bf s with
      | false => rfl
      | true => unfold suB at h; simp only [Bool.and_eq_true, Bool.or_eq_true, decide_eq_true_eq] at h; omega), x02⟩
  have ok : (bf.1 < s.kind ∨ (bf.1 = s.kind ∧ bf.2 < s.index)) → suB d bf s = true := fun h => by
    unfold suB
    simp only [Bool.and_eq_true, Bool.or_eq_true, decide_eq_true_eq, inI_iff]
    exact ⟨by omega, by omega, ⟨by omega, by omega⟩, h⟩
  refine fldA ?_
  refine ld (iv s.kind) (tb.cell rfl) ?_
  refine fldA ?_
  refine ld (iv bf.1) (bz2.cell rfl) ?_
  refine cD (fun p6 => ?_) (fun p6 => ?_)
  · refine fldA ?_
    refine ld (iv s.index) (tb.cell rfl) ?_
    refine fldA ?_
    refine ld (iv bf.2) (bz2.cell rfl) ?_
    refine cD (fun p7 => ?_) (fun p7 => ?_)
    · exact ret1 (iv 480) rfl ⟨bad3 (by
        cases h : suB d bf s with
        | false => rfl
        | true => unfold suB at h; simp only [Bool.and_eq_true, Bool.or_eq_true, decide_eq_true_eq] at h; omega), x02⟩
    have hok := ok (.inr ⟨by omega, by omega⟩)
    refine fldA ?_
    refine ld (iv s.kind) (tb.cell rfl) ?_
    refine fldA ?_
    refine ld (iv s.index) (tb.cell rfl) ?_
    refine bld [iv s.kind, iv s.index] (by kernel_rfl) ?_
    refine stA (vs := [iv s.kind, iv s.index]) bz2 rfl (Nat.le_of_ble_eq_true rfl) (by simp [Value.oneCell']) (fun z3 b3 k3 z3' => ?_)
    refine arI (by omega) ?_
    refine next (j + 1) ⟨rfl, trivial⟩ ⟨by omega, (kz.ext xz2).trans k3, (s.kind, s.index), b3, ?_⟩ (by omega)
    rw [hsb]
    show (suB d bf s && susB d (s.kind, s.index) (x.suspects.drop (j + 1))) = _
    rw [hok]; rfl
  · have hok := ok (.inl (by omega))
    refine fldA ?_
    refine ld (iv s.kind) (tb.cell rfl) ?_
    refine fldA ?_
    refine ld (iv s.index) (tb.cell rfl) ?_
    refine bld [iv s.kind, iv s.index] (by kernel_rfl) ?_
    refine stA (vs := [iv s.kind, iv s.index]) bz2 rfl (Nat.le_of_ble_eq_true rfl) (by simp [Value.oneCell']) (fun z3 b3 k3 z3' => ?_)
    refine arI (by omega) ?_
    refine next (j + 1) ⟨rfl, trivial⟩ ⟨by omega, (kz.ext xz2).trans k3, (s.kind, s.index), b3, ?_⟩ (by omega)
    rw [hsb]
    show (suB d bf s && susB d (s.kind, s.index) (x.suspects.drop (j + 1))) = _
    rw [hok]; rfl
end
end Go.Proofs.Ytcpdhclnmjfldaa

/- Layer 48: contracts of ask, meter. -/
namespace Go.Proofs.Ytcpdhclnmjfldaa
open Go Go.RowKit

/-! ### suspects, plainly -/
def lexLt (a b : Int × Int) : Prop := a.1 < b.1 ∨ (a.1 = b.1 ∧ a.2 < b.2)
abbrev suKey (s : Su) : Int × Int := (s.kind, s.index)
theorem suB_iff {d : Dist} {b : Int × Int} {s : Su} : suB d b s = true ↔ (0 ≤ s.index ∧ s.index < manyN d s.kind) ∧ (1 ≤ s.most ∧ s.most ≤ 1073741824) ∧ lexLt b (suKey s) := by
  unfold suB lexLt
  simp only [Bool.and_eq_true, Bool.or_eq_true, decide_eq_true_eq, inI_iff]
  exact ⟨fun ⟨h1, h2, h3, h4⟩ => ⟨⟨h1, h2⟩, h3, h4⟩, fun ⟨⟨h1, h2⟩, h3, h4⟩ => ⟨h1, h2, h3, h4⟩⟩
theorem lexLt.trans {a b c : Int × Int} (h : lexLt a b) (k : lexLt b c) : lexLt a c := by unfold lexLt at *; omega
theorem sus_pair {d : Dist} : ∀ {l : List Su} {b : Int × Int}, susB d b l = true → (∀ s ∈ l, lexLt b (suKey s) ∧ (0 ≤ s.index ∧ s.index < manyN d s.kind) ∧ 1 ≤ s.most ∧ s.most ≤ 1073741824) ∧ l.Pairwise fun s t => lexLt (suKey s) (suKey t)
  | [], _, _ => ⟨fun s h => (by cases h), .nil⟩
  | s :: r, b, h => by
    unfold susB at h
    rw [Bool.and_eq_true] at h
    obtain ⟨h1, h2, h3⟩ := suB_iff.1 h.1
    obtain ⟨k1, k2⟩ := sus_pair h.2
    refine ⟨fun t ht => ?_, List.pairwise_cons.2 ⟨fun t ht => (k1 t ht).1, k2⟩⟩
    rcases List.mem_cons.1 ht with rfl | ht
    · exact ⟨h3, h1, h2⟩
    · exact ⟨h3.trans (k1 t ht).1, (k1 t ht).2⟩
theorem sus_ne {d : Dist} {x : Ev} (h : susB d (0, -1) x.suspects = true) {i j : Nat} (hij : i < j) (hj : j < x.suspects.length) : suKey (suE x i) ≠ suKey (suE x j) := by
  have hp := (sus_pair h).2
  rw [List.pairwise_iff_getElem] at hp
  have := hp i j (by omega) hj hij
  unfold suE
  rw [List.getD_eq_getElem?_getD, List.getD_eq_getElem?_getD, List.getElem?_eq_getElem (by omega), List.getElem?_eq_getElem hj]
  simp only [Option.getD_some]
  intro e
  rw [e] at this
  unfold lexLt at this
  omega
theorem blF_nil {x : Ev} : blF x [] = fun _ => none := rfl
theorem blF_app {x : Ev} {l : List Int} {i : Int} (key : Int × Int) (h : blF x l (suKey (suAt x i)) = none) : blF x (l ++ [i]) key = if key = suKey (suAt x i) then some (suAt x i).most else blF x l key := by
  unfold blF at *
  rw [List.findSome?_append]
  by_cases e : key = suKey (suAt x i)
  · subst e
    rw [if_pos rfl, h, Option.none_or, List.findSome?_cons]
    simp
  · rw [if_neg e]
    have : [i].findSome? (fun i => if ((suAt x i).kind, (suAt x i).index) = key then some (suAt x i).most else none) = none := by
      rw [List.findSome?_cons, if_neg (fun e2 => e e2.symm)]; rfl
    rw [this]
    cases l.findSome? _ <;> rfl
theorem blF_none {x : Ev} {l : List Int} {key : Int × Int} (h : ∀ i ∈ l, suKey (suAt x i) ≠ key) : blF x l key = none := by
  unfold blF
  rw [List.findSome?_eq_none_iff]
  intro i hi
  rw [if_neg (h i hi)]
theorem blF_some {x : Ev} {l : List Int} {key : Int × Int} {n : Int} (h : blF x l key = some n) : ∃ i ∈ l, suKey (suAt x i) = key ∧ n = (suAt x i).most := by
  unfold blF at h
  obtain ⟨i, hi, h2⟩ := List.exists_of_findSome?_eq_some h
  by_cases e : ((suAt x i).kind, (suAt x i).index) = key
  · rw [if_pos e] at h2; injection h2 with h2; exact ⟨i, hi, e, h2.symm⟩
  · rw [if_neg e] at h2; cases h2
theorem askErr_ok {d : Dist} {x : Ev} {set : List Int} : askErr d x set = 0 ↔ evErr d x = 0 ∧ setB x.suspects.length (-1) set = true := by
  unfold askErr
  by_cases h : evErr d x = 0
  · rw [if_neg (by simp [h])]
    cases hs : setB x.suspects.length (-1) set <;> simp [h]
  · rw [if_pos h]; simp [h]
theorem evErr_ok {d : Dist} {x : Ev} (h : evErr d x = 0) : dErr d = 0 ∧ x.waves.length ≤ 24 ∧ x.suspects.length ≤ 12 ∧ wavesB d (-1) x.waves = true ∧ susB d (0, -1) x.suspects = true := by
  unfold evErr at h
  by_cases h0 : dErr d = 0
  · rw [if_neg (by simp [h0])] at h
    by_cases h1 : x.waves.length > 24 ∨ x.suspects.length > 12
    · rw [if_pos h1] at h; cases h
    · rw [if_neg h1] at h
      cases h2 : (wavesB d (-1) x.waves && susB d (0, -1) x.suspects) with
      | false => rw [h2] at h; cases h
      | true => rw [Bool.and_eq_true] at h2; exact ⟨h0, by omega, by omega, h2.1, h2.2⟩
  · rw [if_pos h0] at h; exact absurd h h0
/-- The map of who is to blame. -/
noncomputable def blM (x : Ev) (set : List Int) (key : Int × Int) : Option Value := (blF x set key).map fun n => iv n
theorem keyS : ∃ f0 f1, KeyS Try.prog 98 3 f0 f1 := ⟨_, _, ⟨Try.underlying98, rfl, rfl, rfl, rfl, by decide, by decide, by kernel_rfl, fun _ _ _ _ => by kernel_rfl⟩⟩
instance : KeyL Try.prog 98 kv2 := by
  obtain ⟨_, _, h⟩ := keyS
  exact h.law

section
variable {D : Nat → Prop} {w : World}
set_option maxRecDepth 8000 in
theorem c_ask {csd csx : List Value} {d : Dist} {x : Ev} {set : List Int} {A : Option Addr} {n c : Nat} (hd : DiR D w csd d) (hx : EvR D w csx x) (hset : SlR tInt D w A n set) : CallZ Try.prog 17 #[.agg csd.toArray, .agg csx.toArray, .slice A n c] w
    (fun v w' => Ext w w' ∧ ∃ q, v = .tuple #[q, iv (askErr d x set)] ∧ (∃ cs : List Value, q = .agg cs.toArray ∧ cs.length = 13 ∧ ∀ y ∈ cs, y.oneCell' = true) ∧ (askErr d x set = 0 → ∃ g, q = .agg (csd ++ (csx ++ [Value.map (some g)])).toArray ∧ MapG kv2 w' g (blM x set) ∧ w.heap.size ≤ g)) := by
  have hd := hd.more (D' := fun b => b < w.heap.size) fun b hb _ => hb
  have hx := hx.more (D' := fun b => b < w.heap.size) fun b hb _ => hb
  obtain ⟨A1, n1, c1, A2, n2, c2, A3, n3, c3, A4, n4, c4, A5, n5, c5, A6, n6, c6, rfl, hr, hfa, -⟩ := hd.ex
  obtain ⟨W1, m1, e1, S1, m2, e2, rfl, hw, hs, -⟩ := hx.ex
  have ls := hs.len
  have lse := hset.len
  have lbe := hset.le
  refine fn_rule (args := [.agg #[.string d.name, iv d.hours, iv d.cap, iv d.start, .slice A1 n1 c1, .slice A2 n2 c2, .slice A3 n3 c3, .slice A4 n4 c4, .slice A5 n5 c5, .slice A6 n6 c6], .agg #[.slice W1 m1 e1, .slice S1 m2 e2], .slice A n c]) Try.func17 (by kernel_rfl) ?_
  refine box (fun bd w1 h1 => ?_)
  refine box (fun bx w2 h2 => ?_)
  refine alloc (fun bq w3 h3 => ?_)
  have x3 := (h1.ext.trans h2.ext).trans h3.ext
  have Bd : Blk w3 bd 31 [.string d.name, iv d.hours, iv d.cap, iv d.start, .slice A1 n1 c1, .slice A2 n2 c2, .slice A3 n3 c3, .slice A4 n4 c4, .slice A5 n5 c5, .slice A6 n6 c6] := (h1.blk.ext h2.ext).ext h3.ext
  have Bx : Blk w3 bx 35 [.slice W1 m1 e1, .slice S1 m2 e2] := h2.blk.ext h3.ext
  have Bq : Blk w3 bq 64 [.string ByteArray.empty, iv 0, iv 0, iv 0, .slice none 0 0, .slice none 0 0, .slice none 0 0, .slice none 0 0, .slice none 0 0, .slice none 0 0, .slice none 0 0, .slice none 0 0, .map none] := h3.blk
  have a1 := h1.at_
  have a2 := h2.at_
  have a3 := h3.at_
  have s1 := h1.size
  have s2 := h2.size
  have s3 := h3.size
  refine ldA _ (.blk Bd) rfl ?_
  refine ldA _ (.blk Bx) rfl ?_
  refine call_of (c_eCheck48 (hd.ext x3) (hx.ext x3)) ?_
  rintro _ w4 ⟨rfl, x4⟩
  have x04 := x3.trans x4
  have Bq4 := Bq.ext x4
  have s4 := x4.size
  refine cN (fun q0 => ?_) (fun q0 => ?_)
  · refine ldA _ (.blk Bq4) rfl ?_
    refine stA (vs := [.string ByteArray.empty, iv 0, iv 0, iv 0, .slice none 0 0, .slice none 0 0, .slice none 0 0, .slice none 0 0, .slice none 0 0, .slice none 0 0, .slice none 0 0, .slice none 0 0, .map none]) Bq4 rfl (Nat.le_of_ble_eq_true rfl) (by simp [Value.oneCell']) (fun w5 b5 k5 s5 => ?_)
    have b5 : Blk w5 bq 64 [.string ByteArray.empty, iv 0, iv 0, iv 0, .slice none 0 0, .slice none 0 0, .slice none 0 0, .slice none 0 0, .slice none 0 0, .slice none 0 0, .slice none 0 0, .slice none 0 0, .map none] := b5
    refine ret ?_
    refine resL _ (holds_agg (CellsAt.blk b5) rfl) ?_
    have e : askErr d x set = evErr d x := by unfold askErr; rw [if_pos q0]
    exact ⟨x04.then k5 fun b hb _ => by omega, _, by rw [e]; rfl, ⟨_, rfl, rfl, by simp [Value.oneCell']⟩, fun h => absurd (e ▸ h) q0⟩
  have q0 : evErr d x = 0 := q0
  obtain ⟨-, -, hS12, -, hsus⟩ := evErr_ok q0
  refine ldA _ (.blk (Bd.ext x4)) rfl ?_
  refine ldA _ (.blk (Bx.ext x4)) rfl ?_
  refine mmap (fun gm w5 hgm hw5 => ?_)
  have x45 : Ext w4 w5 := by rw [hw5]; exact Kept.alloc _ _ _
  have M5 : MapG kv2 w5 gm (fun _ => none) := by rw [hw5, hgm]; exact MapG.new kv2 w4
  have gl := M5.lt
  refine bld [.string d.name, iv d.hours, iv d.cap, iv d.start, .slice A1 n1 c1, .slice A2 n2 c2, .slice A3 n3 c3, .slice A4 n4 c4, .slice A5 n5 c5, .slice A6 n6 c6, .slice W1 m1 e1, .slice S1 m2 e2, .map (some gm)] (by kernel_rfl) ?_
  refine stA (vs := [.string d.name, iv d.hours, iv d.cap, iv d.start, .slice A1 n1 c1, .slice A2 n2 c2, .slice A3 n3 c3, .slice A4 n4 c4, .slice A5 n5 c5, .slice A6 n6 c6, .slice W1 m1 e1, .slice S1 m2 e2, .map (some gm)]) (Bq4.ext x45) rfl (Nat.le_of_ble_eq_true rfl) (by simp [Value.oneCell']) (fun w6 b6 k6 s6 => ?_)
  have b6 : Blk w6 bq 64 [.string d.name, iv d.hours, iv d.cap, iv d.start, .slice A1 n1 c1, .slice A2 n2 c2, .slice A3 n3 c3, .slice A4 n4 c4, .slice A5 n5 c5, .slice A6 n6 c6, .slice W1 m1 e1, .slice S1 m2 e2, .map (some gm)] := b6
  have s45 := x45.size
  have lq := Bq4.lt
  have x46 : Kept (fun b => b ≠ bq) w4 w6 := (Ext.any x45).then k6 fun b _ hb => hb
  have Bx6 := (Bx.ext x4).kept x46 (by omega)
  have M6 := M5.kept k6 (by omega)
  have x06 : Ext w w6 := x04.then x46 fun b hb _ => by omega
  refine len ?_
  refine loop2 (fun (k : Nat) (last : Int) => [(25, iv (k : Int)), (8, iv last)]) (fun k last u => k ≤ n ∧ Kept (fun b => b ≠ gm) w6 u ∧ setB x.suspects.length (-1) set = setB x.suspects.length last (set.drop k) ∧ -1 ≤ last ∧ last < 9223372036854775807 ∧ (∀ j ∈ set.take k, 0 ≤ j ∧ j ≤ last ∧ j < x.suspects.length) ∧ MapG kv2 u gm (blM x (set.take k))) (fun k _ _ => n - k) 0 (-1) ⟨rfl, rfl, trivial⟩
    ⟨by omega, .refl _ _, rfl, by omega, by omega, fun j h => by simp at h, M6⟩ rfl ?_
  rintro G k last u ⟨hk, ku, hsb, hl0, hl1, hall, Mu⟩
  have bqu := b6.kept ku (by omega)
  have Bxu := Bx6.kept ku (by omega)
  have lqu := bqu.lt
  have x0u : Ext w u := x06.then ku fun b hb _ => by omega
  refine cD (fun hlt => ?_) (fun hge => ?_)
  · have hlt : k < n := by omega
    obtain ⟨b, o, cs, i, rfl, hi, hdi, -, hc, rfl, hi64⟩ := (hset.ext x0u).at_ hlt
    rw [hdi] at hsb
    have err : ¬ (last < i ∧ i < x.suspects.length) → askErr d x set = 480 := fun h => by
      have hf : setB x.suspects.length (-1) set = false := by
        rw [hsb]; unfold setB
        by_cases h1 : last < i
        · rw [decide_eq_true h1, decide_eq_false (fun h2 => h ⟨h1, h2⟩)]; rfl
        · rw [decide_eq_false h1]; rfl
      unfold askErr
      rw [if_neg (by simp [q0]), hf, if_neg (by simp)]
    refine idx k rfl hlt ?_
    refine ld (iv i) (hc 0 _ rfl) ?_
    refine cD (fun q => ?_) (fun p1 => ?_)
    · refine ldA _ (.blk bqu) rfl ?_
      refine stA (vs := [.string d.name, iv d.hours, iv d.cap, iv d.start, .slice A1 n1 c1, .slice A2 n2 c2, .slice A3 n3 c3, .slice A4 n4 c4, .slice A5 n5 c5, .slice A6 n6 c6, .slice W1 m1 e1, .slice S1 m2 e2, .map (some gm)]) bqu rfl (Nat.le_of_ble_eq_true rfl) (by simp [Value.oneCell']) (fun u2 b2 k2 s2 => ?_)
      have b2 : Blk u2 bq 64 [.string d.name, iv d.hours, iv d.cap, iv d.start, .slice A1 n1 c1, .slice A2 n2 c2, .slice A3 n3 c3, .slice A4 n4 c4, .slice A5 n5 c5, .slice A6 n6 c6, .slice W1 m1 e1, .slice S1 m2 e2, .map (some gm)] := b2
      refine ret ?_
      refine resL _ (holds_agg (CellsAt.blk b2) rfl) ?_
      have e := err (by omega)
      exact ⟨x0u.then k2 fun b hb _ => by omega, _, by rw [e]; rfl, ⟨_, rfl, rfl, by simp [Value.oneCell']⟩, fun h => by rw [e] at h; cases h⟩
    refine fldA ?_
    refine ld (.slice S1 m2 e2) (Bxu.cell rfl) ?_
    refine len ?_
    refine cD (fun q => ?_) (fun p2 => ?_)
    · refine ldA _ (.blk bqu) rfl ?_
      refine stA (vs := [.string d.name, iv d.hours, iv d.cap, iv d.start, .slice A1 n1 c1, .slice A2 n2 c2, .slice A3 n3 c3, .slice A4 n4 c4, .slice A5 n5 c5, .slice A6 n6 c6, .slice W1 m1 e1, .slice S1 m2 e2, .map (some gm)]) bqu rfl (Nat.le_of_ble_eq_true rfl) (by simp [Value.oneCell']) (fun u2 b2 k2 s2 => ?_)
      have b2 : Blk u2 bq 64 [.string d.name, iv d.hours, iv d.cap, iv d.start, .slice A1 n1 c1, .slice A2 n2 c2, .slice A3 n3 c3, .slice A4 n4 c4, .slice A5 n5 c5, .slice A6 n6 c6, .slice W1 m1 e1, .slice S1 m2 e2, .map (some gm)] := b2
      refine ret ?_
      refine resL _ (holds_agg (CellsAt.blk b2) rfl) ?_
      have e := err (by omega)
      exact ⟨x0u.then k2 fun b hb _ => by omega, _, by rw [e]; rfl, ⟨_, rfl, rfl, by simp [Value.oneCell']⟩, fun h => by rw [e] at h; cases h⟩
    obtain ⟨iN, rfl⟩ : ∃ iN : Nat, i = (iN : Int) := ⟨i.toNat, by omega⟩
    have hiS : iN < m2 := by omega
    obtain ⟨bs', os, cs', s, rfl, hsv, -, -, hcs, rfl⟩ := (hs.ext x0u).at_ hiS
    have hse : suAt x (iN : Int) = s := by
      unfold suAt
      rw [Int.toNat_natCast, List.getD_eq_getElem?_getD, hsv]; rfl
    refine fldA ?_
    refine ld (.slice (some (ad bs' os)) m2 e2) (Bxu.cell rfl) ?_
    refine idx iN rfl hiS ?_
    refine ldA s.c hcs rfl ?_
    refine alloc (fun t u1 h1'' => ?_)
    refine stA (vs := s.c) h1''.blk rfl (Nat.le_of_ble_eq_true rfl) (by simp [Value.oneCell']) (fun u2 tb s2' zs => ?_)
    have t1' := h1''.at_
    have xu2 : Ext u u2 := h1''.ext.then s2' fun b hb _ e => by omega
    have tb : Blk u2 t 92 s.c := tb
    have M2 := Mu.kept xu2 trivial
    refine fldA ?_
    refine ld (.map (some gm)) ((bqu.ext xu2).cell rfl) ?_
    refine fldA ?_
    refine ld (iv s.kind) (tb.cell rfl) ?_
    refine fldA ?_
    refine ld (iv s.index) (tb.cell rfl) ?_
    refine bld [iv s.kind, iv s.index] (by kernel_rfl) ?_
    refine fldA ?_
    refine ld (iv s.most) (tb.cell rfl) ?_
    refine mupdG (kv := kv2) (s.kind, s.index) M2 (fun u3 M3 k3 z3 => ?_)
    refine arI (by omega) ?_
    have htk : set.take (k + 1) = set.take k ++ [(iN : Int)] := by rw [List.take_add_one, hi]; rfl
    refine next2 (k + 1) (iN : Int) ⟨rfl, rfl, trivial⟩ ⟨by omega, (ku.ext xu2).trans k3, ?_, by omega, by omega, fun j hj => ?_, ?_⟩ (by omega)
    · rw [hsb]
      show (decide (last < (iN : Int)) && (decide ((iN : Int) < x.suspects.length) && setB _ _ _)) = _
      rw [decide_eq_true (by omega), decide_eq_true (by omega)]; rfl
    · rw [htk, List.mem_append, List.mem_singleton] at hj
      rcases hj with hj | hj
      · have := hall j hj; omega
      · omega
    · have hno : blF x (set.take k) (suKey (suAt x (iN : Int))) = none := blF_none fun j hj => by
        obtain ⟨h1, h2, h3⟩ := hall j hj
        have := sus_ne hsus (i := j.toNat) (j := iN) (by omega) (by omega)
        exact this
      have e : blM x (set.take (k + 1)) = pset (blM x (set.take k)) (s.kind, s.index) (iv s.most) := by
        funext key
        unfold blM pset
        rw [htk, blF_app key hno, hse]
        by_cases e : key = suKey s
        · rw [if_pos e, if_pos e]; rfl
        · rw [if_neg e, if_neg e]
      rw [e]; exact M3
  · have hse : askErr d x set = 0 := askErr_ok.2 ⟨q0, by rw [hsb, List.drop_eq_nil_of_le (by omega)]; rfl⟩
    refine ldA _ (.blk bqu) rfl ?_
    refine stA (vs := [.string d.name, iv d.hours, iv d.cap, iv d.start, .slice A1 n1 c1, .slice A2 n2 c2, .slice A3 n3 c3, .slice A4 n4 c4, .slice A5 n5 c5, .slice A6 n6 c6, .slice W1 m1 e1, .slice S1 m2 e2, .map (some gm)]) bqu rfl (Nat.le_of_ble_eq_true rfl) (by simp [Value.oneCell']) (fun u2 b2 k2 s2 => ?_)
    have b2 : Blk u2 bq 64 [.string d.name, iv d.hours, iv d.cap, iv d.start, .slice A1 n1 c1, .slice A2 n2 c2, .slice A3 n3 c3, .slice A4 n4 c4, .slice A5 n5 c5, .slice A6 n6 c6, .slice W1 m1 e1, .slice S1 m2 e2, .map (some gm)] := b2
    refine ret ?_
    refine resL _ (holds_agg (CellsAt.blk b2) rfl) ?_
    rw [List.take_of_length_le (by omega)] at Mu
    exact ⟨x0u.then k2 fun b hb _ => by omega, _, by rw [hse]; rfl, ⟨_, rfl, rfl, by simp [Value.oneCell']⟩, fun _ => ⟨gm, rfl, Mu.kept k2 (by omega), by omega⟩⟩
theorem c_meter {csd csx : List Value} {d : Dist} {x : Ev} {g : Nat} {bl : Int × Int → Option Int} {kind index : Int} {y : Rg} (hd : DiR D w csd d) (hx : EvR D w csx x) (hm : MapG kv2 w g fun key => (bl key).map fun n => iv n) :
    CallZ Try.prog 41 #[.agg (csd ++ (csx ++ [Value.map (some g)])).toArray, iv kind, iv index, .agg y.c.toArray] w (fun v w' => v = .agg (meterV bl kind index y).c.toArray ∧ Ext w w') := by
  obtain ⟨A1, n1, c1, A2, n2, c2, A3, n3, c3, A4, n4, c4, A5, n5, c5, A6, n6, c6, rfl, -⟩ := hd.ex
  obtain ⟨W1, m1, e1, S1, m2, e2, rfl, -⟩ := hx.ex
  refine fn_rule (args := [.agg #[.string d.name, iv d.hours, iv d.cap, iv d.start, .slice A1 n1 c1, .slice A2 n2 c2, .slice A3 n3 c3, .slice A4 n4 c4, .slice A5 n5 c5, .slice A6 n6 c6, .slice W1 m1 e1, .slice S1 m2 e2, .map (some g)], iv kind, iv index, .agg #[iv y.lo, iv y.hi]]) Try.func41 (by kernel_rfl) ?_
  refine box (fun bq w1 h1 => ?_)
  refine box (fun by_ w2 h2 => ?_)
  refine alloc (fun br w3 h3 => ?_)
  have x3 := (h1.ext.trans h2.ext).trans h3.ext
  have Bq : Blk w3 bq 64 [.string d.name, iv d.hours, iv d.cap, iv d.start, .slice A1 n1 c1, .slice A2 n2 c2, .slice A3 n3 c3, .slice A4 n4 c4, .slice A5 n5 c5, .slice A6 n6 c6, .slice W1 m1 e1, .slice S1 m2 e2, .map (some g)] := (h1.blk.ext h2.ext).ext h3.ext
  have By : Blk w3 by_ 56 [iv y.lo, iv y.hi] := h2.blk.ext h3.ext
  have Br : Blk w3 br 56 [iv 0, iv 0] := h3.blk
  have M3 := hm.kept x3 trivial
  have a3 := h3.at_
  have s1 := h1.ext.size
  have s2 := h2.ext.size
  refine fldA ?_
  refine ld (.map (some g)) (Bq.cell rfl) ?_
  refine bld [iv kind, iv index] (by kernel_rfl) ?_
  refine lookG2 (kv := kv2) (kind, index) ((bl (kind, index)).map fun n => iv n) (fun u hu => by subst hu; exact ⟨_, M3, rfl⟩) (fun v hv => ?_) (fun hv => ?_)
  · obtain ⟨n, hn, rfl⟩ : ∃ n, bl (kind, index) = some n ∧ v = iv n := by
      cases hb : bl (kind, index) with
      | none => rw [hb] at hv; cases hv
      | some n => rw [hb] at hv; injection hv with hv; exact ⟨n, rfl, hv.symm⟩
    refine fldA ?_
    refine ld (iv y.hi) (By.cell rfl) ?_
    refine bld [iv 0, iv (max n y.hi)] (by kernel_rfl) ?_
    refine stA (vs := [iv 0, iv (max n y.hi)]) Br rfl (Nat.le_of_ble_eq_true rfl) (by simp [Value.oneCell']) (fun w4 b4 k4 s4 => ?_)
    have b4 : Blk w4 br 56 [iv 0, iv (max n y.hi)] := b4
    refine ret ?_
    refine resL _ (holds_agg (CellsAt.blk b4) rfl) ?_
    exact ⟨by unfold meterV; rw [hn]; rfl, x3.then k4 fun b hb _ => by omega⟩
  · have hn : bl (kind, index) = none := by
      cases hb : bl (kind, index) with
      | none => rfl
      | some n => rw [hb] at hv; cases hv
    refine ldA _ (.blk By) rfl ?_
    refine stA (vs := [iv y.lo, iv y.hi]) Br rfl (Nat.le_of_ble_eq_true rfl) (by simp [Value.oneCell']) (fun w4 b4 k4 s4 => ?_)
    have b4 : Blk w4 br 56 [iv y.lo, iv y.hi] := b4
    refine ret ?_
    refine resL _ (holds_agg (CellsAt.blk b4) rfl) ?_
    exact ⟨by unfold meterV; rw [hn]; rfl, x3.then k4 fun b hb _ => by omega⟩
end
end Go.Proofs.Ytcpdhclnmjfldaa
