/- Parts of the proof: E3 E4 Ec Ed Ee Ef Eg Eh Vt Ei Ej. -/
import Derived.Test.YtcpdhclnmjfldaaGreatDoorM5
import Derived.Test.YtcpdhclnmjfldaaGreatDoorM6
import Derived.Test.YtcpdhclnmjfldaaGreatDoorM3
import Derived.Laws.Cover3

/- Layer 48, plainly: whom a Truth fits. A Truth that fits shows that the heads are possible. -/
namespace Go.Proofs.YtcpdhclnmjfldaaGreatDoor
open Go Go.RowKit

/-! ### sums of parts -/
def owner (d : Dist) (x : Ev) : Dst → Int
  | .tail r => r
  | .head k => (rcE d k).up
  | .outlet k => (fmE d k).reach
  | .taken i => (suE x i).index
def sumT (T : Dst → Int) (l : List (Rg × Dst)) : Int := (l.map fun p => T p.2).sum
theorem sum_le_map {α : Type} {f g : α → Int} : ∀ {l : List α}, (∀ a ∈ l, f a ≤ g a) → (l.map f).sum ≤ (l.map g).sum
  | [], _ => Int.le_refl _
  | a :: l, h => by
    simp only [List.map_cons, List.sum_cons]
    have h1 := h a List.mem_cons_self
    have h2 := sum_le_map (l := l) (f := f) (g := g) fun b hb => h b (List.mem_cons_of_mem _ hb)
    omega
/-- A Truth, as numbers by place, fits a wave. -/
structure FitsT (d : Dist) (x : Ev) (bl : Int × Int → Option Int) (w : Wv) (T : Dst → Int) (A : Nat → Int) : Prop where
  heads : ∀ r, r < d.reaches.length → (meterV bl 1 r (w.heads.getD r g0)).lo ≤ T (.head r) ∧ T (.head r) ≤ (meterV bl 1 r (w.heads.getD r g0)).hi
  outlets : ∀ k, k < d.farms.length → (meterV bl 2 k (w.outlets.getD k g0)).lo ≤ T (.outlet k) ∧ T (.outlet k) ≤ (meterV bl 2 k (w.outlets.getD k g0)).hi
  tails : ∀ r, r < d.reaches.length → (meterV bl 3 r (w.tails.getD r g0)).lo ≤ T (.tail r) ∧ T (.tail r) ≤ (meterV bl 3 r (w.tails.getD r g0)).hi
  taken : ∀ i, i < x.suspects.length → 0 ≤ T (.taken i) ∧ T (.taken i) ≤ if (suE x i).kind = 4 then (bl ((suE x i).kind, (suE x i).index)).getD 0 else 0
  arr : ∀ r, r < d.reaches.length → A r = sumT T (partsL d x bl w (fun _ => g0) r) ∧ arrW (rcE d r) (T (.head r)) ≤ A r ∧ A r ≤ arrB (rcE d r) (T (.head r))

/-- What is right of a district, a wave and a set, for all that follows. -/
structure WavOk (d : Dist) (x : Ev) (bl : Int × Int → Option Int) (w : Wv) : Prop where
  loss : ∀ r, r < d.reaches.length → lossOk (rcE d r) = true
  up : ∀ k, k < d.reaches.length → (rcE d k).up < k
  up0 : ∀ k, 0 < k → k < d.reaches.length → 0 ≤ (rcE d k).up
  farm : ∀ k, k < d.farms.length → 0 ≤ (fmE d k).reach ∧ (fmE d k).reach < d.reaches.length
  heads : ∀ r, r < d.reaches.length → rgOk (w.heads.getD r g0) 1073741824 = true
  outlets : ∀ k, k < d.farms.length → rgOk (w.outlets.getD k g0) 1073741824 = true
  tails : ∀ r, r < d.reaches.length → rgOk (w.tails.getD r g0) 1073741824 = true
  sus : ∀ i, i < x.suspects.length → (suE x i).kind = 4 → 0 ≤ (suE x i).index ∧ (suE x i).index < d.reaches.length
  bl : ∀ key n, bl key = some n → 1 ≤ n ∧ n ≤ 1073741824

section
variable {d : Dist} {x : Ev} {bl : Int × Int → Option Int} {w : Wv} {f g : Nat → Rg} {r k n : Nat} {T : Dst → Int} {A : Nat → Int}
theorem meter_ok (hb : ∀ key n, bl key = some n → 1 ≤ n ∧ n ≤ 1073741824) {kd ix : Int} {y : Rg} (h : rgOk y 1073741824 = true) : rgOk (meterV bl kd ix y) 1073741824 = true := by
  rw [rgOk_iff] at h ⊢
  unfold meterV
  split
  · rename_i n hn
    have := hb _ n hn
    show 0 ≤ (0 : Int) ∧ 0 ≤ max n y.hi ∧ max n y.hi ≤ 1073741824
    omega
  · exact h
theorem g0_ok : rgOk g0 1073741824 = true := by decide
/-- Which parts there are does not hang on the heads; their ranges hang on those of the children alone. -/
theorem mem_parts {p : Rg × Dst} : p ∈ partsL d x bl w f r ↔ p = (meterV bl 3 r (w.tails.getD r g0), .tail r) ∨ (∃ k, k < d.reaches.length ∧ (rcE d k).up = (r : Int) ∧ p = (f k, .head k)) ∨
    (∃ k, k < d.farms.length ∧ (fmE d k).reach = (r : Int) ∧ p = (meterV bl 2 k (w.outlets.getD k g0), .outlet k)) ∨ ∃ i, i < x.suspects.length ∧ (suE x i).kind = 4 ∧ (suE x i).index = (r : Int) ∧ p = (meterV bl 4 r g0, .taken i) := by
  unfold partsL tailP headP outP pumpP
  simp only [List.mem_append, List.mem_cons, List.not_mem_nil, or_false, List.mem_map, List.mem_filter, List.mem_range, Bool.and_eq_true, decide_eq_true_eq]
  constructor
  · rintro (h | ⟨k, ⟨h1, h2⟩, rfl⟩ | ⟨k, ⟨h1, h2⟩, rfl⟩ | ⟨i, ⟨h1, h2, h3⟩, rfl⟩)
    · exact .inl h
    · exact .inr (.inl ⟨k, h1, h2, rfl⟩)
    · exact .inr (.inr (.inl ⟨k, h1, h2, rfl⟩))
    · exact .inr (.inr (.inr ⟨i, h1, h2, h3, rfl⟩))
  · rintro (h | ⟨k, h1, h2, rfl⟩ | ⟨k, h1, h2, rfl⟩ | ⟨i, h1, h2, h3, rfl⟩)
    · exact .inl h
    · exact .inr (.inl ⟨k, ⟨h1, h2⟩, rfl⟩)
    · exact .inr (.inr (.inl ⟨k, ⟨h1, h2⟩, rfl⟩))
    · exact .inr (.inr (.inr ⟨i, ⟨h1, h2, h3⟩, rfl⟩))
theorem parts_congr (h : ∀ k, k < d.reaches.length → (rcE d k).up = (r : Int) → f k = g k) : partsL d x bl w f r = partsL d x bl w g r := by
  have e : headP d f r d.reaches.length = headP d g r d.reaches.length := by
    unfold headP
    refine List.map_congr_left fun k hk => ?_
    rw [List.mem_filter, List.mem_range, decide_eq_true_eq] at hk
    rw [h k hk.1 hk.2]
  unfold partsL; rw [e]
theorem sumT_parts : sumT T (partsL d x bl w f r) = sumT T (partsL d x bl w g r) := by
  unfold sumT partsL headP
  simp only [List.map_append, List.map_map]
  rfl
theorem lo_pos (hw : WavOk d x bl w) (hf : ∀ k, k < d.reaches.length → (rcE d k).up = (r : Int) → 0 ≤ (f k).lo) (hr : r < d.reaches.length) : ∀ p ∈ partsL d x bl w f r, 0 ≤ p.1.lo := by
  intro p hp
  rcases mem_parts.1 hp with rfl | ⟨k, h1, h2, rfl⟩ | ⟨k, h1, h2, rfl⟩ | ⟨i, h1, h2, h3, rfl⟩
  · exact (rgOk_iff.1 (meter_ok hw.bl (hw.tails r hr))).1
  · exact hf k h1 h2
  · exact (rgOk_iff.1 (meter_ok hw.bl (hw.outlets k h1))).1
  · exact (rgOk_iff.1 (meter_ok hw.bl g0_ok)).1
theorem sum_pos {α : Type} {h : α → Int} : ∀ {l : List α}, (∀ a ∈ l, 0 ≤ h a) → 0 ≤ (l.map h).sum
  | [], _ => Int.le_refl _
  | a :: l, hl => by
    simp only [List.map_cons, List.sum_cons]
    have h1 := hl a List.mem_cons_self
    have h2 := sum_pos (l := l) (h := h) fun b hb => hl b (List.mem_cons_of_mem _ hb)
    omega
/-- Each part of a Truth that fits is in its range. -/
theorem fits_part (hf : FitsT d x bl w T A) (hg : ∀ k, k < d.reaches.length → (rcE d k).up = (r : Int) → (f k).lo ≤ T (.head k) ∧ T (.head k) ≤ (f k).hi) (hr : r < d.reaches.length) : ∀ p ∈ partsL d x bl w f r, p.1.lo ≤ T p.2 ∧ T p.2 ≤ p.1.hi := by
  intro p hp
  rcases mem_parts.1 hp with rfl | ⟨k, h1, h2, rfl⟩ | ⟨k, h1, h2, rfl⟩ | ⟨i, h1, h2, h3, rfl⟩
  · exact hf.tails r hr
  · exact hg k h1 h2
  · exact hf.outlets k h1
  · have h := hf.taken i h1
    rw [if_pos h2, h2, h3] at h
    show (meterV bl 4 r g0).lo ≤ _ ∧ _ ≤ (meterV bl 4 r g0).hi
    unfold meterV
    cases hb : bl (4, (r : Int)) with
    | none =>
      rw [hb] at h
      show (0 : Int) ≤ _ ∧ _ ≤ (0 : Int)
      simpa using h
    | some n =>
      rw [hb] at h
      simp only [Option.getD_some] at h
      show (0 : Int) ≤ T (.taken i) ∧ T (.taken i) ≤ max n 0
      omega
theorem head_ok (hw : WavOk d x bl w) (hr : r < d.reaches.length) {lo hi h a : Int} (h0 : 0 ≤ lo) (hla : lo ≤ a) (hah : a ≤ hi) (hh : 0 ≤ h ∧ h ≤ 1073741824) (h1 : arrW (rcE d r) h ≤ a) (h2 : a ≤ arrB (rcE d r) h) :
    lo ≤ 1073741824 ∧ (reachV (rcE d r) lo).2 = true ∧ (reachV (rcE d r) lo).1 ≤ h ∧ h ≤ mostV (rcE d r) (min 1073741824 hi) := by
  have hl := hw.loss r hr
  have ha := arr_le hl hh
  have e1 : lErr (rcE d r) lo = 0 := lErr_ok.2 ⟨hl, by omega, by omega⟩
  have e2 : lErr (rcE d r) (min 1073741824 hi) = 0 := lErr_ok.2 ⟨hl, by omega, by omega⟩
  have f1 := lvB_first (w := lo) hl
  have f2 := lvW_first (w := min 1073741824 hi + 1) hl
  have l1 : lvB (rcE d r) lo ≤ h := by
    rcases Int.lt_or_le h (lvB (rcE d r) lo) with hc | hc
    · have := f1.no h hh.1 hc
      simp only [decide_eq_false_iff_not] at this
      omega
    · exact hc
  refine ⟨by omega, ?_, ?_, ?_⟩
  · unfold reachV; rw [if_neg (by simp [e1]), if_neg (by omega)]
  · unfold reachV; rw [if_neg (by simp [e1]), if_neg (by omega)]; exact l1
  · unfold mostV
    rw [if_neg (by simp [e2])]
    rcases Int.lt_or_le h (lvW (rcE d r) (min 1073741824 hi + 1)) with hc | hc
    · omega
    · have hy := f2.yes (by omega)
      rw [decide_eq_true_eq] at hy
      have := arrW_mono hl f2.le hc
      omega
theorem fits_follow (hw : WavOk d x bl w) (hf : FitsT d x bl w T A) : ∀ (n : Nat) (f : Nat → Rg), n ≤ d.reaches.length → (∀ k, n ≤ k → k < d.reaches.length → 0 ≤ (f k).lo ∧ (f k).lo ≤ T (.head k) ∧ T (.head k) ≤ (f k).hi) → (followV d x bl w n f).isSome = true
  | 0, f, _, _ => rfl
  | n + 1, f, hn, hg => by
    have hr : n < d.reaches.length := by omega
    have kid : ∀ k, k < d.reaches.length → (rcE d k).up = (n : Int) → 0 ≤ (f k).lo ∧ (f k).lo ≤ T (.head k) ∧ T (.head k) ≤ (f k).hi := fun k h1 h2 => hg k (by have := hw.up k h1; omega) h1
    have hp := fits_part (f := f) hf (fun k h1 h2 => (kid k h1 h2).2) hr
    have ha := hf.arr n hr
    rw [sumT_parts (g := f)] at ha
    have s1 : loS (partsL d x bl w f n) ≤ sumT T (partsL d x bl w f n) := sum_le_map fun p hp' => (hp p hp').1
    have s2 : sumT T (partsL d x bl w f n) ≤ hiS (partsL d x bl w f n) := sum_le_map fun p hp' => (hp p hp').2
    have s0 : 0 ≤ loS (partsL d x bl w f n) := sum_pos (lo_pos hw (fun k h1 h2 => (kid k h1 h2).1) hr)
    have ho := hf.heads n hr
    have hm := rgOk_iff.1 (meter_ok hw.bl (kd := 1) (ix := n) (hw.heads n hr))
    obtain ⟨q1, q2, q3, q4⟩ := head_ok hw hr (lo := loS (partsL d x bl w f n)) (hi := hiS (partsL d x bl w f n)) (a := A n) (h := T (.head n)) s0 (by omega) (by omega) (by omega) ha.2.1 ha.2.2
    have hlo : (headV d x bl w f n (rcE d n)).lo ≤ T (.head n) := by show max _ _ ≤ _; omega
    have hhi : T (.head n) ≤ (headV d x bl w f n (rcE d n)).hi := by show _ ≤ min _ _; omega
    have hl0 : 0 ≤ (headV d x bl w f n (rcE d n)).lo := by show 0 ≤ max _ _; omega
    unfold followV
    rw [if_neg (by omega), if_neg (by rw [q2]; simp; omega)]
    refine fits_follow hw hf n _ (by omega) fun k h1 h2 => ?_
    unfold setF
    by_cases e : k = n
    · subst e; rw [if_pos rfl]; exact ⟨hl0, hlo, hhi⟩
    · rw [if_neg e]; exact hg k (by omega) h2
end
end Go.Proofs.YtcpdhclnmjfldaaGreatDoor

/- Layer 48, plainly: the Truth that is filled fits. -/
namespace Go.Proofs.YtcpdhclnmjfldaaGreatDoor
open Go Go.RowKit

def setD (T : Dst → Int) (a : Dst) (v : Int) : Dst → Int := fun b => if b = a then v else T b
def distL : Int → List (Rg × Dst) → List (Dst × Int)
  | _, [] => []
  | left, p :: l => (p.2, p.1.lo + min left (p.1.hi - p.1.lo)) :: distL (left - min left (p.1.hi - p.1.lo)) l
def putL (T : Dst → Int) : List (Dst × Int) → Dst → Int
  | [] => T
  | p :: l => putL (setD T p.1 p.2) l
def T0 (f : Nat → Rg) : Dst → Int := fun a => if a = .head 0 then (f 0).lo else 0
def arrV (d : Dist) (x : Ev) (bl : Int × Int → Option Int) (w : Wv) (f : Nat → Rg) (r : Nat) (T : Dst → Int) : Int := max (loS (partsL d x bl w f r)) (arrW (rcE d r) (T (.head r)))
def fillT (d : Dist) (x : Ev) (bl : Int × Int → Option Int) (w : Wv) (f : Nat → Rg) : Nat → Dst → Int
  | 0 => T0 f
  | r + 1 => putL (fillT d x bl w f r) (distL (arrV d x bl w f r (fillT d x bl w f r) - loS (partsL d x bl w f r)) (partsL d x bl w f r))
def fillA (d : Dist) (x : Ev) (bl : Int × Int → Option Int) (w : Wv) (f : Nat → Rg) (r : Nat) : Int := arrV d x bl w f r (fillT d x bl w f r)

theorem dist_fst : ∀ {l : List (Rg × Dst)} {left : Int}, (distL left l).map (·.1) = l.map (·.2)
  | [], _ => rfl
  | p :: l, left => by unfold distL; rw [List.map_cons, List.map_cons, dist_fst]
theorem dist_ok : ∀ {l : List (Rg × Dst)} {left : Int}, (∀ p ∈ l, p.1.lo ≤ p.1.hi) → 0 ≤ left → left ≤ hiS l - loS l → ((distL left l).map (·.2)).sum = loS l + left ∧ ∀ (j : Nat) (p : Rg × Dst), l[j]? = some p → ∃ v, (distL left l)[j]? = some (p.2, v) ∧ p.1.lo ≤ v ∧ v ≤ p.1.hi
  | [], left, _, h0, h1 => by
    have : left = 0 := by simp [hiS, loS] at h1; omega
    subst this
    exact ⟨rfl, fun j p h => by simp at h⟩
  | p :: l, left, hl, h0, h1 => by
    have hp := hl p List.mem_cons_self
    have e1 : hiS (p :: l) = p.1.hi + hiS l := rfl
    have e2 : loS (p :: l) = p.1.lo + loS l := rfl
    rw [e1, e2] at h1
    obtain ⟨k1, k2⟩ := dist_ok (l := l) (left := left - min left (p.1.hi - p.1.lo)) (fun q hq => hl q (List.mem_cons_of_mem _ hq)) (by omega) (by
      have : loS l ≤ hiS l := sum_le_map fun q hq => hl q (List.mem_cons_of_mem _ hq)
      omega)
    unfold distL
    refine ⟨by rw [List.map_cons, List.sum_cons, k1, e2]; simp only []; omega, fun j q hq => ?_⟩
    cases j with
    | zero =>
      rw [List.getElem?_cons_zero] at hq
      injection hq with hq; subst hq
      exact ⟨_, rfl, by omega, by omega⟩
    | succ j => rw [List.getElem?_cons_succ] at hq ⊢; exact k2 j q hq
theorem put_not : ∀ {l : List (Dst × Int)} {T : Dst → Int} {b : Dst}, b ∉ l.map (·.1) → putL T l b = T b
  | [], _, _, _ => rfl
  | p :: l, T, b, h => by
    rw [List.map_cons, List.mem_cons, not_or] at h
    unfold putL
    rw [put_not h.2]
    unfold setD
    rw [if_neg h.1]
theorem put_mem : ∀ {l : List (Dst × Int)} {T : Dst → Int} {a : Dst} {v : Int}, (l.map (·.1)).Nodup → (a, v) ∈ l → putL T l a = v
  | p :: l, T, a, v, hn, h => by
    rw [List.map_cons, List.nodup_cons] at hn
    unfold putL
    rcases List.mem_cons.1 h with h | h
    · subst h
      rw [put_not hn.1]
      unfold setD
      rw [if_pos rfl]
    · exact put_mem hn.2 h
section
variable {d : Dist} {x : Ev} {bl : Int × Int → Option Int} {w : Wv} {f g : Nat → Rg} {r k n : Nat} {T : Dst → Int} {A : Nat → Int}
theorem parts_nodup : ((partsL d x bl w f r).map (·.2)).Nodup := by
  have h1 : ∀ (q : Nat → Bool) (m : Nat) (c : Nat → Dst), (∀ a b, c a = c b → a = b) → (((List.range m).filter q).map c).Nodup := fun q m c hc => by
    unfold List.Nodup
    rw [List.pairwise_map]
    exact ((List.nodup_range (n := m)).filter q).imp fun h e => h (hc _ _ e)
  unfold partsL tailP headP outP pumpP
  simp only [List.map_append, List.map_map, List.map_cons, List.map_nil]
  rw [List.nodup_append, List.nodup_append, List.nodup_append]
  refine ⟨by simp, ⟨h1 _ _ _ fun a b e => by injection e, ⟨h1 _ _ _ fun a b e => by injection e, h1 _ _ _ fun a b e => by injection e, ?_⟩, ?_⟩, ?_⟩
  · intro a ha b hb e
    obtain ⟨_, _, rfl⟩ := List.mem_map.1 ha
    obtain ⟨_, _, rfl⟩ := List.mem_map.1 hb
    cases e
  · intro a ha b hb e
    obtain ⟨_, _, rfl⟩ := List.mem_map.1 ha
    rcases List.mem_append.1 hb with hb | hb
    · obtain ⟨_, _, rfl⟩ := List.mem_map.1 hb; cases e
    · obtain ⟨_, _, rfl⟩ := List.mem_map.1 hb; cases e
  · intro a ha b hb e
    rw [List.mem_singleton] at ha
    subst ha
    rcases List.mem_append.1 hb with hb | hb
    · obtain ⟨_, _, rfl⟩ := List.mem_map.1 hb; cases e
    rcases List.mem_append.1 hb with hb | hb
    · obtain ⟨_, _, rfl⟩ := List.mem_map.1 hb; cases e
    · obtain ⟨_, _, rfl⟩ := List.mem_map.1 hb; cases e
theorem parts_own : ∀ p ∈ partsL d x bl w f r, owner d x p.2 = (r : Int) := by
  intro p hp
  rcases mem_parts.1 hp with rfl | ⟨k, h1, h2, rfl⟩ | ⟨k, h1, h2, rfl⟩ | ⟨i, h1, h2, h3, rfl⟩
  · rfl
  · exact h2
  · exact h2
  · exact h3
/-- What holds of the heads that are found. -/
structure FOK (d : Dist) (x : Ev) (bl : Int × Int → Option Int) (w : Wv) (f : Nat → Rg) (r : Nat) : Prop where
  lo : loS (partsL d x bl w f r) ≤ 1073741824
  can : (reachV (rcE d r) (loS (partsL d x bl w f r))).2 = true
  eq : f r = headV d x bl w f r (rcE d r)
  le : (f r).lo ≤ (f r).hi
theorem headV_congr (h : ∀ k, k < d.reaches.length → (rcE d k).up = (r : Int) → f k = g k) : headV d x bl w f r (rcE d r) = headV d x bl w g r (rcE d r) := by
  unfold headV; rw [parts_congr h]
theorem follow_ok (hw : WavOk d x bl w) : ∀ (n : Nat) (f0 f : Nat → Rg), n ≤ d.reaches.length → followV d x bl w n f0 = some f → (∀ k, n ≤ k → f k = f0 k) ∧ ∀ r, r < n → FOK d x bl w f r
  | 0, f0, f, _, h => by
    injection h with h; subst h
    exact ⟨fun _ _ => rfl, fun r hr => by omega⟩
  | n + 1, f0, f, hn, h => by
    unfold followV at h
    by_cases h1 : loS (partsL d x bl w f0 n) > 1073741824
    · rw [if_pos h1] at h; cases h
    rw [if_neg h1] at h
    by_cases h2 : (reachV (rcE d n) (loS (partsL d x bl w f0 n))).2 = false ∨ (headV d x bl w f0 n (rcE d n)).lo > (headV d x bl w f0 n (rcE d n)).hi
    · rw [if_pos h2] at h; cases h
    rw [if_neg h2] at h
    obtain ⟨k1, k2⟩ := follow_ok hw n _ f (by omega) h
    have hk : ∀ k, n + 1 ≤ k → f k = f0 k := fun k hk => by
      rw [k1 k (by omega)]; unfold setF; rw [if_neg (by omega)]
    have hkid : ∀ k, k < d.reaches.length → (rcE d k).up = (n : Int) → f k = f0 k := fun k h1 h2 => hk k (by have := hw.up k h1; omega)
    refine ⟨hk, fun r hr => ?_⟩
    by_cases e : r = n
    · subst e
      have hfn : f r = headV d x bl w f0 r (rcE d r) := by rw [k1 r (by omega)]; unfold setF; rw [if_pos rfl]
      refine ⟨?_, ?_, ?_, ?_⟩
      · rw [parts_congr hkid]; omega
      · rw [parts_congr hkid]
        cases hc : (reachV (rcE d r) (loS (partsL d x bl w f0 r))).2 with
        | true => rfl
        | false => exact absurd (.inl hc) h2
      · rw [headV_congr hkid]; exact hfn
      · rw [hfn]; omega
    · exact k2 r (by omega)
theorem fill_fits (hw : WavOk d x bl w) (hR : 0 < d.reaches.length) (hf : ∀ r, r < d.reaches.length → FOK d x bl w f r) : ∀ n, n ≤ d.reaches.length →
    (∀ a, (∀ r, r < n → ∀ p ∈ partsL d x bl w f r, p.2 ≠ a) → fillT d x bl w f n a = T0 f a) ∧
    ∀ r, r < n → (∀ p ∈ partsL d x bl w f r, p.1.lo ≤ fillT d x bl w f n p.2 ∧ fillT d x bl w f n p.2 ≤ p.1.hi) ∧ sumT (fillT d x bl w f n) (partsL d x bl w f r) = fillA d x bl w f r ∧ fillT d x bl w f n (.head r) = fillT d x bl w f r (.head r) ∧
      ((f r).lo ≤ fillT d x bl w f r (.head r) ∧ fillT d x bl w f r (.head r) ≤ (f r).hi)
  | 0, _ => ⟨fun a _ => rfl, fun r hr => by omega⟩
  | n + 1, hn => by
    obtain ⟨i1, i2⟩ := fill_fits hw hR hf n (by omega)
    have hnR : n < d.reaches.length := by omega
    have kid : ∀ r, r < d.reaches.length → ∀ k, k < d.reaches.length → (rcE d k).up = (r : Int) → 0 ≤ (f k).lo ∧ (f k).lo ≤ (f k).hi := fun r hr k h1 h2 => by
      have h := hf k h1
      refine ⟨?_, h.le⟩
      rw [h.eq]
      have := (rgOk_iff.1 (meter_ok hw.bl (kd := 1) (ix := k) (hw.heads k h1))).1
      show 0 ≤ max _ _
      omega
    have rng : ∀ r, r < d.reaches.length → ∀ p ∈ partsL d x bl w f r, p.1.lo ≤ p.1.hi := by
      intro r hr p hp
      rcases mem_parts.1 hp with rfl | ⟨k, h1, h2, rfl⟩ | ⟨k, h1, h2, rfl⟩ | ⟨i, h1, h2, h3, rfl⟩
      · exact (rgOk_iff.1 (meter_ok hw.bl (hw.tails r hr))).2.1
      · exact (kid r hr k h1 h2).2
      · exact (rgOk_iff.1 (meter_ok hw.bl (hw.outlets k h1))).2.1
      · exact (rgOk_iff.1 (meter_ok hw.bl g0_ok)).2.1
    -- the head of the reach n stands already
    have hhead : (f n).lo ≤ fillT d x bl w f n (.head n) ∧ fillT d x bl w f n (.head n) ≤ (f n).hi := by
      by_cases e : n = 0
      · subst e
        show (f 0).lo ≤ T0 f (.head 0) ∧ T0 f (.head 0) ≤ (f 0).hi
        unfold T0
        rw [if_pos rfl]
        exact ⟨Int.le_refl _, (hf 0 hR).le⟩
      · have h0 := hw.up0 n (by omega) hnR
        have h1 := hw.up n hnR
        obtain ⟨q, hq⟩ : ∃ q : Nat, (rcE d n).up = (q : Int) := ⟨(rcE d n).up.toNat, by omega⟩
        exact (i2 q (by omega)).1 (f n, .head n) (mem_parts.2 (.inr (.inl ⟨n, hnR, hq, rfl⟩)))
    have hfn := hf n hnR
    have own := rgOk_iff.1 (meter_ok hw.bl (kd := 1) (ix := n) (hw.heads n hnR))
    have hlo : (f n).lo = max (reachV (rcE d n) (loS (partsL d x bl w f n))).1 (meterV bl 1 n (w.heads.getD n g0)).lo := by rw [hfn.eq]; rfl
    have hhi : (f n).hi = min (mostV (rcE d n) (min 1073741824 (hiS (partsL d x bl w f n)))) (meterV bl 1 n (w.heads.getD n g0)).hi := by rw [hfn.eq]; rfl
    have s0 : 0 ≤ loS (partsL d x bl w f n) := sum_pos (lo_pos hw (fun k h1 h2 => (kid n hnR k h1 h2).1) hnR)
    have s1 : loS (partsL d x bl w f n) ≤ hiS (partsL d x bl w f n) := sum_le_map (rng n hnR)
    have hle := hfn.lo
    have hl := hw.loss n hnR
    have e2 : lErr (rcE d n) (min 1073741824 (hiS (partsL d x bl w f n))) = 0 := lErr_ok.2 ⟨hl, by omega, by omega⟩
    have hcap : arrW (rcE d n) (fillT d x bl w f n (.head n)) ≤ hiS (partsL d x bl w f n) := by
      have f2 := lvW_first (w := min 1073741824 (hiS (partsL d x bl w f n)) + 1) hl
      have hm : fillT d x bl w f n (.head n) ≤ mostV (rcE d n) (min 1073741824 (hiS (partsL d x bl w f n))) := by omega
      unfold mostV at hm
      rw [if_neg (by simp [e2])] at hm
      have := f2.no (fillT d x bl w f n (.head n)) (by omega) (by omega)
      simp only [decide_eq_false_iff_not] at this
      omega
    obtain ⟨a, ha⟩ : ∃ a, a = fillA d x bl w f n := ⟨_, rfl⟩
    have ha' : a = max (loS (partsL d x bl w f n)) (arrW (rcE d n) (fillT d x bl w f n (.head n))) := ha
    obtain ⟨k1, k2⟩ := dist_ok (l := partsL d x bl w f n) (left := a - loS (partsL d x bl w f n)) (rng n hnR) (by omega) (by omega)
    have hst : fillT d x bl w f (n + 1) = putL (fillT d x bl w f n) (distL (a - loS (partsL d x bl w f n)) (partsL d x bl w f n)) := by rw [ha]; rfl
    have nd : ((distL (a - loS (partsL d x bl w f n)) (partsL d x bl w f n)).map (·.1)).Nodup := by rw [dist_fst]; exact parts_nodup
    have keep : ∀ b, owner d x b ≠ (n : Int) → fillT d x bl w f (n + 1) b = fillT d x bl w f n b := fun b hb => by
      rw [hst, put_not]
      rw [dist_fst]
      intro hm
      obtain ⟨p, hp, rfl⟩ := List.mem_map.1 hm
      exact hb (parts_own p hp)
    have hown : owner d x (.head n) ≠ (n : Int) := by
      have := hw.up n hnR
      show (rcE d n).up ≠ _
      omega
    refine ⟨fun b hb => ?_, fun r hr => ?_⟩
    · rw [hst, put_not, i1 b fun r hr => hb r (by omega)]
      rw [dist_fst]
      intro hm
      obtain ⟨p, hp, rfl⟩ := List.mem_map.1 hm
      exact hb n (by omega) p hp rfl
    · by_cases e : r = n
      · subst e
        refine ⟨fun p hp => ?_, ?_, keep _ hown, hhead⟩
        · obtain ⟨j, hj⟩ := List.getElem?_of_mem hp
          obtain ⟨v, hv, hv2⟩ := k2 j p hj
          rw [hst, put_mem nd (List.mem_of_getElem? hv)]
          exact hv2
        · unfold sumT
          rw [show (fun p : Rg × Dst => fillT d x bl w f (r + 1) p.2) = (fillT d x bl w f (r + 1)) ∘ (·.2) from rfl, ← List.map_map, ← dist_fst (left := a - loS (partsL d x bl w f r)), List.map_map, ← ha]
          have : (distL (a - loS (partsL d x bl w f r)) (partsL d x bl w f r)).map ((fillT d x bl w f (r + 1)) ∘ (·.1)) = (distL (a - loS (partsL d x bl w f r)) (partsL d x bl w f r)).map (·.2) :=
            List.map_congr_left fun q hq => by
              show fillT d x bl w f (r + 1) q.1 = q.2
              rw [hst]; exact put_mem nd hq
          rw [this, k1]; omega
      · have hr' : r < n := by omega
        obtain ⟨j1, j2, j3, j4⟩ := i2 r hr'
        have kp : ∀ p ∈ partsL d x bl w f r, fillT d x bl w f (n + 1) p.2 = fillT d x bl w f n p.2 := fun p hp => keep _ (by rw [parts_own p hp]; omega)
        refine ⟨fun p hp => by rw [kp p hp]; exact j1 p hp, ?_, ?_, j4⟩
        · rw [← j2]
          unfold sumT
          exact congrArg List.sum (List.map_congr_left fun p hp => kp p hp)
        · rw [← j3]
          refine keep _ ?_
          have := hw.up r (by omega)
          show (rcE d r).up ≠ _
          omega
theorem filled (hw : WavOk d x bl w) (hR : 0 < d.reaches.length) (hf : ∀ r, r < d.reaches.length → FOK d x bl w f r) : FitsT d x bl w (fillT d x bl w f d.reaches.length) (fillA d x bl w f) := by
  obtain ⟨i1, i2⟩ := fill_fits hw hR hf d.reaches.length (Nat.le_refl _)
  have fl : ∀ r, r < d.reaches.length → (f r).lo = max (reachV (rcE d r) (loS (partsL d x bl w f r))).1 (meterV bl 1 r (w.heads.getD r g0)).lo ∧ (f r).hi = min (mostV (rcE d r) (min 1073741824 (hiS (partsL d x bl w f r)))) (meterV bl 1 r (w.heads.getD r g0)).hi := fun r hr => by
    have := (hf r hr).eq
    exact ⟨by rw [this]; rfl, by rw [this]; rfl⟩
  refine ⟨fun r hr => ?_, fun k hk => ?_, fun r hr => ?_, fun i hi => ?_, fun r hr => ?_⟩
  · obtain ⟨-, -, h3, h4⟩ := i2 r hr
    have := fl r hr
    rw [h3]; omega
  · have := hw.farm k hk
    obtain ⟨q, hq⟩ : ∃ q : Nat, (fmE d k).reach = (q : Int) := ⟨(fmE d k).reach.toNat, by omega⟩
    exact (i2 q (by omega)).1 _ (mem_parts.2 (.inr (.inr (.inl ⟨k, hk, hq, rfl⟩))))
  · exact (i2 r hr).1 _ (mem_parts.2 (.inl rfl))
  · by_cases hk : (suE x i).kind = 4
    · rw [if_pos hk, hk]
      have hx := hw.sus i hi hk
      obtain ⟨q, hq⟩ : ∃ q : Nat, (suE x i).index = (q : Int) := ⟨(suE x i).index.toNat, by omega⟩
      have h := (i2 q (by omega)).1 (meterV bl 4 q g0, .taken i) (mem_parts.2 (.inr (.inr (.inr ⟨i, hi, hk, hq, rfl⟩))))
      rw [hq]
      unfold meterV at h
      cases hb : bl (4, (q : Int)) with
      | none =>
        rw [hb] at h
        have h1 : (0 : Int) ≤ fillT d x bl w f d.reaches.length (.taken i) := h.1
        have h2 : fillT d x bl w f d.reaches.length (.taken i) ≤ (0 : Int) := h.2
        exact ⟨h1, h2⟩
      | some n =>
        have := hw.bl _ n hb
        rw [hb] at h
        have h1 : (0 : Int) ≤ fillT d x bl w f d.reaches.length (.taken i) := h.1
        have h2 : fillT d x bl w f d.reaches.length (.taken i) ≤ max n 0 := h.2
        exact ⟨h1, by show _ ≤ n; omega⟩
    · rw [if_neg hk, i1 (.taken i) fun r _ p hp e => ?_]
      · unfold T0; rw [if_neg (by simp)]; omega
      · rcases mem_parts.1 hp with rfl | ⟨k, h1, h2, rfl⟩ | ⟨k, h1, h2, rfl⟩ | ⟨j, h1, h2, h3, rfl⟩
        · cases e
        · cases e
        · cases e
        · injection e with e; subst e; exact hk h2
  · obtain ⟨-, h2, h3, h4⟩ := i2 r hr
    have own := rgOk_iff.1 (meter_ok hw.bl (kd := 1) (ix := r) (hw.heads r hr))
    have hl := hw.loss r hr
    have hfr := hf r hr
    have := fl r hr
    have s0 : 0 ≤ loS (partsL d x bl w f r) := sum_pos (lo_pos hw (fun k h1 h2 => by
      rw [(hf k h1).eq]
      have := (rgOk_iff.1 (meter_ok hw.bl (kd := 1) (ix := k) (hw.heads k h1))).1
      show 0 ≤ max _ _
      omega) hr)
    have hle := hfr.lo
    have e1 : lErr (rcE d r) (loS (partsL d x bl w f r)) = 0 := lErr_ok.2 ⟨hl, by omega, by omega⟩
    have hcan := hfr.can
    have hal := arr_le hl (v := fillT d x bl w f r (.head r)) (by omega)
    have hA : fillA d x bl w f r = max (loS (partsL d x bl w f r)) (arrW (rcE d r) (fillT d x bl w f r (.head r))) := rfl
    refine ⟨by rw [sumT_parts (g := f), h2], ?_, ?_⟩
    · rw [h3]; omega
    · rw [h3]
      have f1 := lvB_first (w := loS (partsL d x bl w f r)) hl
      unfold reachV at hcan this
      rw [if_neg (by simp [e1])] at hcan this
      by_cases hc : lvB (rcE d r) (loS (partsL d x bl w f r)) > 1073741824
      · rw [if_pos hc] at hcan; cases hcan
      · rw [if_neg hc] at this
        have hy := f1.yes (by omega)
        rw [decide_eq_true_eq] at hy
        have := arrB_mono hl f1.le (show lvB (rcE d r) (loS (partsL d x bl w f r)) ≤ fillT d x bl w f r (.head r) by omega)
        omega
end
end Go.Proofs.YtcpdhclnmjfldaaGreatDoor

/- Layer 48: contract of follow. -/
namespace Go.Proofs.YtcpdhclnmjfldaaGreatDoor
open Go Go.RowKit

abbrev rgs (l : List Rg) : List Value := l.flatMap Rg.c
theorem rgs_len : ∀ l : List Rg, (rgs l).length = l.length * 2
  | [] => rfl
  | p :: l => by
    have e : (rgs (p :: l)).length = 2 + (rgs l).length := by show (p.c ++ rgs l).length = _; rw [List.length_append]; rfl
    rw [e, rgs_len l, List.length_cons]; omega
theorem flat_rgs {D : Nat → Prop} {w : World} : ∀ {l : List Rg}, FlatR tRg D w l (rgs l)
  | [] => rfl
  | m :: l => ⟨m.c, rgs l, rfl, rfl, flat_rgs⟩
theorem rgs_set : ∀ {l : List Rg} {i : Nat} {m : Rg}, i < l.length → (rgs l).take (i * 2) ++ m.c ++ (rgs l).drop (i * 2 + 2) = rgs (l.set i m)
  | p :: l, 0, m, _ => by
    show (p.c ++ rgs l).take (0 * 2) ++ m.c ++ (p.c ++ rgs l).drop (0 * 2 + 2) = m.c ++ rgs l
    rfl
  | p :: l, i + 1, m, h => by
    have ih := rgs_set (l := l) (i := i) (m := m) (by simpa using h)
    show (p.c ++ rgs l).take ((i + 1) * 2) ++ m.c ++ (p.c ++ rgs l).drop ((i + 1) * 2 + 2) = p.c ++ rgs (l.set i m)
    rw [← ih, show (i + 1) * 2 = i * 2 + 2 by omega]
    rfl
theorem getD_set {l : List Rg} {i : Nat} {m : Rg} (h : i < l.length) : (fun k => (l.set i m).getD k g0) = setF (fun k => l.getD k g0) i m := by
  funext k
  unfold setF
  by_cases e : k = i
  · subst e; rw [if_pos rfl, List.getD_eq_getElem?_getD, List.getElem?_set_self h]; rfl
  · rw [if_neg e, List.getD_eq_getElem?_getD, List.getElem?_set_ne (fun e2 => e e2.symm), ← List.getD_eq_getElem?_getD]
theorem rgs_zero {R : Nat} : (List.replicate R [iv 0, iv 0]).flatten = rgs (List.replicate R g0) := by
  induction R with
  | zero => rfl
  | succ R ih => rw [List.replicate_succ, List.replicate_succ, List.flatten_cons, ih]; rfl
def HeadsB (l : List Rg) : Prop := ∀ k, (0 ≤ (l.getD k g0).lo ∧ (l.getD k g0).lo ≤ 1073741824) ∧ -1 ≤ (l.getD k g0).hi ∧ (l.getD k g0).hi ≤ 1073741824
section
variable {d : Dist} {x : Ev} {bl : Int × Int → Option Int} {v : Wv} {f : Nat → Rg} {hl : List Rg} {r : Nat}
theorem parts_len : (partsL d x bl v f r).length ≤ 1 + d.reaches.length + d.farms.length + x.suspects.length := by
  have h : ∀ (q : Nat → Bool) (m : Nat), ((List.range m).filter q).length ≤ m := fun q m => by
    have := List.length_filter_le q (List.range m)
    rw [List.length_range] at this; exact this
  unfold partsL tailP headP outP pumpP
  simp only [List.length_append, List.length_map, List.length_cons, List.length_nil]
  have h1 := h (fun k : Nat => decide ((rcE d k).up = (r : Int))) d.reaches.length
  have h2 := h (fun k : Nat => decide ((fmE d k).reach = (r : Int))) d.farms.length
  have h3 := h (fun i : Nat => decide ((suE x i).kind = 4) && decide ((suE x i).index = (r : Int))) x.suspects.length
  omega
theorem parts_b (hw : WavOk d x bl v) (hR : d.reaches.length ≤ 64) (hF : d.farms.length ≤ 600) (hS : x.suspects.length ≤ 12) (hb : HeadsB hl) (hr : r < d.reaches.length) : PartsB (partsL d x bl v (fun k => hl.getD k g0) r) := by
  have hlen := parts_len (d := d) (x := x) (bl := bl) (v := v) (f := fun k => hl.getD k g0) (r := r)
  refine ⟨by omega, fun p hp => ?_⟩
  have ok : ∀ {y : Rg}, rgOk y 1073741824 = true → (0 ≤ y.lo ∧ y.lo ≤ 1073741824) ∧ -1 ≤ y.hi ∧ y.hi ≤ 1073741824 := fun h => by rw [rgOk_iff] at h; omega
  rcases mem_parts.1 hp with rfl | ⟨k, h1, h2, rfl⟩ | ⟨k, h1, h2, rfl⟩ | ⟨i, h1, h2, h3, rfl⟩
  · exact ok (meter_ok hw.bl (hw.tails r hr))
  · exact hb k
  · exact ok (meter_ok hw.bl (hw.outlets k h1))
  · exact ok (meter_ok hw.bl g0_ok)
theorem head_b (hw : WavOk d x bl v) (hr : r < d.reaches.length) : (0 ≤ (headV d x bl v f r (rcE d r)).lo ∧ (headV d x bl v f r (rcE d r)).lo ≤ 1073741824) ∧ -1 ≤ (headV d x bl v f r (rcE d r)).hi ∧ (headV d x bl v f r (rcE d r)).hi ≤ 1073741824 := by
  have ho := rgOk_iff.1 (meter_ok hw.bl (kd := 1) (ix := r) (hw.heads r hr))
  have hl := hw.loss r hr
  have h1 : 0 ≤ (reachV (rcE d r) (loS (partsL d x bl v f r))).1 ∧ (reachV (rcE d r) (loS (partsL d x bl v f r))).1 ≤ 1073741824 := by
    unfold reachV
    have := (lvB_first (w := loS (partsL d x bl v f r)) hl).le
    split
    · exact ⟨by decide, by decide⟩
    · split
      · exact ⟨by decide, by decide⟩
      · exact ⟨this, by show lvB _ _ ≤ _; omega⟩
  have h2 : -1 ≤ mostV (rcE d r) (min 1073741824 (hiS (partsL d x bl v f r))) := by
    unfold mostV
    have := (lvW_first (w := min 1073741824 (hiS (partsL d x bl v f r)) + 1) hl).le
    split <;> omega
  show (0 ≤ max _ _ ∧ max _ _ ≤ _) ∧ -1 ≤ min _ _ ∧ min _ _ ≤ _
  omega
end
/-- What follow has made. -/
structure CrsN (w w' : World) (bc gm bh t1 t2 t3 t4 t5 : Nat) (csd csx cw : List Value) (d : Dist) (x : Ev) (bl : Int × Int → Option Int) (v : Wv) (hl : List Rg) : Prop where
  crs : CrsR (fun b => b < w.heap.size ∨ b = bc ∨ b = bh) w' bc gm bh t1 t2 t3 t4 t5 csd csx cw d x bl v hl
  hlen : hl.length = d.reaches.length
  b1 : Blk w' t1 3 (icells d.reaches.length fun _ => 0)
  b2 : Blk w' t2 3 (icells d.farms.length fun _ => 0)
  b3 : Blk w' t3 3 (icells d.reaches.length fun _ => 0)
  b4 : Blk w' t4 3 (icells d.reaches.length fun _ => 0)
  b5 : Blk w' t5 3 (icells x.suspects.length fun _ => 0)
  new : w.heap.size ≤ bc ∧ w.heap.size ≤ bh ∧ w.heap.size ≤ t1 ∧ w.heap.size ≤ t2 ∧ w.heap.size ≤ t3 ∧ w.heap.size ≤ t4 ∧ w.heap.size ≤ t5
  ne : (bc ≠ bh ∧ bc ≠ t1 ∧ bc ≠ t2 ∧ bc ≠ t3 ∧ bc ≠ t4 ∧ bc ≠ t5) ∧ (bh ≠ t1 ∧ bh ≠ t2 ∧ bh ≠ t3 ∧ bh ≠ t4 ∧ bh ≠ t5) ∧ (t1 ≠ t2 ∧ t1 ≠ t3 ∧ t1 ≠ t4 ∧ t1 ≠ t5) ∧ (t2 ≠ t3 ∧ t2 ≠ t4 ∧ t2 ≠ t5) ∧ (t3 ≠ t4 ∧ t3 ≠ t5) ∧ t4 ≠ t5
section
variable {w : World}
set_option maxRecDepth 8000 in
theorem c_follow {D : Nat → Prop} {csd csx cw : List Value} {gm : Nat} {d : Dist} {x : Ev} {bl : Int × Int → Option Int} {v : Wv} (hd : DiR D w csd d) (hx : EvR D w csx x) (hwv : tWv.rep D w cw v) (hm : MapG kv2 w gm fun key => (bl key).map fun n => iv n)
    (hw : WavOk d x bl v) (hR : d.reaches.length ≤ 64) (hF : d.farms.length ≤ 600) (hS : x.suspects.length ≤ 12) (hlh : v.heads.length = d.reaches.length) (hlo : v.outlets.length = d.farms.length) (hlt : v.tails.length = d.reaches.length) :
    CallZ Tryz.prog 45 #[.agg (csd ++ (csx ++ [Value.map (some gm)])).toArray, .agg cw.toArray] w (fun u w' => Ext w w' ∧ ∃ bc, u = .tuple #[ptr bc, .bool (followV d x bl v d.reaches.length fun _ => g0).isSome] ∧
      ∀ f, followV d x bl v d.reaches.length (fun _ => g0) = some f → ∃ bh t1 t2 t3 t4 t5 hl, CrsN w w' bc gm bh t1 t2 t3 t4 t5 csd csx cw d x bl v hl ∧ f = fun k => hl.getD k g0) := by
  have hd := hd.more (D' := fun b => b < w.heap.size) fun b hb _ => hb
  have hx := hx.more (D' := fun b => b < w.heap.size) fun b hb _ => hb
  have hwv := tWv.more (fun b hb (_ : D b) => (hb : (fun b => b < w.heap.size) b)) hwv
  have gml := hm.lt
  obtain ⟨A1, n1, c1, A2, n2, c2, A3, n3, c3, A4, n4, c4, A5, n5, c5, A6, n6, c6, rfl, hrr, hfa, -⟩ := hd.ex
  obtain ⟨W1, m1, e1, S1, m2, e2, rfl, -, hsu, -⟩ := hx.ex
  obtain ⟨H1, h1, k1, O1, o1, k2, T1, g1, k3, rfl, -, sh, so, st⟩ := wv_open hwv
  have ln := hrr.len
  have lf := hfa.len
  have ls := hsu.len
  have lh := sh.len
  refine fn_rule (args := [.agg #[.string d.name, iv d.hours, iv d.cap, iv d.start, .slice A1 n1 c1, .slice A2 n2 c2, .slice A3 n3 c3, .slice A4 n4 c4, .slice A5 n5 c5, .slice A6 n6 c6, .slice W1 m1 e1, .slice S1 m2 e2, .map (some gm)], .agg #[iv v.hour, .slice H1 h1 k1, .slice O1 o1 k2, .slice T1 g1 k3]]) Tryz.func45 (by kernel_rfl) ?_
  refine box (fun bq w1 j1 => ?_)
  refine box (fun bw w2 j2 => ?_)
  refine alloc (fun b4 w3 j3 => ?_)
  refine alloc (fun b5 w4 j4 => ?_)
  have x4 := ((j1.ext.trans j2.ext).trans j3.ext).trans j4.ext
  have Bq : Blk w4 bq 113 [.string d.name, iv d.hours, iv d.cap, iv d.start, .slice A1 n1 c1, .slice A2 n2 c2, .slice A3 n3 c3, .slice A4 n4 c4, .slice A5 n5 c5, .slice A6 n6 c6, .slice W1 m1 e1, .slice S1 m2 e2, .map (some gm)] := ((j1.blk.ext j2.ext).ext j3.ext).ext j4.ext
  have Bw : Blk w4 bw 65 [iv v.hour, .slice H1 h1 k1, .slice O1 o1 k2, .slice T1 g1 k3] := (j2.blk.ext j3.ext).ext j4.ext
  have B4 : Blk w4 b4 117 [.pointer none] := j3.blk.ext j4.ext
  have B5 : Blk w4 b5 4 [.bool false] := j4.blk
  have a1 := j1.at_
  have a2 := j2.at_
  have a3 := j3.at_
  have a4 := j4.at_
  have s1 := j1.size
  have s2 := j2.size
  have s3 := j3.size
  have s4 := j4.size
  refine fldA ?_
  refine fldA ?_
  refine ld (.slice A1 n1 c1) (Bq.cell rfl) ?_
  refine len ?_
  -- the course
  refine drawK (fun b => b ≠ b4) [0, 1, 2, 3, 4, 5, 6] [3, 5, 6] mx (by kernel_rfl) ?_
  refine ldAK _ (.blk Bq) rfl (show bq ≠ b4 by omega) (.refl _ _) ?_
  refine ldAK _ (.blk Bw) rfl (show bw ≠ b4 by omega) (.refl _ _) ?_
  refine mslc (sz := 2) (zv := .agg #[iv 0, iv 0]) n1 rfl rfl (by omega) (by omega) rfl (by decide) (fun bh w5 j5 => ?_)
  refine strK j5.ext.any ?_
  refine bld [.string d.name, iv d.hours, iv d.cap, iv d.start, .slice A1 n1 c1, .slice A2 n2 c2, .slice A3 n3 c3, .slice A4 n4 c4, .slice A5 n5 c5, .slice A6 n6 c6, .slice W1 m1 e1, .slice S1 m2 e2, .map (some gm), iv v.hour, .slice H1 h1 k1, .slice O1 o1 k2, .slice T1 g1 k3, .slice (some (ad bh 0)) n1 n1, .slice none 0 0, .slice none 0 0, .slice none 0 0, .slice none 0 0, .slice none 0 0] (by kernel_rfl) ?_
  refine box (fun bc w6 j6 => ?_)
  refine strK j6.ext.any ?_
  refine st1 ((B4.ext j5.ext).ext j6.ext) rfl (fun w7 b47 k7 => ?_)
  refine strK k7 ?_
  have a5 := j5.at_
  have a6 := j6.at_
  have s5 := j5.size
  have s6 := j6.size
  have s7 := k7.size
  have x47 : Kept (fun b => b ≠ b4) w4 w7 := ((Ext.any j5.ext).ext j6.ext).then k7 fun b _ h => h
  have Bh7 : Blk w7 bh 139 (rgs (List.replicate n1 g0)) := by rw [← rgs_zero]; exact (j5.blk.ext j6.ext).kept k7 (by omega)
  have Bc7 : Blk w7 bc 145 [.string d.name, iv d.hours, iv d.cap, iv d.start, .slice A1 n1 c1, .slice A2 n2 c2, .slice A3 n3 c3, .slice A4 n4 c4, .slice A5 n5 c5, .slice A6 n6 c6, .slice W1 m1 e1, .slice S1 m2 e2, .map (some gm), iv v.hour, .slice H1 h1 k1, .slice O1 o1 k2, .slice T1 g1 k3, .slice (some (ad bh 0)) n1 n1, .slice none 0 0, .slice none 0 0, .slice none 0 0, .slice none 0 0, .slice none 0 0] := j6.blk.kept k7 (by omega)
  have Bq7 := Bq.kept x47 (by omega)
  have Bw7 := Bw.kept x47 (by omega)
  have B57 := B5.kept x47 (by omega)
  -- the Truth
  refine draw_w (fun u => Kept (fun b => b ≠ bc) w7 u ∧ ∃ t1 t2 t3 t4 t5, Blk u bc 145 [.string d.name, iv d.hours, iv d.cap, iv d.start, .slice A1 n1 c1, .slice A2 n2 c2, .slice A3 n3 c3, .slice A4 n4 c4, .slice A5 n5 c5, .slice A6 n6 c6, .slice W1 m1 e1, .slice S1 m2 e2, .map (some gm), iv v.hour, .slice H1 h1 k1, .slice O1 o1 k2, .slice T1 g1 k3, .slice (some (ad bh 0)) n1 n1, .slice (some (ad t1 0)) n1 n1, .slice (some (ad t2 0)) n2 n2, .slice (some (ad t3 0)) n1 n1, .slice (some (ad t4 0)) n1 n1, .slice (some (ad t5 0)) m2 m2] ∧ Blk u t1 3 (icells n1 fun _ => 0) ∧ Blk u t2 3 (icells n2 fun _ => 0) ∧ Blk u t3 3 (icells n1 fun _ => 0) ∧ Blk u t4 3 (icells n1 fun _ => 0) ∧ Blk u t5 3 (icells m2 fun _ => 0) ∧
    (w7.heap.size ≤ t1 ∧ w7.heap.size ≤ t2 ∧ w7.heap.size ≤ t3 ∧ w7.heap.size ≤ t4 ∧ w7.heap.size ≤ t5) ∧ (t1 ≠ t2 ∧ t1 ≠ t3 ∧ t1 ≠ t4 ∧ t1 ≠ t5) ∧ (t2 ≠ t3 ∧ t2 ≠ t4 ∧ t2 ≠ t5) ∧ (t3 ≠ t4 ∧ t3 ≠ t5) ∧ t4 ≠ t5) ?_ ?_
  · refine drawP (.take 0 (.take 1 (.take 3 (.take 4 (.take 5 (.take 6 (.take 8 (.take 10 (.take 12 (.take 13 (.take 14 (.take 15 (permP 5 [2, 7, 9, 11, 16] (.take 17 (.take 18 (.take 19 (.eff 20 .done))))))))))))))))) [] (fun u => Kept (fun b => b ≠ bc) w7 u) mx (by kernel_rfl) (.refl _ _) ?_
    refine ldS (ptr bc) (fun u hu => hu.cell (b47.cell rfl) (show b4 ≠ bc by omega)) ?_
    refine fldA ?_
    refine fldA ?_
    refine ldS (.slice A2 n2 c2) (fun u hu => hu.cell (Bq7.cell rfl) (show bq ≠ bc by omega)) ?_
    refine len ?_
    refine fldA ?_
    refine fldA ?_
    refine ldS (.slice S1 m2 e2) (fun u hu => hu.cell (Bq7.cell rfl) (show bq ≠ bc by omega)) ?_
    refine len ?_
    have start : ∀ F : Fr, F 26 = ptr bc → F 27 = iv (n1 : Int) → F 32 = iv (n2 : Int) → F 34 = iv (n1 : Int) → F 36 = iv (n1 : Int) → F 41 = iv (m2 : Int) → I5 w7 bc n1 n2 m2 E5 F w7 := fun F h0 h1 h2 h3 h4 h5 => by
      refine ⟨fun _ h => h, by decide, .refl _ _, h0, fun e he => ?_, ⟨fun _ => 0, fun e he hn => absurd he hn, fun e he _ _ hn => absurd he hn⟩⟩
      rcases List.mem_cons.1 he with rfl | he
      · exact h1
      rcases List.mem_cons.1 he with rfl | he
      · exact h2
      rcases List.mem_cons.1 he with rfl | he
      · exact h3
      rcases List.mem_cons.1 he with rfl | he
      · exact h4
      rcases List.mem_cons.1 he with rfl | he
      · exact h5
      · cases he
    rw [fv_eq]
    generalize hp : permP 5 [2, 7, 9, 11, 16] (.take 17 (.take 18 (.take 19 (.eff 20 .done)))) = p
    change VPlan _ _ _ _ p _ _ _
    rw [← hp]
    refine vplan_perm (I5 w7 bc n1 n2 m2) ?step ?fin 5 [2, 7, 9, 11, 16] _ _ rfl ?ini
    case ini => exact start _ rfl rfl rfl rfl rfl rfl
    · intro rem e F u C he hI hC
      have he5 := hI.sub e he
      have go : ∀ (z : Nat), z ≤ 1000 → e5z n1 n2 m2 e = z → MSlcP Tryz.prog 45 (iv (e5z n1 n2 m2 e : Int)) (iv (e5z n1 n2 m2 e : Int)) (fun y u' => fv y fun y => StrP (fun u => Kept (fun b => b ≠ bc) w7 u) u' (fun S' => C S' (upd F (e5s e) y) u')) u := fun z hz hez => by
        rw [hez]
        refine mslc (sz := 1) (zv := iv 0) z rfl rfl (by omega) (by omega) rfl (by decide) (fun g u' hn => ?_)
        refine strS (Ext.any (hI.kept.trans hn.ext)) ?_
        have hs := hI.step he (g := g) (w' := u') (by rw [hez]; exact hn)
        rw [hez] at hs
        exact hC _ _ hs
      have hsrc := hI.src e he5
      rcases List.mem_cons.1 he5 with rfl | h
      · have h0 : F 27 = iv (n1 : Int) := hsrc
        have g0' := go n1 (by omega) rfl
        show MSlcP _ _ (F 27) (F 27) _ u
        rw [h0]; exact g0'
      rcases List.mem_cons.1 h with rfl | h
      · have h0 : F 32 = iv (n2 : Int) := hsrc
        have g0' := go n2 (by omega) rfl
        show MSlcP _ _ (F 32) (F 32) _ u
        rw [h0]; exact g0'
      rcases List.mem_cons.1 h with rfl | h
      · have h0 : F 34 = iv (n1 : Int) := hsrc
        have g0' := go n1 (by omega) rfl
        show MSlcP _ _ (F 34) (F 34) _ u
        rw [h0]; exact g0'
      rcases List.mem_cons.1 h with rfl | h
      · have h0 : F 36 = iv (n1 : Int) := hsrc
        have g0' := go n1 (by omega) rfl
        show MSlcP _ _ (F 36) (F 36) _ u
        rw [h0]; exact g0'
      rcases List.mem_cons.1 h with rfl | h
      · have h0 : F 41 = iv (m2 : Int) := hsrc
        have g0' := go m2 (by omega) rfl
        show MSlcP _ _ (F 41) (F 41) _ u
        rw [h0]; exact g0'
      · cases h
    · intro F u hI
      obtain ⟨gs, q1, q2⟩ := hI.don
      obtain ⟨f1, i1, p1⟩ := q1 2 (by decide) (by decide)
      obtain ⟨f2, i2, p2⟩ := q1 7 (by decide) (by decide)
      obtain ⟨f3, i3, p3⟩ := q1 9 (by decide) (by decide)
      obtain ⟨f4, i4, p4⟩ := q1 11 (by decide) (by decide)
      obtain ⟨f5, i5, p5⟩ := q1 16 (by decide) (by decide)
      have f1 : F 28 = .slice (some (ad (gs 2) 0)) n1 n1 := f1
      have f2 : F 33 = .slice (some (ad (gs 7) 0)) n2 n2 := f2
      have f3 : F 35 = .slice (some (ad (gs 9) 0)) n1 n1 := f3
      have f4 : F 37 = .slice (some (ad (gs 11) 0)) n1 n1 := f4
      have f5 : F 42 = .slice (some (ad (gs 16) 0)) m2 m2 := f5
      have f26 := hI.f26
      have ne : ∀ e e', e ∈ E5 → e' ∈ E5 → e ≠ e' → gs e ≠ gs e' := fun e e' h h' hne => q2 e h e' h' (by simp) (by simp) hne
      rw [← upds_has (F := F) (l := [(26, ptr bc), (28, .slice (some (ad (gs 2) 0)) n1 n1), (33, .slice (some (ad (gs 7) 0)) n2 n2), (35, .slice (some (ad (gs 9) 0)) n1 n1), (37, .slice (some (ad (gs 11) 0)) n1 n1), (42, .slice (some (ad (gs 16) 0)) m2 m2)]) ⟨f26, f1, f2, f3, f4, f5, trivial⟩]
      refine bld [.slice (some (ad (gs 2) 0)) n1 n1, .slice (some (ad (gs 7) 0)) n2 n2, .slice (some (ad (gs 9) 0)) n1 n1, .slice (some (ad (gs 11) 0)) n1 n1, .slice (some (ad (gs 16) 0)) m2 m2] (by kernel_rfl) ?_
      refine fldA ?_
      refine stA (vs := [.slice (some (ad (gs 2) 0)) n1 n1, .slice (some (ad (gs 7) 0)) n2 n2, .slice (some (ad (gs 9) 0)) n1 n1, .slice (some (ad (gs 11) 0)) n1 n1, .slice (some (ad (gs 16) 0)) m2 m2]) (Bc7.ext hI.kept) rfl (Nat.le_of_ble_eq_true rfl) (by simp [Value.oneCell']) (fun u2 bb kk ss => ?_)
      refine strS ((Ext.any hI.kept).trans kk) ?_
      have lbc := Bc7.lt
      refine ⟨(Ext.any hI.kept).trans kk, gs 2, gs 7, gs 9, gs 11, gs 16, bb, i1.kept kk (by omega), i2.kept kk (by omega), i3.kept kk (by omega), i4.kept kk (by omega), i5.kept kk (by omega), ⟨p1, p2, p3, p4, p5⟩,
        ⟨ne 2 7 (by decide) (by decide) (by decide), ne 2 9 (by decide) (by decide) (by decide), ne 2 11 (by decide) (by decide) (by decide), ne 2 16 (by decide) (by decide) (by decide)⟩, ⟨ne 7 9 (by decide) (by decide) (by decide), ne 7 11 (by decide) (by decide) (by decide), ne 7 16 (by decide) (by decide) (by decide)⟩, ⟨ne 9 11 (by decide) (by decide) (by decide), ne 9 16 (by decide) (by decide) (by decide)⟩, ne 11 16 (by decide) (by decide) (by decide)⟩

  rintro G8 w8 ⟨k8, t1, t2, t3, t4, t5, Bc8, i1, i2, i3, i4, i5, hnew, hne1, hne2, hne3, hne4⟩
  have z8 := k8.size
  have lbc := Bc7.lt
  have x08 : Ext w w8 := (x4.then x47 fun b hb _ => by omega).then k8 fun b hb _ => by omega
  have Bh8 := Bh7.kept k8 (by omega)
  have Bq8 := Bq7.kept k8 (by omega)
  have Bw8 := Bw7.kept k8 (by omega)
  have B48 := b47.kept k8 (by omega)
  have B58 := B57.kept k8 (by omega)
  refine fldA ?_
  refine fldA ?_
  refine ld (.slice A1 n1 c1) (Bq8.cell rfl) ?_
  refine call_of c_backw ?_
  rintro _ w9 ⟨bb, rfl, x9, Bb9, hbb⟩
  have z9 := x9.size
  have lbb := Bb9.lt
  refine range (gf := 84) (lb := #[ptr bb]) rfl (fun fn tmps w10 R hRR hF' hwf x10 z10 hD10 hl10 => ?_)
  show CallZ _ _ #[.func (.yield (w9.heap.size + 1)) #[] #[], ptr bb] w10 _
  have x810 := x9.trans x10
  have x010 := x08.trans x810
  have l4 := B48.lt
  have l5 := B58.lt
  have lq := Bq8.lt
  have lw := Bw8.lt
  have lh8 := Bh8.lt
  have lc8 := Bc8.lt
  have lt1 := i1.lt
  have lt2 := i2.lt
  have lt3 := i3.lt
  have lt4 := i4.lt
  have lt5 := i5.lt
  have w8s := x08.size
  obtain ⟨F0, hF0⟩ : ∃ F0, F0 = followV d x bl v d.reaches.length fun _ => g0 := ⟨_, rfl⟩
  rw [← hF0]
  -- the data in a later world
  have env : ∀ (u : World) (hl : List Rg), Kept (fun b => b ≠ bh ∧ b ≠ (w9.heap.size + 1)) w10 u → hl.length = n1 → Blk u bh 139 (rgs hl) → CrsR (fun b => b < w.heap.size ∨ b = bc ∨ b = bh) u bc gm bh t1 t2 t3 t4 t5 _ _ _ d x bl v hl := fun u hl ku hll hbh => by
    have k0 : Kept (fun b => b < w.heap.size) w u := (Ext.any x010 : Kept (fun b => b < w.heap.size) w w10).then ku fun b hb h => ⟨by omega, by omega⟩
    refine ⟨(hd.kept k0 fun b _ h => h).more fun b _ h => .inl h, (hx.kept k0 fun b _ h => h).more fun b _ h => .inl h, tWv.more (fun b _ h => .inl h) (tWv.kept hwv k0 fun b _ h => h), hm.kept k0 gml, ?_, ?_, .inl gml, .inr (.inl rfl)⟩
    · rw [ln, lf, ls]
      show Blk u bc 145 [.string d.name, iv d.hours, iv d.cap, iv d.start, .slice A1 n1 c1, .slice A2 n2 c2, .slice A3 n3 c3, .slice A4 n4 c4, .slice A5 n5 c5, .slice A6 n6 c6, .slice W1 m1 e1, .slice S1 m2 e2, .map (some gm), iv v.hour, .slice H1 h1 k1, .slice O1 o1 k2, .slice T1 g1 k3, .slice (some (ad bh 0)) n1 n1, .slice (some (ad t1 0)) n1 n1, .slice (some (ad t2 0)) n2 n2, .slice (some (ad t3 0)) n1 n1, .slice (some (ad t4 0)) n1 n1, .slice (some (ad t5 0)) m2 m2]
      exact (Bc8.ext x810).kept ku ⟨by omega, by omega⟩
    · exact SlR.of_cells (by omega) (by omega) (.inr (.inr rfl)) (CellsAt.blk hbh) flat_rgs
  refine (c_backw1 (D := fun b => b ≠ bh ∧ b ≠ (w9.heap.size + 1)) (fun k u => ∃ hl : List Rg, hl.length = n1 ∧ Blk u bh 139 (rgs hl) ∧ LoopAt u (w9.heap.size + 1) R ∧ F0 = followV d x bl v k (fun k => hl.getD k g0) ∧ HeadsB hl)
    (fun u => ∃ r, LoopAt u (w9.heap.size + 1) r ∧ r.state ≠ .busy ∧ r.pending = some .ret ∧ F0 = none ∧ Blk u b4 117 [ptr bc] ∧ Blk u b5 4 [.bool false] ∧ Kept (fun b => b ≠ bh ∧ b ≠ (w9.heap.size + 1) ∧ b ≠ b4 ∧ b ≠ b5) w10 u)
    ((hrr.ext x010).more (by decide) fun b _ h => ⟨by omega, by omega⟩) (Bb9.ext x10) ⟨by omega, by omega⟩ ?_ ⟨List.replicate n1 g0, by simp, Bh8.ext x810, hl10, ?_, ?_⟩).mono ?_
  · rintro i u r hri ⟨hl, hll, bhu, lu, hfo, hhb⟩ ku
    have hir : i < d.reaches.length := (List.getElem?_eq_some_iff.1 hri).1
    have hre : rcE d i = r := by unfold rcE; rw [List.getD_eq_getElem?_getD, hri]; rfl
    obtain ⟨bo, oo, co, own, rfl, hown, -, hDo, hco, rfl⟩ := sh.at_ (k := i) (by omega)
    have hoe : v.heads.getD i g0 = own := by rw [List.getD_eq_getElem?_getD, hown]; rfl
    have Bw8 : Blk w8 bw 65 [iv v.hour, .slice (some (ad bo oo)) h1 k1, .slice O1 o1 k2, .slice T1 g1 k3] := Bw8
    subst hRR
    have lul := lu.lt
    refine yield_rule (args := [iv (i : Int), .agg r.c.toArray]) lu rfl rfl hF' hwf ?_
    refine alloc (fun ty u1 q1 => ?_)
    refine stA (vs := r.c) q1.blk rfl (Nat.le_of_ble_eq_true rfl) (by simp [Value.oneCell']) (fun u2 tb s2' zs => ?_)
    have ta := q1.at_
    have tb : Blk u2 ty 153 r.c := tb
    have xu2 : Ext u u2 := q1.ext.then s2' fun b hb _ e => by omega
    have zku := ku.size
    refine mid' (lu.kept xu2 trivial) (fun u3 k3 zk3 l3 => ?_)
    have ku3 : Kept (fun b => b ≠ bh ∧ b ≠ (w9.heap.size + 1)) w10 u3 := (ku.ext xu2).then k3 fun b _ h => h.2
    have lbh := bhu.lt
    have zxu2 := xu2.size
    have bh3 := (bhu.ext xu2).kept k3 (by omega)
    have tb3 := tb.kept k3 (by omega)
    have crs := env u3 hl ku3 hll bh3
    have q4 := (B48.ext x810).kept ku3 ⟨by omega, by omega⟩
    have q5 := (B58.ext x810).kept ku3 ⟨by omega, by omega⟩
    have qq := (Bq8.ext x810).kept ku3 ⟨by omega, by omega⟩
    have qw := (Bw8.ext x810).kept ku3 ⟨by omega, by omega⟩
    have hpb := parts_b (r := i) hw hR hF hS hhb hir
    obtain ⟨ps, hps⟩ : ∃ ps, ps = partsL d x bl v (fun k => hl.getD k g0) i := ⟨_, rfl⟩
    have hsum := sum_rng (l := ps) (by rw [hps]; exact hpb.2)
    have hplen : ps.length ≤ 4096 := by rw [hps]; exact hpb.1
    have hstepF : F0 = if loS ps > 1073741824 then none else if (reachV r (loS ps)).2 = false ∨ (headV d x bl v (fun k => hl.getD k g0) i r).lo > (headV d x bl v (fun k => hl.getD k g0) i r).hi then none else followV d x bl v i (setF (fun k => hl.getD k g0) i (headV d x bl v (fun k => hl.getD k g0) i r)) := by
      rw [hfo, hps, ← hre]; rfl
    have hbd := head_b (f := fun k => hl.getD k g0) hw hir
    rw [hre] at hbd
    have hhv : headV d x bl v (fun k => hl.getD k g0) i r = ⟨max (reachV r (loS ps)).1 (meterV bl 1 i own).lo, min (mostV r (min 1073741824 (hiS ps))) (meterV bl 1 i own).hi⟩ := by unfold headV; rw [hps, hoe]
    obtain ⟨hv, hhv'⟩ : ∃ hv, hv = headV d x bl v (fun k => hl.getD k g0) i r := ⟨_, rfl⟩
    rw [← hhv'] at hstepF hbd hhv
    refine ld (ptr bc) (q4.cell rfl) ?_
    have cl := c_leaves crs hir hlo hlt hpb
    rw [← hps] at cl
    refine call_of cl ?_
    rintro _ u4 ⟨rfl, xx4⟩
    refine alloc (fun tq u5 q6 => ?_)
    refine stA (vs := [iv (loS ps), iv (hiS ps)]) q6.blk rfl (Nat.le_of_ble_eq_true rfl) (by simp [Value.oneCell']) (fun u6 tr s6' zs6 => ?_)
    have tqa := q6.at_
    have tr : Blk u6 tq 139 [iv (loS ps), iv (hiS ps)] := tr
    have zx4 := xx4.size
    have x36 : Ext u3 u6 := xx4.trans (q6.ext.then s6' fun b hb _ e => by omega)
    have z36 := x36.size
    have ku6 := ku3.ext x36
    have l6 := l3.kept x36 trivial
    have q46 := q4.ext x36
    have q56 := q5.ext x36
    refine fldA ?_
    refine ld (iv (loS ps)) (tr.cell rfl) ?_
    refine cD (fun hgt => ?_) (fun hle => ?_)
    · have hno : F0 = none := by rw [hstepF, if_pos hgt]
      refine ld (ptr bc) (q46.cell rfl) ?_
      refine st1 q46 rfl (fun y1 p4 s4' => ?_)
      refine st1 (q56.kept s4' (by omega)) rfl (fun y2 p5 s5' => ?_)
      refine roundR' _ (((l6).kept s4' (by omega)).kept s5' (by omega)) (fun y3 s6' l9 => ?_)
      refine .inr ⟨rfl, _, l9, by simp, rfl, hno, ((p4.kept s5' (by omega)).kept s6' (by omega)), p5.kept s6' (by omega), ?_⟩
      exact (((ku6).weak fun b _ h => ⟨h.1, h.2.1⟩).then s4' (fun b _ h => h.2.2.1)).then s5' (fun b _ h => h.2.2.2) |>.then s6' fun b _ h => h.2.1
    rw [if_neg hle] at hstepF
    refine ldA _ (.blk (tb3.ext x36)) rfl ?_
    refine fldA ?_
    refine ld (iv (loS ps)) (tr.cell rfl) ?_
    obtain ⟨rb, hrb⟩ : ∃ rb, rb = (reachV r (loS ps)).2 := ⟨_, rfl⟩
    have cR := c_lReach (w := u6) (r := r) (x := loS ps)
    rw [← hrb] at cR hstepF
    refine call_of cR ?_
    rintro _ u7 ⟨rfl, xx7⟩
    refine ldA _ (.blk ((tb3.ext x36).ext xx7)) rfl ?_
    refine fldA ?_
    refine ld (iv (hiS ps)) ((tr.ext xx7).cell rfl) ?_
    refine call_of (c_lMost (r := r) (x := min 1073741824 (hiS ps))) ?_
    rintro _ u8 ⟨rfl, xx8⟩
    have x38 := (x36.trans xx7).trans xx8
    have z38 := x38.size
    have crs8 := crs.kept x38 fun _ _ _ => trivial
    refine draw_slot 15 (fun y z => ∃ b, y = ptr b ∧ Blk z b 139 [iv (meterV bl 1 i own).lo, iv (meterV bl 1 i own).hi] ∧ Ext u8 z ∧ u8.heap.size ≤ b) ?_ ?_
    · refine drawP (.take 0 (.take 1 (.take 2 (.take 3 (.take 4 (.take 5 (.take 6 (.alt 7 (.eff 8 (.eff 9 .done)) (.eff 8 (.eff 7 (.eff 9 .done))))))))))) [] (fun z => Ext u8 z) mx (by kernel_rfl) (.refl _ _) ?_
      refine ldAX _ (.blk (qq.ext x38)) rfl (.refl _ _) ?_
      refine fldA ?_
      refine ldX (.slice (some (ad bo oo)) h1 k1) ((qw.ext x38).cell rfl) (.refl _ _) ?_
      refine idx i rfl (by omega) ?_
      refine ldAX own.c (hco.kept ((Ext.any x010 : Kept (fun b => b < w.heap.size) w w10).then (ku3.ext x38) fun b hb h => ⟨by omega, by omega⟩) hDo) rfl (.refl _ _) ?_
      refine ⟨?xl, ?xr⟩
      case' xl =>
        refine call_of (c_meter (kind := 1) (index := (i : Int)) (y := own) crs8.hd crs8.hx crs8.map) ?_
        rintro _ z1 ⟨rfl, y1⟩
        refine strS y1 ?_
        refine alloc (fun b z2 y2 => ?_)
        refine strS (y1.trans y2.ext) ?_
        refine stA (vs := [iv (meterV bl 1 i own).lo, iv (meterV bl 1 i own).hi]) y2.blk rfl (Nat.le_of_ble_eq_true rfl) (by simp [Value.oneCell']) (fun z3 y3 y3k y3s => ?_)
        have ya := y2.at_
        have yz := y1.size
        have y13 : Ext u8 z3 := (y1.trans y2.ext).then y3k fun b hb _ => by omega
        refine strS y13 ?_
        exact ⟨b, rfl, y3, y13, by omega⟩
      case' xr =>
        refine alloc (fun b z1 y1 => ?_)
        refine strS y1.ext ?_
        have crs9 := crs8.kept y1.ext fun _ _ _ => trivial
        refine call_of (c_meter (kind := 1) (index := (i : Int)) (y := own) crs9.hd crs9.hx crs9.map) ?_
        rintro _ z2 ⟨rfl, y2⟩
        refine strS (y1.ext.trans y2) ?_
        refine stA (vs := [iv (meterV bl 1 i own).lo, iv (meterV bl 1 i own).hi]) (y1.blk.ext y2) rfl (Nat.le_of_ble_eq_true rfl) (by simp [Value.oneCell']) (fun z3 y3 y3k y3s => ?_)
        have ya := y1.at_
        have y13 : Ext u8 z3 := (y1.ext.trans y2).then y3k fun b hb _ => by omega
        refine strS y13 ?_
        exact ⟨b, rfl, y3, y13, by omega⟩
    rintro G9 _ u9 ⟨bm, rfl, bm9, xx9, hbm⟩
    have x39 := x38.trans xx9
    have bh9 := bh3.ext x39
    have bc9 : Blk u9 bc 145 _ := ((Bc8.ext x810).kept ku3 ⟨by omega, by omega⟩).ext x39
    have q49 := q4.ext x39
    have q59 := q5.ext x39
    have l9 := l3.kept x39 trivial
    refine drawK (fun b => b ≠ bh) [0, 1, 2, 3, 4, 5, 6, 7, 8, 9, 10, 11, 12, 13, 14, 15] [15] mx (by kernel_rfl) ?_
    refine ldK (ptr bc) (q49.cell rfl) (show b4 ≠ bh by omega) (.refl _ _) ?_
    refine fldA ?_
    refine ldK (.slice (some (ad bh 0)) n1 n1) (bc9.cell rfl) (show bc ≠ bh by omega) (.refl _ _) ?_
    refine fldA ?_
    refine ldK (iv (meterV bl 1 i own).lo) (bm9.cell rfl) (show bm ≠ bh by omega) (.refl _ _) ?_
    refine fldA ?_
    refine ldK (iv (meterV bl 1 i own).hi) (bm9.cell rfl) (show bm ≠ bh by omega) (.refl _ _) ?_
    refine bld [iv (max (reachV r (loS ps)).1 (meterV bl 1 i own).lo), iv (min (mostV r (min 1073741824 (hiS ps))) (meterV bl 1 i own).hi)] (by kernel_rfl) ?_
    refine idx i rfl (by omega) ?_
    refine stA (vs := [iv (max (reachV r (loS ps)).1 (meterV bl 1 i own).lo), iv (min (mostV r (min 1073741824 (hiS ps))) (meterV bl 1 i own).hi)]) bh9 rfl (by rw [rgs_len]; show 0 + i * 2 + 2 ≤ _; omega) (by simp [Value.oneCell']) (fun u10 bh10 k10 s10 => ?_)
    have bh10 : Blk u10 bh 139 (rgs (hl.set i hv)) := by
      have e := rgs_set (l := hl) (i := i) (m := hv) (by omega)
      rw [← e, hhv, show i * 2 = 0 + i * 2 by omega]
      exact bh10
    refine strK k10 ?_
    have bc10 := bc9.kept k10 (by omega)
    have q410 := q49.kept k10 (by omega)
    have q510 := q59.kept k10 (by omega)
    have l10 := l9.kept k10 (by omega)
    have ku10 : Kept (fun b => b ≠ bh ∧ b ≠ (w9.heap.size + 1)) w10 u10 := (ku3.ext x39).then k10 fun b _ h => h.1
    obtain ⟨bx1, ox1, cx1, hv2, hAx, hvx, -, -, hcx, rfl⟩ := (SlR.of_cells (a := tRg) (D := fun _ => True) (n := n1) (b := bh) (o := 0) (by rw [List.length_set]; omega) (by omega) trivial (CellsAt.blk bh10) flat_rgs).at_ (k := i) (by omega)
    injection hAx with hAx
    injection hAx with hx1 hx2
    subst hx1; subst hx2
    obtain rfl : hv2 = hv := by rw [List.getElem?_set_self (by omega)] at hvx; injection hvx with e; exact e.symm
    cases rb with
    | false =>
      have hno : F0 = none := by rw [hstepF, if_pos (.inl rfl)]
      refine drawQ mx (by kernel_rfl) ?_
      refine ld (ptr bc) (q410.cell rfl) ?_
      refine st1 q410 rfl (fun y1 p4 s4' => ?_)
      refine st1 (q510.kept s4' (by omega)) rfl (fun y2 p5 s5' => ?_)
      refine roundR' _ (((l10).kept s4' (by omega)).kept s5' (by omega)) (fun y3 s6' l9 => ?_)
      refine .inr ⟨rfl, _, l9, by simp, rfl, hno, ((p4.kept s5' (by omega)).kept s6' (by omega)), p5.kept s6' (by omega), ?_⟩
      exact (((ku10).weak fun b _ h => ⟨h.1, h.2.1⟩).then s4' (fun b _ h => h.2.2.1)).then s5' (fun b _ h => h.2.2.2) |>.then s6' fun b _ h => h.2.1
    | true =>
      refine drawQ mx (by kernel_rfl) ?_
      refine ld (ptr bc) (q410.cell rfl) ?_
      refine fldA ?_
      refine ld (.slice (some (ad bh 0)) n1 n1) (bc10.cell rfl) ?_
      refine idx i rfl (by omega) ?_
      refine fldA ?_
      refine ld (iv hv2.lo) (hcx 0 _ rfl) ?_
      refine ld (ptr bc) (q410.cell rfl) ?_
      refine fldA ?_
      refine ld (.slice (some (ad bh 0)) n1 n1) (bc10.cell rfl) ?_
      refine idx i rfl (by omega) ?_
      refine fldA ?_
      refine ld (iv hv2.hi) (hcx 1 _ rfl) ?_
      refine cD (fun hgt2 => ?_) (fun hle2 => ?_)
      · have hno : F0 = none := by rw [hstepF, if_pos (.inr hgt2)]
        refine ld (ptr bc) (q410.cell rfl) ?_
        refine st1 q410 rfl (fun y1 p4 s4' => ?_)
        refine st1 (q510.kept s4' (by omega)) rfl (fun y2 p5 s5' => ?_)
        refine roundR' _ (((l10).kept s4' (by omega)).kept s5' (by omega)) (fun y3 s6' l9 => ?_)
        refine .inr ⟨rfl, _, l9, by simp, rfl, hno, ((p4.kept s5' (by omega)).kept s6' (by omega)), p5.kept s6' (by omega), ?_⟩
        exact (((ku10).weak fun b _ h => ⟨h.1, h.2.1⟩).then s4' (fun b _ h => h.2.2.1)).then s5' (fun b _ h => h.2.2.2) |>.then s6' fun b _ h => h.2.1
      · rw [if_neg (by simp; omega)] at hstepF
        refine roundN' _ l10 (fun u11 k11 l11 => ?_)
        refine .inl ⟨rfl, ⟨hl.set i hv2, by rw [List.length_set]; exact hll, bh10.kept k11 (by omega), l11, ?_, fun k => ?_⟩, ((Ext.any (xu2.trans (Kept.refl _ _)) : Kept (fun b => b ≠ bh ∧ b ≠ (w9.heap.size + 1)) u u2).then k3 (fun b _ h => h.2)).ext x39 |>.then k10 (fun b _ h => h.1) |>.then k11 fun b _ h => h.2⟩
        · rw [hstepF, getD_set (by omega)]
        · have e := congrFun (getD_set (l := hl) (i := i) (m := hv2) (by omega)) k
          rw [show (hl.set i hv2).getD k g0 = setF (fun k => hl.getD k g0) i hv2 k from e]
          unfold setF
          by_cases hki : k = i
          · rw [if_pos hki]; exact hbd
          · rw [if_neg hki]; exact hhb k
  · rw [hF0, ln]
    have e : (fun _ => g0 : Nat → Rg) = fun k => (List.replicate n1 g0).getD k g0 := by
      funext k
      rw [List.getD_eq_getElem?_getD, List.getElem?_replicate]
      split <;> rfl
    rw [e]
  · intro k
    rw [List.getD_eq_getElem?_getD, List.getElem?_replicate]
    split
    · exact ⟨⟨by decide, by decide⟩, by decide, by decide⟩
    · exact ⟨⟨by decide, by decide⟩, by decide, by decide⟩
  · rintro _ w11 (⟨⟨hl, hll, bh11, l11, hfo, hhb⟩, k11⟩ | ⟨r, l11, hr1, hr2, hno, p4, p5, k11⟩)
    · subst hRR
      have hfo : F0 = some fun k => hl.getD k g0 := hfo
      refine range_end _ l11 (by simp) (fun w12 k12 => ?_)
      have ll := l11.lt
      have k102 : Kept (fun b => b ≠ bh ∧ b ≠ (w9.heap.size + 1)) w10 w12 := k11.then k12 fun b _ h => h.2
      have p4 := (B48.ext x810).kept k102 ⟨by omega, by omega⟩
      have p5 := (B58.ext x810).kept k102 ⟨by omega, by omega⟩
      refine ld (ptr bc) (p4.cell rfl) ?_
      refine st1 p4 rfl (fun w13 p4' k13 => ?_)
      refine st1 (p5.kept k13 (by omega)) rfl (fun w14 p5' k14 => ?_)
      have k104 : Kept (fun b => b ≠ bh ∧ b ≠ (w9.heap.size + 1) ∧ b ≠ b4 ∧ b ≠ b5) w10 w14 := ((k102.weak fun b _ h => ⟨h.1, h.2.1⟩).then k13 fun b _ h => h.2.2.1).then k14 fun b _ h => h.2.2.2
      have hD14 : w14.heap[w9.heap.size]? = some (.deferred (some [])) := (k104.blk _ (by omega) ⟨by omega, by omega, by omega, by omega⟩).trans hD10
      refine retM hD14 ?_
      have k15 := Kept.putObj w14 w9.heap.size (.deferred none)
      refine resL _ (holds_cell (((p4'.kept k14 (by omega)).kept k15 (by omega)).cell rfl)) ?_
      refine resL _ (holds_cell ((p5'.kept k15 (by omega)).cell rfl)) ?_
      have xe : Ext w (w14.putObj w9.heap.size (.deferred none)) := (x010.then k104 fun b hb _ => ⟨by omega, by omega, by omega, by omega⟩).then k15 fun b hb _ => by omega
      refine ⟨xe, bc, by rw [hfo]; rfl, fun f hf => ?_⟩
      rw [hfo] at hf
      injection hf with hf
      have kz : Kept (fun b => b ≠ (w9.heap.size + 1) ∧ b ≠ b4 ∧ b ≠ b5 ∧ b ≠ w9.heap.size) w11 (w14.putObj w9.heap.size (.deferred none)) := (((k12.weak fun b _ h => h.1).then k13 fun b _ h => h.2.1).then k14 fun b _ h => h.2.2.1).then k15 fun b _ h => h.2.2.2
      have kt : Kept (fun b => b ≠ bh ∧ b ≠ (w9.heap.size + 1) ∧ b ≠ b4 ∧ b ≠ b5 ∧ b ≠ w9.heap.size) w10 (w14.putObj w9.heap.size (.deferred none)) := (k104.weak fun b _ h => ⟨h.1, h.2.1, h.2.2.1, h.2.2.2.1⟩).then k15 fun b _ h => h.2.2.2.2
      have crs := env w11 hl k11 hll bh11
      have crs := crs.kept kz fun b _ h => ⟨by omega, by omega, by omega, by omega⟩
      refine ⟨bh, t1, t2, t3, t4, t5, hl, ⟨crs, by omega, ?_, ?_, ?_, ?_, ?_, ⟨by omega, by omega, by omega, by omega, by omega, by omega, by omega⟩, ⟨⟨by omega, by omega, by omega, by omega, by omega, by omega⟩, ⟨by omega, by omega, by omega, by omega, by omega⟩, hne1, hne2, hne3, hne4⟩⟩, hf.symm⟩
      · rw [ln]; exact (i1.ext x810).kept kt ⟨by omega, by omega, by omega, by omega, by omega⟩
      · rw [lf]; exact (i2.ext x810).kept kt ⟨by omega, by omega, by omega, by omega, by omega⟩
      · rw [ln]; exact (i3.ext x810).kept kt ⟨by omega, by omega, by omega, by omega, by omega⟩
      · rw [ln]; exact (i4.ext x810).kept kt ⟨by omega, by omega, by omega, by omega, by omega⟩
      · rw [ls]; exact (i5.ext x810).kept kt ⟨by omega, by omega, by omega, by omega, by omega⟩
    · refine range_end r l11 hr1 (fun w12 k12 => ?_)
      rw [hr2]
      have ll := l11.lt
      have k104 : Kept (fun b => b ≠ bh ∧ b ≠ (w9.heap.size + 1) ∧ b ≠ b4 ∧ b ≠ b5) w10 w12 := k11.then k12 fun b _ h => h.2.1
      have hD14 : w12.heap[w9.heap.size]? = some (.deferred (some [])) := (k104.blk _ (by omega) ⟨by omega, by omega, by omega, by omega⟩).trans hD10
      refine retM hD14 ?_
      have k15 := Kept.putObj w12 w9.heap.size (.deferred none)
      refine resL _ (holds_cell (((p4.kept k12 (by omega)).kept k15 (by omega)).cell rfl)) ?_
      refine resL _ (holds_cell (((p5.kept k12 (by omega)).kept k15 (by omega)).cell rfl)) ?_
      have xe : Ext w (w12.putObj w9.heap.size (.deferred none)) := (x010.then k104 fun b hb _ => ⟨by omega, by omega, by omega, by omega⟩).then k15 fun b hb _ => by omega
      exact ⟨xe, bc, by rw [hno]; rfl, fun f hf => by rw [hno] at hf; cases hf⟩
end
end Go.Proofs.YtcpdhclnmjfldaaGreatDoor

/- Layer 48: contract of Explains. -/
namespace Go.Proofs.YtcpdhclnmjfldaaGreatDoor
open Go Go.RowKit

theorem reachesB_get : ∀ {l : List Reach} {i k : Nat} {r : Reach}, reachesB i l = true → l[k]? = some r → upOk (i + k) r.up = true ∧ reachOk r = true
  | [], i, k, r, _, h => by simp at h
  | y :: l, i, 0, r, hl, h => by
    simp at h; subst h
    unfold reachesB at hl
    simp only [Bool.and_eq_true] at hl
    exact hl.1
  | y :: l, i, k + 1, r, hl, h => by
    unfold reachesB at hl
    simp only [Bool.and_eq_true] at hl
    have := reachesB_get (i := i + 1) (k := k) hl.2 (by simpa using h)
    rwa [show i + 1 + k = i + (k + 1) by omega] at this
theorem dErr_z {d : Dist} (h : dErr d = 0) : tooMany d = false ∧ validB d = true := by
  unfold dErr at h
  cases h1 : tooMany d with
  | true => rw [h1] at h; cases h
  | false =>
    rw [h1] at h
    cases h2 : validB d with
    | false => rw [h2] at h; cases h
    | true => exact ⟨rfl, rfl⟩
theorem waves_mem {d : Dist} : ∀ {l : List Wv} {b : Int}, wavesB d b l = true → ∀ v ∈ l, rgsB d.reaches.length v.heads = true ∧ rgsB d.farms.length v.outlets = true ∧ rgsB d.reaches.length v.tails = true
  | y :: l, b, h, v, hv => by
    unfold wavesB at h
    rw [Bool.and_eq_true] at h
    rcases List.mem_cons.1 hv with rfl | hv
    · have h1 := h.1
      unfold waveB at h1
      simp only [Bool.and_eq_true] at h1
      exact ⟨h1.2.2.1, h1.2.2.2.1, h1.2.2.2.2⟩
    · exact waves_mem h.2 v hv
theorem rgsB_get {m i : Nat} {l : List Rg} (h : rgsB m l = true) (hi : i < m) : rgOk (l.getD i g0) 1073741824 = true := by
  unfold rgsB at h
  rw [Bool.and_eq_true, decide_eq_true_eq, List.all_eq_true] at h
  rw [List.getD_eq_getElem?_getD, List.getElem?_eq_getElem (by omega)]
  exact h.2 _ (List.getElem_mem _)
theorem rgsB_len {m : Nat} {l : List Rg} (h : rgsB m l = true) : l.length = m := by
  unfold rgsB at h
  rw [Bool.and_eq_true, decide_eq_true_eq] at h
  exact h.1
theorem ev_sizes {d : Dist} {x : Ev} (h : evErr d x = 0) : (d.reaches.length ≤ 64 ∧ 0 < d.reaches.length) ∧ d.farms.length ≤ 600 ∧ x.suspects.length ≤ 12 := by
  obtain ⟨h0, -, h2, -, -⟩ := evErr_ok h
  obtain ⟨t, hv⟩ := dErr_z h0
  have h1 := headOk_iff.1 (validB_iff.1 hv).1
  unfold tooMany at t; simp at t; omega
/-- What a right evidence gives for each of its waves. -/
theorem wavOk_of {d : Dist} {x : Ev} {set : List Int} (h : askErr d x set = 0) {v : Wv} (hv : v ∈ x.waves) : WavOk d x (blF x set) v ∧ v.heads.length = d.reaches.length ∧ v.outlets.length = d.farms.length ∧ v.tails.length = d.reaches.length := by
  obtain ⟨he, hs⟩ := askErr_ok.1 h
  obtain ⟨h0, -, -, hwv, hsu⟩ := evErr_ok he
  obtain ⟨t, hval⟩ := dErr_z h0
  obtain ⟨-, hR, -, hF, -⟩ := validB_iff.1 hval
  obtain ⟨w1, w2, w3⟩ := waves_mem hwv v hv
  have rget : ∀ k, k < d.reaches.length → d.reaches[k]? = some (rcE d k) := fun k hk => by
    unfold rcE; rw [List.getD_eq_getElem?_getD, List.getElem?_eq_getElem hk]; rfl
  have hup : ∀ k, k < d.reaches.length → upOk k (rcE d k).up = true ∧ reachOk (rcE d k) = true := fun k hk => by
    have := reachesB_get hR (rget k hk)
    rwa [Nat.zero_add] at this
  have sp := (sus_pair hsu).1
  have sget : ∀ i, i < x.suspects.length → suE x i ∈ x.suspects := fun i hi => by
    unfold suE; rw [List.getD_eq_getElem?_getD, List.getElem?_eq_getElem hi]; exact List.getElem_mem _
  refine ⟨⟨fun r hr => (reachOk_iff.1 (hup r hr).2).2.2.2.2, fun k hk => ?_, fun k h0k hk => ?_, fun k hk => ?_, fun r hr => rgsB_get w1 hr, fun k hk => rgsB_get w2 hk, fun r hr => rgsB_get w3 hr, fun i hi hk => ?_, fun key n hn => ?_⟩, rgsB_len w1, rgsB_len w2, rgsB_len w3⟩
  · have := (hup k hk).1
    unfold upOk at this
    by_cases e : k = 0
    · rw [if_pos e, decide_eq_true_eq] at this; omega
    · rw [if_neg e, inI_iff] at this; omega
  · have := (hup k hk).1
    unfold upOk at this
    rw [if_neg (by omega), inI_iff] at this; omega
  · have hm : fmE d k ∈ d.farms := by unfold fmE; rw [List.getD_eq_getElem?_getD, List.getElem?_eq_getElem hk]; exact List.getElem_mem _
    have := List.all_eq_true.1 hF _ hm
    unfold farmOk at this
    simp only [Bool.and_eq_true, inI_iff] at this
    omega
  · have := (sp _ (sget i hi)).2.1
    unfold manyN at this
    rw [if_pos (by omega)] at this
    exact this
  · obtain ⟨i, hi, -, rfl⟩ := blF_some hn
    -- an index of the set is one of a suspect's
    have hset : ∀ {l : List Int} {b : Int}, -1 ≤ b → setB x.suspects.length b l = true → ∀ j ∈ l, 0 ≤ j ∧ j < x.suspects.length := by
      intro l
      induction l with
      | nil => intro b _ _ j hj; cases hj
      | cons a l ih =>
        intro b hb hl j hj
        unfold setB at hl
        simp only [Bool.and_eq_true, decide_eq_true_eq] at hl
        rcases List.mem_cons.1 hj with rfl | hj
        · omega
        · exact ih (b := a) (by omega) hl.2.2 j hj
    have hb := hset (by omega) hs i hi
    have : suAt x i ∈ x.suspects := by
      unfold suAt; rw [List.getD_eq_getElem?_getD, List.getElem?_eq_getElem (by omega)]; exact List.getElem_mem _
    exact (sp _ this).2.2
/-- What Explains answers. -/
def explV (d : Dist) (x : Ev) (set : List Int) : Bool := if askErr d x set = 0 then explB d x set else false
abbrev flwB (d : Dist) (x : Ev) (set : List Int) (v : Wv) : Bool := (followV d x (blF x set) v d.reaches.length fun _ => g0).isSome
section
variable {w : World}
/-- What Explains's closure holds. -/
structure InqR (D : Nat → Prop) (u : World) (b gm : Nat) (csd csx : List Value) (d : Dist) (x : Ev) (set : List Int) : Prop where
  hd : DiR D u csd d
  hx : EvR D u csx x
  map : MapG kv2 u gm (blM x set)
  blk : Blk u b 113 (csd ++ (csx ++ [Value.map (some gm)]))
theorem InqR.ext {D : Nat → Prop} {u u' : World} {b gm : Nat} {csd csx : List Value} {d : Dist} {x : Ev} {set : List Int} (h : InqR D u b gm csd csx d x set) (k : Ext u u') : InqR D u' b gm csd csx d x set := ⟨h.hd.ext k, h.hx.ext k, h.map.kept k trivial, h.blk.ext k⟩
theorem c_Explains1 {D : Nat → Prop} {b gm : Nat} {csd csx cw : List Value} {d : Dist} {x : Ev} {set : List Int} {v : Wv} (h : InqR D w b gm csd csx d x set) (hv : tWv.rep D w cw v) (he : askErr d x set = 0) (hm : v ∈ x.waves) :
    CallZ Tryz.prog 44 #[.agg cw.toArray, ptr b] w (fun u w' => u = .bool (!flwB d x set v) ∧ Ext w w') := by
  obtain ⟨A1, n1, c1, A2, n2, c2, A3, n3, c3, A4, n4, c4, A5, n5, c5, A6, n6, c6, rfl, -⟩ := h.hd.ex
  obtain ⟨W1, m1, e1, S1, m2, e2, rfl, -⟩ := h.hx.ex
  obtain ⟨H1, h1, k1, O1, o1, k2, T1, g1, k3, rfl, -⟩ := wv_open hv
  obtain ⟨hw, l1, l2, l3⟩ := wavOk_of he hm
  obtain ⟨⟨r1, -⟩, r2, r3⟩ := ev_sizes (askErr_ok.1 he).1
  refine fn_rule (args := [.agg #[iv v.hour, .slice H1 h1 k1, .slice O1 o1 k2, .slice T1 g1 k3], ptr b]) Tryz.func44 (by kernel_rfl) ?_
  refine box (fun bw w1 j1 => ?_)
  have h' := h.ext j1.ext
  refine ldA [.string d.name, iv d.hours, iv d.cap, iv d.start, .slice A1 n1 c1, .slice A2 n2 c2, .slice A3 n3 c3, .slice A4 n4 c4, .slice A5 n5 c5, .slice A6 n6 c6, .slice W1 m1 e1, .slice S1 m2 e2, .map (some gm)] (.blk h'.blk) rfl ?_
  refine ldA [iv v.hour, .slice H1 h1 k1, .slice O1 o1 k2, .slice T1 g1 k3] (.blk j1.blk) rfl ?_
  refine call_of (c_follow h'.hd h'.hx (tWv.keep (fun b hb _ => j1.ext.blk b hb trivial) hv) h'.map hw r1 r2 r3 l1 l2 l3) ?_
  rintro _ w2 ⟨x2, bc, rfl, -⟩
  obtain ⟨fb, hfb⟩ : ∃ fb, fb = flwB d x set v := ⟨_, rfl⟩
  show _
  rw [show (followV d x (blF x set) v d.reaches.length fun _ => g0).isSome = fb from hfb.symm, ← hfb]
  cases fb with
  | true => exact ret1 (.bool false) rfl ⟨rfl, j1.ext.trans x2⟩
  | false => exact ret1 (.bool true) rfl ⟨rfl, j1.ext.trans x2⟩
theorem c_indWv {D : Nat → Prop} {b gm : Nat} {csd csx : List Value} {d : Dist} {x : Ev} {set : List Int} {A : Option Addr} {n c : Nat} (h : InqR D w b gm csd csx d x set) (hs : SlR tWv D w A n x.waves) (he : askErr d x set = 0) :
    CallZ Tryz.prog 66 #[.slice A n c, .func (.func 44) #[] #[ptr b]] w (fun v w' => (∃ i : Int, v = iv i ∧ (0 ≤ i ↔ x.waves.all (flwB d x set) = false)) ∧ Ext w w') := by
  refine fn_rule (args := [.slice A n c, .func (.func 44) #[] #[ptr b]]) Tryz.func66 (by kernel_rfl) ?_
  refine len ?_
  refine loop_rule (fun k : Nat => [(8, iv (k : Int))]) (fun k w' => k ≤ n ∧ Ext w w' ∧ x.waves.all (flwB d x set) = (x.waves.drop k).all (flwB d x set)) (fun k _ => n - k) 0 ⟨rfl, trivial⟩ ⟨by omega, .refl _ _, rfl⟩ rfl ?_
  rintro G k w' ⟨hk, xw, hal⟩
  refine cD (fun hlt => ?_) (fun hge => ?_)
  · obtain ⟨b', o, cs, v, rfl, hv, hdv, -, hc, hrep⟩ := (hs.ext xw).at_ (show k < n by omega)
    obtain ⟨H1, h1, k1, O1, o1, k2, T1, g1, k3, rfl, -⟩ := wv_open hrep
    rw [hdv, List.all_cons] at hal
    refine idx k rfl (by omega) ?_
    refine ldA _ hc rfl ?_
    refine callE (c_Explains1 (h.ext xw) hrep he (List.mem_of_getElem? hv)) (fun w2 g x2 => ?_) (fun w2 g x2 => ?_)
    · refine ret1 (iv (k : Int)) rfl ⟨⟨k, rfl, ?_⟩, xw.trans x2⟩
      simp only [Bool.not_eq_true'] at g
      rw [hal, g]; simp
    · simp only [Bool.not_eq_false'] at g
      refine arI (by have := hs.le; omega) ?_
      refine next (k + 1) ⟨by rw [Int.natCast_add]; rfl, trivial⟩ ⟨by omega, xw.trans x2, ?_⟩ (by omega)
      rw [hal, g]; rfl
  · refine ret1 (iv (-1)) rfl ⟨⟨-1, rfl, ?_⟩, xw⟩
    rw [hal, List.drop_eq_nil_of_le (by have := hs.len; omega)]; simp
theorem c_contWv {D : Nat → Prop} {b gm : Nat} {csd csx : List Value} {d : Dist} {x : Ev} {set : List Int} {A : Option Addr} {n c : Nat} (h : InqR D w b gm csd csx d x set) (hs : SlR tWv D w A n x.waves) (he : askErr d x set = 0) :
    CallZ Tryz.prog 43 #[.slice A n c, .func (.func 44) #[] #[ptr b]] w (fun v w' => v = .bool (!explB d x set) ∧ Ext w w') := by
  refine fn_rule (args := [.slice A n c, .func (.func 44) #[] #[ptr b]]) Tryz.func43 (by kernel_rfl) ?_
  refine call_of (c_indWv h hs he) ?_
  rintro _ w' ⟨⟨i, rfl, hi⟩, xw⟩
  refine cD (fun g => ?_) (fun g => ?_)
  · exact ret1 (.bool true) rfl ⟨by show _ = Value.bool (!x.waves.all (flwB d x set)); rw [hi.1 g]; rfl, xw⟩
  · exact ret1 (.bool false) rfl ⟨by show _ = Value.bool (!x.waves.all (flwB d x set)); rw [show x.waves.all (flwB d x set) = true from by cases ha : x.waves.all (flwB d x set) with | true => rfl | false => exact absurd (hi.2 ha) g]; rfl, xw⟩
theorem c_Explains {D : Nat → Prop} {csd csx : List Value} {d : Dist} {x : Ev} {set : List Int} {A : Option Addr} {n c : Nat} (hd : DiR D w csd d) (hx : EvR D w csx x) (hset : SlR tInt D w A n set) : CallZ Tryz.prog 30 #[.agg csd.toArray, .agg csx.toArray, .slice A n c] w
    (fun v w' => v = .tuple #[.bool (explV d x set), iv (askErr d x set)] ∧ Ext w w') := by
  obtain ⟨A1, n1, c1, A2, n2, c2, A3, n3, c3, A4, n4, c4, A5, n5, c5, A6, n6, c6, rfl, -⟩ := hd.ex
  obtain ⟨W1, m1, e1, S1, m2, e2, rfl, hw, -⟩ := hx.ex
  refine fn_rule (args := [.agg #[.string d.name, iv d.hours, iv d.cap, iv d.start, .slice A1 n1 c1, .slice A2 n2 c2, .slice A3 n3 c3, .slice A4 n4 c4, .slice A5 n5 c5, .slice A6 n6 c6], .agg #[.slice W1 m1 e1, .slice S1 m2 e2], .slice A n c]) Tryz.func30 (by kernel_rfl) ?_
  refine box (fun bd w1 h1 => ?_)
  refine box (fun bx w2 h2 => ?_)
  have x2 := h1.ext.trans h2.ext
  have Bd : Blk w2 bd 31 [.string d.name, iv d.hours, iv d.cap, iv d.start, .slice A1 n1 c1, .slice A2 n2 c2, .slice A3 n3 c3, .slice A4 n4 c4, .slice A5 n5 c5, .slice A6 n6 c6] := h1.blk.ext h2.ext
  have Bx : Blk w2 bx 35 [.slice W1 m1 e1, .slice S1 m2 e2] := h2.blk
  refine ldA _ (.blk Bd) rfl ?_
  refine ldA _ (.blk Bx) rfl ?_
  refine call_of (c_ask (hd.ext x2) (hx.ext x2) (hset.ext x2)) ?_
  rintro _ w3 ⟨x3, q, rfl, ⟨cs, rfl, hcl, hco⟩, hq⟩
  refine alloc (fun bq w4 h4 => ?_)
  refine stA (vs := cs) h4.blk hcl (by rw [hcl]; exact Nat.le_of_ble_eq_true rfl) hco (fun w5 b5 k5 s5 => ?_)
  have a4 := h4.at_
  have x35 : Ext w3 w5 := h4.ext.then k5 fun b hb _ => by omega
  have x05 := (x2.trans x3).trans x35
  refine cN (fun e0 => ?_) (fun e0 => ?_)
  · exact ret2 (.bool false) (iv (askErr d x set)) rfl rfl ⟨by unfold explV; rw [if_neg e0], x05⟩
  have e0 : askErr d x set = 0 := e0
  obtain ⟨g, hqe, hmap, hg⟩ := hq e0
  have hcs : cs = [.string d.name, iv d.hours, iv d.cap, iv d.start, .slice A1 n1 c1, .slice A2 n2 c2, .slice A3 n3 c3, .slice A4 n4 c4, .slice A5 n5 c5, .slice A6 n6 c6] ++ ([.slice W1 m1 e1, .slice S1 m2 e2] ++ [Value.map (some g)]) := by
    have := hqe; injection this with this; simpa using this
  subst hcs
  have b5 : Blk w5 bq 113 ([.string d.name, iv d.hours, iv d.cap, iv d.start, .slice A1 n1 c1, .slice A2 n2 c2, .slice A3 n3 c3, .slice A4 n4 c4, .slice A5 n5 c5, .slice A6 n6 c6] ++ ([.slice W1 m1 e1, .slice S1 m2 e2] ++ [Value.map (some g)])) := b5
  have inq : InqR D w5 bq g _ _ d x set := ⟨hd.ext x05, hx.ext x05, hmap.kept x35 trivial, b5⟩
  refine fldA ?_
  refine ld (.slice W1 m1 e1) (((Bx.ext x3).ext x35).cell rfl) ?_
  refine callE (c_contWv inq (hw.ext x05) e0) (fun w6 g6 x6 => ?_) (fun w6 g6 x6 => ?_)
  · simp only [Bool.not_eq_true'] at g6
    exact ret2 (.bool false) (iv 0) rfl rfl ⟨by unfold explV; rw [if_pos e0, g6, e0], x05.trans x6⟩
  · simp only [Bool.not_eq_false'] at g6
    exact ret2 (.bool true) (iv 0) rfl rfl ⟨by unfold explV; rw [if_pos e0, g6, e0], x05.trans x6⟩
end
end Go.Proofs.YtcpdhclnmjfldaaGreatDoor

/- Layer 48: contracts of Table, SameTable, Clone. -/
namespace Go.Proofs.YtcpdhclnmjfldaaGreatDoor
open Go Go.RowKit

def membersL (n S : Nat) : List Int := ((List.range S).filter fun i => n.testBit i).map fun i : Nat => (i : Int)
def tableL (d : Dist) (x : Ev) : List Bool := (List.range (2 ^ x.suspects.length)).map fun n => explV d x (membersL n x.suspects.length)
def tableV (d : Dist) (x : Ev) : List Bool := if evErr d x = 0 then tableL d x else []
theorem bit_one {k i : Nat} : ((k >>> i) &&& 1 = 1) ↔ k.testBit i = true := by
  rw [Nat.and_one_is_mod, Nat.shiftRight_eq_div_pow, Nat.testBit_eq_decide_div_mod_eq, decide_eq_true_eq]
theorem members_snoc (k i : Nat) : membersL k (i + 1) = membersL k i ++ if k.testBit i then [(i : Int)] else [] := by
  unfold membersL; rw [range_snoc]
theorem members_bound (k S : Nat) : ∀ v ∈ membersL k S, 0 ≤ v ∧ v < S := by
  intro v hv
  unfold membersL at hv
  obtain ⟨i, hi, rfl⟩ := List.mem_map.1 hv
  have := List.mem_range.1 (List.mem_filter.1 hi).1
  omega
theorem members_len (k S : Nat) : (membersL k S).length ≤ S := by
  unfold membersL
  rw [List.length_map]
  have := List.length_filter_le (fun i => k.testBit i) (List.range S)
  rw [List.length_range] at this; exact this
section
variable {w : World}
set_option maxRecDepth 8000 in
theorem c_Table {D : Nat → Prop} {csd csx : List Value} {d : Dist} {x : Ev} (hd : DiR D w csd d) (hx : EvR D w csx x) : CallZ Tryz.prog 17 #[.agg csd.toArray, .agg csx.toArray] w
    (fun v w' => ∃ A n c, v = .tuple #[.slice A n c, iv (evErr d x)] ∧ OwnF w w' A n c 4 1 ((tableV d x).map fun b => Value.bool b)) := by
  obtain ⟨A1, n1, c1, A2, n2, c2, A3, n3, c3, A4, n4, c4, A5, n5, c5, A6, n6, c6, rfl, -⟩ := hd.ex
  obtain ⟨W1, m1, e1, S1, m2, e2, rfl, hw, hsu, -⟩ := hx.ex
  have ls := hsu.len
  refine fn_rule (args := [.agg #[.string d.name, iv d.hours, iv d.cap, iv d.start, .slice A1 n1 c1, .slice A2 n2 c2, .slice A3 n3 c3, .slice A4 n4 c4, .slice A5 n5 c5, .slice A6 n6 c6], .agg #[.slice W1 m1 e1, .slice S1 m2 e2]]) Tryz.func17 (by kernel_rfl) ?_
  refine box (fun bd w1 h1 => ?_)
  refine box (fun bx w2 h2 => ?_)
  have x2 := h1.ext.trans h2.ext
  have Bd : Blk w2 bd 31 [.string d.name, iv d.hours, iv d.cap, iv d.start, .slice A1 n1 c1, .slice A2 n2 c2, .slice A3 n3 c3, .slice A4 n4 c4, .slice A5 n5 c5, .slice A6 n6 c6] := h1.blk.ext h2.ext
  have Bx : Blk w2 bx 35 [.slice W1 m1 e1, .slice S1 m2 e2] := h2.blk
  refine ldA _ (.blk Bd) rfl ?_
  refine ldA _ (.blk Bx) rfl ?_
  refine call_of (c_eCheck48 (hd.ext x2) (hx.ext x2)) ?_
  rintro _ w3 ⟨rfl, x3⟩
  have x03 := x2.trans x3
  have Bd3 := Bd.ext x3
  have Bx3 := Bx.ext x3
  refine cN (fun q0 => ?_) (fun q0 => ?_)
  · exact ret2 (.slice none 0 0) (iv (evErr d x)) rfl rfl ⟨none, 0, 0, rfl, by unfold tableV; rw [if_neg q0]; exact OwnF.nil x03⟩
  have q0 : evErr d x = 0 := q0
  obtain ⟨-, -, hS⟩ := ev_sizes q0
  have tv : tableV d x = tableL d x := by unfold tableV; rw [if_pos q0]
  rw [tv, q0]
  obtain ⟨S, hSe⟩ : ∃ S, S = x.suspects.length := ⟨_, rfl⟩
  have hpow : 2 ^ S ≤ 4096 := Nat.le_trans (Nat.pow_le_pow_right (by omega) (show S ≤ 12 by omega)) (by decide)
  refine fldA ?_
  refine ld (.slice S1 m2 e2) (Bx3.cell rfl) ?_
  refine len ?_
  refine shl1 (fun pw hpw _ => ?_)
  have hpw : pw = 2 ^ S := by rw [hpw, Int.toNat_natCast, hSe, ls]
  rw [← hpw] at hpow
  obtain ⟨f, hf⟩ : ∃ f : Nat → Bool, f = fun n => explV d x (membersL n S) := ⟨_, rfl⟩
  have htl : tableL d x = (List.range pw).map f := by unfold tableL; rw [hpw, hf, hSe]
  rw [htl]
  refine loop4 (fun (k : Nat) (A : Option Addr) (n c : Nat) => [(21, iv (k : Int)), (4, .slice A n c)])
    (fun k A n c u => k ≤ pw ∧ OwnF w3 u A n c 4 1 (((List.range k).map f).map fun b => Value.bool b)) (fun k _ _ _ _ => pw - k) 0 none 0 0 ⟨rfl, rfl, trivial⟩ ⟨by omega, OwnF.nil (.refl _ _)⟩ rfl ?_
  rintro G k A n c u ⟨hk, hown⟩
  have xu := hown.ext
  have hlen := hown.own.len
  rw [List.length_map, List.length_map, List.length_range] at hlen
  refine cD (fun hlt => ?_) (fun hge => ?_)
  rotate_left
  · have hkp : k = pw := by omega
    rw [hkp] at hown
    exact ret2 (.slice A n c) (iv 0) rfl rfl ⟨A, n, c, rfl, hown.base x03⟩
  have hlt : k < pw := by omega
  refine fldA ?_
  refine ld (.slice S1 m2 e2) ((Bx3.ext xu).cell rfl) ?_
  refine len ?_
  refine loop4 (fun (i : Nat) (A : Option Addr) (n c : Nat) => [(27, iv (i : Int)), (7, .slice A n c)])
    (fun i A2' n2' c2' z => i ≤ m2 ∧ OwnF u z A2' n2' c2' 3 1 ((membersL k i).map fun v => Value.int .i64 v)) (fun i _ _ _ _ => m2 - i) 0 none 0 0 ⟨rfl, rfl, trivial⟩ ⟨by omega, OwnF.nil (.refl _ _)⟩ rfl ?_
  rintro G2 i A' n' c' z ⟨hi, hset⟩
  have hl2 := hset.own.len
  rw [List.length_map] at hl2
  have hml := members_len k i
  refine cD (fun hlti => ?_) (fun hgei => ?_)
  · have hlti : i < m2 := by omega
    refine shrV (fun sh hsh => ?_)
    have hsh : sh = k >>> i := by rw [hsh, Int.toNat_natCast]
    have hshl : sh ≤ k := by rw [hsh, Nat.shiftRight_eq_div_pow]; exact Nat.div_le_self _ _
    refine andV (a := sh) (b := 1) (fun an han => ?_)
    have hb : an = 1 ↔ k.testBit i = true := by rw [han, hsh]; exact bit_one
    refine cD (fun h1' => ?_) (fun h1' => ?_)
    · have hb1 := hb.1 (by omega)
      refine lit [iv (i : Int)] (fun q z1 hq => ?_)
      refine appF (hset.then hq.ext) (hq.src (sz := 1) rfl) (by omega) (fun A3 c3 z2 o2 k2 hA => ?_)
      refine arI (by omega) ?_
      refine next4 (i + 1) A3 (n' + 1) c3 ⟨rfl, rfl, trivial⟩ ⟨by omega, ?_⟩ (by omega)
      rw [members_snoc, if_pos hb1, List.map_append]; exact o2
    · have hb0 : ¬ k.testBit i = true := fun h => h1' (by have := hb.2 h; omega)
      refine arI (by omega) ?_
      refine next4 (i + 1) A' n' c' ⟨rfl, rfl, trivial⟩ ⟨by omega, ?_⟩ (by omega)
      rw [members_snoc, if_neg hb0, List.append_nil]; exact hset
  have him : i = S := by omega
  rw [him] at hset hl2 hml
  have xz := hset.ext
  have x0z := (x03.trans xu).trans xz
  refine ldA _ (.blk ((Bd3.ext xu).ext xz)) rfl ?_
  refine ldA _ (.blk ((Bx3.ext xu).ext xz)) rfl ?_
  have sset : SlR tInt (fun _ => True) z A' n' (membersL k S) := OwnF.ints hset (fun v hv => by have := members_bound k S v hv; unfold I64; omega) (by omega) fun _ _ => trivial
  refine call_of (c_Explains ((hd.ext x0z).more (D' := fun _ => True) fun _ _ _ => trivial) ((hx.ext x0z).more fun _ _ _ => trivial) sset) ?_
  rintro _ z1 ⟨rfl, xz1⟩
  refine lit [.bool (explV d x (membersL k S))] (fun q z2 hq => ?_)
  have xe := (xz.trans xz1).trans hq.ext
  refine appF (hown.then xe) (hq.src (sz := 1) rfl) (by omega) (fun A3 c3 z3 o3 k3 hA => ?_)
  refine arI (by omega) ?_
  refine next4 (k + 1) A3 (n + 1) c3 ⟨rfl, rfl, trivial⟩ ⟨by omega, ?_⟩ (by omega)
  rw [List.range_succ, List.map_append, List.map_append]
  have e : f k = explV d x (membersL k S) := by rw [hf]
  rw [show ([k].map f).map (fun b => Value.bool b) = [Value.bool (explV d x (membersL k S))] from by rw [← e]; rfl]
  exact o3
end
end Go.Proofs.YtcpdhclnmjfldaaGreatDoor

/- Layer 48: contracts of Clone, in. -/
namespace Go.Proofs.YtcpdhclnmjfldaaGreatDoor
open Go Go.RowKit

theorem eqNilE {P : Program} {t e : TypeId} {sz : Nat} [h : SliceTy P t e sz] {xo yo : Operand} {A : Option Addr} {n c : Nat} {K : Value → Prop} (k1 : A = none → K (.bool true)) (k2 : A ≠ none → K (.bool false)) : BinP P .eql t xo yo (.slice A n c) (.slice none 0 0) K := by
  rw [BinP_eq]
  obtain ⟨hu, _⟩ := sliceOf_spec h.h
  refine pure_vval (x := .bool A.isNone) (fun w => ?_) ?_
  · have h1 : (eqGuard .eql t xo yo (.slice A n c) (.slice none 0 0)).run P w = .ok () w := rfl
    have h2 : binOp .eql t (.slice A n c) (.slice none 0 0) = (do pure (.bool (← Op.equal t (.slice A n c) (.slice none 0 0)))) := rfl
    rw [Sem.run_bind, h1, h2]
    simp only [Result.andThen_ok, Sem.run_bind, run_equal_slice_nil w t e A n c hu, Sem.run_pure]
  · cases A with
    | none => exact k1 rfl
    | some a => exact k2 (by simp)
theorem flatI_eq {D : Nat → Prop} {w : World} : ∀ {xs : List Int} {cs : List Value}, FlatR tInt D w xs cs → cs = xs.map fun v => Value.int .i64 v
  | [], _, h => h
  | y :: r, _, ⟨c1, r1, h, ⟨h1, _⟩, h2⟩ => by rw [h, h1, flatI_eq h2]; rfl
def inB (bl : Int × Int → Option Int) (kind : Int) (l : List Int) (read : List Rg) : Bool := decide (l.length = read.length) && (List.range l.length).all fun i => inI (l.getD i 0) (meterV bl kind i (read.getD i g0)).lo (meterV bl kind i (read.getD i g0)).hi
theorem inB_iff {bl : Int × Int → Option Int} {kind : Int} {l : List Int} {read : List Rg} : inB bl kind l read = true ↔ l.length = read.length ∧ ∀ i, i < l.length → (meterV bl kind i (read.getD i g0)).lo ≤ l.getD i 0 ∧ l.getD i 0 ≤ (meterV bl kind i (read.getD i g0)).hi := by
  unfold inB
  simp only [Bool.and_eq_true, decide_eq_true_eq, List.all_eq_true, List.mem_range, inI_iff]
section
variable {w : World}
theorem c_cloneI {D : Nat → Prop} {A : Option Addr} {n c : Nat} {xs : List Int} (ha : SlR tInt D w A n xs) (hn : n ≤ 1000000) (hp : 0 < n) : CallZ Tryz.prog 28 #[.slice A n c] w
    (fun v w' => Ext w w' ∧ ∃ q c' rest, v = .slice (some (ad q 0)) n c' ∧ Blk w' q 3 ((xs.map fun v => iv v) ++ rest) ∧ w.heap.size ≤ q) := by
  have hl := ha.len
  refine fn_rule (args := [.slice A n c]) Tryz.func28 (by kernel_rfl) ?_
  refine eqNilE (fun hA => ?_) (fun hA => ?_)
  · obtain ⟨b, o, cs, x, e, _⟩ := ha.at_ (k := 0) hp
    rw [hA] at e; cases e
  · refine lit [] (fun g w1 h1 => ?_)
    have ha1 := ha.ext h1.ext
    have o1 : OwnF w w1 (some (ad g 0)) 0 0 3 1 [] := OwnF.lit (cs := []) (.refl _ _) h1 rfl
    have hsrc : Src w1 A n 1 (xs.map fun v => Value.int .i64 v) := by
      refine ⟨by rw [List.length_map]; omega, fun hn0 => ?_⟩
      obtain ⟨b, o, cs, x, rfl, _⟩ := ha1.at_ hn0
      obtain ⟨cs2, hf, hc⟩ := ha1.cells
      refine ⟨b, o, rfl, ?_⟩
      rw [← flatI_eq hf]; exact hc
    refine appF o1 hsrc (by omega) (fun A' c' w3 o3 _ _ => ?_) (h1 := by rw [List.all_map]; exact List.all_eq_true.2 fun _ _ => rfl)
    rcases o3.form with ⟨_, e1, -⟩ | ⟨q, e0, hg1, hg2, -⟩
    · omega
    · subst e0
      obtain ⟨rest, hb, -, -⟩ := o3.own.blk
      exact ret1 (.slice (some (ad q 0)) (0 + n) c') rfl ⟨o3.ext, q, c', rest, by rw [Nat.zero_add], hb, hg1⟩
end
end Go.Proofs.YtcpdhclnmjfldaaGreatDoor

/- Layer 48: contract of fits. -/
namespace Go.Proofs.YtcpdhclnmjfldaaGreatDoor
open Go Go.RowKit

def sumF (q : Nat → Bool) (g : Nat → Int) (k : Nat) : Int := (((List.range k).filter q).map g).sum
theorem sumF_snoc (q : Nat → Bool) (g : Nat → Int) (k : Nat) : sumF q g (k + 1) = sumF q g k + if q k then g k else 0 := by
  unfold sumF
  rw [range_snoc, List.sum_append]
  by_cases h : q k
  · rw [if_pos h, if_pos h]; simp
  · rw [if_neg h, if_neg h]; rfl
theorem sumF_b {q : Nat → Bool} {g : Nat → Int} : ∀ {k : Nat}, (∀ i, i < k → 0 ≤ g i ∧ g i ≤ 1073741824) → 0 ≤ sumF q g k ∧ sumF q g k ≤ k * 1073741824
  | 0, _ => by unfold sumF; simp
  | k + 1, h => by
    have ih := sumF_b (q := q) (g := g) (k := k) fun i hi => h i (by omega)
    have hk := h k (by omega)
    rw [sumF_snoc]
    by_cases hq : q k
    · rw [if_pos hq]; omega
    · rw [if_neg hq]; omega
def qP (x : Ev) (r : Nat) (i : Nat) : Bool := decide ((suE x i).kind = 4) && decide ((suE x i).index = (r : Int))
def qH (d : Dist) (r : Nat) (k : Nat) : Bool := decide ((rcE d k).up = (r : Int))
def qO (d : Dist) (r : Nat) (k : Nat) : Bool := decide ((fmE d k).reach = (r : Int))
def out1 (x : Ev) (t : Tru) (k r : Nat) : Int := t.tails.getD r 0 + sumF (qP x r) (fun i => t.taken.getD i 0) k
def out2 (d : Dist) (x : Ev) (t : Tru) (k r : Nat) : Int := out1 x t x.suspects.length r + sumF (qH d r) (fun i => t.heads.getD i 0) k
def out3 (d : Dist) (x : Ev) (t : Tru) (k r : Nat) : Int := out2 d x t d.reaches.length r + sumF (qO d r) (fun i => t.outlets.getD i 0) k
def mostT (x : Ev) (bl : Int × Int → Option Int) (i : Nat) : Int := if (suE x i).kind = 4 then (bl ((suE x i).kind, (suE x i).index)).getD 0 else 0
def worstV (y : Reach) (h : Int) : Int := if lErr y h = 0 then h - (lostR y h).hi else 0
def bestV (y : Reach) (h : Int) : Int := if lErr y h = 0 then h - (lostR y h).lo else 0
def fitsB (d : Dist) (x : Ev) (bl : Int × Int → Option Int) (v : Wv) (t : Tru) : Bool := inB bl 1 t.heads v.heads && (inB bl 2 t.outlets v.outlets && (inB bl 3 t.tails v.tails && (decide (t.arrived.length = d.reaches.length) && (decide (t.taken.length = x.suspects.length) &&
  (((List.range x.suspects.length).all fun i => inI (t.taken.getD i 0) 0 (mostT x bl i)) && ((List.range d.reaches.length).all fun r => decide (t.arrived.getD r 0 = out3 d x t d.farms.length r) && inI (out3 d x t d.farms.length r) (worstV (rcE d r) (t.heads.getD r 0)) (bestV (rcE d r) (t.heads.getD r 0))))))))
structure FitsL (d : Dist) (x : Ev) (bl : Int × Int → Option Int) (v : Wv) (t : Tru) : Prop where
  i1 : inB bl 1 t.heads v.heads = true
  i2 : inB bl 2 t.outlets v.outlets = true
  i3 : inB bl 3 t.tails v.tails = true
  la : t.arrived.length = d.reaches.length
  lt : t.taken.length = x.suspects.length
  tk : ∀ i, i < x.suspects.length → 0 ≤ t.taken.getD i 0 ∧ t.taken.getD i 0 ≤ mostT x bl i
  ar : ∀ r, r < d.reaches.length → t.arrived.getD r 0 = out3 d x t d.farms.length r ∧ worstV (rcE d r) (t.heads.getD r 0) ≤ out3 d x t d.farms.length r ∧ out3 d x t d.farms.length r ≤ bestV (rcE d r) (t.heads.getD r 0)
theorem fitsB_iff {d : Dist} {x : Ev} {bl : Int × Int → Option Int} {v : Wv} {t : Tru} : fitsB d x bl v t = true ↔ FitsL d x bl v t := by
  unfold fitsB
  simp only [Bool.and_eq_true, decide_eq_true_eq, List.all_eq_true, List.mem_range, inI_iff]
  exact ⟨fun ⟨h1, h2, h3, h4, h5, h6, h7⟩ => ⟨h1, h2, h3, h4, h5, h6, h7⟩, fun h => ⟨h.i1, h.i2, h.i3, h.la, h.lt, h.tk, h.ar⟩⟩
theorem tru_open {D : Nat → Prop} {w : World} {cs : List Value} {t : Tru} (h : tTru.rep D w cs t) : ∃ P1 p1 r1 P2 p2 r2 P3 p3 r3 P4 p4 r4 P5 p5 r5, cs = [.slice P1 p1 r1, .slice P2 p2 r2, .slice P3 p3 r3, .slice P4 p4 r4, .slice P5 p5 r5] ∧ SlR tInt D w P1 p1 t.heads ∧ SlR tInt D w P2 p2 t.outlets ∧ SlR tInt D w P3 p3 t.tails ∧ SlR tInt D w P4 p4 t.arrived ∧ SlR tInt D w P5 p5 t.taken := by
  obtain ⟨_, _, rfl, ⟨P1, p1, r1, rfl, g1, -⟩, _, _, rfl, ⟨P2, p2, r2, rfl, g2, -⟩, _, _, rfl, ⟨P3, p3, r3, rfl, g3, -⟩, _, _, rfl, ⟨P4, p4, r4, rfl, g4, -⟩, P5, p5, r5, rfl, g5, -⟩ := h
  exact ⟨P1, p1, r1, P2, p2, r2, P3, p3, r3, P4, p4, r4, P5, p5, r5, rfl, g1, g2, g3, g4, g5⟩
theorem map_icells {l : List Int} {R : Nat} (h : l.length = R) : (l.map fun v => iv v) = icells R fun r => l.getD r 0 := by
  apply List.ext_getElem?
  intro j
  by_cases hj : j < R
  · rw [icells_at hj, List.getElem?_map, List.getElem?_eq_getElem (by omega), List.getD_eq_getElem?_getD, List.getElem?_eq_getElem (by omega)]; rfl
  · rw [List.getElem?_eq_none (by rw [List.length_map]; omega), List.getElem?_eq_none (by rw [icells_len]; omega)]
section
variable {w : World}
end
end Go.Proofs.YtcpdhclnmjfldaaGreatDoor

/- Layer 48: contract of Accepts. -/
namespace Go.Proofs.YtcpdhclnmjfldaaGreatDoor
open Go Go.RowKit

def allB (d : Dist) (x : Ev) (set : List Int) (vs : List Wv) (l : List Tru) : Bool := decide (vs.length = l.length) && (vs.zip l).all fun p => fitsB d x (blF x set) p.1 p.2
def accV (d : Dist) (x : Ev) (set : List Int) (l : List Tru) : Bool := if askErr d x set = 0 then allB d x set x.waves l else false
section
variable {w : World}
end
end Go.Proofs.YtcpdhclnmjfldaaGreatDoor

/- Own layer, part t: a loop that holds ranges over functions; a return behind several of these. Nothing of the program stands here. -/
namespace Go.Proofs.YtcpdhclnmjfldaaGreatDoor
open Go Go.RowKit

section
variable {P : Program}
structure NextDP {α β : Type} (enc : α → β → List (Nat × Value)) (I : α → β → List Deferred → World → Prop) (μ : α → β → World → Nat) (m : Nat) (F : Fr) (ds : List Deferred) (w : World) : Prop where
  of_ ::
  un_ : ∃ (a : α) (b : β), Has F (enc a b) ∧ I a b ds w ∧ μ a b w < m
theorem nextD {α β : Type} {enc : α → β → List (Nat × Value)} {I : α → β → List Deferred → World → Prop} {μ : α → β → World → Nat} {m : Nat} {F : Fr} {ds : List Deferred} {w : World} (a : α) (b : β) (h : Has F (enc a b)) (hi : I a b ds w) (hm : μ a b w < m) : NextDP enc I μ m F ds w := ⟨a, b, h, hi, hm⟩
theorem loopD {c : Code} {K : KK} {F0 : Fr} {ds0 : List Deferred} {w0 : World} {α β : Type} (enc : α → β → List (Nat × Value)) (I : α → β → List Deferred → World → Prop) (μ : α → β → World → Nat)
    (a0 : α) (b0 : β) (h0 : Has F0 (enc a0 b0)) (hI : I a0 b0 ds0 w0)
    (step : ∀ (G : Fr) (a : α) (b : β) (ds : List Deferred) (w : World), I a b ds w →
      V P c (fun e F' ds' w' => match e with | .normal => NextDP enc I μ (μ a b w) F' ds' w' | e => K e F' ds' w') (upds (enc a b) (mix (writes c) F0 G)) ds w) :
    LoopH c (V P c) K F0 ds0 w0 := by
  rw [LoopH_eq]
  refine ⟨fun n F ds' w => Off (writes c) F0 F ∧ ∃ a b, Has F (enc a b) ∧ I a b ds' w ∧ μ a b w = n, ⟨_, .refl _ _, a0, b0, h0, hI, rfl⟩, ?_⟩
  rintro n F ds' w ⟨hf, a, b, hs, hi, rfl⟩
  have hm : mix (writes c) F0 F = F := funext fun j => by
    show (bif memN j (writes c) then F j else F0 j) = F j
    cases hb : memN j (writes c) with
    | true => rfl
    | false => exact (hf j hb).symm
  have h1 := step F a b ds' w hi
  rw [hm, upds_has hs] at h1
  refine V_mf c _ _ F ds' w (fun e F' ds'' w' hf' hd h => ?_) h1
  cases e with
  | normal =>
    have h : NextDP enc I μ (μ a b w) F' ds'' w' := h
    obtain ⟨a', b', a1, a2, a3⟩ := h.un_
    exact ⟨_, a3, hf.trans (hf' (fun _ e => by cases e)), a', b', a1, a2, rfl⟩
  | _ => exact h
/-- The marks that have been laid. -/
def Marks (lo : Nat) : List Deferred → World → Prop
  | [], _ => True
  | d :: ds, w => (∃ b, d.target = .collected b ∧ lo ≤ b ∧ w.heap[b]? = some (.deferred (some [])) ∧ ∀ d' ∈ ds, d'.target ≠ .collected b) ∧ Marks lo ds w
theorem Marks.lt {lo : Nat} : ∀ {ds : List Deferred} {w : World}, Marks lo ds w → ∀ d ∈ ds, ∀ b, d.target = .collected b → b < w.heap.size
  | d :: ds, w, ⟨⟨b, h1, h2, h3, h4⟩, h5⟩, x, hx, b', hb => by
    rcases List.mem_cons.1 hx with rfl | hx
    · rw [h1] at hb; injection hb with hb; subst hb
      exact (Array.getElem?_eq_some_iff.1 h3).1
    · exact h5.lt x hx b' hb
theorem Marks.kept {lo : Nat} {D : Nat → Prop} : ∀ {ds : List Deferred} {w w' : World}, Marks lo ds w → Kept D w w' → (∀ b, lo ≤ b → b < w.heap.size → w.heap[b]? = some (.deferred (some [])) → D b) → Marks lo ds w'
  | [], _, _, _, _, _ => trivial
  | _ :: _, _, _, ⟨⟨b, h1, h2, h3, h4⟩, h5⟩, k, hD => ⟨⟨b, h1, h2, (k.blk b (Array.getElem?_eq_some_iff.1 h3).1 (hD b h2 (Array.getElem?_eq_some_iff.1 h3).1 h3)).trans h3, h4⟩, h5.kept k hD⟩
theorem Marks.ext {lo : Nat} {ds : List Deferred} {w w' : World} (h : Marks lo ds w) (k : Ext w w') : Marks lo ds w' := h.kept k fun _ _ _ _ => trivial
theorem Marks.add {lo b : Nat} {ds : List Deferred} {w w' : World} (h : Marks lo ds w) (k : Ext w w') (hb : w.heap.size ≤ b) (hlo : lo ≤ b) (hw : w'.heap[b]? = some (.deferred (some []))) : Marks lo ({ target := .collected b, args := #[] } :: ds) w' :=
  ⟨⟨b, rfl, hlo, hw, fun d' hd e => by have := h.lt d' hd b e; omega⟩, h.ext k⟩
theorem Marks.shut {lo : Nat} : ∀ {ds : List Deferred} {w : World}, Marks lo ds w → ∃ w', shutMarks ds w = some w' ∧ Kept (fun b => b < lo) w w'
  | [], w, _ => ⟨w, rfl, .refl _ _⟩
  | d :: ds, w, ⟨⟨b, h1, h2, h3, h4⟩, h5⟩ => by
    have k : Kept (fun c => c ≠ b) w (w.putObj b (.deferred none)) := Kept.putObj w b _
    have h6 : Marks lo ds (w.putObj b (.deferred none)) := by
      clear h2
      induction ds with
      | nil => trivial
      | cons x r ih =>
        obtain ⟨⟨c, g1, g2, g3, g4⟩, g5⟩ := h5
        have hne : c ≠ b := fun e => h4 x List.mem_cons_self (e ▸ g1)
        exact ⟨⟨c, g1, g2, (k.blk c (Array.getElem?_eq_some_iff.1 g3).1 hne).trans g3, g4⟩, ih (fun y hy => h4 y (List.mem_cons_of_mem _ hy)) g5⟩
    obtain ⟨w', h7, h8⟩ := Marks.shut h6
    refine ⟨w', ?_, (k.weak fun i _ hi => by omega).trans h8⟩
    unfold shutMarks
    rw [h1]
    simp only [h3]
    exact h7
/-- A return behind marks. -/
theorem retMs {rs : List ResultVar} {F : Fr} {R : VK} {lo : Nat} {ds : List Deferred} {w : World} (hm : Marks lo ds w) (h : ∀ w', Kept (fun b => b < lo) w w' → VRes P F w' rs [] (fun vs => R (resV vs) w')) : RetP P rs F ds R w := by
  rw [RetP_eq]
  obtain ⟨w', h1, h2⟩ := hm.shut
  exact ⟨w', h1, h w' h2⟩
end
end Go.Proofs.YtcpdhclnmjfldaaGreatDoor

/- Layer 48: contract of fill. -/
namespace Go.Proofs.YtcpdhclnmjfldaaGreatDoor
open Go Go.RowKit

def lftA : Int → List (Rg × Dst) → Int
  | l, [] => l
  | l, p :: r => lftA (l - min l (p.1.hi - p.1.lo)) r
theorem dist_app (p : Rg × Dst) : ∀ (pre : List (Rg × Dst)) (l : Int), distL l (pre ++ [p]) = distL l pre ++ [(p.2, p.1.lo + min (lftA l pre) (p.1.hi - p.1.lo))]
  | [], l => rfl
  | q :: pre, l => by
    show distL l (q :: (pre ++ [p])) = _
    unfold distL lftA
    rw [dist_app p pre]; rfl
theorem lft_app (p : Rg × Dst) : ∀ (pre : List (Rg × Dst)) (l : Int), lftA l (pre ++ [p]) = lftA l pre - min (lftA l pre) (p.1.hi - p.1.lo)
  | [], l => rfl
  | q :: pre, l => by
    show lftA l (q :: (pre ++ [p])) = lftA l (q :: pre) - min (lftA l (q :: pre)) _
    unfold lftA
    exact lft_app p pre _
theorem put_app (q : Dst × Int) : ∀ (pre : List (Dst × Int)) (T : Dst → Int), putL T (pre ++ [q]) = setD (putL T pre) q.1 q.2
  | [], T => rfl
  | a :: pre, T => by
    show putL T (a :: (pre ++ [q])) = _
    unfold putL
    exact put_app q pre _
theorem lft_b : ∀ {pre : List (Rg × Dst)} {l : Int}, 0 ≤ l → (∀ p ∈ pre, p.1.lo ≤ p.1.hi) → 0 ≤ lftA l pre ∧ lftA l pre ≤ l
  | [], l, h, _ => ⟨h, Int.le_refl _⟩
  | p :: pre, l, h, hp => by
    have h1 := hp p List.mem_cons_self
    have h2 := lft_b (pre := pre) (l := l - min l (p.1.hi - p.1.lo)) (by omega) fun q hq => hp q (List.mem_cons_of_mem _ hq)
    unfold lftA
    omega
theorem icells_setD {R K : Nat} {T : Dst → Int} {g : Nat → Dst} {v : Int} (hg : ∀ k, g k = g K → k = K) (_ : True) : icells R (fun k => setD T (g K) v (g k)) = (icells R fun k => T (g k)).set K (iv v) := by
  have e := icells_set (R := R) (i := K) (f := fun k => T (g k)) (g := fun k => setD T (g K) v (g k)) (fun j _ => by
    unfold setD
    by_cases e : j = K
    · subst e; simp
    · rw [if_neg e, if_neg (fun h => e (hg _ h))])
  rw [← e, show setD T (g K) v (g K) = v from by unfold setD; rw [if_pos rfl]]
theorem icells_setN {R : Nat} {T : Dst → Int} {g : Nat → Dst} {a : Dst} {v : Int} (hg : ∀ k, g k = a → False) : icells R (fun k => setD T a v (g k)) = icells R fun k => T (g k) := by
  congr 1; funext k; unfold setD; rw [if_neg fun h => hg k h]
/-- Five blocks: a block that is none of them; and that they are five. -/
structure N5 (t1 t2 t3 t4 t5 b : Nat) : Prop where
  a1 : b ≠ t1
  a2 : b ≠ t2
  a3 : b ≠ t3
  a4 : b ≠ t4
  a5 : b ≠ t5
structure T5 (t1 t2 t3 t4 t5 : Nat) : Prop where
  a12 : t1 ≠ t2
  a13 : t1 ≠ t3
  a14 : t1 ≠ t4
  a15 : t1 ≠ t5
  a23 : t2 ≠ t3
  a24 : t2 ≠ t4
  a25 : t2 ≠ t5
  a34 : t3 ≠ t4
  a35 : t3 ≠ t5
  a45 : t4 ≠ t5
structure N4 (t1 t2 t3 t5 b : Nat) : Prop where
  a1 : b ≠ t1
  a2 : b ≠ t2
  a3 : b ≠ t3
  a5 : b ≠ t5
theorem CrsN.t5 {w0 w : World} {bc gm bh t1 t2 t3 t4 t5 : Nat} {csd csx cw : List Value} {d : Dist} {x : Ev} {bl : Int × Int → Option Int} {v : Wv} {hl : List Rg} (hN : CrsN w0 w bc gm bh t1 t2 t3 t4 t5 csd csx cw d x bl v hl) : T5 t1 t2 t3 t4 t5 := by
  obtain ⟨-, -, ⟨h12, h13, h14, h15⟩, ⟨h23, h24, h25⟩, ⟨h34, h35⟩, h45⟩ := hN.ne
  exact ⟨h12, h13, h14, h15, h23, h24, h25, h34, h35, h45⟩
theorem CrsN.n5 {w0 w : World} {bc gm bh t1 t2 t3 t4 t5 : Nat} {csd csx cw : List Value} {d : Dist} {x : Ev} {bl : Int × Int → Option Int} {v : Wv} {hl : List Rg} (hN : CrsN w0 w bc gm bh t1 t2 t3 t4 t5 csd csx cw d x bl v hl) (b : Nat) (h : b < w0.heap.size ∨ b = bc ∨ b = bh) : N5 t1 t2 t3 t4 t5 b := by
  obtain ⟨⟨-, c1, c2, c3, c4, c5⟩, ⟨h1, h2, h3, h4, h5⟩, -⟩ := hN.ne
  obtain ⟨-, -, n1, n2, n3, n4, n5⟩ := hN.new
  rcases h with h | rfl | rfl
  · clear c1 c2 c3 c4 c5 h1 h2 h3 h4 h5
    exact ⟨by omega, by omega, by omega, by omega, by omega⟩
  · exact ⟨c1, c2, c3, c4, c5⟩
  · exact ⟨h1, h2, h3, h4, h5⟩
/-- The Truth's blocks hold T. -/
def TB (R F S : Nat) (u : World) (t1 t2 t3 t5 : Nat) (T : Dst → Int) : Prop := Blk u t1 3 (icells R fun k => T (.head k)) ∧ Blk u t2 3 (icells F fun k => T (.outlet k)) ∧ Blk u t3 3 (icells R fun k => T (.tail k)) ∧ Blk u t5 3 (icells S fun k => T (.taken k))
theorem TB.kept {R F S : Nat} {u u' : World} {t1 t2 t3 t5 : Nat} {T : Dst → Int} {D : Nat → Prop} (h : TB R F S u t1 t2 t3 t5 T) (k : Kept D u u') (h1 : D t1) (h2 : D t2) (h3 : D t3) (h5 : D t5) : TB R F S u' t1 t2 t3 t5 T := ⟨h.1.kept k h1, h.2.1.kept k h2, h.2.2.1.kept k h3, h.2.2.2.kept k h5⟩
theorem TB.ext {R F S : Nat} {u u' : World} {t1 t2 t3 t5 : Nat} {T : Dst → Int} (h : TB R F S u t1 t2 t3 t5 T) (k : Ext u u') : TB R F S u' t1 t2 t3 t5 T := h.kept k trivial trivial trivial trivial
section
variable {w : World}
end
end Go.Proofs.YtcpdhclnmjfldaaGreatDoor

/- Layer 48: contract of Find. -/
namespace Go.Proofs.YtcpdhclnmjfldaaGreatDoor
open Go Go.RowKit

def mkT (R F S : Nat) (T : Dst → Int) (A : Nat → Int) : Tru := ⟨(List.range R).map fun k => T (.head k), (List.range F).map fun k => T (.outlet k), (List.range R).map fun k => T (.tail k), (List.range R).map A, (List.range S).map fun k => T (.taken k)⟩
def folF (d : Dist) (x : Ev) (bl : Int × Int → Option Int) (v : Wv) : Nat → Rg := (followV d x bl v d.reaches.length fun _ => g0).getD fun _ => g0
def truV (d : Dist) (x : Ev) (bl : Int × Int → Option Int) (v : Wv) : Tru := mkT d.reaches.length d.farms.length x.suspects.length (fillT d x bl v (folF d x bl v) d.reaches.length) (fillA d x bl v (folF d x bl v))
/-- What Find answers where it finds something. -/
def findL (d : Dist) (x : Ev) (set : List Int) : List Tru := x.waves.map (truV d x (blF x set))
theorem fol_fok {d : Dist} {x : Ev} {bl : Int × Int → Option Int} {v : Wv} {f : Nat → Rg} (hw : WavOk d x bl v) (h : followV d x bl v d.reaches.length (fun _ => g0) = some f) : folF d x bl v = f ∧ ∀ r, r < d.reaches.length → FOK d x bl v f r := by
  refine ⟨by unfold folF; rw [h]; rfl, (follow_ok hw _ _ _ (Nat.le_refl _) h).2⟩
theorem sl_icells {D : Nat → Prop} {w : World} {b R : Nat} {f : Nat → Int} (hb : Blk w b 3 (icells R f)) (hD : D b) (hR : R ≤ 140737488355328) (hf : ∀ k, k < R → I64 (f k)) : SlR tInt D w (some (ad b 0)) R ((List.range R).map f) := by
  refine SlR.of_cells (cs := icells R f) (by simp) hR hD (.blk hb) ?_
  have e : icells R f = ((List.range R).map f).map (.int .i64) := by unfold icells; rw [List.map_map]; rfl
  rw [e]
  refine flat_ints fun y hy => ?_
  obtain ⟨k, hk, rfl⟩ := List.mem_map.1 hy
  exact hf k (List.mem_range.1 hk)
/-- What is filled are numbers. -/
theorem fits_i64 {d : Dist} {x : Ev} {bl : Int × Int → Option Int} {v : Wv} {T : Dst → Int} {A : Nat → Int} (hw : WavOk d x bl v) (h : FitsT d x bl v T A) :
    (∀ k, k < d.reaches.length → I64 (T (.head k))) ∧ (∀ k, k < d.farms.length → I64 (T (.outlet k))) ∧ (∀ k, k < d.reaches.length → I64 (T (.tail k))) ∧ (∀ k, k < d.reaches.length → I64 (A k)) ∧ ∀ k, k < x.suspects.length → I64 (T (.taken k)) := by
  have hh : ∀ k, k < d.reaches.length → 0 ≤ T (.head k) ∧ T (.head k) ≤ 1073741824 := fun k hk => by
    have h1 := rgOk_iff.1 (meter_ok hw.bl (kd := 1) (ix := k) (hw.heads k hk))
    have h2 := h.heads k hk
    omega
  refine ⟨fun k hk => ?_, fun k hk => ?_, fun k hk => ?_, fun k hk => ?_, fun k hk => ?_⟩
  · have := hh k hk; exact ⟨by omega, by omega⟩
  · have h1 := rgOk_iff.1 (meter_ok hw.bl (kd := 2) (ix := k) (hw.outlets k hk))
    have h2 := h.outlets k hk
    exact ⟨by omega, by omega⟩
  · have h1 := rgOk_iff.1 (meter_ok hw.bl (kd := 3) (ix := k) (hw.tails k hk))
    have h2 := h.tails k hk
    exact ⟨by omega, by omega⟩
  · have h1 := arr_le (hw.loss k hk) (hh k hk)
    have h2 := h.arr k hk
    have h3 := hh k hk
    exact ⟨by omega, by omega⟩
  · have h2 := h.taken k hk
    split at h2
    · cases hb : bl ((suE x k).kind, (suE x k).index) with
      | none => rw [hb] at h2; have h3 : T (.taken k) ≤ 0 := h2.2; exact ⟨by omega, by omega⟩
      | some n => rw [hb] at h2; have h3 : T (.taken k) ≤ n := h2.2; have := hw.bl _ _ hb; exact ⟨by omega, by omega⟩
    · exact ⟨by omega, by omega⟩
section
variable {w : World}
end
end Go.Proofs.YtcpdhclnmjfldaaGreatDoor
