/- Parts of the proof: A1 A2 A3 A4 A5 A6 A7 A8 A9. -/
import Derived.Test.YtehcphboliofaaaGreatDoorPT5
import Derived.Test.YtehcphboliofaaaGreatDoorPT3

/- Contracts: ratios. -/
namespace Go.Proofs.YtehcphboliofaaaGreatDoor
open Go Go.RowKit

/-! ### more rules -/
section
variable {P : Program} {X : XK}
theorem i64_wrap_id {n : Int} (hn : -9223372036854775808 ≤ n ∧ n ≤ 9223372036854775807) : IntKind.i64.wrap n = n := by
  have := arI (K := fun v => v = .int .i64 n) hn rfl
  rw [ArP_eq] at this
  injection this
theorem convI {s t : TypeId} {k0 : IntKind} {n : Int} {K : Value → Prop} [h0 : IntTy P s k0] [h : IntTy P t .i64] (hn : -9223372036854775808 ≤ n ∧ n ≤ 9223372036854775807) (kk : K (.int .i64 n)) : ConvP P s t (.int k0 n) K := by
  refine conv (k := .i64) ?_
  rw [i64_wrap_id hn]; exact kk
/-- The no first. -/
theorem cDr {p : Prop} [Decidable p] {K : Value → Prop} (h2 : ¬ p → K (.bool false)) (h1 : p → K (.bool true)) : CmpP p K := .of ⟨h1, h2⟩
/-- A number that is not below 0, as an unsigned one. -/
theorem convU {s t : TypeId} {k0 : IntKind} {n : Nat} {i : Int} {K : Value → Prop} [h0 : IntTy P s k0] [h : IntTy P t .u64] (hi : i = n) (hn : n < 9223372036854775808) (kk : K (.int .u64 (n : Int))) : ConvP P s t (.int k0 i) K := by
  subst hi
  refine conv (k := .u64) ?_
  rw [u64_wrap, Int.emod_eq_of_lt (by omega) (by omega)]; exact kk
theorem remT {kd : IntKind} {a b : Int} {K : Value → Prop} (hb : b ≠ 0) (k : K (.int kd (a.tmod b))) : RemP kd a b K := by rw [RemP_eq]; exact ⟨hb, k⟩
theorem quoT {a b : Int} {K : Value → Prop} (c : Int) (hb : b ≠ 0) (hc : a.tdiv b = c) (h : -9223372036854775808 ≤ c ∧ c ≤ 9223372036854775807) (k : K (.int .i64 c)) : QuoP .i64 a b K := by
  rw [QuoP_eq]; exact ⟨hb, by rw [hc, i64_wrap_id h]; exact k⟩
/-- A block of one cell is set. -/
theorem st1 {t e : TypeId} [h : StoTy P t] {g : Nat} {u v : Value} {w : World} {K : VK} (hb : Blk w g e [u]) (hv : v.oneCell' = true) (kk : ∀ w', Blk w' g e [v] → Kept (fun b => b ≠ g) w w' → K undef w') : StoreP P t (.pointer (some (ad g 0))) v K w :=
  st hb (Nat.le_of_ble_eq_true rfl) hv fun w' h1 h2 _ => kk w' h1 h2
theorem yield_of {l : Nat} {args : Array Value} {w : World} {R K : VK} (h : YieldP P l args R w) (k : ∀ v w', R v w' → K v w') : YieldP P l args K w := by
  rw [YieldP_eq] at h ⊢; exact h.mono k
end
abbrev ptr (b : Nat) : Value := .pointer (some (ad b 0))
abbrev iv (n : Int) : Value := .int .i64 n

/-! ### ratios -/
structure Q where
  n : Int
  d : Int
deriving DecidableEq
abbrev Q.v (a : Q) : Value := .agg #[iv a.n, iv a.d]
def qValid (a : Q) : Bool := decide (1 ≤ a.d) && (decide (a.d ≤ 1073741824) && (decide (-1073741824 ≤ a.n) && (decide (a.n ≤ 1073741824) && (Nat.gcd a.n.natAbs a.d.toNat == 1))))
theorem qValid_iff {a : Q} : qValid a = true ↔ 1 ≤ a.d ∧ a.d ≤ 1073741824 ∧ -1073741824 ≤ a.n ∧ a.n ≤ 1073741824 ∧ Nat.gcd a.n.natAbs a.d.toNat = 1 := by
  unfold qValid; simp only [Bool.and_eq_true, decide_eq_true_eq, beq_iff_eq]
def qErr (a : Q) : Int := if qValid a then 0 else 120
def cmpI (x y : Int) : Int := if x < y then -1 else if x > y then 1 else 0
def qCmp (a b : Q) : Int × Int := if qValid a && qValid b then (cmpI (a.n * b.d) (b.n * a.d), 0) else (0, 120)
theorem prod_lt {x y : Int} (hx : -1073741824 ≤ x ∧ x ≤ 1073741824) (hy : -1073741824 ≤ y ∧ y ≤ 1073741824) : -1152921504606846976 ≤ x * y ∧ x * y ≤ 1152921504606846976 := by
  have h1 := Int.natAbs_mul x y
  have h2 : x.natAbs * y.natAbs ≤ 1073741824 * 1073741824 := Nat.mul_le_mul (by omega) (by omega)
  omega

section
variable {w : World}
theorem c_isNaN {x : Int} : CallZ Tryz.prog 273 #[iv x] w (fun v w' => v = .bool false ∧ w' = w) := by
  refine fn_rule (args := [iv x]) Tryz.func273 (by kernel_rfl) ?_
  refine cN (fun h => absurd rfl h) (fun _ => ?_)
  exact ret1 (.bool false) rfl ⟨rfl, rfl⟩
theorem c_Compare {x y : Int} : CallZ Tryz.prog 264 #[iv x, iv y] w (fun v w' => v = iv (cmpI x y) ∧ w' = w) := by
  refine fn_rule (args := [iv x, iv y]) Tryz.func264 (by kernel_rfl) ?_
  refine call_of c_isNaN ?_
  rintro _ _ ⟨rfl, rfl⟩
  refine call_of c_isNaN ?_
  rintro _ _ ⟨rfl, rfl⟩
  refine cD (fun h => ?_) (fun h => ?_)
  · exact ret1 (iv (-1)) rfl ⟨by unfold cmpI; rw [if_pos h], rfl⟩
  refine cD (fun h2 => ?_) (fun h2 => ?_)
  · exact ret1 (iv 1) rfl ⟨by unfold cmpI; rw [if_neg h, if_pos h2], rfl⟩
  · exact ret1 (iv 0) rfl ⟨by unfold cmpI; rw [if_neg h, if_neg h2], rfl⟩
theorem c_magnitude {n : Int} (hn : -1073741824 ≤ n ∧ n ≤ 1073741824) : CallZ Tryz.prog 272 #[iv n] w (fun v w' => v = .int .u64 (n.natAbs : Int) ∧ w' = w) := by
  refine fn_rule (args := [iv n]) Tryz.func272 (by kernel_rfl) ?_
  refine cD (fun h => ?_) (fun h => ?_)
  · refine conv (k := .u64) ?_
    obtain ⟨y, hy⟩ : ∃ y, y = IntKind.u64.wrap n := ⟨_, rfl⟩
    rw [← hy]
    refine arW ?_
    obtain ⟨x, hx⟩ : ∃ x, x = IntKind.u64.wrap (0 - y) := ⟨_, rfl⟩
    rw [← hx]
    rw [u64_wrap] at hx hy
    exact ret1 (.int .u64 x) rfl ⟨by rw [show x = (n.natAbs : Int) from by omega], rfl⟩
  · refine convU (n := n.natAbs) (by omega) (by omega) ?_
    exact ret1 (.int .u64 (n.natAbs : Int)) rfl ⟨rfl, rfl⟩
theorem gcd_step (a b : Nat) : Nat.gcd b (a % b) = Nat.gcd a b := by rw [Nat.gcd_comm b, ← Nat.gcd_rec, Nat.gcd_comm]
theorem c_remainders1 {b1 b2 l a b : Nat} {D : Nat → Prop} (J : Nat → World → Prop) (hb12 : b1 ≠ b2) (hJ : ∀ d w w', J d w → Kept (fun x => x ≠ b1 ∧ x ≠ b2) w w' → J d w')
    (hstep : ∀ (d x : Nat) w, J d w → YieldP Tryz.prog l [.int .u64 (x : Int)].toArray (fun v w' => v = .bool true ∧ J x w' ∧ Kept D w w') w) (hD1 : D b1) (hD2 : D b2)
    (h1 : Blk w b1 152 [.int .u64 (a : Int)]) (h2 : Blk w b2 152 [.int .u64 (b : Int)]) (hb : 0 < b) (h0 : J b w) :
    CallZ Tryz.prog 279 #[.func (.yield l) #[] #[], ptr b1, ptr b2] w (fun _ w' => J (Nat.gcd a b) w') := by
  refine fn_rule (args := [.func (.yield l) #[] #[], ptr b1, ptr b2]) Tryz.func279 (by kernel_rfl) ?_
  refine loop3 (fun (_ _ _ : Nat) => []) (fun x y d w' => 0 < y ∧ Nat.gcd x y = Nat.gcd a b ∧ Blk w' b1 152 [.int .u64 (x : Int)] ∧ Blk w' b2 152 [.int .u64 (y : Int)] ∧ J d w' ∧ (x = 0 → d = y)) (fun _ y _ _ => y) a b b trivial ⟨hb, rfl, h1, h2, h0, fun _ => rfl⟩ rfl ?_
  rintro G x y d w1 ⟨hy, hg, e1, e2, hj, hd⟩
  refine ld _ (e1.cell rfl) ?_
  refine cN (fun hx => ?_) (fun hx => ?_)
  · refine ld _ (e1.cell rfl) ?_
    refine yield_of (hstep d x w1 hj) ?_
    rintro _ w2 ⟨rfl, hj2, k2⟩
    have f1 := e1.kept k2 hD1
    have f2 := e2.kept k2 hD2
    refine drawP (.take 0 (.take 2 (.take 3 (.eff 1 (.take 4 (.eff 5 (.bar (.eff 6 .done)))))))) [6] (fun u => Kept (fun x => x ≠ b1) w2 u) mx (by kernel_rfl) (.refl _ _) ?_
    refine ldK _ (f2.cell rfl) (Ne.symm hb12) (.refl _ _) ?_
    refine ldK _ (f2.cell rfl) (Ne.symm hb12) (.refl _ _) ?_
    refine ld _ (f1.cell rfl) ?_
    refine strS (.refl _ _) ?_
    refine remI (by omega) (by omega) ?_
    obtain ⟨r, hr⟩ : ∃ r : Nat, (x : Int) % max (y : Int) 1 = (r : Int) := ⟨x % y, by rw [Int.max_eq_left (by omega)]; rfl⟩
    have hr' : r = x % y := by
      rw [Int.max_eq_left (by omega)] at hr
      have : ((x % y : Nat) : Int) = (r : Int) := by rw [← hr]; rfl
      omega
    rw [hr]
    have hrl : r < y := by rw [hr']; exact Nat.mod_lt _ hy
    have hgr : Nat.gcd y r = Nat.gcd a b := by rw [hr', gcd_step, hg]
    refine st1 f1 rfl (fun w3 s1 k3 => ?_)
    refine strS k3 ?_
    refine barS (fun _ => True) trivial ?_
    refine st1 (f2.kept k3 (Ne.symm hb12)) rfl (fun w4 s2 k4 => ?_)
    refine strS trivial ?_
    have t1 := s1.kept k4 hb12
    have hj4 := hJ x w2 w4 hj2 ((k3.weak fun _ _ h => h.1).trans (k4.weak fun _ _ h => h.2))
    refine ld _ (s2.cell rfl) ?_
    refine cE (fun h0 => ?_) (fun h0 => ?_)
    · refine ld _ (t1.cell rfl) ?_
      refine yield_of (hstep x y w4 hj4) ?_
      rintro _ w5 ⟨rfl, hj5, -⟩
      refine ret0 ?_
      rw [← hgr, show r = 0 from by omega, Nat.gcd_zero_right]; exact hj5
    · exact next3 y r x trivial ⟨by omega, hgr, t1, s2, hj4, fun h => by omega⟩ hrl
  · have hx0 : x = 0 := by omega
    subst hx0
    refine ret0 ?_
    rw [← hg, Nat.gcd_zero_left]
    rw [hd rfl] at hj; exact hj
theorem c_remainders {a b : Nat} : CallZ Tryz.prog 276 #[.int .u64 (a : Int), .int .u64 (b : Int)] w (fun v w' => ∃ b1 b2, v = .func (.func 279) #[] #[ptr b1, ptr b2] ∧ Ext w w' ∧ Blk w' b1 152 [.int .u64 (a : Int)] ∧ Blk w' b2 152 [.int .u64 (b : Int)] ∧ w.heap.size ≤ b1 ∧ b1 < b2) := by
  refine fn_rule (args := [.int .u64 (a : Int), .int .u64 (b : Int)]) Tryz.func276 (by kernel_rfl) ?_
  refine box (fun b1 w1 h1 => ?_)
  refine box (fun b2 w2 h2 => ?_)
  have e1 := h1.at_
  have e2 := h2.at_
  have s1 := h1.size
  exact ret1 (.func (.func 279) #[] #[ptr b1, ptr b2]) rfl ⟨b1, b2, rfl, h1.ext.trans h2.ext, h1.blk.ext h2.ext, h2.blk, by omega, by omega⟩
theorem c_divisor {a b : Nat} : CallZ Tryz.prog 271 #[.int .u64 (a : Int), .int .u64 (b : Int)] w (fun v w' => v = .int .u64 (Nat.gcd a b : Int) ∧ Ext w w') := by
  refine fn_rule (args := [.int .u64 (a : Int), .int .u64 (b : Int)]) Tryz.func271 (by kernel_rfl) ?_
  refine alloc (fun r w1 h1 => ?_)
  refine cE (fun h0 => ?_) (fun h0 => ?_)
  · refine st1 h1.blk rfl (fun w2 hb2 k2 => ?_)
    refine ret ?_
    refine resL _ (holds_cell (hb2.cell rfl)) ?_
    have e1 := h1.at_
    have : b = 0 := by omega
    subst this
    rw [Nat.gcd_zero_right]
    exact ⟨rfl, h1.ext.then k2 fun b hb _ e => by omega⟩
  · refine st1 h1.blk rfl (fun w2 hb2 k2 => ?_)
    have e1 := h1.at_
    have x2 : Ext w w2 := h1.ext.then k2 fun b hb _ e => by omega
    refine call_of c_remainders ?_
    rintro _ w3 ⟨b1, b2, rfl, x3, g1, g2, hb1, hb12⟩
    have z2 := hb2.lt
    refine range (gf := 279) (lb := #[ptr b1, ptr b2]) rfl (fun fn tmps w4 R hR hF hwf x4 z4 hD4 hl4 => ?_)
    show CallZ _ _ #[.func (.yield (w3.heap.size + 1)) #[] #[], ptr b1, ptr b2] w4 _
    have l1 := g1.lt
    have l2 := g2.lt
    refine (c_remainders1 (D := fun x => x ≠ r ∧ x ≠ w3.heap.size + 1) (fun d w' => Kept (fun x => x ≠ r ∧ x ≠ b1 ∧ x ≠ b2 ∧ x ≠ w3.heap.size + 1) w4 w' ∧ LoopAt w' (w3.heap.size + 1) R ∧ Blk w' r 152 [.int .u64 (d : Int)]) (by omega)
      (fun d w5 w6 ⟨k5, l5, q5⟩ k6 => ⟨k5.then k6 fun _ _ h => ⟨h.2.1, h.2.2.1⟩, l5.kept k6 ⟨by omega, by omega⟩, q5.kept k6 ⟨by omega, by omega⟩⟩) ?_ ⟨by omega, by omega⟩ ⟨by omega, by omega⟩ (g1.ext x4) (g2.ext x4) (by omega) ⟨.refl _ _, hl4, (hb2.ext x3).ext x4⟩).mono ?_
    · rintro d x w5 ⟨k5, l5, q5⟩
      subst hR
      refine yield_rule (args := [.int .u64 (x : Int)]) l5 rfl rfl hF hwf ?_
      refine mid' l5 (fun w6 k6 _ l6 => ?_)
      refine st1 (q5.kept k6 (by omega)) rfl (fun w7 q7 k7 => ?_)
      refine roundN' _ (l6.kept k7 (by omega)) (fun w8 k8 l8 => ?_)
      have kk : Kept (fun x => x ≠ r ∧ x ≠ w3.heap.size + 1) w5 w8 := ((k6.weak fun _ _ h => h.2).trans (k7.weak fun _ _ h => h.1)).trans (k8.weak fun _ _ h => h.2)
      exact ⟨rfl, ⟨k5.then kk fun _ _ h => ⟨h.1, h.2.2.2⟩, l8, q7.kept k8 (by omega)⟩, kk⟩
    · rintro v w5 ⟨k5, l5, q5⟩
      subst hR
      refine range_end _ l5 (by simp) (fun w6 k6 => ?_)
      have q6 := q5.kept k6 (by omega)
      refine ld _ (q6.cell rfl) ?_
      refine st1 q6 rfl (fun w7 q7 k7 => ?_)
      have k47 : Kept (fun x => x ≠ r ∧ x ≠ b1 ∧ x ≠ b2 ∧ x ≠ w3.heap.size + 1) w4 w7 := (k5.then k6 fun _ _ h => h.2.2.2).then k7 fun _ _ h => h.1
      have hD7 : w7.heap[w3.heap.size]? = some (.deferred (some [])) := (k47.blk _ (by omega) ⟨by omega, by omega, by omega, by omega⟩).trans hD4
      refine retM hD7 ?_
      have k8 := Kept.putObj w7 w3.heap.size (.deferred none)
      refine resL _ (holds_cell ((q7.kept k8 (by have := x3.size; omega)).cell rfl)) ?_
      exact ⟨rfl, x2.then (((Ext.any (D := fun b => b < w.heap.size) (x3.trans x4)).then k47 (fun b _ h => ⟨by omega, by omega, by omega, by have := x2.size; have := x3.size; omega⟩)).then k8 (fun b _ h => by have := x2.size; have := x3.size; omega)) (fun b hb _ => hb)⟩
theorem c_qCheck {a : Q} : CallZ Tryz.prog 263 #[a.v] w (fun v w' => v = iv (qErr a) ∧ Ext w w') := by
  refine fn_rule (args := [.agg #[iv a.n, iv a.d]]) Tryz.func263 (by kernel_rfl) ?_
  refine box (fun b w1 h1 => ?_)
  have bad : qValid a = false → iv 120 = iv (qErr a) := fun h => by unfold qErr; rw [h]; rfl
  have h := h1.blk
  refine drawX [0, 1, 2, 3, 4, 5, 6, 7, 8, 9, 10, 11, 12, 13, 14, 15, 16, 17, 18, 19, 20, 21, 22, 23, 24, 25, 26, 27] [25] mx (by kernel_rfl) ?_
  refine fldA ?_
  refine ldX _ (h.cell rfl) (.refl _ _) ?_
  refine cD (fun g1 => ?_) (fun g1 => ?_)
  · refine strS (.refl _ _) ?_
    exact ret1 (iv 120) rfl ⟨bad (Bool.eq_false_iff.2 fun e => by have := qValid_iff.1 e; omega), h1.ext⟩
  refine fldA ?_
  refine ldX _ (h.cell rfl) (.refl _ _) ?_
  refine cD (fun g2 => ?_) (fun g2 => ?_)
  · refine strS (.refl _ _) ?_
    exact ret1 (iv 120) rfl ⟨bad (Bool.eq_false_iff.2 fun e => by have := qValid_iff.1 e; omega), h1.ext⟩
  refine fldA ?_
  refine ldX _ (h.cell rfl) (.refl _ _) ?_
  refine cD (fun g3 => ?_) (fun g3 => ?_)
  · refine strS (.refl _ _) ?_
    exact ret1 (iv 120) rfl ⟨bad (Bool.eq_false_iff.2 fun e => by have := qValid_iff.1 e; omega), h1.ext⟩
  refine fldA ?_
  refine ldX _ (h.cell rfl) (.refl _ _) ?_
  refine cD (fun g4 => ?_) (fun g4 => ?_)
  · refine strS (.refl _ _) ?_
    exact ret1 (iv 120) rfl ⟨bad (Bool.eq_false_iff.2 fun e => by have := qValid_iff.1 e; omega), h1.ext⟩
  refine fldA ?_
  refine ldX _ (h.cell rfl) (.refl _ _) ?_
  refine callQ (v := .int .u64 (a.n.natAbs : Int)) (fun u _ => c_magnitude (by omega)) ?_
  refine fldA ?_
  refine ldX _ (h.cell rfl) (.refl _ _) ?_
  refine convU (n := a.d.toNat) (by omega) (by omega) ?_
  refine call_of c_divisor ?_
  rintro _ w2 ⟨rfl, x2⟩
  refine strS x2 ?_
  refine cN (fun g5 => ?_) (fun g5 => ?_)
  · exact ret1 (iv 120) rfl ⟨bad (Bool.eq_false_iff.2 fun e => by have := qValid_iff.1 e; omega), h1.ext.trans x2⟩
  · refine ret1 (iv 0) rfl ⟨?_, h1.ext.trans x2⟩
    unfold qErr
    rw [qValid_iff.2 ⟨by omega, by omega, by omega, by omega, by omega⟩]; rfl
theorem qErr_ok {a : Q} : qErr a = 0 ↔ qValid a = true := by unfold qErr; cases qValid a <;> simp
theorem c_qCmp {a b : Q} : CallZ Tryz.prog 253 #[a.v, b.v] w (fun v w' => v = .tuple #[iv (qCmp a b).1, iv (qCmp a b).2] ∧ Ext w w') := by
  refine fn_rule (args := [.agg #[iv a.n, iv a.d], .agg #[iv b.n, iv b.d]]) Tryz.func253 (by kernel_rfl) ?_
  refine box (fun ga w1 h1 => ?_)
  refine box (fun gb w2 h2 => ?_)
  have x2 := h1.ext.trans h2.ext
  have ba := h1.blk.ext h2.ext
  refine ldA [_, _] (.blk ba) rfl ?_
  refine call_of (c_qCheck (a := a)) ?_
  rintro _ w3 ⟨rfl, x3⟩
  refine cN (fun g1 => ?_) (fun g1 => ?_)
  · refine ret2 (iv 0) (iv 120) rfl rfl ⟨?_, x2.trans x3⟩
    have : qValid a = false := Bool.eq_false_iff.2 fun e => g1 (qErr_ok.2 e)
    unfold qCmp; rw [this]; rfl
  refine ldA [_, _] (.blk (h2.blk.ext x3)) rfl ?_
  refine call_of (c_qCheck (a := b)) ?_
  rintro _ w4 ⟨rfl, x4⟩
  have ha := qErr_ok.1 g1
  have x24 := x3.trans x4
  refine cN (fun g2 => ?_) (fun g2 => ?_)
  · refine ret2 (iv 0) (iv 120) rfl rfl ⟨?_, x2.trans x24⟩
    have : qValid b = false := Bool.eq_false_iff.2 fun e => g2 (qErr_ok.2 e)
    unfold qCmp; rw [ha, this]; rfl
  have hb := qErr_ok.1 g2
  have va := qValid_iff.1 ha
  have vb := qValid_iff.1 hb
  have p1 := prod_lt (x := a.n) (y := b.d) (by omega) (by omega)
  have p2 := prod_lt (x := b.n) (y := a.d) (by omega) (by omega)
  have ba4 := ba.ext x24
  have bb4 := h2.blk.ext x24
  refine fldA ?_
  refine ld _ (ba4.cell rfl) ?_
  refine fldA ?_
  refine ld _ (bb4.cell rfl) ?_
  refine arI (by omega) ?_
  refine fldA ?_
  refine ld _ (bb4.cell rfl) ?_
  refine fldA ?_
  refine ld _ (ba4.cell rfl) ?_
  refine arI (by omega) ?_
  refine call_of c_Compare ?_
  rintro _ _ ⟨rfl, rfl⟩
  refine ret2 (iv (cmpI (a.n * b.d) (b.n * a.d))) (iv 0) rfl rfl ⟨?_, x2.trans x24⟩
  unfold qCmp; rw [ha, hb]; rfl
theorem floor_eq {n d : Int} (hd : 0 < d) : (n - (n.tmod d + d).tmod d).tdiv d = n / d := by
  have h1 : n.tmod d + d = n.tmod d + d := rfl
  have hr := Int.tmod_lt_of_pos n hd
  have hr2 := Int.lt_tmod_of_pos n hd
  have h3 : (n.tmod d + d).tmod d = n % d := by
    rw [Int.tmod_eq_emod_of_nonneg (by omega), Int.add_emod_right]
    have := Int.tmod_eq_emod (a := n) (b := d)
    rw [this]
    split
    · simp
    · rw [Int.natAbs_of_nonneg (by omega), Int.sub_emod, Int.emod_self, Int.sub_zero, Int.emod_emod_of_dvd _ (Int.dvd_refl d), Int.emod_emod_of_dvd _ (Int.dvd_refl d)]
  rw [h3]
  have h4 : n - n % d = d * (n / d) := by have := Int.emod_add_mul_ediv n d; omega
  rw [h4, Int.mul_tdiv_cancel_left _ (by omega)]
theorem c_down {n d : Int} (hd : 0 < d ∧ d ≤ 1073741824) (hn : -1152921504606846976 ≤ n ∧ n ≤ 1152921504606846976) : CallZ Tryz.prog 266 #[iv n, iv d] w (fun v w' => v = iv (n / d) ∧ w' = w) := by
  refine fn_rule (args := [iv n, iv d]) Tryz.func266 (by kernel_rfl) ?_
  have hr := Int.tmod_lt_of_pos n hd.1
  have hr2 := Int.lt_tmod_of_pos n hd.1
  refine remT (by omega) ?_
  refine arI (by omega) ?_
  have hs := Int.tmod_lt_of_pos (n.tmod d + d) hd.1
  have hs2 := Int.lt_tmod_of_pos (n.tmod d + d) hd.1
  refine remT (by omega) ?_
  refine arI (by omega) ?_
  have hf := floor_eq (n := n) hd.1
  have hb1 : -1152921504606846976 ≤ n / d := by
    have := Int.le_ediv_of_mul_le (a := -1152921504606846976) (b := n) hd.1 (by have : -1152921504606846976 * d ≤ -1152921504606846976 := by omega
                                                                                omega)
    exact this
  have hb2 : n / d ≤ 1152921504606846976 := by
    have h : n / d < 1152921504606846977 := Int.ediv_lt_of_lt_mul hd.1 (by have : 1152921504606846977 ≤ 1152921504606846977 * d := by omega
                                                                           omega)
    omega
  refine quoT (n / d) (by omega) hf (by omega) ?_
  exact ret1 (iv (n / d)) rfl ⟨rfl, rfl⟩
/-- The integers around a product. -/
def qTimes (a : Q) (n : Int) : Int × Int × Int := if qValid a then (if n < -1073741824 ∨ 1073741824 < n then (0, 0, 1) else (a.n * n / a.d, -(-a.n * n / a.d), 0)) else (0, 0, 120)
theorem c_Times {a : Q} {n : Int} : CallZ Tryz.prog 257 #[a.v, iv n] w (fun v w' => v = .tuple #[iv (qTimes a n).1, iv (qTimes a n).2.1, iv (qTimes a n).2.2] ∧ Ext w w') := by
  refine fn_rule (args := [.agg #[iv a.n, iv a.d], iv n]) Tryz.func257 (by kernel_rfl) ?_
  refine box (fun ga w1 h1 => ?_)
  refine ldA [_, _] (.blk h1.blk) rfl ?_
  refine call_of (c_qCheck (a := a)) ?_
  rintro _ w2 ⟨rfl, x2⟩
  have x02 := h1.ext.trans x2
  refine cN (fun g1 => ?_) (fun g1 => ?_)
  · have hv : qValid a = false := Bool.eq_false_iff.2 fun e => g1 (qErr_ok.2 e)
    refine ret3 (iv 0) (iv 0) (iv (qErr a)) rfl rfl rfl ⟨?_, x02⟩
    unfold qTimes qErr; rw [hv]; rfl
  have hv := qErr_ok.1 g1
  have va := qValid_iff.1 hv
  have b2 := h1.blk.ext x2
  refine cD (fun g2 => ?_) (fun g2 => ?_)
  · refine ret3 (iv 0) (iv 0) (iv 1) rfl rfl rfl ⟨?_, x02⟩
    unfold qTimes; rw [hv, if_pos rfl, if_pos (.inl g2)]
  refine cD (fun g3 => ?_) (fun g3 => ?_)
  · refine ret3 (iv 0) (iv 0) (iv 1) rfl rfl rfl ⟨?_, x02⟩
    unfold qTimes; rw [hv, if_pos rfl, if_pos (.inr g3)]
  have p1 := prod_lt (x := a.n) (y := n) (by omega) (by omega)
  have p2 := prod_lt (x := -a.n) (y := n) (by omega) (by omega)
  refine drawQ mx (by kernel_rfl) ?_
  refine fldA ?_
  refine ld _ (b2.cell rfl) ?_
  refine arI (by omega) ?_
  refine fldA ?_
  refine ld _ (b2.cell rfl) ?_
  refine callQ (v := iv (a.n * n / a.d)) (fun u _ => c_down (by omega) (by omega)) ?_
  refine fldA ?_
  refine ld _ (b2.cell rfl) ?_
  refine arI (by omega) ?_
  rw [show (0 : Int) - a.n = -a.n from by omega]
  refine arI (by omega) ?_
  refine fldA ?_
  refine ld _ (b2.cell rfl) ?_
  refine callQ (v := iv (-a.n * n / a.d)) (fun u _ => c_down (by omega) (by omega)) ?_
  have hb1 : -1152921504606846976 ≤ -a.n * n / a.d := by
    have := Int.le_ediv_of_mul_le (a := -1152921504606846976) (b := -a.n * n) (c := a.d) (by omega) (by have : -1152921504606846976 * a.d ≤ -1152921504606846976 := by omega
                                                                                                        omega)
    exact this
  have hb2 : -a.n * n / a.d ≤ 1152921504606846976 := by
    have h : -a.n * n / a.d < 1152921504606846977 := Int.ediv_lt_of_lt_mul (by omega) (by have : 1152921504606846977 ≤ 1152921504606846977 * a.d := by omega
                                                                                          omega)
    omega
  refine arI (by omega) ?_
  refine ret3 (iv (a.n * n / a.d)) (iv (0 - -a.n * n / a.d)) (iv 0) rfl rfl rfl ⟨?_, x02⟩
  unfold qTimes
  rw [hv, if_pos rfl, if_neg (by omega), Int.zero_sub]
end
end Go.Proofs.YtehcphboliofaaaGreatDoor

/- Contracts: ratios, the reference's. -/
namespace Go.Proofs.YtehcphboliofaaaGreatDoor
open Go Go.RowKit

theorem natmod {x y : Nat} : (x : Int) % (y : Int) = ((x % y : Nat) : Int) := rfl
section
variable {w : World}
end
end Go.Proofs.YtehcphboliofaaaGreatDoor

/- Contracts: losses, the program's and the reference's. -/
namespace Go.Proofs.YtehcphboliofaaaGreatDoor
open Go Go.RowKit

structure Rg where
  lo : Int
  hi : Int
deriving DecidableEq
abbrev Rg.v (x : Rg) : Value := .agg #[iv x.lo, iv x.hi]
structure Reach where
  name : ByteArray
  up : Int
  delay : Int
  cap : Int
  bank : Int
  siphon : Int
  evap : Rg
  s0 : Q
  s1 : Q
abbrev Reach.c (r : Reach) : List Value := [.string r.name, iv r.up, iv r.delay, iv r.cap, iv r.bank, iv r.siphon, iv r.evap.lo, iv r.evap.hi, iv r.s0.n, iv r.s0.d, iv r.s1.n, iv r.s1.d]
abbrev Reach.v (r : Reach) : Value := .agg #[.string r.name, iv r.up, iv r.delay, iv r.cap, iv r.bank, iv r.siphon, iv r.evap.lo, iv r.evap.hi, iv r.s0.n, iv r.s0.d, iv r.s1.n, iv r.s1.d]
abbrev pairQ (a b : Q) : Value := .agg #[iv a.n, iv a.d, iv b.n, iv b.d]
def inI (n lo hi : Int) : Bool := decide (lo ≤ n) && decide (n ≤ hi)
theorem inI_iff {n lo hi : Int} : inI n lo hi = true ↔ lo ≤ n ∧ n ≤ hi := by unfold inI; simp
theorem inI_not {n lo hi : Int} : inI n lo hi = false ↔ ¬ (lo ≤ n ∧ n ≤ hi) := by rw [← inI_iff]; simp
def shareQ (a : Q) : Bool := qValid a && inI a.n 0 a.d
def sharesQ (a b : Q) : Bool := shareQ a && (shareQ b && decide (a.n * b.d ≤ b.n * a.d))
def rgOk (x : Rg) (most : Int) : Bool := decide (0 ≤ x.lo) && (decide (x.lo ≤ x.hi) && decide (x.hi ≤ most))
theorem rgOk_iff {x : Rg} {most : Int} : rgOk x most = true ↔ 0 ≤ x.lo ∧ x.lo ≤ x.hi ∧ x.hi ≤ most := by unfold rgOk; simp
def lossOk (r : Reach) : Bool := rgOk r.evap 1073741824 && sharesQ r.s0 r.s1
def lErr (r : Reach) (v : Int) : Int := if lossOk r = false then 210 else if inI v 0 1073741824 = false then 1 else 0
def upI (a b : Int) : Int := (a + b - 1) / b
def lostR (r : Reach) (v : Int) : Rg := if v = 0 then ⟨0, 0⟩ else ⟨min v (r.evap.lo + v * r.s0.n / r.s0.d), min v (r.evap.hi + upI (v * r.s1.n) r.s1.d)⟩
theorem shareQ_iff {a : Q} : shareQ a = true ↔ qValid a = true ∧ 0 ≤ a.n ∧ a.n ≤ a.d := by unfold shareQ; rw [Bool.and_eq_true, inI_iff]
theorem sharesQ_iff {a b : Q} : sharesQ a b = true ↔ shareQ a = true ∧ shareQ b = true ∧ a.n * b.d ≤ b.n * a.d := by unfold sharesQ; simp
theorem lossOk_iff {r : Reach} : lossOk r = true ↔ (0 ≤ r.evap.lo ∧ r.evap.lo ≤ r.evap.hi ∧ r.evap.hi ≤ 1073741824) ∧ sharesQ r.s0 r.s1 = true := by unfold lossOk; rw [Bool.and_eq_true, rgOk_iff]
theorem lErr_ok {r : Reach} {v : Int} : lErr r v = 0 ↔ lossOk r = true ∧ 0 ≤ v ∧ v ≤ 1073741824 := by
  unfold lErr
  rw [← inI_iff]
  cases lossOk r <;> cases inI v 0 1073741824 <;> simp
theorem up_neg {x d : Int} (hd : 0 < d) : -(-x / d) = upI x d := by
  unfold upI
  have h1 := Int.emod_add_mul_ediv (-x) d
  have h2 := Int.emod_nonneg (-x) (show d ≠ 0 by omega)
  have h3 := Int.emod_lt_of_pos (-x) hd
  have h4 : x + d - 1 = (d - 1 - -x % d) + d * -(-x / d) := by rw [Int.mul_neg]; omega
  have h5 : x + d - 1 = (d - 1 - -x % d) + (-(-x / d)) * d := by rw [h4, Int.mul_comm d]
  have h6 : (d - 1 - -x % d) / d = 0 := Int.ediv_eq_zero_of_lt (by omega) (by omega)
  rw [h5, Int.add_mul_ediv_right _ _ (by omega), h6, Int.zero_add]
theorem CellsAt.mid {w : World} {b o : Nat} {cs : List Value} (h : CellsAt w b o cs) (k n : Nat) : CellsAt w b (o + k) ((cs.drop k).take n) := fun j v hv => by
  rw [List.getElem?_take] at hv
  split at hv
  · rw [List.getElem?_drop] at hv
    have := h _ _ hv
    rwa [Nat.add_assoc]
  · cases hv
theorem share_le {a : Q} {v : Int} (h : shareQ a = true) (hv : 0 ≤ v) : 0 ≤ v * a.n ∧ v * a.n / a.d ≤ v ∧ 0 ≤ v * a.n / a.d ∧ upI (v * a.n) a.d ≤ v ∧ 0 ≤ upI (v * a.n) a.d := by
  obtain ⟨h1, h2, h3⟩ := shareQ_iff.1 h
  obtain ⟨d1, -⟩ := qValid_iff.1 h1
  have p : 0 ≤ v * a.n := Int.mul_nonneg hv h2
  have q : v * a.n ≤ v * a.d := Int.mul_le_mul_of_nonneg_left h3 hv
  refine ⟨p, ?_, Int.ediv_nonneg p (by omega), ?_, ?_⟩
  · exact Int.ediv_le_of_le_mul (by omega) q
  · unfold upI
    have : (v * a.n + a.d - 1) / a.d < v + 1 := Int.ediv_lt_of_lt_mul (by omega) (by rw [Int.add_mul]; omega)
    omega
  · unfold upI; exact Int.ediv_nonneg (by omega) (by omega)

section
variable {w : World}
theorem c_lin {n lo hi : Int} : CallZ Tryz.prog 256 #[iv n, iv lo, iv hi] w (fun v w' => v = .bool (inI n lo hi) ∧ w' = w) := by
  refine fn_rule (args := [iv n, iv lo, iv hi]) Tryz.func256 (by kernel_rfl) ?_
  refine cDr (fun g1 => ?_) (fun g1 => ?_)
  · exact ret1 (.bool false) rfl ⟨by rw [inI_not.2 (by omega)], rfl⟩
  refine cDr (fun g2 => ?_) (fun g2 => ?_)
  · exact ret1 (.bool false) rfl ⟨by rw [inI_not.2 (by omega)], rfl⟩
  · exact ret1 (.bool true) rfl ⟨by rw [inI_iff.2 (by omega)], rfl⟩
theorem c_lshare {a : Q} : CallZ Tryz.prog 265 #[a.v] w (fun v w' => v = .bool (shareQ a) ∧ Ext w w') := by
  refine fn_rule (args := [.agg #[iv a.n, iv a.d]]) Tryz.func265 (by kernel_rfl) ?_
  refine box (fun b w1 h1 => ?_)
  refine ldA [_, _] (.blk h1.blk) rfl ?_
  refine call_of (c_qCheck (a := a)) ?_
  rintro _ w2 ⟨rfl, x2⟩
  refine cE (fun g => ?_) (fun g => ?_)
  · have hv := qErr_ok.1 g
    have b2 := h1.blk.ext x2
    refine fldA ?_
    refine ld _ (b2.cell rfl) ?_
    refine fldA ?_
    refine ld _ (b2.cell rfl) ?_
    refine callB c_lin (fun hb => ?_) (fun hb => ?_)
    · exact ret1 (.bool true) rfl ⟨by unfold shareQ; rw [hv, hb]; rfl, h1.ext.trans x2⟩
    · exact ret1 (.bool false) rfl ⟨by unfold shareQ; rw [hv, hb]; rfl, h1.ext.trans x2⟩
  · have hv : qValid a = false := Bool.eq_false_iff.2 fun e => g (qErr_ok.2 e)
    exact ret1 (.bool false) rfl ⟨by unfold shareQ; rw [hv]; rfl, h1.ext.trans x2⟩
theorem c_lshares {a b : Q} : CallZ Tryz.prog 255 #[pairQ a b] w (fun v w' => v = .bool (sharesQ a b) ∧ Ext w w') := by
  refine fn_rule (args := [.agg #[iv a.n, iv a.d, iv b.n, iv b.d]]) Tryz.func255 (by kernel_rfl) ?_
  refine box (fun g w1 h1 => ?_)
  have hc := CellsAt.blk h1.blk
  refine idxR 0 rfl (by decide) ?_
  refine ldA [iv a.n, iv a.d] (hc.mid 0 2) rfl ?_
  refine callE (c_lshare (a := a)) (fun w2 ha x2 => ?_) (fun w2 ha x2 => ?_)
  · refine idxR 1 rfl (by decide) ?_
    refine ldA [iv b.n, iv b.d] ((hc.mid 2 2).kept x2 trivial) rfl ?_
    refine callE (c_lshare (a := b)) (fun w3 hb x3 => ?_) (fun w3 hb x3 => ?_)
    · have x13 := x2.trans x3
      refine idxR 0 rfl (by decide) ?_
      refine ldA [iv a.n, iv a.d] ((hc.mid 0 2).kept x13 trivial) rfl ?_
      refine idxR 1 rfl (by decide) ?_
      refine ldA [iv b.n, iv b.d] ((hc.mid 2 2).kept x13 trivial) rfl ?_
      refine call_of (c_qCmp (a := a) (b := b)) ?_
      rintro _ w4 ⟨rfl, x4⟩
      have hC : qCmp a b = (cmpI (a.n * b.d) (b.n * a.d), 0) := by unfold qCmp; rw [(shareQ_iff.1 ha).1, (shareQ_iff.1 hb).1]; rfl
      rw [hC]
      refine cE (fun _ => ?_) (fun h => absurd rfl h)
      have hcmp : cmpI (a.n * b.d) (b.n * a.d) ≤ 0 ↔ a.n * b.d ≤ b.n * a.d := by unfold cmpI; split <;> (try split) <;> omega
      refine cD (fun g2 => ?_) (fun g2 => ?_)
      · exact ret1 (.bool true) rfl ⟨by rw [sharesQ_iff.2 ⟨ha, hb, hcmp.1 g2⟩], h1.ext.trans (x13.trans x4)⟩
      · refine ret1 (.bool false) rfl ⟨?_, h1.ext.trans (x13.trans x4)⟩
        rw [show sharesQ a b = false from Bool.eq_false_iff.2 fun e => g2 (hcmp.2 (sharesQ_iff.1 e).2.2)]
    · exact ret1 (.bool false) rfl ⟨by unfold sharesQ; rw [ha, hb]; rfl, h1.ext.trans (x2.trans x3)⟩
  · exact ret1 (.bool false) rfl ⟨by unfold sharesQ; rw [ha]; rfl, h1.ext.trans x2⟩
theorem c_lordered {x : Rg} {most : Int} : CallZ Tryz.prog 254 #[x.v, iv most] w (fun v w' => v = .bool (rgOk x most) ∧ Ext w w') := by
  refine fn_rule (args := [.agg #[iv x.lo, iv x.hi], iv most]) Tryz.func254 (by kernel_rfl) ?_
  refine box (fun g w1 h1 => ?_)
  have bad : ¬ (0 ≤ x.lo ∧ x.lo ≤ x.hi ∧ x.hi ≤ most) → Value.bool false = .bool (rgOk x most) := fun h => by rw [show rgOk x most = false from Bool.eq_false_iff.2 fun e => h (rgOk_iff.1 e)]
  refine fldA ?_
  refine ld _ (h1.blk.cell rfl) ?_
  refine cDr (fun g1 => ?_) (fun g1 => ?_)
  · exact ret1 (.bool false) rfl ⟨bad (by omega), h1.ext⟩
  refine fldA ?_
  refine ld _ (h1.blk.cell rfl) ?_
  refine fldA ?_
  refine ld _ (h1.blk.cell rfl) ?_
  refine cDr (fun g2 => ?_) (fun g2 => ?_)
  · exact ret1 (.bool false) rfl ⟨bad (by omega), h1.ext⟩
  refine fldA ?_
  refine ld _ (h1.blk.cell rfl) ?_
  refine cDr (fun g3 => ?_) (fun g3 => ?_)
  · exact ret1 (.bool false) rfl ⟨bad (by omega), h1.ext⟩
  · exact ret1 (.bool true) rfl ⟨by rw [rgOk_iff.2 (by omega)], h1.ext⟩
theorem c_lvalid {r : Reach} {n : Int} : CallZ Tryz.prog 234 #[r.v, iv n] w (fun v w' => v = iv (lErr r n) ∧ Ext w w') := by
  refine fn_rule (args := [.agg #[.string r.name, iv r.up, iv r.delay, iv r.cap, iv r.bank, iv r.siphon, iv r.evap.lo, iv r.evap.hi, iv r.s0.n, iv r.s0.d, iv r.s1.n, iv r.s1.d], iv n]) Tryz.func234 (by kernel_rfl) ?_
  refine box (fun g w1 h1 => ?_)
  have hc := CellsAt.blk h1.blk
  refine fldA ?_
  refine ldA [iv r.evap.lo, iv r.evap.hi] (hc.mid 6 2) rfl ?_
  refine callE (c_lordered (x := r.evap)) (fun w2 ha x2 => ?_) (fun w2 ha x2 => ?_)
  · refine fldA ?_
    refine ldA [iv r.s0.n, iv r.s0.d, iv r.s1.n, iv r.s1.d] ((hc.mid 8 4).kept x2 trivial) rfl ?_
    refine callE (c_lshares (a := r.s0) (b := r.s1)) (fun w3 hb x3 => ?_) (fun w3 hb x3 => ?_)
    · have hok : lossOk r = true := by unfold lossOk; rw [ha, hb]; rfl
      refine callB c_lin (fun hi => ?_) (fun hi => ?_)
      · exact ret1 (iv 0) rfl ⟨by unfold lErr; rw [hok, hi]; rfl, h1.ext.trans (x2.trans x3)⟩
      · exact ret1 (iv 1) rfl ⟨by unfold lErr; rw [hok, hi]; rfl, h1.ext.trans (x2.trans x3)⟩
    · have hok : lossOk r = false := by unfold lossOk; rw [ha, hb]; rfl
      exact ret1 (iv 210) rfl ⟨by unfold lErr; rw [hok]; rfl, h1.ext.trans (x2.trans x3)⟩
  · have hok : lossOk r = false := by unfold lossOk; rw [ha]; rfl
    exact ret1 (iv 210) rfl ⟨by unfold lErr; rw [hok]; rfl, h1.ext.trans x2⟩
theorem times_lo {a : Q} {v : Int} (h : shareQ a = true) (hv : 0 ≤ v ∧ v ≤ 1073741824) : qTimes a v = (v * a.n / a.d, upI (v * a.n) a.d, 0) := by
  obtain ⟨h1, _⟩ := shareQ_iff.1 h
  have hd := (qValid_iff.1 h1).1
  unfold qTimes
  rw [h1, if_pos rfl, if_neg (by omega), Int.neg_mul, up_neg (by omega), Int.mul_comm a.n v]
theorem lost_le {r : Reach} {v : Int} (h : lossOk r = true) (hv : 0 ≤ v ∧ v ≤ 1073741824) : 0 ≤ (lostR r v).lo ∧ (lostR r v).lo ≤ v ∧ 0 ≤ (lostR r v).hi ∧ (lostR r v).hi ≤ v := by
  obtain ⟨h1, h2⟩ := lossOk_iff.1 h
  obtain ⟨h3, h4, _⟩ := sharesQ_iff.1 h2
  have s0 := share_le (v := v) h3 hv.1
  have s1 := share_le (v := v) h4 hv.1
  unfold lostR
  split
  · dsimp only; omega
  · dsimp only; omega
theorem c_llost {r : Reach} {v : Int} (hok : lossOk r = true) (hv : 0 ≤ v ∧ v ≤ 1073741824) : CallZ Tryz.prog 235 #[r.v, iv v] w (fun u w' => u = (lostR r v).v ∧ Ext w w') := by
  refine fn_rule (args := [.agg #[.string r.name, iv r.up, iv r.delay, iv r.cap, iv r.bank, iv r.siphon, iv r.evap.lo, iv r.evap.hi, iv r.s0.n, iv r.s0.d, iv r.s1.n, iv r.s1.d], iv v]) Tryz.func235 (by kernel_rfl) ?_
  obtain ⟨he, hs⟩ := lossOk_iff.1 hok
  obtain ⟨hs0, hs1, -⟩ := sharesQ_iff.1 hs
  have p0 := share_le (v := v) hs0 hv.1
  have p1 := share_le (v := v) hs1 hv.1
  refine box (fun g w1 h1 => ?_)
  refine alloc (fun q w2 h2 => ?_)
  have e2 := h2.at_
  have z1 := h1.ext.size
  have b2 := h1.blk.ext h2.ext
  have x02 := h1.ext.trans h2.ext
  refine cE (fun h0 => ?_) (fun h0 => ?_)
  · refine bld [iv 0, iv 0] (by kernel_rfl) ?_
    refine stA (vs := [iv 0, iv 0]) h2.blk rfl (Nat.le_of_ble_eq_true rfl) (by simp [Value.oneCell']) (fun w3 hb3 k3 z3 => ?_)
    refine ret ?_
    refine resL _ (holds_agg (.blk hb3) rfl) ?_
    exact ⟨by unfold lostR; rw [if_pos h0]; rfl, x02.then k3 fun b hb _ e => by omega⟩
  have hc := CellsAt.blk b2
  refine fldA ?_
  refine idxR 0 rfl (by decide) ?_
  refine ldA [iv r.s0.n, iv r.s0.d] (hc.mid 8 2) rfl ?_
  refine call_of (c_Times (a := r.s0) (n := v)) ?_
  rintro _ w3 ⟨rfl, x3⟩
  rw [times_lo hs0 hv]
  refine fldA ?_
  refine idxR 1 rfl (by decide) ?_
  refine ldA [iv r.s1.n, iv r.s1.d] ((hc.mid 10 2).kept x3 trivial) rfl ?_
  refine call_of (c_Times (a := r.s1) (n := v)) ?_
  rintro _ w4 ⟨rfl, x4⟩
  rw [times_lo hs1 hv]
  have x24 := x3.trans x4
  have b4 := b2.ext x24
  refine fldA ?_
  refine fldA ?_
  refine ld (iv r.evap.lo) (b4.cell rfl) ?_
  refine arI (by dsimp only; omega) ?_
  refine fldA ?_
  refine fldA ?_
  refine ld (iv r.evap.hi) (b4.cell rfl) ?_
  refine arI (by dsimp only; omega) ?_
  refine bld [iv (min v (r.evap.lo + v * r.s0.n / r.s0.d)), iv (min v (r.evap.hi + upI (v * r.s1.n) r.s1.d))] (by kernel_rfl) ?_
  refine stA (vs := [iv _, iv _]) (h2.blk.ext x24) rfl (Nat.le_of_ble_eq_true rfl) (by simp [Value.oneCell']) (fun w5 hb5 k5 z5 => ?_)
  refine ret ?_
  refine resL _ (holds_agg (.blk hb5) rfl) ?_
  exact ⟨by unfold lostR; rw [if_neg h0]; rfl, (x02.trans x24).then k5 fun b hb _ e => by omega⟩
end
end Go.Proofs.YtehcphboliofaaaGreatDoor

/- Contracts: losses, further. -/
namespace Go.Proofs.YtehcphboliofaaaGreatDoor
open Go Go.RowKit

section
variable {w : World}
/-- What Lost answers. -/
def lostL (r : Reach) (v : Int) : Rg × Int := if lErr r v = 0 then (lostR r v, 0) else (⟨0, 0⟩, lErr r v)
theorem lostL_ok {r : Reach} {v : Int} (h : lErr r v = 0) : lostL r v = (lostR r v, 0) := by unfold lostL; rw [if_pos h]
theorem lostL_no {r : Reach} {v : Int} (h : lErr r v ≠ 0) : lostL r v = (⟨0, 0⟩, lErr r v) := by unfold lostL; rw [if_neg h]
theorem c_lLost {r : Reach} {v : Int} : CallZ Tryz.prog 196 #[r.v, iv v] w (fun u w' => u = .tuple #[(lostL r v).1.v, iv (lostL r v).2] ∧ Ext w w') := by
  refine fn_rule (args := [.agg #[.string r.name, iv r.up, iv r.delay, iv r.cap, iv r.bank, iv r.siphon, iv r.evap.lo, iv r.evap.hi, iv r.s0.n, iv r.s0.d, iv r.s1.n, iv r.s1.d], iv v]) Tryz.func196 (by kernel_rfl) ?_
  refine box (fun g w1 h1 => ?_)
  refine alloc (fun q w2 h2 => ?_)
  have e2 := h2.at_
  have z1 := h1.ext.size
  have b2 := h1.blk.ext h2.ext
  have x02 := h1.ext.trans h2.ext
  refine ldA r.c (.blk b2) rfl ?_
  refine call_of (c_lvalid (r := r) (n := v)) ?_
  rintro _ w3 ⟨rfl, x3⟩
  have q3 := h2.blk.ext x3
  have z3 := x3.size
  refine cN (fun h => ?_) (fun h => ?_)
  · refine ldA [iv 0, iv 0] (.blk q3) rfl ?_
    refine stA (vs := [iv 0, iv 0]) q3 rfl (Nat.le_of_ble_eq_true rfl) (by simp [Value.oneCell']) (fun w4 hb4 k4 z4 => ?_)
    refine ret ?_
    refine resL _ (holds_agg (.blk hb4) rfl) ?_
    rw [lostL_no h]
    exact ⟨rfl, (x02.trans x3).then k4 fun b hb _ e => by omega⟩
  · have h' := lErr_ok.1 h
    refine ldA r.c (.blk (b2.ext x3)) rfl ?_
    refine call_of (c_llost (r := r) (v := v) h'.1 h'.2) ?_
    rintro _ w4 ⟨rfl, x4⟩
    refine stA (vs := [iv _, iv _]) (q3.ext x4) rfl (Nat.le_of_ble_eq_true rfl) (by simp [Value.oneCell']) (fun w5 hb5 k5 z5 => ?_)
    refine ret ?_
    refine resL _ (holds_agg (.blk hb5) rfl) ?_
    rw [lostL_ok h]
    exact ⟨rfl, ((x02.trans x3).trans x4).then k5 fun b hb _ e => by omega⟩

/-! ### the reference's -/
theorem ediv_bd {a b : Int} (hb : 0 < b) (ha : 0 ≤ a) : 0 ≤ a / b ∧ a / b ≤ a := ⟨Int.ediv_nonneg ha (by omega), Int.ediv_le_self _ ha⟩
end
end Go.Proofs.YtehcphboliofaaaGreatDoor

/- Districts; contracts of the small checks of layer 19. -/
namespace Go.Proofs.YtehcphboliofaaaGreatDoor
open Go Go.RowKit

/-! ### flat records -/
def tFl {α : Type} (n : Nat) (c : α → List Value) (hl : ∀ x, (c x).length = n) : Ty α where
  sz := n
  rep _ _ cs x := cs = c x
  len h := by rw [h]; exact hl _
  keep _ h := h
  more _ h := h
structure Farm where
  name : ByteArray
  reach : Int
  area : Int
  crop : Int
abbrev Farm.c (x : Farm) : List Value := [.string x.name, iv x.reach, iv x.area, iv x.crop]
structure Crop where
  name : ByteArray
  need : Int
abbrev Crop.c (x : Crop) : List Value := [.string x.name, iv x.need]
structure Right where
  name : ByteArray
  kind : Int
  farm : Int
  reach : Int
  rank : Int
  litres : Int
  frm : Int
  to : Int
  every : Int
  length : Int
abbrev Right.c (x : Right) : List Value := [.string x.name, iv x.kind, iv x.farm, iv x.reach, iv x.rank, iv x.litres, iv x.frm, iv x.to, iv x.every, iv x.length]
structure Duty where
  name : ByteArray
  farm : Int
  reach : Int
  due : Int
abbrev Duty.c (x : Duty) : List Value := [.string x.name, iv x.farm, iv x.reach, iv x.due]
structure Well where
  farm : Int
  reach : Int
  d : Int
  kernel : List Int
def tReach : Ty Reach := tFl 12 Reach.c fun _ => rfl
def tFarm : Ty Farm := tFl 4 Farm.c fun _ => rfl
def tCrop : Ty Crop := tFl 2 Crop.c fun _ => rfl
def tRight : Ty Right := tFl 10 Right.c fun _ => rfl
def tDuty : Ty Duty := tFl 4 Duty.c fun _ => rfl
def tWell : Ty Well := tMap (tPair tInt (tPair tInt (tPair tInt (tSl tInt)))) fun x => (x.farm, x.reach, x.d, x.kernel)
structure Dist where
  name : ByteArray
  hours : Int
  cap : Int
  start : Int
  reaches : List Reach
  farms : List Farm
  crops : List Crop
  rights : List Right
  duties : List Duty
  wells : List Well
/-- A district's cells. -/
structure DiR (D : Nat → Prop) (w : World) (cs : List Value) (d : Dist) : Prop where
  of_ ::
  ex : ∃ A1 n1 c1 A2 n2 c2 A3 n3 c3 A4 n4 c4 A5 n5 c5 A6 n6 c6, cs = [.string d.name, iv d.hours, iv d.cap, iv d.start, .slice A1 n1 c1, .slice A2 n2 c2, .slice A3 n3 c3, .slice A4 n4 c4, .slice A5 n5 c5, .slice A6 n6 c6] ∧
    SlR tReach D w A1 n1 d.reaches ∧ SlR tFarm D w A2 n2 d.farms ∧ SlR tCrop D w A3 n3 d.crops ∧ SlR tRight D w A4 n4 d.rights ∧ SlR tDuty D w A5 n5 d.duties ∧ SlR tWell D w A6 n6 d.wells
theorem DiR.keep {D : Nat → Prop} {w w' : World} {cs : List Value} {d : Dist} (hk : ∀ b, b < w.heap.size → D b → w'.heap[b]? = w.heap[b]?) (h : DiR D w cs d) : DiR D w' cs d := by
  obtain ⟨A1, n1, c1, A2, n2, c2, A3, n3, c3, A4, n4, c4, A5, n5, c5, A6, n6, c6, h, h1, h2, h3, h4, h5, h6⟩ := h.ex
  exact ⟨A1, n1, c1, A2, n2, c2, A3, n3, c3, A4, n4, c4, A5, n5, c5, A6, n6, c6, h, h1.keep hk, h2.keep hk, h3.keep hk, h4.keep hk, h5.keep hk, h6.keep hk⟩
theorem DiR.more {D D' : Nat → Prop} {w : World} {cs : List Value} {d : Dist} (hk : ∀ b, b < w.heap.size → D b → D' b) (h : DiR D w cs d) : DiR D' w cs d := by
  obtain ⟨A1, n1, c1, A2, n2, c2, A3, n3, c3, A4, n4, c4, A5, n5, c5, A6, n6, c6, h, h1, h2, h3, h4, h5, h6⟩ := h.ex
  exact ⟨A1, n1, c1, A2, n2, c2, A3, n3, c3, A4, n4, c4, A5, n5, c5, A6, n6, c6, h, h1.more (by decide) hk, h2.more (by decide) hk, h3.more (by decide) hk, h4.more (by decide) hk, h5.more (by decide) hk, h6.more (by decide) hk⟩
theorem DiR.kept {D D' : Nat → Prop} {w w' : World} {cs : List Value} {d : Dist} (h : DiR D w cs d) (k : Kept D' w w') (hd : ∀ b, b < w.heap.size → D b → D' b) : DiR D w' cs d := h.keep fun b hb hD => k.blk b hb (hd b hb hD)
theorem DiR.ext {D : Nat → Prop} {w w' : World} {cs : List Value} {d : Dist} (h : DiR D w cs d) (k : Ext w w') : DiR D w' cs d := h.kept k fun _ _ _ => trivial
def tDist : Ty Dist where
  sz := 10
  rep := DiR
  len h := by obtain ⟨A1, n1, c1, A2, n2, c2, A3, n3, c3, A4, n4, c4, A5, n5, c5, A6, n6, c6, rfl, -⟩ := h.ex; rfl
  keep hk h := h.keep hk
  more hB h := h.more hB

/-! ### what is valid -/
def risingL : List Int → Bool
  | a :: b :: l => decide (a ≤ b) && risingL (b :: l)
  | _ => true
theorem rising3 {a b c : Int} : risingL [a, b, c] = inI b a c := by unfold risingL risingL risingL inI; rw [Bool.and_true]
def reachOk (x : Reach) : Bool := inI x.delay 1 16 && (inI x.cap 0 1073741824 && (inI x.bank 0 1099511627776 && (inI x.siphon 0 (min x.cap x.bank) && lossOk x)))
theorem reachOk_iff {x : Reach} : reachOk x = true ↔ (1 ≤ x.delay ∧ x.delay ≤ 16) ∧ (0 ≤ x.cap ∧ x.cap ≤ 1073741824) ∧ (0 ≤ x.bank ∧ x.bank ≤ 1099511627776) ∧ (0 ≤ x.siphon ∧ x.siphon ≤ min x.cap x.bank) ∧ lossOk x = true := by
  unfold reachOk; simp only [Bool.and_eq_true, inI_iff]
def upOk (i : Nat) (up : Int) : Bool := if i = 0 then decide (up = -1) else inI up 0 ((i : Int) - 1)

section
variable {D : Nat → Prop} {w : World}
theorem c_eindex {i n : Int} : CallZ Tryz.prog 190 #[iv i, iv n] w (fun v w' => v = .bool (inI i 0 (n - 1)) ∧ w' = w) := by
  refine fn_rule (args := [iv i, iv n]) Tryz.func190 (by kernel_rfl) ?_
  refine cD (fun g => ?_) (fun g => ?_)
  · refine cD (fun g2 => ?_) (fun g2 => ?_)
    · exact ret1 (.bool true) rfl ⟨by rw [inI_iff.2 (by omega)], rfl⟩
    · exact ret1 (.bool false) rfl ⟨by rw [inI_not.2 (by omega)], rfl⟩
  · exact ret1 (.bool false) rfl ⟨by rw [inI_not.2 (by omega)], rfl⟩
theorem c_eshare {a b : Q} : CallZ Tryz.prog 231 #[pairQ a b] w (fun v w' => v = .bool (sharesQ a b) ∧ Ext w w') := by
  refine fn_rule (args := [.agg #[iv a.n, iv a.d, iv b.n, iv b.d]]) Tryz.func231 (by kernel_rfl) ?_
  refine box (fun g w1 h1 => ?_)
  have hc := CellsAt.blk h1.blk
  refine idxR 0 rfl (by decide) ?_
  refine ldA [iv a.n, iv a.d] (hc.mid 0 2) rfl ?_
  refine idxR 1 rfl (by decide) ?_
  refine ldA [iv b.n, iv b.d] (hc.mid 2 2) rfl ?_
  refine call_of (c_qCmp (a := a) (b := b)) ?_
  rintro _ w2 ⟨rfl, x2⟩
  have b2 := h1.blk.ext x2
  have x := h1.ext.trans x2
  have hs : sharesQ a b = true ↔ qValid a = true ∧ qValid b = true ∧ 0 ≤ a.n ∧ a.n * b.d ≤ b.n * a.d ∧ b.n ≤ b.d := by
    rw [sharesQ_iff, shareQ_iff, shareQ_iff]
    refine ⟨fun ⟨⟨h1, h2, h3⟩, ⟨h4, h5, h6⟩, h7⟩ => ⟨h1, h4, h2, h7, h6⟩, fun ⟨h1, h4, h2, h7, h6⟩ => ?_⟩
    have d1 := (qValid_iff.1 h1).1
    have d2 := (qValid_iff.1 h4).1
    have hb : 0 ≤ b.n := by
      have : 0 ≤ b.n * a.d := Int.le_trans (Int.mul_nonneg h2 (by omega)) h7
      exact Int.not_lt.1 fun hn => by have := Int.mul_neg_of_neg_of_pos hn (show 0 < a.d by omega); omega
    have ha : a.n ≤ a.d := Int.not_lt.1 fun hn => by
      have e1 : b.n * a.d ≤ b.d * a.d := Int.mul_le_mul_of_nonneg_right h6 (by omega)
      have e2 : a.d * b.d < a.n * b.d := Int.mul_lt_mul_of_pos_right hn (by omega)
      rw [Int.mul_comm b.d] at e1
      omega
    exact ⟨⟨h1, h2, ha⟩, ⟨h4, hb, h6⟩, h7⟩
  have bad : ¬ (qValid a = true ∧ qValid b = true ∧ 0 ≤ a.n ∧ a.n * b.d ≤ b.n * a.d ∧ b.n ≤ b.d) → Value.bool false = .bool (sharesQ a b) := fun h => by rw [show sharesQ a b = false from Bool.eq_false_iff.2 fun e => h (hs.1 e)]
  by_cases hv : qValid a = true ∧ qValid b = true
  · have hC : qCmp a b = (cmpI (a.n * b.d) (b.n * a.d), 0) := by unfold qCmp; rw [hv.1, hv.2]; rfl
    have hcmp : cmpI (a.n * b.d) (b.n * a.d) ≤ 0 ↔ a.n * b.d ≤ b.n * a.d := by unfold cmpI; split <;> (try split) <;> omega
    rw [hC]
    refine cE (fun _ => ?_) (fun h => absurd rfl h)
    refine idxR 0 rfl (by decide) ?_
    refine fldA ?_
    refine ld (iv a.n) (b2.cell rfl) ?_
    refine cD (fun g1 => ?_) (fun g1 => ?_)
    · refine cD (fun g2 => ?_) (fun g2 => ?_)
      · refine idxR 1 rfl (by decide) ?_
        refine fldA ?_
        refine ld (iv b.n) (b2.cell rfl) ?_
        refine idxR 1 rfl (by decide) ?_
        refine fldA ?_
        refine ld (iv b.d) (b2.cell rfl) ?_
        refine cD (fun g3 => ?_) (fun g3 => ?_)
        · exact ret1 (.bool true) rfl ⟨by rw [hs.2 ⟨hv.1, hv.2, g1, hcmp.1 g2, g3⟩], x⟩
        · exact ret1 (.bool false) rfl ⟨bad fun h => g3 h.2.2.2.2, x⟩
      · exact ret1 (.bool false) rfl ⟨bad fun h => g2 (hcmp.2 h.2.2.2.1), x⟩
    · exact ret1 (.bool false) rfl ⟨bad fun h => g1 h.2.2.1, x⟩
  · have hC : qCmp a b = (0, 120) := by unfold qCmp; rw [if_neg (by simpa using hv)]
    rw [hC]
    refine cE (fun h => absurd h (by decide)) (fun _ => ?_)
    exact ret1 (.bool false) rfl ⟨bad fun h => hv ⟨h.1, h.2.1⟩, x⟩
end
end Go.Proofs.YtehcphboliofaaaGreatDoor

/- Contracts: expand's checks. -/
namespace Go.Proofs.YtehcphboliofaaaGreatDoor
open Go Go.RowKit

instance eqRight : EqTy Tryz.prog 266 := ⟨by kernel_rfl⟩
def tI0 : Ty Int := tFl 1 (fun x => [iv x]) fun _ => rfl
theorem NewB.i0 {w w' : World} {e : TypeId} {g : Nat} (xs : List Int) (hb : NewB w e (xs.map fun x => .int .i64 x) g w') (hl : Nat.ble xs.length 1000 = true := by rfl) : SlR tI0 (fun _ => True) w' (some (ad g 0)) xs.length xs :=
  SlR.of_cells rfl (by have := Nat.le_of_ble_eq_true hl; omega) trivial (.blk hb.blk) (by
    clear hl hb
    induction xs with
    | nil => rfl
    | cons x xs ih => exact ⟨[iv x], _, rfl, rfl, ih⟩)
def kindOk (h : Int) (x : Right) : Bool :=
  if x.kind = 1 then decide (x.reach = 0) && (inI x.rank 0 1048576 && (inI x.litres 1 1073741824 && (inI x.length 1 x.every && decide (x.every ≤ h))))
  else if x.kind = 2 then decide (x.rank = 0) && (decide (x.litres = 0) && (decide (x.every = 0) && (decide (x.length = 0) && (decide (x.frm = 0) && decide (x.to = h - 1)))))
  else if x.kind = 3 then decide (x.rank = 0) && (decide (x.litres = 0) && (decide (x.every = 0) && decide (x.length = 0)))
  else false
def rightOk (nf nr : Nat) (h : Int) (x : Right) : Bool := inI x.farm 0 ((nf : Int) - 1) && (inI x.reach 0 ((nr : Int) - 1) && (inI x.frm 0 x.to && (decide (x.to < h) && kindOk h x)))
theorem rising4 {a b c e : Int} : risingL [a, b, c, e] = true ↔ a ≤ b ∧ b ≤ c ∧ c ≤ e := by unfold risingL risingL risingL risingL; simp
theorem rising4' {a b c e : Int} : risingL [a, b, c, e] = false ↔ ¬ (a ≤ b ∧ b ≤ c ∧ c ≤ e) := by rw [← rising4]; simp
theorem rising3' {a b c : Int} : risingL [a, b, c] = true ↔ a ≤ b ∧ b ≤ c := by rw [rising3, inI_iff]
theorem rising3n {a b c : Int} : risingL [a, b, c] = false ↔ ¬ (a ≤ b ∧ b ≤ c) := by rw [rising3, inI_not]

section
variable {D : Nat → Prop} {w : World}
theorem c_rising {xs : List Int} {A : Option Addr} {n c : Nat} (h : SlR tI0 D w A n xs) : CallZ Tryz.prog 188 #[.slice A n c] w (fun v w' => v = .bool (risingL xs) ∧ w' = w) := by
  refine fn_rule (args := [.slice A n c]) Tryz.func188 (by kernel_rfl) ?_
  refine loop_rule (fun k : Nat => [(3, iv (k : Int))]) (fun k w' => w' = w ∧ 1 ≤ k ∧ (k ≤ n ∨ k = 1) ∧ risingL xs = risingL (xs.drop (k - 1))) (fun k _ => n + 1 - k) 1 ⟨rfl, trivial⟩ ⟨rfl, by omega, by omega, by rw [Nat.sub_self, List.drop_zero]⟩ rfl ?_
  rintro G k w' ⟨rfl, h1, h2, he⟩
  refine len ?_
  refine cD (fun hlt => ?_) (fun hge => ?_)
  · refine drawQ mx (by kernel_rfl) ?_
    obtain ⟨b, o, cs, x, rfl, -, hx, -, hc, rfl⟩ := h.at_ (show k < n by omega)
    obtain ⟨b', o', cs, y, hb, -, hy, -, hc', rfl⟩ := h.at_ (show k - 1 < n by omega)
    cases hb
    refine idx k rfl (by omega) ?_
    refine ldS (iv x) (fun u hu => by rw [hu]; exact hc 0 _ rfl) ?_
    refine arI (by have := h.le; omega) ?_
    refine idx (k - 1) (by omega) (by omega) ?_
    refine ldS (iv y) (fun u hu => by rw [hu]; exact hc' 0 _ rfl) ?_
    rw [hy, show k - 1 + 1 = k by omega, hx] at he
    refine cD (fun g => ?_) (fun g => ?_)
    · exact ret1 (.bool false) rfl ⟨by rw [he, risingL, decide_eq_false (by omega)]; rfl, rfl⟩
    · refine arI (by have := h.le; omega) ?_
      refine next (k + 1) ⟨by rw [Int.natCast_add]; rfl, trivial⟩ ⟨rfl, by omega, by omega, ?_⟩ (by omega)
      rw [he, risingL, decide_eq_true (by omega), Nat.add_sub_cancel, hx]; rfl
  · refine ret1 (.bool true) rfl ⟨?_, rfl⟩
    rw [he]
    have hl := h.len
    match hd : xs.drop (k - 1), (show (xs.drop (k - 1)).length ≤ 1 by rw [List.length_drop]; omega) with
    | [], _ => rfl
    | [_], _ => rfl
theorem c_ereach {i : Nat} {x : Reach} : CallZ Tryz.prog 189 #[iv (i : Int), x.v] w (fun v w' => v = .bool (upOk i x.up && reachOk x) ∧ Ext w w') := by
  refine fn_rule (args := [iv (i : Int), .agg #[.string x.name, iv x.up, iv x.delay, iv x.cap, iv x.bank, iv x.siphon, iv x.evap.lo, iv x.evap.hi, iv x.s0.n, iv x.s0.d, iv x.s1.n, iv x.s1.d]]) Tryz.func189 (by kernel_rfl) ?_
  refine box (fun g w1 h1 => ?_)
  have bad : ¬ (upOk i x.up = true ∧ reachOk x = true) → Value.bool false = .bool (upOk i x.up && reachOk x) := fun h => by rw [show (upOk i x.up && reachOk x) = false from Bool.eq_false_iff.2 fun e => h (by simpa using e)]
  refine fldA ?_
  refine ld (iv x.up) (h1.blk.cell rfl) ?_
  refine cE (fun h0 => ?a) (fun h0 => ?b)
  all_goals refine cD (fun hi => ?_) (fun hi => ?_)
  case' b.refine_2 =>
    exact ret1 (.bool false) rfl ⟨bad fun h => by have := h.1; unfold upOk at this; rw [if_pos (by omega), decide_eq_true_eq] at this; exact h0 this, h1.ext⟩
  case' a.refine_1 =>
    refine fldA ?_
    refine ld (iv x.up) (h1.blk.cell rfl) ?_
    refine callB c_eindex (fun hb => ?_) (fun hb => ?_)
    rotate_left
    · exact ret1 (.bool false) rfl ⟨bad fun h => by have := h.1; unfold upOk at this; rw [if_neg (by omega), hb] at this; exact Bool.noConfusion this, h1.ext⟩
    have hu : upOk i x.up = true := by unfold upOk; rw [if_neg (by omega), hb]
  case' b.refine_1 =>
    refine fldA ?_
    refine ld (iv x.up) (h1.blk.cell rfl) ?_
    refine callB c_eindex (fun hb => ?_) (fun hb => ?_)
    rotate_left
    · exact ret1 (.bool false) rfl ⟨bad fun h => by have := h.1; unfold upOk at this; rw [if_neg (by omega), hb] at this; exact Bool.noConfusion this, h1.ext⟩
    have hu : upOk i x.up = true := by unfold upOk; rw [if_neg (by omega), hb]
  case' a.refine_2 =>
    have hu : upOk i x.up = true := by unfold upOk; rw [if_pos (by omega), h0]; rfl
  all_goals
    refine fldA ?_
    refine ld (iv x.delay) (h1.blk.cell rfl) ?_
    refine lit [iv 1, iv x.delay, iv 16] (fun g2 w2 hb2 => ?_)
    refine callB (c_rising (hb2.i0 [1, x.delay, 16])) (fun r1 => ?_) (fun r1 => ?_)
    rotate_left
    · exact ret1 (.bool false) rfl ⟨bad fun h => rising3n.1 r1 (reachOk_iff.1 h.2).1, h1.ext.trans hb2.ext⟩
    have y2 := h1.blk.ext hb2.ext
    refine fldA ?_
    refine ld (iv x.siphon) (y2.cell rfl) ?_
    refine fldA ?_
    refine ld (iv x.cap) (y2.cell rfl) ?_
    refine lit [iv 0, iv x.siphon, iv x.cap, iv 1073741824] (fun g3 w3 hb3 => ?_)
    have x3 := hb2.ext.trans hb3.ext
    refine callB (c_rising (hb3.i0 [0, x.siphon, x.cap, 1073741824])) (fun r2 => ?_) (fun r2 => ?_)
    rotate_left
    · exact ret1 (.bool false) rfl ⟨bad fun h => rising4'.1 r2 (by have := reachOk_iff.1 h.2; omega), h1.ext.trans x3⟩
    have y3 := h1.blk.ext x3
    refine fldA ?_
    refine ld (iv x.siphon) (y3.cell rfl) ?_
    refine fldA ?_
    refine ld (iv x.bank) (y3.cell rfl) ?_
    refine lit [iv 0, iv x.siphon, iv x.bank, iv 1099511627776] (fun g4 w4 hb4 => ?_)
    have x4 := x3.trans hb4.ext
    refine callB (c_rising (hb4.i0 [0, x.siphon, x.bank, 1099511627776])) (fun r3 => ?_) (fun r3 => ?_)
    rotate_left
    · exact ret1 (.bool false) rfl ⟨bad fun h => rising4'.1 r3 (by have := reachOk_iff.1 h.2; omega), h1.ext.trans x4⟩
    have y4 := h1.blk.ext x4
    refine fldA ?_
    refine fldA ?_
    refine ld (iv x.evap.lo) (y4.cell rfl) ?_
    refine fldA ?_
    refine fldA ?_
    refine ld (iv x.evap.hi) (y4.cell rfl) ?_
    refine lit [iv 0, iv x.evap.lo, iv x.evap.hi, iv 1073741824] (fun g5 w5 hb5 => ?_)
    have x5 := x4.trans hb5.ext
    refine callB (c_rising (hb5.i0 [0, x.evap.lo, x.evap.hi, 1073741824])) (fun r4 => ?_) (fun r4 => ?_)
    rotate_left
    · exact ret1 (.bool false) rfl ⟨bad fun h => rising4'.1 r4 (lossOk_iff.1 (reachOk_iff.1 h.2).2.2.2.2).1, h1.ext.trans x5⟩
    refine fldA ?_
    refine ldA [iv x.s0.n, iv x.s0.d, iv x.s1.n, iv x.s1.d] (((CellsAt.blk h1.blk).mid 8 4).kept x5 trivial) rfl ?_
    refine callE (c_eshare (a := x.s0) (b := x.s1)) (fun w6 hs x6 => ?_) (fun w6 hs x6 => ?_)
    · have := rising3'.1 r1
      have := rising4.1 r2
      have := rising4.1 r3
      have he := rising4.1 r4
      exact ret1 (.bool true) rfl ⟨by rw [hu, reachOk_iff.2 ⟨by omega, by omega, by omega, by omega, lossOk_iff.2 ⟨he, hs⟩⟩]; rfl, h1.ext.trans (x5.trans x6)⟩
    · exact ret1 (.bool false) rfl ⟨bad fun h => by have := (lossOk_iff.1 (reachOk_iff.1 h.2).2.2.2.2).2; rw [hs] at this; exact Bool.noConfusion this, h1.ext.trans (x5.trans x6)⟩
end
end Go.Proofs.YtehcphboliofaaaGreatDoor

/- Contracts: expand's rights, demands. -/
namespace Go.Proofs.YtehcphboliofaaaGreatDoor
open Go Go.RowKit

section
variable {D : Nat → Prop} {w : World}
theorem c_eright {d : Dist} {cs : List Value} {x : Right} (hd : DiR D w cs d) (hh : 1 ≤ d.hours ∧ d.hours ≤ 4096) : CallZ Tryz.prog 191 #[.agg cs.toArray, .agg x.c.toArray] w (fun v w' => v = .bool (rightOk d.farms.length d.reaches.length d.hours x) ∧ Ext w w') := by
  obtain ⟨A1, n1, c1, A2, n2, c2, A3, n3, c3, A4, n4, c4, A5, n5, c5, A6, n6, c6, rfl, hr, hf, hcr, hri, hdu, hwe⟩ := hd.ex
  have l1 := hr.len
  have l2 := hf.len
  have e1 := hr.le
  have e2 := hf.le
  refine fn_rule (args := [.agg #[.string d.name, iv d.hours, iv d.cap, iv d.start, .slice A1 n1 c1, .slice A2 n2 c2, .slice A3 n3 c3, .slice A4 n4 c4, .slice A5 n5 c5, .slice A6 n6 c6], .agg #[.string x.name, iv x.kind, iv x.farm, iv x.reach, iv x.rank, iv x.litres, iv x.frm, iv x.to, iv x.every, iv x.length]]) Tryz.func191 (by kernel_rfl) ?_
  have bad : ¬ (rightOk d.farms.length d.reaches.length d.hours x = true) → Value.bool false = .bool (rightOk d.farms.length d.reaches.length d.hours x) := fun h => by rw [Bool.eq_false_iff.2 h]
  have iff : rightOk d.farms.length d.reaches.length d.hours x = true ↔ inI x.farm 0 ((n2 : Int) - 1) = true ∧ inI x.reach 0 ((n1 : Int) - 1) = true ∧ (0 ≤ x.frm ∧ x.frm ≤ x.to) ∧ x.to < d.hours ∧ kindOk d.hours x = true := by
    unfold rightOk; rw [l1, l2]; simp only [Bool.and_eq_true, decide_eq_true_eq, inI_iff]
  refine box (fun g w1 h1 => ?_)
  refine box (fun q w2 h2 => ?_)
  have bg := h1.blk.ext h2.ext
  have bq := h2.blk
  have x2 := h1.ext.trans h2.ext
  refine fldA ?_
  refine ld (iv x.farm) (bq.cell rfl) ?_
  refine fldA ?_
  refine ld (.slice A2 n2 c2) (bg.cell rfl) ?_
  refine len ?_
  refine callB c_eindex (fun a1 => ?_) (fun a1 => ?_)
  rotate_left
  · exact ret1 (.bool false) rfl ⟨bad fun h => by have := (iff.1 h).1; rw [a1] at this; exact Bool.noConfusion this, x2⟩
  refine fldA ?_
  refine ld (iv x.reach) (bq.cell rfl) ?_
  refine fldA ?_
  refine ld (.slice A1 n1 c1) (bg.cell rfl) ?_
  refine len ?_
  refine callB c_eindex (fun a2 => ?_) (fun a2 => ?_)
  rotate_left
  · exact ret1 (.bool false) rfl ⟨bad fun h => by have := (iff.1 h).2.1; rw [a2] at this; exact Bool.noConfusion this, x2⟩
  refine fldA ?_
  refine ld (iv x.frm) (bq.cell rfl) ?_
  refine fldA ?_
  refine ld (iv x.to) (bq.cell rfl) ?_
  refine fldA ?_
  refine ld (iv d.hours) (bg.cell rfl) ?_
  refine arI (by omega) ?_
  refine lit [iv 0, iv x.frm, iv x.to, iv (d.hours - 1)] (fun g3 w3 hb3 => ?_)
  refine callB (c_rising (hb3.i0 [0, x.frm, x.to, d.hours - 1])) (fun a3 => ?_) (fun a3 => ?_)
  rotate_left
  · exact ret1 (.bool false) rfl ⟨bad fun h => rising4'.1 a3 (by have := iff.1 h; omega), x2.trans hb3.ext⟩
  have a3 := rising4.1 a3
  have iff2 : rightOk d.farms.length d.reaches.length d.hours x = true ↔ kindOk d.hours x = true := by
    rw [iff]; exact ⟨fun h => h.2.2.2.2, fun h => ⟨a1, a2, by omega, by omega, h⟩⟩
  have x3 := x2.trans hb3.ext
  have bg3 := bg.ext hb3.ext
  have bq3 := bq.ext hb3.ext
  refine fldA ?_
  refine ld (iv x.kind) (bq3.cell rfl) ?_
  refine cE (fun k1 => ?_) (fun k1 => ?_)
  · have iff3 : kindOk d.hours x = true ↔ x.reach = 0 ∧ (0 ≤ x.rank ∧ x.rank ≤ 1048576) ∧ (1 ≤ x.litres ∧ x.litres ≤ 1073741824) ∧ (1 ≤ x.length ∧ x.length ≤ x.every) ∧ x.every ≤ d.hours := by
      unfold kindOk; rw [if_pos k1]; simp only [Bool.and_eq_true, decide_eq_true_eq, inI_iff]
    refine fldA ?_
    refine ld (iv x.reach) (bq3.cell rfl) ?_
    refine cE (fun b1 => ?_) (fun b1 => ?_)
    rotate_left
    · exact ret1 (.bool false) rfl ⟨bad fun h => b1 (iff3.1 (iff2.1 h)).1, x3⟩
    refine fldA ?_
    refine ld (iv x.rank) (bq3.cell rfl) ?_
    refine lit [iv 0, iv x.rank, iv 1048576] (fun g4 w4 hb4 => ?_)
    refine callB (c_rising (hb4.i0 [0, x.rank, 1048576])) (fun b2 => ?_) (fun b2 => ?_)
    rotate_left
    · exact ret1 (.bool false) rfl ⟨bad fun h => rising3n.1 b2 (iff3.1 (iff2.1 h)).2.1, x3.trans hb4.ext⟩
    refine fldA ?_
    refine ld (iv x.litres) ((bq3.ext hb4.ext).cell rfl) ?_
    refine lit [iv 1, iv x.litres, iv 1073741824] (fun g5 w5 hb5 => ?_)
    have x35 := hb4.ext.trans hb5.ext
    refine callB (c_rising (hb5.i0 [1, x.litres, 1073741824])) (fun b3 => ?_) (fun b3 => ?_)
    rotate_left
    · exact ret1 (.bool false) rfl ⟨bad fun h => rising3n.1 b3 (iff3.1 (iff2.1 h)).2.2.1, x3.trans x35⟩
    refine fldA ?_
    refine ld (iv x.length) ((bq3.ext x35).cell rfl) ?_
    refine fldA ?_
    refine ld (iv x.every) ((bq3.ext x35).cell rfl) ?_
    refine fldA ?_
    refine ld (iv d.hours) ((bg3.ext x35).cell rfl) ?_
    refine lit [iv 1, iv x.length, iv x.every, iv d.hours] (fun g6 w6 hb6 => ?_)
    have x36 := x35.trans hb6.ext
    refine callB (c_rising (hb6.i0 [1, x.length, x.every, d.hours])) (fun b4 => ?_) (fun b4 => ?_)
    · have b4 := rising4.1 b4
      exact ret1 (.bool true) rfl ⟨by rw [iff2.2 (iff3.2 ⟨b1, rising3'.1 b2, rising3'.1 b3, by omega, by omega⟩)], x3.trans x36⟩
    · exact ret1 (.bool false) rfl ⟨bad fun h => rising4'.1 b4 (by have := iff3.1 (iff2.1 h); omega), x3.trans x36⟩
  refine cE (fun k2 => ?_) (fun k2 => ?_)
  · have iff3 : kindOk d.hours x = true ↔ x.rank = 0 ∧ x.litres = 0 ∧ x.every = 0 ∧ x.length = 0 ∧ x.frm = 0 ∧ x.to = d.hours - 1 := by
      unfold kindOk; rw [if_neg k1, if_pos k2]; simp only [Bool.and_eq_true, decide_eq_true_eq]
    refine ldA x.c (.blk bq3) rfl ?_
    refine fldA ?_
    refine ld (.string x.name) (bq3.cell rfl) ?_
    refine fldA ?_
    refine ld (iv x.kind) (bq3.cell rfl) ?_
    refine fldA ?_
    refine ld (iv x.farm) (bq3.cell rfl) ?_
    refine fldA ?_
    refine ld (iv x.reach) (bq3.cell rfl) ?_
    refine fldA ?_
    refine ld (iv d.hours) (bg3.cell rfl) ?_
    refine arI (by omega) ?_
    refine bld [.string x.name, iv x.kind, iv x.farm, iv x.reach, iv 0, iv 0, iv 0, iv (d.hours - 1), iv 0, iv 0] (by kernel_rfl) ?_
    refine eqS ((x.name.toList == x.name.toList) && ((x.kind == x.kind) && ((x.farm == x.farm) && ((x.reach == x.reach) && ((x.rank == 0) && ((x.litres == 0) && ((x.frm == 0) && ((x.to == d.hours - 1) && ((x.every == 0) && ((x.length == 0) && true)))))))))) (by kernel_rfl) (fun b => ?_) (fun b => ?_)
    · refine ret1 (.bool true) rfl ⟨?_, x3⟩
      simp at b
      rw [iff2.2 (iff3.2 (by omega))]
    · refine ret1 (.bool false) rfl ⟨bad fun h => ?_, x3⟩
      have := iff3.1 (iff2.1 h)
      simp [this] at b
  refine cE (fun k3 => ?_) (fun k3 => ?_)
  · have iff3 : kindOk d.hours x = true ↔ x.rank = 0 ∧ x.litres = 0 ∧ x.every = 0 ∧ x.length = 0 := by
      unfold kindOk; rw [if_neg k1, if_neg k2, if_pos k3]; simp only [Bool.and_eq_true, decide_eq_true_eq]
    refine ldA x.c (.blk bq3) rfl ?_
    refine fldA ?_
    refine ld (.string x.name) (bq3.cell rfl) ?_
    refine fldA ?_
    refine ld (iv x.kind) (bq3.cell rfl) ?_
    refine fldA ?_
    refine ld (iv x.farm) (bq3.cell rfl) ?_
    refine fldA ?_
    refine ld (iv x.reach) (bq3.cell rfl) ?_
    refine fldA ?_
    refine ld (iv x.frm) (bq3.cell rfl) ?_
    refine fldA ?_
    refine ld (iv x.to) (bq3.cell rfl) ?_
    refine bld [.string x.name, iv x.kind, iv x.farm, iv x.reach, iv 0, iv 0, iv x.frm, iv x.to, iv 0, iv 0] (by kernel_rfl) ?_
    refine eqS ((x.name.toList == x.name.toList) && ((x.kind == x.kind) && ((x.farm == x.farm) && ((x.reach == x.reach) && ((x.rank == 0) && ((x.litres == 0) && ((x.frm == x.frm) && ((x.to == x.to) && ((x.every == 0) && ((x.length == 0) && true)))))))))) (by kernel_rfl) (fun b => ?_) (fun b => ?_)
    · refine ret1 (.bool true) rfl ⟨?_, x3⟩
      simp at b
      rw [iff2.2 (iff3.2 (by omega))]
    · refine ret1 (.bool false) rfl ⟨bad fun h => ?_, x3⟩
      have := iff3.1 (iff2.1 h)
      simp [this] at b
  · refine ret1 (.bool false) rfl ⟨bad fun h => ?_, x3⟩
    have := iff2.1 h
    unfold kindOk at this
    rw [if_neg k1, if_neg k2, if_neg k3] at this
    exact Bool.noConfusion this
/-- The panic of a demand. -/
abbrev refusal (e : Int) : List PanicEntry := [{ v := .iface 258 (iv e), recovered := false }]
theorem c_demand {ok : Bool} {e : Int} : CallX Tryz.prog 127 #[.bool ok, iv e] w (fun v w' => v = .tuple #[] ∧ ok = true ∧ w' = w) (fun ch w' => ok = false ∧ w' = w ∧ ch = refusal e) := by
  refine fn_ruleX (args := [.bool ok, iv e]) Tryz.func127 (by kernel_rfl) ?_
  cases ok with
  | true => exact ret0 ⟨rfl, rfl, rfl⟩
  | false =>
    refine mkI rfl (by kernel_rfl) ?_
    refine panicI rfl ?_
    exact fun _ _ => ⟨rfl, rfl, rfl, rfl⟩
theorem dem {ok : Bool} {e : Int} {K : VK} {X : XK} (k1 : ok = true → K (.tuple #[]) w) (k2 : ok = false → X (refusal e) w) : CallP Tryz.prog 127 #[.bool ok, iv e] K X w := by
  refine call_ofX c_demand ?_ ?_
  · rintro _ _ ⟨rfl, h, rfl⟩; exact k1 h
  · rintro _ _ ⟨h, rfl, rfl⟩; exact k2 h
end
end Go.Proofs.YtehcphboliofaaaGreatDoor

/- Contracts: expand's examine. -/
namespace Go.Proofs.YtehcphboliofaaaGreatDoor
open Go Go.RowKit

def reachesB : Nat → List Reach → Bool
  | _, [] => true
  | i, x :: l => (upOk i x.up && reachOk x) && reachesB (i + 1) l
def cropOk (x : Crop) : Bool := inI x.need 0 1048576
def farmOk (nr nc : Nat) (x : Farm) : Bool := (if 0 < x.area then inI x.crop 0 ((nc : Int) - 1) else decide (x.crop = -1)) && (inI x.reach 0 ((nr : Int) - 1) && inI x.area 0 1048576)
def dutyOk (nf nr : Nat) (h : Int) (x : Duty) : Bool := inI x.farm 0 ((nf : Int) - 1) && (inI x.reach 0 ((nr : Int) - 1) && inI x.due 0 h)
def headOk (d : Dist) : Bool := inI d.hours 1 4096 && (inI d.start 0 d.cap && (decide (d.cap ≤ 1099511627776) && decide (0 < d.reaches.length)))
theorem headOk_iff {d : Dist} : headOk d = true ↔ (1 ≤ d.hours ∧ d.hours ≤ 4096) ∧ (0 ≤ d.start ∧ d.start ≤ d.cap) ∧ d.cap ≤ 1099511627776 ∧ 0 < d.reaches.length := by unfold headOk; simp only [Bool.and_eq_true, decide_eq_true_eq, inI_iff]
def validB (d : Dist) : Bool := headOk d && (reachesB 0 d.reaches && (d.crops.all cropOk && (d.farms.all (farmOk d.reaches.length d.crops.length) && (d.rights.all (rightOk d.farms.length d.reaches.length d.hours) && d.duties.all (dutyOk d.farms.length d.reaches.length d.hours)))))
theorem validB_iff {d : Dist} : validB d = true ↔ headOk d = true ∧ reachesB 0 d.reaches = true ∧ d.crops.all cropOk = true ∧ d.farms.all (farmOk d.reaches.length d.crops.length) = true ∧ d.rights.all (rightOk d.farms.length d.reaches.length d.hours) = true ∧ d.duties.all (dutyOk d.farms.length d.reaches.length d.hours) = true := by
  unfold validB; simp only [Bool.and_eq_true]

section
variable {D : Nat → Prop} {w : World}
theorem c_examine {d : Dist} {cs : List Value} {e : Int} (hd : DiR D w cs d) : CallX Tryz.prog 128 #[.agg cs.toArray, iv e] w (fun v w' => v = .tuple #[] ∧ validB d = true ∧ Ext w w') (fun ch w' => validB d = false ∧ Ext w w' ∧ ch = refusal e) := by
  obtain ⟨A1, n1, c1, A2, n2, c2, A3, n3, c3, A4, n4, c4, A5, n5, c5, A6, n6, c6, rfl, hr, hf, hcr, hri, hdu, hwe⟩ := hd.ex
  have l1 := hr.len
  have l2 := hf.len
  have l3 := hcr.len
  refine fn_ruleX (args := [.agg #[.string d.name, iv d.hours, iv d.cap, iv d.start, .slice A1 n1 c1, .slice A2 n2 c2, .slice A3 n3 c3, .slice A4 n4 c4, .slice A5 n5 c5, .slice A6 n6 c6], iv e]) Tryz.func128 (by kernel_rfl) ?_
  have bad : ¬ (validB d = true) → validB d = false := Bool.eq_false_iff.2
  refine box (fun g w1 h1 => ?_)
  have bg := h1.blk
  have x1 := h1.ext
  have zg := h1.at_
  have hlt := bg.lt
  -- the head
  have tail1 : ∀ w2, Ext w1 w2 → headOk d = true → True := fun _ _ _ => trivial
  refine fldA ?_
  refine ld (iv d.hours) (bg.cell rfl) ?_
  refine lit [iv 1, iv d.hours, iv 4096] (fun g3 w3 hb3 => ?_)
  refine callB (c_rising (hb3.i0 [1, d.hours, 4096])) (fun a1 => ?_) (fun a1 => ?_)
  rotate_left
  · refine dem (fun h => Bool.noConfusion h) (fun _ => ?_)
    exact fun _ _ => ⟨rfl, bad fun h => rising3n.1 a1 (headOk_iff.1 (validB_iff.1 h).1).1, x1.trans hb3.ext, rfl⟩
  have b3 := bg.ext hb3.ext
  refine fldA ?_
  refine fldA ?_
  refine ld (iv d.start) (b3.cell rfl) ?_
  refine fldA ?_
  refine fldA ?_
  refine ld (iv d.cap) (b3.cell rfl) ?_
  refine lit [iv 0, iv d.start, iv d.cap, iv 1099511627776] (fun g4 w4 hb4 => ?_)
  have x4 := hb3.ext.trans hb4.ext
  refine callB (c_rising (hb4.i0 [0, d.start, d.cap, 1099511627776])) (fun a2 => ?_) (fun a2 => ?_)
  rotate_left
  · refine dem (fun h => Bool.noConfusion h) (fun _ => ?_)
    exact fun _ _ => ⟨rfl, bad fun h => rising4'.1 a2 (by have := headOk_iff.1 (validB_iff.1 h).1; omega), x1.trans x4, rfl⟩
  have b4 := bg.ext x4
  refine fldA ?_
  refine ld (.slice A1 n1 c1) (b4.cell rfl) ?_
  refine len ?_
  refine cD (fun a3 => ?_) (fun a3 => ?_)
  rotate_left
  · refine dem (fun h => Bool.noConfusion h) (fun _ => ?_)
    exact fun _ _ => ⟨rfl, bad fun h => by have := headOk_iff.1 (validB_iff.1 h).1; omega, x1.trans x4, rfl⟩
  refine dem (fun _ => ?_) (fun h => Bool.noConfusion h)
  have a1 := rising3'.1 a1
  have a2 := rising4.1 a2
  have hH : headOk d = true := headOk_iff.2 (by omega)
  clear a2 tail1
  refine fldA ?_
  refine ld (.slice A1 n1 c1) (b4.cell rfl) ?_
  refine len ?_
  -- the reaches
  refine loop_rule (fun k : Nat => [(40, iv (k : Int))]) (fun k w' => k ≤ n1 ∧ Ext w1 w' ∧ reachesB 0 d.reaches = reachesB k (d.reaches.drop k)) (fun k _ => n1 - k) 0 ⟨rfl, trivial⟩ ⟨by omega, x4, rfl⟩ rfl ?_
  rintro G k w5 ⟨hk, x5, he⟩
  refine cD (fun hlt => ?_) (fun hge => ?_)
  · obtain ⟨b, o, cs, x, rfl, -, hx, -, hc, rfl⟩ := (hr.ext (x1.trans x5)).at_ (show k < n1 by omega)
    rw [hx, reachesB] at he
    refine idx k rfl (by omega) ?_
    refine ldA x.c hc rfl ?_
    refine alloc (fun q w6 h6 => ?_)
    refine stA (vs := x.c) h6.blk rfl (Nat.le_of_ble_eq_true rfl) (by simp [Value.oneCell']) (fun w7 hb7 k7 z7 => ?_)
    have z6 := h6.at_
    have zz := x5.size
    have x7 : Ext w1 w7 := (x5.trans h6.ext).then k7 fun b hb _ e => by omega
    refine ldA x.c (.blk hb7) rfl ?_
    refine callE (c_ereach (i := k) (x := x)) (fun w8 hq x8 => ?_) (fun w8 hq x8 => ?_)
    · refine dem (fun _ => ?_) (fun h => Bool.noConfusion h)
      refine arI (by have := hr.le; omega) ?_
      refine next (k + 1) ⟨by rw [Int.natCast_add]; rfl, trivial⟩ ⟨by omega, x7.trans x8, ?_⟩ (by omega)
      rw [he, hq]; rfl
    · refine dem (fun h => Bool.noConfusion h) (fun _ => ?_)
      exact fun _ _ => ⟨rfl, bad fun h => by have := (validB_iff.1 h).2.1; rw [he, hq] at this; exact Bool.noConfusion this, x1.trans (x7.trans x8), rfl⟩
  have hR : reachesB 0 d.reaches = true := by rw [he, drop_end (by omega)]; rfl
  clear he hge

  refine fldA ?_
  refine ld (.slice A3 n3 c3) ((bg.ext x5).cell rfl) ?_
  refine len ?_
  -- the crops
  refine loop_rule (fun k : Nat => [(54, iv (k : Int))]) (fun k w' => k ≤ n3 ∧ Ext w1 w' ∧ d.crops.all cropOk = (d.crops.drop k).all cropOk) (fun k _ => n3 - k) 0 ⟨rfl, trivial⟩ ⟨by omega, x5, rfl⟩ rfl ?_
  rintro G k w9 ⟨hk, x9, he⟩
  refine cD (fun hlt => ?_) (fun hge => ?_)
  · obtain ⟨b, o, cs, x, rfl, -, hx, -, hc, rfl⟩ := (hcr.ext (x1.trans x9)).at_ (show k < n3 by omega)
    rw [hx, List.all_cons] at he
    refine idx k rfl (by omega) ?_
    refine ldA x.c hc rfl ?_
    refine alloc (fun q w6 h6 => ?_)
    refine stA (vs := x.c) h6.blk rfl (Nat.le_of_ble_eq_true rfl) (by simp [Value.oneCell']) (fun w7 hb7 k7 z7 => ?_)
    have z6 := h6.at_
    have zz := x9.size
    have x7 : Ext w1 w7 := (x9.trans h6.ext).then k7 fun b hb _ e => by omega
    refine fldA ?_
    refine ld (iv x.need) (hb7.cell rfl) ?_
    refine lit [iv 0, iv x.need, iv 1048576] (fun g8 w8 hb8 => ?_)
    refine callB (c_rising (hb8.i0 [0, x.need, 1048576])) (fun hq => ?_) (fun hq => ?_)
    · refine dem (fun _ => ?_) (fun h => Bool.noConfusion h)
      refine arI (by have := hcr.le; omega) ?_
      refine next (k + 1) ⟨by rw [Int.natCast_add]; rfl, trivial⟩ ⟨by omega, x7.trans hb8.ext, ?_⟩ (by omega)
      rw [he, show cropOk x = true from rising3.symm.trans hq]; rfl
    · refine dem (fun h => Bool.noConfusion h) (fun _ => ?_)
      exact fun _ _ => ⟨rfl, bad fun h => by have := (validB_iff.1 h).2.2.1; rw [he, show cropOk x = false from rising3.symm.trans hq] at this; exact Bool.noConfusion this, x1.trans (x7.trans hb8.ext), rfl⟩
  have hC : d.crops.all cropOk = true := by rw [he, drop_end (by have := hcr.len; omega)]; rfl
  clear he hge

  refine fldA ?_
  refine ld (.slice A2 n2 c2) ((bg.ext x9).cell rfl) ?_
  refine len ?_
  -- the farms
  refine loop_rule (fun k : Nat => [(68, iv (k : Int))]) (fun k w' => k ≤ n2 ∧ Ext w1 w' ∧ d.farms.all (farmOk d.reaches.length d.crops.length) = (d.farms.drop k).all (farmOk d.reaches.length d.crops.length)) (fun k _ => n2 - k) 0 ⟨rfl, trivial⟩ ⟨by omega, x9, rfl⟩ rfl ?_
  rintro G k w10 ⟨hk, x10, he⟩
  refine cD (fun hlt => ?_) (fun hge => ?_)
  · obtain ⟨b, o, cs, x, rfl, -, hx, -, hc, rfl⟩ := (hf.ext (x1.trans x10)).at_ (show k < n2 by omega)
    rw [hx, List.all_cons] at he
    refine idx k rfl (by omega) ?_
    refine ldA x.c hc rfl ?_
    refine alloc (fun q w6 h6 => ?_)
    refine stA (vs := x.c) h6.blk rfl (Nat.le_of_ble_eq_true rfl) (by simp [Value.oneCell']) (fun w7 hb7 k7 z7 => ?_)
    have z6 := h6.at_
    have zz := x10.size
    have x7 : Ext w1 w7 := (x10.trans h6.ext).then k7 fun b hb _ e => by omega
    have bg7 := bg.ext x7
    have bad2 : farmOk d.reaches.length d.crops.length x = false → validB d = false := fun hq => bad fun h => by have := (validB_iff.1 h).2.2.2.1; rw [he, hq] at this; exact Bool.noConfusion this
    have fiff : farmOk d.reaches.length d.crops.length x = true ↔ (if 0 < x.area then inI x.crop 0 ((n3 : Int) - 1) = true else x.crop = -1) ∧ inI x.reach 0 ((n1 : Int) - 1) = true ∧ (0 ≤ x.area ∧ x.area ≤ 1048576) := by
      unfold farmOk; rw [l1, l3, Bool.and_eq_true, Bool.and_eq_true, inI_iff (n := x.area)]
      split <;> simp only [decide_eq_true_eq]
    have bad3 : ¬ (farmOk d.reaches.length d.crops.length x = true) → validB d = false := fun h => bad2 (Bool.eq_false_iff.2 h)
    refine fldA ?_
    refine ld (iv x.crop) (hb7.cell rfl) ?_
    refine cE (fun p1 => ?ca) (fun p1 => ?cb)
    all_goals
      refine fldA ?_
      refine ld (iv x.area) (hb7.cell rfl) ?_
      refine cD (fun p2 => ?_) (fun p2 => ?_)
    case' cb.refine_2 =>
      refine dem (fun h => Bool.noConfusion h) (fun _ => ?_)
      exact fun _ _ => ⟨rfl, bad3 fun h => by have := (fiff.1 h).1; rw [if_neg (by omega)] at this; exact p1 this, x1.trans x7, rfl⟩
    case' ca.refine_1 =>
      refine fldA ?_
      refine ld (iv x.crop) (hb7.cell rfl) ?_
      refine fldA ?_
      refine ld (.slice A3 n3 c3) (bg7.cell rfl) ?_
      refine len ?_
      refine callB c_eindex (fun p3 => ?_) (fun p3 => ?_)
      rotate_left
      · refine dem (fun h => Bool.noConfusion h) (fun _ => ?_)
        exact fun _ _ => ⟨rfl, bad3 fun h => by have := (fiff.1 h).1; rw [if_pos (by omega), p3] at this; exact Bool.noConfusion this, x1.trans x7, rfl⟩
      have hu : (if 0 < x.area then inI x.crop 0 ((n3 : Int) - 1) = true else x.crop = -1) := by rw [if_pos (by omega)]; exact p3
    case' cb.refine_1 =>
      refine fldA ?_
      refine ld (iv x.crop) (hb7.cell rfl) ?_
      refine fldA ?_
      refine ld (.slice A3 n3 c3) (bg7.cell rfl) ?_
      refine len ?_
      refine callB c_eindex (fun p3 => ?_) (fun p3 => ?_)
      rotate_left
      · refine dem (fun h => Bool.noConfusion h) (fun _ => ?_)
        exact fun _ _ => ⟨rfl, bad3 fun h => by have := (fiff.1 h).1; rw [if_pos (by omega), p3] at this; exact Bool.noConfusion this, x1.trans x7, rfl⟩
      have hu : (if 0 < x.area then inI x.crop 0 ((n3 : Int) - 1) = true else x.crop = -1) := by rw [if_pos (by omega)]; exact p3
    case' ca.refine_2 =>
      have hu : (if 0 < x.area then inI x.crop 0 ((n3 : Int) - 1) = true else x.crop = -1) := by rw [if_neg (by omega)]; exact p1
    all_goals
      refine fldA ?_
      refine ld (iv x.reach) (hb7.cell rfl) ?_
      refine fldA ?_
      refine ld (.slice A1 n1 c1) (bg7.cell rfl) ?_
      refine len ?_
      refine callB c_eindex (fun p4 => ?_) (fun p4 => ?_)
      rotate_left
      · refine dem (fun h => Bool.noConfusion h) (fun _ => ?_)
        exact fun _ _ => ⟨rfl, bad3 fun h => by have := (fiff.1 h).2.1; rw [p4] at this; exact Bool.noConfusion this, x1.trans x7, rfl⟩
      refine fldA ?_
      refine ld (iv x.area) (hb7.cell rfl) ?_
      refine lit [iv 0, iv x.area, iv 1048576] (fun g8 w8 hb8 => ?_)
      refine callB (c_rising (hb8.i0 [0, x.area, 1048576])) (fun hq => ?_) (fun hq => ?_)
      · refine dem (fun _ => ?_) (fun h => Bool.noConfusion h)
        refine arI (by have := hf.le; omega) ?_
        refine next (k + 1) ⟨by rw [Int.natCast_add]; rfl, trivial⟩ ⟨by omega, x7.trans hb8.ext, ?_⟩ (by omega)
        rw [he, fiff.2 ⟨hu, p4, rising3'.1 hq⟩]; rfl
      · refine dem (fun h => Bool.noConfusion h) (fun _ => ?_)
        exact fun _ _ => ⟨rfl, bad3 fun h => rising3n.1 hq (fiff.1 h).2.2, x1.trans (x7.trans hb8.ext), rfl⟩
  have hF : d.farms.all (farmOk d.reaches.length d.crops.length) = true := by rw [he, drop_end (by omega)]; rfl
  clear he hge

  refine fldA ?_
  refine ld (.slice A4 n4 c4) ((bg.ext x10).cell rfl) ?_
  refine len ?_
  -- the rights
  refine loop_rule (fun k : Nat => [(105, iv (k : Int))]) (fun k w' => k ≤ n4 ∧ Ext w1 w' ∧ d.rights.all (rightOk d.farms.length d.reaches.length d.hours) = (d.rights.drop k).all (rightOk d.farms.length d.reaches.length d.hours)) (fun k _ => n4 - k) 0 ⟨rfl, trivial⟩ ⟨by omega, x10, rfl⟩ rfl ?_
  rintro G k w11 ⟨hk, x11, he⟩
  refine cD (fun hlt => ?_) (fun hge => ?_)
  · obtain ⟨b, o, cs, x, rfl, -, hx, -, hc, rfl⟩ := (hri.ext (x1.trans x11)).at_ (show k < n4 by omega)
    rw [hx, List.all_cons] at he
    refine idx k rfl (by omega) ?_
    refine ldA x.c hc rfl ?_
    refine alloc (fun q w6 h6 => ?_)
    refine stA (vs := x.c) h6.blk rfl (Nat.le_of_ble_eq_true rfl) (by simp [Value.oneCell']) (fun w7 hb7 k7 z7 => ?_)
    have z6 := h6.at_
    have zz := x11.size
    have x7 : Ext w1 w7 := (x11.trans h6.ext).then k7 fun b hb _ e => by omega
    refine ldA [.string d.name, iv d.hours, iv d.cap, iv d.start, .slice A1 n1 c1, .slice A2 n2 c2, .slice A3 n3 c3, .slice (some (ad b o)) n4 c4, .slice A5 n5 c5, .slice A6 n6 c6] (.blk (bg.ext x7)) rfl ?_
    refine ldA x.c (.blk hb7) rfl ?_
    refine callE (c_eright (d := d) (x := x) (hd.ext (x1.trans x7)) a1) (fun w8 hq x8 => ?_) (fun w8 hq x8 => ?_)
    · refine dem (fun _ => ?_) (fun h => Bool.noConfusion h)
      refine arI (by have := hri.le; omega) ?_
      refine next (k + 1) ⟨by rw [Int.natCast_add]; rfl, trivial⟩ ⟨by omega, x7.trans x8, ?_⟩ (by omega)
      rw [he, hq]; rfl
    · refine dem (fun h => Bool.noConfusion h) (fun _ => ?_)
      exact fun _ _ => ⟨rfl, bad fun h => by have := (validB_iff.1 h).2.2.2.2.1; rw [he, hq] at this; exact Bool.noConfusion this, x1.trans (x7.trans x8), rfl⟩
  have hG : d.rights.all (rightOk d.farms.length d.reaches.length d.hours) = true := by rw [he, drop_end (by have := hri.len; omega)]; rfl
  clear he hge

  refine fldA ?_
  refine ld (.slice A5 n5 c5) ((bg.ext x11).cell rfl) ?_
  refine len ?_
  -- the duties
  refine loop_rule (fun k : Nat => [(118, iv (k : Int))]) (fun k w' => k ≤ n5 ∧ Ext w1 w' ∧ d.duties.all (dutyOk d.farms.length d.reaches.length d.hours) = (d.duties.drop k).all (dutyOk d.farms.length d.reaches.length d.hours)) (fun k _ => n5 - k) 0 ⟨rfl, trivial⟩ ⟨by omega, x11, rfl⟩ rfl ?_
  rintro G k w12 ⟨hk, x12, he⟩
  refine cD (fun hlt => ?_) (fun hge => ?_)
  · obtain ⟨b, o, cs, x, rfl, -, hx, -, hc, rfl⟩ := (hdu.ext (x1.trans x12)).at_ (show k < n5 by omega)
    rw [hx, List.all_cons] at he
    refine idx k rfl (by omega) ?_
    refine ldA x.c hc rfl ?_
    refine alloc (fun q w6 h6 => ?_)
    refine stA (vs := x.c) h6.blk rfl (Nat.le_of_ble_eq_true rfl) (by simp [Value.oneCell']) (fun w7 hb7 k7 z7 => ?_)
    have z6 := h6.at_
    have zz := x12.size
    have x7 : Ext w1 w7 := (x12.trans h6.ext).then k7 fun b hb _ e => by omega
    have bg7 := bg.ext x7
    have fiff : dutyOk d.farms.length d.reaches.length d.hours x = true ↔ inI x.farm 0 ((n2 : Int) - 1) = true ∧ inI x.reach 0 ((n1 : Int) - 1) = true ∧ (0 ≤ x.due ∧ x.due ≤ d.hours) := by
      unfold dutyOk; rw [l1, l2, Bool.and_eq_true, Bool.and_eq_true, inI_iff (n := x.due)]
    have bad3 : ¬ (dutyOk d.farms.length d.reaches.length d.hours x = true) → validB d = false := fun hq => bad fun h => by have := (validB_iff.1 h).2.2.2.2.2; rw [he, Bool.eq_false_iff.2 hq] at this; exact Bool.noConfusion this
    refine fldA ?_
    refine ld (iv x.farm) (hb7.cell rfl) ?_
    refine fldA ?_
    refine ld (.slice A2 n2 c2) (bg7.cell rfl) ?_
    refine len ?_
    refine callB c_eindex (fun b1 => ?_) (fun b1 => ?_)
    rotate_left
    · refine dem (fun h => Bool.noConfusion h) (fun _ => ?_)
      exact fun _ _ => ⟨rfl, bad3 fun h => by have := (fiff.1 h).1; rw [b1] at this; exact Bool.noConfusion this, x1.trans x7, rfl⟩
    refine fldA ?_
    refine ld (iv x.reach) (hb7.cell rfl) ?_
    refine fldA ?_
    refine ld (.slice A1 n1 c1) (bg7.cell rfl) ?_
    refine len ?_
    refine callB c_eindex (fun b2 => ?_) (fun b2 => ?_)
    rotate_left
    · refine dem (fun h => Bool.noConfusion h) (fun _ => ?_)
      exact fun _ _ => ⟨rfl, bad3 fun h => by have := (fiff.1 h).2.1; rw [b2] at this; exact Bool.noConfusion this, x1.trans x7, rfl⟩
    refine fldA ?_
    refine ld (iv x.due) (hb7.cell rfl) ?_
    refine fldA ?_
    refine ld (iv d.hours) (bg7.cell rfl) ?_
    refine lit [iv 0, iv x.due, iv d.hours] (fun g8 w8 hb8 => ?_)
    refine callB (c_rising (hb8.i0 [0, x.due, d.hours])) (fun hq => ?_) (fun hq => ?_)
    · refine dem (fun _ => ?_) (fun h => Bool.noConfusion h)
      refine arI (by have := hdu.le; omega) ?_
      refine next (k + 1) ⟨by rw [Int.natCast_add]; rfl, trivial⟩ ⟨by omega, x7.trans hb8.ext, ?_⟩ (by omega)
      rw [he, fiff.2 ⟨b1, b2, rising3'.1 hq⟩]; rfl
    · refine dem (fun h => Bool.noConfusion h) (fun _ => ?_)
      exact fun _ _ => ⟨rfl, bad3 fun h => rising3n.1 hq (fiff.1 h).2.2, x1.trans (x7.trans hb8.ext), rfl⟩
  have hU : d.duties.all (dutyOk d.farms.length d.reaches.length d.hours) = true := by rw [he, drop_end (by have := hdu.len; omega)]; rfl
  exact ret0 ⟨rfl, validB_iff.2 ⟨hH, hR, hC, hF, hG, hU⟩, x1.trans x12⟩
theorem c_caught {e : Int} : CallZ Tryz.prog 126 #[.iface 258 (iv e)] w (fun v w' => v = iv e ∧ w' = w) := by
  refine fn_rule (args := [.iface 258 (iv e)]) Tryz.func126 (by kernel_rfl) ?_
  refine tAs rfl (by kernel_rfl) ?_
  exact ret1 (iv e) rfl ⟨rfl, rfl⟩
end
end Go.Proofs.YtehcphboliofaaaGreatDoor

/- Contracts: expand.Check. -/
namespace Go.Proofs.YtehcphboliofaaaGreatDoor
open Go Go.RowKit

def tooMany (d : Dist) : Bool := !(decide (d.reaches.length ≤ 64) && (decide (d.farms.length ≤ 600) && (decide (d.crops.length ≤ 32) && (decide (d.rights.length ≤ 256) && decide (d.duties.length ≤ 256)))))
def dErr (d : Dist) : Int := if tooMany d then 2 else if validB d then 0 else 191

section
variable {P : Program} {X : XK}
theorem run_equalNil {t u : TypeId} {v : Value} {ms : Array (String × TypeId)} (hu : P.underlying t = some (.interface ms)) (w : World) : (Op.equal t (.iface u v) .nilIface).run P w = .ok false w := by
  unfold Op.equal
  rw [show Op.maxDepth = (Op.maxDepth - 1) + 1 from rfl]
  rw [Op.equalIn, Sem.run_bind, run_underlying hu]
  rfl
theorem run_equalNil0 {t : TypeId} {ms : Array (String × TypeId)} (hu : P.underlying t = some (.interface ms)) (w : World) : (Op.equal t .nilIface .nilIface).run P w = .ok true w := by
  unfold Op.equal
  rw [show Op.maxDepth = (Op.maxDepth - 1) + 1 from rfl]
  rw [Op.equalIn, Sem.run_bind, run_underlying hu]
  rfl
theorem neNil {t u : TypeId} {v c : Value} {xo : Operand} {K : Value → Prop} {ms : Array (String × TypeId)} (hu : P.underlying t = some (.interface ms)) (k : K (.bool true)) : BinP P .neq t xo (.const c) (.iface u v) .nilIface K := by
  rw [BinP_eq]
  refine pure_vval (fun w => ?_) k
  have h1 : (eqGuard .neq t xo (.const c) (.iface u v) .nilIface).run P w = .ok () w := rfl
  have h2 : binOp .neq t (.iface u v) .nilIface = (do pure (.bool (!(← Op.equal t (.iface u v) .nilIface)))) := rfl
  rw [Sem.run_bind, h1, h2]
  simp only [Result.andThen_ok, Sem.run_bind, run_equalNil hu, Sem.run_pure]
  rfl
theorem neNil0 {t : TypeId} {c : Value} {xo : Operand} {K : Value → Prop} {ms : Array (String × TypeId)} (hu : P.underlying t = some (.interface ms)) (k : K (.bool false)) : BinP P .neq t xo (.const c) .nilIface .nilIface K := by
  rw [BinP_eq]
  refine pure_vval (fun w => ?_) k
  have h1 : (eqGuard .neq t xo (.const c) .nilIface .nilIface).run P w = .ok () w := by rw [eqGuard_nil_constR]; rfl
  have h2 : binOp .neq t .nilIface .nilIface = (do pure (.bool (!(← Op.equal t .nilIface .nilIface)))) := rfl
  rw [Sem.run_bind, h1, h2]
  simp only [Result.andThen_ok, Sem.run_bind, run_equalNil0 hu, Sem.run_pure]
  rfl
end
section
variable {D : Nat → Prop} {w : World}
theorem u20 : Tryz.prog.underlying 20 = some (.interface #[]) := by kernel_rfl
theorem c_rec {p : Nat} {e x : Int} {w0 : World} (hp : Blk (z w0) p 29 [iv x]) :
    CallsDIn Fence.wide 0 Tryz.prog 125 #[ptr p] (.panicking (refusal e)) w0 (fun e' u' w' => e' = .returned (.tuple #[]) ∧ u' = .panicking [{ v := .iface 258 (iv e), recovered := true }] ∧ Blk (z w') p 29 [iv e] ∧ Kept (fun b => b ≠ p) (z w0) (z w')) := by
  refine rec_rule (args := [ptr p]) (d0 := 2) (d1 := 1) (v := .iface 258 (iv e)) (u' := .panicking [{ v := .iface 258 (iv e), recovered := true }]) Tryz.func125 rfl (by kernel_rfl) ?_ w0 ?_
  · intro c₀ cs h
    simp [recoverD, h, refusal]
  · refine neNil u20 ?_
    refine call_of c_caught ?_
    rintro _ _ ⟨rfl, rfl⟩
    refine st1 hp rfl (fun w2 hb2 k2 => ?_)
    refine ⟨rfl, fun tmps w3 _ hw3 => ⟨.tuple #[], results_none rfl _ _ _, rfl, rfl, ?_⟩⟩
    subst hw3
    exact ⟨hb2, k2⟩
theorem c_idle {p : Nat} {w0 : World} :
    CallsDIn Fence.wide 0 Tryz.prog 125 #[ptr p] .returning w0 (fun e' u' w' => e' = .returned (.tuple #[]) ∧ u' = .returning ∧ z w' = z w0) := by
  refine rec_rule (args := [ptr p]) (d0 := 2) (d1 := 1) (v := .nilIface) (u' := .returning) Tryz.func125 rfl (by kernel_rfl) ?_ w0 ?_
  · intro c₀ cs h
    simp [recoverD, h]
  · refine neNil0 u20 ?_
    exact ⟨rfl, fun tmps w3 _ hw3 => ⟨.tuple #[], results_none rfl _ _ _, rfl, rfl, hw3⟩⟩
abbrev R2 (R : VK) : Ending → World → Prop := fun e w' => ∃ v, e = .returned v ∧ R v (z w')
theorem inv42 {q : Nat} (w0 : World) : (invoke (.fn (.func 125) #[ptr q]) #[]).run Tryz.prog w0 = .ok (.enter 125 #[ptr q]) w0 := (inferInstance : Enters Tryz.prog 125).h #[ptr q] w0
/-- The end: the result's cell is read. -/
theorem eEnd {q : Nat} {x : Int} {F : Fr} {R : VK} {tmps : Array Value} {w0 : World} (hF : ∀ t, tmps.getD t undef = F t) (h2 : F 2 = ptr q) (hb : Blk (z w0) q 29 [iv x]) (k : R (iv x) (z w0)) :
    LeavesInM Fence.wide 0 Tryz.prog Tryz.f77 tmps (R2 R) [] .returning w0 :=
  leaves_soundG (a := { tmps := tmps, defers := [] }) (R := R) (fun v _ h => ⟨v, rfl, h⟩) hF [] w0 (z w0) rfl (by
    show ResLP _ _ (F 2) _ _
    rw [h2]
    exact resL _ (holds_cell (hb.cell rfl)) k)
theorem door_idle {q : Nat} {x : Int} {F : Fr} {R : VK} {w : World} (h2 : F 2 = ptr q) (hb : Blk w q 29 [iv x]) (k : R (iv x) w) :
    KendL Tryz.prog Tryz.f77 (R2 R) .normal F [{ target := .fn (.func 125) #[ptr q], args := #[] }] w := by
  intro tmps w0 hF hw
  subst hw
  refine ⟨by simp, .inr ⟨(fun h => Bool.noConfusion h), _, _, 125, #[ptr q], rfl, inv42 w0, fun _ _ => trivial, c_idle.mono ?_⟩⟩
  rintro e u w1 ⟨rfl, rfl, hz⟩
  show LeavesInM _ _ _ _ _ _ [] .returning w1
  exact eEnd hF h2 (by rw [hz]; exact hb) (by rw [hz]; exact k)
theorem door_pan {q : Nat} {x e : Int} {F : Fr} {R : VK} {w : World} (h2 : F 2 = ptr q) (hb : Blk w q 29 [iv x]) (k : ∀ w', Kept (fun b => b ≠ q) w w' → R (iv e) w') :
    KendL Tryz.prog Tryz.f77 (R2 R) (.panic (refusal e)) F [{ target := .fn (.func 125) #[ptr q], args := #[] }] w := by
  intro tmps w0 hF hw
  subst hw
  refine ⟨by simp, .inr ⟨(fun h => Bool.noConfusion h), _, _, 125, #[ptr q], rfl, inv42 w0, fun _ _ => trivial, (c_rec hb).mono ?_⟩⟩
  rintro e' u w1 ⟨rfl, rfl, hb1, hk⟩
  show LeavesInM _ _ _ _ _ _ [] .returning w1
  exact eEnd hF h2 hb1 (k _ hk)
theorem c_eCheck {d : Dist} {cs : List Value} (hd : DiR D w cs d) : CallZ Tryz.prog 77 #[.agg cs.toArray] w (fun v w' => v = iv (dErr d) ∧ Ext w w') := by
  obtain ⟨A1, n1, c1, A2, n2, c2, A3, n3, c3, A4, n4, c4, A5, n5, c5, A6, n6, c6, rfl, hr, hf, hcr, hri, hdu, hwe⟩ := hd.ex
  have l1 := hr.len
  have l2 := hf.len
  have l3 := hcr.len
  have l4 := hri.len
  have l5 := hdu.len
  intro w00 hw00
  refine fn_ruleD (args := [.agg #[.string d.name, iv d.hours, iv d.cap, iv d.start, .slice A1 n1 c1, .slice A2 n2 c2, .slice A3 n3 c3, .slice A4 n4 c4, .slice A5 n5 c5, .slice A6 n6 c6]]) (d0 := 3) (c0 := 2) (w := w) Tryz.func77 rfl (by kernel_rfl) ?_ w00 hw00
  refine box (fun g w1 h1 => ?_)
  refine alloc (fun q w2 h2 => ?_)
  refine ⟨rfl, ?_⟩
  have bg := h1.blk.ext h2.ext
  have x2 := h1.ext.trans h2.ext
  have tiff : tooMany d = false ↔ n1 ≤ 64 ∧ n2 ≤ 600 ∧ n3 ≤ 32 ∧ n4 ≤ 256 ∧ n5 ≤ 256 := by unfold tooMany; rw [l1, l2, l3, l4, l5]; simp
  have bad : ¬ (n1 ≤ 64 ∧ n2 ≤ 600 ∧ n3 ≤ 32 ∧ n4 ≤ 256 ∧ n5 ≤ 256) → dErr d = 2 := fun h => by unfold dErr; rw [show tooMany d = true from by cases ht : tooMany d with | true => rfl | false => exact absurd (tiff.1 ht) h]; rfl
  have zz := h2.at_
  have z1 := h1.ext.size
  have fin : ∀ {w5 : World}, Ext w2 w5 → ∀ w', Kept (fun b => b ≠ q) w5 w' → Ext w w' := fun x5 w' k => (x2.trans x5).then k fun b hb _ e => by omega
  have qb := h2.blk
  refine fldA ?_
  refine ld (.slice A1 n1 c1) (bg.cell rfl) ?_
  refine len ?_
  refine cD (fun a1 => ?_) (fun a1 => ?_)
  rotate_left
  · refine dem (fun h => Bool.noConfusion h) (fun _ => ?_)
    exact fun F' hF' => door_pan (R := fun v w' => v = iv (dErr d) ∧ Ext w w') (hF' 2 rfl) qb fun w' k => ⟨by rw [bad (by omega)], fin (.refl _ _) w' k⟩
  refine fldA ?_
  refine ld (.slice A2 n2 c2) (bg.cell rfl) ?_
  refine len ?_
  refine cD (fun a2 => ?_) (fun a2 => ?_)
  rotate_left
  · refine dem (fun h => Bool.noConfusion h) (fun _ => ?_)
    exact fun F' hF' => door_pan (R := fun v w' => v = iv (dErr d) ∧ Ext w w') (hF' 2 rfl) qb fun w' k => ⟨by rw [bad (by omega)], fin (.refl _ _) w' k⟩
  refine fldA ?_
  refine ld (.slice A3 n3 c3) (bg.cell rfl) ?_
  refine len ?_
  refine cD (fun a3 => ?_) (fun a3 => ?_)
  rotate_left
  · refine dem (fun h => Bool.noConfusion h) (fun _ => ?_)
    exact fun F' hF' => door_pan (R := fun v w' => v = iv (dErr d) ∧ Ext w w') (hF' 2 rfl) qb fun w' k => ⟨by rw [bad (by omega)], fin (.refl _ _) w' k⟩
  refine fldA ?_
  refine ld (.slice A4 n4 c4) (bg.cell rfl) ?_
  refine len ?_
  refine cD (fun a4 => ?_) (fun a4 => ?_)
  rotate_left
  · refine dem (fun h => Bool.noConfusion h) (fun _ => ?_)
    exact fun F' hF' => door_pan (R := fun v w' => v = iv (dErr d) ∧ Ext w w') (hF' 2 rfl) qb fun w' k => ⟨by rw [bad (by omega)], fin (.refl _ _) w' k⟩
  refine fldA ?_
  refine ld (.slice A5 n5 c5) (bg.cell rfl) ?_
  refine len ?_
  refine cD (fun a5 => ?_) (fun a5 => ?_)
  rotate_left
  · refine dem (fun h => Bool.noConfusion h) (fun _ => ?_)
    exact fun F' hF' => door_pan (R := fun v w' => v = iv (dErr d) ∧ Ext w w') (hF' 2 rfl) qb fun w' k => ⟨by rw [bad (by omega)], fin (.refl _ _) w' k⟩
  refine dem (fun _ => ?_) (fun h => Bool.noConfusion h)
  have hT : tooMany d = false := tiff.2 (by omega)
  refine ldA [.string d.name, iv d.hours, iv d.cap, iv d.start, .slice A1 n1 c1, .slice A2 n2 c2, .slice A3 n3 c3, .slice A4 n4 c4, .slice A5 n5 c5, .slice A6 n6 c6] (.blk bg) rfl ?_
  refine call_ofX (c_examine (e := 191) (hd.ext x2)) ?_ ?_
  · rintro _ w5 ⟨rfl, hv, x5⟩
    refine st1 (qb.ext x5) rfl (fun w6 hb6 k6 => ?_)
    exact door_idle (R := fun v w' => v = iv (dErr d) ∧ Ext w w') rfl hb6 ⟨by unfold dErr; rw [hT, hv]; rfl, fin x5 _ k6⟩
  · rintro _ w5 ⟨hv, x5, rfl⟩
    exact fun F' hF' => door_pan (R := fun v w' => v = iv (dErr d) ∧ Ext w w') (hF' 2 rfl) (qb.ext x5) fun w' k => ⟨by unfold dErr; rw [hT, hv]; rfl, fin x5 w' k⟩
end
end Go.Proofs.YtehcphboliofaaaGreatDoor
