/- Contracts of the program: what separates, the best choice. -/
import Derived.Test.YtpmmhcgghldaaaaDoorQ1
namespace Go.Proofs.YtpmmhcgghldaaaaDoor
open Go Go.RowKit

structure PD where
  truths : List Nat
  shown : List Nat
  costs : List Int
  sets : List Nat
def PD.ps (pd : PD) : List (Int × Nat) := pd.costs.zip pd.shown
structure PH where
  A0 : Option Addr
  n0 : Nat
  c0 : Nat
  A1 : Option Addr
  n1 : Nat
  c1 : Nat
  A2 : Option Addr
  n2 : Nat
  c2 : Nat
  A3 : Option Addr
  n3 : Nat
  c3 : Nat
def PH.cells (h : PH) (g : Nat) : List Value := [.slice h.A0 h.n0 h.c0, .slice h.A1 h.n1 h.c1, .slice h.A2 h.n2 h.c2, .slice h.A3 h.n3 h.c3, .map (some g)]
/-- Block b is a plan: its lists; its map is block g. -/
structure PlanAt (w : World) (b g : Nat) (h : PH) (pd : PD) : Prop where
  blk : Blk w b 70 (h.cells g)
  ne : b ≠ g
  truths : SlR tNat (fun x => x ≠ g) w h.A0 h.n0 pd.truths
  shown : SlR tNat (fun x => x ≠ g) w h.A1 h.n1 pd.shown
  costs : SlR tInt (fun x => x ≠ g) w h.A2 h.n2 pd.costs
  sets : SlR tNat (fun x => x ≠ g) w h.A3 h.n3 pd.sets
theorem PlanAt.kept {w w' : World} {b g : Nat} {h : PH} {pd : PD} (p : PlanAt w b g h pd) (k : Kept (fun x => x ≠ g) w w') : PlanAt w' b g h pd :=
  ⟨p.blk.kept k p.ne, p.ne, p.truths.kept k (fun _ _ h => h), p.shown.kept k (fun _ _ h => h), p.costs.kept k (fun _ _ h => h), p.sets.kept k (fun _ _ h => h)⟩
structure PdOk (pd : PD) : Prop where
  len : pd.shown.length = pd.costs.length
  le : pd.shown.length ≤ 12
  lt : ∀ m ∈ pd.shown, m < 4096
  cost : ∀ c ∈ pd.costs, 1 ≤ c ∧ c ≤ 1048576
theorem PdOk.psOk {pd : PD} (h : PdOk pd) : psOk pd.ps := fun _ hx => h.cost _ (List.of_mem_zip hx).1
abbrev cval (c : Int × Int) : Value := .agg #[.int .i64 c.1, .int .i64 c.2]
/-- What the map remembers is right. -/
def MapOk (w : World) (g : Nat) (ps : List (Int × Nat)) : Prop := ∃ f, MapFn .i64 w g f ∧ ∀ k v, f k = some v → ∃ S : Nat, k = (S : Int) ∧ v = cval (B ps S)
theorem MapOk.kept {D : Nat → Prop} {w w' : World} {g : Nat} {ps : List (Int × Nat)} (h : MapOk w g ps) (k : Kept D w w') (hD : D g) : MapOk w' g ps := let ⟨f, h1, h2⟩ := h; ⟨f, h1.kept k hD, h2⟩
theorem MapOk.lt {w : World} {g : Nat} {ps : List (Int × Nat)} (h : MapOk w g ps) : g < w.heap.size := let ⟨_, h1, _⟩ := h; h1.lt
abbrev ptr (b : Nat) : Value := .pointer (some (ad b 0))

theorem yield_of {P : Program} {l : Nat} {args : Array Value} {w : World} {R K : VK} (h : YieldP P l args R w) (k : ∀ v w', R v w' → K v w') : YieldP P l args K w := by
  rw [YieldP_eq] at h ⊢; exact h.mono k

section
variable {D : Nat → Prop} {w : World} {A A' : Option Addr} {n m c d : Nat}

theorem c_separating1 {b g bx bs S l : Nat} {h : PH} {pd : PD} (hok : PdOk pd) (hS : S < 4096) (J : Nat → World → Prop) (Jx : World → Prop)
    (hJ : ∀ k w, J k w → PlanAt w b g h pd ∧ w.cell? (ad bx 0) = some (ptr b) ∧ w.cell? (ad bs 0) = some (.int .i64 (S : Int)))
    (hstep : ∀ k w m, J k w → pd.shown[k]? = some m → psep m S = true → ∀ T : Nat, T = m &&& S → YieldP Tryd.prog l [.int .i64 (k : Int), .int .i64 (T : Int)].toArray (fun v w' => (v = .bool true ∧ J (k + 1) w') ∨ (v = .bool false ∧ Jx w')) w)
    (hskip : ∀ k w m, J k w → pd.shown[k]? = some m → psep m S = false → J (k + 1) w) (h0 : J 0 w) :
    CallZ Tryd.prog 49 #[.func (.yield l) #[] #[], ptr bx, ptr bs] w (fun _ w' => J pd.shown.length w' ∨ Jx w') := by
  refine fn_rule (args := [.func (.yield l) #[] #[], ptr bx, ptr bs]) Tryd.func49 (by kernel_rfl) ?_
  obtain ⟨hp, hbx, hbs⟩ := hJ 0 w h0
  have hn1 := hp.shown.1
  have hle := hok.le
  refine ld _ hbx ?_
  refine fldA ?_
  refine ld (.slice h.A1 h.n1 h.c1) (hp.blk.cell rfl) ?_
  refine len ?_
  refine loop_rule (fun k : Nat => [(12, .int .i64 k)]) (fun k w' => k ≤ h.n1 ∧ J k w') (fun k _ => h.n1 - k) 0 ⟨rfl, trivial⟩ ⟨by omega, h0⟩ rfl ?_
  rintro G k w1 ⟨hk, hj⟩
  obtain ⟨hp1, hbx1, hbs1⟩ := hJ k w1 hj
  refine cD (fun hlt => ?_) (fun hge => ?_)
  · have hlt : k < h.n1 := by omega
    obtain ⟨b1, o1, cs, x, hA, hx, hdx, hbB, hc, hr⟩ := hp1.shown.at_ hlt
    obtain ⟨rfl, -⟩ := tNat_rep hr
    have hx12 := hok.lt x (List.mem_of_getElem? hx)
    rw [hA]
    refine idx k rfl hlt ?_
    refine ld _ (hc 0 _ rfl) ?_
    refine ld _ hbs1 ?_
    refine andV (fun T hT => ?_)
    have hTn : psep x S = true ↔ T ≠ 0 ∧ T ≠ S := by unfold psep; rw [← hT]; simp
    refine cN (fun h1 => ?_) (fun h1 => ?_)
    · refine ld _ hbs1 ?_
      refine cN (fun h2 => ?_) (fun h2 => ?_)
      · refine yield_of (hstep k w1 x hj hx (hTn.2 ⟨by omega, by omega⟩) T hT) ?_
        rintro v w2 (⟨rfl, hj2⟩ | ⟨rfl, hj2⟩)
        · refine arI (by omega) ?_
          exact next (k + 1) ⟨rfl, trivial⟩ ⟨by omega, hj2⟩ (by omega)
        · exact ret0 (.inr hj2)
      · have : psep x S = false := by
          cases he : psep x S with
          | false => rfl
          | true => exact absurd (by omega) (hTn.1 he).2
        refine arI (by omega) ?_
        exact next (k + 1) ⟨rfl, trivial⟩ ⟨by omega, hskip k w1 x hj hx this⟩ (by omega)
    · have : psep x S = false := by
        cases he : psep x S with
        | false => rfl
        | true => exact absurd (by omega) (hTn.1 he).1
      refine arI (by omega) ?_
      exact next (k + 1) ⟨rfl, trivial⟩ ⟨by omega, hskip k w1 x hj hx this⟩ (by omega)
  · obtain rfl : k = h.n1 := by omega
    rw [hn1] at hj
    exact ret0 (.inl hj)

theorem c_separating {b S : Nat} : CallZ Tryd.prog 43 #[ptr b, .int .i64 (S : Int)] w (fun v w' => ∃ b1 b2, v = .func (.func 49) #[] #[ptr b1, ptr b2] ∧ Ext w w' ∧ w'.cell? (ad b1 0) = some (ptr b) ∧ w'.cell? (ad b2 0) = some (.int .i64 (S : Int)) ∧ w.heap.size ≤ b1 ∧ w.heap.size ≤ b2) := by
  refine fn_rule (args := [ptr b, .int .i64 (S : Int)]) Tryd.func43 (by kernel_rfl) ?_
  refine box (fun b1 w1 h1 => ?_)
  refine box (fun b2 w2 h2 => ?_)
  have hs := h1.size
  refine ret1 (.func (.func 49) #[] #[ptr b1, ptr b2]) rfl ⟨b1, b2, rfl, h1.ext.trans h2.ext, (h1.blk.ext h2.ext).cell rfl, h2.blk.cell rfl, by rw [h1.at_]; omega, by rw [h2.at_]; omega⟩
end
end Go.Proofs.YtpmmhcgghldaaaaDoor
