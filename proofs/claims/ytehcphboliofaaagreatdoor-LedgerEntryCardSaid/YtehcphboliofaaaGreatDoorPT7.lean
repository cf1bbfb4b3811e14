/- Parts of the proof: Aa Ab B1 B2 B3 B4 B5. -/
import Derived.Test.YtehcphboliofaaaGreatDoorPT6
import Derived.Test.YtehcphboliofaaaGreatDoorPT3
import Derived.ProofKit
import Derived.OpenShut
import Derived.LaidMore
import Derived.Deep.DeepHandedRow
import Derived.Test.YtehcphboliofaaaGreatDoorPT4

/- Made by gen_XA10.py. Contracts: layer 19's reference. -/
namespace Go.Proofs.YtehcphboliofaaaGreatDoor
open Go Go.RowKit

section
variable {D : Nat → Prop} {w : World}
theorem sharesQ_all {a b : Q} : sharesQ a b = true ↔ qValid a = true ∧ qValid b = true ∧ 0 ≤ a.n ∧ a.n * b.d ≤ b.n * a.d ∧ b.n ≤ b.d := by
  rw [sharesQ_iff, shareQ_iff, shareQ_iff]
  refine ⟨fun ⟨⟨h1, h2, h3⟩, ⟨h4, h5, h6⟩, h7⟩ => ⟨h1, h4, h2, h7, h6⟩, fun ⟨h1, h4, h2, h7, h6⟩ => ?_⟩
  have d1 := (qValid_iff.1 h1).1
  have d2 := (qValid_iff.1 h4).1
  have hb : 0 ≤ b.n := by
    have : 0 ≤ b.n * a.d := Int.le_trans (Int.mul_nonneg h2 (by omega)) h7
    exact Int.not_lt.1 fun hn => by have := Int.mul_neg_of_neg_of_pos hn (show 0 < a.d by omega); omega
  have ha : a.n ≤ a.d := Int.not_lt.1 fun hn => by
    have e1 : b.n * a.d ≤ b.d * a.d := Int.mul_le_mul_of_nonneg_right h6 (by omega)
    have e2 : a.d * b.d < a.n * b.d := Int.mul_lt_mul_of_pos_right hn (by omega)
    rw [Int.mul_comm b.d] at e1
    omega
  exact ⟨⟨h1, h2, ha⟩, ⟨h4, hb, h6⟩, h7⟩
def fewD (d : Dist) : Bool := decide (d.reaches.length ≤ 100) && (decide (d.farms.length ≤ 700) && (decide (d.crops.length ≤ 100) && (decide (d.rights.length ≤ 300) && (decide (d.duties.length ≤ 300) && decide (d.wells.length ≤ 100)))))
end
end Go.Proofs.YtehcphboliofaaaGreatDoor

/- Closing: what a district that is handed in reads as. -/
namespace Go.Proofs.YtehcphboliofaaaGreatDoor
open Go Go.RowKit Go.ChangeShapes Go.WideShapes Go.ChangeAt

theorem own : ownKnob Tryz.prog.godebug = none := by kernel_rfl
theorem laidOut : laidOutB Tryz.prog = true := by kernel_rfl
instance nz1 : NeZero 1 := ⟨by decide⟩
instance nz8 : NeZero 8 := ⟨by decide⟩
instance nz16 : NeZero 16 := ⟨by decide⟩
instance nz24 : NeZero 24 := ⟨by decide⟩
instance nz32 : NeZero 32 := ⟨by decide⟩
instance nz40 : NeZero 40 := ⟨by decide⟩
instance nz48 : NeZero 48 := ⟨by decide⟩
instance nz56 : NeZero 56 := ⟨by decide⟩
instance nz88 : NeZero 88 := ⟨by decide⟩
instance nz104 : NeZero 104 := ⟨by decide⟩

section
variable {P : Program} {α β : Type} {a : Ty α} {b : Ty β}
theorem rdAt {α : Type} (P : Program) (t : TypeId) (a : Ty α) [h : Rd P t a] (n : Nat) : RdN P n t a := h.h n
def tStr : Ty ByteArray := tFl 1 (fun s => [.string s]) fun _ => rfl
theorem rd_str {t : TypeId} (h : P.underlying t = some .string) : Rd P t tStr := ⟨fun n => ⟨fun {H enc W cs x} hx _ => by
  obtain ⟨s, hs, _⟩ := DataW.trod_string h hx
  exact ⟨s, hs⟩⟩⟩
theorem Rd.of {t : TypeId} (f : α → β) (h : Rd P t a) (hf : ∀ W cs y, a.rep AnyB W cs y → b.rep AnyB W cs (f y)) : Rd P t b := ⟨fun n => ⟨fun {H enc W cs x} hx hw => by
  obtain ⟨y, hy⟩ := (h.h n).h hx hw
  exact ⟨f y, hf W cs y hy⟩⟩⟩
theorem rd_arr2 {t e : TypeId} (hu : P.underlying t = some (.array 2 e)) (hc : P.cellsOf t = a.sz + a.sz) (he : P.cellsOf e = a.sz) (hr : Rd P e a) : Rd P t (tPair a a) := ⟨fun n => ⟨fun {H enc W cs x} hx hw => by
  obtain ⟨xs, m, rfl, rfl, hl, hxl, hi⟩ := DataW.trod_array hu hx
  dsimp only at hw
  rw [DataW.weights, hu] at hw
  dsimp only at hw
  have el : ∀ i, i < 2 → ∃ y, a.rep AnyB W ((cs.drop (i * P.cellsOf e)).take (P.cellsOf e)) y := fun i h2 => by
    have h1 := hi i h2
    have h3 : i < xs.length := by omega
    rw [List.getElem?_eq_getElem h3] at h1
    exact (hr.h m).h h1 (weightsAll_mem (List.mem_map_of_mem (List.getElem_mem h3)) hw)
  obtain ⟨y0, h0⟩ := el 0 (by omega)
  obtain ⟨y1, h1⟩ := el 1 (by omega)
  rw [he] at h0 h1
  rw [hc] at hl
  refine ⟨(y0, y1), _, _, ?_, h0, h1⟩
  rw [Nat.zero_mul, List.drop_zero, Nat.one_mul, List.take_of_length_le (l := cs.drop a.sz) (by rw [List.length_drop]; omega), List.take_append_drop]⟩⟩
end

theorem rd_range : Rd Tryz.prog 194 (tPair tInt tInt) := Rd.struct Tryz.underlying194 (by kernel_rfl) fun n => .cons (rdAt Tryz.prog 3 tInt n) rfl (.one (rdAt Tryz.prog 3 tInt n) rfl)
theorem rd_ratio : Rd Tryz.prog 196 (tPair tInt tInt) := Rd.struct Tryz.underlying196 (by kernel_rfl) fun n => .cons (rdAt Tryz.prog 3 tInt n) rfl (.one (rdAt Tryz.prog 3 tInt n) rfl)
theorem rd_tank : Rd Tryz.prog 56 (tPair tInt tInt) := Rd.struct Tryz.underlying56 (by kernel_rfl) fun n => .cons (rdAt Tryz.prog 3 tInt n) rfl (.one (rdAt Tryz.prog 3 tInt n) rfl)
theorem rd_ratios2 : Rd Tryz.prog 197 (tPair (tPair tInt tInt) (tPair tInt tInt)) := rd_arr2 (e := 196) Tryz.underlying197 (by kernel_rfl) (by kernel_rfl) rd_ratio
theorem rd_name : Rd Tryz.prog 9 tStr := rd_str Tryz.underlying9
theorem rd_reach : Rd Tryz.prog 199 tReach := by
  refine Rd.of (fun y : ByteArray × Int × Int × Int × Int × Int × (Int × Int) × (Int × Int) × (Int × Int) => (⟨y.1, y.2.1, y.2.2.1, y.2.2.2.1, y.2.2.2.2.1, y.2.2.2.2.2.1, ⟨y.2.2.2.2.2.2.1.1, y.2.2.2.2.2.2.1.2⟩, ⟨y.2.2.2.2.2.2.2.1.1, y.2.2.2.2.2.2.2.1.2⟩, ⟨y.2.2.2.2.2.2.2.2.1, y.2.2.2.2.2.2.2.2.2⟩⟩ : Reach))
    (Rd.struct Tryz.underlying199 (by kernel_rfl) fun n => .cons (rd_name.h n) rfl (.cons (rdAt Tryz.prog 3 tInt n) rfl (.cons (rdAt Tryz.prog 3 tInt n) rfl (.cons (rdAt Tryz.prog 3 tInt n) rfl (.cons (rdAt Tryz.prog 3 tInt n) rfl (.cons (rdAt Tryz.prog 3 tInt n) rfl (.cons (rd_range.h n) rfl (.one (rd_ratios2.h n) rfl)))))))) ?_
  rintro W cs ⟨s, u, d, c, k, i, ⟨e1, e2⟩, ⟨f1, f2⟩, ⟨g1, g2⟩⟩ ⟨_, _, rfl, rfl, _, _, rfl, ⟨rfl, -⟩, _, _, rfl, ⟨rfl, -⟩, _, _, rfl, ⟨rfl, -⟩, _, _, rfl, ⟨rfl, -⟩, _, _, rfl, ⟨rfl, -⟩, _, _, rfl, ⟨_, _, rfl, ⟨rfl, -⟩, ⟨rfl, -⟩⟩, _, _, rfl, ⟨_, _, rfl, ⟨rfl, -⟩, ⟨rfl, -⟩⟩, ⟨_, _, rfl, ⟨rfl, -⟩, ⟨rfl, -⟩⟩⟩
  rfl
theorem rd_farm : Rd Tryz.prog 209 tFarm := by
  refine Rd.of (fun y : ByteArray × Int × Int × Int => (⟨y.1, y.2.1, y.2.2.1, y.2.2.2⟩ : Farm))
    (Rd.struct Tryz.underlying209 (by kernel_rfl) fun n => .cons (rd_name.h n) rfl (.cons (rdAt Tryz.prog 3 tInt n) rfl (.cons (rdAt Tryz.prog 3 tInt n) rfl (.one (rdAt Tryz.prog 3 tInt n) rfl)))) ?_
  rintro W cs ⟨s, u, d, c⟩ ⟨_, _, rfl, rfl, _, _, rfl, ⟨rfl, -⟩, _, _, rfl, ⟨rfl, -⟩, ⟨rfl, -⟩⟩
  rfl
theorem rd_crop : Rd Tryz.prog 263 tCrop := by
  refine Rd.of (fun y : ByteArray × Int => (⟨y.1, y.2⟩ : Crop))
    (Rd.struct Tryz.underlying263 (by kernel_rfl) fun n => .cons (rd_name.h n) rfl (.one (rdAt Tryz.prog 3 tInt n) rfl)) ?_
  rintro W cs ⟨s, u⟩ ⟨_, _, rfl, rfl, ⟨rfl, -⟩⟩
  rfl
theorem rd_duty : Rd Tryz.prog 269 tDuty := by
  refine Rd.of (fun y : ByteArray × Int × Int × Int => (⟨y.1, y.2.1, y.2.2.1, y.2.2.2⟩ : Duty))
    (Rd.struct Tryz.underlying269 (by kernel_rfl) fun n => .cons (rd_name.h n) rfl (.cons (rdAt Tryz.prog 3 tInt n) rfl (.cons (rdAt Tryz.prog 3 tInt n) rfl (.one (rdAt Tryz.prog 3 tInt n) rfl)))) ?_
  rintro W cs ⟨s, u, d, c⟩ ⟨_, _, rfl, rfl, _, _, rfl, ⟨rfl, -⟩, _, _, rfl, ⟨rfl, -⟩, ⟨rfl, -⟩⟩
  rfl
theorem rd_right : Rd Tryz.prog 266 tRight := by
  refine Rd.of (fun y : ByteArray × Int × Int × Int × Int × Int × Int × Int × Int × Int => (⟨y.1, y.2.1, y.2.2.1, y.2.2.2.1, y.2.2.2.2.1, y.2.2.2.2.2.1, y.2.2.2.2.2.2.1, y.2.2.2.2.2.2.2.1, y.2.2.2.2.2.2.2.2.1, y.2.2.2.2.2.2.2.2.2⟩ : Right))
    (Rd.struct Tryz.underlying266 (by kernel_rfl) fun n => .cons (rd_name.h n) rfl (.cons (rdAt Tryz.prog 3 tInt n) rfl (.cons (rdAt Tryz.prog 3 tInt n) rfl (.cons (rdAt Tryz.prog 3 tInt n) rfl (.cons (rdAt Tryz.prog 3 tInt n) rfl (.cons (rdAt Tryz.prog 3 tInt n) rfl (.cons (rdAt Tryz.prog 3 tInt n) rfl (.cons (rdAt Tryz.prog 3 tInt n) rfl (.cons (rdAt Tryz.prog 3 tInt n) rfl (.one (rdAt Tryz.prog 3 tInt n) rfl)))))))))) ?_
  rintro W cs ⟨s, a, b, c, d, e, f, g, h, i⟩ ⟨_, _, rfl, rfl, _, _, rfl, ⟨rfl, -⟩, _, _, rfl, ⟨rfl, -⟩, _, _, rfl, ⟨rfl, -⟩, _, _, rfl, ⟨rfl, -⟩, _, _, rfl, ⟨rfl, -⟩, _, _, rfl, ⟨rfl, -⟩, _, _, rfl, ⟨rfl, -⟩, _, _, rfl, ⟨rfl, -⟩, ⟨rfl, -⟩⟩
  rfl
theorem rd_well : Rd Tryz.prog 350 tWell := Rd.map (g := fun y : Int × Int × Int × List Int => (⟨y.1, y.2.1, y.2.2.1, y.2.2.2⟩ : Well))
    (Rd.struct Tryz.underlying350 (by kernel_rfl) fun n => .cons (rdAt Tryz.prog 3 tInt n) rfl (.cons (rdAt Tryz.prog 3 tInt n) rfl (.cons (rdAt Tryz.prog 3 tInt n) rfl (.one (rdAt Tryz.prog 65 (tSl tInt) n) rfl)))) fun _ => rfl
instance : Rd Tryz.prog 199 tReach := rd_reach
instance : Rd Tryz.prog 209 tFarm := rd_farm
instance : Rd Tryz.prog 263 tCrop := rd_crop
instance : Rd Tryz.prog 266 tRight := rd_right
instance : Rd Tryz.prog 269 tDuty := rd_duty
instance : Rd Tryz.prog 350 tWell := rd_well
theorem rd_reaches : Rd Tryz.prog 57 (tSl tReach) := inferInstance
theorem rd_farms : Rd Tryz.prog 58 (tSl tFarm) := inferInstance
theorem rd_crops : Rd Tryz.prog 59 (tSl tCrop) := inferInstance
theorem rd_rights : Rd Tryz.prog 60 (tSl tRight) := inferInstance
theorem rd_duties : Rd Tryz.prog 61 (tSl tDuty) := inferInstance
theorem rd_wells : Rd Tryz.prog 62 (tSl tWell) := inferInstance
theorem rd_dist : Rd Tryz.prog 64 tDist := by
  refine Rd.of (fun y : ByteArray × Int × (Int × Int) × List Reach × List Farm × List Crop × List Right × List Duty × List Well => (⟨y.1, y.2.1, y.2.2.1.1, y.2.2.1.2, y.2.2.2.1, y.2.2.2.2.1, y.2.2.2.2.2.1, y.2.2.2.2.2.2.1, y.2.2.2.2.2.2.2.1, y.2.2.2.2.2.2.2.2⟩ : Dist))
    (Rd.struct Tryz.underlying64 (by kernel_rfl) fun n => .cons (rd_name.h n) rfl (.cons (rdAt Tryz.prog 3 tInt n) rfl (.cons (rd_tank.h n) rfl (.cons (rd_reaches.h n) rfl (.cons (rd_farms.h n) rfl (.cons (rd_crops.h n) rfl (.cons (rd_rights.h n) rfl (.cons (rd_duties.h n) rfl (.one (rd_wells.h n) rfl))))))))) ?_
  rintro W cs ⟨s, h, ⟨c, t⟩, l1, l2, l3, l4, l5, l6⟩ ⟨_, _, rfl, rfl, _, _, rfl, ⟨rfl, -⟩, _, _, rfl, ⟨_, _, rfl, ⟨rfl, -⟩, ⟨rfl, -⟩⟩, _, _, rfl, ⟨A1, n1, c1, rfl, h1, -⟩, _, _, rfl, ⟨A2, n2, c2, rfl, h2, -⟩, _, _, rfl, ⟨A3, n3, c3, rfl, h3, -⟩, _, _, rfl, ⟨A4, n4, c4, rfl, h4, -⟩, _, _, rfl, ⟨A5, n5, c5, rfl, h5, -⟩, A6, n6, c6, rfl, h6, -⟩
  exact DiR.of_ ⟨A1, n1, c1, A2, n2, c2, A3, n3, c3, A4, n4, c4, A5, n5, c5, A6, n6, c6, rfl, h1, h2, h3, h4, h5, h6⟩
end Go.Proofs.YtehcphboliofaaaGreatDoor

/- Layer 23: runs; contracts of the small functions of the program. -/
namespace Go.Proofs.YtehcphboliofaaaGreatDoor
open Go Go.RowKit

abbrev tInts : Ty (List Int) := tSl tInt
structure Run where
  inflow : List Int
  spill : List Int
  inn : List (List Int)
  evap : List (List Int)
  seep : List (List Int)
  taken : List (List Int)
  tail : List (List Int)
/-- A run's cells. -/
structure RuR (D : Nat → Prop) (w : World) (cs : List Value) (x : Run) : Prop where
  of_ ::
  ex : ∃ A1 n1 c1 A2 n2 c2 A3 n3 c3 A4 n4 c4 A5 n5 c5 A6 n6 c6 A7 n7 c7, cs = [.slice A1 n1 c1, .slice A2 n2 c2, .slice A3 n3 c3, .slice A4 n4 c4, .slice A5 n5 c5, .slice A6 n6 c6, .slice A7 n7 c7] ∧
    SlR tInt D w A1 n1 x.inflow ∧ SlR tInt D w A2 n2 x.spill ∧ SlR tInts D w A3 n3 x.inn ∧ SlR tInts D w A4 n4 x.evap ∧ SlR tInts D w A5 n5 x.seep ∧ SlR tInts D w A6 n6 x.taken ∧ SlR tInts D w A7 n7 x.tail ∧ n1 ≤ c1 ∧ n2 ≤ c2
theorem RuR.keep {D : Nat → Prop} {w w' : World} {cs : List Value} {d : Run} (hk : ∀ b, b < w.heap.size → D b → w'.heap[b]? = w.heap[b]?) (h : RuR D w cs d) : RuR D w' cs d := by
  obtain ⟨A1, n1, c1, A2, n2, c2, A3, n3, c3, A4, n4, c4, A5, n5, c5, A6, n6, c6, A7, n7, c7, h, h1, h2, h3, h4, h5, h6, h7, h8⟩ := h.ex
  exact ⟨A1, n1, c1, A2, n2, c2, A3, n3, c3, A4, n4, c4, A5, n5, c5, A6, n6, c6, A7, n7, c7, h, h1.keep hk, h2.keep hk, h3.keep hk, h4.keep hk, h5.keep hk, h6.keep hk, h7.keep hk, h8⟩
theorem RuR.more {D D' : Nat → Prop} {w : World} {cs : List Value} {d : Run} (hk : ∀ b, b < w.heap.size → D b → D' b) (h : RuR D w cs d) : RuR D' w cs d := by
  obtain ⟨A1, n1, c1, A2, n2, c2, A3, n3, c3, A4, n4, c4, A5, n5, c5, A6, n6, c6, A7, n7, c7, h, h1, h2, h3, h4, h5, h6, h7, h8⟩ := h.ex
  exact ⟨A1, n1, c1, A2, n2, c2, A3, n3, c3, A4, n4, c4, A5, n5, c5, A6, n6, c6, A7, n7, c7, h, h1.more (by decide) hk, h2.more (by decide) hk, h3.more (by decide) hk, h4.more (by decide) hk, h5.more (by decide) hk, h6.more (by decide) hk, h7.more (by decide) hk, h8⟩
theorem RuR.kept {D D' : Nat → Prop} {w w' : World} {cs : List Value} {d : Run} (h : RuR D w cs d) (k : Kept D' w w') (hd : ∀ b, b < w.heap.size → D b → D' b) : RuR D w' cs d := h.keep fun b hb hD => k.blk b hb (hd b hb hD)
theorem RuR.ext {D : Nat → Prop} {w w' : World} {cs : List Value} {d : Run} (h : RuR D w cs d) (k : Ext w w') : RuR D w' cs d := h.kept k fun _ _ _ => trivial
def tRun : Ty Run where
  sz := 7
  rep := RuR
  len h := by obtain ⟨A1, n1, c1, A2, n2, c2, A3, n3, c3, A4, n4, c4, A5, n5, c5, A6, n6, c6, A7, n7, c7, rfl, -⟩ := h.ex; rfl
  keep hk h := h.keep hk
  more hB h := h.more hB

/-! ### what is right -/
def numB (h : Int) (l : List Int) : Bool := decide ((l.length : Int) = h) && l.all fun x => inI x 0 1073741824
def tabB (m : Nat) (h : Int) (l : List (List Int)) : Bool := decide (l.length = m) && l.all (numB h)
def admB (r : Reach) (v e s : Int) : Bool :=
  if v = 0 then decide (e = 0) && decide (s = 0)
  else !(decide (e > r.evap.hi) || decide (s > upI (v * r.s1.n) r.s1.d) || decide (e + s < (lostR r v).lo) || decide (e + s > (lostR r v).hi)) && (decide (e + s = v) || (decide (e ≥ r.evap.lo) && decide (s ≥ v * r.s0.n / r.s0.d)))
theorem admB_iff {r : Reach} {v e s : Int} (hv : v ≠ 0) : admB r v e s = true ↔ e ≤ r.evap.hi ∧ s ≤ upI (v * r.s1.n) r.s1.d ∧ (lostR r v).lo ≤ e + s ∧ e + s ≤ (lostR r v).hi ∧ (e + s = v ∨ (r.evap.lo ≤ e ∧ v * r.s0.n / r.s0.d ≤ s)) := by
  unfold admB
  rw [if_neg hv]
  simp only [Bool.and_eq_true, Bool.not_eq_true', Bool.or_eq_false_iff, decide_eq_false_iff_not, Bool.or_eq_true, decide_eq_true_eq]
  constructor
  · rintro ⟨⟨⟨⟨h1, h2⟩, h3⟩, h4⟩, h5⟩
    exact ⟨by omega, by omega, by omega, by omega, h5⟩
  · rintro ⟨h1, h2, h3, h4, h5⟩
    exact ⟨⟨⟨⟨by omega, by omega⟩, by omega⟩, by omega⟩, h5⟩
theorem up_lt {n d s : Int} (hd : 0 < d) : upI n d < s ↔ n ≤ (s - 1) * d := by
  unfold upI
  rw [Int.ediv_lt_iff_lt_mul hd]
  rw [Int.sub_mul]
  omega
theorem down_le {n d s : Int} (hd : 0 < d) : n / d ≤ s ↔ n < (s + 1) * d := by
  rw [← Int.lt_add_one_iff, Int.ediv_lt_iff_lt_mul hd]

section
variable {D : Nat → Prop} {w : World} {A : Option Addr} {n c : Nat}
theorem sum_drop {l : List Int} {k : Nat} {x : Int} (h : l.drop k = x :: l.drop (k + 1)) : (l.drop k).sum = x + (l.drop (k + 1)).sum := by rw [h, List.sum_cons]
theorem c_total {xs : List Int} (h : SlR tInt D w A n xs) (hb : ∀ x ∈ xs, 0 ≤ x ∧ x ≤ 1073741824) (hn : n ≤ 8192) : CallZ Tryz.prog 131 #[.slice A n c] w (fun v w' => v = iv xs.sum ∧ w' = w) := by
  refine fn_rule (args := [.slice A n c]) Tryz.func131 (by kernel_rfl) ?_
  refine len ?_
  refine loop2 (fun (k : Nat) (s : Int) => [(7, iv (k : Int)), (2, iv s)]) (fun k s w' => k ≤ n ∧ w' = w ∧ xs.sum = s + (xs.drop k).sum ∧ 0 ≤ s ∧ s ≤ k * 1073741824) (fun k _ _ => n - k) 0 0 ⟨rfl, rfl, trivial⟩ ⟨by omega, rfl, by simp, by omega, by omega⟩ rfl ?_
  rintro G k s w' ⟨hk, rfl, he, h0, h1⟩
  refine cD (fun hlt => ?_) (fun hge => ?_)
  · obtain ⟨b, o, cs, x, rfl, hx, hdx, -, hc, rfl, -⟩ := h.at_ (show k < n by omega)
    have hxb := hb x (List.mem_of_getElem? hx)
    refine idx k rfl (by omega) ?_
    refine ld (iv x) (hc 0 _ rfl) ?_
    refine arI (by omega) ?_
    refine arI (by have := h.le; omega) ?_
    refine next2 (k + 1) (s + x) ⟨by rw [Int.natCast_add]; rfl, rfl, trivial⟩ ⟨by omega, rfl, ?_, by omega, by omega⟩ (by omega)
    rw [he, sum_drop hdx]; omega
  · refine ret1 (iv s) rfl ⟨?_, rfl⟩
    rw [he, drop_end (by have := h.len; omega)]; simp
theorem c_formed11 {x : Int} : CallZ Tryz.prog 195 #[iv x] w (fun v w' => v = .bool (!inI x 0 1073741824) ∧ w' = w) := by
  refine fn_rule (args := [iv x]) Tryz.func195 (by kernel_rfl) ?_
  refine cD (fun g1 => ?_) (fun g1 => ?_)
  · exact ret1 (.bool true) rfl ⟨by rw [inI_not.2 (by omega)]; rfl, rfl⟩
  refine cD (fun g2 => ?_) (fun g2 => ?_)
  · exact ret1 (.bool true) rfl ⟨by rw [inI_not.2 (by omega)]; rfl, rfl⟩
  · exact ret1 (.bool false) rfl ⟨by rw [inI_iff.2 (by omega)]; rfl, rfl⟩
theorem c_indL {xs : List Int} (h : SlR tInt D w A n xs) : CallZ Tryz.prog 233 #[.slice A n c, .func (.func 195) #[] #[]] w (fun v w' => (∃ i : Int, v = iv i ∧ (0 ≤ i ↔ (xs.all fun x => inI x 0 1073741824) = false)) ∧ w' = w) := by
  refine fn_rule (args := [.slice A n c, .func (.func 195) #[] #[]]) Tryz.func233 (by kernel_rfl) ?_
  refine len ?_
  refine loop_rule (fun k : Nat => [(8, iv (k : Int))]) (fun k w' => k ≤ n ∧ w' = w ∧ (xs.all fun x => inI x 0 1073741824) = ((xs.drop k).all fun x => inI x 0 1073741824)) (fun k _ => n - k) 0 ⟨rfl, trivial⟩ ⟨by omega, rfl, rfl⟩ rfl ?_
  rintro G k w' ⟨hk, rfl, he⟩
  refine cD (fun hlt => ?_) (fun hge => ?_)
  · obtain ⟨b, o, cs, x, rfl, hx, hdx, -, hc, rfl, -⟩ := h.at_ (show k < n by omega)
    rw [hdx, List.all_cons] at he
    refine idx k rfl (by omega) ?_
    refine ld (iv x) (hc 0 _ rfl) ?_
    refine callB (c_formed11 (x := x)) (fun g => ?_) (fun g => ?_)
    · refine ret1 (iv (k : Int)) rfl ⟨⟨k, rfl, ?_⟩, rfl⟩
      simp only [Bool.not_eq_true'] at g
      rw [he, g]; simp
    · simp only [Bool.not_eq_false'] at g
      refine arI (by have := h.le; omega) ?_
      refine next (k + 1) ⟨by rw [Int.natCast_add]; rfl, trivial⟩ ⟨by omega, rfl, ?_⟩ (by omega)
      rw [he, g]; rfl
  · refine ret1 (iv (-1)) rfl ⟨⟨-1, rfl, ?_⟩, rfl⟩
    rw [he, drop_end (by have := h.len; omega)]; simp
theorem c_contL {xs : List Int} (h : SlR tInt D w A n xs) : CallZ Tryz.prog 194 #[.slice A n c, .func (.func 195) #[] #[]] w (fun v w' => v = .bool (!(xs.all fun x => inI x 0 1073741824)) ∧ w' = w) := by
  refine fn_rule (args := [.slice A n c, .func (.func 195) #[] #[]]) Tryz.func194 (by kernel_rfl) ?_
  refine call_of (c_indL h) ?_
  rintro _ _ ⟨⟨i, rfl, hi⟩, rfl⟩
  refine cD (fun g => ?_) (fun g => ?_)
  · exact ret1 (.bool true) rfl ⟨by rw [hi.1 g]; rfl, rfl⟩
  · exact ret1 (.bool false) rfl ⟨by rw [show (xs.all fun x => inI x 0 1073741824) = true from by cases ha : (xs.all fun x => inI x 0 1073741824) with | true => rfl | false => exact absurd (hi.2 ha) g]; rfl, rfl⟩
theorem c_formed1 {xs : List Int} {h : Int} {g : Nat} (hs : SlR tInt D w A n xs) (hg : Blk w g 3 [iv h]) : CallZ Tryz.prog 193 #[.slice A n c, ptr g] w (fun v w' => v = .bool (!numB h xs) ∧ w' = w) := by
  refine fn_rule (args := [.slice A n c, ptr g]) Tryz.func193 (by kernel_rfl) ?_
  have hl := hs.len
  refine len ?_
  refine ld (iv h) (hg.cell rfl) ?_
  refine cN (fun g1 => ?_) (fun g1 => ?_)
  · exact ret1 (.bool true) rfl ⟨by unfold numB; rw [hl, decide_eq_false g1]; rfl, rfl⟩
  refine callB (c_contL hs) (fun g2 => ?_) (fun g2 => ?_)
  · exact ret1 (.bool true) rfl ⟨by unfold numB; rw [hl, decide_eq_true g1, Bool.true_and, g2], rfl⟩
  · exact ret1 (.bool false) rfl ⟨by unfold numB; rw [hl, decide_eq_true g1, Bool.true_and, g2], rfl⟩
theorem c_indLL {ls : List (List Int)} {h : Int} {g : Nat} (hs : SlR tInts D w A n ls) (hg : Blk w g 3 [iv h]) : CallZ Tryz.prog 232 #[.slice A n c, .func (.func 193) #[] #[ptr g]] w (fun v w' => (∃ i : Int, v = iv i ∧ (0 ≤ i ↔ ls.all (numB h) = false)) ∧ w' = w) := by
  refine fn_rule (args := [.slice A n c, .func (.func 193) #[] #[ptr g]]) Tryz.func232 (by kernel_rfl) ?_
  refine len ?_
  refine loop_rule (fun k : Nat => [(8, iv (k : Int))]) (fun k w' => k ≤ n ∧ w' = w ∧ ls.all (numB h) = (ls.drop k).all (numB h)) (fun k _ => n - k) 0 ⟨rfl, trivial⟩ ⟨by omega, rfl, rfl⟩ rfl ?_
  rintro G k w' ⟨hk, rfl, he⟩
  refine cD (fun hlt => ?_) (fun hge => ?_)
  · obtain ⟨b, o, cs, x, rfl, hx, hdx, -, hc, A2, n2, c2, rfl, hx2, -⟩ := hs.at_ (show k < n by omega)
    rw [hdx, List.all_cons] at he
    refine idx k rfl (by omega) ?_
    refine ld (.slice A2 n2 c2) (hc 0 _ rfl) ?_
    refine callB (c_formed1 hx2 hg) (fun q => ?_) (fun q => ?_)
    · refine ret1 (iv (k : Int)) rfl ⟨⟨k, rfl, ?_⟩, rfl⟩
      simp only [Bool.not_eq_true'] at q
      rw [he, q]; simp
    · simp only [Bool.not_eq_false'] at q
      refine arI (by have := hs.le; omega) ?_
      refine next (k + 1) ⟨by rw [Int.natCast_add]; rfl, trivial⟩ ⟨by omega, rfl, ?_⟩ (by omega)
      rw [he, q]; rfl
  · refine ret1 (iv (-1)) rfl ⟨⟨-1, rfl, ?_⟩, rfl⟩
    rw [he, drop_end (by have := hs.len; omega)]; simp
theorem c_contLL {ls : List (List Int)} {h : Int} {g : Nat} (hs : SlR tInts D w A n ls) (hg : Blk w g 3 [iv h]) : CallZ Tryz.prog 192 #[.slice A n c, .func (.func 193) #[] #[ptr g]] w (fun v w' => v = .bool (!ls.all (numB h)) ∧ w' = w) := by
  refine fn_rule (args := [.slice A n c, .func (.func 193) #[] #[ptr g]]) Tryz.func192 (by kernel_rfl) ?_
  refine call_of (c_indLL hs hg) ?_
  rintro _ _ ⟨⟨i, rfl, hi⟩, rfl⟩
  refine cD (fun q => ?_) (fun q => ?_)
  · exact ret1 (.bool true) rfl ⟨by rw [hi.1 q]; rfl, rfl⟩
  · exact ret1 (.bool false) rfl ⟨by rw [show ls.all (numB h) = true from by cases ha : ls.all (numB h) with | true => rfl | false => exact absurd (hi.2 ha) q]; rfl, rfl⟩
theorem c_formed {ls : List (List Int)} {h : Int} (hs : SlR tInts D w A n ls) : CallZ Tryz.prog 129 #[iv h, .slice A n c] w (fun v w' => v = .bool (ls.all (numB h)) ∧ Ext w w') := by
  refine fn_rule (args := [iv h, .slice A n c]) Tryz.func129 (by kernel_rfl) ?_
  refine box (fun g w1 h1 => ?_)
  refine callB (c_contLL (hs.ext h1.ext) h1.blk) (fun q => ?_) (fun q => ?_)
  · exact ret1 (.bool false) rfl ⟨by simp only [Bool.not_eq_true'] at q; rw [q], h1.ext⟩
  · exact ret1 (.bool true) rfl ⟨by simp only [Bool.not_eq_false'] at q; rw [q], h1.ext⟩
end
end Go.Proofs.YtehcphboliofaaaGreatDoor

/- Layer 23: contracts of admissible. -/
namespace Go.Proofs.YtehcphboliofaaaGreatDoor
open Go Go.RowKit

section
variable {D : Nat → Prop} {w : World}
theorem c_adm {r : Reach} {v e s : Int} (hok : lossOk r = true) (hv : 0 ≤ v ∧ v ≤ 1073741824) (he : 0 ≤ e ∧ e ≤ 1073741824) (hs : 0 ≤ s ∧ s ≤ 1073741824) :
    CallZ Tryz.prog 130 #[r.v, iv v, iv e, iv s] w (fun u w' => u = .bool (admB r v e s) ∧ Ext w w') := by
  refine fn_rule (args := [.agg #[.string r.name, iv r.up, iv r.delay, iv r.cap, iv r.bank, iv r.siphon, iv r.evap.lo, iv r.evap.hi, iv r.s0.n, iv r.s0.d, iv r.s1.n, iv r.s1.d], iv v, iv e, iv s]) Tryz.func130 (by kernel_rfl) ?_
  obtain ⟨hev, hsh⟩ := lossOk_iff.1 hok
  obtain ⟨hs0, hs1, -⟩ := sharesQ_iff.1 hsh
  obtain ⟨q0, m0, m1⟩ := shareQ_iff.1 hs0
  obtain ⟨q1, m2, m3⟩ := shareQ_iff.1 hs1
  obtain ⟨d0, d1, -⟩ := qValid_iff.1 q0
  obtain ⟨d2, d3, -⟩ := qValid_iff.1 q1
  refine box (fun g w1 h1 => ?_)
  have bg := h1.blk
  have x1 := h1.ext
  refine cE (fun v0 => ?_) (fun v0 => ?_)
  · refine cE (fun e0 => ?_) (fun e0 => ?_)
    · refine cE (fun s0 => ?_) (fun s0 => ?_)
      · exact ret1 (.bool true) rfl ⟨by unfold admB; rw [if_pos v0, decide_eq_true e0, decide_eq_true s0]; rfl, x1⟩
      · exact ret1 (.bool false) rfl ⟨by unfold admB; rw [if_pos v0, decide_eq_false s0, Bool.and_false], x1⟩
    · exact ret1 (.bool false) rfl ⟨by unfold admB; rw [if_pos v0, decide_eq_false e0, Bool.false_and], x1⟩
  have iff := admB_iff (r := r) (e := e) (s := s) v0
  have bad : ∀ {w'}, Ext w1 w' → ¬ (admB r v e s = true) → Value.bool false = .bool (admB r v e s) ∧ Ext w w' := fun x h => ⟨by rw [Bool.eq_false_iff.2 h], x1.trans x⟩
  have good : ∀ {w'}, Ext w1 w' → admB r v e s = true → Value.bool true = .bool (admB r v e s) ∧ Ext w w' := fun x h => ⟨by rw [h], x1.trans x⟩
  refine ldA r.c (.blk bg) rfl ?_
  refine call_of (c_lLost (r := r) (v := v)) ?_
  rintro _ w2 ⟨rfl, x2⟩
  rw [lostL_ok (lErr_ok.2 ⟨hok, hv⟩)]
  obtain ⟨L1, L2, L3, L4⟩ := lost_le hok hv
  refine alloc (fun p w3 h3 => ?_)
  refine stA (vs := [iv (lostR r v).lo, iv (lostR r v).hi]) h3.blk rfl (Nat.le_of_ble_eq_true rfl) (by simp [Value.oneCell']) (fun w4 hb4 k4 z4 => ?_)
  have z3 := h3.at_
  have y1 := h1.at_
  have yl := bg.lt
  have y2 := x2.size
  have x4 : Ext w1 w4 := (x2.trans h3.ext).then k4 fun b hb _ e => by omega
  have bg4 := bg.ext x4
  refine arI (by omega) ?_
  refine fldA ?_
  refine ld (iv (lostR r v).lo) (hb4.cell rfl) ?_
  refine cD (fun g1 => ?_) (fun g1 => ?_)
  · exact ret1 (.bool false) rfl (bad x4 fun h => by have := iff.1 h; omega)
  refine fldA ?_
  refine ld (iv (lostR r v).hi) (hb4.cell rfl) ?_
  refine cD (fun g2 => ?_) (fun g2 => ?_)
  · exact ret1 (.bool false) rfl (bad x4 fun h => by have := iff.1 h; omega)
  refine fldA ?_
  refine fldA ?_
  refine ld (iv r.evap.hi) (bg4.cell rfl) ?_
  refine cD (fun g3 => ?_) (fun g3 => ?_)
  · exact ret1 (.bool false) rfl (bad x4 fun h => by have := iff.1 h; omega)
  have hc := CellsAt.blk bg4
  have w1l := x4.size
  refine drawP (.take 0 (.take 1 (.take 2 (.take 3 (.take 4 (.take 5 (.alt 6 (.eff 7 (.eff 8 (.eff 9 .done))) (.eff 7 (.eff 6 (.eff 8 (.eff 9 .done))))))))))) [] (fun u => Ext w4 u) mx (by kernel_rfl) (.refl _ _) ?_
  refine fldA ?_
  refine idxR 0 rfl (by decide) ?_
  refine ldAX [iv r.s0.n, iv r.s0.d] (hc.mid 8 2) rfl (.refl _ _) ?_
  refine fldA ?_
  refine idxR 1 rfl (by decide) ?_
  refine ldAX [iv r.s1.n, iv r.s1.d] (hc.mid 10 2) rfl (.refl _ _) ?_
  refine ⟨?xl, ?xr⟩
  case' xl =>
    refine alloc (fun a w5 h5 => ?_)
    refine strS h5.ext ?_
    refine alloc (fun b w6 h6 => ?_)
    have xe := h5.ext.trans h6.ext
    refine strS xe ?_
    have ba := h5.blk.ext h6.ext
    have bb := h6.blk
    have a5 := h5.at_
    have a6 := h6.at_
    have zs5 := h5.size
    have hab : a ≠ b := by omega
    have hw4a : w4.heap.size ≤ a := by omega
    have hw4b : w4.heap.size ≤ b := by omega
    clear h5 h6 a5 a6 zs5
  case' xr =>
    refine alloc (fun b w5 h5 => ?_)
    refine strS h5.ext ?_
    refine alloc (fun a w6 h6 => ?_)
    have xe := h5.ext.trans h6.ext
    refine strS xe ?_
    have bb := h5.blk.ext h6.ext
    have ba := h6.blk
    have a5 := h5.at_
    have a6 := h6.at_
    have zs5 := h5.size
    have hab : a ≠ b := by omega
    have hw4a : w4.heap.size ≤ a := by omega
    have hw4b : w4.heap.size ≤ b := by omega
    clear h5 h6 a5 a6 zs5
  all_goals
    refine stA (vs := [iv r.s0.n, iv r.s0.d]) ba rfl (Nat.le_of_ble_eq_true rfl) (by simp [Value.oneCell']) (fun w7 ba7 k7 z7 => ?_)
    have x7 : Ext w4 w7 := xe.then k7 fun i hi _ e => by omega
    refine strS x7 ?_
    have bb7 := bb.kept k7 (Ne.symm hab)
    refine stA (vs := [iv r.s1.n, iv r.s1.d]) bb7 rfl (Nat.le_of_ble_eq_true rfl) (by simp [Value.oneCell']) (fun w8 bb8 k8 z8 => ?_)
    have x8 : Ext w4 w8 := x7.then k8 fun i hi _ e => by omega
    refine strS x8 ?_
    have ba8 := ba7.kept k8 hab
    have xx := x4.trans x8
    refine arI (by omega) ?_
    refine fldA ?_
    refine ld (iv r.s1.d) (bb8.cell rfl) ?_
    have p1 := prod_lt (x := s - 1) (y := r.s1.d) (by omega) (by omega)
    have p2 := prod_lt (x := v) (y := r.s1.n) (by omega) (by omega)
    have p3 := prod_lt (x := v) (y := r.s0.n) (by omega) (by omega)
    refine arI (by omega) ?_
    refine fldA ?_
    refine ld (iv r.s1.n) (bb8.cell rfl) ?_
    refine arI (by omega) ?_
    have hup : upI (v * r.s1.n) r.s1.d < s ↔ v * r.s1.n ≤ (s - 1) * r.s1.d := up_lt (by omega)
    have hup0 : 0 ≤ upI (v * r.s1.n) r.s1.d := (share_le hs1 hv.1).2.2.2.2
    have hdn : v * r.s0.n / r.s0.d ≤ s ↔ v * r.s0.n < (s + 1) * r.s0.d := down_le (by omega)
    have iff' : (¬ (upI (v * r.s1.n) r.s1.d < s)) → (admB r v e s = true ↔ (e + s = v ∨ (r.evap.lo ≤ e ∧ v * r.s0.n < (s + 1) * r.s0.d))) := fun hn => by
      rw [iff, hdn]
      exact ⟨fun h => h.2.2.2.2, fun h => ⟨by omega, by omega, by omega, by omega, h⟩⟩
    have tail : (¬ (upI (v * r.s1.n) r.s1.d < s)) → True := fun _ => trivial
    refine cD (fun g4 => ?_) (fun g4 => ?_)
    rotate_left
    have hn : ¬ (upI (v * r.s1.n) r.s1.d < s) := fun h => g4 (hup.1 h)
    rotate_left
    refine cD (fun g5 => ?_) (fun g5 => ?_)
    · exact ret1 (.bool false) rfl (bad xx fun h => by have := iff.1 h; have := hup.2 g4; omega)
    have hn : ¬ (upI (v * r.s1.n) r.s1.d < s) := fun h => by omega
    all_goals
      have iff2 := iff' hn
      refine cE (fun g6 => ?_) (fun g6 => ?_)
      · exact ret1 (.bool true) rfl (good xx (iff2.2 (.inl g6)))
      refine fldA ?_
      refine fldA ?_
      refine ld (iv r.evap.lo) ((bg.ext xx).cell rfl) ?_
      refine cD (fun g7 => ?_) (fun g7 => ?_)
      rotate_left
      · exact ret1 (.bool false) rfl (bad xx fun h => by have := iff2.1 h; omega)
      refine arI (by omega) ?_
      refine fldA ?_
      refine ld (iv r.s0.d) (ba8.cell rfl) ?_
      have p4 := prod_lt (x := s + 1 - 1) (y := r.s0.d) (by omega) (by omega)
      have p5 : (s + 1) * r.s0.d = (s + 1 - 1) * r.s0.d + r.s0.d := by rw [Int.add_sub_cancel, Int.add_mul, Int.one_mul]
      refine arI (by omega) ?_
      refine fldA ?_
      refine ld (iv r.s0.n) (ba8.cell rfl) ?_
      refine arI (by omega) ?_
      refine cD (fun g8 => ?_) (fun g8 => ?_)
      · exact ret1 (.bool true) rfl (good xx (iff2.2 (.inr ⟨by omega, g8⟩)))
      · exact ret1 (.bool false) rfl (bad xx fun h => by have := iff2.1 h; omega)
end
end Go.Proofs.YtehcphboliofaaaGreatDoor

/- Layer 23: what arrives. -/
namespace Go.Proofs.YtehcphboliofaaaGreatDoor
open Go Go.RowKit

def g1 (l : List Int) (k : Nat) : Int := l.getD k 0
def g2 (ls : List (List Int)) (i k : Nat) : Int := g1 (ls.getD i []) k
/-- A formed run of a valid district of H hours. -/
structure Fm (d : Dist) (x : Run) (H : Nat) : Prop where
  hours : d.hours = H
  h1 : 1 ≤ H
  h2 : H ≤ 4096
  nr : 0 < d.reaches.length
  nr' : d.reaches.length ≤ 64
  nf : d.farms.length ≤ 600
  reach : reachesB 0 d.reaches = true
  farm : d.farms.all (farmOk d.reaches.length d.crops.length) = true
  inflow : numB H x.inflow = true
  spill : numB H x.spill = true
  taken : tabB d.farms.length H x.taken = true
  inn : tabB d.reaches.length H x.inn = true
  evap : tabB d.reaches.length H x.evap = true
  seep : tabB d.reaches.length H x.seep = true
  tail : tabB d.reaches.length H x.tail = true
theorem numB_iff {h : Int} {l : List Int} : numB h l = true ↔ (l.length : Int) = h ∧ ∀ x ∈ l, 0 ≤ x ∧ x ≤ 1073741824 := by
  unfold numB; simp only [Bool.and_eq_true, decide_eq_true_eq, List.all_eq_true, inI_iff]
theorem tabB_iff {m : Nat} {h : Int} {l : List (List Int)} : tabB m h l = true ↔ l.length = m ∧ ∀ x ∈ l, numB h x = true := by
  unfold tabB; simp only [Bool.and_eq_true, decide_eq_true_eq, List.all_eq_true]
theorem tab_row {m : Nat} {h : Int} {ls : List (List Int)} (ht : tabB m h ls = true) {i : Nat} (hi : i < m) : ls[i]? = some (ls.getD i []) ∧ numB h (ls.getD i []) = true := by
  obtain ⟨h1, h2⟩ := tabB_iff.1 ht
  have : ls[i]? = some ls[i] := List.getElem?_eq_getElem (by omega)
  have e : ls.getD i [] = ls[i] := by rw [List.getD_eq_getElem?_getD, this]; rfl
  rw [e]
  exact ⟨this, h2 _ (List.getElem_mem _)⟩
theorem num_val {H : Nat} {l : List Int} (h : numB H l = true) {k : Nat} (hk : k < H) : l[k]? = some (g1 l k) ∧ 0 ≤ g1 l k ∧ g1 l k ≤ 1073741824 := by
  obtain ⟨h1, h2⟩ := numB_iff.1 h
  have : l[k]? = some l[k] := List.getElem?_eq_getElem (by omega)
  have e : g1 l k = l[k] := by unfold g1; rw [List.getD_eq_getElem?_getD, this]; rfl
  rw [e]
  exact ⟨this, h2 _ (List.getElem_mem _)⟩
theorem tab_val {m H : Nat} {ls : List (List Int)} (ht : tabB m H ls = true) {i k : Nat} (hi : i < m) (hk : k < H) : 0 ≤ g2 ls i k ∧ g2 ls i k ≤ 1073741824 := (num_val (tab_row ht hi).2 hk).2
theorem reachesB_at : ∀ {l : List Reach} {i k : Nat} {r : Reach}, reachesB i l = true → l[k]? = some r → upOk (i + k) r.up = true ∧ reachOk r = true
  | [], i, k, r, _, h => by simp at h
  | x :: l, i, 0, r, hl, h => by
    simp at h; subst h
    unfold reachesB at hl
    simp only [Bool.and_eq_true] at hl
    exact hl.1
  | x :: l, i, k + 1, r, hl, h => by
    unfold reachesB at hl
    simp only [Bool.and_eq_true] at hl
    have := reachesB_at (i := i + 1) (k := k) hl.2 (by simpa using h)
    rwa [show i + 1 + k = i + (k + 1) by omega] at this
theorem Fm.at_ {d : Dist} {x : Run} {H : Nat} (h : Fm d x H) {i : Nat} {r : Reach} (hr : d.reaches[i]? = some r) : upOk i r.up = true ∧ lossOk r = true ∧ 1 ≤ r.delay ∧ r.delay ≤ 16 := by
  obtain ⟨h1, h2⟩ := reachesB_at h.reach hr
  have := reachOk_iff.1 h2
  rw [Nat.zero_add] at h1
  exact ⟨h1, this.2.2.2.2, this.1⟩
def r0 : Reach := ⟨ByteArray.empty, 0, 0, 0, 0, 0, ⟨0, 0⟩, ⟨0, 0⟩, ⟨0, 0⟩⟩
def f0 : Farm := ⟨ByteArray.empty, 0, 0, 0⟩
def rch (d : Dist) (i : Nat) : Reach := d.reaches.getD i r0
def frm (d : Dist) (i : Nat) : Farm := d.farms.getD i f0
theorem rch_eq {d : Dist} {i : Nat} {r : Reach} (h : d.reaches[i]? = some r) : rch d i = r := by unfold rch; rw [List.getD_eq_getElem?_getD, h]; rfl
theorem frm_eq {d : Dist} {i : Nat} {r : Farm} (h : d.farms[i]? = some r) : frm d i = r := by unfold frm; rw [List.getD_eq_getElem?_getD, h]; rfl
/-- The hour in which the parcel entered that arrives. -/
def ent (d : Dist) (i hour : Nat) : Int := (hour : Int) - (rch d i).delay
theorem ent_eq {d : Dist} {i hour : Nat} {r : Reach} (h : d.reaches[i]? = some r) : ent d i hour = (hour : Int) - r.delay := by
  unfold ent; rw [rch_eq h]
/-- Litres that entered, evaporated, seeped. -/
def parc (d : Dist) (x : Run) (hour i : Nat) : Int × Int × Int := if 0 ≤ ent d i hour then (g2 x.inn i (ent d i hour).toNat, g2 x.evap i (ent d i hour).toNat, g2 x.seep i (ent d i hour).toNat) else (0, 0, 0)
abbrev pv (p : Int × Int × Int) : Value := .agg #[iv p.1, iv p.2.1, iv p.2.2]
section
variable {D : Nat → Prop} {w : World} {A : Option Addr} {n c : Nat}
theorem row_at {ls : List (List Int)} (h : SlR tInts D w A n ls) {i : Nat} (hi : i < n) : ∃ b o A2 n2 c2, A = some (ad b o) ∧ w.cell? (ad b (o + i * 1)) = some (.slice A2 n2 c2) ∧ SlR tInt D w A2 n2 (ls.getD i []) ∧ n2 ≤ c2 := by
  obtain ⟨b, o, cs, x, hA, hx, -, -, hc, A2, n2, c2, rfl, h2, h3⟩ := h.at_ hi
  have e : ls.getD i [] = x := by rw [List.getD_eq_getElem?_getD, hx]; rfl
  exact ⟨b, o, A2, n2, c2, hA, hc 0 _ rfl, by rw [e]; exact h2, h3⟩
theorem num_at {xs : List Int} (h : SlR tInt D w A n xs) {k : Nat} (hk : k < n) : ∃ b o, A = some (ad b o) ∧ w.cell? (ad b (o + k * 1)) = some (iv (g1 xs k)) := by
  obtain ⟨b, o, cs, x, hA, hx, -, -, hc, rfl, -⟩ := h.at_ hk
  have e : g1 xs k = x := by unfold g1; rw [List.getD_eq_getElem?_getD, hx]; rfl
  exact ⟨b, o, hA, by rw [e]; exact hc 0 _ rfl⟩
/-- What stands in the boxes. -/
structure EnvA (D : Nat → Prop) (w : World) (bd bh bx : Nat) (csd csx : List Value) (d : Dist) (x : Run) (hour : Nat) : Prop where
  dd : Blk w bd 64 csd
  hh : Blk w bh 3 [iv (hour : Int)]
  xx : Blk w bx 68 csx
  rd : DiR D w csd d
  rx : RuR D w csx x
theorem EnvA.kept {w' : World} {D' : Nat → Prop} {bd bh bx hour : Nat} {csd csx : List Value} {d : Dist} {x : Run} (h : EnvA D w bd bh bx csd csx d x hour) (k : Kept D' w w') (h1 : D' bd) (h2 : D' bh) (h3 : D' bx) (hD : ∀ b, b < w.heap.size → D b → D' b) : EnvA D w' bd bh bx csd csx d x hour :=
  ⟨h.dd.kept k h1, h.hh.kept k h2, h.xx.kept k h3, h.rd.kept k hD, h.rx.kept k hD⟩
theorem EnvA.ext {w' : World} {bd bh bx hour : Nat} {csd csx : List Value} {d : Dist} {x : Run} (h : EnvA D w bd bh bx csd csx d x hour) (k : Ext w w') : EnvA D w' bd bh bx csd csx d x hour := h.kept k trivial trivial trivial fun _ _ _ => trivial
theorem c_arriving {csd csx : List Value} {d : Dist} {x : Run} {hour : Nat} (hd : DiR D w csd d) (hx : RuR D w csx x) : CallZ Tryz.prog 132 #[.agg csd.toArray, .agg csx.toArray, iv (hour : Int)] w
    (fun v w' => ∃ bd bh bx, v = .func (.func 197) #[] #[ptr bd, ptr bh, ptr bx] ∧ Ext w w' ∧ EnvA D w' bd bh bx csd csx d x hour ∧ w.heap.size ≤ bd ∧ w.heap.size ≤ bh ∧ w.heap.size ≤ bx ∧ bd < w'.heap.size ∧ bh < w'.heap.size ∧ bx < w'.heap.size) := by
  refine fn_rule (args := [.agg csd.toArray, .agg csx.toArray, iv (hour : Int)]) Tryz.func132 (by kernel_rfl) ?_
  refine box (fun bd w1 h1 => ?_)
  refine box (fun bx w2 h2 => ?_)
  refine box (fun bh w3 h3 => ?_)
  have x13 := (h1.ext.trans h2.ext).trans h3.ext
  have e1 := h1.at_
  have e2 := h2.at_
  have e3 := h3.at_
  have s1 := h1.size
  have s2 := h2.size
  have s3 := h3.size
  refine ret1 (.func (.func 197) #[] #[ptr bd, ptr bh, ptr bx]) rfl ⟨bd, bh, bx, rfl, x13, ⟨(h1.blk.ext h2.ext).ext h3.ext, h3.blk, h2.blk.ext h3.ext, hd.ext x13, hx.ext x13⟩, by omega, by omega, by omega, by omega, by omega, by omega⟩
theorem c_arr1 {l bd bh bx : Nat} {csd csx : List Value} {d : Dist} {x : Run} {hour H : Nat} (J : Nat → World → Prop) (Z : World → Prop) (hJE : ∀ i w', J i w' → EnvA D w' bd bh bx csd csx d x hour) (hJ : ∀ i w' w'', J i w' → Ext w' w'' → J i w'') (hf : Fm d x H) (hh : hour < H)
    (hstep : ∀ i w', i < d.reaches.length → J i w' → YieldP Tryz.prog l [iv (i : Int), pv (parc d x hour i)].toArray (fun v w'' => (v = .bool true ∧ J (i + 1) w'') ∨ (v = .bool false ∧ Z w'')) w') (h0 : J 0 w) :
    CallZ Tryz.prog 197 #[.func (.yield l) #[] #[], ptr bd, ptr bh, ptr bx] w (fun _ w' => J d.reaches.length w' ∨ Z w') := by
  refine fn_rule (args := [.func (.yield l) #[] #[], ptr bd, ptr bh, ptr bx]) Tryz.func197 (by kernel_rfl) ?_
  have E0 := hJE 0 w h0
  obtain ⟨A1, n1, c1, A2, n2, c2, A3, n3, c3, A4, n4, c4, A5, n5, c5, A6, n6, c6, hcs, hr, -⟩ := E0.rd.ex
  obtain ⟨B1, m1, e1, B2, m2, e2, B3, m3, e3, B4, m4, e4, B5, m5, e5, B6, m6, e6, B7, m7, e7, hcx, -⟩ := E0.rx.ex
  subst hcs
  subst hcx
  have ln := hr.len
  refine fldA ?_
  refine ld (.slice A1 n1 c1) (E0.dd.cell rfl) ?_
  refine len ?_
  refine loop_rule (fun k : Nat => [(12, iv (k : Int))]) (fun k w' => k ≤ n1 ∧ J k w') (fun k _ => n1 - k) 0 ⟨rfl, trivial⟩ ⟨by omega, h0⟩ rfl ?_
  rintro G k w1 ⟨hk, hj⟩
  refine cD (fun hlt => ?_) (fun hge => ?_)
  · have hlt : k < n1 := by omega
    have E1 := hJE k w1 hj
    obtain ⟨A1', n1', c1', A2', n2', c2', A3', n3', c3', A4', n4', c4', A5', n5', c5', A6', n6', c6', hcs', hr', -⟩ := E1.rd.ex
    obtain ⟨B1', m1', e1', B2', m2', e2', B3', m3', e3', B4', m4', e4', B5', m5', e5', B6', m6', e6', B7', m7', e7', hcx', -, -, i3, i4, i5, -⟩ := E1.rx.ex
    simp only [List.cons.injEq, Value.slice.injEq, and_true] at hcs' hcx'
    obtain ⟨-, -, -, -, ⟨rfl, rfl, rfl⟩, -⟩ := hcs'
    obtain ⟨-, -, ⟨rfl, rfl, rfl⟩, ⟨rfl, rfl, rfl⟩, ⟨rfl, rfl, rfl⟩, -⟩ := hcx'
    obtain ⟨b, o, cs, r, rfl, hrx, -, -, hc, rfl⟩ := hr'.at_ hlt
    obtain ⟨-, -, hd1, hd2⟩ := hf.at_ hrx
    have hent := ent_eq (hour := hour) hrx
    refine idx k rfl hlt ?_
    refine ldA r.c hc rfl ?_
    refine alloc (fun q w2 h2 => ?_)
    refine stA (vs := r.c) h2.blk rfl (Nat.le_of_ble_eq_true rfl) (by simp [Value.oneCell']) (fun w3 hb3 k3 z3 => ?_)
    have z2 := h2.at_
    have zs2 := h2.size
    have x3 : Ext w1 w3 := h2.ext.then k3 fun b hb _ e => by omega
    refine bld [iv 0, iv 0, iv 0] (by kernel_rfl) ?_
    refine alloc (fun p w4 h4 => ?_)
    refine stA (vs := [iv 0, iv 0, iv 0]) h4.blk rfl (Nat.le_of_ble_eq_true rfl) (by simp [Value.oneCell']) (fun w5 hb5 k5 z5 => ?_)
    have z4 := h4.at_
    have zs4 := h4.size
    have x35 : Ext w3 w5 := h4.ext.then k5 fun b hb _ e => by omega
    have x5 := x3.trans x35
    have E5 := E1.ext x5
    have hb35 := hb3.ext x35
    refine ld (iv (hour : Int)) (E5.hh.cell rfl) ?_
    refine fldA ?_
    refine ld (iv r.delay) (hb35.cell rfl) ?_
    have hh2 := hf.h2
    refine arI (by omega) ?_
    refine cD (fun ge => ?ya) (fun ge => ?yb)
    case' ya =>
      obtain ⟨t, ht⟩ : ∃ t : Nat, (hour : Int) - r.delay = (t : Int) := ⟨((hour : Int) - r.delay).toNat, by omega⟩
      have htH : t < H := by omega
      have hkr : k < d.reaches.length := by omega
      have parE : parc d x hour k = (g2 x.inn k t, g2 x.evap k t, g2 x.seep k t) := by unfold parc; rw [hent, ht, if_pos (by omega), Int.toNat_natCast]
      have l3 := i3.len
      have l4 := i4.len
      have l5 := i5.len
      have t3 := tabB_iff.1 hf.inn
      have t4 := tabB_iff.1 hf.evap
      have t5 := tabB_iff.1 hf.seep
      obtain ⟨f3, p3, R3, s3, u3, rfl, cc3, r3, -⟩ := row_at (i3.ext x5) (i := k) (by omega)
      obtain ⟨f4, p4, R4, s4, u4, rfl, cc4, r4, -⟩ := row_at (i4.ext x5) (i := k) (by omega)
      obtain ⟨f5, p5, R5, s5, u5, rfl, cc5, r5, -⟩ := row_at (i5.ext x5) (i := k) (by omega)
      have n3 := numB_iff.1 (tab_row hf.inn hkr).2
      have n4 := numB_iff.1 (tab_row hf.evap hkr).2
      have n5 := numB_iff.1 (tab_row hf.seep hkr).2
      have q3 := r3.len
      have q4 := r4.len
      have q5 := r5.len
      obtain ⟨a3, b3, rfl, v3⟩ := num_at r3 (k := t) (by omega)
      obtain ⟨a4, b4, rfl, v4⟩ := num_at r4 (k := t) (by omega)
      obtain ⟨a5, b5, rfl, v5⟩ := num_at r5 (k := t) (by omega)
      refine drawP (.take 0 (.take 1 (.take 2 (.take 3 (.take 4 (.take 5 (.take 6 (.take 7 (.take 8 (.take 9 (.take 10 (.take 11 (.take 12 (.take 13 (.take 14 (.take 15 (.take 16 (.take 17 (.take 18 (.take 19 (.take 20 (.take 21 (.take 22 (.take 23 (.take 24 (.bar (.eff 25 .done))))))))))))))))))))))))))) [25] (fun u => u = w5) mx (by kernel_rfl) rfl ?_
      refine fldA ?_
      refine ld _ (E5.xx.cell rfl) ?_
      refine idx k rfl (by omega) ?_
      refine ld _ cc3 ?_
      refine idx t ht (by omega) ?_
      refine ld _ v3 ?_
      refine fldA ?_
      refine ld _ (E5.xx.cell rfl) ?_
      refine idx k rfl (by omega) ?_
      refine ld _ cc4 ?_
      refine idx t ht (by omega) ?_
      refine ld _ v4 ?_
      refine fldA ?_
      refine ld _ (E5.xx.cell rfl) ?_
      refine idx k rfl (by omega) ?_
      refine ld _ cc5 ?_
      refine idx t ht (by omega) ?_
      refine ld _ v5 ?_
      refine bld [iv (g2 x.inn k t), iv (g2 x.evap k t), iv (g2 x.seep k t)] (by kernel_rfl) ?_
      refine barS (fun _ => True) trivial ?_
      refine stA (vs := [iv (g2 x.inn k t), iv (g2 x.evap k t), iv (g2 x.seep k t)]) hb5 rfl (Nat.le_of_ble_eq_true rfl) (by simp [Value.oneCell']) (fun w6 hb6 k6 z6 => ?_)
      refine strS trivial ?_
      have x6 : Ext w1 w6 := x5.then k6 fun b hb _ e => by omega
      refine ldA [iv (g2 x.inn k t), iv (g2 x.evap k t), iv (g2 x.seep k t)] (.blk hb6) rfl ?_
      have hy := hstep k w6 hkr (hJ k w1 w6 hj x6)
      rw [parE] at hy
    case' yb =>
      have parE : parc d x hour k = (0, 0, 0) := by unfold parc; rw [hent, if_neg (by omega)]
      have x6 := x5
      refine ldA [iv 0, iv 0, iv 0] (.blk hb5) rfl ?_
      have hy := hstep k w5 (by omega) (hJ k w1 w5 hj x6)
      rw [parE] at hy
    all_goals
      refine yield_of hy ?_
      rintro v w7 (⟨rfl, hj7⟩ | ⟨rfl, hz7⟩)
      · refine arI (by have := hr.le; omega) ?_
        exact next (k + 1) ⟨by rw [Int.natCast_add]; rfl, trivial⟩ ⟨by omega, hj7⟩ (by omega)
      · exact ret0 (.inr hz7)
  · refine ret0 (.inl ?_)
    rw [ln, show n1 = k by omega]; exact hj
end
end Go.Proofs.YtehcphboliofaaaGreatDoor

/- Layer 23: the moves of an hour. -/
namespace Go.Proofs.YtehcphboliofaaaGreatDoor
open Go Go.RowKit

structure Mv where
  frm : Int × Int
  to : Int × Int
  litres : Int
deriving DecidableEq
abbrev Mv.c (m : Mv) : List Value := [iv m.frm.1, iv m.frm.2, iv m.to.1, iv m.to.2, iv m.litres]
abbrev mvs (l : List Mv) : List Value := l.flatMap Mv.c
theorem mvs_len : ∀ l : List Mv, (mvs l).length = l.length * 5
  | [] => rfl
  | m :: l => by show (Mv.c m ++ mvs l).length = _; rw [List.length_append, mvs_len l, List.length_cons]; simp; omega
theorem mvs_app (l k : List Mv) : mvs (l ++ k) = mvs l ++ mvs k := List.flatMap_append
def childL (d : Dist) (x : Run) (hour i k : Nat) : List Mv := ((List.range k).filter fun j : Nat => decide ((rch d j).up = (i : Int))).map fun j : Nat => ⟨(2, i), (2, j), g2 x.inn j hour⟩
def farmL (d : Dist) (x : Run) (hour i k : Nat) : List Mv := ((List.range k).filter fun j : Nat => decide ((frm d j).reach = (i : Int))).map fun j : Nat => ⟨(2, i), (5, j), g2 x.taken j hour⟩
def lossL (d : Dist) (x : Run) (hour i : Nat) : List Mv := [⟨(2, i), (3, i), (parc d x hour i).2.1⟩, ⟨(2, i), (4, i), (parc d x hour i).2.2⟩]
def endL (d : Dist) (x : Run) (hour i : Nat) : List Mv := lossL d x hour i ++ childL d x hour i d.reaches.length ++ farmL d x hour i d.farms.length ++ [⟨(2, i), (6, i), g2 x.tail i hour⟩]
def headL (x : Run) (hour : Nat) : List Mv := [⟨(0, 0), (1, 0), g1 x.inflow hour⟩, ⟨(1, 0), (7, 0), g1 x.spill hour⟩, ⟨(1, 0), (2, 0), g2 x.inn 0 hour⟩]
def prefL (d : Dist) (x : Run) (hour k : Nat) : List Mv := headL x hour ++ (List.range k).flatMap fun i => endL d x hour i
def movesL (d : Dist) (x : Run) (hour : Nat) : List Mv := prefL d x hour d.reaches.length
theorem childL_succ {d : Dist} {x : Run} {hour i k : Nat} : childL d x hour i (k + 1) = childL d x hour i k ++ (if (rch d k).up = (i : Int) then [⟨(2, i), (2, k), g2 x.inn k hour⟩] else []) := by
  unfold childL
  rw [List.range_succ, List.filter_append, List.map_append]
  congr 1
  by_cases h : (rch d k).up = (i : Int) <;> simp [h]
theorem farmL_succ {d : Dist} {x : Run} {hour i k : Nat} : farmL d x hour i (k + 1) = farmL d x hour i k ++ (if (frm d k).reach = (i : Int) then [⟨(2, i), (5, k), g2 x.taken k hour⟩] else []) := by
  unfold farmL
  rw [List.range_succ, List.filter_append, List.map_append]
  congr 1
  by_cases h : (frm d k).reach = (i : Int) <;> simp [h]
theorem prefL_succ {d : Dist} {x : Run} {hour k : Nat} : prefL d x hour (k + 1) = prefL d x hour k ++ endL d x hour k := by
  unfold prefL
  rw [List.range_succ, List.flatMap_append]
  simp
theorem childL_len {d : Dist} {x : Run} {hour i k : Nat} : (childL d x hour i k).length ≤ k := by
  unfold childL
  rw [List.length_map]
  exact Nat.le_trans (List.length_filter_le _ _) (by simp)
theorem farmL_len {d : Dist} {x : Run} {hour i k : Nat} : (farmL d x hour i k).length ≤ k := by
  unfold farmL
  rw [List.length_map]
  exact Nat.le_trans (List.length_filter_le _ _) (by simp)
theorem endL_len {d : Dist} {x : Run} {hour i : Nat} : (endL d x hour i).length ≤ 3 + d.reaches.length + d.farms.length := by
  unfold endL lossL
  have h1 := childL_len (d := d) (x := x) (hour := hour) (i := i) (k := d.reaches.length)
  have h2 := farmL_len (d := d) (x := x) (hour := hour) (i := i) (k := d.farms.length)
  simp only [List.length_append, List.length_cons, List.length_nil]
  omega
theorem prefL_len {d : Dist} {x : Run} {hour : Nat} (h1 : d.reaches.length ≤ 64) (h2 : d.farms.length ≤ 600) : ∀ k, (prefL d x hour k).length ≤ 3 + k * 667
  | 0 => by simp [prefL, headL]
  | k + 1 => by
    rw [prefL_succ, List.length_append]
    have := prefL_len (x := x) (hour := hour) h1 h2 k
    have := endL_len (d := d) (x := x) (hour := hour) (i := k)
    omega

/-! ### the list that grows in a cell -/
structure MovS (D : Nat → Prop) (w0 w : World) (q : Nat) (ms : List Mv) : Prop where
  of_ ::
  ex : ∃ A n c, Blk w q 134 [.slice A n c] ∧ OwnF w0 w A n c 138 5 (mvs ms) ∧ ∀ g, A = some (ad g 0) → ¬ D g
section
variable {D D2 : Nat → Prop} {w0 w w' : World} {q p : Nat} {ms : List Mv}
theorem MovS.ext (h : MovS D w0 w q ms) (x : Ext w w') : MovS D w0 w' q ms := by
  obtain ⟨A, n, c, h1, h2, h3⟩ := h.ex
  exact ⟨A, n, c, h1.ext x, h2.then x, h3⟩
theorem MovS.sub (h : MovS D w0 w q ms) (hD : ∀ b, D2 b → D b) : MovS D2 w0 w q ms := by
  obtain ⟨A, n, c, h1, h2, h3⟩ := h.ex
  exact ⟨A, n, c, h1, h2, fun g hg h => h3 g hg (hD g h)⟩
theorem MovS.kept (h : MovS D w0 w q ms) (k : Kept D2 w w') (hq : D2 q) (hD : ∀ g, ¬ D g → D2 g) (hx : Ext w0 w') : MovS D w0 w' q ms := by
  obtain ⟨A, n, c, h1, h2, h3⟩ := h.ex
  exact ⟨A, n, c, h1.kept k hq, h2.thenK k (fun g hg => hD g (h3 g hg)) hx, h3⟩
theorem MovS.add (h : MovS D w0 w q ms) (hp : w.heap.size ≤ p) : MovS (fun b => D b ∨ b = p) w0 w q ms := by
  obtain ⟨A, n, c, h1, h2, h3⟩ := h.ex
  refine ⟨A, n, c, h1, h2, fun g hg hd => ?_⟩
  rcases hd with h | h
  · exact h3 g hg h
  · rcases h2.form with ⟨hA, _⟩ | ⟨g', hA, _, hlt, _⟩
    · rw [hA] at hg; cases hg
    · rw [hA] at hg
      simp only [Option.some.injEq, Addr.mk.injEq, and_true] at hg
      omega
theorem c_put {a b c d L : Int} (h : MovS D w0 w q ms) (hD : ∀ b, D b → b < w.heap.size) (hq : ¬ D q) (hq0 : w0.heap.size ≤ q) (hn : ms.length ≤ 100000) :
    CallZ Tryz.prog 133 #[iv a, iv b, iv c, iv d, iv L, ptr q] w (fun v w' => v = .tuple #[] ∧ MovS D w0 w' q (ms ++ [⟨(a, b), (c, d), L⟩]) ∧ Kept D w w') := by
  obtain ⟨A, n, cc, h1, h2, h3⟩ := h.ex
  have hl := h2.own.len
  rw [mvs_len] at hl
  refine fn_rule (args := [iv a, iv b, iv c, iv d, iv L, ptr q]) Tryz.func133 (by kernel_rfl) ?_
  refine ld (.slice A n cc) (h1.cell rfl) ?_
  refine bld [iv a, iv b] (by kernel_rfl) ?_
  refine bld [iv c, iv d] (by kernel_rfl) ?_
  refine bld [iv a, iv b, iv c, iv d, iv L] (by kernel_rfl) ?_
  refine lit [.agg #[iv a, iv b, iv c, iv d, iv L]] (fun g w1 hb => ?_)
  have z1 := hb.at_
  have zs := hb.size
  refine appF (h2.then hb.ext) (hb.src (sz := 5) rfl) (by omega) (fun A' c' w2 o2 k2 hA' => ?_)
  have hA2 : ∀ g, A' = some (ad g 0) → ¬ D g := fun g' hg hd => by
    rcases hA' with h | h | h
    · rw [h] at hg; exact h3 g' hg hd
    · rw [h] at hg; cases hg
    · rw [h] at hg
      simp only [Option.some.injEq, Addr.mk.injEq, and_true] at hg
      have := hD g' hd
      have := hb.ext.size
      omega
  have hAq : A ≠ some (ad q 0) := fun e => by
    rcases h2.form with ⟨hA, _⟩ | ⟨g', hA, _, hlt, _⟩
    · rw [hA] at e; cases e
    · rw [hA] at e
      simp only [Option.some.injEq, Addr.mk.injEq, and_true] at e
      subst e
      obtain ⟨rest, hb3, _⟩ := Own.blk (hA ▸ h2.own)
      have := (h1.uniq hb3).1
      exact absurd this (by decide)
  have hlt := h1.lt
  have b2 := (h1.ext hb.ext).kept k2 hAq
  refine st1 b2 rfl (fun w3 hb3 k3 => ?_)
  have hAq' : ∀ g, A' = some (ad g 0) → g ≠ q := fun g' hg e => by
    subst e
    rcases hA' with h | h | h
    · rw [h] at hg; exact hAq hg
    · rw [h] at hg; cases hg
    · rw [h] at hg
      simp only [Option.some.injEq, Addr.mk.injEq, and_true] at hg
      have := hb.ext.size
      omega
  refine ret0 ⟨rfl, ⟨A', n + 1, c', hb3, ?_, hA2⟩, ?_⟩
  · have := o2.thenK k3 hAq' (o2.ext.then k3 fun b hb _ e => by omega)
    rw [mvs_app]
    exact this
  · exact (Ext.any hb.ext).trans ((k2.weak fun i _ hi e => h3 i e hi).trans (k3.weak fun i _ hi e => hq (e ▸ hi)))
end
end Go.Proofs.YtehcphboliofaaaGreatDoor

/- Layer 23: contract of moves. -/
namespace Go.Proofs.YtehcphboliofaaaGreatDoor
open Go Go.RowKit

section
variable {D : Nat → Prop} {w : World}
theorem c_moves {csd csx : List Value} {d : Dist} {x : Run} {hour H : Nat} (hd : DiR D w csd d) (hx : RuR D w csx x) (hf : Fm d x H) (hh : hour < H) : CallZ Tryz.prog 79 #[.agg csd.toArray, .agg csx.toArray, iv (hour : Int)] w
    (fun v w' => ∃ A n c, v = .slice A n c ∧ OwnF w w' A n c 138 5 (mvs (movesL d x hour))) := by
  have hd := hd.more (D' := fun b => b < w.heap.size) fun b hb _ => hb
  have hx := hx.more (D' := fun b => b < w.heap.size) fun b hb _ => hb
  obtain ⟨A1, n1, c1, A2, n2, c2, A3, n3, c3, A4, n4, c4, A5, n5, c5, A6, n6, c6, rfl, hr, hfa, hcr, hri, hdu, hwe⟩ := hd.ex
  obtain ⟨B1, m1, e1, B2, m2, e2, B3, m3, e3, B4, m4, e4, B5, m5, e5, B6, m6, e6, B7, m7, e7, rfl, i1, i2, i3, i4, i5, i6, i7, -⟩ := hx.ex
  have ln := hr.len
  have lf := hfa.len
  have t1 := numB_iff.1 hf.inflow
  have t2 := numB_iff.1 hf.spill
  have t3 := tabB_iff.1 hf.inn
  have t6 := tabB_iff.1 hf.taken
  have t7 := tabB_iff.1 hf.tail
  have k1 := i1.len
  have k2 := i2.len
  have k3 := i3.len
  have k6 := i6.len
  have k7 := i7.len
  have hnr := hf.nr
  have hnr' := hf.nr'
  have hnf := hf.nf
  refine fn_rule (args := [.agg #[.string d.name, iv d.hours, iv d.cap, iv d.start, .slice A1 n1 c1, .slice A2 n2 c2, .slice A3 n3 c3, .slice A4 n4 c4, .slice A5 n5 c5, .slice A6 n6 c6], .agg #[.slice B1 m1 e1, .slice B2 m2 e2, .slice B3 m3 e3, .slice B4 m4 e4, .slice B5 m5 e5, .slice B6 m6 e6, .slice B7 m7 e7], iv (hour : Int)]) Tryz.func79 (by kernel_rfl) ?_
  refine box (fun bd w1 h1 => ?_)
  refine box (fun bx w2 h2 => ?_)
  refine box (fun bh w3 h3 => ?_)
  refine alloc (fun q w4 h4 => ?_)
  refine alloc (fun f7 w5 h5 => ?_)
  refine st1 h5.blk rfl (fun w6 hb6 s6 => ?_)
  have a1 := h1.at_
  have a2 := h2.at_
  have a3 := h3.at_
  have a4 := h4.at_
  have a5 := h5.at_
  have z1 := h1.size
  have z2 := h2.size
  have z3 := h3.size
  have z4 := h4.size
  have z5 := h5.size
  have z6 := s6.size
  have x14 : Ext w1 w4 := (h2.ext.trans h3.ext).trans h4.ext
  have x4 : Ext w w4 := h1.ext.trans x14
  have x46 : Ext w4 w6 := h5.ext.then s6 fun b hb _ e => by omega
  have x6 : Ext w w6 := x4.trans x46
  have E6 : EnvA (fun b => b < w.heap.size) w6 bd bh bx _ _ d x hour := ⟨h1.blk.ext (x14.trans x46), h3.blk.ext (h4.ext.trans x46), h2.blk.ext ((h3.ext.trans h4.ext).trans x46), hd.ext x6, hx.ext x6⟩
  have M6 : MovS (fun b => b < w6.heap.size ∧ b ≠ q) w w6 q [] := ⟨none, 0, 0, h4.blk.ext x46, OwnF.nil x6, fun g hg => by cases hg⟩
  have keyK : ∀ u, Kept (fun b => b < w6.heap.size ∧ b ≠ q) w6 u → Kept (fun b => b < w.heap.size) w u := fun u k => (Ext.any x6).then k (fun b _ hb => ⟨by omega, by omega⟩)
  have keyE : ∀ u, Kept (fun b => b < w6.heap.size ∧ b ≠ q) w6 u → EnvA (fun b => b < w.heap.size) u bd bh bx _ _ d x hour := fun u k => E6.kept k ⟨by omega, by omega⟩ ⟨by omega, by omega⟩ ⟨by omega, by omega⟩ fun b _ hb => ⟨by omega, by omega⟩
  have keyF : ∀ u, Kept (fun b => b < w6.heap.size ∧ b ≠ q) w6 u → Blk u f7 _ [.func (.func 133) #[] #[ptr q]] := fun u k => hb6.kept k ⟨by omega, by omega⟩
  have hq : ¬ (fun b => b < w6.heap.size ∧ b ≠ q) q := fun h => h.2 rfl
  -- the inflow
  obtain ⟨fa, fb, rfl, v1⟩ := num_at (i1.kept (keyK w6 (.refl _ _)) fun b _ hb => hb) (k := hour) (by omega)
  refine drawP (.take 0 (.take 1 (.take 2 (.take 3 (.take 4 (.take 5 (.bar (.eff 6 .done)))))))) [6] (fun u => u = w6) mx (by kernel_rfl) rfl ?_
  refine ld _ (hb6.cell rfl) ?_
  refine fldA ?_
  refine ld _ (E6.xx.cell rfl) ?_
  refine ld _ (E6.hh.cell rfl) ?_
  refine idx hour rfl (by omega) ?_
  refine ld _ v1 ?_
  refine barS (fun _ => True) trivial ?_
  refine call_of (c_put M6 (fun b h => h.1) hq (by omega) (by simp)) ?_
  rintro _ w7 ⟨rfl, M7, k7⟩
  refine strS trivial ?_
  -- the spill
  obtain ⟨ga, gb, rfl, v2⟩ := num_at (i2.kept (keyK w7 k7) fun b _ hb => hb) (k := hour) (by omega)
  refine drawP (.take 0 (.take 1 (.take 2 (.take 3 (.take 4 (.take 5 (.bar (.eff 6 .done)))))))) [6] (fun u => u = w7) mx (by kernel_rfl) rfl ?_
  refine ld _ ((keyF w7 k7).cell rfl) ?_
  refine fldA ?_
  refine ld _ ((keyE w7 k7).xx.cell rfl) ?_
  refine ld _ ((keyE w7 k7).hh.cell rfl) ?_
  refine idx hour rfl (by omega) ?_
  refine ld _ v2 ?_
  refine barS (fun _ => True) trivial ?_
  refine call_of (c_put M7 (fun b h => Nat.lt_of_lt_of_le h.1 k7.size) hq (by omega) (by simp)) ?_
  rintro _ w8 ⟨rfl, M8, k78⟩
  have k8 := k7.trans k78
  refine strS trivial ?_
  -- what enters
  obtain ⟨ha, hb, R3, s3, u3, rfl, cc3, r3, -⟩ := row_at (i3.kept (keyK w8 k8) fun b _ hb => hb) (i := 0) (by omega)
  have q3 := r3.len
  have n3' := numB_iff.1 (tab_row hf.inn hnr).2
  obtain ⟨ja, jb, rfl, v3⟩ := num_at r3 (k := hour) (by omega)
  refine drawP (.take 0 (.take 1 (.take 2 (.take 3 (.take 4 (.take 5 (.take 6 (.take 7 (.bar (.eff 8 .done)))))))))) [8] (fun u => u = w8) mx (by kernel_rfl) rfl ?_
  refine ld _ ((keyF w8 k8).cell rfl) ?_
  refine fldA ?_
  refine ld _ ((keyE w8 k8).xx.cell rfl) ?_
  refine idx 0 rfl (by omega) ?_
  refine ld _ cc3 ?_
  refine ld _ ((keyE w8 k8).hh.cell rfl) ?_
  refine idx hour rfl (by omega) ?_
  refine ld _ v3 ?_
  refine barS (fun _ => True) trivial ?_
  refine call_of (c_put M8 (fun b h => Nat.lt_of_lt_of_le h.1 k8.size) hq (by omega) (by simp)) ?_
  rintro _ w9 ⟨rfl, M9, k89⟩
  have k9 := k8.trans k89
  refine strS trivial ?_
  have E9 := keyE w9 k9
  refine ldA _ (.blk E9.dd) rfl ?_
  refine ldA _ (.blk E9.xx) rfl ?_
  refine ld _ (E9.hh.cell rfl) ?_
  refine call_of (c_arriving E9.rd E9.rx) ?_
  rintro _ w11 ⟨bd', bh', bx', rfl, x11, E11, y1, y2, y3, y4, y5, y6⟩
  obtain ⟨A0, n0, c0, o1, o2, o3⟩ := M9.ex
  have hA0 : ∀ b, A0 = some (ad b 0) → w.heap.size ≤ b ∧ b < w9.heap.size ∧ ¬ (b < w6.heap.size ∧ b ≠ q) := fun b hb => by
    refine ⟨o2.new b hb, ?_, o3 b hb⟩
    rcases o2.form with ⟨hA, _⟩ | ⟨g', hA, _, hlt, _⟩
    · rw [hA] at hb; cases hb
    · rw [hA] at hb
      simp only [Option.some.injEq, Addr.mk.injEq, and_true] at hb
      omega
  have y9 := k9.size
  have y11 := x11.size
  refine range (gf := 197) (lb := #[ptr bd', ptr bh', ptr bx']) rfl (fun fn tmps w12 R hR hF hwf x12 z12 hD12 hl12 => ?_)
  show CallZ _ _ #[.func (.yield (w11.heap.size + 1)) #[] #[], ptr bd', ptr bh', ptr bx'] w12 _
  obtain ⟨Dl, hDl⟩ : ∃ Dl : Nat → Prop, Dl = fun b => b < w12.heap.size ∧ b ≠ q ∧ A0 ≠ some (ad b 0) := ⟨_, rfl⟩
  have dl : ∀ b, Dl b ↔ b < w12.heap.size ∧ b ≠ q ∧ A0 ≠ some (ad b 0) := fun b => by rw [hDl]
  have dlLow : ∀ b, b < w6.heap.size → b ≠ q → Dl b := fun b h1 h2 => (dl b).2 ⟨by omega, h2, fun e => (hA0 b e).2.2 ⟨h1, h2⟩⟩
  have dlHi : ∀ b, w9.heap.size ≤ b → b < w12.heap.size → Dl b := fun b h1 h2 => (dl b).2 ⟨h2, by omega, fun e => by have := (hA0 b e).2.1; omega⟩
  have hDq : ¬ Dl q := fun h => ((dl q).1 h).2.1 rfl
  clear hDl
  have x912 := x11.trans x12
  have M12 : MovS Dl w w12 q (headL x hour) := by
    refine ⟨A0, n0, c0, o1.ext x912, ?_, fun g hg h => ((dl g).1 h).2.2 hg⟩
    exact o2.then x912
  -- what holds of a world that keeps these blocks
  have kLow : ∀ u, Kept (fun b => Dl b ∧ b ≠ w11.heap.size + 1) w12 u → Kept (fun b => b < w6.heap.size ∧ b ≠ q) w6 u := fun u k => k9.then ((Ext.any (D := fun b => b < w9.heap.size ∧ Dl b) x912).then k fun b hb h => ⟨h.2, by omega⟩) fun b hb h => ⟨by omega, dlLow b h.1 h.2⟩
  refine (c_arr1 (D := fun b => b < w.heap.size) (csd := _) (csx := _) (H := H) (fun i u => Kept (fun b => Dl b ∧ b ≠ w11.heap.size + 1) w12 u ∧ LoopAt u (w11.heap.size + 1) R ∧ MovS Dl w u q (prefL d x hour i)) (fun _ => False)
    (fun i u hj => (E11.ext x12).kept hj.1 ⟨dlHi _ (by omega) (by omega), by omega⟩ ⟨dlHi _ (by omega) (by omega), by omega⟩ ⟨dlHi _ (by omega) (by omega), by omega⟩ fun b hb hbw => ⟨dlLow b (by omega) (by omega), by omega⟩)
    (fun i u u' hj xx => ⟨hj.1.ext xx, hj.2.1.kept xx trivial, hj.2.2.ext xx⟩) hf hh ?_ ⟨.refl _ _, hl12, by
      have : prefL d x hour 0 = headL x hour := by simp [prefL]
      rw [this]; exact M12⟩).mono ?_
  · rintro i u hi ⟨ku, lu, mu⟩
    subst hR
    refine yield_rule (args := [iv (i : Int), pv (parc d x hour i)]) lu rfl rfl hF hwf ?_
    have us := ku.size
    refine alloc (fun p u1 g1 => ?_)
    refine stA (vs := [iv (parc d x hour i).1, iv (parc d x hour i).2.1, iv (parc d x hour i).2.2]) g1.blk rfl (Nat.le_of_ble_eq_true rfl) (by simp [Value.oneCell']) (fun u2 pb2 s2 zu2 => ?_)
    have p1 := g1.at_
    have p2 := g1.size
    have p3 := s2.size
    have xu2 : Ext u u2 := g1.ext.then s2 fun b hb _ e => by omega
    have lu2 := lu.kept xu2 trivial
    have mu2 := (mu.add (p := p) (by omega)).ext xu2
    refine mid' lu2 (fun u3 s3 zs3 lu3 => ?_)
    have hLi : w11.heap.size + 1 < w12.heap.size := hl12.lt
    have DlL : Dl (w11.heap.size + 1) := dlHi _ (by omega) hLi
    have pL : p ≠ w11.heap.size + 1 := by omega
    have pb3 := pb2.kept s3 pL
    have mu3 : MovS (fun b => Dl b ∨ b = p) w u3 q (prefL d x hour i) := mu2.kept s3 (fun e => hDq (e ▸ DlL)) (fun g hg e => hg (.inl (e ▸ DlL))) (((mu2.ex.choose_spec.choose_spec.choose_spec).2.1).ext.then s3 fun b hb _ e => by omega)
    have ku3 : Kept (fun b => Dl b ∧ b ≠ w11.heap.size + 1) w12 u3 := (ku.ext xu2).then s3 fun b _ h => h.2
    have hDp : ∀ u' : World, u3.heap.size ≤ u'.heap.size → ∀ b, (Dl b ∨ b = p) → b < u'.heap.size := fun u' hu b hb => by
      rcases hb with hb | hb
      · have := ((dl b).1 hb).1; have := ku3.size; omega
      · omega
    have hqp : ¬ (Dl q ∨ q = p) := fun h => by
      rcases h with h | h
      · exact hDq h
      · omega
    have kAll : ∀ u', Kept (fun b => Dl b ∨ b = p) u3 u' → Kept (fun b => Dl b ∧ b ≠ w11.heap.size + 1) w12 u' := fun u' k => ku3.then k fun b _ h => .inl h.1
    have pf := prefL_len (d := d) (x := x) (hour := hour) hnr' hnf i
    have pc0 : ∀ {k}, (childL d x hour i k).length ≤ k := childL_len
    have pf0 : ∀ {k}, (farmL d x hour i k).length ≤ k := farmL_len
    -- what evaporated
    have F3 := keyF u3 (kLow u3 ku3)
    refine ld _ (F3.cell rfl) ?_
    refine fldA ?_
    refine ld (iv (parc d x hour i).2.1) (pb3.cell rfl) ?_
    refine call_of (c_put mu3 (hDp u3 (Nat.le_refl _)) hqp (by omega) (by omega)) ?_
    rintro _ u4 ⟨rfl, M4, k4⟩
    have F4 := keyF u4 (kLow u4 (kAll u4 k4))
    have pb4 := pb3.kept k4 (.inr rfl)
    refine ld _ (F4.cell rfl) ?_
    refine fldA ?_
    refine ld (iv (parc d x hour i).2.2) (pb4.cell rfl) ?_
    refine call_of (c_put M4 (hDp u4 k4.size) hqp (by omega) (by simp; omega)) ?_
    rintro _ u5 ⟨rfl, M5, k45⟩
    have k5 := k4.trans k45
    have E5 := keyE u5 (kLow u5 (kAll u5 k5))
    have M5 : MovS (fun b => Dl b ∨ b = p) w u5 q (prefL d x hour i ++ lossL d x hour i) := by rw [List.append_assoc] at M5; exact M5
    refine fldA ?_
    refine ld (.slice A1 n1 c1) (E5.dd.cell rfl) ?_
    refine len ?_
    -- the children
    refine loop_rule (fun k : Nat => [(59, iv (k : Int))]) (fun k u' => k ≤ n1 ∧ Kept (fun b => Dl b ∨ b = p) u3 u' ∧ MovS (fun b => Dl b ∨ b = p) w u' q (prefL d x hour i ++ lossL d x hour i ++ childL d x hour i k)) (fun k _ => n1 - k) 0 ⟨rfl, trivial⟩ ⟨by omega, k5, by
      rw [show childL d x hour i 0 = [] from rfl, List.append_nil]; exact M5⟩ rfl ?_
    rintro G k u6 ⟨hk, k6, M6'⟩
    have E6' := keyE u6 (kLow u6 (kAll u6 k6))
    have F6 := keyF u6 (kLow u6 (kAll u6 k6))
    refine cD (fun hlt => ?_) (fun hge => ?_)
    · have hlt : k < n1 := by omega
      obtain ⟨b, o, cs, r, rfl, hrx, -, -, hc, rfl⟩ := (hr.kept (keyK u6 (kLow u6 (kAll u6 k6))) fun b _ hb => hb).at_ hlt
      refine idx k rfl hlt ?_
      refine ldA r.c hc rfl ?_
      refine alloc (fun t u7 g7 => ?_)
      refine stA (vs := r.c) g7.blk rfl (Nat.le_of_ble_eq_true rfl) (by simp [Value.oneCell']) (fun u8 tb8 s8 zu8 => ?_)
      have t1 := g7.at_
      have x68 : Ext u6 u8 := g7.ext.then s8 fun b hb _ e => by omega
      have M8' := M6'.ext x68
      have k8' : Kept (fun b => Dl b ∨ b = p) u3 u8 := k6.ext x68
      have hrk := rch_eq hrx
      refine fldA ?_
      refine ld (iv r.up) (tb8.cell rfl) ?_
      refine cE (fun hup => ?_) (fun hup => ?_)
      · obtain ⟨f3, p3', R3', s3', u3', hA3, cc3', r3', -⟩ := row_at (i3.kept (keyK u8 (kLow u8 (kAll u8 k8'))) fun b _ hb => hb) (i := k) (by omega)
        cases hA3
        have n3k := numB_iff.1 (tab_row hf.inn (i := k) (by omega)).2
        have q3k := r3'.len
        obtain ⟨v3a, v3b, rfl, v3'⟩ := num_at r3' (k := hour) (by omega)
        have E8 := keyE u8 (kLow u8 (kAll u8 k8'))
        refine drawP (.take 0 (.take 1 (.take 2 (.take 3 (.take 4 (.take 5 (.take 6 (.take 7 (.take 8 (.take 9 (.take 10 (.bar (.eff 11 .done))))))))))))) [11] (fun u => u = u8) mx (by kernel_rfl) rfl ?_
        refine ld _ ((keyF u8 (kLow u8 (kAll u8 k8'))).cell rfl) ?_
        refine fldA ?_
        refine ld _ (E8.xx.cell rfl) ?_
        refine idx k rfl (by omega) ?_
        refine ld _ cc3' ?_
        refine ld _ (E8.hh.cell rfl) ?_
        refine idx hour rfl (by omega) ?_
        refine ld _ v3' ?_
        refine barS (fun _ => True) trivial ?_
        have pk := pc0 (k := k)
        refine call_of (c_put M8' (hDp u8 k8'.size) hqp (by omega) (by simp [lossL]; omega)) ?_
        rintro _ u9 ⟨rfl, M9', k89'⟩
        refine strS trivial ?_
        refine arI (by have := hr.le; omega) ?_
        refine next (k + 1) ⟨by rw [Int.natCast_add]; rfl, trivial⟩ ⟨by omega, k8'.trans k89', ?_⟩ (by omega)
        rw [childL_succ, hrk, if_pos hup, ← List.append_assoc]
        exact M9'
      · refine arI (by have := hr.le; omega) ?_
        refine next (k + 1) ⟨by rw [Int.natCast_add]; rfl, trivial⟩ ⟨by omega, k8', ?_⟩ (by omega)
        rw [childL_succ, hrk, if_neg hup, List.append_nil]
        exact M8'
    have hk1 : k = d.reaches.length := by omega
    rw [hk1] at M6'
    clear hge hk
    refine fldA ?_
    refine ld (.slice A2 n2 c2) (E6'.dd.cell rfl) ?_
    refine len ?_
    -- the farms
    refine loop_rule (fun k : Nat => [(84, iv (k : Int))]) (fun k u' => k ≤ n2 ∧ Kept (fun b => Dl b ∨ b = p) u3 u' ∧ MovS (fun b => Dl b ∨ b = p) w u' q (prefL d x hour i ++ lossL d x hour i ++ childL d x hour i d.reaches.length ++ farmL d x hour i k)) (fun k _ => n2 - k) 0 ⟨rfl, trivial⟩ ⟨by omega, k6, by
      rw [show farmL d x hour i 0 = [] from rfl, List.append_nil]; exact M6'⟩ rfl ?_
    clear F6 E6' M6'
    rintro G k u6 ⟨hk, k6, M6'⟩
    have E6' := keyE u6 (kLow u6 (kAll u6 k6))
    have F6 := keyF u6 (kLow u6 (kAll u6 k6))
    refine cD (fun hlt => ?_) (fun hge => ?_)
    · have hlt : k < n2 := by omega
      obtain ⟨b, o, cs, r, rfl, hrx, -, -, hc, rfl⟩ := (hfa.kept (keyK u6 (kLow u6 (kAll u6 k6))) fun b _ hb => hb).at_ hlt
      refine idx k rfl hlt ?_
      refine ldA r.c hc rfl ?_
      refine alloc (fun t u7 g7 => ?_)
      refine stA (vs := r.c) g7.blk rfl (Nat.le_of_ble_eq_true rfl) (by simp [Value.oneCell']) (fun u8 tb8 s8 zu8 => ?_)
      have t1 := g7.at_
      have x68 : Ext u6 u8 := g7.ext.then s8 fun b hb _ e => by omega
      have M8' := M6'.ext x68
      have k8' : Kept (fun b => Dl b ∨ b = p) u3 u8 := k6.ext x68
      have hrk := frm_eq hrx
      refine fldA ?_
      refine ld (iv r.reach) (tb8.cell rfl) ?_
      refine cE (fun hup => ?_) (fun hup => ?_)
      · obtain ⟨f3, p3', R3', s3', u3', rfl, cc3', r3', -⟩ := row_at (i6.kept (keyK u8 (kLow u8 (kAll u8 k8'))) fun b _ hb => hb) (i := k) (by omega)
        have n3k := numB_iff.1 (tab_row hf.taken (i := k) (by omega)).2
        have q3k := r3'.len
        obtain ⟨v3a, v3b, rfl, v3'⟩ := num_at r3' (k := hour) (by omega)
        have E8 := keyE u8 (kLow u8 (kAll u8 k8'))
        refine drawP (.take 0 (.take 1 (.take 2 (.take 3 (.take 4 (.take 5 (.take 6 (.take 7 (.take 8 (.take 9 (.take 10 (.bar (.eff 11 .done))))))))))))) [11] (fun u => u = u8) mx (by kernel_rfl) rfl ?_
        refine ld _ ((keyF u8 (kLow u8 (kAll u8 k8'))).cell rfl) ?_
        refine fldA ?_
        refine ld _ (E8.xx.cell rfl) ?_
        refine idx k rfl (by omega) ?_
        refine ld _ cc3' ?_
        refine ld _ (E8.hh.cell rfl) ?_
        refine idx hour rfl (by omega) ?_
        refine ld _ v3' ?_
        refine barS (fun _ => True) trivial ?_
        have pk := pf0 (k := k)
        have pk0 := pc0 (k := d.reaches.length)
        refine call_of (c_put M8' (hDp u8 k8'.size) hqp (by omega) (by simp [lossL]; omega)) ?_
        rintro _ u9 ⟨rfl, M9', k89'⟩
        refine strS trivial ?_
        refine arI (by have := hfa.le; omega) ?_
        refine next (k + 1) ⟨by rw [Int.natCast_add]; rfl, trivial⟩ ⟨by omega, k8'.trans k89', ?_⟩ (by omega)
        rw [farmL_succ, hrk, if_pos hup, ← List.append_assoc]
        exact M9'
      · refine arI (by have := hfa.le; omega) ?_
        refine next (k + 1) ⟨by rw [Int.natCast_add]; rfl, trivial⟩ ⟨by omega, k8', ?_⟩ (by omega)
        rw [farmL_succ, hrk, if_neg hup, List.append_nil]
        exact M8'
    have hk2 : k = d.farms.length := by omega
    rw [hk2] at M6'
    clear hge hk
    -- the tail
    obtain ⟨f3, p3', R3', s3', u3', rfl, cc3', r3', -⟩ := row_at (i7.kept (keyK u6 (kLow u6 (kAll u6 k6))) fun b _ hb => hb) (i := i) (by omega)
    have n3k := numB_iff.1 (tab_row hf.tail hi).2
    have q3k := r3'.len
    obtain ⟨v3a, v3b, rfl, v3'⟩ := num_at r3' (k := hour) (by omega)
    refine drawP (.take 0 (.take 1 (.take 2 (.take 3 (.take 4 (.take 5 (.take 6 (.take 7 (.take 8 (.take 9 (.take 10 (.bar (.eff 11 .done))))))))))))) [11] (fun u => u = u6) mx (by kernel_rfl) rfl ?_
    refine ld _ (F6.cell rfl) ?_
    refine fldA ?_
    refine ld _ (E6'.xx.cell rfl) ?_
    refine idx i rfl (by omega) ?_
    refine ld _ cc3' ?_
    refine ld _ (E6'.hh.cell rfl) ?_
    refine idx hour rfl (by omega) ?_
    refine ld _ v3' ?_
    refine barS (fun _ => True) trivial ?_
    have pk := pf0 (k := d.farms.length)
    have pk0 := pc0 (k := d.reaches.length)
    refine call_of (c_put M6' (hDp u6 k6.size) hqp (by omega) (by simp [lossL]; omega)) ?_
    rintro _ u10 ⟨rfl, M10, k10⟩
    refine strS trivial ?_
    have k3x := k6.trans k10
    refine roundN' _ (lu3.kept k3x (.inl DlL)) (fun u11 s11 l11 => ?_)
    refine .inl ⟨rfl, (kAll u10 k3x).then s11 (fun b _ h => h.2), l11, ?_⟩
    have M10' : MovS Dl w u10 q (prefL d x hour (i + 1)) := by
      rw [prefL_succ]
      have := M10.sub (D2 := Dl) fun b hb => .inl hb
      have e : prefL d x hour i ++ endL d x hour i = prefL d x hour i ++ lossL d x hour i ++ childL d x hour i d.reaches.length ++ farmL d x hour i d.farms.length ++ [⟨(2, i), (6, i), g2 x.tail i hour⟩] := by
        unfold endL; simp only [List.append_assoc]
      rw [e]; exact this
    exact M10'.kept s11 (fun e => hDq (e ▸ DlL)) (fun g hg e => hg (e ▸ DlL)) (((M10'.ex.choose_spec.choose_spec.choose_spec).2.1).ext.then s11 fun b hb _ e => by omega)
  · rintro _ w30 (⟨k30, l30, m30⟩ | h)
    · subst hR
      refine range_end _ l30 (by simp) (fun w31 s31 => ?_)
      have hLi : w11.heap.size + 1 < w12.heap.size := hl12.lt
      have DlL : Dl (w11.heap.size + 1) := dlHi _ (by omega) hLi
      have m31 := m30.kept s31 (fun e => hDq (e ▸ DlL)) (fun g hg e => hg (e ▸ DlL)) (((m30.ex.choose_spec.choose_spec.choose_spec).2.1).ext.then s31 fun b hb _ e => by omega)
      obtain ⟨A, n, c, r1, r2, r3'⟩ := m31.ex
      refine ld (.slice A n c) (r1.cell rfl) ?_
      refine st1 r1 rfl (fun w32 q32 s32 => ?_)
      have k32 : Kept (fun b => Dl b ∧ b ≠ w11.heap.size + 1) w12 w32 := (k30.then s31 fun b _ h => h.2).then s32 fun b _ h e => hDq (e ▸ h.1)
      have hAq : ∀ g, A = some (ad g 0) → g ≠ q := fun g hg e => by
        subst e
        obtain ⟨rest, hb3, _⟩ := Own.blk (hg ▸ r2.own)
        have := (r1.uniq hb3).1
        exact absurd this (by decide)
      have r2' := r2.thenK s32 hAq (r2.ext.then s32 fun b hb _ e => by omega)
      have hD32 : w32.heap[w11.heap.size]? = some (.deferred (some [])) := (k32.blk _ (by omega) ⟨dlHi _ (by omega) (by omega), by omega⟩).trans hD12
      refine retM hD32 ?_
      have k33 := Kept.putObj w32 w11.heap.size (.deferred none)
      have hq11 : q ≠ w11.heap.size := by omega
      refine resL _ (holds_cell ((q32.kept k33 hq11).cell rfl)) ?_
      refine ⟨A, n, c, rfl, r2'.thenK k33 (fun g hg e => ?_) (r2'.ext.then k33 fun b hb _ e => by omega)⟩
      exact r3' g hg (e ▸ dlHi _ (by omega) (by omega))
    · exact h.elim
end
end Go.Proofs.YtehcphboliofaaaGreatDoor
