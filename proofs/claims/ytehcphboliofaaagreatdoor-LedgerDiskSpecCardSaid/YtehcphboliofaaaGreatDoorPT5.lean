/- Parts of the proof: A6 A7 A8 A9 Aa Ab B1 B2 Ji L1 L2 L3. -/
import Derived.Test.YtehcphboliofaaaGreatDoorPT4
import Derived.Test.YtehcphboliofaaaGreatDoorPT3
import Derived.ProofKit
import Derived.OpenShut
import Derived.LaidMore
import Derived.Deep.DeepHandedRow
namespace Go.Proofs.YtehcphboliofaaaGreatDoor
open Go Go.RowKit
instance eqRight : EqTy Tryz.prog 266 := ⟨by kernel_rfl⟩
def tI0 : Ty Int := tFl 1 (fun x => [iv x]) fun _ => rfl
theorem NewB.i0 {w w' : World} {e : TypeId} {g : Nat} (xs : List Int) (hb : NewB w e (xs.map fun x => .int .i64 x) g w') (hl : Nat.ble xs.length 1000 = true := by rfl) : SlR tI0 (fun _ => True) w' (some (ad g 0)) xs.length xs :=
  SlR.of_cells rfl (by have := Nat.le_of_ble_eq_true hl; omega) trivial (.blk hb.blk) (by
    clear hl hb
    induction xs with
    | nil => rfl
    | cons x xs ih => exact ⟨[iv x], _, rfl, rfl, ih⟩)
def kindOk (h : Int) (x : Right) : Bool :=
  if x.kind = 1 then decide (x.reach = 0) && (inI x.rank 0 1048576 && (inI x.litres 1 1073741824 && (inI x.length 1 x.every && decide (x.every ≤ h))))
  else if x.kind = 2 then decide (x.rank = 0) && (decide (x.litres = 0) && (decide (x.every = 0) && (decide (x.length = 0) && (decide (x.frm = 0) && decide (x.to = h - 1)))))
  else if x.kind = 3 then decide (x.rank = 0) && (decide (x.litres = 0) && (decide (x.every = 0) && decide (x.length = 0)))
  else false
def rightOk (nf nr : Nat) (h : Int) (x : Right) : Bool := inI x.farm 0 ((nf : Int) - 1) && (inI x.reach 0 ((nr : Int) - 1) && (inI x.frm 0 x.to && (decide (x.to < h) && kindOk h x)))
theorem rising4 {a b c e : Int} : risingL [a, b, c, e] = true ↔ a ≤ b ∧ b ≤ c ∧ c ≤ e := by unfold risingL risingL risingL risingL; simp
theorem rising4' {a b c e : Int} : risingL [a, b, c, e] = false ↔ ¬ (a ≤ b ∧ b ≤ c ∧ c ≤ e) := by rw [← rising4]; simp
theorem rising3' {a b c : Int} : risingL [a, b, c] = true ↔ a ≤ b ∧ b ≤ c := by rw [rising3, inI_iff]
theorem rising3n {a b c : Int} : risingL [a, b, c] = false ↔ ¬ (a ≤ b ∧ b ≤ c) := by rw [rising3, inI_not]
section
variable {D : Nat → Prop} {w : World}
theorem c_rising {xs : List Int} {A : Option Addr} {n c : Nat} (h : SlR tI0 D w A n xs) : CallZ Tryz.prog 188 #[.slice A n c] w (fun v w' => v = .bool (risingL xs) ∧ w' = w) := by
  refine fn_rule (args := [.slice A n c]) Tryz.func188 (by kernel_rfl) ?_; refine loop_rule (fun k : Nat => [(3, iv (k : Int))]) (fun k w' => w' = w ∧ 1 ≤ k ∧ (k ≤ n ∨ k = 1) ∧ risingL xs = risingL (xs.drop (k - 1))) (fun k _ => n + 1 - k) 1 ⟨rfl, trivial⟩ ⟨rfl, by omega, by omega, by rw [Nat.sub_self, List.drop_zero]⟩ rfl ?_; rintro G k w' ⟨rfl, h1, h2, he⟩; refine len ?_; refine cD (fun hlt => ?_) (fun hge => ?_)
  · refine drawQ mx (by kernel_rfl) ?_; obtain ⟨b, o, cs, x, rfl, -, hx, -, hc, rfl⟩ := h.at_ (show k < n by omega); obtain ⟨b', o', cs, y, hb, -, hy, -, hc', rfl⟩ := h.at_ (show k - 1 < n by omega)
    cases hb
    refine idx k rfl (by omega) ?_; refine ldS (iv x) (fun u hu => by rw [hu]; exact hc 0 _ rfl) ?_; refine arI (by have := h.le; omega) ?_; refine idx (k - 1) (by omega) (by omega) ?_; refine ldS (iv y) (fun u hu => by rw [hu]; exact hc' 0 _ rfl) ?_; rw [hy, show k - 1 + 1 = k by omega, hx] at he; refine cD (fun g => ?_) (fun g => ?_)
    · exact ret1 (.bool false) rfl ⟨by rw [he, risingL, decide_eq_false (by omega)]; rfl, rfl⟩
    · refine arI (by have := h.le; omega) ?_; refine next (k + 1) ⟨by rw [Int.natCast_add]; rfl, trivial⟩ ⟨rfl, by omega, by omega, ?_⟩ (by omega); rw [he, risingL, decide_eq_true (by omega), Nat.add_sub_cancel, hx]; rfl
  · refine ret1 (.bool true) rfl ⟨?_, rfl⟩; rw [he]; have hl := h.len
    match hd : xs.drop (k - 1), (show (xs.drop (k - 1)).length ≤ 1 by rw [List.length_drop]; omega) with
    | [], _ => rfl
    | [_], _ => rfl
theorem c_ereach {i : Nat} {x : Reach} : CallZ Tryz.prog 189 #[iv (i : Int), x.v] w (fun v w' => v = .bool (upOk i x.up && reachOk x) ∧ Ext w w') := by
  refine fn_rule (args := [iv (i : Int), .agg #[.string x.name, iv x.up, iv x.delay, iv x.cap, iv x.bank, iv x.siphon, iv x.evap.lo, iv x.evap.hi, iv x.s0.n, iv x.s0.d, iv x.s1.n, iv x.s1.d]]) Tryz.func189 (by kernel_rfl) ?_; refine box (fun g w1 h1 => ?_)
  have bad : ¬ (upOk i x.up = true ∧ reachOk x = true) → Value.bool false = .bool (upOk i x.up && reachOk x) := fun h => by rw [show (upOk i x.up && reachOk x) = false from Bool.eq_false_iff.2 fun e => h (by simpa using e)]
  refine fldA ?_; refine ld (iv x.up) (h1.blk.cell rfl) ?_; refine cE (fun h0 => ?a) (fun h0 => ?b)
  all_goals refine cD (fun hi => ?_) (fun hi => ?_)
  case' b.refine_2 =>
    exact ret1 (.bool false) rfl ⟨bad fun h => by have := h.1; unfold upOk at this; rw [if_pos (by omega), decide_eq_true_eq] at this; exact h0 this, h1.ext⟩
  case' a.refine_1 =>
    refine fldA ?_; refine ld (iv x.up) (h1.blk.cell rfl) ?_; refine callB c_eindex (fun hb => ?_) (fun hb => ?_); rotate_left
    · exact ret1 (.bool false) rfl ⟨bad fun h => by have := h.1; unfold upOk at this; rw [if_neg (by omega), hb] at this; exact Bool.noConfusion this, h1.ext⟩
    have hu : upOk i x.up = true := by unfold upOk; rw [if_neg (by omega), hb]
  case' b.refine_1 =>
    refine fldA ?_; refine ld (iv x.up) (h1.blk.cell rfl) ?_; refine callB c_eindex (fun hb => ?_) (fun hb => ?_); rotate_left
    · exact ret1 (.bool false) rfl ⟨bad fun h => by have := h.1; unfold upOk at this; rw [if_neg (by omega), hb] at this; exact Bool.noConfusion this, h1.ext⟩
    have hu : upOk i x.up = true := by unfold upOk; rw [if_neg (by omega), hb]
  case' a.refine_2 =>
    have hu : upOk i x.up = true := by unfold upOk; rw [if_pos (by omega), h0]; rfl
  all_goals
    refine fldA ?_; refine ld (iv x.delay) (h1.blk.cell rfl) ?_; refine lit [iv 1, iv x.delay, iv 16] (fun g2 w2 hb2 => ?_); refine callB (c_rising (hb2.i0 [1, x.delay, 16])) (fun r1 => ?_) (fun r1 => ?_); rotate_left
    · exact ret1 (.bool false) rfl ⟨bad fun h => rising3n.1 r1 (reachOk_iff.1 h.2).1, h1.ext.trans hb2.ext⟩
    have y2 := h1.blk.ext hb2.ext; refine fldA ?_; refine ld (iv x.siphon) (y2.cell rfl) ?_; refine fldA ?_; refine ld (iv x.cap) (y2.cell rfl) ?_; refine lit [iv 0, iv x.siphon, iv x.cap, iv 1073741824] (fun g3 w3 hb3 => ?_); have x3 := hb2.ext.trans hb3.ext; refine callB (c_rising (hb3.i0 [0, x.siphon, x.cap, 1073741824])) (fun r2 => ?_) (fun r2 => ?_); rotate_left
    · exact ret1 (.bool false) rfl ⟨bad fun h => rising4'.1 r2 (by have := reachOk_iff.1 h.2; omega), h1.ext.trans x3⟩
    have y3 := h1.blk.ext x3; refine fldA ?_; refine ld (iv x.siphon) (y3.cell rfl) ?_; refine fldA ?_; refine ld (iv x.bank) (y3.cell rfl) ?_; refine lit [iv 0, iv x.siphon, iv x.bank, iv 1099511627776] (fun g4 w4 hb4 => ?_); have x4 := x3.trans hb4.ext; refine callB (c_rising (hb4.i0 [0, x.siphon, x.bank, 1099511627776])) (fun r3 => ?_) (fun r3 => ?_); rotate_left
    · exact ret1 (.bool false) rfl ⟨bad fun h => rising4'.1 r3 (by have := reachOk_iff.1 h.2; omega), h1.ext.trans x4⟩
    have y4 := h1.blk.ext x4; refine fldA ?_; refine fldA ?_; refine ld (iv x.evap.lo) (y4.cell rfl) ?_; refine fldA ?_; refine fldA ?_; refine ld (iv x.evap.hi) (y4.cell rfl) ?_; refine lit [iv 0, iv x.evap.lo, iv x.evap.hi, iv 1073741824] (fun g5 w5 hb5 => ?_); have x5 := x4.trans hb5.ext; refine callB (c_rising (hb5.i0 [0, x.evap.lo, x.evap.hi, 1073741824])) (fun r4 => ?_) (fun r4 => ?_); rotate_left
    · exact ret1 (.bool false) rfl ⟨bad fun h => rising4'.1 r4 (lossOk_iff.1 (reachOk_iff.1 h.2).2.2.2.2).1, h1.ext.trans x5⟩
    refine fldA ?_; refine ldA [iv x.s0.n, iv x.s0.d, iv x.s1.n, iv x.s1.d] (((CellsAt.blk h1.blk).mid 8 4).kept x5 trivial) rfl ?_; refine callE (c_eshare (a := x.s0) (b := x.s1)) (fun w6 hs x6 => ?_) (fun w6 hs x6 => ?_)
    · have := rising3'.1 r1; have := rising4.1 r2; have := rising4.1 r3; have he := rising4.1 r4; exact ret1 (.bool true) rfl ⟨by rw [hu, reachOk_iff.2 ⟨by omega, by omega, by omega, by omega, lossOk_iff.2 ⟨he, hs⟩⟩]; rfl, h1.ext.trans (x5.trans x6)⟩
    · exact ret1 (.bool false) rfl ⟨bad fun h => by have := (lossOk_iff.1 (reachOk_iff.1 h.2).2.2.2.2).2; rw [hs] at this; exact Bool.noConfusion this, h1.ext.trans (x5.trans x6)⟩
end
section
variable {D : Nat → Prop} {w : World}
theorem c_eright {d : Dist} {cs : List Value} {x : Right} (hd : DiR D w cs d) (hh : 1 ≤ d.hours ∧ d.hours ≤ 4096) : CallZ Tryz.prog 191 #[.agg cs.toArray, .agg x.c.toArray] w (fun v w' => v = .bool (rightOk d.farms.length d.reaches.length d.hours x) ∧ Ext w w') := by
  obtain ⟨A1, n1, c1, A2, n2, c2, A3, n3, c3, A4, n4, c4, A5, n5, c5, A6, n6, c6, rfl, hr, hf, hcr, hri, hdu, hwe⟩ := hd.ex; have l1 := hr.len; have l2 := hf.len; have e1 := hr.le; have e2 := hf.le; refine fn_rule (args := [.agg #[.string d.name, iv d.hours, iv d.cap, iv d.start, .slice A1 n1 c1, .slice A2 n2 c2, .slice A3 n3 c3, .slice A4 n4 c4, .slice A5 n5 c5, .slice A6 n6 c6], .agg #[.string x.name, iv x.kind, iv x.farm, iv x.reach, iv x.rank, iv x.litres, iv x.frm, iv x.to, iv x.every, iv x.length]]) Tryz.func191 (by kernel_rfl) ?_
  have bad : ¬ (rightOk d.farms.length d.reaches.length d.hours x = true) → Value.bool false = .bool (rightOk d.farms.length d.reaches.length d.hours x) := fun h => by rw [Bool.eq_false_iff.2 h]
  have iff : rightOk d.farms.length d.reaches.length d.hours x = true ↔ inI x.farm 0 ((n2 : Int) - 1) = true ∧ inI x.reach 0 ((n1 : Int) - 1) = true ∧ (0 ≤ x.frm ∧ x.frm ≤ x.to) ∧ x.to < d.hours ∧ kindOk d.hours x = true := by
    unfold rightOk; rw [l1, l2]; simp only [Bool.and_eq_true, decide_eq_true_eq, inI_iff]
  refine box (fun g w1 h1 => ?_); refine box (fun q w2 h2 => ?_); have bg := h1.blk.ext h2.ext; have bq := h2.blk; have x2 := h1.ext.trans h2.ext; refine fldA ?_; refine ld (iv x.farm) (bq.cell rfl) ?_; refine fldA ?_; refine ld (.slice A2 n2 c2) (bg.cell rfl) ?_; refine len ?_; refine callB c_eindex (fun a1 => ?_) (fun a1 => ?_); rotate_left
  · exact ret1 (.bool false) rfl ⟨bad fun h => by have := (iff.1 h).1; rw [a1] at this; exact Bool.noConfusion this, x2⟩
  refine fldA ?_; refine ld (iv x.reach) (bq.cell rfl) ?_; refine fldA ?_; refine ld (.slice A1 n1 c1) (bg.cell rfl) ?_; refine len ?_; refine callB c_eindex (fun a2 => ?_) (fun a2 => ?_); rotate_left
  · exact ret1 (.bool false) rfl ⟨bad fun h => by have := (iff.1 h).2.1; rw [a2] at this; exact Bool.noConfusion this, x2⟩
  refine fldA ?_; refine ld (iv x.frm) (bq.cell rfl) ?_; refine fldA ?_; refine ld (iv x.to) (bq.cell rfl) ?_; refine fldA ?_; refine ld (iv d.hours) (bg.cell rfl) ?_; refine arI (by omega) ?_; refine lit [iv 0, iv x.frm, iv x.to, iv (d.hours - 1)] (fun g3 w3 hb3 => ?_); refine callB (c_rising (hb3.i0 [0, x.frm, x.to, d.hours - 1])) (fun a3 => ?_) (fun a3 => ?_); rotate_left
  · exact ret1 (.bool false) rfl ⟨bad fun h => rising4'.1 a3 (by have := iff.1 h; omega), x2.trans hb3.ext⟩
  have a3 := rising4.1 a3
  have iff2 : rightOk d.farms.length d.reaches.length d.hours x = true ↔ kindOk d.hours x = true := by
    rw [iff]; exact ⟨fun h => h.2.2.2.2, fun h => ⟨a1, a2, by omega, by omega, h⟩⟩
  have x3 := x2.trans hb3.ext; have bg3 := bg.ext hb3.ext; have bq3 := bq.ext hb3.ext; refine fldA ?_; refine ld (iv x.kind) (bq3.cell rfl) ?_; refine cE (fun k1 => ?_) (fun k1 => ?_)
  · have iff3 : kindOk d.hours x = true ↔ x.reach = 0 ∧ (0 ≤ x.rank ∧ x.rank ≤ 1048576) ∧ (1 ≤ x.litres ∧ x.litres ≤ 1073741824) ∧ (1 ≤ x.length ∧ x.length ≤ x.every) ∧ x.every ≤ d.hours := by
      unfold kindOk; rw [if_pos k1]; simp only [Bool.and_eq_true, decide_eq_true_eq, inI_iff]
    refine fldA ?_; refine ld (iv x.reach) (bq3.cell rfl) ?_; refine cE (fun b1 => ?_) (fun b1 => ?_); rotate_left
    · exact ret1 (.bool false) rfl ⟨bad fun h => b1 (iff3.1 (iff2.1 h)).1, x3⟩
    refine fldA ?_; refine ld (iv x.rank) (bq3.cell rfl) ?_; refine lit [iv 0, iv x.rank, iv 1048576] (fun g4 w4 hb4 => ?_); refine callB (c_rising (hb4.i0 [0, x.rank, 1048576])) (fun b2 => ?_) (fun b2 => ?_); rotate_left
    · exact ret1 (.bool false) rfl ⟨bad fun h => rising3n.1 b2 (iff3.1 (iff2.1 h)).2.1, x3.trans hb4.ext⟩
    refine fldA ?_; refine ld (iv x.litres) ((bq3.ext hb4.ext).cell rfl) ?_; refine lit [iv 1, iv x.litres, iv 1073741824] (fun g5 w5 hb5 => ?_); have x35 := hb4.ext.trans hb5.ext; refine callB (c_rising (hb5.i0 [1, x.litres, 1073741824])) (fun b3 => ?_) (fun b3 => ?_); rotate_left
    · exact ret1 (.bool false) rfl ⟨bad fun h => rising3n.1 b3 (iff3.1 (iff2.1 h)).2.2.1, x3.trans x35⟩
    refine fldA ?_; refine ld (iv x.length) ((bq3.ext x35).cell rfl) ?_; refine fldA ?_; refine ld (iv x.every) ((bq3.ext x35).cell rfl) ?_; refine fldA ?_; refine ld (iv d.hours) ((bg3.ext x35).cell rfl) ?_; refine lit [iv 1, iv x.length, iv x.every, iv d.hours] (fun g6 w6 hb6 => ?_); have x36 := x35.trans hb6.ext; refine callB (c_rising (hb6.i0 [1, x.length, x.every, d.hours])) (fun b4 => ?_) (fun b4 => ?_)
    · have b4 := rising4.1 b4; exact ret1 (.bool true) rfl ⟨by rw [iff2.2 (iff3.2 ⟨b1, rising3'.1 b2, rising3'.1 b3, by omega, by omega⟩)], x3.trans x36⟩
    · exact ret1 (.bool false) rfl ⟨bad fun h => rising4'.1 b4 (by have := iff3.1 (iff2.1 h); omega), x3.trans x36⟩
  refine cE (fun k2 => ?_) (fun k2 => ?_)
  · have iff3 : kindOk d.hours x = true ↔ x.rank = 0 ∧ x.litres = 0 ∧ x.every = 0 ∧ x.length = 0 ∧ x.frm = 0 ∧ x.to = d.hours - 1 := by
      unfold kindOk; rw [if_neg k1, if_pos k2]; simp only [Bool.and_eq_true, decide_eq_true_eq]
    refine ldA x.c (.blk bq3) rfl ?_; refine fldA ?_; refine ld (.string x.name) (bq3.cell rfl) ?_; refine fldA ?_; refine ld (iv x.kind) (bq3.cell rfl) ?_; refine fldA ?_; refine ld (iv x.farm) (bq3.cell rfl) ?_; refine fldA ?_; refine ld (iv x.reach) (bq3.cell rfl) ?_; refine fldA ?_; refine ld (iv d.hours) (bg3.cell rfl) ?_; refine arI (by omega) ?_; refine bld [.string x.name, iv x.kind, iv x.farm, iv x.reach, iv 0, iv 0, iv 0, iv (d.hours - 1), iv 0, iv 0] (by kernel_rfl) ?_; refine eqS ((x.name.toList == x.name.toList) && ((x.kind == x.kind) && ((x.farm == x.farm) && ((x.reach == x.reach) && ((x.rank == 0) && ((x.litres == 0) && ((x.frm == 0) && ((x.to == d.hours - 1) && ((x.every == 0) && ((x.length == 0) && true)))))))))) (by kernel_rfl) (fun b => ?_) (fun b => ?_)
    · refine ret1 (.bool true) rfl ⟨?_, x3⟩; simp at b; rw [iff2.2 (iff3.2 (by omega))]
    · refine ret1 (.bool false) rfl ⟨bad fun h => ?_, x3⟩; have := iff3.1 (iff2.1 h); simp [this] at b
  refine cE (fun k3 => ?_) (fun k3 => ?_)
  · have iff3 : kindOk d.hours x = true ↔ x.rank = 0 ∧ x.litres = 0 ∧ x.every = 0 ∧ x.length = 0 := by
      unfold kindOk; rw [if_neg k1, if_neg k2, if_pos k3]; simp only [Bool.and_eq_true, decide_eq_true_eq]
    refine ldA x.c (.blk bq3) rfl ?_; refine fldA ?_; refine ld (.string x.name) (bq3.cell rfl) ?_; refine fldA ?_; refine ld (iv x.kind) (bq3.cell rfl) ?_; refine fldA ?_; refine ld (iv x.farm) (bq3.cell rfl) ?_; refine fldA ?_; refine ld (iv x.reach) (bq3.cell rfl) ?_; refine fldA ?_; refine ld (iv x.frm) (bq3.cell rfl) ?_; refine fldA ?_; refine ld (iv x.to) (bq3.cell rfl) ?_; refine bld [.string x.name, iv x.kind, iv x.farm, iv x.reach, iv 0, iv 0, iv x.frm, iv x.to, iv 0, iv 0] (by kernel_rfl) ?_; refine eqS ((x.name.toList == x.name.toList) && ((x.kind == x.kind) && ((x.farm == x.farm) && ((x.reach == x.reach) && ((x.rank == 0) && ((x.litres == 0) && ((x.frm == x.frm) && ((x.to == x.to) && ((x.every == 0) && ((x.length == 0) && true)))))))))) (by kernel_rfl) (fun b => ?_) (fun b => ?_)
    · refine ret1 (.bool true) rfl ⟨?_, x3⟩; simp at b; rw [iff2.2 (iff3.2 (by omega))]
    · refine ret1 (.bool false) rfl ⟨bad fun h => ?_, x3⟩; have := iff3.1 (iff2.1 h); simp [this] at b
  · refine ret1 (.bool false) rfl ⟨bad fun h => ?_, x3⟩; have := iff2.1 h; unfold kindOk at this; rw [if_neg k1, if_neg k2, if_neg k3] at this; exact Bool.noConfusion this
abbrev refusal (e : Int) : List PanicEntry := [{ v := .iface 258 (iv e), recovered := false }]
theorem c_demand {ok : Bool} {e : Int} : CallX Tryz.prog 127 #[.bool ok, iv e] w (fun v w' => v = .tuple #[] ∧ ok = true ∧ w' = w) (fun ch w' => ok = false ∧ w' = w ∧ ch = refusal e) := by
  refine fn_ruleX (args := [.bool ok, iv e]) Tryz.func127 (by kernel_rfl) ?_
  cases ok with
  | true => exact ret0 ⟨rfl, rfl, rfl⟩
  | false =>
    refine mkI rfl (by kernel_rfl) ?_; refine panicI rfl ?_; exact fun _ _ => ⟨rfl, rfl, rfl, rfl⟩
theorem dem {ok : Bool} {e : Int} {K : VK} {X : XK} (k1 : ok = true → K (.tuple #[]) w) (k2 : ok = false → X (refusal e) w) : CallP Tryz.prog 127 #[.bool ok, iv e] K X w := by
  refine call_ofX c_demand ?_ ?_
  · rintro _ _ ⟨rfl, h, rfl⟩; exact k1 h
  · rintro _ _ ⟨h, rfl, rfl⟩; exact k2 h
end
def reachesB : Nat → List Reach → Bool
  | _, [] => true
  | i, x :: l => (upOk i x.up && reachOk x) && reachesB (i + 1) l
def cropOk (x : Crop) : Bool := inI x.need 0 1048576
def farmOk (nr nc : Nat) (x : Farm) : Bool := (if 0 < x.area then inI x.crop 0 ((nc : Int) - 1) else decide (x.crop = -1)) && (inI x.reach 0 ((nr : Int) - 1) && inI x.area 0 1048576)
def dutyOk (nf nr : Nat) (h : Int) (x : Duty) : Bool := inI x.farm 0 ((nf : Int) - 1) && (inI x.reach 0 ((nr : Int) - 1) && inI x.due 0 h)
def headOk (d : Dist) : Bool := inI d.hours 1 4096 && (inI d.start 0 d.cap && (decide (d.cap ≤ 1099511627776) && decide (0 < d.reaches.length)))
theorem headOk_iff {d : Dist} : headOk d = true ↔ (1 ≤ d.hours ∧ d.hours ≤ 4096) ∧ (0 ≤ d.start ∧ d.start ≤ d.cap) ∧ d.cap ≤ 1099511627776 ∧ 0 < d.reaches.length := by unfold headOk; simp only [Bool.and_eq_true, decide_eq_true_eq, inI_iff]
def validB (d : Dist) : Bool := headOk d && (reachesB 0 d.reaches && (d.crops.all cropOk && (d.farms.all (farmOk d.reaches.length d.crops.length) && (d.rights.all (rightOk d.farms.length d.reaches.length d.hours) && d.duties.all (dutyOk d.farms.length d.reaches.length d.hours)))))
theorem validB_iff {d : Dist} : validB d = true ↔ headOk d = true ∧ reachesB 0 d.reaches = true ∧ d.crops.all cropOk = true ∧ d.farms.all (farmOk d.reaches.length d.crops.length) = true ∧ d.rights.all (rightOk d.farms.length d.reaches.length d.hours) = true ∧ d.duties.all (dutyOk d.farms.length d.reaches.length d.hours) = true := by
  unfold validB; simp only [Bool.and_eq_true]
section
variable {D : Nat → Prop} {w : World}
theorem c_examine {d : Dist} {cs : List Value} {e : Int} (hd : DiR D w cs d) : CallX Tryz.prog 128 #[.agg cs.toArray, iv e] w (fun v w' => v = .tuple #[] ∧ validB d = true ∧ Ext w w') (fun ch w' => validB d = false ∧ Ext w w' ∧ ch = refusal e) := by
  obtain ⟨A1, n1, c1, A2, n2, c2, A3, n3, c3, A4, n4, c4, A5, n5, c5, A6, n6, c6, rfl, hr, hf, hcr, hri, hdu, hwe⟩ := hd.ex; have l1 := hr.len; have l2 := hf.len; have l3 := hcr.len; refine fn_ruleX (args := [.agg #[.string d.name, iv d.hours, iv d.cap, iv d.start, .slice A1 n1 c1, .slice A2 n2 c2, .slice A3 n3 c3, .slice A4 n4 c4, .slice A5 n5 c5, .slice A6 n6 c6], iv e]) Tryz.func128 (by kernel_rfl) ?_; have bad : ¬ (validB d = true) → validB d = false := Bool.eq_false_iff.2; refine box (fun g w1 h1 => ?_); have bg := h1.blk; have x1 := h1.ext; have zg := h1.at_; have hlt := bg.lt
  -- the head
  have tail1 : ∀ w2, Ext w1 w2 → headOk d = true → True := fun _ _ _ => trivial; refine fldA ?_; refine ld (iv d.hours) (bg.cell rfl) ?_; refine lit [iv 1, iv d.hours, iv 4096] (fun g3 w3 hb3 => ?_); refine callB (c_rising (hb3.i0 [1, d.hours, 4096])) (fun a1 => ?_) (fun a1 => ?_); rotate_left
  · refine dem (fun h => Bool.noConfusion h) (fun _ => ?_); exact fun _ _ => ⟨rfl, bad fun h => rising3n.1 a1 (headOk_iff.1 (validB_iff.1 h).1).1, x1.trans hb3.ext, rfl⟩
  have b3 := bg.ext hb3.ext; refine fldA ?_; refine fldA ?_; refine ld (iv d.start) (b3.cell rfl) ?_; refine fldA ?_; refine fldA ?_; refine ld (iv d.cap) (b3.cell rfl) ?_; refine lit [iv 0, iv d.start, iv d.cap, iv 1099511627776] (fun g4 w4 hb4 => ?_); have x4 := hb3.ext.trans hb4.ext; refine callB (c_rising (hb4.i0 [0, d.start, d.cap, 1099511627776])) (fun a2 => ?_) (fun a2 => ?_); rotate_left
  · refine dem (fun h => Bool.noConfusion h) (fun _ => ?_); exact fun _ _ => ⟨rfl, bad fun h => rising4'.1 a2 (by have := headOk_iff.1 (validB_iff.1 h).1; omega), x1.trans x4, rfl⟩
  have b4 := bg.ext x4; refine fldA ?_; refine ld (.slice A1 n1 c1) (b4.cell rfl) ?_; refine len ?_; refine cD (fun a3 => ?_) (fun a3 => ?_); rotate_left
  · refine dem (fun h => Bool.noConfusion h) (fun _ => ?_); exact fun _ _ => ⟨rfl, bad fun h => by have := headOk_iff.1 (validB_iff.1 h).1; omega, x1.trans x4, rfl⟩
  refine dem (fun _ => ?_) (fun h => Bool.noConfusion h); have a1 := rising3'.1 a1; have a2 := rising4.1 a2; have hH : headOk d = true := headOk_iff.2 (by omega); clear a2 tail1; refine fldA ?_; refine ld (.slice A1 n1 c1) (b4.cell rfl) ?_; refine len ?_
  -- the reaches
  refine loop_rule (fun k : Nat => [(40, iv (k : Int))]) (fun k w' => k ≤ n1 ∧ Ext w1 w' ∧ reachesB 0 d.reaches = reachesB k (d.reaches.drop k)) (fun k _ => n1 - k) 0 ⟨rfl, trivial⟩ ⟨by omega, x4, rfl⟩ rfl ?_; rintro G k w5 ⟨hk, x5, he⟩; refine cD (fun hlt => ?_) (fun hge => ?_)
  · obtain ⟨b, o, cs, x, rfl, -, hx, -, hc, rfl⟩ := (hr.ext (x1.trans x5)).at_ (show k < n1 by omega); rw [hx, reachesB] at he; refine idx k rfl (by omega) ?_; refine ldA x.c hc rfl ?_; refine alloc (fun q w6 h6 => ?_); refine stA (vs := x.c) h6.blk rfl (Nat.le_of_ble_eq_true rfl) (by simp [Value.oneCell']) (fun w7 hb7 k7 z7 => ?_); have z6 := h6.at_; have zz := x5.size
    have x7 : Ext w1 w7 := (x5.trans h6.ext).then k7 fun b hb _ e => by omega
    refine ldA x.c (.blk hb7) rfl ?_; refine callE (c_ereach (i := k) (x := x)) (fun w8 hq x8 => ?_) (fun w8 hq x8 => ?_)
    · refine dem (fun _ => ?_) (fun h => Bool.noConfusion h); refine arI (by have := hr.le; omega) ?_; refine next (k + 1) ⟨by rw [Int.natCast_add]; rfl, trivial⟩ ⟨by omega, x7.trans x8, ?_⟩ (by omega); rw [he, hq]; rfl
    · refine dem (fun h => Bool.noConfusion h) (fun _ => ?_); exact fun _ _ => ⟨rfl, bad fun h => by have := (validB_iff.1 h).2.1; rw [he, hq] at this; exact Bool.noConfusion this, x1.trans (x7.trans x8), rfl⟩
  have hR : reachesB 0 d.reaches = true := by rw [he, drop_end (by omega)]; rfl
  clear he hge

  refine fldA ?_; refine ld (.slice A3 n3 c3) ((bg.ext x5).cell rfl) ?_; refine len ?_
  -- the crops
  refine loop_rule (fun k : Nat => [(54, iv (k : Int))]) (fun k w' => k ≤ n3 ∧ Ext w1 w' ∧ d.crops.all cropOk = (d.crops.drop k).all cropOk) (fun k _ => n3 - k) 0 ⟨rfl, trivial⟩ ⟨by omega, x5, rfl⟩ rfl ?_; rintro G k w9 ⟨hk, x9, he⟩; refine cD (fun hlt => ?_) (fun hge => ?_)
  · obtain ⟨b, o, cs, x, rfl, -, hx, -, hc, rfl⟩ := (hcr.ext (x1.trans x9)).at_ (show k < n3 by omega); rw [hx, List.all_cons] at he; refine idx k rfl (by omega) ?_; refine ldA x.c hc rfl ?_; refine alloc (fun q w6 h6 => ?_); refine stA (vs := x.c) h6.blk rfl (Nat.le_of_ble_eq_true rfl) (by simp [Value.oneCell']) (fun w7 hb7 k7 z7 => ?_); have z6 := h6.at_; have zz := x9.size
    have x7 : Ext w1 w7 := (x9.trans h6.ext).then k7 fun b hb _ e => by omega
    refine fldA ?_; refine ld (iv x.need) (hb7.cell rfl) ?_; refine lit [iv 0, iv x.need, iv 1048576] (fun g8 w8 hb8 => ?_); refine callB (c_rising (hb8.i0 [0, x.need, 1048576])) (fun hq => ?_) (fun hq => ?_)
    · refine dem (fun _ => ?_) (fun h => Bool.noConfusion h); refine arI (by have := hcr.le; omega) ?_; refine next (k + 1) ⟨by rw [Int.natCast_add]; rfl, trivial⟩ ⟨by omega, x7.trans hb8.ext, ?_⟩ (by omega); rw [he, show cropOk x = true from rising3.symm.trans hq]; rfl
    · refine dem (fun h => Bool.noConfusion h) (fun _ => ?_); exact fun _ _ => ⟨rfl, bad fun h => by have := (validB_iff.1 h).2.2.1; rw [he, show cropOk x = false from rising3.symm.trans hq] at this; exact Bool.noConfusion this, x1.trans (x7.trans hb8.ext), rfl⟩
  have hC : d.crops.all cropOk = true := by rw [he, drop_end (by have := hcr.len; omega)]; rfl
  clear he hge

  refine fldA ?_; refine ld (.slice A2 n2 c2) ((bg.ext x9).cell rfl) ?_; refine len ?_
  -- the farms
  refine loop_rule (fun k : Nat => [(68, iv (k : Int))]) (fun k w' => k ≤ n2 ∧ Ext w1 w' ∧ d.farms.all (farmOk d.reaches.length d.crops.length) = (d.farms.drop k).all (farmOk d.reaches.length d.crops.length)) (fun k _ => n2 - k) 0 ⟨rfl, trivial⟩ ⟨by omega, x9, rfl⟩ rfl ?_; rintro G k w10 ⟨hk, x10, he⟩; refine cD (fun hlt => ?_) (fun hge => ?_)
  · obtain ⟨b, o, cs, x, rfl, -, hx, -, hc, rfl⟩ := (hf.ext (x1.trans x10)).at_ (show k < n2 by omega); rw [hx, List.all_cons] at he; refine idx k rfl (by omega) ?_; refine ldA x.c hc rfl ?_; refine alloc (fun q w6 h6 => ?_); refine stA (vs := x.c) h6.blk rfl (Nat.le_of_ble_eq_true rfl) (by simp [Value.oneCell']) (fun w7 hb7 k7 z7 => ?_); have z6 := h6.at_; have zz := x10.size
    have x7 : Ext w1 w7 := (x10.trans h6.ext).then k7 fun b hb _ e => by omega
    have bg7 := bg.ext x7
    have bad2 : farmOk d.reaches.length d.crops.length x = false → validB d = false := fun hq => bad fun h => by have := (validB_iff.1 h).2.2.2.1; rw [he, hq] at this; exact Bool.noConfusion this
    have fiff : farmOk d.reaches.length d.crops.length x = true ↔ (if 0 < x.area then inI x.crop 0 ((n3 : Int) - 1) = true else x.crop = -1) ∧ inI x.reach 0 ((n1 : Int) - 1) = true ∧ (0 ≤ x.area ∧ x.area ≤ 1048576) := by
      unfold farmOk; rw [l1, l3, Bool.and_eq_true, Bool.and_eq_true, inI_iff (n := x.area)]
      split <;> simp only [decide_eq_true_eq]
    have bad3 : ¬ (farmOk d.reaches.length d.crops.length x = true) → validB d = false := fun h => bad2 (Bool.eq_false_iff.2 h); refine fldA ?_; refine ld (iv x.crop) (hb7.cell rfl) ?_; refine cE (fun p1 => ?ca) (fun p1 => ?cb)
    all_goals
      refine fldA ?_; refine ld (iv x.area) (hb7.cell rfl) ?_; refine cD (fun p2 => ?_) (fun p2 => ?_)
    case' cb.refine_2 =>
      refine dem (fun h => Bool.noConfusion h) (fun _ => ?_); exact fun _ _ => ⟨rfl, bad3 fun h => by have := (fiff.1 h).1; rw [if_neg (by omega)] at this; exact p1 this, x1.trans x7, rfl⟩
    case' ca.refine_1 =>
      refine fldA ?_; refine ld (iv x.crop) (hb7.cell rfl) ?_; refine fldA ?_; refine ld (.slice A3 n3 c3) (bg7.cell rfl) ?_; refine len ?_; refine callB c_eindex (fun p3 => ?_) (fun p3 => ?_); rotate_left
      · refine dem (fun h => Bool.noConfusion h) (fun _ => ?_); exact fun _ _ => ⟨rfl, bad3 fun h => by have := (fiff.1 h).1; rw [if_pos (by omega), p3] at this; exact Bool.noConfusion this, x1.trans x7, rfl⟩
      have hu : (if 0 < x.area then inI x.crop 0 ((n3 : Int) - 1) = true else x.crop = -1) := by rw [if_pos (by omega)]; exact p3
    case' cb.refine_1 =>
      refine fldA ?_; refine ld (iv x.crop) (hb7.cell rfl) ?_; refine fldA ?_; refine ld (.slice A3 n3 c3) (bg7.cell rfl) ?_; refine len ?_; refine callB c_eindex (fun p3 => ?_) (fun p3 => ?_); rotate_left
      · refine dem (fun h => Bool.noConfusion h) (fun _ => ?_); exact fun _ _ => ⟨rfl, bad3 fun h => by have := (fiff.1 h).1; rw [if_pos (by omega), p3] at this; exact Bool.noConfusion this, x1.trans x7, rfl⟩
      have hu : (if 0 < x.area then inI x.crop 0 ((n3 : Int) - 1) = true else x.crop = -1) := by rw [if_pos (by omega)]; exact p3
    case' ca.refine_2 =>
      have hu : (if 0 < x.area then inI x.crop 0 ((n3 : Int) - 1) = true else x.crop = -1) := by rw [if_neg (by omega)]; exact p1
    all_goals
      refine fldA ?_; refine ld (iv x.reach) (hb7.cell rfl) ?_; refine fldA ?_; refine ld (.slice A1 n1 c1) (bg7.cell rfl) ?_; refine len ?_; refine callB c_eindex (fun p4 => ?_) (fun p4 => ?_); rotate_left
      · refine dem (fun h => Bool.noConfusion h) (fun _ => ?_); exact fun _ _ => ⟨rfl, bad3 fun h => by have := (fiff.1 h).2.1; rw [p4] at this; exact Bool.noConfusion this, x1.trans x7, rfl⟩
      refine fldA ?_; refine ld (iv x.area) (hb7.cell rfl) ?_; refine lit [iv 0, iv x.area, iv 1048576] (fun g8 w8 hb8 => ?_); refine callB (c_rising (hb8.i0 [0, x.area, 1048576])) (fun hq => ?_) (fun hq => ?_)
      · refine dem (fun _ => ?_) (fun h => Bool.noConfusion h); refine arI (by have := hf.le; omega) ?_; refine next (k + 1) ⟨by rw [Int.natCast_add]; rfl, trivial⟩ ⟨by omega, x7.trans hb8.ext, ?_⟩ (by omega); rw [he, fiff.2 ⟨hu, p4, rising3'.1 hq⟩]; rfl
      · refine dem (fun h => Bool.noConfusion h) (fun _ => ?_); exact fun _ _ => ⟨rfl, bad3 fun h => rising3n.1 hq (fiff.1 h).2.2, x1.trans (x7.trans hb8.ext), rfl⟩
  have hF : d.farms.all (farmOk d.reaches.length d.crops.length) = true := by rw [he, drop_end (by omega)]; rfl
  clear he hge

  refine fldA ?_; refine ld (.slice A4 n4 c4) ((bg.ext x10).cell rfl) ?_; refine len ?_
  -- the rights
  refine loop_rule (fun k : Nat => [(105, iv (k : Int))]) (fun k w' => k ≤ n4 ∧ Ext w1 w' ∧ d.rights.all (rightOk d.farms.length d.reaches.length d.hours) = (d.rights.drop k).all (rightOk d.farms.length d.reaches.length d.hours)) (fun k _ => n4 - k) 0 ⟨rfl, trivial⟩ ⟨by omega, x10, rfl⟩ rfl ?_; rintro G k w11 ⟨hk, x11, he⟩; refine cD (fun hlt => ?_) (fun hge => ?_)
  · obtain ⟨b, o, cs, x, rfl, -, hx, -, hc, rfl⟩ := (hri.ext (x1.trans x11)).at_ (show k < n4 by omega); rw [hx, List.all_cons] at he; refine idx k rfl (by omega) ?_; refine ldA x.c hc rfl ?_; refine alloc (fun q w6 h6 => ?_); refine stA (vs := x.c) h6.blk rfl (Nat.le_of_ble_eq_true rfl) (by simp [Value.oneCell']) (fun w7 hb7 k7 z7 => ?_); have z6 := h6.at_; have zz := x11.size
    have x7 : Ext w1 w7 := (x11.trans h6.ext).then k7 fun b hb _ e => by omega
    refine ldA [.string d.name, iv d.hours, iv d.cap, iv d.start, .slice A1 n1 c1, .slice A2 n2 c2, .slice A3 n3 c3, .slice (some (ad b o)) n4 c4, .slice A5 n5 c5, .slice A6 n6 c6] (.blk (bg.ext x7)) rfl ?_; refine ldA x.c (.blk hb7) rfl ?_; refine callE (c_eright (d := d) (x := x) (hd.ext (x1.trans x7)) a1) (fun w8 hq x8 => ?_) (fun w8 hq x8 => ?_)
    · refine dem (fun _ => ?_) (fun h => Bool.noConfusion h); refine arI (by have := hri.le; omega) ?_; refine next (k + 1) ⟨by rw [Int.natCast_add]; rfl, trivial⟩ ⟨by omega, x7.trans x8, ?_⟩ (by omega); rw [he, hq]; rfl
    · refine dem (fun h => Bool.noConfusion h) (fun _ => ?_); exact fun _ _ => ⟨rfl, bad fun h => by have := (validB_iff.1 h).2.2.2.2.1; rw [he, hq] at this; exact Bool.noConfusion this, x1.trans (x7.trans x8), rfl⟩
  have hG : d.rights.all (rightOk d.farms.length d.reaches.length d.hours) = true := by rw [he, drop_end (by have := hri.len; omega)]; rfl
  clear he hge

  refine fldA ?_; refine ld (.slice A5 n5 c5) ((bg.ext x11).cell rfl) ?_; refine len ?_
  -- the duties
  refine loop_rule (fun k : Nat => [(118, iv (k : Int))]) (fun k w' => k ≤ n5 ∧ Ext w1 w' ∧ d.duties.all (dutyOk d.farms.length d.reaches.length d.hours) = (d.duties.drop k).all (dutyOk d.farms.length d.reaches.length d.hours)) (fun k _ => n5 - k) 0 ⟨rfl, trivial⟩ ⟨by omega, x11, rfl⟩ rfl ?_; rintro G k w12 ⟨hk, x12, he⟩; refine cD (fun hlt => ?_) (fun hge => ?_)
  · obtain ⟨b, o, cs, x, rfl, -, hx, -, hc, rfl⟩ := (hdu.ext (x1.trans x12)).at_ (show k < n5 by omega); rw [hx, List.all_cons] at he; refine idx k rfl (by omega) ?_; refine ldA x.c hc rfl ?_; refine alloc (fun q w6 h6 => ?_); refine stA (vs := x.c) h6.blk rfl (Nat.le_of_ble_eq_true rfl) (by simp [Value.oneCell']) (fun w7 hb7 k7 z7 => ?_); have z6 := h6.at_; have zz := x12.size
    have x7 : Ext w1 w7 := (x12.trans h6.ext).then k7 fun b hb _ e => by omega
    have bg7 := bg.ext x7
    have fiff : dutyOk d.farms.length d.reaches.length d.hours x = true ↔ inI x.farm 0 ((n2 : Int) - 1) = true ∧ inI x.reach 0 ((n1 : Int) - 1) = true ∧ (0 ≤ x.due ∧ x.due ≤ d.hours) := by
      unfold dutyOk; rw [l1, l2, Bool.and_eq_true, Bool.and_eq_true, inI_iff (n := x.due)]
    have bad3 : ¬ (dutyOk d.farms.length d.reaches.length d.hours x = true) → validB d = false := fun hq => bad fun h => by have := (validB_iff.1 h).2.2.2.2.2; rw [he, Bool.eq_false_iff.2 hq] at this; exact Bool.noConfusion this
    refine fldA ?_; refine ld (iv x.farm) (hb7.cell rfl) ?_; refine fldA ?_; refine ld (.slice A2 n2 c2) (bg7.cell rfl) ?_; refine len ?_; refine callB c_eindex (fun b1 => ?_) (fun b1 => ?_); rotate_left
    · refine dem (fun h => Bool.noConfusion h) (fun _ => ?_); exact fun _ _ => ⟨rfl, bad3 fun h => by have := (fiff.1 h).1; rw [b1] at this; exact Bool.noConfusion this, x1.trans x7, rfl⟩
    refine fldA ?_; refine ld (iv x.reach) (hb7.cell rfl) ?_; refine fldA ?_; refine ld (.slice A1 n1 c1) (bg7.cell rfl) ?_; refine len ?_; refine callB c_eindex (fun b2 => ?_) (fun b2 => ?_); rotate_left
    · refine dem (fun h => Bool.noConfusion h) (fun _ => ?_); exact fun _ _ => ⟨rfl, bad3 fun h => by have := (fiff.1 h).2.1; rw [b2] at this; exact Bool.noConfusion this, x1.trans x7, rfl⟩
    refine fldA ?_; refine ld (iv x.due) (hb7.cell rfl) ?_; refine fldA ?_; refine ld (iv d.hours) (bg7.cell rfl) ?_; refine lit [iv 0, iv x.due, iv d.hours] (fun g8 w8 hb8 => ?_); refine callB (c_rising (hb8.i0 [0, x.due, d.hours])) (fun hq => ?_) (fun hq => ?_)
    · refine dem (fun _ => ?_) (fun h => Bool.noConfusion h); refine arI (by have := hdu.le; omega) ?_; refine next (k + 1) ⟨by rw [Int.natCast_add]; rfl, trivial⟩ ⟨by omega, x7.trans hb8.ext, ?_⟩ (by omega); rw [he, fiff.2 ⟨b1, b2, rising3'.1 hq⟩]; rfl
    · refine dem (fun h => Bool.noConfusion h) (fun _ => ?_); exact fun _ _ => ⟨rfl, bad3 fun h => rising3n.1 hq (fiff.1 h).2.2, x1.trans (x7.trans hb8.ext), rfl⟩
  have hU : d.duties.all (dutyOk d.farms.length d.reaches.length d.hours) = true := by rw [he, drop_end (by have := hdu.len; omega)]; rfl
  exact ret0 ⟨rfl, validB_iff.2 ⟨hH, hR, hC, hF, hG, hU⟩, x1.trans x12⟩
theorem c_caught {e : Int} : CallZ Tryz.prog 126 #[.iface 258 (iv e)] w (fun v w' => v = iv e ∧ w' = w) := by
  refine fn_rule (args := [.iface 258 (iv e)]) Tryz.func126 (by kernel_rfl) ?_; refine tAs rfl (by kernel_rfl) ?_; exact ret1 (iv e) rfl ⟨rfl, rfl⟩
end
def tooMany (d : Dist) : Bool := !(decide (d.reaches.length ≤ 64) && (decide (d.farms.length ≤ 600) && (decide (d.crops.length ≤ 32) && (decide (d.rights.length ≤ 256) && decide (d.duties.length ≤ 256)))))
def dErr (d : Dist) : Int := if tooMany d then 2 else if validB d then 0 else 191
section
variable {P : Program} {X : XK}
theorem run_equalNil {t u : TypeId} {v : Value} {ms : Array (String × TypeId)} (hu : P.underlying t = some (.interface ms)) (w : World) : (Op.equal t (.iface u v) .nilIface).run P w = .ok false w := by
  unfold Op.equal; rw [show Op.maxDepth = (Op.maxDepth - 1) + 1 from rfl]; rw [Op.equalIn, Sem.run_bind, run_underlying hu]
  rfl
theorem run_equalNil0 {t : TypeId} {ms : Array (String × TypeId)} (hu : P.underlying t = some (.interface ms)) (w : World) : (Op.equal t .nilIface .nilIface).run P w = .ok true w := by
  unfold Op.equal; rw [show Op.maxDepth = (Op.maxDepth - 1) + 1 from rfl]; rw [Op.equalIn, Sem.run_bind, run_underlying hu]
  rfl
theorem neNil {t u : TypeId} {v c : Value} {xo : Operand} {K : Value → Prop} {ms : Array (String × TypeId)} (hu : P.underlying t = some (.interface ms)) (k : K (.bool true)) : BinP P .neq t xo (.const c) (.iface u v) .nilIface K := by
  rw [BinP_eq]; refine pure_vval (fun w => ?_) k; have h1 : (eqGuard .neq t xo (.const c) (.iface u v) .nilIface).run P w = .ok () w := rfl; have h2 : binOp .neq t (.iface u v) .nilIface = (do pure (.bool (!(← Op.equal t (.iface u v) .nilIface)))) := rfl; rw [Sem.run_bind, h1, h2]; simp only [Result.andThen_ok, Sem.run_bind, run_equalNil hu, Sem.run_pure]
  rfl
theorem neNil0 {t : TypeId} {c : Value} {xo : Operand} {K : Value → Prop} {ms : Array (String × TypeId)} (hu : P.underlying t = some (.interface ms)) (k : K (.bool false)) : BinP P .neq t xo (.const c) .nilIface .nilIface K := by
  rw [BinP_eq]; refine pure_vval (fun w => ?_) k
  have h1 : (eqGuard .neq t xo (.const c) .nilIface .nilIface).run P w = .ok () w := by rw [eqGuard_nil_constR]; rfl
  have h2 : binOp .neq t .nilIface .nilIface = (do pure (.bool (!(← Op.equal t .nilIface .nilIface)))) := rfl; rw [Sem.run_bind, h1, h2]; simp only [Result.andThen_ok, Sem.run_bind, run_equalNil0 hu, Sem.run_pure]
  rfl
end
section
variable {D : Nat → Prop} {w : World}
theorem u20 : Tryz.prog.underlying 20 = some (.interface #[]) := by kernel_rfl
theorem c_rec {p : Nat} {e x : Int} {w0 : World} (hp : Blk (z w0) p 29 [iv x]) :
    CallsDIn Fence.wide 0 Tryz.prog 125 #[ptr p] (.panicking (refusal e)) w0 (fun e' u' w' => e' = .returned (.tuple #[]) ∧ u' = .panicking [{ v := .iface 258 (iv e), recovered := true }] ∧ Blk (z w') p 29 [iv e] ∧ Kept (fun b => b ≠ p) (z w0) (z w')) := by
  refine rec_rule (args := [ptr p]) (d0 := 2) (d1 := 1) (v := .iface 258 (iv e)) (u' := .panicking [{ v := .iface 258 (iv e), recovered := true }]) Tryz.func125 rfl (by kernel_rfl) ?_ w0 ?_
  · intro c₀ cs h; simp [recoverD, h, refusal]
  · refine neNil u20 ?_; refine call_of c_caught ?_; rintro _ _ ⟨rfl, rfl⟩; refine st1 hp rfl (fun w2 hb2 k2 => ?_); refine ⟨rfl, fun tmps w3 _ hw3 => ⟨.tuple #[], results_none rfl _ _ _, rfl, rfl, ?_⟩⟩; subst hw3; exact ⟨hb2, k2⟩
theorem c_idle {p : Nat} {w0 : World} :
    CallsDIn Fence.wide 0 Tryz.prog 125 #[ptr p] .returning w0 (fun e' u' w' => e' = .returned (.tuple #[]) ∧ u' = .returning ∧ z w' = z w0) := by
  refine rec_rule (args := [ptr p]) (d0 := 2) (d1 := 1) (v := .nilIface) (u' := .returning) Tryz.func125 rfl (by kernel_rfl) ?_ w0 ?_
  · intro c₀ cs h; simp [recoverD, h]
  · refine neNil0 u20 ?_; exact ⟨rfl, fun tmps w3 _ hw3 => ⟨.tuple #[], results_none rfl _ _ _, rfl, rfl, hw3⟩⟩
abbrev R2 (R : VK) : Ending → World → Prop := fun e w' => ∃ v, e = .returned v ∧ R v (z w')
theorem inv42 {q : Nat} (w0 : World) : (invoke (.fn (.func 125) #[ptr q]) #[]).run Tryz.prog w0 = .ok (.enter 125 #[ptr q]) w0 := (inferInstance : Enters Tryz.prog 125).h #[ptr q] w0
theorem eEnd {q : Nat} {x : Int} {F : Fr} {R : VK} {tmps : Array Value} {w0 : World} (hF : ∀ t, tmps.getD t undef = F t) (h2 : F 2 = ptr q) (hb : Blk (z w0) q 29 [iv x]) (k : R (iv x) (z w0)) :
    LeavesInM Fence.wide 0 Tryz.prog Tryz.f77 tmps (R2 R) [] .returning w0 :=
  leaves_soundG (a := { tmps := tmps, defers := [] }) (R := R) (fun v _ h => ⟨v, rfl, h⟩) hF [] w0 (z w0) rfl (by
    show ResLP _ _ (F 2) _ _
    rw [h2]
    exact resL _ (holds_cell (hb.cell rfl)) k)
theorem door_idle {q : Nat} {x : Int} {F : Fr} {R : VK} {w : World} (h2 : F 2 = ptr q) (hb : Blk w q 29 [iv x]) (k : R (iv x) w) :
    KendL Tryz.prog Tryz.f77 (R2 R) .normal F [{ target := .fn (.func 125) #[ptr q], args := #[] }] w := by
  intro tmps w0 hF hw; subst hw; refine ⟨by simp, .inr ⟨(fun h => Bool.noConfusion h), _, _, 125, #[ptr q], rfl, inv42 w0, fun _ _ => trivial, c_idle.mono ?_⟩⟩; rintro e u w1 ⟨rfl, rfl, hz⟩; show LeavesInM _ _ _ _ _ _ [] .returning w1; exact eEnd hF h2 (by rw [hz]; exact hb) (by rw [hz]; exact k)
theorem door_pan {q : Nat} {x e : Int} {F : Fr} {R : VK} {w : World} (h2 : F 2 = ptr q) (hb : Blk w q 29 [iv x]) (k : ∀ w', Kept (fun b => b ≠ q) w w' → R (iv e) w') :
    KendL Tryz.prog Tryz.f77 (R2 R) (.panic (refusal e)) F [{ target := .fn (.func 125) #[ptr q], args := #[] }] w := by
  intro tmps w0 hF hw; subst hw; refine ⟨by simp, .inr ⟨(fun h => Bool.noConfusion h), _, _, 125, #[ptr q], rfl, inv42 w0, fun _ _ => trivial, (c_rec hb).mono ?_⟩⟩; rintro e' u w1 ⟨rfl, rfl, hb1, hk⟩; show LeavesInM _ _ _ _ _ _ [] .returning w1; exact eEnd hF h2 hb1 (k _ hk)
theorem c_eCheck {d : Dist} {cs : List Value} (hd : DiR D w cs d) : CallZ Tryz.prog 77 #[.agg cs.toArray] w (fun v w' => v = iv (dErr d) ∧ Ext w w') := by
  obtain ⟨A1, n1, c1, A2, n2, c2, A3, n3, c3, A4, n4, c4, A5, n5, c5, A6, n6, c6, rfl, hr, hf, hcr, hri, hdu, hwe⟩ := hd.ex; have l1 := hr.len; have l2 := hf.len; have l3 := hcr.len; have l4 := hri.len; have l5 := hdu.len; intro w00 hw00; refine fn_ruleD (args := [.agg #[.string d.name, iv d.hours, iv d.cap, iv d.start, .slice A1 n1 c1, .slice A2 n2 c2, .slice A3 n3 c3, .slice A4 n4 c4, .slice A5 n5 c5, .slice A6 n6 c6]]) (d0 := 3) (c0 := 2) (w := w) Tryz.func77 rfl (by kernel_rfl) ?_ w00 hw00; refine box (fun g w1 h1 => ?_); refine alloc (fun q w2 h2 => ?_); refine ⟨rfl, ?_⟩; have bg := h1.blk.ext h2.ext; have x2 := h1.ext.trans h2.ext
  have tiff : tooMany d = false ↔ n1 ≤ 64 ∧ n2 ≤ 600 ∧ n3 ≤ 32 ∧ n4 ≤ 256 ∧ n5 ≤ 256 := by unfold tooMany; rw [l1, l2, l3, l4, l5]; simp
  have bad : ¬ (n1 ≤ 64 ∧ n2 ≤ 600 ∧ n3 ≤ 32 ∧ n4 ≤ 256 ∧ n5 ≤ 256) → dErr d = 2 := fun h => by unfold dErr; rw [show tooMany d = true from by cases ht : tooMany d with | true => rfl | false => exact absurd (tiff.1 ht) h]; rfl
  have zz := h2.at_; have z1 := h1.ext.size
  have fin : ∀ {w5 : World}, Ext w2 w5 → ∀ w', Kept (fun b => b ≠ q) w5 w' → Ext w w' := fun x5 w' k => (x2.trans x5).then k fun b hb _ e => by omega
  have qb := h2.blk; refine fldA ?_; refine ld (.slice A1 n1 c1) (bg.cell rfl) ?_; refine len ?_; refine cD (fun a1 => ?_) (fun a1 => ?_); rotate_left
  · refine dem (fun h => Bool.noConfusion h) (fun _ => ?_); exact fun F' hF' => door_pan (R := fun v w' => v = iv (dErr d) ∧ Ext w w') (hF' 2 rfl) qb fun w' k => ⟨by rw [bad (by omega)], fin (.refl _ _) w' k⟩
  refine fldA ?_; refine ld (.slice A2 n2 c2) (bg.cell rfl) ?_; refine len ?_; refine cD (fun a2 => ?_) (fun a2 => ?_); rotate_left
  · refine dem (fun h => Bool.noConfusion h) (fun _ => ?_); exact fun F' hF' => door_pan (R := fun v w' => v = iv (dErr d) ∧ Ext w w') (hF' 2 rfl) qb fun w' k => ⟨by rw [bad (by omega)], fin (.refl _ _) w' k⟩
  refine fldA ?_; refine ld (.slice A3 n3 c3) (bg.cell rfl) ?_; refine len ?_; refine cD (fun a3 => ?_) (fun a3 => ?_); rotate_left
  · refine dem (fun h => Bool.noConfusion h) (fun _ => ?_); exact fun F' hF' => door_pan (R := fun v w' => v = iv (dErr d) ∧ Ext w w') (hF' 2 rfl) qb fun w' k => ⟨by rw [bad (by omega)], fin (.refl _ _) w' k⟩
  refine fldA ?_; refine ld (.slice A4 n4 c4) (bg.cell rfl) ?_; refine len ?_; refine cD (fun a4 => ?_) (fun a4 => ?_); rotate_left
  · refine dem (fun h => Bool.noConfusion h) (fun _ => ?_); exact fun F' hF' => door_pan (R := fun v w' => v = iv (dErr d) ∧ Ext w w') (hF' 2 rfl) qb fun w' k => ⟨by rw [bad (by omega)], fin (.refl _ _) w' k⟩
  refine fldA ?_; refine ld (.slice A5 n5 c5) (bg.cell rfl) ?_; refine len ?_; refine cD (fun a5 => ?_) (fun a5 => ?_); rotate_left
  · refine dem (fun h => Bool.noConfusion h) (fun _ => ?_); exact fun F' hF' => door_pan (R := fun v w' => v = iv (dErr d) ∧ Ext w w') (hF' 2 rfl) qb fun w' k => ⟨by rw [bad (by omega)], fin (.refl _ _) w' k⟩
  refine dem (fun _ => ?_) (fun h => Bool.noConfusion h); have hT : tooMany d = false := tiff.2 (by omega); refine ldA [.string d.name, iv d.hours, iv d.cap, iv d.start, .slice A1 n1 c1, .slice A2 n2 c2, .slice A3 n3 c3, .slice A4 n4 c4, .slice A5 n5 c5, .slice A6 n6 c6] (.blk bg) rfl ?_; refine call_ofX (c_examine (e := 191) (hd.ext x2)) ?_ ?_
  · rintro _ w5 ⟨rfl, hv, x5⟩; refine st1 (qb.ext x5) rfl (fun w6 hb6 k6 => ?_); exact door_idle (R := fun v w' => v = iv (dErr d) ∧ Ext w w') rfl hb6 ⟨by unfold dErr; rw [hT, hv]; rfl, fin x5 _ k6⟩
  · rintro _ w5 ⟨hv, x5, rfl⟩; exact fun F' hF' => door_pan (R := fun v w' => v = iv (dErr d) ∧ Ext w w') (hF' 2 rfl) (qb.ext x5) fun w' k => ⟨by unfold dErr; rw [hT, hv]; rfl, fin x5 w' k⟩
end
end Go.Proofs.YtehcphboliofaaaGreatDoor
namespace Go.Proofs.YtehcphboliofaaaGreatDoor
open Go Go.RowKit Go.ChangeShapes Go.WideShapes Go.ChangeAt
theorem own : ownKnob Tryz.prog.godebug = none := by kernel_rfl
theorem laidOut : laidOutB Tryz.prog = true := by kernel_rfl
instance nz1 : NeZero 1 := ⟨by decide⟩
instance nz24 : NeZero 24 := ⟨by decide⟩
instance nz32 : NeZero 32 := ⟨by decide⟩
instance nz48 : NeZero 48 := ⟨by decide⟩
section
variable {P : Program} {α β : Type} {a : Ty α} {b : Ty β}
theorem rdAt {α : Type} (P : Program) (t : TypeId) (a : Ty α) [h : Rd P t a] (n : Nat) : RdN P n t a := h.h n
theorem Rd.of {t : TypeId} (f : α → β) (h : Rd P t a) (hf : ∀ W cs y, a.rep AnyB W cs y → b.rep AnyB W cs (f y)) : Rd P t b := ⟨fun n => ⟨fun {H enc W cs x} hx hw => by
  obtain ⟨y, hy⟩ := (h.h n).h hx hw
  exact ⟨f y, hf W cs y hy⟩⟩⟩
end
end Go.Proofs.YtehcphboliofaaaGreatDoor
namespace Go.Proofs.YtehcphboliofaaaGreatDoor
open Go Go.RowKit Classical
theorem mkE_key (k v : Value) (c : Nat) : (mkE k v c).key = k := rfl
theorem keysU_push {L : List MapEntry} {e : MapEntry} {k : Value} (he : e.key = k) (h : (L.map (·.key)).Nodup) (hn : ∀ x ∈ L, x.key ≠ k) : ((L ++ [e]).map (·.key)).Nodup := by
  rw [List.map_append, List.nodup_append]; refine ⟨h, by simp, fun x hx y hy => ?_⟩; obtain ⟨z, hz, rfl⟩ := List.mem_map.1 hx; simp only [List.map_cons, List.map_nil, List.mem_singleton] at hy; subst hy; rw [he]; exact hn z hz
theorem keysU_modify {L : List MapEntry} (h : (L.map (·.key)).Nodup) (j : Nat) (v : Value) : ((L.modify j fun e => { e with val := v }).map (·.key)).Nodup := by
  have : (L.modify j fun e => { e with val := v }).map (·.key) = L.map (·.key) := by
    apply List.ext_getElem?; intro i; rw [List.getElem?_map, List.getElem?_map, List.getElem?_modify]
    cases L[i]? with
    | none => rfl
    | some e =>
      show some _ = some _
      by_cases hij : j = i
      · simp [hij]
      · simp [hij]
  rw [this]; exact h
theorem look_own {L : List MapEntry} (h : (L.map (·.key)).Nodup) : ∀ {e : MapEntry}, e ∈ L → lookP e.key L = some e.val := by
  induction L with
  | nil => intro e he; cases he
  | cons a L ih =>
    intro e he; rw [List.map_cons, List.nodup_cons] at h; rw [lookP_cons]; rcases List.mem_cons.1 he with rfl | he
    · rw [if_pos rfl]
    · rw [if_neg (fun q => h.1 (by rw [q]; exact List.mem_map_of_mem he))]; exact ih h.2 he
theorem look_has {v x : Value} {L : List MapEntry} (h : lookP v L = some x) : ∃ e ∈ L, e.key = v ∧ e.val = x := by
  induction L with
  | nil => cases h
  | cons a L ih =>
    rw [lookP_cons] at h
    by_cases q : a.key = v
    · rw [if_pos q] at h; injection h with h; exact ⟨a, List.mem_cons_self, q, h⟩
    · rw [if_neg q] at h; obtain ⟨e, he, r⟩ := ih h; exact ⟨e, List.mem_cons_of_mem _ he, r⟩
def MapU {κ : Type} (kv : κ → Value) (w : World) (g : Nat) (f : κ → Option Value) : Prop := ∃ L c, Ents kv w g L c ∧ (L.map (·.key)).Nodup ∧ ∀ a, lookP (kv a) L = f a
def MapV {κ : Type} (kv : κ → Value) (w : World) (g : Nat) (f : κ → Option Value) (a : κ) (s : Nat) : Prop := ∃ L c, Ents kv w g L c ∧ (L.map (·.key)).Nodup ∧ (∀ a, lookP (kv a) L = f a) ∧
  ∃ (j : Nat) (e : MapEntry), L[j]? = some e ∧ e.key = kv a ∧ e.born = s ∧ ∀ (m : Nat) (y : MapEntry), m < j → L[m]? = some y → y.key ≠ kv a
section
variable {P : Program} {κ : Type} {kv : κ → Value}
theorem MapU.g {w : World} {g : Nat} {f : κ → Option Value} (h : MapU kv w g f) : MapG kv w g f := by obtain ⟨L, c, h1, _, h2⟩ := h; exact ⟨L, c, h1, h2⟩
theorem MapV.g {w : World} {g s : Nat} {f : κ → Option Value} {a : κ} (h : MapV kv w g f a s) : MapU kv w g f := by obtain ⟨L, c, h1, h2, h3, _⟩ := h; exact ⟨L, c, h1, h2, h3⟩
theorem MapU.kept {D : Nat → Prop} {w w' : World} {g : Nat} {f : κ → Option Value} (h : MapU kv w g f) (k : Kept D w w') (hD : D g) : MapU kv w' g f := by
  obtain ⟨L, c, h1, h2⟩ := h; exact ⟨L, c, h1.kept k hD, h2⟩
theorem MapU.new (kv : κ → Value) (w : World) : MapU kv (w.alloc (.map #[] 0)) w.heap.size (fun _ => none) := ⟨[], 0, Ents.new kv w, by simp, fun _ => rfl⟩
theorem mupdU {t k e : TypeId} [hm : MapTy P t k e] [hk : KeyL P k kv] {g : Nat} {f : κ → Option Value} (a : κ) {v : Value} {w : World} {K : VK} (h : MapU kv w g f) (kk : ∀ w', MapU kv w' g (pset f a v) → Kept (fun b => b ≠ g) w w' → w'.heap.size = w.heap.size → K undef w') : MUpdP P t (.map (some g)) (kv a) v K w := by
  rw [MUpdP_eq]; intro w0 hw; subst hw; have h1 := mapOf_spec hm.h; obtain ⟨L, c, hE, hU, hf⟩ := h; have hb : w0.heap[g]? = some (.map L.toArray c) := hE.at_; have hfn := hk.fnd a L w0 hE.keys
  cases hp : findP (kv a) L 0 with
  | none =>
    rw [hp] at hfn
    have hr : (uS (Instr.mapUpdate t (.map (some g)) (kv a) v)).run P w0 = .ok .skip { w0 with heap := w0.heap.setIfInBounds g (.map (L ++ [(mkE (kv a) v c)]).toArray (c + 1)) } := by
      unfold uS Instr.mapUpdate; simp only [Sem.run_bind, run_underlying h1, Result.andThen_ok, MapKept.run_getObj_map hb, hk.chk, hfn, MapKept.run_setObj_map _ hb, Sem.run_pure]; simp
    rw [hr]; obtain ⟨k1, k2⟩ := heap_set (o := .map (L ++ [(mkE (kv a) v c)]).toArray (c + 1)) hb; refine kk (z { w0 with heap := w0.heap.setIfInBounds g _ }) ⟨_, _, ⟨k2, fun y hy => ?_, hE.born.push _ _⟩, keysU_push (mkE_key (kv a) _ c) hU (findP_none.1 hp), fun b => ?_⟩ k1 (by simp [z])
    · rcases List.mem_append.1 hy with h | h
      · exact hE.keys y h
      · simp at h; subst h; exact ⟨a, rfl⟩
    · rw [lookP_push (x := (mkE (kv a) v c)) L (lookP_none.2 hp)]; unfold pset
      by_cases hab : b = a
      · subst hab; rw [if_pos rfl, if_pos rfl]
      · rw [if_neg (fun e => hab (hk.inj _ _ e).symm), if_neg hab, hf]
  | some p =>
    obtain ⟨n, x⟩ := p; rw [hp] at hfn; obtain ⟨j, y, hn, hj, hy, _, hfirst⟩ := findP_some hp
    have hn : n = j := by omega
    subst hn
    have hr : (uS (Instr.mapUpdate t (.map (some g)) (kv a) v)).run P w0 = .ok .skip { w0 with heap := w0.heap.setIfInBounds g (.map (L.modify n fun e => { e with val := v }).toArray c) } := by
      unfold uS Instr.mapUpdate
      have hkey : ((L.toArray[n]?).map (·.key)).getD (kv a) = kv a := by simp [hj, hy]
      simp only [Sem.run_bind, run_underlying h1, Result.andThen_ok, MapKept.run_getObj_map hb, hk.chk, hfn, hkey, Instr.keyThatStays, hk.bits, if_true, Sem.run_pure, MapKept.run_setObj_map _ hb]; rw [← modify_both hj hy]; simp
    rw [hr]; obtain ⟨k1, k2⟩ := heap_set (o := .map (L.modify n fun e => { e with val := v }).toArray c) hb; refine kk (z { w0 with heap := w0.heap.setIfInBounds g _ }) ⟨_, _, ⟨k2, keys_modify hE.keys n v, hE.born.modify n v⟩, keysU_modify hU n v, fun b => ?_⟩ k1 (by simp [z]); rw [lookP_modify (k := kv a) L n y hj hy hfirst]; unfold pset
    by_cases hab : b = a
    · subst hab; rw [if_pos rfl, if_pos rfl]
    · rw [if_neg (fun e => hab (hk.inj _ _ e).symm), if_neg hab, hf]
theorem mentU {t k e : TypeId} {zv : Value} [hm : MapTy P t k e] [hk : KeyL P k kv] [hz : ZeroTy P e zv] {g : Nat} {f : κ → Option Value} (a : κ) {w : World} {K : VK} (h : MapU kv w g f) (kk : ∀ w' (s : Nat), MapV kv w' g (pset f a ((f a).getD zv)) a s → Kept (fun b => b ≠ g) w w' → w'.heap.size = w.heap.size → K (.tuple #[(f a).getD zv, .int .i64 (s : Int)]) w') : MEntP P t (.map (some g)) (kv a) K w := by
  rw [MEntP_eq]; intro w0 hw; subst hw; have h1 := mapOf_spec hm.h; obtain ⟨L, c, hE, hU, hf⟩ := h; have hb : w0.heap[g]? = some (.map L.toArray c) := hE.at_; have hfn := hk.fnd a L w0 hE.keys
  cases hp : findP (kv a) L 0 with
  | none =>
    rw [hp] at hfn
    have hfa : f a = none := by rw [← hf a]; exact lookP_none.2 hp
    have hr : (vS (Instr.mapEntry t (.map (some g)) (kv a))).run P w0 = .ok (.value (.tuple #[zv, .int .i64 (c : Int)])) { w0 with heap := w0.heap.setIfInBounds g (.map (L ++ [(mkE (kv a) zv c)]).toArray (c + 1)) } := by
      rw [run_vS]; unfold Instr.mapEntry; simp only [Sem.run_bind, run_underlying h1, Result.andThen_ok, MapKept.run_getObj_map hb, hk.chk, hfn, run_zeroValue' hz.h, MapKept.run_setObj_map _ hb, Sem.run_pure]; simp [goInt]
    rw [hr]; obtain ⟨k1, k2⟩ := heap_set (o := .map (L ++ [(mkE (kv a) zv c)]).toArray (c + 1)) hb; have := kk (z { w0 with heap := w0.heap.setIfInBounds g (.map (L ++ [(mkE (kv a) zv c)]).toArray (c + 1)) }) c ⟨_, _, ⟨k2, fun y hy => ?_, hE.born.push _ _⟩, keysU_push (mkE_key (kv a) _ c) hU (findP_none.1 hp), fun b => ?_, L.length, (mkE (kv a) zv c), by simp, rfl, rfl, fun m y hm hy => ?_⟩ k1 (by simp [z])
    · rw [hfa] at this; exact this
    · rcases List.mem_append.1 hy with h | h
      · exact hE.keys y h
      · simp at h; subst h; exact ⟨a, rfl⟩
    · rw [lookP_push (x := (mkE (kv a) zv c)) L (lookP_none.2 hp), hfa]; unfold pset
      by_cases hab : b = a
      · subst hab; rw [if_pos rfl, if_pos rfl]; rfl
      · rw [if_neg (fun e => hab (hk.inj _ _ e).symm), if_neg hab, hf]
    · rw [List.getElem?_append_left hm] at hy; exact findP_none.1 hp y (List.mem_of_getElem? hy)
  | some p =>
    obtain ⟨n, x⟩ := p; rw [hp] at hfn; obtain ⟨j, y, hn, hj, hy, hyx, hfirst⟩ := findP_some hp
    have hn : n = j := by omega
    subst hn
    have hfa : f a = some x := by rw [← hf a]; unfold lookP; rw [hp]; rfl
    have hr : (vS (Instr.mapEntry t (.map (some g)) (kv a))).run P w0 = .ok (.value (.tuple #[x, .int .i64 (y.born : Int)])) { w0 with heap := w0.heap.setIfInBounds g (.map L.toArray c) } := by
      rw [run_vS]; unfold Instr.mapEntry
      have hkey : ((L.toArray[n]?).map (·.key)).getD (kv a) = kv a := by simp [hj, hy]
      simp only [Sem.run_bind, run_underlying h1, Result.andThen_ok, MapKept.run_getObj_map hb, hk.chk, hfn, hkey, Instr.keyThatStays, hk.bits, if_true, Sem.run_pure, MapKept.run_setObj_map _ hb]; have e1 := modify_same hj hy
      have e2 : (L.toArray.modify n fun e => { e with key := kv a }) = L.toArray := by have := congrArg List.toArray e1; simpa using this
      rw [e2]; simp [goInt, hj]
    rw [hr]; obtain ⟨k1, k2⟩ := heap_set (o := .map L.toArray c) hb; have := kk (z { w0 with heap := w0.heap.setIfInBounds g (.map L.toArray c) }) y.born ⟨L, c, ⟨k2, hE.keys, hE.born⟩, hU, fun b => ?_, n, y, hj, hy, rfl, hfirst⟩ k1 (by simp [z])
    · rw [hfa] at this; exact this
    · rw [hf, hfa]; unfold pset
      by_cases hab : b = a
      · subst hab; rw [if_pos rfl]; exact hfa
      · rw [if_neg hab]
theorem estoU {t k e : TypeId} [_hm : MapTy P t k e] [hk : KeyL P k kv] {g s : Nat} {f : κ → Option Value} {a : κ} {v : Value} {w : World} {K : VK} (h : MapV kv w g f a s) (kk : ∀ w', MapU kv w' g (pset f a v) → Kept (fun b => b ≠ g) w w' → w'.heap.size = w.heap.size → K undef w') : EStoP P t (.map (some g)) (.int .i64 (s : Int)) v K w := by
  rw [EStoP_eq]; intro w0 hw; subst hw; obtain ⟨L, c, hE, hU, hf, j, y, hj, hy, hs, hfirst⟩ := h; have hb : w0.heap[g]? = some (.map L.toArray c) := hE.at_; subst hs; have hjl := (List.getElem?_eq_some_iff.1 hj).1
  have hidx : L.toArray.findIdx? (fun e => (e.born : Int) == (y.born : Int)) = some j := by
    rw [List.findIdx?_toArray]; rw [List.findIdx?_eq_some_iff_getElem]; refine ⟨hjl, ?_, fun m hm => ?_⟩
    · have : L[j] = y := (List.getElem?_eq_some_iff.1 hj).2; simp [this]
    · have hm' : L[m]? = some L[m] := List.getElem?_eq_getElem (by omega); simp only [beq_iff_eq, Int.natCast_inj]; intro e; have := (hE.born j y hj).2 m _ hm' e; omega
  have hr : (uS (Instr.entryStore t (.map (some g)) (.int .i64 (y.born : Int)) v)).run P w0 = .ok .skip { w0 with heap := w0.heap.setIfInBounds g (.map (L.modify j fun e => { e with val := v }).toArray c) } := by
    have hai : (asInt (.int .i64 (y.born : Int))).run P w0 = .ok (y.born : Int) w0 := rfl; unfold uS Instr.entryStore; simp only [Sem.run_bind, Result.andThen_ok, MapKept.run_getObj_map hb, hai, Sem.run_pure, hidx, MapKept.run_setObj_map _ hb]; simp
  rw [hr]; obtain ⟨k1, k2⟩ := heap_set (o := .map (L.modify j fun e => { e with val := v }).toArray c) hb; refine kk (z { w0 with heap := w0.heap.setIfInBounds g _ }) ⟨_, _, ⟨k2, keys_modify hE.keys j v, hE.born.modify j v⟩, keysU_modify hU j v, fun b => ?_⟩ k1 (by simp [z]); rw [lookP_modify (k := kv a) L j y hj hy hfirst]; unfold pset
  by_cases hab : b = a
  · subst hab; rw [if_pos rfl, if_pos rfl]
  · rw [if_neg (fun e => hab (hk.inj _ _ e).symm), if_neg hab, hf]
end
structure Post where
  no : Int
  hour : Int
  sort : Int
  frm : Int
  to : Int
  n : Int
deriving DecidableEq
abbrev Post.c (p : Post) : List Value := [iv p.no, iv p.hour, iv p.sort, iv p.frm, iv p.to, iv p.n]
def tPost : Ty Post := tFl 6 Post.c fun _ => rfl
abbrev Acc := Int × Int
def Post.fa (p : Post) : Acc := (p.sort, p.frm)
def Post.ta (p : Post) : Acc := (p.sort, p.to)
def posD (p : Post) (a : Acc) : Int := (if p.ta = a then p.n else 0) - (if p.fa = a then p.n else 0)
def balL (l : List Post) (a : Acc) : Int := (l.map fun p => posD p a).sum
theorem balL_snoc {l : List Post} {p : Post} {a : Acc} : balL (l ++ [p]) a = balL l a + posD p a := by unfold balL; simp
theorem balL_nil {a : Acc} : balL [] a = 0 := rfl
def balH (l : List Post) (a : Acc) (h : Int) : Int := balL (l.filter fun p => decide (p.hour ≤ h)) a
def gwithin (n lo hi : Int) : Bool := decide (lo ≤ n) && decide (n ≤ hi)
theorem gwithin_iff {n lo hi : Int} : gwithin n lo hi = true ↔ lo ≤ n ∧ n ≤ hi := by unfold gwithin; simp
structure P1 (p : Post) : Prop where
  no : 0 ≤ p.no ∧ p.no ≤ 1048576
  hour : 0 ≤ p.hour ∧ p.hour ≤ 4096
  sort : 1 ≤ p.sort ∧ p.sort ≤ 2
  n : 1 ≤ p.n ∧ p.n ≤ 1099511627776
  frm : 0 ≤ p.frm ∧ p.frm ≤ 4095
  to : 0 ≤ p.to ∧ p.to ≤ 4095
  ne : p.frm ≠ p.to
structure OkP (l : List Post) (p : Post) : Prop extends P1 p where
  aft : ∀ q, l.getLast? = some q → q.no < p.no ∧ q.hour ≤ p.hour
  has : p.frm ≠ 0 → p.n ≤ balL l p.fa
  fit : balL l p.ta + p.n ≤ 1125899906842624
def LOk (l : List Post) : Prop := ∀ i p, l[i]? = some p → OkP (l.take i) p
theorem LOk.nil : LOk [] := fun i p h => by simp at h
theorem LOk.take {l : List Post} (h : LOk l) (k : Nat) : LOk (l.take k) := fun i p hp => by
  rw [List.getElem?_take] at hp
  by_cases q : i < k
  · rw [if_pos q] at hp
    rw [List.take_take, Nat.min_eq_left (by omega)]
    exact h i p hp
  · rw [if_neg q] at hp; cases hp
theorem LOk_snoc {l : List Post} {p : Post} : LOk (l ++ [p]) ↔ LOk l ∧ OkP l p := by
  constructor
  · intro h; refine ⟨?_, ?_⟩
    · have := h.take l.length
      rwa [List.take_left'] at this
      rfl
    · have := h l.length p (by simp)
      rwa [List.take_left'] at this
      rfl
  · rintro ⟨h1, h2⟩ i q hq
    by_cases e : i < l.length
    · rw [List.getElem?_append_left e] at hq; rw [List.take_append_of_le_length (by omega)]; exact h1 i q hq
    · have hl := (List.getElem?_eq_some_iff.1 hq).1; rw [List.length_append, List.length_singleton] at hl
      obtain rfl : i = l.length := by omega
      rw [List.getElem?_append_right (Nat.le_refl _), Nat.sub_self] at hq; injection hq with hq; subst hq; rw [List.take_left' rfl]; exact h2
theorem LOk.first (l : List Post) : ∃ k, k ≤ l.length ∧ LOk (l.take k) ∧ ∀ p, l[k]? = some p → ¬ OkP (l.take k) p := by
  have : ∀ n, n ≤ l.length → (∃ k, k ≤ l.length ∧ LOk (l.take k) ∧ ∀ p, l[k]? = some p → ¬ OkP (l.take k) p) ∨ LOk (l.take n) := by
    intro n
    induction n with
    | zero => intro _; exact .inr LOk.nil
    | succ n ih =>
      intro hn; rcases ih (by omega) with h | h
      · exact .inl h
      · have hx : l[n]? = some l[n] := List.getElem?_eq_getElem (by omega)
        by_cases q : OkP (l.take n) l[n]
        · refine .inr ?_; rw [List.take_add_one, hx]; exact LOk_snoc.2 ⟨h, q⟩
        · exact .inl ⟨n, by omega, h, fun p hp => by rw [hx] at hp; injection hp with hp; rw [← hp]; exact q⟩
  rcases this l.length (Nat.le_refl _) with h | h
  · exact h
  · exact ⟨l.length, Nat.le_refl _, h, fun p hp => by simp at hp⟩
noncomputable def vN (l : List Post) : Nat := (LOk.first l).choose
theorem vN_spec (l : List Post) : vN l ≤ l.length ∧ LOk (l.take (vN l)) ∧ ∀ p, l[vN l]? = some p → ¬ OkP (l.take (vN l)) p := (LOk.first l).choose_spec
theorem vN_uniq {l : List Post} {k : Nat} (hk : k ≤ l.length) (h1 : LOk (l.take k)) (h2 : ∀ p, l[k]? = some p → ¬ OkP (l.take k) p) : vN l = k := by
  obtain ⟨a, b, c⟩ := vN_spec l
  have key : ∀ i j : Nat, i < j → j ≤ l.length → LOk (l.take j) → (∀ p, l[i]? = some p → ¬ OkP (l.take i) p) → False := fun i j hij hj hok hno => by
    have hx : l[i]? = some l[i] := List.getElem?_eq_getElem (by omega); refine hno _ hx ?_; have := hok i l[i] (by rw [List.getElem?_take, if_pos hij]; exact hx)
    rwa [List.take_take, Nat.min_eq_left (by omega)] at this
  rcases Nat.lt_trichotomy (vN l) k with h | h | h
  · exact absurd h1 fun h1 => key _ _ h hk h1 c
  · exact h
  · exact absurd b fun b => key _ _ h a b h2
theorem vN_all {l : List Post} : vN l = l.length ↔ LOk l := by
  constructor
  · intro h; have := (vN_spec l).2.1
    rwa [h, List.take_length] at this
  · intro h
    exact vN_uniq (Nat.le_refl _) (by rwa [List.take_length]) fun p hp => by simp at hp
noncomputable def ldgErr (l : List Post) : Int := if 4096 < l.length then 2 else if LOk l then 0 else 560
theorem ldgErr_0 {l : List Post} : ldgErr l = 0 ↔ l.length ≤ 4096 ∧ LOk l := by
  unfold ldgErr
  by_cases h : 4096 < l.length
  · rw [if_pos h]; constructor
    · intro e; cases e
    · rintro ⟨h1, -⟩; omega
  · rw [if_neg h]
    by_cases q : LOk l
    · rw [if_pos q]; exact ⟨fun _ => ⟨by omega, q⟩, fun _ => rfl⟩
    · rw [if_neg q]; constructor
      · intro e; cases e
      · rintro ⟨-, h1⟩; exact absurd h1 q
theorem posD_b {p : Post} (h : P1 p) (a : Acc) : -1099511627776 ≤ posD p a ∧ posD p a ≤ 1099511627776 := by
  have := h.n; unfold posD
  split <;> split <;> omega
theorem bal_b {l : List Post} (h : LOk l) (a : Acc) : -(1099511627776 * (l.length : Int)) ≤ balL l a ∧ balL l a ≤ 1125899906842624 ∧ (a.2 ≠ 0 → 0 ≤ balL l a) := by
  have : ∀ k, k ≤ l.length → -(1099511627776 * (k : Int)) ≤ balL (l.take k) a ∧ balL (l.take k) a ≤ 1125899906842624 ∧ (a.2 ≠ 0 → 0 ≤ balL (l.take k) a) := by
    intro k
    induction k with
    | zero => intro _; rw [List.take_zero, balL_nil]; omega
    | succ k ih =>
      intro hk; obtain ⟨i1, i2, i3⟩ := ih (by omega); have hx : l[k]? = some l[k] := List.getElem?_eq_getElem (by omega); have ho := h k _ hx; rw [List.take_add_one, hx]; show _ ≤ balL (l.take k ++ [l[k]]) a ∧ balL (l.take k ++ [l[k]]) a ≤ _ ∧ _; rw [balL_snoc]; have hb := posD_b ho.toP1 a; have hn := ho.n; refine ⟨by omega, ?_, fun h0 => ?_⟩
      · unfold posD
        by_cases e1 : l[k].ta = a
        · rw [if_pos e1]; have := ho.fit; rw [e1] at this
          split <;> omega
        · rw [if_neg e1]
          split <;> omega
      · have i3 := i3 h0; show 0 ≤ balL (l.take k ++ [l[k]]) a; rw [balL_snoc]; unfold posD
        by_cases e2 : l[k].fa = a
        · rw [if_pos e2]; have := ho.has (by rw [← e2] at h0; exact h0); rw [e2] at this
          split <;> omega
        · rw [if_neg e2]
          split <;> omega
  have h2 := this l.length (Nat.le_refl _)
  rwa [List.take_length] at h2
theorem LOk.p1 {l : List Post} (h : LOk l) {p : Post} (hp : p ∈ l) : P1 p := by
  obtain ⟨i, hi⟩ := List.getElem?_of_mem hp; exact (h i p hi).toP1
theorem LOk.hours {l : List Post} (h : LOk l) : l.Pairwise fun p q => p.hour ≤ q.hour ∧ p.no < q.no := by
  have : ∀ k, k ≤ l.length → (l.take k).Pairwise fun p q => p.hour ≤ q.hour ∧ p.no < q.no := by
    intro k
    induction k with
    | zero => intro _; exact .nil
    | succ k ih =>
      intro hk; have ih := ih (by omega); have hx : l[k]? = some l[k] := List.getElem?_eq_getElem (by omega); have ho := h k _ hx; rw [List.take_add_one, hx]; show (l.take k ++ [l[k]]).Pairwise _; rw [List.pairwise_append]; refine ⟨ih, List.pairwise_singleton _ _, fun p hp q hq => ?_⟩; rw [List.mem_singleton] at hq; subst hq; rcases List.eq_nil_or_concat (l.take k) with e | ⟨t, y, e⟩
      · rw [e] at hp; cases hp
      rw [List.concat_eq_append] at e; have hy := ho.aft y (by rw [e]; simp); rw [e] at hp ih; rcases List.mem_append.1 hp with hp | hp
      · have := (List.pairwise_append.1 ih).2.2 p hp y (by simp); omega
      · rw [List.mem_singleton] at hp; subst hp; omega
  have h2 := this l.length (Nat.le_refl _)
  rwa [List.take_length] at h2
end Go.Proofs.YtehcphboliofaaaGreatDoor
namespace Go.Proofs.YtehcphboliofaaaGreatDoor
open Go Go.RowKit
def numF : Nat → Nat → List Nat
  | 0, u => [u]
  | f + 1, u => if u < 128 then [u] else (u % 128 + 128) :: numF f (u / 128)
def num (u : Nat) : List Nat := numF 9 u
def uns (n : Int) : Nat := if 0 ≤ n then (2 * n).toNat else (2 * (-(n + 1)) + 1).toNat
theorem uns_lt {n : Int} (h : I64 n) : uns n < 18446744073709551616 := by unfold uns I64 at *; split <;> omega
theorem uns_inj {n m : Int} (h : uns n = uns m) : n = m := by unfold uns at h; split at h <;> split at h <;> omega
theorem numF_pf : ∀ (f : Nat) {u v : Nat} {r s : List Nat}, numF f u ++ r = numF f v ++ s → u = v ∧ r = s
  | 0, u, v, r, s, h => by
    simp only [numF, List.cons_append, List.nil_append, List.cons.injEq] at h
    exact h
  | f + 1, u, v, r, s, h => by
    unfold numF at h
    by_cases hu : u < 128
    · rw [if_pos hu] at h
      by_cases hv : v < 128
      · rw [if_pos hv] at h
        simpa using h
      · rw [if_neg hv] at h
        simp only [List.cons_append, List.nil_append, List.cons.injEq] at h
        omega
    · rw [if_neg hu] at h
      by_cases hv : v < 128
      · rw [if_pos hv] at h
        simp only [List.cons_append, List.nil_append, List.cons.injEq] at h
        omega
      · rw [if_neg hv] at h
        simp only [List.cons_append, List.cons.injEq] at h
        obtain ⟨h1, h2⟩ := numF_pf f h.2
        exact ⟨by omega, h2⟩
theorem num_pf {u v : Nat} {r s : List Nat} (h : num u ++ r = num v ++ s) : u = v ∧ r = s := numF_pf 9 h
theorem numF_len : ∀ (f u : Nat), 1 ≤ (numF f u).length ∧ (numF f u).length ≤ f + 1
  | 0, u => by simp [numF]
  | f + 1, u => by
    have := numF_len f (u / 128)
    unfold numF
    split <;> simp <;> omega
theorem numF_byte : ∀ (f u : Nat), u < 128 ^ f * 256 → ∀ x ∈ numF f u, x < 256
  | 0, u, h, x, hx => by
    simp only [numF, List.mem_singleton] at hx
    omega
  | f + 1, u, h, x, hx => by
    unfold numF at hx
    by_cases q : u < 128
    · rw [if_pos q, List.mem_singleton] at hx; omega
    · rw [if_neg q] at hx
      rcases List.mem_cons.1 hx with rfl | hx
      · omega
      · refine numF_byte f (u / 128) ?_ x hx
        rw [Nat.pow_succ] at h
        rw [Nat.div_lt_iff_lt_mul (by omega)]
        omega
theorem num_byte {u : Nat} (h : u < 18446744073709551616) : ∀ x ∈ num u, x < 256 := numF_byte 9 u (by omega)
def encI (n : Int) : List Nat := 1 :: num (uns n)
def encIs (l : List Int) : List Nat := 3 :: (num l.length ++ l.flatMap encI)
theorem encI_pf {n m : Int} {r s : List Nat} (h : encI n ++ r = encI m ++ s) : n = m ∧ r = s := by
  unfold encI at h; simp only [List.cons_append, List.cons.injEq, true_and] at h; obtain ⟨h1, h2⟩ := num_pf h; exact ⟨uns_inj h1, h2⟩
theorem flat_pf : ∀ {l m : List Int} {r s : List Nat}, l.length = m.length → l.flatMap encI ++ r = m.flatMap encI ++ s → l = m ∧ r = s
  | [], [], r, s, _, h => ⟨rfl, by simpa using h⟩
  | [], _ :: _, _, _, hl, _ => by simp at hl
  | _ :: _, [], _, _, hl, _ => by simp at hl
  | a :: l, b :: m, r, s, hl, h => by
    rw [List.flatMap_cons, List.flatMap_cons, List.append_assoc, List.append_assoc] at h
    obtain ⟨rfl, h2⟩ := encI_pf h
    obtain ⟨rfl, h3⟩ := flat_pf (by simpa using hl) h2
    exact ⟨rfl, h3⟩
theorem encIs_inj {l m : List Int} (h : encIs l = encIs m) : l = m := by
  unfold encIs at h; simp only [List.cons.injEq, true_and] at h; obtain ⟨h1, h2⟩ := num_pf h; exact (flat_pf (r := []) (s := []) h1 (by simpa using h2)).1
def Post.ns (p : Post) : List Int := [p.no, p.hour, p.sort, p.frm, p.to, p.n]
def txt (p : Post) : List Nat := encIs p.ns
theorem txt_inj {p q : Post} (h : txt p = txt q) : p = q := by
  have := encIs_inj h; obtain ⟨a, b, c, d, e, f⟩ := p; obtain ⟨a', b', c', d', e', f'⟩ := q
  simpa [Post.ns] using this
theorem txt_eq (p : Post) : txt p = 3 :: 6 :: (encI p.no ++ encI p.hour ++ encI p.sort ++ encI p.frm ++ encI p.to ++ encI p.n) := by
  unfold txt encIs; rw [show num p.ns.length = [6] from rfl]; simp [Post.ns]
theorem txt_len (p : Post) : 14 ≤ (txt p).length ∧ (txt p).length ≤ 68 := by
  have h := fun n => numF_len 9 (uns n); have a := h p.no; have b := h p.hour; have c := h p.sort; have d := h p.frm; have e := h p.to; have f := h p.n; rw [txt_eq]; simp only [List.length_cons, List.length_append, encI, num]; omega
theorem txt_byte {p : Post} (h : ∀ n ∈ p.ns, I64 n) : ∀ x ∈ txt p, x < 256 := by
  intro x hx; unfold txt encIs at hx; rcases List.mem_cons.1 hx with rfl | hx
  · omega
  rcases List.mem_append.1 hx with hx | hx
  · exact num_byte (by show p.ns.length < _; simp [Post.ns]) x hx
  · obtain ⟨n, hn, hx⟩ := List.mem_flatMap.1 hx; unfold encI at hx; rcases List.mem_cons.1 hx with rfl | hx
    · omega
    · exact num_byte (uns_lt (h n hn)) x hx
end Go.Proofs.YtehcphboliofaaaGreatDoor
namespace Go.Proofs.YtehcphboliofaaaGreatDoor
open Go Go.RowKit Classical
abbrev kvA (t : Acc) : Value := .agg #[.int .i64 t.1, .int .i64 t.2]
structure Key2s (P : Program) (k e : TypeId) (f0 f1 : Field) : Prop where
  u : P.underlying k = some (.struct #[f0, f1])
  t0 : f0.type = e
  t1 : f1.type = e
  o0 : f0.offset = 0
  o1 : f1.offset = 1
  n0 : f0.name ≠ "_"
  n1 : f1.name ≠ "_"
  ue : P.underlying e = some (.int .i64)
  eq : ∀ a b a' b' : Int, eqV P 8 k (.agg #[.int .i64 a, .int .i64 b]) (.agg #[.int .i64 a', .int .i64 b']) = some ((a == a') && ((b == b') && true))
section
variable {P : Program}
theorem run_chk2s {k e : TypeId} {f0 f1 : Field} (h : Key2s P k e f0 f1) (b : Bool) (a : Acc) (w : World) : (Instr.checkKey b 10000 k (kvA a)).run P w = .ok () w := by
  have p0 : (part e #[.int .i64 a.1, .int .i64 a.2] 0).run P w = .ok (.int .i64 a.1) w := run_partV (by unfold partV; rw [h.ue]; rfl) w; have p1 : (part e #[.int .i64 a.1, .int .i64 a.2] 1).run P w = .ok (.int .i64 a.2) w := run_partV (by unfold partV; rw [h.ue]; rfl) w
  have ck : ∀ n : Int, (Instr.checkKey b 9999 e (.int .i64 n)).run P w = .ok () w := fun n => by
    rw [show (9999 : Nat) = 9998 + 1 from rfl]; unfold Instr.checkKey; rw [Sem.run_bind, run_underlying h.ue]
    rfl
  rw [show (10000 : Nat) = 9999 + 1 from rfl]; unfold Instr.checkKey; simp only [Sem.run_bind, run_underlying h.u, Result.andThen_ok]; simp only [← Array.forIn_toList, List.forIn_cons, List.forIn_nil, if_pos h.n0, if_pos h.n1, Sem.run_bind, h.t0, h.t1, h.o0, h.o1, p0, p1, ck, Result.andThen_ok, Sem.run_pure]
theorem run_fnd2s {k e : TypeId} {f0 f1 : Field} (h : Key2s P k e f0 f1) (a : Acc) (L : List MapEntry) (w : World) (hL : ∀ e ∈ L, ∃ q, e.key = kvA q) : (Instr.findKey k (kvA a) L).run P w = .ok (findP (kvA a) L 0) w := by
  have heq : ∀ q : Acc, (Op.equal k (kvA a) (kvA q)).run P w = .ok ((a.1 == q.1) && ((a.2 == q.2) && true)) w := fun q => run_eqV 9992 8 k _ _ _ (h.eq a.1 a.2 q.1 q.2) w
  have ask : ∀ (L : List MapEntry) (i : Nat), (∀ e ∈ L, ∃ q, e.key = kvA q) → (Instr.findAsking k (kvA a) L i).run P w = .ok (findP (kvA a) L i) w := by
    intro L
    induction L with
    | nil => intro i _; simp [Instr.findAsking, findP]
    | cons x r ih =>
      intro i hx; obtain ⟨q, hq⟩ := hx x List.mem_cons_self; unfold Instr.findAsking findP; rw [hq, Sem.run_bind, heq q]
      by_cases hab : a = q
      · subst hab; simp
      · have h1 : ((a.1 == q.1) && ((a.2 == q.2) && true)) = false := by
          rw [Bool.eq_false_iff]; intro e; simp at e; exact hab (Prod.ext e.1 e.2)
        have h2 : ¬ (kvA q = kvA a) := fun e => by
          simp at e; exact hab (Prod.ext e.1.symm e.2.symm)
        rw [h1, if_neg h2]
        simpa using ih (i + 1) fun y hy => hx y (List.mem_cons_of_mem _ hy)
  unfold Instr.findKey; rw [Sem.run_bind, run_underlying h.u]; simp only [Result.andThen_ok]
  cases L with
  | nil => simp [Instr.findNow, findP]
  | cons x r =>
    obtain ⟨q, hq⟩ := hL x List.mem_cons_self
    have : Instr.findNow (.struct #[f0, f1]) (kvA a) (x :: r) 0 = none := by unfold Instr.findNow; rw [hq]; rfl
    rw [this]; exact ask _ 0 hL
theorem Key2s.law {k e : TypeId} {f0 f1 : Field} (h : Key2s P k e f0 f1) : KeyL P k kvA where
  inj a b h := by simp at h; exact Prod.ext h.1 h.2
  chk := run_chk2s h
  bits a := by
    rw [show (10000 : Nat) = 9998 + 1 + 1 from rfl]; simp [Instr.sameBits]
  fnd := run_fnd2s h
end
theorem keyA2 : ∃ f0 f1, Key2s Tryz.prog 97 3 f0 f1 := ⟨_, _, ⟨Tryz.underlying97, rfl, rfl, rfl, rfl, by decide, by decide, by kernel_rfl, fun _ _ _ _ => by kernel_rfl⟩⟩
instance keyAc : KeyL Tryz.prog 97 kvA := by
  obtain ⟨_, _, h⟩ := keyA2
  exact h.law
theorem kvA_inj {a b : Acc} (h : kvA a = kvA b) : a = b := KeyL.inj (P := Tryz.prog) (k := 97) (kv := kvA) a b h
theorem key_injL {L : List MapEntry} (h : (L.map (·.key)).Nodup) : ∀ {e e' : MapEntry}, e ∈ L → e' ∈ L → e.key = e'.key → e = e' := by
  induction L with
  | nil => intro e e' he; cases he
  | cons a L ih =>
    intro e e' he he' hk; rw [List.map_cons, List.nodup_cons] at h; rcases List.mem_cons.1 he with h1 | he <;> rcases List.mem_cons.1 he' with h2 | he'
    · rw [h1, h2]
    · exact absurd (show a.key ∈ L.map (·.key) from by rw [← h1, hk]; exact List.mem_map_of_mem he') h.1
    · exact absurd (show a.key ∈ L.map (·.key) from by rw [← h2, ← hk]; exact List.mem_map_of_mem he) h.1
    · exact ih h.2 he he' hk
theorem born_injL {L : List MapEntry} {c : Nat} (h : BornL L c) {e e' : MapEntry} (he : e ∈ L) (he' : e' ∈ L) (hb : e'.born = e.born) : e' = e := by
  obtain ⟨i, hi⟩ := List.getElem?_of_mem he; obtain ⟨j, hj⟩ := List.getElem?_of_mem he'; have := (h i e hi).2 j e' hj hb; subst this; rw [hi] at hj; injection hj with hj; exact hj.symm
theorem left_ltL {L : List MapEntry} {seen : List Nat} {e : MapEntry} (he : e ∈ L) (hn : e.born ∉ seen) : (L.filter fun x => !(seen ++ [e.born]).contains x.born).length < (L.filter fun x => !seen.contains x.born).length := by
  induction L with
  | nil => cases he
  | cons a L ih =>
    have hle : (L.filter fun x => !(seen ++ [e.born]).contains x.born).length ≤ (L.filter fun x => !seen.contains x.born).length := by
      rw [← List.countP_eq_length_filter, ← List.countP_eq_length_filter]; refine List.countP_mono_left fun x _ hx => ?_; simp only [Bool.not_eq_true', List.contains_eq_mem, decide_eq_false_iff_not, List.mem_append] at hx ⊢; exact fun h => hx (.inl h)
    rw [List.filter_cons, List.filter_cons]
    by_cases hae : a.born = e.born
    · have h1 : (!(seen ++ [e.born]).contains a.born) = false := by rw [hae]; simp
      have h2 : (!seen.contains a.born) = true := by rw [hae]; simpa using hn
      rw [h1, h2]; simp only [Bool.false_eq_true, if_false, if_true, List.length_cons]; omega
    · have he' : e ∈ L := by
        rcases List.mem_cons.1 he with rfl | h
        · exact absurd rfl hae
        · exact h
      have := ih he'
      have h3 : (!(seen ++ [e.born]).contains a.born) = (!seen.contains a.born) := by simp [hae]
      rw [h3]
      by_cases h4 : (!seen.contains a.born) = true
      · rw [if_pos h4, if_pos h4, List.length_cons, List.length_cons]; omega
      · rw [if_neg h4, if_neg h4]; exact this
theorem old_L {L : List MapEntry} {seen : List Nat} {c : Nat} {e e' : MapEntry} (hb : BornL L c) (he : e ∈ L) (he' : e' ∈ L) : e'.born ∈ seen ++ [e.born] ↔ e'.born ∈ seen ∨ e' = e := by
  rw [List.mem_append, List.mem_singleton]; exact or_congr Iff.rfl ⟨fun h => born_injL hb he he' h, fun h => by rw [h]⟩
theorem nodup_leL {α : Type} [DecidableEq α] : ∀ {a b : List α}, a.Nodup → (∀ x ∈ a, x ∈ b) → a.length ≤ b.length
  | [], _, _, _ => Nat.zero_le _
  | x :: a, b, hn, hs => by
    rw [List.nodup_cons] at hn
    have hx := hs x List.mem_cons_self
    have ih := nodup_leL (b := b.erase x) hn.2 fun y hy => (List.mem_erase_of_ne fun e => hn.1 (by rw [← e]; exact hy)).2 (hs y (List.mem_cons_of_mem _ hy))
    rw [List.length_erase_of_mem hx] at ih
    have := List.length_pos_of_mem hx
    rw [List.length_cons]
    omega
def MapAs (w : World) (g : Nat) (F : Acc → Int) : Prop := ∃ f : Acc → Option Int, MapU kvA w g (fun a => (f a).map iv) ∧ ∀ a, (f a).getD 0 = F a
theorem MapAs.kept {D : Nat → Prop} {w w' : World} {g : Nat} {F : Acc → Int} (h : MapAs w g F) (k : Kept D w w') (hD : D g) : MapAs w' g F := by
  obtain ⟨f, h1, h2⟩ := h; exact ⟨f, h1.kept k hD, h2⟩
theorem MapAs.g {w : World} {g : Nat} {F : Acc → Int} (h : MapAs w g F) (a : Acc) : ∃ f : Acc → Option Value, MapG kvA w g f ∧ (f a).getD (iv 0) = iv (F a) := by
  obtain ⟨f, h1, h2⟩ := h; refine ⟨_, h1.g, ?_⟩; rw [← h2]
  cases f a <;> rfl
theorem MapAs.lt {w : World} {g : Nat} {F : Acc → Int} (h : MapAs w g F) : g < w.heap.size := by
  obtain ⟨f, h1, -⟩ := h; exact MapG.lt h1.g
theorem MapAs.new (w : World) : MapAs (w.alloc (.map #[] 0)) w.heap.size (fun _ => 0) := ⟨fun _ => none, MapU.new kvA w, fun _ => rfl⟩
noncomputable def accSet (F : Acc → Int) (a : Acc) (n : Int) : Acc → Int := fun b => if b = a then n else F b
theorem pset_iv {f : Acc → Option Int} {a : Acc} {n : Int} : (pset (fun t => (f t).map iv) a (iv n)) = fun b => ((if b = a then some n else f b) : Option Int).map iv := by
  funext b
  unfold pset
  split <;> rfl
section
variable {P : Program}
theorem mupdAc {t k e : TypeId} [hm : MapTy P t k e] [hk : KeyL P k kvA] {g : Nat} {F : Acc → Int} (a : Acc) {n : Int} {w : World} {K : VK} (h : MapAs w g F) (kk : ∀ w', MapAs w' g (accSet F a n) → Kept (fun b => b ≠ g) w w' → w'.heap.size = w.heap.size → K undef w') : MUpdP P t (.map (some g)) (kvA a) (iv n) K w := by
  obtain ⟨f, h1, h2⟩ := h; refine mupdU a h1 fun w' h3 h4 h5 => kk w' ⟨fun b => if b = a then some n else f b, by rw [← pset_iv]; exact h3, fun b => ?_⟩ h4 h5; unfold accSet; simp only
  by_cases q : b = a
  · rw [if_pos q, if_pos q]; rfl
  · rw [if_neg q, if_neg q]; exact h2 b
def MapAv (w : World) (g : Nat) (F : Acc → Int) (a : Acc) (s : Nat) : Prop := ∃ f : Acc → Option Int, MapV kvA w g (fun a => (f a).map iv) a s ∧ ∀ a, (f a).getD 0 = F a
theorem MapAv.s {w : World} {g s : Nat} {F : Acc → Int} {a : Acc} (h : MapAv w g F a s) : MapAs w g F := by
  obtain ⟨f, h1, h2⟩ := h; exact ⟨f, h1.g, h2⟩
theorem mentAc {t k e : TypeId} [hm : MapTy P t k e] [hk : KeyL P k kvA] [hz : ZeroTy P e (iv 0)] {g : Nat} {F : Acc → Int} (a : Acc) {w : World} {K : VK} (h : MapAs w g F) (kk : ∀ w' (s : Nat), MapAv w' g F a s → Kept (fun b => b ≠ g) w w' → w'.heap.size = w.heap.size → K (.tuple #[iv (F a), .int .i64 (s : Int)]) w') : MEntP P t (.map (some g)) (kvA a) K w := by
  obtain ⟨f, h1, h2⟩ := h
  have e : ((f a).map iv).getD (iv 0) = iv (F a) := by rw [← h2]; cases f a <;> rfl
  refine mentU (zv := iv 0) a h1 fun w' s h3 h4 h5 => ?_; rw [e] at h3 ⊢; refine kk w' s ⟨fun b => if b = a then some (F a) else f b, by rw [← pset_iv]; exact h3, fun b => ?_⟩ h4 h5; simp only
  by_cases q : b = a
  · rw [if_pos q, q]; rfl
  · rw [if_neg q]; exact h2 b
theorem estoAc {t k e : TypeId} [hm : MapTy P t k e] [hk : KeyL P k kvA] {g s : Nat} {F : Acc → Int} {a : Acc} {n : Int} {w : World} {K : VK} (h : MapAv w g F a s) (kk : ∀ w', MapAs w' g (accSet F a n) → Kept (fun b => b ≠ g) w w' → w'.heap.size = w.heap.size → K undef w') : EStoP P t (.map (some g)) (.int .i64 (s : Int)) (iv n) K w := by
  obtain ⟨f, h1, h2⟩ := h; refine estoU h1 fun w' h3 h4 h5 => kk w' ⟨fun b => if b = a then some n else f b, by rw [← pset_iv]; exact h3, fun b => ?_⟩ h4 h5; unfold accSet; simp only
  by_cases q : b = a
  · rw [if_pos q, if_pos q]; rfl
  · rw [if_neg q, if_neg q]; exact h2 b
end
end Go.Proofs.YtehcphboliofaaaGreatDoor
