/- Parts of the proof: Bk Bl Bm Bn Bo Bp Bq Br Bs Bw. -/
import Derived.Test.YtpmfeplifgmdhaaM8

/- Layer 23, plainly: the accounts of the program and of the reference are alike. -/
namespace Go.Proofs.Ytpmfeplifgmdhaa
open Go Go.RowKit

section
variable {d : Dist} {x : Run} {H i : Nat}
theorem rS_zero {l : List Int} {m : Int} (h : m ≤ 0) : rS l m = 0 := by unfold rS; rw [show m.toNat = 0 by omega]; simp
theorem now_step {k : Nat} {key : Int × Int} : nowN d x (k + 1) key = nowN d x k key - outN (movesL d x k) key + inN (movesL d x k) key := rfl
theorem now_tank : ∀ k, nowN d x k (1, 0) = storeN d x k
  | 0 => by unfold nowN storeN; rw [if_pos rfl]
  | k + 1 => by
    rw [now_step, now_tank k, out_tank, in_none (.inr rfl)]
    show _ = storeN d x k + g1 x.inflow k - g1 x.spill k - g2 x.inn 0 k
    simp; omega
theorem now_0 {key : Int × Int} (h : key ≠ (1, 0)) : nowN d x 0 key = 0 := by unfold nowN; rw [if_neg h]
theorem now_way (hf : Fm d x H) (hR : RightP d x H) (hi : i < d.reaches.length) : ∀ k, k ≤ H → nowN d x k (2, (i : Int)) = rS (x.inn.getD i []) k - rS (x.inn.getD i []) (k - (rch d i).delay)
  | 0, _ => by
    obtain ⟨-, -, h1, h2⟩ := hf.at_ (reach_at hi)
    rw [now_0 (by simp), rS_zero (by simp), rS_zero (by simp; omega)]; rfl
  | k + 1, hk => by
    have hb := hR.bal i k hi (by omega)
    unfold balI at hb
    rw [decide_eq_true_eq] at hb
    have hr := (tab_row hf.inn hi).2
    obtain ⟨-, -, h1, h2⟩ := hf.at_ (reach_at hi)
    rw [now_step, now_way hf hR hi k (by omega), out_moves hi, in_way hf hi]
    have e1 := rS_step hr (m := (k : Int)) (by omega)
    have e2 := rS_step hr (m := (k : Int) - (rch d i).delay) (by omega)
    rw [if_pos (by omega), Int.toNat_natCast] at e1
    have e3 : ((k + 1 : Nat) : Int) - (rch d i).delay = (k : Int) - (rch d i).delay + 1 := by omega
    have e4 : ((k + 1 : Nat) : Int) = (k : Int) + 1 := by omega
    rw [e3, e4, e1, e2]
    have hp : (parc d x k i).1 = if 0 ≤ (k : Int) - (rch d i).delay then g1 (x.inn.getD i []) ((k : Int) - (rch d i).delay).toNat else 0 := by
      unfold parc ent; split <;> rfl
    rw [← hp]
    show _ - _ + g1 (x.inn.getD i []) k = _
    omega
theorem now_del (kd : Int) (ls : List (List Int)) (sel : Int × Int × Int → Int) (hf : Fm d x H) (hi : i < d.reaches.length) (hl : numB H (ls.getD i []) = true) (hk0 : kd ≠ 0 ∧ kd ≠ 1 ∧ kd ≠ 2)
    (hin : ∀ k, k < H → inN (movesL d x k) (kd, (i : Int)) = sel (parc d x k i)) (hsel : ∀ k, sel (parc d x k i) = if 0 ≤ (k : Int) - (rch d i).delay then g1 (ls.getD i []) ((k : Int) - (rch d i).delay).toNat else 0) : ∀ k, k ≤ H → nowN d x k (kd, (i : Int)) = rS (ls.getD i []) (k - (rch d i).delay)
  | 0, _ => by
    obtain ⟨-, -, h1, h2⟩ := hf.at_ (reach_at hi)
    rw [now_0 (by simp; omega), rS_zero (by simp; omega)]
  | k + 1, hk => by
    obtain ⟨-, -, h1, h2⟩ := hf.at_ (reach_at hi)
    rw [now_step, now_del kd ls sel hf hi hl hk0 hin hsel k (by omega), out_no hk0.2.2 hk0.2.1 hk0.1, hin k (by omega), hsel]
    have e2 := rS_step hl (m := (k : Int) - (rch d i).delay) (by omega)
    have e3 : ((k + 1 : Nat) : Int) - (rch d i).delay = (k : Int) - (rch d i).delay + 1 := by omega
    rw [e3, e2]; omega
theorem now_flat (kd ix : Int) (l : List Int) (hl : numB H l = true) (hk0 : kd ≠ 0 ∧ kd ≠ 1 ∧ kd ≠ 2) (hin : ∀ k, k < H → inN (movesL d x k) (kd, ix) = g1 l k) : ∀ k, k ≤ H → nowN d x k (kd, ix) = rS l k
  | 0, _ => by rw [now_0 (by simp; omega), rS_zero (by simp)]
  | k + 1, hk => by
    rw [now_step, now_flat kd ix l hl hk0 hin k (by omega), out_no hk0.2.2 hk0.2.1 hk0.1, hin k (by omega)]
    have e2 := rS_step hl (m := (k : Int)) (by omega)
    rw [if_pos (by omega), Int.toNat_natCast] at e2
    have e4 : ((k + 1 : Nat) : Int) = (k : Int) + 1 := by omega
    rw [e4, e2]; omega
theorem racc_eq {T : Nat} (hf : Fm d x H) (hR : RightP d x H) (hT : T ≤ H) : raccL d x T = accL d x T := by
  have hmap : ∀ {n : Nat} {f g : Nat → Ac}, (∀ i, i < n → f i = g i) → (List.range n).map f = (List.range n).map g := fun {n f g} h => List.map_congr_left fun i hi => h i (List.mem_range.1 hi)
  unfold raccL accL kindsL
  simp only [List.flatMap_cons, List.flatMap_nil, List.append_nil, List.append_assoc]
  have a1 : ([⟨1, 0, storeN d x T⟩] : List Ac) = accK d x T 1 1 := by unfold accK; rw [List.range_one, List.map_cons, List.map_nil]; rw [← now_tank]; rfl
  have a2 : raW d x T d.reaches.length = accK d x T 2 d.reaches.length := by
    unfold raW accK; exact hmap fun i hi => by rw [now_way hf hR hi T hT]
  have a3 : raD 3 x.evap d T d.reaches.length = accK d x T 3 d.reaches.length := by
    unfold raD accK; exact hmap fun i hi => by
      rw [now_del 3 x.evap (fun p => p.2.1) hf hi (tab_row hf.evap hi).2 (by omega) (fun k _ => in_evap hi) (fun k => by unfold parc ent; split <;> rfl) T hT]
  have a4 : raD 4 x.seep d T d.reaches.length = accK d x T 4 d.reaches.length := by
    unfold raD accK; exact hmap fun i hi => by
      rw [now_del 4 x.seep (fun p => p.2.2) hf hi (tab_row hf.seep hi).2 (by omega) (fun k _ => in_seep hi) (fun k => by unfold parc ent; split <;> rfl) T hT]
  have a5 : raT 5 x.taken T d.farms.length = accK d x T 5 d.farms.length := by
    unfold raT accK; exact hmap fun i hi => by
      rw [now_flat 5 i (x.taken.getD i []) (tab_row hf.taken hi).2 (by omega) (fun k _ => in_taken hf hi) T hT]
  have a6 : raT 6 x.tail T d.reaches.length = accK d x T 6 d.reaches.length := by
    unfold raT accK; exact hmap fun i hi => by
      rw [now_flat 6 i (x.tail.getD i []) (tab_row hf.tail hi).2 (by omega) (fun k _ => in_tail hi) T hT]
  have a7 : ([⟨7, 0, rS x.spill T⟩] : List Ac) = accK d x T 7 1 := by
    unfold accK; rw [List.range_one, List.map_cons, List.map_nil]
    have := now_flat (d := d) (x := x) 7 0 x.spill hf.spill (by omega) (fun k _ => by rw [in_none (.inl rfl)]; simp) T hT
    show _ = [(⟨7, 0, nowN d x T (7, 0)⟩ : Ac)]
    rw [this]
  rw [a1, a2, a3, a4, a5, a6, a7]
end
end Go.Proofs.Ytpmfeplifgmdhaa

/- Layer 23, plainly: what the laws' small district answers. -/
namespace Go.Proofs.Ytpmfeplifgmdhaa
open Go Go.RowKit
def smallD : Dist := ⟨ByteArray.empty, 4, 30, 20, [⟨ByteArray.empty, -1, 2, 50, 50, 0, ⟨0, 2⟩, ⟨0, 1⟩, ⟨1, 10⟩⟩, ⟨ByteArray.empty, 0, 1, 50, 50, 0, ⟨0, 0⟩, ⟨0, 1⟩, ⟨0, 1⟩⟩], [⟨ByteArray.empty, 0, 0, -1⟩, ⟨ByteArray.empty, 1, 0, -1⟩], [], [], [], []⟩
def smallX : Run := ⟨[5, 0, 0, 2], [0, 1, 0, 0], [[10, 0, 0, 0], [0, 0, 4, 0]], [[1, 0, 0, 0], [0, 0, 0, 0]], [[1, 0, 0, 0], [0, 0, 0, 0]], [[0, 0, 3, 0], [0, 0, 0, 4]], [[0, 0, 1, 0], [0, 0, 0, 0]]⟩
def noX : Run := ⟨[], [], [], [], [], [], []⟩
def noD : Dist := ⟨ByteArray.empty, 0, 0, 0, [], [], [], [], [], []⟩
theorem sm1 : bErr smallD smallX = 0 := by kernel_rfl
theorem sm2 : storeV smallD smallX 4 = (16, 0) := by kernel_rfl
theorem sm3 : hErr smallD smallX 3 smallD.hours = 0 := by kernel_rfl
theorem sm4 : accL smallD smallX 3 = [⟨1, 0, 14⟩, ⟨2, 0, 0⟩, ⟨2, 1, 4⟩, ⟨3, 0, 1⟩, ⟨3, 1, 0⟩, ⟨4, 0, 1⟩, ⟨4, 1, 0⟩, ⟨5, 0, 3⟩, ⟨5, 1, 0⟩, ⟨6, 0, 1⟩, ⟨6, 1, 0⟩, ⟨7, 0, 1⟩] := by kernel_rfl
theorem sm5 : movV smallD smallX 2 = [⟨(2, 0), (3, 0), 1⟩, ⟨(2, 0), (4, 0), 1⟩, ⟨(2, 0), (2, 1), 4⟩, ⟨(2, 0), (5, 0), 3⟩, ⟨(2, 0), (6, 0), 1⟩] := by kernel_rfl
theorem sm6 : storeV smallD smallX (-1) = (0, 1) := by kernel_rfl
theorem sm7 : bErr smallD noX = 230 := by kernel_rfl
theorem sm8 : bErr noD smallX = 191 := by kernel_rfl
theorem sm9 : hErr smallD smallX 2 (smallD.hours - 1) = 0 := by kernel_rfl
theorem sm10 : bErr smallD { smallX with evap := [[3, 0, 0, 0], [0, 0, 0, 0]] } = 230 := by kernel_rfl
end Go.Proofs.Ytpmfeplifgmdhaa

/- Layer 23: contract of the laws' small district. -/
namespace Go.Proofs.Ytpmfeplifgmdhaa
open Go Go.RowKit

theorem smallI {l : List Int} (h : (l.all fun x => decide (0 ≤ x) && decide (x ≤ 100)) = true) : ∀ x ∈ l, I64 x := fun x hx => by have := List.all_eq_true.1 h x hx; simp only [Bool.and_eq_true, decide_eq_true_eq] at this; unfold I64; constructor <;> omega
theorem c_small {w : World} : CallZ Try.prog 24 #[] w (fun v w' => ∃ csd csx, v = .tuple #[.agg csd.toArray, .agg csx.toArray] ∧ Ext w w' ∧ DiR (fun b => w.heap.size ≤ b) w' csd smallD ∧ RuR (fun b => w.heap.size ≤ b) w' csx smallX) := by
  refine fn_rule (args := []) Try.func24 (by kernel_rfl) ?_
  refine alloc (fun q1 w1 h1 => ?_)
  refine alloc (fun q2 w2 h2 => ?_)
  refine bld [iv 0, iv 1] (by kernel_rfl) ?_
  refine bld [iv 1, iv 10] (by kernel_rfl) ?_
  refine alloc (fun q3 w3 h3 => ?_)
  refine alloc (fun q4 w4 h4 => ?_)
  have y1 := h1.at_
  have y2 := h2.at_
  have y3 := h3.at_
  have y4 := h4.at_
  have z1 := h1.size
  have z2 := h2.size
  have z3 := h3.size
  have z4 := h4.size
  refine stA (vs := [iv 0, iv 1]) (h3.blk.ext h4.ext) rfl (Nat.le_of_ble_eq_true rfl) (by simp [Value.oneCell']) (fun w5 b5 k5 s5 => ?_)
  refine stA (vs := [iv 1, iv 10]) (h4.blk.kept k5 (by omega)) rfl (Nat.le_of_ble_eq_true rfl) (by simp [Value.oneCell']) (fun w6 b6 k6 s6 => ?_)
  have m3 : Blk w6 q3 _ [iv 0, iv 1] := b5.kept k6 (by omega)
  have m4 : Blk w6 q4 _ [iv 1, iv 10] := b6
  refine bld [iv 30, iv 20] (by kernel_rfl) ?_
  refine bld [iv 0, iv 2] (by kernel_rfl) ?_
  refine ldA [iv 0, iv 1] (CellsAt.blk m3) rfl ?_
  refine ldA [iv 1, iv 10] (CellsAt.blk m4) rfl ?_
  refine bld [iv 0, iv 1, iv 1, iv 10] (by kernel_rfl) ?_
  refine bld [.string ByteArray.empty, iv (-1), iv 2, iv 50, iv 50, iv 0, iv 0, iv 2, iv 0, iv 1, iv 1, iv 10] (by kernel_rfl) ?_
  refine ldA [iv 0, iv 1] (CellsAt.blk m3) rfl ?_
  refine ldA [iv 0, iv 1] (CellsAt.blk m3) rfl ?_
  refine bld [iv 0, iv 1, iv 0, iv 1] (by kernel_rfl) ?_
  refine bld [.string ByteArray.empty, iv 0, iv 1, iv 50, iv 50, iv 0, iv 0, iv 0, iv 0, iv 1, iv 0, iv 1] (by kernel_rfl) ?_
  refine lit [.agg #[.string ByteArray.empty, iv (-1), iv 2, iv 50, iv 50, iv 0, iv 0, iv 2, iv 0, iv 1, iv 1, iv 10], .agg #[.string ByteArray.empty, iv 0, iv 1, iv 50, iv 50, iv 0, iv 0, iv 0, iv 0, iv 1, iv 0, iv 1]] (fun q7 w7 h7 => ?_)
  refine bld [.string ByteArray.empty, iv 0, iv 0, iv (-1)] (by kernel_rfl) ?_
  refine bld [.string ByteArray.empty, iv 1, iv 0, iv (-1)] (by kernel_rfl) ?_
  refine lit [.agg #[.string ByteArray.empty, iv 0, iv 0, iv (-1)], .agg #[.string ByteArray.empty, iv 1, iv 0, iv (-1)]] (fun q8 w8 h8 => ?_)
  refine bld [.string ByteArray.empty, iv 4, iv 30, iv 20, .slice (some (ad q7 0)) 2 2, .slice (some (ad q8 0)) 2 2, .slice none 0 0, .slice none 0 0, .slice none 0 0, .slice none 0 0] (by kernel_rfl) ?_
  have z5 := s5
  have z6 := s6
  have y7 := h7.at_
  have z7 := h7.size
  have y8 := h8.at_
  have z8 := h8.size
  have e14 : Ext w1 w4 := (h2.ext.trans h3.ext).trans h4.ext
  have e16 : Kept (fun b => b ≠ q3 ∧ b ≠ q4) w1 w6 := ((Ext.any e14).then k5 fun b _ hb => hb.1).then k6 fun b _ hb => hb.2
  have e18 : Kept (fun b => b ≠ q3 ∧ b ≠ q4) w1 w8 := (e16.then h7.ext fun _ _ _ => trivial).then h8.ext fun _ _ _ => trivial
  refine stA (vs := [.string ByteArray.empty, iv 4, iv 30, iv 20, .slice (some (ad q7 0)) 2 2, .slice (some (ad q8 0)) 2 2, .slice none 0 0, .slice none 0 0, .slice none 0 0, .slice none 0 0]) (h1.blk.kept e18 ⟨by omega, by omega⟩) rfl (Nat.le_of_ble_eq_true rfl) (by simp [Value.oneCell']) (fun w9 b9 k9 s9 => ?_)
  have m1 : Blk w9 q1 _ [.string ByteArray.empty, iv 4, iv 30, iv 20, .slice (some (ad q7 0)) 2 2, .slice (some (ad q8 0)) 2 2, .slice none 0 0, .slice none 0 0, .slice none 0 0, .slice none 0 0] := b9
  refine lit [iv 5, iv 0, iv 0, iv 2] (fun q10 w10 h10 => ?_)
  refine lit [iv 0, iv 1, iv 0, iv 0] (fun q11 w11 h11 => ?_)
  refine lit [iv 10, iv 0, iv 0, iv 0] (fun q12 w12 h12 => ?_)
  refine lit [iv 0, iv 0, iv 4, iv 0] (fun q13 w13 h13 => ?_)
  refine lit [.slice (some (ad q12 0)) 4 4, .slice (some (ad q13 0)) 4 4] (fun q14 w14 h14 => ?_)
  refine lit [iv 1, iv 0, iv 0, iv 0] (fun q15 w15 h15 => ?_)
  refine lit [iv 0, iv 0, iv 0, iv 0] (fun q16 w16 h16 => ?_)
  refine lit [.slice (some (ad q15 0)) 4 4, .slice (some (ad q16 0)) 4 4] (fun q17 w17 h17 => ?_)
  refine lit [iv 1, iv 0, iv 0, iv 0] (fun q18 w18 h18 => ?_)
  refine lit [iv 0, iv 0, iv 0, iv 0] (fun q19 w19 h19 => ?_)
  refine lit [.slice (some (ad q18 0)) 4 4, .slice (some (ad q19 0)) 4 4] (fun q20 w20 h20 => ?_)
  refine lit [iv 0, iv 0, iv 3, iv 0] (fun q21 w21 h21 => ?_)
  refine lit [iv 0, iv 0, iv 0, iv 4] (fun q22 w22 h22 => ?_)
  refine lit [.slice (some (ad q21 0)) 4 4, .slice (some (ad q22 0)) 4 4] (fun q23 w23 h23 => ?_)
  refine lit [iv 0, iv 0, iv 1, iv 0] (fun q24 w24 h24 => ?_)
  refine lit [iv 0, iv 0, iv 0, iv 0] (fun q25 w25 h25 => ?_)
  refine lit [.slice (some (ad q24 0)) 4 4, .slice (some (ad q25 0)) 4 4] (fun q26 w26 h26 => ?_)
  refine bld [.slice (some (ad q10 0)) 4 4, .slice (some (ad q11 0)) 4 4, .slice (some (ad q14 0)) 2 2, .slice (some (ad q17 0)) 2 2, .slice (some (ad q20 0)) 2 2, .slice (some (ad q23 0)) 2 2, .slice (some (ad q26 0)) 2 2] (by kernel_rfl) ?_
  have y10 := h10.at_
  have z10 := h10.size
  have y11 := h11.at_
  have z11 := h11.size
  have y12 := h12.at_
  have z12 := h12.size
  have y13 := h13.at_
  have z13 := h13.size
  have y14 := h14.at_
  have z14 := h14.size
  have y15 := h15.at_
  have z15 := h15.size
  have y16 := h16.at_
  have z16 := h16.size
  have y17 := h17.at_
  have z17 := h17.size
  have y18 := h18.at_
  have z18 := h18.size
  have y19 := h19.at_
  have z19 := h19.size
  have y20 := h20.at_
  have z20 := h20.size
  have y21 := h21.at_
  have z21 := h21.size
  have y22 := h22.at_
  have z22 := h22.size
  have y23 := h23.at_
  have z23 := h23.size
  have y24 := h24.at_
  have z24 := h24.size
  have y25 := h25.at_
  have z25 := h25.size
  have y26 := h26.at_
  have z26 := h26.size
  have z9 := s9
  have e9L : Ext w9 w26 := ((((((((((((((((h10.ext.trans h11.ext).trans h12.ext).trans h13.ext).trans h14.ext).trans h15.ext).trans h16.ext).trans h17.ext).trans h18.ext).trans h19.ext).trans h20.ext).trans h21.ext).trans h22.ext).trans h23.ext).trans h24.ext).trans h25.ext).trans h26.ext)
  have e24 : Ext w2 w4 := h3.ext.trans h4.ext
  have e29 : Kept (fun b => b ≠ q1 ∧ b ≠ q3 ∧ b ≠ q4) w2 w9 := (((((Ext.any e24).then k5 fun b _ hb => hb.2.1).then k6 fun b _ hb => hb.2.2).then h7.ext fun _ _ _ => trivial).then h8.ext fun _ _ _ => trivial).then k9 fun b _ hb => hb.1
  refine stA (vs := [.slice (some (ad q10 0)) 4 4, .slice (some (ad q11 0)) 4 4, .slice (some (ad q14 0)) 2 2, .slice (some (ad q17 0)) 2 2, .slice (some (ad q20 0)) 2 2, .slice (some (ad q23 0)) 2 2, .slice (some (ad q26 0)) 2 2]) (h2.blk.kept (e29.then e9L fun _ _ _ => trivial) ⟨by omega, by omega, by omega⟩) rfl (Nat.le_of_ble_eq_true rfl) (by simp [Value.oneCell']) (fun w27 b27 k27 s27 => ?_)
  have m2 : Blk w27 q2 _ [.slice (some (ad q10 0)) 4 4, .slice (some (ad q11 0)) 4 4, .slice (some (ad q14 0)) 2 2, .slice (some (ad q17 0)) 2 2, .slice (some (ad q20 0)) 2 2, .slice (some (ad q23 0)) 2 2, .slice (some (ad q26 0)) 2 2] := b27
  have m1 : Blk w27 q1 _ [.string ByteArray.empty, iv 4, iv 30, iv 20, .slice (some (ad q7 0)) 2 2, .slice (some (ad q8 0)) 2 2, .slice none 0 0, .slice none 0 0, .slice none 0 0, .slice none 0 0] := (m1.ext e9L).kept k27 (by omega)
  refine drawP (.take 0 (.take 1 (.eff 2 (.eff 3 .done)))) [] (fun u => Blk u q1 31 [.string ByteArray.empty, iv 4, iv 30, iv 20, .slice (some (ad q7 0)) 2 2, .slice (some (ad q8 0)) 2 2, .slice none 0 0, .slice none 0 0, .slice none 0 0, .slice none 0 0] ∧ Blk u q2 35 [.slice (some (ad q10 0)) 4 4, .slice (some (ad q11 0)) 4 4, .slice (some (ad q14 0)) 2 2, .slice (some (ad q17 0)) 2 2, .slice (some (ad q20 0)) 2 2, .slice (some (ad q23 0)) 2 2, .slice (some (ad q26 0)) 2 2]) mx (by kernel_rfl) ⟨m1, m2⟩ ?_
  refine ldAS [.string ByteArray.empty, iv 4, iv 30, iv 20, .slice (some (ad q7 0)) 2 2, .slice (some (ad q8 0)) 2 2, .slice none 0 0, .slice none 0 0, .slice none 0 0, .slice none 0 0] (fun u hu => CellsAt.blk hu.1) rfl ?_
  refine ldAS [.slice (some (ad q10 0)) 4 4, .slice (some (ad q11 0)) 4 4, .slice (some (ad q14 0)) 2 2, .slice (some (ad q17 0)) 2 2, .slice (some (ad q20 0)) 2 2, .slice (some (ad q23 0)) 2 2, .slice (some (ad q26 0)) 2 2] (fun u hu => CellsAt.blk hu.2) rfl ?_
  refine stA (vs := [.string ByteArray.empty, iv 4, iv 30, iv 20, .slice (some (ad q7 0)) 2 2, .slice (some (ad q8 0)) 2 2, .slice none 0 0, .slice none 0 0, .slice none 0 0, .slice none 0 0]) m1 rfl (Nat.le_of_ble_eq_true rfl) (by simp [Value.oneCell']) (fun w28 b28 k28 s28 => ?_)
  have m1 : Blk w28 q1 31 [.string ByteArray.empty, iv 4, iv 30, iv 20, .slice (some (ad q7 0)) 2 2, .slice (some (ad q8 0)) 2 2, .slice none 0 0, .slice none 0 0, .slice none 0 0, .slice none 0 0] := b28
  have m2 : Blk w28 q2 35 [.slice (some (ad q10 0)) 4 4, .slice (some (ad q11 0)) 4 4, .slice (some (ad q14 0)) 2 2, .slice (some (ad q17 0)) 2 2, .slice (some (ad q20 0)) 2 2, .slice (some (ad q23 0)) 2 2, .slice (some (ad q26 0)) 2 2] := m2.kept k28 (by omega)
  refine strS ⟨m1, m2⟩ ?_
  refine stA (vs := [.slice (some (ad q10 0)) 4 4, .slice (some (ad q11 0)) 4 4, .slice (some (ad q14 0)) 2 2, .slice (some (ad q17 0)) 2 2, .slice (some (ad q20 0)) 2 2, .slice (some (ad q23 0)) 2 2, .slice (some (ad q26 0)) 2 2]) m2 rfl (Nat.le_of_ble_eq_true rfl) (by simp [Value.oneCell']) (fun w29 b29 k29 s29 => ?_)
  have m1 : Blk w29 q1 31 [.string ByteArray.empty, iv 4, iv 30, iv 20, .slice (some (ad q7 0)) 2 2, .slice (some (ad q8 0)) 2 2, .slice none 0 0, .slice none 0 0, .slice none 0 0, .slice none 0 0] := m1.kept k29 (by omega)
  have m2 : Blk w29 q2 35 [.slice (some (ad q10 0)) 4 4, .slice (some (ad q11 0)) 4 4, .slice (some (ad q14 0)) 2 2, .slice (some (ad q17 0)) 2 2, .slice (some (ad q20 0)) 2 2, .slice (some (ad q23 0)) 2 2, .slice (some (ad q26 0)) 2 2] := b29
  refine strS ⟨m1, m2⟩ ?_
  refine ret ?_
  refine resL _ (holds_agg (CellsAt.blk m1) rfl) ?_
  refine resL _ (holds_agg (CellsAt.blk m2) rfl) ?_
  have e9l : Kept (fun b => b ≠ q1 ∧ b ≠ q2) w9 w29 := ((((Ext.any e9L).then k27 fun b _ hb => hb.2).then k28 fun b _ hb => hb.1).then k29 fun b _ hb => hb.2)
  have f26 : Kept (fun b => b ≠ q1 ∧ b ≠ q2) w26 w29 := ((Kept.refl _ _).then k27 fun b _ hb => hb.2).then k28 (fun b _ hb => hb.1) |>.then k29 fun b _ hb => hb.2
  have f25 : Kept (fun b => b ≠ q1 ∧ b ≠ q2) w25 w29 := (Ext.any h26.ext).then f26 fun _ _ hb => hb
  have f24 : Kept (fun b => b ≠ q1 ∧ b ≠ q2) w24 w29 := (Ext.any h25.ext).then f25 fun _ _ hb => hb
  have f23 : Kept (fun b => b ≠ q1 ∧ b ≠ q2) w23 w29 := (Ext.any h24.ext).then f24 fun _ _ hb => hb
  have f22 : Kept (fun b => b ≠ q1 ∧ b ≠ q2) w22 w29 := (Ext.any h23.ext).then f23 fun _ _ hb => hb
  have f21 : Kept (fun b => b ≠ q1 ∧ b ≠ q2) w21 w29 := (Ext.any h22.ext).then f22 fun _ _ hb => hb
  have f20 : Kept (fun b => b ≠ q1 ∧ b ≠ q2) w20 w29 := (Ext.any h21.ext).then f21 fun _ _ hb => hb
  have f19 : Kept (fun b => b ≠ q1 ∧ b ≠ q2) w19 w29 := (Ext.any h20.ext).then f20 fun _ _ hb => hb
  have f18 : Kept (fun b => b ≠ q1 ∧ b ≠ q2) w18 w29 := (Ext.any h19.ext).then f19 fun _ _ hb => hb
  have f17 : Kept (fun b => b ≠ q1 ∧ b ≠ q2) w17 w29 := (Ext.any h18.ext).then f18 fun _ _ hb => hb
  have f16 : Kept (fun b => b ≠ q1 ∧ b ≠ q2) w16 w29 := (Ext.any h17.ext).then f17 fun _ _ hb => hb
  have f15 : Kept (fun b => b ≠ q1 ∧ b ≠ q2) w15 w29 := (Ext.any h16.ext).then f16 fun _ _ hb => hb
  have f14 : Kept (fun b => b ≠ q1 ∧ b ≠ q2) w14 w29 := (Ext.any h15.ext).then f15 fun _ _ hb => hb
  have f13 : Kept (fun b => b ≠ q1 ∧ b ≠ q2) w13 w29 := (Ext.any h14.ext).then f14 fun _ _ hb => hb
  have f12 : Kept (fun b => b ≠ q1 ∧ b ≠ q2) w12 w29 := (Ext.any h13.ext).then f13 fun _ _ hb => hb
  have f11 : Kept (fun b => b ≠ q1 ∧ b ≠ q2) w11 w29 := (Ext.any h12.ext).then f12 fun _ _ hb => hb
  have f10 : Kept (fun b => b ≠ q1 ∧ b ≠ q2) w10 w29 := (Ext.any h11.ext).then f11 fun _ _ hb => hb
  have f8 : Kept (fun b => b ≠ q1 ∧ b ≠ q2) w8 w29 := ((Kept.refl _ _).then k9 fun b _ hb => hb.1).then e9l fun _ _ hb => hb
  have f7 : Kept (fun b => b ≠ q1 ∧ b ≠ q2) w7 w29 := (Ext.any h8.ext).then f8 fun _ _ hb => hb
  have g7 := CellsAt.blk (h7.blk.kept f7 ⟨by omega, by omega⟩)
  have g8 := CellsAt.blk (h8.blk.kept f8 ⟨by omega, by omega⟩)
  have g10 := CellsAt.blk (h10.blk.kept f10 ⟨by omega, by omega⟩)
  have g11 := CellsAt.blk (h11.blk.kept f11 ⟨by omega, by omega⟩)
  have g12 := CellsAt.blk (h12.blk.kept f12 ⟨by omega, by omega⟩)
  have g13 := CellsAt.blk (h13.blk.kept f13 ⟨by omega, by omega⟩)
  have g14 := CellsAt.blk (h14.blk.kept f14 ⟨by omega, by omega⟩)
  have g15 := CellsAt.blk (h15.blk.kept f15 ⟨by omega, by omega⟩)
  have g16 := CellsAt.blk (h16.blk.kept f16 ⟨by omega, by omega⟩)
  have g17 := CellsAt.blk (h17.blk.kept f17 ⟨by omega, by omega⟩)
  have g18 := CellsAt.blk (h18.blk.kept f18 ⟨by omega, by omega⟩)
  have g19 := CellsAt.blk (h19.blk.kept f19 ⟨by omega, by omega⟩)
  have g20 := CellsAt.blk (h20.blk.kept f20 ⟨by omega, by omega⟩)
  have g21 := CellsAt.blk (h21.blk.kept f21 ⟨by omega, by omega⟩)
  have g22 := CellsAt.blk (h22.blk.kept f22 ⟨by omega, by omega⟩)
  have g23 := CellsAt.blk (h23.blk.kept f23 ⟨by omega, by omega⟩)
  have g24 := CellsAt.blk (h24.blk.kept f24 ⟨by omega, by omega⟩)
  have g25 := CellsAt.blk (h25.blk.kept f25 ⟨by omega, by omega⟩)
  have g26 := CellsAt.blk (h26.blk.kept f26 ⟨by omega, by omega⟩)
  have z27 := s27
  have z28 := s28
  have z29 := s29
  have hx : Ext w w29 := (h1.ext.trans h2.ext).then ((((((((Ext.any e24 : Kept (fun b => b < w.heap.size) w2 w4)).then k5 fun b _ hb => by omega).then k6 fun b _ hb => by omega).then h7.ext fun _ _ _ => trivial).then f7 fun b _ hb => ⟨by omega, by omega⟩)) ) fun b hb _ => hb
  refine ⟨_, _, rfl, hx, DiR.of_ ⟨_, _, _, _, _, _, _, _, _, _, _, _, _, _, _, _, _, _, rfl, ?_, ?_, SlR.nil, SlR.nil, SlR.nil, SlR.nil⟩, RuR.of_ ⟨_, _, _, _, _, _, _, _, _, _, _, _, _, _, _, _, _, _, _, _, _, rfl, ?_, ?_, ?_, ?_, ?_, ?_, ?_, by decide, by decide⟩⟩
  · exact SlR.of_cells rfl (by decide) (by omega) g7 ⟨_, _, rfl, rfl, _, _, rfl, rfl, rfl⟩
  · exact SlR.of_cells rfl (by decide) (by omega) g8 ⟨_, _, rfl, rfl, _, _, rfl, rfl, rfl⟩
  · exact SlR.of_cells rfl (by decide) (by omega) g10 (flat_ints (smallI (by decide)))
  · exact SlR.of_cells rfl (by decide) (by omega) g11 (flat_ints (smallI (by decide)))
  · exact SlR.of_cells rfl (by decide) (by omega) g14 ⟨_, _, rfl, ⟨_, _, _, rfl, SlR.of_cells rfl (by decide) (by omega) g12 (flat_ints (smallI (by decide))), by decide⟩, _, _, rfl, ⟨_, _, _, rfl, SlR.of_cells rfl (by decide) (by omega) g13 (flat_ints (smallI (by decide))), by decide⟩, rfl⟩
  · exact SlR.of_cells rfl (by decide) (by omega) g17 ⟨_, _, rfl, ⟨_, _, _, rfl, SlR.of_cells rfl (by decide) (by omega) g15 (flat_ints (smallI (by decide))), by decide⟩, _, _, rfl, ⟨_, _, _, rfl, SlR.of_cells rfl (by decide) (by omega) g16 (flat_ints (smallI (by decide))), by decide⟩, rfl⟩
  · exact SlR.of_cells rfl (by decide) (by omega) g20 ⟨_, _, rfl, ⟨_, _, _, rfl, SlR.of_cells rfl (by decide) (by omega) g18 (flat_ints (smallI (by decide))), by decide⟩, _, _, rfl, ⟨_, _, _, rfl, SlR.of_cells rfl (by decide) (by omega) g19 (flat_ints (smallI (by decide))), by decide⟩, rfl⟩
  · exact SlR.of_cells rfl (by decide) (by omega) g23 ⟨_, _, rfl, ⟨_, _, _, rfl, SlR.of_cells rfl (by decide) (by omega) g21 (flat_ints (smallI (by decide))), by decide⟩, _, _, rfl, ⟨_, _, _, rfl, SlR.of_cells rfl (by decide) (by omega) g22 (flat_ints (smallI (by decide))), by decide⟩, rfl⟩
  · exact SlR.of_cells rfl (by decide) (by omega) g26 ⟨_, _, rfl, ⟨_, _, _, rfl, SlR.of_cells rfl (by decide) (by omega) g24 (flat_ints (smallI (by decide))), by decide⟩, _, _, rfl, ⟨_, _, _, rfl, SlR.of_cells rfl (by decide) (by omega) g25 (flat_ints (smallI (by decide))), by decide⟩, rfl⟩
end Go.Proofs.Ytpmfeplifgmdhaa

/- Layer 23: contract of the laws' copied. -/
namespace Go.Proofs.Ytpmfeplifgmdhaa
open Go Go.RowKit

theorem flat_ints_eq {D : Nat → Prop} {w : World} : ∀ {xs : List Int} {cs : List Value}, FlatR tInt D w xs cs → cs = xs.map fun v => Value.int .i64 v
  | [], _, h => h
  | y :: r, _, ⟨c1, r1, h, ⟨h1, _⟩, h2⟩ => by rw [h, h1, flat_ints_eq h2]; rfl

section
variable {D : Nat → Prop} {w : World} {A : Option Addr} {n c : Nat}
theorem c_copied {t : List (List Int)} (ht : SlR tInts D w A n t) (hn : n ≤ 1000000) (hr : ∀ r ∈ t, r.length ≤ 1000000) : CallZ Try.prog 21 #[.slice A n c] w
    (fun v w' => Ext w w' ∧ ∃ A2 n2 c2, v = .slice A2 n2 c2 ∧ SlR tInts (fun b => w.heap.size ≤ b) w' A2 n2 t ∧ n2 ≤ c2) := by
  refine fn_rule (args := [.slice A n c]) Try.func21 (by kernel_rfl) ?_
  refine len ?_
  refine loop4 (fun (k : Nat) (A : Option Addr) (n c : Nat) => [(7, .int .i64 k), (2, .slice A n c)])
    (fun k A2 n2 c2 w' => k ≤ n ∧ ∃ cs, OwnF w w' A2 n2 c2 32 1 cs ∧ FlatR tInts (fun b => w.heap.size ≤ b ∧ A2 ≠ some (ad b 0)) w' (t.take k) cs) (fun k _ _ _ _ => n - k) 0 none 0 0 ⟨rfl, rfl, trivial⟩ ⟨by omega, _, OwnF.nil (.refl _ _), rfl⟩ rfl ?_
  rintro G k A2 n2 c2 w1 ⟨hk, cs, hown, hfl⟩
  have hlen : cs.length = k := by have := hfl.len; rw [List.length_take, ht.len] at this; have e : tInts.sz = 1 := rfl; rw [e] at this; omega
  have hcn : n2 = k := by have := hown.own.len; omega
  refine cD (fun hlt => ?_) (fun hge => ?_)
  · have hlt : k < n := by omega
    obtain ⟨b, o, cs1, row, rfl, hy, hdy, -, hc, Ar, nr, cr, rfl, hrow, hrc⟩ := (ht.ext hown.ext).at_ hlt
    refine idx k rfl hlt ?_
    refine ld _ (hc 0 _ rfl) ?_
    refine lit [] (fun g w2 h2 => ?_)
    have o2 : OwnF w1 w2 (some (ad g 0)) 0 0 3 1 [] := OwnF.lit (cs := []) (.refl _ _) h2 rfl
    have hrow2 := hrow.ext h2.ext
    have hle : row.length ≤ 1000000 := hr row (List.mem_of_getElem? hy)
    have hrl := hrow.len
    have hsrc : Src w2 Ar nr 1 (row.map fun v => Value.int .i64 v) := by
      refine ⟨by rw [List.length_map]; omega, fun hn0 => ?_⟩
      obtain ⟨b, o, cs, x, rfl, _⟩ := hrow2.at_ hn0
      obtain ⟨cs2, hf, hc⟩ := hrow2.cells
      refine ⟨b, o, rfl, ?_⟩
      rw [← flat_ints_eq hf]; exact hc
    refine appF o2 hsrc (by omega) (fun A' c' w3 o3 _ _ => ?_) (h1 := by rw [List.all_map]; exact List.all_eq_true.2 fun _ _ => rfl)
    refine lit [.slice A' (0 + nr) c'] (fun q w4 h4 => ?_)
    have x4 : Ext w1 w4 := o3.ext.trans h4.ext
    refine appF (hown.then x4) (h4.src (sz := 1) rfl) (by omega) (fun A3 c3 w5 o5 k5 hA => ?_)
    refine arI (by omega) ?_
    refine next4 (k + 1) A3 (n2 + 1) c3 ⟨rfl, rfl, trivial⟩ ⟨by omega, _, o5, ?_⟩ (by omega)
    have f5 : SlR tInt (fun b => w.heap.size ≤ b ∧ A2 ≠ some (ad b 0) ∧ b < w4.heap.size) w4 A' (0 + nr) row := by
      refine (OwnF.ints (D := fun b => w1.heap.size ≤ b) o3 (xs := row) (fun v hv => ?_) (by omega) (fun _ h => h)).more (by decide) (fun b hb h => ?_) |>.ext h4.ext
      · obtain ⟨k, hk⟩ := List.getElem?_of_mem hv
        obtain ⟨_, _, _, _, _, _, _, h⟩ := hrow.2.2 k v hk
        exact h
      · have := hown.ext.size
        have := h4.size
        refine ⟨by omega, fun e => ?_, by omega⟩
        rcases hown.form with ⟨e0, _⟩ | ⟨g', e0, _, hlt', _⟩
        · rw [e0] at e; cases e
        · rw [e0] at e; injection e with e; injection e with e _; omega
    have f6 : FlatR tInts (fun b => w.heap.size ≤ b ∧ A2 ≠ some (ad b 0) ∧ b < w4.heap.size) w4 (t.take k ++ [row]) (cs ++ [.slice A' (0 + nr) c']) :=
      ((hfl.more (fun b hb h => ⟨h.1, h.2, by have := x4.size; omega⟩)).keep (fun b hb h => x4.blk b hb trivial)).app (.one ⟨_, _, _, rfl, f5, o3.le⟩)
    rw [show t.take (k + 1) = t.take k ++ [row] from by rw [List.take_add_one, hy]; rfl]
    refine (f6.keep (fun b hb h => k5.blk b hb h.2.1)).more (fun b hb h => ⟨h.1, fun e => ?_⟩)
    rcases hA with e1 | e1 | e1 <;> rw [e1] at e
    · exact h.2.1 e
    · cases e
    · injection e with e; injection e with e _; have := h.2.2; omega
  · obtain rfl : k = n := by omega
    refine ret1 (.slice A2 n2 c2) rfl ⟨hown.ext, A2, n2, c2, rfl, ?_, hown.le⟩
    rw [List.take_of_length_le (by have := ht.len; omega)] at hfl
    exact Own.rd (a := tInts) hown.own (hfl.more fun b hb h => h.1) (by have := ht.len; omega) (by omega) fun g hg => hown.new g hg
end
end Go.Proofs.Ytpmfeplifgmdhaa

/- Layer 23: contract of the laws' sane. -/
namespace Go.Proofs.Ytpmfeplifgmdhaa
open Go Go.RowKit

def smallA : List Ac := [⟨1, 0, 14⟩, ⟨2, 0, 0⟩, ⟨2, 1, 4⟩, ⟨3, 0, 1⟩, ⟨3, 1, 0⟩, ⟨4, 0, 1⟩, ⟨4, 1, 0⟩, ⟨5, 0, 3⟩, ⟨5, 1, 0⟩, ⟨6, 0, 1⟩, ⟨6, 1, 0⟩, ⟨7, 0, 1⟩]
def smallM : List Mv := [⟨(2, 0), (3, 0), 1⟩, ⟨(2, 0), (4, 0), 1⟩, ⟨(2, 0), (2, 1), 4⟩, ⟨(2, 0), (5, 0), 3⟩, ⟨(2, 0), (6, 0), 1⟩]
section
variable {D : Nat → Prop} {w : World} {csd csx : List Value}
theorem small_check (hd : DiR D w csd smallD) (hx : RuR D w csx smallX) : CallZ Try.prog 13 #[.agg csd.toArray, .agg csx.toArray] w (fun v w' => v = iv 0 ∧ Ext w w') := by have h := c_bCheck hd hx; rwa [sm1] at h
theorem small_checkA (hd : DiR D w csd smallD) (hx : RuR D w csx noX) : CallZ Try.prog 13 #[.agg csd.toArray, .agg csx.toArray] w (fun v w' => v = iv 230 ∧ Ext w w') := by have h := c_bCheck hd hx; rwa [sm7] at h
theorem small_checkB (hd : DiR D w csd noD) (hx : RuR D w csx smallX) : CallZ Try.prog 13 #[.agg csd.toArray, .agg csx.toArray] w (fun v w' => v = iv 191 ∧ Ext w w') := by have h := c_bCheck hd hx; rwa [sm8] at h
theorem small_checkC (hd : DiR D w csd smallD) (hx : RuR D w csx { smallX with evap := [[3, 0, 0, 0], [0, 0, 0, 0]] }) : CallZ Try.prog 13 #[.agg csd.toArray, .agg csx.toArray] w (fun v w' => v = iv 230 ∧ Ext w w') := by have h := c_bCheck hd hx; rwa [sm10] at h
theorem small_store (hd : DiR D w csd smallD) (hx : RuR D w csx smallX) : CallZ Try.prog 11 #[.agg csd.toArray, .agg csx.toArray, iv 4] w (fun v w' => v = .tuple #[iv 16, iv 0] ∧ Ext w w') := by have h := c_bStore (hour := 4) hd hx; rwa [sm2] at h
theorem small_storeA (hd : DiR D w csd smallD) (hx : RuR D w csx smallX) : CallZ Try.prog 11 #[.agg csd.toArray, .agg csx.toArray, iv (-1)] w (fun v w' => v = .tuple #[iv 0, iv 1] ∧ Ext w w') := by have h := c_bStore (hour := -1) hd hx; rwa [sm6] at h
theorem small_acc (hd : DiR D w csd smallD) (hx : RuR D w csx smallX) : CallZ Try.prog 15 #[.agg csd.toArray, .agg csx.toArray, iv 3] w (fun v w' => ∃ A n c, v = .tuple #[.slice A n c, iv 0] ∧ OwnF w w' A n c 53 3 (acs smallA)) := by
  have h := c_bAccounts (hour := 3) hd hx
  rw [sm3, if_pos rfl, show (3 : Int).toNat = 3 from rfl, sm4] at h
  exact h
theorem small_mov (hd : DiR D w csd smallD) (hx : RuR D w csx smallX) : CallZ Try.prog 17 #[.agg csd.toArray, .agg csx.toArray, iv 2] w (fun v w' => Ext w w' ∧ ∃ A n c, v = .tuple #[.slice A n c, iv 0] ∧ SlR tMv (fun b => w.heap.size ≤ b) w' A n smallM ∧ n ≤ c) := by
  have h := c_bMoves (hour := 2) hd hx
  rw [sm9, sm5] at h
  exact h

set_option maxRecDepth 8000 in
theorem c_sane : CallZ Try.prog 9 #[] w (fun v w' => v = .bool true ∧ Ext w w') := by
  refine fn_rule (args := []) Try.func9 (by kernel_rfl) ?_
  refine call_of c_small ?_
  rintro _ w1 ⟨csd, csx, rfl, x1, hd, hx⟩
  have hd0 := hd.ex
  have hx0 := hx.ex
  obtain ⟨A1, n1, c1, A2, n2, c2, A3, n3, c3, A4, n4, c4, A5, n5, c5, A6, n6, c6, rfl, -⟩ := hd0
  obtain ⟨B1, m1, e1, B2, m2, e2, B3, m3, e3, B4, m4, e4, B5, m5, e5, B6, m6, e6, B7, m7, e7, rfl, i1, i2, i3, i4, i5, i6, i7, i8, i9⟩ := hx0
  refine alloc (fun q1 w2 h2 => ?_)
  refine alloc (fun q2 w3 h3 => ?_)
  have y2 := h2.at_
  have y3 := h3.at_
  have z2 := h2.size
  have z3 := h3.size
  refine stA (vs := [.string smallD.name, iv smallD.hours, iv smallD.cap, iv smallD.start, .slice A1 n1 c1, .slice A2 n2 c2, .slice A3 n3 c3, .slice A4 n4 c4, .slice A5 n5 c5, .slice A6 n6 c6]) (h2.blk.ext h3.ext) rfl (Nat.le_of_ble_eq_true rfl) (by simp [Value.oneCell']) (fun w4 b4 k4 s4 => ?_)
  refine stA (vs := [.slice B1 m1 e1, .slice B2 m2 e2, .slice B3 m3 e3, .slice B4 m4 e4, .slice B5 m5 e5, .slice B6 m6 e6, .slice B7 m7 e7]) (h3.blk.kept k4 (by omega)) rfl (Nat.le_of_ble_eq_true rfl) (by simp [Value.oneCell']) (fun w5 b5 k5 s5 => ?_)
  have Bd : Blk w5 q1 31 [.string smallD.name, iv smallD.hours, iv smallD.cap, iv smallD.start, .slice A1 n1 c1, .slice A2 n2 c2, .slice A3 n3 c3, .slice A4 n4 c4, .slice A5 n5 c5, .slice A6 n6 c6] := (show Blk w4 q1 31 [.string smallD.name, iv smallD.hours, iv smallD.cap, iv smallD.start, .slice A1 n1 c1, .slice A2 n2 c2, .slice A3 n3 c3, .slice A4 n4 c4, .slice A5 n5 c5, .slice A6 n6 c6] from b4).kept k5 (by omega)
  have Bx : Blk w5 q2 35 [.slice B1 m1 e1, .slice B2 m2 e2, .slice B3 m3 e3, .slice B4 m4 e4, .slice B5 m5 e5, .slice B6 m6 e6, .slice B7 m7 e7] := b5
  have x5 : Ext w1 w5 := ((h2.ext.trans h3.ext).then k4 fun b hb _ => by omega).then k5 fun b hb _ => by omega
  have hd1 := hd
  have hd := hd.ext x5
  have hx := hx.ext x5
  refine ldA _ (.blk Bd) rfl ?_
  refine ldA _ (.blk Bx) rfl ?_
  refine call_of (small_store hd hx) ?_
  rintro _ w6 ⟨rfl, x6⟩
  refine ldA _ (.blk (Bd.ext x6)) rfl ?_
  refine ldA _ (.blk (Bx.ext x6)) rfl ?_
  refine call_of (small_acc (hd.ext x6) (hx.ext x6)) ?_
  rintro _ w7 ⟨A, n, c, rfl, oa⟩
  have x7 := x6.trans oa.ext
  refine ldA _ (.blk (Bd.ext x7)) rfl ?_
  refine ldA _ (.blk (Bx.ext x7)) rfl ?_
  refine call_of (small_mov (hd.ext x7) (hx.ext x7)) ?_
  rintro _ w8 ⟨x78, M, k, e, rfl, om, -⟩
  have x8 := x7.trans x78
  refine ldA _ (.blk (Bd.ext x8)) rfl ?_
  refine ldA _ (.blk (Bx.ext x8)) rfl ?_
  refine call_of (small_storeA (hd.ext x8) (hx.ext x8)) ?_
  rintro _ w9 ⟨rfl, x89⟩
  have x9 := x8.trans x89
  refine ldA _ (.blk (Bd.ext x9)) rfl ?_
  refine ldA _ (.blk (Bx.ext x9)) rfl ?_
  refine call_of (small_check (hd.ext x9) (hx.ext x9)) ?_
  rintro _ w10 ⟨rfl, x90⟩
  have x10 := x9.trans x90
  refine cN (fun q => absurd rfl q) (fun _ => ?_)
  refine cN (fun q => absurd rfl q) (fun _ => ?_)
  refine cN (fun q => absurd rfl q) (fun _ => ?_)
  refine cN (fun q => absurd rfl q) (fun _ => ?_)
  refine cN (fun q => absurd rfl q) (fun _ => ?_)
  refine cN (fun q => absurd rfl q) (fun _ => ?_)
  refine ldA _ (.blk (Bd.ext x10)) rfl ?_
  refine bld [.slice none 0 0, .slice none 0 0, .slice none 0 0, .slice none 0 0, .slice none 0 0, .slice none 0 0, .slice none 0 0] (by kernel_rfl) ?_
  refine call_of (small_checkA (hd.ext x10) (RuR.of_ ⟨_, _, _, _, _, _, _, _, _, _, _, _, _, _, _, _, _, _, _, _, _, rfl, SlR.nil, SlR.nil, SlR.nil, SlR.nil, SlR.nil, SlR.nil, SlR.nil, by decide, by decide⟩)) ?_
  rintro _ w11 ⟨rfl, x911⟩
  have x11 := x10.trans x911
  refine cN (fun q => absurd rfl q) (fun _ => ?_)
  refine bld [.string ByteArray.empty, iv 0, iv 0, iv 0, .slice none 0 0, .slice none 0 0, .slice none 0 0, .slice none 0 0, .slice none 0 0, .slice none 0 0] (by kernel_rfl) ?_
  refine ldA _ (.blk (Bx.ext x11)) rfl ?_
  refine call_of (small_checkB (DiR.of_ ⟨_, _, _, _, _, _, _, _, _, _, _, _, _, _, _, _, _, _, rfl, SlR.nil, SlR.nil, SlR.nil, SlR.nil, SlR.nil, SlR.nil⟩) (hx.ext x11)) ?_
  rintro _ w12 ⟨rfl, x912⟩
  have x12 := x11.trans x912
  refine cN (fun q => absurd rfl q) (fun _ => ?_)
  refine bld [iv 1, iv 0, iv 14] (by kernel_rfl) ?_
  refine bld [iv 2, iv 0, iv 0] (by kernel_rfl) ?_
  refine bld [iv 2, iv 1, iv 4] (by kernel_rfl) ?_
  refine bld [iv 3, iv 0, iv 1] (by kernel_rfl) ?_
  refine bld [iv 3, iv 1, iv 0] (by kernel_rfl) ?_
  refine bld [iv 4, iv 0, iv 1] (by kernel_rfl) ?_
  refine bld [iv 4, iv 1, iv 0] (by kernel_rfl) ?_
  refine bld [iv 5, iv 0, iv 3] (by kernel_rfl) ?_
  refine bld [iv 5, iv 1, iv 0] (by kernel_rfl) ?_
  refine bld [iv 6, iv 0, iv 1] (by kernel_rfl) ?_
  refine bld [iv 6, iv 1, iv 0] (by kernel_rfl) ?_
  refine bld [iv 7, iv 0, iv 1] (by kernel_rfl) ?_
  refine lit [.agg #[iv 1, iv 0, iv 14], .agg #[iv 2, iv 0, iv 0], .agg #[iv 2, iv 1, iv 4], .agg #[iv 3, iv 0, iv 1], .agg #[iv 3, iv 1, iv 0], .agg #[iv 4, iv 0, iv 1], .agg #[iv 4, iv 1, iv 0], .agg #[iv 5, iv 0, iv 3], .agg #[iv 5, iv 1, iv 0], .agg #[iv 6, iv 0, iv 1], .agg #[iv 6, iv 1, iv 0], .agg #[iv 7, iv 0, iv 1]] (fun q3 w13 h13 => ?_)
  refine bld [iv 2, iv 0] (by kernel_rfl) ?_
  refine alloc (fun q4 w14 h14 => ?_)
  refine stA (vs := [iv 2, iv 0]) h14.blk rfl (Nat.le_of_ble_eq_true rfl) (by simp [Value.oneCell']) (fun w15 b15 k15 s15 => ?_)
  have B4 : Blk w15 q4 _ [iv 2, iv 0] := b15
  refine ldA _ (.blk B4) rfl ?_
  refine bld [iv 3, iv 0] (by kernel_rfl) ?_
  refine bld [iv 2, iv 0, iv 3, iv 0, iv 1] (by kernel_rfl) ?_
  refine ldA _ (.blk B4) rfl ?_
  refine bld [iv 4, iv 0] (by kernel_rfl) ?_
  refine bld [iv 2, iv 0, iv 4, iv 0, iv 1] (by kernel_rfl) ?_
  refine ldA _ (.blk B4) rfl ?_
  refine bld [iv 2, iv 1] (by kernel_rfl) ?_
  refine bld [iv 2, iv 0, iv 2, iv 1, iv 4] (by kernel_rfl) ?_
  refine ldA _ (.blk B4) rfl ?_
  refine bld [iv 5, iv 0] (by kernel_rfl) ?_
  refine bld [iv 2, iv 0, iv 5, iv 0, iv 3] (by kernel_rfl) ?_
  refine ldA _ (.blk B4) rfl ?_
  refine bld [iv 6, iv 0] (by kernel_rfl) ?_
  refine bld [iv 2, iv 0, iv 6, iv 0, iv 1] (by kernel_rfl) ?_
  refine lit [.agg #[iv 2, iv 0, iv 3, iv 0, iv 1], .agg #[iv 2, iv 0, iv 4, iv 0, iv 1], .agg #[iv 2, iv 0, iv 2, iv 1, iv 4], .agg #[iv 2, iv 0, iv 5, iv 0, iv 3], .agg #[iv 2, iv 0, iv 6, iv 0, iv 1]] (fun q5 w16 h16 => ?_)
  refine lit [iv 3, iv 0, iv 0, iv 0] (fun q6 w17 h17 => ?_)
  refine lit [iv 0, iv 0, iv 0, iv 0] (fun q7 w18 h18 => ?_)
  refine lit [.slice (some (ad q6 0)) 4 4, .slice (some (ad q7 0)) 4 4] (fun q8 w19 h19 => ?_)
  have y13 := h13.at_
  have z13 := h13.size
  have y14 := h14.at_
  have z14 := h14.size
  have y16 := h16.at_
  have z16 := h16.size
  have y17 := h17.at_
  have z17 := h17.size
  have y18 := h18.at_
  have z18 := h18.size
  have y19 := h19.at_
  have z19 := h19.size
  have z5 := x5.size
  have z12 := x12.size
  have s15' := s15
  have e19 : Ext w12 w19 := (((((h13.ext.trans h14.ext).then k15 fun b hb _ => by omega).trans h16.ext).trans h17.ext).trans h18.ext).trans h19.ext
  have x19 := x12.trans e19
  have Bd19 := Bd.ext x19
  have Bx19 := Bx.ext x19
  have lq := Bx.lt
  refine fldA ?_
  refine st (v := .slice (some (ad q8 0)) 2 2) Bx19 (Nat.le_of_ble_eq_true rfl) rfl (fun w20 b20 k20 s20 => ?_)
  have B20 : Blk w20 q2 35 [.slice B1 m1 e1, .slice B2 m2 e2, .slice B3 m3 e3, .slice (some (ad q8 0)) 2 2, .slice B5 m5 e5, .slice B6 m6 e6, .slice B7 m7 e7] := b20
  have z6 := x6.size
  have z7 := x7.size
  have oal := oa.own.len
  rw [acs_len] at oal
  have la : smallA.length = 12 := rfl
  have sa : SlR tAc (fun b => b ≠ q2) w7 A n smallA := oa.own.rd flat_acs (by omega) (by omega) (fun g hg e => by have := oa.new g hg; omega)
  have e720 : Kept (fun b => b ≠ q2) w7 w20 := (((((Ext.any (x78.trans (x89.trans x90)) : Kept (fun b => b ≠ q2) w7 w10).ext x911).ext x912).ext e19)).then k20 fun b _ hb => hb
  have sa := sa.kept e720 fun b _ hb => hb
  have sm : SlR tMv (fun b => b ≠ q2) w8 M k smallM := om.more (by decide) fun b hb h => by omega
  have e820 : Kept (fun b => b ≠ q2) w8 w20 := (((((Ext.any (x89.trans x90) : Kept (fun b => b ≠ q2) w8 w10).ext x911).ext x912).ext e19)).then k20 fun b _ hb => hb
  have sm := sm.kept e820 fun b _ hb => hb
  have k13 : Kept (fun b => b ≠ q4 ∧ b ≠ q2) w13 w20 := ((((((Ext.any h14.ext : Kept (fun b => b ≠ q4 ∧ b ≠ q2) w13 w14).then k15 fun b _ hb => hb.1).ext h16.ext).ext h17.ext).ext h18.ext).ext h19.ext).then k20 fun b _ hb => hb.2
  have k16 : Kept (fun b => b ≠ q2) w16 w20 := (((Ext.any h17.ext : Kept (fun b => b ≠ q2) w16 w17).ext h18.ext).ext h19.ext).then k20 fun b _ hb => hb
  have k17 : Kept (fun b => b ≠ q2) w17 w20 := ((Ext.any h18.ext : Kept (fun b => b ≠ q2) w17 w18).ext h19.ext).then k20 fun b _ hb => hb
  have k18 : Kept (fun b => b ≠ q2) w18 w20 := (Ext.any h19.ext : Kept (fun b => b ≠ q2) w18 w19).then k20 fun b _ hb => hb
  have g3 := CellsAt.blk (h13.blk.kept k13 ⟨by omega, by omega⟩)
  have g5 := CellsAt.blk (h16.blk.kept k16 (by omega))
  have g6 := CellsAt.blk (h17.blk.kept k17 (by omega))
  have g7 := CellsAt.blk (h18.blk.kept k18 (by omega))
  have g8 := CellsAt.blk (h19.blk.kept k20 (by omega))
  have sb : SlR tAc (fun b => b ≠ q2) w20 (some (ad q3 0)) 12 smallA := SlR.of_cells rfl (by decide) (by omega) g3 flat_acs
  have sn : SlR tMv (fun b => b ≠ q2) w20 (some (ad q5 0)) 5 smallM := SlR.of_cells rfl (by decide) (by omega) g5 flat_mvs
  have cA := c_sameA (c := c) (c' := 12) sa sb
  rw [decide_eq_true rfl] at cA
  refine call_of cA ?_
  rintro _ w21 ⟨rfl, rfl⟩
  have cM := c_sameM (c := e) (c' := 5) sm sn
  rw [decide_eq_true rfl] at cM
  refine call_of cM ?_
  rintro _ w22 ⟨rfl, rfl⟩
  have x020 : Kept (fun b => b ≠ q2) w5 w22 := (Ext.any x19 : Kept (fun b => b ≠ q2) w5 w19).then k20 fun b _ hb => hb
  refine ldA _ (.blk (Bd19.kept k20 (by omega))) rfl ?_
  refine ldA _ (.blk B20) rfl ?_
  have hxx : RuR (fun b => w.heap.size ≤ b) w22 [.slice B1 m1 e1, .slice B2 m2 e2, .slice B3 m3 e3, .slice (some (ad q8 0)) 2 2, .slice B5 m5 e5, .slice B6 m6 e6, .slice B7 m7 e7] { smallX with evap := [[3, 0, 0, 0], [0, 0, 0, 0]] } := by
    have k1 : Kept (fun b => b ≠ q2) w1 w22 := (Ext.any x5 : Kept (fun b => b ≠ q2) w1 w5).trans x020
    have s1 := x1.size
    refine RuR.of_ ⟨_, _, _, _, _, _, _, _, _, _, _, _, _, _, _, _, _, _, _, _, _, rfl, i1.kept k1 (fun b hb _ => by omega), i2.kept k1 (fun b hb _ => by omega), i3.kept k1 (fun b hb _ => by omega), ?_, i5.kept k1 (fun b hb _ => by omega), i6.kept k1 (fun b hb _ => by omega), i7.kept k1 (fun b hb _ => by omega), i8, i9⟩
    exact SlR.of_cells rfl (by decide) (by omega) g8 ⟨_, _, rfl, ⟨_, _, _, rfl, SlR.of_cells rfl (by decide) (by omega) g6 (flat_ints (smallI (by decide))), by decide⟩, _, _, rfl, ⟨_, _, _, rfl, SlR.of_cells rfl (by decide) (by omega) g7 (flat_ints (smallI (by decide))), by decide⟩, rfl⟩
  refine call_of (small_checkC (hd1.kept ((Ext.any x5 : Kept (fun b => b ≠ q2) w1 w5).trans x020) fun b hb _ => by omega) hxx) ?_
  rintro _ w23 ⟨rfl, x23⟩
  refine cD (fun _ => ?_) (fun q => absurd rfl q)
  have s1 := x1.size
  refine ret1 (.bool true) rfl ⟨rfl, ?_⟩
  exact ((x1.trans x5).then x020 fun b hb _ => by omega).trans x23
end
end Go.Proofs.Ytpmfeplifgmdhaa

/- Layer 23: contracts of the laws BalanceSpec, BalanceAccountsSpec. -/
namespace Go.Proofs.Ytpmfeplifgmdhaa
open Go Go.RowKit

theorem accL_len {d : Dist} {x : Run} {hour : Nat} : (accL d x hour).length = 2 + 4 * d.reaches.length + d.farms.length := by
  unfold accL kindsL accK
  simp; omega
section
variable {D : Nat → Prop} {w : World}
theorem c_BalanceSpec {csd csx : List Value} {d : Dist} {x : Run} {hour : Int} (hd : DiR D w csd d) (hx : RuR D w csx x) : CallZ Try.prog 3 #[.agg csd.toArray, .agg csx.toArray, iv hour] w
    (fun v w' => v = .bool true ∧ Ext w w') := by
  have hd := hd.more (D' := fun b => b < w.heap.size) fun b hb _ => hb
  have hx := hx.more (D' := fun b => b < w.heap.size) fun b hb _ => hb
  obtain ⟨A1, n1, c1, A2, n2, c2, A3, n3, c3, A4, n4, c4, A5, n5, c5, A6, n6, c6, rfl, hr, hfa, -⟩ := hd.ex
  obtain ⟨B1, m1, e1, B2, m2, e2, B3, m3, e3, B4, m4, e4, B5, m5, e5, B6, m6, e6, B7, m7, e7, rfl, i1, i2, i3, i4, i5, i6, i7, i8, i9⟩ := hx.ex
  refine fn_rule (args := [.agg #[.string d.name, iv d.hours, iv d.cap, iv d.start, .slice A1 n1 c1, .slice A2 n2 c2, .slice A3 n3 c3, .slice A4 n4 c4, .slice A5 n5 c5, .slice A6 n6 c6], .agg #[.slice B1 m1 e1, .slice B2 m2 e2, .slice B3 m3 e3, .slice B4 m4 e4, .slice B5 m5 e5, .slice B6 m6 e6, .slice B7 m7 e7], iv hour]) Try.func3 (by kernel_rfl) ?_
  refine box (fun bd w1 h1 => ?_)
  refine box (fun bx w2 h2 => ?_)
  have x2 := h1.ext.trans h2.ext
  have Bd : Blk w2 bd 31 [.string d.name, iv d.hours, iv d.cap, iv d.start, .slice A1 n1 c1, .slice A2 n2 c2, .slice A3 n3 c3, .slice A4 n4 c4, .slice A5 n5 c5, .slice A6 n6 c6] := h1.blk.ext h2.ext
  have Bx : Blk w2 bx 35 [.slice B1 m1 e1, .slice B2 m2 e2, .slice B3 m3 e3, .slice B4 m4 e4, .slice B5 m5 e5, .slice B6 m6 e6, .slice B7 m7 e7] := h2.blk
  have bdl := Bd.lt
  have bxl := Bx.lt
  have bda := h1.at_
  have bxa := h2.at_
  have s1 := h1.size
  have s2 := h2.size
  refine call_of c_sane ?_
  rintro _ w3 ⟨rfl, x3⟩
  have hd3 := (hd.ext x2).ext x3
  have hx3 := (hx.ext x2).ext x3
  have Bd3 := Bd.ext x3
  have Bx3 := Bx.ext x3
  refine ldA _ (.blk Bd3) rfl ?_
  refine ldA _ (.blk Bx3) rfl ?_
  refine call_of (c_r23Few hd3 hx3) ?_
  rintro _ w4 ⟨b, rfl, x4⟩
  have x24 := x3.trans x4
  have x04 := x2.trans x24
  cases b with
  | false => exact ret1 (.bool true) rfl ⟨rfl, x04⟩
  | true =>
  have hd4 := hd3.ext x4
  have hx4 := hx3.ext x4
  have Bd4 := Bd3.ext x4
  have Bx4 := Bx3.ext x4
  refine ldA _ (.blk Bd4) rfl ?_
  refine ldA _ (.blk Bx4) rfl ?_
  refine call_of (c_bStore (hour := hour) hd4 hx4) ?_
  rintro _ w5 ⟨rfl, x5⟩
  refine ldA _ (.blk (Bd4.ext x5)) rfl ?_
  refine ldA _ (.blk (Bx4.ext x5)) rfl ?_
  refine call_of (c_r23Store (hour := hour) (hd4.ext x5) (hx4.ext x5)) ?_
  rintro _ w6 ⟨rfl, x6⟩
  have x46 := x5.trans x6
  have Bd6 := Bd4.ext x46
  have Bx6 := Bx4.ext x46
  refine drawK (fun _ => True) [0, 1, 3, 4, 2, 5, 6, 7, 8, 9, 10, 11, 12, 13, 14, 15, 16, 17] [2, 5] mx (by kernel_rfl) ?_
  refine ldAK _ (.blk Bd6) rfl trivial (.refl _ _) ?_
  refine ldAK _ (.blk Bx6) rfl trivial (.refl _ _) ?_
  refine ldAK _ (.blk Bd6) rfl trivial (.refl _ _) ?_
  refine ldAK _ (.blk Bx6) rfl trivial (.refl _ _) ?_
  refine call_of (c_bCheck (hd4.ext x46) (hx4.ext x46)) ?_
  rintro _ w7 ⟨rfl, x7⟩
  refine strK x7 ?_
  have x47 := x46.trans x7
  refine call_of (c_r23Check (hd4.ext x47) (hx4.ext x47)) ?_
  rintro _ w8 ⟨rfl, x8⟩
  refine strK x8 ?_
  refine cD (fun _ => ?_) (fun q => absurd rfl q)
  refine cD (fun _ => ?_) (fun q => absurd rfl q)
  refine cD (fun _ => ?_) (fun q => absurd rfl q)
  exact ret1 (.bool true) rfl ⟨rfl, x04.trans (x47.trans x8)⟩
theorem c_BalanceAccountsSpec {csd csx : List Value} {d : Dist} {x : Run} {hour : Int} (hd : DiR D w csd d) (hx : RuR D w csx x) : CallZ Try.prog 4 #[.agg csd.toArray, .agg csx.toArray, iv hour] w
    (fun v w' => v = .bool true ∧ Ext w w') := by
  have hd := hd.more (D' := fun b => b < w.heap.size) fun b hb _ => hb
  have hx := hx.more (D' := fun b => b < w.heap.size) fun b hb _ => hb
  obtain ⟨A1, n1, c1, A2, n2, c2, A3, n3, c3, A4, n4, c4, A5, n5, c5, A6, n6, c6, rfl, hr, hfa, -⟩ := hd.ex
  obtain ⟨B1, m1, e1, B2, m2, e2, B3, m3, e3, B4, m4, e4, B5, m5, e5, B6, m6, e6, B7, m7, e7, rfl, i1, i2, i3, i4, i5, i6, i7, i8, i9⟩ := hx.ex
  refine fn_rule (args := [.agg #[.string d.name, iv d.hours, iv d.cap, iv d.start, .slice A1 n1 c1, .slice A2 n2 c2, .slice A3 n3 c3, .slice A4 n4 c4, .slice A5 n5 c5, .slice A6 n6 c6], .agg #[.slice B1 m1 e1, .slice B2 m2 e2, .slice B3 m3 e3, .slice B4 m4 e4, .slice B5 m5 e5, .slice B6 m6 e6, .slice B7 m7 e7], iv hour]) Try.func4 (by kernel_rfl) ?_
  refine box (fun bd w1 h1 => ?_)
  refine box (fun bx w2 h2 => ?_)
  have x2 := h1.ext.trans h2.ext
  have Bd : Blk w2 bd 31 [.string d.name, iv d.hours, iv d.cap, iv d.start, .slice A1 n1 c1, .slice A2 n2 c2, .slice A3 n3 c3, .slice A4 n4 c4, .slice A5 n5 c5, .slice A6 n6 c6] := h1.blk.ext h2.ext
  have Bx : Blk w2 bx 35 [.slice B1 m1 e1, .slice B2 m2 e2, .slice B3 m3 e3, .slice B4 m4 e4, .slice B5 m5 e5, .slice B6 m6 e6, .slice B7 m7 e7] := h2.blk
  have bdl := Bd.lt
  have bxl := Bx.lt
  have bda := h1.at_
  have bxa := h2.at_
  have s1 := h1.size
  have s2 := h2.size
  refine call_of c_sane ?_
  rintro _ w3 ⟨rfl, x3⟩
  have hd3 := (hd.ext x2).ext x3
  have hx3 := (hx.ext x2).ext x3
  have Bd3 := Bd.ext x3
  have Bx3 := Bx.ext x3
  refine ldA _ (.blk Bd3) rfl ?_
  refine ldA _ (.blk Bx3) rfl ?_
  refine call_of (c_r23Few hd3 hx3) ?_
  rintro _ w4 ⟨b, rfl, x4⟩
  have x24 := x3.trans x4
  have x04 := x2.trans x24
  cases b with
  | false => exact ret1 (.bool true) rfl ⟨rfl, x04⟩
  | true =>
  have hd4 := hd3.ext x4
  have hx4 := hx3.ext x4
  have Bd4 := Bd3.ext x4
  have Bx4 := Bx3.ext x4
  refine ldA _ (.blk Bd4) rfl ?_
  refine ldA _ (.blk Bx4) rfl ?_
  refine call_of (c_bAccounts (hour := hour) hd4 hx4) ?_
  rintro _ w5 ⟨P1, p1, q1, rfl, oa⟩
  have x5 := oa.ext
  refine ldA _ (.blk (Bd4.ext x5)) rfl ?_
  refine ldA _ (.blk (Bx4.ext x5)) rfl ?_
  refine call_of (c_r23Accounts (hour := hour) (hd4.ext x5) (hx4.ext x5)) ?_
  rintro _ w6 ⟨P2, p2, q2, rfl, ob⟩
  have x6 := x5.trans ob.ext
  refine ldA _ (.blk (Bd4.ext x6)) rfl ?_
  refine ldA _ (.blk (Bx4.ext x6)) rfl ?_
  refine call_of (c_bMoves (hour := hour) (hd4.ext x6) (hx4.ext x6)) ?_
  rintro _ w7 ⟨x67, P3, p3, q3, rfl, om, -⟩
  have x7 := x6.trans x67
  refine ldA _ (.blk (Bd4.ext x7)) rfl ?_
  refine ldA _ (.blk (Bx4.ext x7)) rfl ?_
  refine call_of (c_r23Moves (hour := hour) (hd4.ext x7) (hx4.ext x7)) ?_
  rintro _ w8 ⟨x78, P4, p4, q4, rfl, on, -⟩
  have eq : (if hErr d x hour d.hours = 0 then raccL d x hour.toNat else []) = (if hErr d x hour d.hours = 0 then accL d x hour.toNat else []) := by
    by_cases h : hErr d x hour d.hours = 0
    · rw [if_pos h, if_pos h]
      obtain ⟨h1, h2, h3⟩ := hErr_ok.1 h
      obtain ⟨hf, hR⟩ := bErr_fm h1
      exact racc_eq hf hR (by omega)
    · rw [if_neg h, if_neg h]
  rw [eq] at ob
  have len : (if hErr d x hour d.hours = 0 then accL d x hour.toNat else []).length ≤ 1000000 := by
    by_cases h : hErr d x hour d.hours = 0
    · rw [if_pos h, accL_len]
      obtain ⟨hf, hR⟩ := bErr_fm (hErr_ok.1 h).1
      have := hf.nr'
      have := hf.nf
      omega
    · rw [if_neg h]; simp
  have l1 := oa.own.len
  have l2 := ob.own.len
  rw [acs_len] at l1 l2
  have sa : SlR tAc (fun _ => True) w8 P1 p1 _ := (oa.own.rd flat_acs (by omega) (by omega) fun _ _ => trivial).ext (ob.ext.trans (x67.trans x78))
  have sb : SlR tAc (fun _ => True) w8 P2 p2 _ := (ob.own.rd flat_acs (by omega) (by omega) fun _ _ => trivial).ext (x67.trans x78)
  have cA := c_sameA (c := q1) (c' := q2) sa sb
  rw [decide_eq_true rfl] at cA
  refine call_of cA ?_
  rintro _ w9 ⟨rfl, rfl⟩
  refine cD (fun _ => ?_) (fun q => absurd rfl q)
  have cM := c_sameM (c := q3) (c' := q4) (om.ext x78) on
  rw [decide_eq_true rfl] at cM
  refine call_of cM ?_
  rintro _ w10 ⟨rfl, rfl⟩
  refine cD (fun _ => ?_) (fun q => absurd rfl q)
  exact ret1 (.bool true) rfl ⟨rfl, x04.trans (x7.trans x78)⟩
end
end Go.Proofs.Ytpmfeplifgmdhaa

/- Layer 23, plainly: the accounts' keys; what never is negative; what the moves of an hour do to the sum. -/
namespace Go.Proofs.Ytpmfeplifgmdhaa
open Go Go.RowKit

def keysL (d : Dist) : List (Int × Int) := (kindsL d).flatMap fun p => (List.range p.2).map fun i : Nat => (p.1, (i : Int))
def acAt (d : Dist) (x : Run) (k : Nat) (key : Int × Int) : Ac := ⟨key.1, key.2, nowN d x k key⟩
section
variable {d : Dist} {x : Run} {H i k : Nat} {key : Int × Int}
theorem accL_keys : accL d x k = (keysL d).map (acAt d x k) := by
  unfold accL keysL accK
  rw [List.map_flatMap]
  simp only [List.map_map]
  rfl
theorem mem_keysL : key ∈ keysL d ↔ ∃ p ∈ kindsL d, ∃ i : Nat, i < p.2 ∧ (p.1, (i : Int)) = key := by
  unfold keysL
  simp only [List.mem_flatMap, List.mem_map, List.mem_range]
theorem keysL_len : (keysL d).length = 2 + 4 * d.reaches.length + d.farms.length := by
  rw [← accL_len (x := ⟨[], [], [], [], [], [], []⟩) (hour := 0), accL_keys, List.length_map]
theorem keysL_head : ∃ r, keysL d = (1, 0) :: r ∧ (1, 0) ∉ r := by
  refine ⟨((kindsL d).drop 1).flatMap fun p => (List.range p.2).map fun i : Nat => (p.1, (i : Int)), rfl, fun h => ?_⟩
  simp only [List.mem_flatMap, List.mem_map, List.mem_range] at h
  obtain ⟨p, hp, i, -, e⟩ := h
  unfold kindsL at hp
  simp only [List.drop_succ_cons, List.drop_zero, List.mem_cons, List.not_mem_nil, or_false] at hp
  rcases hp with rfl | rfl | rfl | rfl | rfl | rfl <;> simp at e
/-- A place whose account is never negative. -/
def Pl (d : Dist) (key : Int × Int) : Prop := key = (1, 0) ∨ (∃ i : Nat, i < d.reaches.length ∧ key = (2, (i : Int))) ∨ (key.1 ≠ 0 ∧ key.1 ≠ 1 ∧ key.1 ≠ 2)
theorem keysL_pl (h : key ∈ keysL d) : Pl d key ∧ key.1 ≠ 0 := by
  obtain ⟨p, hp, i, hi, rfl⟩ := mem_keysL.1 h
  unfold kindsL at hp
  simp only [List.mem_cons, List.not_mem_nil, or_false] at hp
  unfold Pl
  rcases hp with rfl | rfl | rfl | rfl | rfl | rfl | rfl
  · obtain rfl : i = 0 := by have : i < 1 := hi; omega
    exact ⟨.inl rfl, by simp⟩
  · exact ⟨.inr (.inl ⟨i, hi, rfl⟩), by simp⟩
  all_goals exact ⟨.inr (.inr (by simp)), by simp⟩
theorem take_sum_mono {l : List Int} (h : ∀ v ∈ l, 0 ≤ v) : ∀ (a b : Nat), a ≤ b → (l.take a).sum ≤ (l.take b).sum := by
  induction l with
  | nil => intro a b _; simp
  | cons v l ih =>
    intro a b hab
    have hv := h v List.mem_cons_self
    have ih := ih fun v hv => h v (List.mem_cons_of_mem _ hv)
    cases b with
    | zero => obtain rfl : a = 0 := by omega
              simp
    | succ b =>
      cases a with
      | zero => have := ih 0 b (by omega); simp only [List.take_zero, List.sum_nil, List.take_succ_cons, List.sum_cons] at *; omega
      | succ a => have := ih a b (by omega); simp only [List.take_succ_cons, List.sum_cons]; omega
theorem rS_mono {l : List Int} (h : numB H l = true) {a b : Int} (hab : a ≤ b) : rS l a ≤ rS l b := by
  unfold rS
  exact take_sum_mono (fun v hv => ((numB_iff.1 h).2 v hv).1) _ _ (by omega)
theorem sto_pos (hR : RightP d x H) (hs : 0 ≤ d.start ∧ d.start ≤ d.cap) (hk : k ≤ H) : 0 ≤ storeN d x k ∧ storeN d x k ≤ d.cap := by
  cases k with
  | zero => exact hs
  | succ k => exact hR.sto k (by omega)
theorem now_up (hf : Fm d x H) (hk : k < H) (h : key.1 ≠ 0 ∧ key.1 ≠ 1 ∧ key.1 ≠ 2) : nowN d x k key ≤ nowN d x (k + 1) key := by
  rw [now_step, out_no h.2.2 h.2.1 h.1]
  have := inN_le (hf.okMoves hk) key
  omega
theorem now_pos (hf : Fm d x H) (hR : RightP d x H) (hs : 0 ≤ d.start ∧ d.start ≤ d.cap) (hp : Pl d key) : ∀ k, k ≤ H → 0 ≤ nowN d x k key := by
  intro k hk
  rcases hp with rfl | ⟨i, hi, rfl⟩ | h
  · rw [now_tank]; exact (sto_pos hR hs hk).1
  · rw [now_way hf hR hi k hk]
    obtain ⟨-, -, h1, h2⟩ := hf.at_ (reach_at hi)
    have := rS_mono (H := H) (tab_row hf.inn hi).2 (a := (k : Int) - (rch d i).delay) (b := k) (by omega)
    omega
  · induction k with
    | zero => rw [now_0 (fun e => h.2.1 (by rw [e]))]; exact Int.le_refl _
    | succ k ih => have := now_up (x := x) hf (by omega : k < H) h; have := ih (by omega); omega
end
end Go.Proofs.Ytpmfeplifgmdhaa

/- Layer 23: contract of the law BalanceSinks. -/
namespace Go.Proofs.Ytpmfeplifgmdhaa
open Go Go.RowKit

theorem bErr_head {d : Dist} {x : Run} (h : bErr d x = 0) : 0 ≤ d.start ∧ d.start ≤ d.cap ∧ d.cap ≤ 1099511627776 := by
  have := headOk_iff.1 (validB_iff.1 (bErr_ok.1 h).1.2).1
  omega
theorem hErr_z {d : Dist} {x : Run} {k : Nat} {H : Int} (h : bErr d x = 0) (hk : (k : Int) ≤ H) : hErr d x k H = 0 := hErr_ok.2 ⟨h, by omega, hk⟩
section
variable {D : Nat → Prop} {w : World}
theorem acc_ok {csd csx : List Value} {d : Dist} {x : Run} {k : Nat} {h : Int} (hd : DiR D w csd d) (hx : RuR D w csx x) (e0 : bErr d x = 0) (hk : (k : Int) ≤ d.hours) (hh : h = (k : Int)) : CallZ Try.prog 15 #[.agg csd.toArray, .agg csx.toArray, iv h] w
    (fun v w' => Ext w w' ∧ ∃ A n c, v = .tuple #[.slice A n c, iv 0] ∧ SlR tAc (fun b => w.heap.size ≤ b) w' A n (accL d x k) ∧ n ≤ c) := by
  subst hh
  have h := c_bAccounts (hour := (k : Int)) hd hx
  rw [hErr_z e0 hk, if_pos rfl, Int.toNat_natCast] at h
  refine h.mono fun v w' => ?_
  rintro ⟨A, n, c, rfl, o⟩
  refine ⟨o.ext, A, n, c, rfl, ?_, o.le⟩
  have l := o.own.len
  rw [acs_len, accL_len] at l
  obtain ⟨hf, -⟩ := bErr_fm e0
  have := hf.nr'
  have := hf.nf
  exact o.own.rd flat_acs (by rw [accL_len]; omega) (by omega) fun g hg => o.new g hg
theorem mov_ok {csd csx : List Value} {d : Dist} {x : Run} {k : Nat} {h : Int} (hd : DiR D w csd d) (hx : RuR D w csx x) (e0 : bErr d x = 0) (hk : (k : Int) < d.hours) (hh : h = (k : Int)) : CallZ Try.prog 17 #[.agg csd.toArray, .agg csx.toArray, iv h] w
    (fun v w' => Ext w w' ∧ ∃ A n c, v = .tuple #[.slice A n c, iv 0] ∧ SlR tMv (fun b => w.heap.size ≤ b) w' A n ((movesL d x k).filter nzM) ∧ n ≤ c) := by
  subst hh
  have h := c_bMoves (hour := (k : Int)) hd hx
  unfold movV at h
  rw [hErr_z e0 (by omega), if_pos rfl, Int.toNat_natCast] at h
  exact h
theorem sto_ok {csd csx : List Value} {d : Dist} {x : Run} {k : Nat} {h : Int} (hd : DiR D w csd d) (hx : RuR D w csx x) (e0 : bErr d x = 0) (hk : (k : Int) ≤ d.hours) (hh : h = (k : Int)) : CallZ Try.prog 11 #[.agg csd.toArray, .agg csx.toArray, iv h] w
    (fun v w' => v = .tuple #[iv (storeN d x k), iv 0] ∧ Ext w w') := by
  subst hh
  have h := c_bStore (hour := (k : Int)) hd hx
  unfold storeV at h
  rw [if_neg (by simpa using e0), if_neg (by omega), Int.toNat_natCast] at h
  exact h

set_option maxRecDepth 20000 in
theorem c_BalanceSinks {csd csx : List Value} {d : Dist} {x : Run} (hd : DiR D w csd d) (hx : RuR D w csx x) : CallZ Try.prog 6 #[.agg csd.toArray, .agg csx.toArray] w
    (fun v w' => v = .bool true ∧ Ext w w') := by
  have hd := hd.more (D' := fun b => b < w.heap.size) fun b hb _ => hb
  have hx := hx.more (D' := fun b => b < w.heap.size) fun b hb _ => hb
  obtain ⟨A1, n1, c1, A2, n2, c2, A3, n3, c3, A4, n4, c4, A5, n5, c5, A6, n6, c6, rfl, hr, hfa, -⟩ := hd.ex
  obtain ⟨B1, m1, e1, B2, m2, e2, B3, m3, e3, B4, m4, e4, B5, m5, e5, B6, m6, e6, B7, m7, e7, rfl, i1, i2, i3, i4, i5, i6, i7, i8, i9⟩ := hx.ex
  refine fn_rule (args := [.agg #[.string d.name, iv d.hours, iv d.cap, iv d.start, .slice A1 n1 c1, .slice A2 n2 c2, .slice A3 n3 c3, .slice A4 n4 c4, .slice A5 n5 c5, .slice A6 n6 c6], .agg #[.slice B1 m1 e1, .slice B2 m2 e2, .slice B3 m3 e3, .slice B4 m4 e4, .slice B5 m5 e5, .slice B6 m6 e6, .slice B7 m7 e7]]) Try.func6 (by kernel_rfl) ?_
  refine box (fun bd w1 h1 => ?_)
  refine box (fun bx w2 h2 => ?_)
  have x2 := h1.ext.trans h2.ext
  have Bd : Blk w2 bd 31 [.string d.name, iv d.hours, iv d.cap, iv d.start, .slice A1 n1 c1, .slice A2 n2 c2, .slice A3 n3 c3, .slice A4 n4 c4, .slice A5 n5 c5, .slice A6 n6 c6] := h1.blk.ext h2.ext
  have Bx : Blk w2 bx 35 [.slice B1 m1 e1, .slice B2 m2 e2, .slice B3 m3 e3, .slice B4 m4 e4, .slice B5 m5 e5, .slice B6 m6 e6, .slice B7 m7 e7] := h2.blk
  have bdl := Bd.lt
  have bxl := Bx.lt
  have bda := h1.at_
  have bxa := h2.at_
  have s1 := h1.size
  have s2 := h2.size
  refine call_of c_sane ?_
  rintro _ w3 ⟨rfl, x3⟩
  have hd3 := (hd.ext x2).ext x3
  have hx3 := (hx.ext x2).ext x3
  have Bd3 := Bd.ext x3
  have Bx3 := Bx.ext x3
  refine ldA _ (.blk Bd3) rfl ?_
  refine ldA _ (.blk Bx3) rfl ?_
  refine call_of (c_r23Few hd3 hx3) ?_
  rintro _ w4 ⟨b, rfl, x4⟩
  have x24 := x3.trans x4
  have x04 := x2.trans x24
  cases b with
  | false => exact ret1 (.bool true) rfl ⟨rfl, x04⟩
  | true =>
  have hd4 := hd3.ext x4
  have hx4 := hx3.ext x4
  have Bd4 := Bd3.ext x4
  have Bx4 := Bx3.ext x4
  refine ldA _ (.blk Bd4) rfl ?_
  refine ldA _ (.blk Bx4) rfl ?_
  refine call_of (c_bCheck hd4 hx4) ?_
  rintro _ w5 ⟨rfl, x5⟩
  have x25 := x24.trans x5
  have x05 := x04.trans x5
  refine cN (fun _ => ret1 (.bool true) rfl ⟨rfl, x05⟩) (fun e0 => ?_)
  have e0 : bErr d x = 0 := e0
  have hd5 := hd4.ext x5
  have hx5 := hx4.ext x5
  have Bd5 := Bd4.ext x5
  have Bx5 := Bx4.ext x5
  obtain ⟨hf, hR⟩ := bErr_fm e0
  have hh := bErr_head e0
  generalize hH : d.hours.toNat = H at hf hR
  have hHi := hf.hours
  have hH2 := hf.h2
  have hnr := hf.nr
  have hnr' := hf.nr'
  have hnf := hf.nf
  have ln := hr.len
  have lf := hfa.len
  refine fldA ?_
  refine ld (iv d.hours) (Bd5.cell rfl) ?_
  refine arI (by omega) ?_
  refine loop4 (fun (k : Nat) (A : Option Addr) (n c : Nat) => [(28, iv (k : Int)), (5, .slice A n c)])
    (fun k A n c u => k ≤ H + 1 ∧ Ext w5 u ∧ SlR tAc (fun _ => True) u A n (if k = 0 then [] else accL d x (k - 1))) (fun k _ _ _ _ => H + 1 - k) 0 none 0 0 ⟨rfl, rfl, trivial⟩ ⟨by omega, .refl _ _, SlR.nil⟩ rfl ?_
  rintro G k A n c u ⟨hk, xu, sb⟩
  refine cD (fun hlt => ?_) (fun hge => ret1 (.bool true) rfl ⟨rfl, x05.trans xu⟩)
  have hlt : k < H + 1 := by omega
  have hkd : (k : Int) ≤ d.hours := by omega
  refine ldA _ (.blk (Bd5.ext xu)) rfl ?_
  refine ldA _ (.blk (Bx5.ext xu)) rfl ?_
  refine call_of (acc_ok (hd5.ext xu) (hx5.ext xu) e0 hkd rfl) ?_
  rintro _ u1 ⟨xa, A', n', c', rfl, sl, -⟩
  have xu1 := xu.trans xa
  refine ldA _ (.blk (Bd5.ext xu1)) rfl ?_
  refine ldA _ (.blk (Bx5.ext xu1)) rfl ?_
  refine call_of (sto_ok (hd5.ext xu1) (hx5.ext xu1) e0 hkd rfl) ?_
  rintro _ u2 ⟨rfl, xb⟩
  have xu2 := xu1.trans xb
  have sl := sl.ext xb
  have sb := (sb.ext xa).ext xb
  have Bd := Bd5.ext xu2
  have len := sl.len
  rw [accL_len] at len
  have hst := sto_pos hR ⟨hh.1, hh.2.1⟩ (show k ≤ H by omega)
  obtain ⟨kr, hkr, -⟩ := keysL_head (d := d)
  have hac0 : (accL d x k)[0]? = some ⟨1, 0, storeN d x k⟩ := by rw [accL_keys, hkr, List.map_cons, List.getElem?_cons_zero]; unfold acAt; rw [now_tank]
  obtain ⟨ba, oa, ca, aa, rfl, ha0, -, -, hca, rfl⟩ := sl.at_ (k := 0) (by omega)
  obtain rfl : aa = ⟨1, 0, storeN d x k⟩ := by rw [hac0] at ha0; injection ha0 with e; exact e.symm
  have hca0 := hca 0 _ rfl
  have hca2 := hca 2 _ rfl
  refine cN (fun q => absurd rfl q) (fun _ => ?_)
  refine cN (fun q => absurd rfl q) (fun _ => ?_)
  refine Proofs.Ytpmfeplifgmdhaa.len ?_
  refine fldA ?_
  refine ld (.slice A1 n1 c1) (Bd.cell rfl) ?_
  refine Proofs.Ytpmfeplifgmdhaa.len ?_
  refine arI (by omega) ?_
  refine arI (by omega) ?_
  refine fldA ?_
  refine ld (.slice A2 n2 c2) (Bd.cell rfl) ?_
  refine Proofs.Ytpmfeplifgmdhaa.len ?_
  refine arI (by omega) ?_
  refine cN (fun q => absurd (by omega) q) (fun _ => ?_)
  refine idx 0 rfl (by omega) ?_
  refine fldA ?_
  refine ld (iv 1) hca0 ?_
  refine cN (fun q => absurd rfl q) (fun _ => ?_)
  refine idx 0 rfl (by omega) ?_
  refine fldA ?_
  refine ld (iv (storeN d x k)) hca2 ?_
  refine cN (fun q => absurd rfl q) (fun _ => ?_)
  refine cD (fun q => absurd q (by omega)) (fun _ => ?_)
  refine fldA ?_
  refine fldA ?_
  refine ld (iv d.cap) (Bd.cell rfl) ?_
  refine cD (fun q => absurd q (by omega)) (fun _ => ?_)
  have lb := sb.len
  refine Proofs.Ytpmfeplifgmdhaa.len ?_
  refine loop_rule (fun j : Nat => [(93, iv (j : Int))]) (fun j v => j ≤ n ∧ Ext u2 v) (fun j _ => n - j) 0 ⟨rfl, trivial⟩ ⟨by omega, .refl _ _⟩ rfl ?_
  rintro G2 j v ⟨hj, xv⟩
  refine cD (fun hltj => ?_) (fun hgej => ?_)
  · have hltj : j < n := by omega
    have hk0 : k ≠ 0 := fun e => by subst e; simp at lb; omega
    rw [if_neg hk0, accL_len] at lb
    rw [if_neg hk0] at sb
    obtain ⟨b, o, cs, a, rfl, haj, -, -, hc, rfl⟩ := (sb.ext xv).at_ hltj
    obtain ⟨b2, o2, cs2, a2, hA2, haj2, -, -, hc2, rfl⟩ := (sl.ext xv).at_ (k := j) (by omega)
    injection hA2 with hA2; injection hA2 with hA2 hA3; subst hA2; subst hA3
    rw [accL_keys, List.getElem?_map, Option.map_eq_some_iff] at haj haj2
    obtain ⟨key, hkey, rfl⟩ := haj
    obtain ⟨key2, hkey2, rfl⟩ := haj2
    obtain rfl : key = key2 := by rw [hkey] at hkey2; injection hkey2
    have hpl := keysL_pl (List.mem_of_getElem? hkey)
    refine idx j rfl hltj ?_
    refine ldA _ hc rfl ?_
    refine alloc (fun t v1 h1'' => ?_)
    refine stA (vs := (acAt d x (k - 1) key).c) h1''.blk rfl (Nat.le_of_ble_eq_true rfl) (by simp [Value.oneCell']) (fun v2 tb s2 zs => ?_)
    have t1 := h1''.at_
    have xv2 : Ext v v2 := h1''.ext.then s2 fun b hb _ e => by omega
    have tb : Blk v2 t _ (acAt d x (k - 1) key).c := tb
    refine drawQ mx (by kernel_rfl) ?_
    refine fldA ?_
    refine ld (iv key.1) (tb.cell rfl) ?_
    refine cN (fun q1 => ?_) (fun q1 => ?_)
    · refine fldA ?_
      refine ld (iv key.1) (tb.cell rfl) ?_
      refine cN (fun q2 => ?_) (fun q2 => ?_)
      · refine idx j rfl (by omega) ?_
        refine fldA ?_
        refine ld (iv (nowN d x k key)) (xv2.cell (hc2 2 _ rfl) trivial) ?_
        refine fldA ?_
        refine ld (iv (nowN d x (k - 1) key)) (tb.cell rfl) ?_
        have hup := now_up (x := x) hf (k := k - 1) (key := key) (by omega) ⟨hpl.2, q1, q2⟩
        rw [show k - 1 + 1 = k by omega] at hup
        refine cD (fun q => absurd q (by omega)) (fun _ => ?_)
        refine arI (by omega) ?_
        refine next (j + 1) ⟨rfl, trivial⟩ ⟨by omega, xv.trans xv2⟩ (by omega)
      · refine arI (by omega) ?_
        refine next (j + 1) ⟨rfl, trivial⟩ ⟨by omega, xv.trans xv2⟩ (by omega)
    · refine arI (by omega) ?_
      refine next (j + 1) ⟨rfl, trivial⟩ ⟨by omega, xv.trans xv2⟩ (by omega)
  · refine arI (by omega) ?_
    refine next4 (k + 1) (some (ad ba oa)) n' c' ⟨rfl, rfl, trivial⟩ ⟨by omega, xu2.trans xv, ?_⟩ (by omega)
    rw [if_neg (by omega), show k + 1 - 1 = k by omega]
    exact (sl.ext xv).more (by decide) fun _ _ _ => trivial
end
end Go.Proofs.Ytpmfeplifgmdhaa

/- Layer 23, plainly: what an hour's moves do to the sum of all accounts; no account is negative meanwhile. -/
namespace Go.Proofs.Ytpmfeplifgmdhaa
open Go Go.RowKit

/-! ### sums over keys -/
theorem sum_one {α : Type} [DecidableEq α] (t : α) (v : Int) : ∀ {l : List α}, l.Nodup → (l.map fun k => if t = k then v else 0).sum = if t ∈ l then v else 0
  | [], _ => rfl
  | a :: l, h => by
    obtain ⟨h1, h2⟩ := List.nodup_cons.1 h
    rw [List.map_cons, List.sum_cons, sum_one t v h2]
    by_cases e : t = a
    · subst e; rw [if_pos rfl, if_neg h1, if_pos List.mem_cons_self]; omega
    · rw [if_neg e]
      by_cases h3 : t ∈ l
      · rw [if_pos h3, if_pos (List.mem_cons_of_mem _ h3)]; omega
      · rw [if_neg h3, if_neg (by simp [e, h3])]; rfl
theorem sum_map_add {α : Type} (f g : α → Int) : ∀ l : List α, (l.map fun k => f k + g k).sum = (l.map f).sum + (l.map g).sum
  | [] => rfl
  | a :: l => by simp only [List.map_cons, List.sum_cons]; rw [sum_map_add f g l]; omega
theorem sum_map_sub {α : Type} (f g : α → Int) : ∀ l : List α, (l.map fun k => f k - g k).sum = (l.map f).sum - (l.map g).sum
  | [] => rfl
  | a :: l => by simp only [List.map_cons, List.sum_cons]; rw [sum_map_sub f g l]; omega
theorem sum_map_zero {α : Type} {f : α → Int} : ∀ {l : List α}, (∀ a ∈ l, f a = 0) → (l.map f).sum = 0
  | [], _ => rfl
  | a :: l, h => by rw [List.map_cons, List.sum_cons, h a List.mem_cons_self, sum_map_zero fun b hb => h b (List.mem_cons_of_mem _ hb)]; rfl
def srcN (ms : List Mv) : Int := sumL (ms.filter fun m => decide (m.frm.1 = 0))
theorem srcN_app (a b : List Mv) : srcN (a ++ b) = srcN a + srcN b := by unfold srcN; rw [List.filter_append, sumL_app]
theorem sum_in {l : List (Int × Int)} (hn : l.Nodup) : ∀ {ms : List Mv}, (∀ m ∈ ms, m.to ∈ l) → (l.map (inN ms)).sum = sumL ms
  | [], _ => sum_map_zero fun _ _ => rfl
  | m :: ms, h => by
    have e : inN (m :: ms) = fun k => (if m.to = k then m.litres else 0) + inN ms k := by
      funext k
      rw [show m :: ms = [m] ++ ms from rfl, inN_app, inN_one]
    rw [e, sum_map_add, sum_one _ _ hn, if_pos (h m List.mem_cons_self), sum_in hn fun x hx => h x (List.mem_cons_of_mem _ hx), sumL_cons]
theorem sum_out {l : List (Int × Int)} (hn : l.Nodup) (h0 : ∀ k ∈ l, k.1 ≠ 0) : ∀ {ms : List Mv}, (∀ m ∈ ms, m.frm.1 = 0 ∨ m.frm ∈ l) → (l.map (outN ms)).sum = sumL ms - srcN ms
  | [], _ => sum_map_zero (f := outN []) fun _ _ => rfl
  | m :: ms, h => by
    have e : outN (m :: ms) = fun k => (if m.frm = k then m.litres else 0) + outN ms k := by
      funext k
      rw [show m :: ms = [m] ++ ms from rfl, outN_app, outN_one]
    have ih := sum_out hn h0 (ms := ms) fun x hx => h x (List.mem_cons_of_mem _ hx)
    rw [e, sum_map_add, sum_one _ _ hn, ih, sumL_cons, show m :: ms = [m] ++ ms from rfl, srcN_app]
    have e1 : srcN [m] = if m.frm.1 = 0 then m.litres else 0 := by
      unfold srcN
      by_cases h : m.frm.1 = 0
      · rw [List.filter_cons_of_pos (by simpa using h), if_pos h]; simp [sumL]
      · rw [List.filter_cons_of_neg (by simpa using h), if_neg h]; rfl
    rw [e1]
    rcases h m List.mem_cons_self with h1 | h1
    · rw [if_neg (fun h2 => h0 _ h2 h1), if_pos h1]; omega
    · rw [if_pos h1, if_neg (h0 _ h1)]; omega
theorem nz_sum (q : Mv → Bool) : ∀ ms : List Mv, sumL ((ms.filter nzM).filter q) = sumL (ms.filter q)
  | [] => rfl
  | m :: ms => by
    have ih := nz_sum q ms
    by_cases h : m.litres = 0
    · rw [List.filter_cons_of_neg (p := nzM) (by unfold nzM; simp [h]), ih]
      by_cases hq : q m
      · rw [List.filter_cons_of_pos hq, sumL_cons, h]; omega
      · rw [List.filter_cons_of_neg (by simpa using hq)]
    · rw [List.filter_cons_of_pos (p := nzM) (by unfold nzM; simp [h])]
      by_cases hq : q m
      · rw [List.filter_cons_of_pos hq, List.filter_cons_of_pos hq, sumL_cons, sumL_cons, ih]
      · rw [List.filter_cons_of_neg (by simpa using hq), List.filter_cons_of_neg (by simpa using hq), ih]
theorem nz_out (ms : List Mv) (k : Int × Int) : outN (ms.filter nzM) k = outN ms k := nz_sum _ ms
theorem nz_in (ms : List Mv) (k : Int × Int) : inN (ms.filter nzM) k = inN ms k := nz_sum _ ms

section
variable {d : Dist} {x : Run} {H i k j : Nat} {key : Int × Int}
theorem keysL_nodup : (keysL d).Nodup := by
  unfold keysL List.Nodup
  rw [List.pairwise_flatMap]
  constructor
  · intro p _
    rw [List.pairwise_map]
    exact List.Pairwise.imp (fun h e => h (by injection e with _ e; exact Int.ofNat.inj e)) (List.nodup_range (n := p.2))
  · have h : (kindsL d).Pairwise fun a b => a.1 ≠ b.1 := by unfold kindsL; simp
    refine h.imp fun {a b} hab x hx y hy e => ?_
    simp only [List.mem_map, List.mem_range] at hx hy
    obtain ⟨i, -, rfl⟩ := hx
    obtain ⟨j, -, rfl⟩ := hy
    exact hab (by injection e)
theorem mv_mem {m : Mv} (h : m ∈ movesL d x k) : m = ⟨(0, 0), (1, 0), g1 x.inflow k⟩ ∨ m = ⟨(1, 0), (7, 0), g1 x.spill k⟩ ∨ m = ⟨(1, 0), (2, 0), g2 x.inn 0 k⟩ ∨ ∃ i, i < d.reaches.length ∧ m ∈ endL d x k i := by
  unfold movesL prefL headL at h
  simp only [List.mem_append, List.mem_cons, List.not_mem_nil, or_false, List.mem_flatMap, List.mem_range] at h
  rcases h with (h | h | h) | ⟨i, hi, h⟩
  · exact .inl h
  · exact .inr (.inl h)
  · exact .inr (.inr (.inl h))
  · exact .inr (.inr (.inr ⟨i, hi, h⟩))
theorem mem_k1 : ((1 : Int), (0 : Int)) ∈ keysL d := mem_keysL.2 ⟨(1, 1), by simp [kindsL], 0, by simp, rfl⟩
theorem mem_kR {kd : Int} (h : kd = 2 ∨ kd = 3 ∨ kd = 4 ∨ kd = 6) (hi : i < d.reaches.length) : (kd, (i : Int)) ∈ keysL d := mem_keysL.2 ⟨(kd, d.reaches.length), by rcases h with rfl | rfl | rfl | rfl <;> simp [kindsL], i, hi, rfl⟩
theorem mem_kF (hi : i < d.farms.length) : ((5 : Int), (i : Int)) ∈ keysL d := mem_keysL.2 ⟨(5, d.farms.length), by simp [kindsL], i, hi, rfl⟩
theorem mem_k7 : ((7 : Int), (0 : Int)) ∈ keysL d := mem_keysL.2 ⟨(7, 1), by simp [kindsL], 0, by simp, rfl⟩
theorem mv_frm {m : Mv} (h : m ∈ movesL d x k) : (m.frm.1 = 0 ∧ m = ⟨(0, 0), (1, 0), g1 x.inflow k⟩) ∨ m.frm = (1, 0) ∨ ∃ i : Nat, i < d.reaches.length ∧ m.frm = (2, (i : Int)) := by
  rcases mv_mem h with rfl | rfl | rfl | ⟨i, hi, h⟩
  · exact .inl ⟨rfl, rfl⟩
  · exact .inr (.inl rfl)
  · exact .inr (.inl rfl)
  · exact .inr (.inr ⟨i, hi, endL_frm m h⟩)
theorem mv_to (hn : 0 < d.reaches.length) {m : Mv} (h : m ∈ movesL d x k) : m.to ∈ keysL d := by
  rcases mv_mem h with rfl | rfl | rfl | ⟨i, hi, h⟩
  · exact mem_k1
  · exact mem_k7
  · exact mem_kR (i := 0) (.inl rfl) hn
  · unfold endL lossL childL farmL at h
    simp only [List.mem_append, List.mem_cons, List.not_mem_nil, or_false, List.mem_map, List.mem_filter, List.mem_range] at h
    rcases h with (((rfl | rfl) | ⟨j, ⟨hj, _⟩, rfl⟩) | ⟨j, ⟨hj, _⟩, rfl⟩) | rfl
    · exact mem_kR (.inr (.inl rfl)) hi
    · exact mem_kR (.inr (.inr (.inl rfl))) hi
    · exact mem_kR (.inl rfl) hj
    · exact mem_kF hj
    · exact mem_kR (.inr (.inr (.inr rfl))) hi
theorem mv_key {m : Mv} (h : m ∈ movesL d x k) : m.frm.1 = 0 ∨ m.frm ∈ keysL d := by
  rcases mv_frm h with ⟨h, -⟩ | h | ⟨i, hi, h⟩
  · exact .inl h
  · rw [h]; exact .inr mem_k1
  · rw [h]; exact .inr (mem_kR (.inl rfl) hi)
theorem src_moves : srcN (movesL d x k) = g1 x.inflow k := by
  unfold movesL prefL
  rw [srcN_app]
  have e : srcN ((List.range d.reaches.length).flatMap fun i => endL d x k i) = 0 := by
    unfold srcN
    rw [List.filter_eq_nil_iff.2]
    · rfl
    · intro m hm
      simp only [List.mem_flatMap, List.mem_range] at hm
      obtain ⟨i, -, hm⟩ := hm
      rw [endL_frm m hm]; simp
  rw [e]
  unfold srcN headL sumL
  simp
def totA (d : Dist) (x : Run) (k : Nat) : Int := ((keysL d).map (nowN d x k)).sum
theorem tot_step (hf : Fm d x H) : totA d x (k + 1) = totA d x k + g1 x.inflow k := by
  have e : nowN d x (k + 1) = fun key => (nowN d x k key - outN (movesL d x k) key) + inN (movesL d x k) key := by funext key; exact now_step
  unfold totA
  rw [e, sum_map_add, sum_map_sub, sum_in keysL_nodup fun m hm => mv_to hf.nr hm, sum_out keysL_nodup (fun k hk => (keysL_pl hk).2) fun m hm => mv_key hm, src_moves]
  omega
theorem tot_0 : totA d x 0 = d.start := by
  obtain ⟨r, hr, hn⟩ := keysL_head (d := d)
  unfold totA
  rw [hr, List.map_cons, List.sum_cons, sum_map_zero (fun a ha => now_0 fun e => hn (by rw [← e]; exact ha)), now_tank]
  show d.start + 0 = _
  omega
theorem tot_bound (hf : Fm d x H) (hs : 0 ≤ d.start) : ∀ k, k ≤ H → 0 ≤ totA d x k ∧ totA d x k ≤ d.start + k * 1073741824
  | 0, _ => by rw [tot_0]; omega
  | k + 1, hk => by
    have ih := tot_bound hf hs k (by omega)
    have h := (num_val hf.inflow (show k < H by omega)).2
    rw [tot_step hf]
    omega
theorem part_bound (hf : Fm d x H) (hR : RightP d x H) (hs : 0 ≤ d.start ∧ d.start ≤ d.cap) (hk : k ≤ H) (j : Nat) : 0 ≤ (((keysL d).map (nowN d x k)).take j).sum ∧ (((keysL d).map (nowN d x k)).take j).sum ≤ totA d x k := by
  have hp : ∀ v ∈ (keysL d).map (nowN d x k), 0 ≤ v := by
    intro v hv
    obtain ⟨key, hkey, rfl⟩ := List.mem_map.1 hv
    exact now_pos hf hR hs (keysL_pl hkey).1 k hk
  have h1 := take_sum_mono hp 0 j (by omega)
  have h2 := take_sum_mono hp (min j ((keysL d).map (nowN d x k)).length) ((keysL d).map (nowN d x k)).length (by omega)
  rw [List.take_length] at h2
  have h3 : ((keysL d).map (nowN d x k)).take (min j ((keysL d).map (nowN d x k)).length) = ((keysL d).map (nowN d x k)).take j := by
    rw [← List.take_take, List.take_length]
  rw [h3] at h2
  unfold totA
  simp only [List.take_zero, List.sum_nil] at h1
  omega
theorem okM_nz {ms : List Mv} (h : okM ms) : okM (ms.filter nzM) := fun m hm => h m (List.mem_filter.1 hm).1
/-- Meanwhile. -/
def midN (d : Dist) (x : Run) (k j : Nat) (key : Int × Int) : Int := nowN d x k key - outN (((movesL d x k).filter nzM).take j) key + inN (((movesL d x k).filter nzM).take j) key
theorem mid_pos (hf : Fm d x H) (hR : RightP d x H) (hk : k < H) {m : Mv} (hm : ((movesL d x k).filter nzM)[j]? = some m) (h0 : m.frm.1 ≠ 0) : 0 ≤ midN d x k j m.frm - m.litres := by
  unfold midN
  have ok := okM_nz (hf.okMoves hk)
  obtain ⟨fs, hfs⟩ : ∃ fs, fs = (movesL d x k).filter nzM := ⟨_, rfl⟩
  rw [← hfs] at hm ok ⊢
  have hj := (List.getElem?_eq_some_iff.1 hm).1
  have hsp : fs = fs.take j ++ ([m] ++ fs.drop (j + 1)) := by
    have h1 := (List.getElem?_eq_some_iff.1 hm).2
    have h2 := List.drop_eq_getElem_cons hj
    rw [h1] at h2
    rw [show [m] ++ fs.drop (j + 1) = m :: fs.drop (j + 1) from rfl, ← h2, List.take_append_drop]
  have ho : outN (movesL d x k) m.frm = outN (fs.take j) m.frm + (m.litres + outN (fs.drop (j + 1)) m.frm) := by
    rw [← nz_out, ← hfs]
    conv => lhs; rw [hsp]
    rw [outN_app, outN_app, outN_one, if_pos rfl]
  have hd := outN_le (ms := fs.drop (j + 1)) (fun y hy => ok y (List.mem_of_mem_drop hy)) m.frm
  have hi := inN_le (ms := fs.take j) (fun y hy => ok y (List.mem_of_mem_take hy)) m.frm
  have hmm : m ∈ movesL d x k := (List.mem_filter.1 (by rw [← hfs]; exact List.mem_of_getElem? hm)).1
  rcases mv_frm hmm with ⟨h, -⟩ | h | ⟨i, hi', h⟩
  · exact absurd h h0
  · rw [h] at ho hd hi ⊢
    rw [out_tank] at ho
    rw [now_tank]
    have hs := (hR.sto k hk).1
    have hs' : storeN d x (k + 1) = storeN d x k + g1 x.inflow k - g1 x.spill k - g2 x.inn 0 k := rfl
    have hin : g1 x.inflow k ≤ inN (fs.take j) (1, 0) := by
      by_cases hz : g1 x.inflow k = 0
      · omega
      · have e : fs = ⟨(0, 0), (1, 0), g1 x.inflow k⟩ :: (((movesL d x k).drop 1).filter nzM) := by
          rw [hfs]
          unfold movesL prefL headL
          rw [List.cons_append, List.filter_cons_of_pos (by unfold nzM; simp [hz])]
          rfl
        cases j with
        | zero =>
          rw [e] at hm
          simp only [List.getElem?_cons_zero, Option.some.injEq] at hm
          subst hm
          exact absurd rfl h0
        | succ j =>
          rw [e, List.take_succ_cons, show ∀ (a : Mv) l, a :: l = [a] ++ l from fun _ _ => rfl, inN_app, inN_one, if_pos rfl]
          have := inN_le (ms := (((movesL d x k).drop 1).filter nzM).take j) (fun y hy => (okM_nz (ms := (movesL d x k).drop 1) fun z hz => hf.okMoves hk z (List.mem_of_mem_drop hz)) y (List.mem_of_mem_take hy)) (1, 0)
          show g1 x.inflow k ≤ g1 x.inflow k + _
          omega
    omega
  · rw [h] at ho hd hi ⊢
    rw [out_moves hi'] at ho
    have hb := hR.bal i k hi' hk
    unfold balI at hb
    rw [decide_eq_true_eq] at hb
    have hr := (tab_row hf.inn hi').2
    obtain ⟨-, -, h1, h2⟩ := hf.at_ (reach_at hi')
    have hw := now_way hf hR hi' k (by omega)
    have e2 := rS_step hr (m := (k : Int) - (rch d i).delay) (by omega)
    have e3 := rS_mono hr (a := (k : Int) - (rch d i).delay + 1) (b := k) (by omega)
    have hp : (parc d x k i).1 = if 0 ≤ (k : Int) - (rch d i).delay then g1 (x.inn.getD i []) ((k : Int) - (rch d i).delay).toNat else 0 := by
      unfold parc ent; split <;> rfl
    rw [← hp] at e2
    omega
end
end Go.Proofs.Ytpmfeplifgmdhaa

/- Layer 23: contract of the laws' copied, with one row of the copy apart: what is stored into it changes that row alone. -/
namespace Go.Proofs.Ytpmfeplifgmdhaa
open Go Go.RowKit

/-- A fresh copy of a table, its row i0 in a block q of its own. -/
structure CopyR (w w' : World) (A2 : Option Addr) (n2 : Nat) (t : List (List Int)) (i0 : Nat) (row : List Int) (g q c : Nat) (rest : List Value) : Prop where
  outer : A2 = some (ad g 0)
  len : n2 = t.length
  new : w.heap.size ≤ g ∧ w.heap.size ≤ q ∧ g ≠ q ∧ g < w'.heap.size ∧ q < w'.heap.size
  cell : w'.cell? (ad g i0) = some (.slice (some (ad q 0)) row.length c)
  le : row.length ≤ c
  blk : Blk w' q 3 ((row.map fun v => iv v) ++ rest)
  upd : ∀ w'' row', row'.length = row.length → (∀ v ∈ row', I64 v) → Kept (fun b => w.heap.size ≤ b ∧ b ≠ q) w' w'' → Blk w'' q 3 ((row'.map fun v => iv v) ++ rest) → SlR tInts (fun b => w.heap.size ≤ b) w'' A2 n2 (t.set i0 row')

section
variable {D : Nat → Prop} {w : World} {A : Option Addr} {n c : Nat}
theorem c_copied2 {t : List (List Int)} {i0 : Nat} {row : List Int} (ht : SlR tInts D w A n t) (hn : n ≤ 1000000) (hr : ∀ r ∈ t, r.length ≤ 1000000) (h0 : t[i0]? = some row) (hp : 0 < row.length) : CallZ Try.prog 21 #[.slice A n c] w
    (fun v w' => Ext w w' ∧ ∃ A2 n2 c2 g q c rest, v = .slice A2 n2 c2 ∧ n2 ≤ c2 ∧ CopyR w w' A2 n2 t i0 row g q c rest) := by
  refine fn_rule (args := [.slice A n c]) Try.func21 (by kernel_rfl) ?_
  have hi0 : i0 < n := by have := (List.getElem?_eq_some_iff.1 h0).1; have := ht.len; omega
  refine len ?_
  refine loop4 (fun (k : Nat) (A : Option Addr) (n c : Nat) => [(7, .int .i64 k), (2, .slice A n c)])
    (fun k A2 n2 c2 w' => k ≤ n ∧ ∃ cs, OwnF w w' A2 n2 c2 32 1 cs ∧ cs.length = k ∧ ((k ≤ i0 ∧ FlatR tInts (fun b => w.heap.size ≤ b ∧ A2 ≠ some (ad b 0)) w' (t.take k) cs) ∨
      (i0 < k ∧ ∃ q c rest pre post, cs = pre ++ (.slice (some (ad q 0)) row.length c :: post) ∧ pre.length = i0 ∧ (w.heap.size ≤ q ∧ A2 ≠ some (ad q 0) ∧ q < w'.heap.size) ∧ row.length ≤ c ∧ Blk w' q 3 ((row.map fun v => iv v) ++ rest) ∧
        FlatR tInts (fun b => w.heap.size ≤ b ∧ A2 ≠ some (ad b 0) ∧ b ≠ q) w' (t.take i0) pre ∧ FlatR tInts (fun b => w.heap.size ≤ b ∧ A2 ≠ some (ad b 0) ∧ b ≠ q) w' ((t.take k).drop (i0 + 1)) post))) (fun k _ _ _ _ => n - k) 0 none 0 0 ⟨rfl, rfl, trivial⟩ ⟨by omega, _, OwnF.nil (.refl _ _), rfl, .inl ⟨by omega, rfl⟩⟩ rfl ?_
  rintro G k A2 n2 c2 w1 ⟨hk, cs, hown, hlen, hfl⟩
  have hcn : n2 = k := by have := hown.own.len; omega
  have htl := ht.len
  refine cD (fun hlt => ?_) (fun hge => ?_)
  · have hlt : k < n := by omega
    obtain ⟨b, o, cs1, r1, rfl, hy, hdy, -, hc, Ar, nr, cr, rfl, hrow, hrc⟩ := (ht.ext hown.ext).at_ hlt
    refine idx k rfl hlt ?_
    refine ld _ (hc 0 _ rfl) ?_
    refine lit [] (fun g w2 h2 => ?_)
    have o2 : OwnF w1 w2 (some (ad g 0)) 0 0 3 1 [] := OwnF.lit (cs := []) (.refl _ _) h2 rfl
    have hrow2 := hrow.ext h2.ext
    have hle : r1.length ≤ 1000000 := hr r1 (List.mem_of_getElem? hy)
    have hrl := hrow.len
    have hsrc : Src w2 Ar nr 1 (r1.map fun v => Value.int .i64 v) := by
      refine ⟨by rw [List.length_map]; omega, fun hn0 => ?_⟩
      obtain ⟨b, o, cs, x, rfl, _⟩ := hrow2.at_ hn0
      obtain ⟨cs2, hf, hc⟩ := hrow2.cells
      refine ⟨b, o, rfl, ?_⟩
      rw [← flat_ints_eq hf]; exact hc
    refine appF o2 hsrc (by omega) (fun A' c' w3 o3 _ _ => ?_) (h1 := by rw [List.all_map]; exact List.all_eq_true.2 fun _ _ => rfl)
    refine lit [.slice A' (0 + nr) c'] (fun qq w4 h4 => ?_)
    have x4 : Ext w1 w4 := o3.ext.trans h4.ext
    refine appF (hown.then x4) (h4.src (sz := 1) rfl) (by omega) (fun A3 c3 w5 o5 k5 hA => ?_)
    refine arI (by omega) ?_
    refine next4 (k + 1) A3 (n2 + 1) c3 ⟨rfl, rfl, trivial⟩ ⟨by omega, _, o5, by rw [List.length_append, hlen]; rfl, ?_⟩ (by omega)
    have htk : t.take (k + 1) = t.take k ++ [r1] := by rw [List.take_add_one, hy]; rfl
    have hz1 := hown.ext.size
    have hz4 := x4.size
    have hz34 := h4.size
    have hA2lt : ∀ b, A2 = some (ad b 0) → b < w1.heap.size := fun b e => by
      rcases hown.form with ⟨e0, _⟩ | ⟨g', e0, _, hlt', _⟩
      · rw [e0] at e; cases e
      · rw [e0] at e; injection e with e; injection e with e _; omega
    have hA3 : ∀ b, w.heap.size ≤ b → A2 ≠ some (ad b 0) → b < w4.heap.size → A3 ≠ some (ad b 0) := fun b _ h1 h2 e => by
      rcases hA with e1 | e1 | e1 <;> rw [e1] at e
      · exact h1 e
      · cases e
      · injection e with e; injection e with e _; omega
    have i64s : ∀ v ∈ r1, I64 v := fun v hv => by
      obtain ⟨k, hk⟩ := List.getElem?_of_mem hv
      obtain ⟨_, _, _, _, _, _, _, h⟩ := hrow.2.2 k v hk
      exact h
    -- the row that was copied, in blocks that are new in this round
    have f5 : SlR tInt (fun b => w1.heap.size ≤ b ∧ b < w4.heap.size) w4 A' (0 + nr) r1 := by
      refine (OwnF.ints (D := fun b => w1.heap.size ≤ b) o3 (xs := r1) i64s (by omega) (fun _ h => h)).more (by decide) (fun b hb h => ⟨h, by omega⟩) |>.ext h4.ext
    have f5' : ∀ (E : Nat → Prop), (∀ b, w1.heap.size ≤ b → b < w4.heap.size → E b) → FlatR tInts E w4 [r1] [.slice A' (0 + nr) c'] := fun E hE => .one ⟨_, _, _, rfl, f5.more (by decide) fun b _ h => hE b h.1 h.2, o3.le⟩
    have A2ne : ∀ b, w1.heap.size ≤ b → A2 ≠ some (ad b 0) := fun b h e => by have := hA2lt b e; omega
    rcases hfl with ⟨hki, hfl⟩ | ⟨hik, q, cq, rest, pre, post, rfl, hpl, hq, hcq, hbq, hpre, hpost⟩
    · by_cases hkk : k = i0
      · subst hkk
        obtain rfl : r1 = row := by rw [hy] at h0; injection h0
        right
        refine ⟨by omega, ?_⟩
        rcases o3.form with ⟨e0, e1, -⟩ | ⟨gq, e0, hg1, hg2, -⟩
        · exact absurd e1 (by omega)
        · subst e0
          obtain ⟨rest, hb, -, -⟩ := o3.own.blk
          refine ⟨gq, c', rest, cs, [], by rw [show 0 + nr = r1.length by omega]; rfl, hlen, ⟨by omega, hA3 gq (by omega) (A2ne gq hg1) (by omega), by have := k5.size; omega⟩, by have := o3.le; omega, (hb.ext h4.ext).kept k5 (A2ne gq hg1), ?_, ?_⟩
          · have h6 : FlatR tInts (fun b => w.heap.size ≤ b ∧ A2 ≠ some (ad b 0) ∧ b < w1.heap.size) w1 (t.take k) cs := hfl.more fun b hb h => ⟨h.1, h.2, hb⟩
            have h6 := (h6.keep fun b hb h => x4.blk b hb trivial).keep (fun b hb h => k5.blk b hb h.2.1)
            exact h6.more fun b hb h => ⟨h.1, hA3 b h.1 h.2.1 (by omega), by omega⟩
          · rw [List.drop_eq_nil_of_le (by rw [List.length_take]; omega)]; rfl
      · left
        refine ⟨by omega, ?_⟩
        have f6 : FlatR tInts (fun b => w.heap.size ≤ b ∧ A2 ≠ some (ad b 0) ∧ b < w4.heap.size) w4 (t.take k ++ [r1]) (cs ++ [.slice A' (0 + nr) c']) :=
          ((hfl.more (fun b hb h => ⟨h.1, h.2, by omega⟩)).keep (fun b hb h => x4.blk b hb trivial)).app (f5' _ fun b h1 h2 => ⟨by omega, A2ne b h1, h2⟩)
        rw [htk]
        exact (f6.keep (fun b hb h => k5.blk b hb h.2.1)).more (fun b hb h => ⟨h.1, hA3 b h.1 h.2.1 h.2.2⟩)
    · right
      have hq1 := hbq.lt
      refine ⟨by omega, q, cq, rest, pre, post ++ [.slice A' (0 + nr) c'], by rw [List.append_assoc]; rfl, hpl, ⟨hq.1, hA3 q hq.1 hq.2.1 (by omega), by have := k5.size; omega⟩, hcq, (hbq.ext x4).kept k5 hq.2.1, ?_, ?_⟩
      · have h6 : FlatR tInts (fun b => w.heap.size ≤ b ∧ A2 ≠ some (ad b 0) ∧ b ≠ q ∧ b < w1.heap.size) w1 (t.take i0) pre := hpre.more fun b hb h => ⟨h.1, h.2.1, h.2.2, hb⟩
        have h6 := (h6.keep fun b hb h => x4.blk b hb trivial).keep (fun b hb h => k5.blk b hb h.2.1)
        exact h6.more fun b hb h => ⟨h.1, hA3 b h.1 h.2.1 (by omega), h.2.2.1⟩
      · have h6 : FlatR tInts (fun b => w.heap.size ≤ b ∧ A2 ≠ some (ad b 0) ∧ b ≠ q ∧ b < w4.heap.size) w4 ((t.take k).drop (i0 + 1) ++ [r1]) (post ++ [.slice A' (0 + nr) c']) :=
          ((hpost.more (fun b hb h => ⟨h.1, h.2.1, h.2.2, by omega⟩)).keep (fun b hb h => x4.blk b hb trivial)).app (f5' _ fun b h1 h2 => ⟨by omega, A2ne b h1, by omega, h2⟩)
        have htd : (t.take (k + 1)).drop (i0 + 1) = (t.take k).drop (i0 + 1) ++ [r1] := by
          rw [htk, List.drop_append_of_le_length (by rw [List.length_take]; omega)]
        rw [htd]
        exact (h6.keep (fun b hb h => k5.blk b hb h.2.1)).more (fun b hb h => ⟨h.1, hA3 b h.1 h.2.1 h.2.2.2, h.2.2.1⟩)
  · obtain rfl : k = n := by omega
    rcases hfl with ⟨h, -⟩ | ⟨-, q, cq, rest, pre, post, rfl, hpl, hq, hcq, hbq, hpre, hpost⟩
    · omega
    · rcases hown.form with ⟨e0, e1, -⟩ | ⟨g, e0, hg1, hg2, hg3⟩
      · omega
      · subst e0
        have hgq : g ≠ q := fun e => hq.2.1 (by rw [e])
        refine ret1 (.slice (some (ad g 0)) n2 c2) rfl ⟨hown.ext, some (ad g 0), n2, c2, g, q, cq, rest, rfl, hown.le, rfl, by omega, ⟨hg1, hq.1, hgq, hg2, hq.2.2⟩, ?_, hcq, hbq, ?_⟩
        · obtain ⟨rs, hb, -, -⟩ := hown.own.blk
          exact hb.cell (by rw [List.append_assoc, List.getElem?_append_right (by omega), hpl, Nat.sub_self]; rfl)
        · intro w'' row' hl' h64 k'' hb''
          have ow := hown.own.kept k'' (fun g' e => (show g = g' by simpa [Value.ownBlock, ad] using e) ▸ ⟨hg1, hgq⟩)
          rw [List.take_of_length_le (by omega)] at hpost
          have p1 := hpre.keep fun b hb h => k''.blk b hb ⟨h.1, h.2.2⟩
          have p2 := hpost.keep fun b hb h => k''.blk b hb ⟨h.1, h.2.2⟩
          have hrl := row'.length
          have hle : row.length ≤ 1000000 := hr row (List.mem_of_getElem? h0)
          have pr : FlatR tInts (fun b => w.heap.size ≤ b) w'' [row'] [.slice (some (ad q 0)) row.length cq] :=
            .one ⟨_, _, _, rfl, SlR.of_cells hl'.symm (by omega) hq.1 (fun j v hv => by
              rw [Nat.zero_add]
              exact hb''.cell (by rw [List.getElem?_append_left (List.getElem?_eq_some_iff.1 hv).1]; exact hv)) (flat_ints h64), hcq⟩
          have e : t.set i0 row' = t.take i0 ++ ([row'] ++ t.drop (i0 + 1)) := by
            rw [List.set_eq_take_append_cons_drop, if_pos (by omega)]; rfl
          rw [e]
          exact Own.rd (a := tInts) ow ((p1.more fun b _ h => h.1).app (pr.app (p2.more fun b _ h => h.1))) (by rw [← e, List.length_set]; omega) (by omega) (fun g' hg' => by injection hg' with hg'; injection hg' with hg'; omega)
end
end Go.Proofs.Ytpmfeplifgmdhaa
