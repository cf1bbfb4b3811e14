/- Parts of the proof: Bc Bd Be Bf Bg Bh Bi Bj Bk Bl Bm Bn Bo Bp Bq Br Bs. -/
import Derived.Test.YtehcphboliofaaaGreatDoorPT8

/- Made by gen_XBc.py. Layer 23: the reference, second part. -/
namespace Go.Proofs.YtehcphboliofaaaGreatDoor
open Go Go.RowKit

section
variable {D : Nat → Prop} {w : World}
def arrN (d : Dist) (x : Run) (i hour : Nat) : Int := (parc d x hour i).1 - (parc d x hour i).2.1 - (parc d x hour i).2.2
end
end Go.Proofs.YtehcphboliofaaaGreatDoor

/- Made by gen_XBd.py. Layer 23: the reference, third part. -/
namespace Go.Proofs.YtehcphboliofaaaGreatDoor
open Go Go.RowKit

section
variable {D : Nat → Prop} {w : World}
theorem storeV_h {d : Dist} {x : Run} {hour : Int} : storeV d x hour = (if hErr d x hour d.hours = 0 then storeN d x hour.toNat else 0, hErr d x hour d.hours) := by
  unfold storeV hErr
  by_cases h : bErr d x = 0
  · have hn : ¬ (bErr d x ≠ 0) := fun e => e h
    simp only [if_neg hn]
    by_cases h2 : hour < 0 ∨ hour > d.hours
    · simp only [if_pos h2]; rfl
    · simp only [if_neg h2]; rfl
  · have hp : bErr d x ≠ 0 := h
    simp only [if_pos hp, if_neg h]
end
end Go.Proofs.YtehcphboliofaaaGreatDoor

/- Made by gen_XBe.py. Layer 23: the reference, moves; comparisons. -/
namespace Go.Proofs.YtehcphboliofaaaGreatDoor
open Go Go.RowKit

instance : EqTy Tryz.prog 86 := ⟨by kernel_rfl⟩
instance : EqTy Tryz.prog 138 := ⟨by kernel_rfl⟩
/-- A list of the function's own that lies outside of D. -/
structure OM (D : Nat → Prop) (w0 w : World) (A : Option Addr) (n c : Nat) (ms : List Mv) : Prop where
  o : OwnF w0 w A n c 138 5 (mvs ms)
  d : ∀ g, A = some (ad g 0) → ¬ D g
theorem OM.ext {D : Nat → Prop} {w0 w w' : World} {A : Option Addr} {n c : Nat} {ms : List Mv} (h : OM D w0 w A n c ms) (k : Ext w w') : OM D w0 w' A n c ms := ⟨h.o.then k, h.d⟩
theorem OM.sub {D D2 : Nat → Prop} {w0 w : World} {A : Option Addr} {n c : Nat} {ms : List Mv} (h : OM D w0 w A n c ms) (k : ∀ b, D2 b → D b) : OM D2 w0 w A n c ms := ⟨h.o, fun g hg hd => h.d g hg (k g hd)⟩
theorem OM.lt {D : Nat → Prop} {w0 w : World} {A : Option Addr} {n c : Nat} {ms : List Mv} (h : OM D w0 w A n c ms) {g : Nat} (hg : A = some (ad g 0)) : g < w.heap.size := by
  rcases h.o.form with ⟨hA, _⟩ | ⟨g', hA, _, hlt, _⟩
  · rw [hA] at hg; cases hg
  · rw [hA] at hg
    simp only [Option.some.injEq, Addr.mk.injEq, and_true] at hg
    omega
theorem OM.up {D : Nat → Prop} {w0 w w' : World} {A : Option Addr} {n c : Nat} {ms : List Mv} (h : OM D w0 w A n c ms) (x : Ext w w') : OM (fun b => D b ∨ (w.heap.size ≤ b ∧ b < w'.heap.size)) w0 w' A n c ms :=
  ⟨h.o.then x, fun g hg hd => by
    rcases hd with hd | hd
    · exact h.d g hg hd
    · have := h.lt hg; omega⟩
section
variable {D : Nat → Prop} {w0 w : World} {A A' : Option Addr} {n n' c c' : Nat}
end
end Go.Proofs.YtehcphboliofaaaGreatDoor

/- Made by gen_XBf.py. Layer 23: the reference's Moves. -/
namespace Go.Proofs.YtehcphboliofaaaGreatDoor
open Go Go.RowKit

section
variable {D Dd : Nat → Prop} {w0 w : World} {A : Option Addr} {n c : Nat}
end
end Go.Proofs.YtehcphboliofaaaGreatDoor

/- Made by gen_XBg.py. Layer 23: the reference's Moves; Few. -/
namespace Go.Proofs.YtehcphboliofaaaGreatDoor
open Go Go.RowKit

theorem hErr_most {d : Dist} {x : Run} {hour m : Int} (hm : bErr d x = 0 → m = d.hours - 1) : hErr d x hour m = hErr d x hour (d.hours - 1) := by
  by_cases h : bErr d x = 0
  · rw [hm h]
  · unfold hErr; rw [if_pos h, if_pos h]
section
variable {D : Nat → Prop} {w : World}
end
end Go.Proofs.YtehcphboliofaaaGreatDoor

/- Made by gen_XBh.py. Layer 23: the reference's Accounts. -/
namespace Go.Proofs.YtehcphboliofaaaGreatDoor
open Go Go.RowKit

def rS (l : List Int) (m : Int) : Int := (l.take m.toNat).sum
theorem rS_b {H : Nat} {l : List Int} (h : numB H l = true) (m : Int) : 0 ≤ rS l m ∧ rS l m ≤ H * 1073741824 := by
  obtain ⟨h1, h2⟩ := numB_iff.1 h
  have h3 := sum_bound (l := l.take m.toNat) fun y hy => h2 y (List.mem_of_mem_take hy)
  have h4 := List.length_take_le' m.toNat l
  unfold rS
  have : ((l.take m.toNat).length : Int) ≤ H := by omega
  omega
def raW (d : Dist) (x : Run) (T k : Nat) : List Ac := (List.range k).map fun i : Nat => ⟨2, i, rS (x.inn.getD i []) T - rS (x.inn.getD i []) (T - (rch d i).delay)⟩
def raD (kd : Int) (ls : List (List Int)) (d : Dist) (T k : Nat) : List Ac := (List.range k).map fun i : Nat => ⟨kd, i, rS (ls.getD i []) (T - (rch d i).delay)⟩
def raT (kd : Int) (ls : List (List Int)) (T k : Nat) : List Ac := (List.range k).map fun i : Nat => ⟨kd, i, rS (ls.getD i []) T⟩
def raccL (d : Dist) (x : Run) (T : Nat) : List Ac := [⟨1, 0, storeN d x T⟩] ++ raW d x T d.reaches.length ++ raD 3 x.evap d T d.reaches.length ++ raD 4 x.seep d T d.reaches.length ++ raT 5 x.taken T d.farms.length ++ raT 6 x.tail T d.reaches.length ++ [⟨7, 0, rS x.spill T⟩]
theorem raW_succ {d : Dist} {x : Run} {T k : Nat} : raW d x T (k + 1) = raW d x T k ++ [⟨2, k, rS (x.inn.getD k []) T - rS (x.inn.getD k []) (T - (rch d k).delay)⟩] := by unfold raW; rw [List.range_succ, List.map_append]; rfl
theorem raD_succ {kd : Int} {ls : List (List Int)} {d : Dist} {T k : Nat} : raD kd ls d T (k + 1) = raD kd ls d T k ++ [⟨kd, k, rS (ls.getD k []) (T - (rch d k).delay)⟩] := by unfold raD; rw [List.range_succ, List.map_append]; rfl
theorem raT_succ {kd : Int} {ls : List (List Int)} {T k : Nat} : raT kd ls T (k + 1) = raT kd ls T k ++ [⟨kd, k, rS (ls.getD k []) T⟩] := by unfold raT; rw [List.range_succ, List.map_append]; rfl
section
variable {D : Nat → Prop} {w : World}
end
end Go.Proofs.YtehcphboliofaaaGreatDoor

/- Layer 23: the reference's Few: it answers some truth. -/
namespace Go.Proofs.YtehcphboliofaaaGreatDoor
open Go Go.RowKit

section
variable {D : Nat → Prop} {w : World}
theorem c_r23short {l : List (List Int)} {A : Option Addr} {n c : Nat} (hs : SlR tInts D w A n l) : CallZ Tryz.prog 68 #[.slice A n c] w (fun v w' => ∃ b, v = .bool b ∧ w' = w) := by
  refine fn_rule (args := [.slice A n c]) Tryz.func68 (by kernel_rfl) ?_
  refine len ?_
  refine cD (fun g => ?_) (fun g => ?_)
  · exact ret1 (.bool false) rfl ⟨_, rfl, rfl⟩
  refine loop_rule (fun k : Nat => [(3, iv (k : Int))]) (fun k w' => k ≤ n ∧ w' = w) (fun k _ => n - k) 0 ⟨rfl, trivial⟩ ⟨by omega, rfl⟩ rfl ?_
  rintro G k w' ⟨hk, rfl⟩
  refine len ?_
  refine cD (fun hlt => ?_) (fun hge => ?_)
  · obtain ⟨b, o, cs, x, rfl, hx, hdx, -, hc, A2, n2, c2, rfl, hx2, -⟩ := hs.at_ (show k < n by omega)
    refine idx k rfl (by omega) ?_
    refine ld (.slice A2 n2 c2) (hc 0 _ rfl) ?_
    refine len ?_
    refine cD (fun g2 => ?_) (fun g2 => ?_)
    · exact ret1 (.bool false) rfl ⟨_, rfl, rfl⟩
    refine arI (by omega) ?_
    exact next (k + 1) ⟨by rw [Int.natCast_add]; rfl, trivial⟩ ⟨by omega, rfl⟩ (by omega)
  · exact ret1 (.bool true) rfl ⟨_, rfl, rfl⟩
theorem callS {f : FuncId} [h : Enters Tryz.prog f] {args : Array Value} {K : VK} {X : XK} (c : CallZ Tryz.prog f args w (fun v w' => ∃ b, v = .bool b ∧ w' = w)) (k1 : K (.bool true) w) (k2 : K (.bool false) w) : CallP Tryz.prog f args K X w := by
  refine call_of c ?_
  rintro _ _ ⟨b, rfl, rfl⟩
  cases b
  · exact k2
  · exact k1
theorem c_r23Few {csd csx : List Value} {d : Dist} {x : Run} (hd : DiR D w csd d) (hx : RuR D w csx x) : CallZ Tryz.prog 30 #[.agg csd.toArray, .agg csx.toArray] w (fun v w' => ∃ b, v = .bool b ∧ Ext w w') := by
  obtain ⟨A1, n1, c1, A2, n2, c2, A3, n3, c3, A4, n4, c4, A5, n5, c5, A6, n6, c6, rfl, hr, hfa, -⟩ := hd.ex
  obtain ⟨B1, m1, e1, B2, m2, e2, B3, m3, e3, B4, m4, e4, B5, m5, e5, B6, m6, e6, B7, m7, e7, rfl, i1, i2, i3, i4, i5, i6, i7, -⟩ := hx.ex
  refine fn_rule (args := [.agg #[.string d.name, iv d.hours, iv d.cap, iv d.start, .slice A1 n1 c1, .slice A2 n2 c2, .slice A3 n3 c3, .slice A4 n4 c4, .slice A5 n5 c5, .slice A6 n6 c6], .agg #[.slice B1 m1 e1, .slice B2 m2 e2, .slice B3 m3 e3, .slice B4 m4 e4, .slice B5 m5 e5, .slice B6 m6 e6, .slice B7 m7 e7]]) Tryz.func30 (by kernel_rfl) ?_
  refine box (fun bd w1 h1 => ?_)
  refine box (fun bx w2 h2 => ?_)
  have x2 := h1.ext.trans h2.ext
  have Bd := h1.blk.ext h2.ext
  have Bx := h2.blk
  refine ldA _ (.blk Bd) rfl ?_
  refine callE (c_r19Few (hd.ext x2)) (fun w3 _ x3 => ?_) (fun w3 _ x3 => ?_)
  rotate_left
  · exact ret1 (.bool false) rfl ⟨false, rfl, x2.trans x3⟩
  have x23 := x2.trans x3
  have Bd3 := Bd.ext x3
  have Bx3 := Bx.ext x3
  have no : ∃ b, Value.bool false = .bool b ∧ Ext w w3 := ⟨false, rfl, x23⟩
  have yes : ∃ b, Value.bool true = .bool b ∧ Ext w w3 := ⟨true, rfl, x23⟩
  all_goals
    refine fldA ?_
    refine ld (.slice A1 n1 c1) (Bd3.cell rfl) ?_
    refine len ?_
    refine cD (fun _ => ?_) (fun _ => ?_)
    refine fldA ?_
    refine ld (.slice A1 n1 c1) (Bd3.cell rfl) ?_
    refine len ?_
    refine cD (fun _ => ?_) (fun _ => ?_)
    exact ret1 (.bool false) rfl no
  all_goals
    refine fldA ?_
    refine ld (.slice A2 n2 c2) (Bd3.cell rfl) ?_
    refine len ?_
    refine cD (fun _ => ?_) (fun _ => ?_)
    refine fldA ?_
    refine ld (.slice A2 n2 c2) (Bd3.cell rfl) ?_
    refine len ?_
    refine cD (fun _ => ?_) (fun _ => ?_)
    exact ret1 (.bool false) rfl no
  all_goals
    refine fldA ?_
    refine ld (iv d.hours) (Bd3.cell rfl) ?_
    refine cD (fun _ => ?_) (fun _ => ?_)
    refine fldA ?_
    refine ld (iv d.hours) (Bd3.cell rfl) ?_
    refine cD (fun _ => ?_) (fun _ => ?_)
    exact ret1 (.bool false) rfl no
  all_goals
    refine fldA ?_
    refine ld (.slice B1 m1 e1) (Bx3.cell rfl) ?_
    refine len ?_
    refine cDr (fun _ => ?_) (fun _ => ?_)
    exact ret1 (.bool false) rfl no
    refine fldA ?_
    refine ld (.slice B2 m2 e2) (Bx3.cell rfl) ?_
    refine len ?_
    refine cDr (fun _ => ?_) (fun _ => ?_)
    exact ret1 (.bool false) rfl no
    refine fldA ?_
    refine ld (.slice B3 m3 e3) (Bx3.cell rfl) ?_
    refine callS (c_r23short (i3.ext x23)) ?_ ?_
    rotate_left
    exact ret1 (.bool false) rfl no
    refine fldA ?_
    refine ld (.slice B4 m4 e4) (Bx3.cell rfl) ?_
    refine callS (c_r23short (i4.ext x23)) ?_ ?_
    rotate_left
    exact ret1 (.bool false) rfl no
    refine fldA ?_
    refine ld (.slice B5 m5 e5) (Bx3.cell rfl) ?_
    refine callS (c_r23short (i5.ext x23)) ?_ ?_
    rotate_left
    exact ret1 (.bool false) rfl no
    refine fldA ?_
    refine ld (.slice B6 m6 e6) (Bx3.cell rfl) ?_
    refine callS (c_r23short (i6.ext x23)) ?_ ?_
    rotate_left
    exact ret1 (.bool false) rfl no
    refine fldA ?_
    refine ld (.slice B7 m7 e7) (Bx3.cell rfl) ?_
    refine callS (c_r23short (i7.ext x23)) ?_ ?_
    rotate_left
    exact ret1 (.bool false) rfl no
    exact ret1 (.bool true) rfl yes
end
end Go.Proofs.YtehcphboliofaaaGreatDoor

/- Layer 23, plainly: the accounts of the program and of the reference are alike. -/
namespace Go.Proofs.YtehcphboliofaaaGreatDoor
open Go Go.RowKit

theorem rS_step {H : Nat} {l : List Int} (h : numB H l = true) {m : Int} (hm : m < H) : rS l (m + 1) = rS l m + (if 0 ≤ m then g1 l m.toNat else 0) := by
  have h1 := (numB_iff.1 h).1
  unfold rS
  by_cases h0 : 0 ≤ m
  · rw [if_pos h0, show (m + 1).toNat = m.toNat + 1 by omega, sum_take (by omega)]
  · rw [if_neg h0, show (m + 1).toNat = 0 by omega, show m.toNat = 0 by omega]; simp
section
variable {d : Dist} {x : Run} {H hour i j k : Nat}
theorem in_child_no {key : Int × Int} (h : key.1 ≠ 2) : inN (childL d x hour j k) key = 0 := inN_no fun m hm e => by
  unfold childL at hm
  obtain ⟨t, _, rfl⟩ := List.mem_map.1 hm
  exact h (by rw [← e])
theorem in_farm_no {key : Int × Int} (h : key.1 ≠ 5) : inN (farmL d x hour j k) key = 0 := inN_no fun m hm e => by
  unfold farmL at hm
  obtain ⟨t, _, rfl⟩ := List.mem_map.1 hm
  exact h (by rw [← e])
theorem in_child : ∀ k, inN (childL d x hour j k) (2, (i : Int)) = if i < k ∧ (rch d i).up = (j : Int) then g2 x.inn i hour else 0
  | 0 => by rw [if_neg (by omega)]; rfl
  | k + 1 => by
    rw [childL_succ, inN_app, in_child k]
    by_cases h : (rch d k).up = (j : Int)
    · rw [if_pos h, inN_one]
      by_cases e : i = k
      · subst e; rw [if_neg (by omega), if_pos rfl, if_pos ⟨by omega, h⟩]; simp
      · rw [if_neg (c := (⟨(2, (j : Int)), (2, (k : Int)), g2 x.inn k hour⟩ : Mv).to = (2, (i : Int))) (by simp; omega), Int.add_zero]
        by_cases h2 : i < k ∧ (rch d i).up = (j : Int)
        · rw [if_pos h2, if_pos ⟨by omega, h2.2⟩]
        · rw [if_neg h2, if_neg (fun h3 => h2 ⟨by omega, h3.2⟩)]
    · rw [if_neg h, show inN [] (2, (i : Int)) = 0 from rfl, Int.add_zero]
      by_cases h2 : i < k ∧ (rch d i).up = (j : Int)
      · rw [if_pos h2, if_pos ⟨by omega, h2.2⟩]
      · rw [if_neg h2, if_neg (fun h3 => h2 ⟨by
          rcases Nat.lt_succ_iff_lt_or_eq.1 h3.1 with h4 | h4
          · exact h4
          · subst h4; exact absurd h3.2 h, h3.2⟩)]
theorem in_farm : ∀ k, inN (farmL d x hour j k) (5, (i : Int)) = if i < k ∧ (frm d i).reach = (j : Int) then g2 x.taken i hour else 0
  | 0 => by rw [if_neg (by omega)]; rfl
  | k + 1 => by
    rw [farmL_succ, inN_app, in_farm k]
    by_cases h : (frm d k).reach = (j : Int)
    · rw [if_pos h, inN_one]
      by_cases e : i = k
      · subst e; rw [if_neg (by omega), if_pos rfl, if_pos ⟨by omega, h⟩]; simp
      · rw [if_neg (c := (⟨(2, (j : Int)), (5, (k : Int)), g2 x.taken k hour⟩ : Mv).to = (5, (i : Int))) (by simp; omega), Int.add_zero]
        by_cases h2 : i < k ∧ (frm d i).reach = (j : Int)
        · rw [if_pos h2, if_pos ⟨by omega, h2.2⟩]
        · rw [if_neg h2, if_neg (fun h3 => h2 ⟨by omega, h3.2⟩)]
    · rw [if_neg h, show inN [] (5, (i : Int)) = 0 from rfl, Int.add_zero]
      by_cases h2 : i < k ∧ (frm d i).reach = (j : Int)
      · rw [if_pos h2, if_pos ⟨by omega, h2.2⟩]
      · rw [if_neg h2, if_neg (fun h3 => h2 ⟨by
          rcases Nat.lt_succ_iff_lt_or_eq.1 h3.1 with h4 | h4
          · exact h4
          · subst h4; exact absurd h3.2 h, h3.2⟩)]
theorem in_end (key : Int × Int) : inN (endL d x hour j) key = (if ((3 : Int), (j : Int)) = key then (parc d x hour j).2.1 else 0) + (if ((4 : Int), (j : Int)) = key then (parc d x hour j).2.2 else 0) + inN (childL d x hour j d.reaches.length) key + inN (farmL d x hour j d.farms.length) key + (if ((6 : Int), (j : Int)) = key then g2 x.tail j hour else 0) := by
  unfold endL
  rw [show lossL d x hour j = [⟨(2, j), (3, j), (parc d x hour j).2.1⟩] ++ [⟨(2, j), (4, j), (parc d x hour j).2.2⟩] from rfl, inN_app, inN_app, inN_app, inN_app, inN_one, inN_one, inN_one]
/-- What comes in from the ends of the reaches, where it comes from one at most. -/
theorem in_pref {key : Int × Int} {j0 : Nat} {v : Int} (h : ∀ j, inN (endL d x hour j) key = if j = j0 then v else 0) : ∀ k, inN (prefL d x hour k) key = inN (headL x hour) key + if j0 < k then v else 0
  | 0 => by
    have : prefL d x hour 0 = headL x hour := by simp [prefL]
    rw [this, if_neg (by omega), Int.add_zero]
  | k + 1 => by
    rw [prefL_succ, inN_app, in_pref h k, h]
    by_cases h1 : k = j0
    · subst h1; rw [if_neg (by omega), if_pos rfl, if_pos (by omega)]; omega
    · rw [if_neg h1]
      by_cases h2 : j0 < k
      · rw [if_pos h2, if_pos (by omega)]; omega
      · rw [if_neg h2, if_neg (by omega)]; omega
theorem in_head (key : Int × Int) : inN (headL x hour) key = (if ((1 : Int), (0 : Int)) = key then g1 x.inflow hour else 0) + (if ((7 : Int), (0 : Int)) = key then g1 x.spill hour else 0) + (if ((2 : Int), (0 : Int)) = key then g2 x.inn 0 hour else 0) := by
  rw [show headL x hour = [⟨(0, 0), (1, 0), g1 x.inflow hour⟩] ++ ([⟨(1, 0), (7, 0), g1 x.spill hour⟩] ++ [⟨(1, 0), (2, 0), g2 x.inn 0 hour⟩]) from rfl, inN_app, inN_app, inN_one, inN_one, inN_one]
  exact (Int.add_assoc _ _ _).symm
theorem in_evap (hi : i < d.reaches.length) : inN (movesL d x hour) (3, (i : Int)) = (parc d x hour i).2.1 := by
  unfold movesL
  rw [in_pref (j0 := i) (v := (parc d x hour i).2.1) (fun j => by
    rw [in_end, in_child_no (by simp), in_farm_no (by simp)]
    by_cases e : j = i
    · subst e; simp
    · have : ¬ (((3 : Int), (j : Int)) = (3, (i : Int))) := by simp; omega
      simp [e, this]) d.reaches.length, in_head, if_pos hi]
  simp
theorem in_seep (hi : i < d.reaches.length) : inN (movesL d x hour) (4, (i : Int)) = (parc d x hour i).2.2 := by
  unfold movesL
  rw [in_pref (j0 := i) (v := (parc d x hour i).2.2) (fun j => by
    rw [in_end, in_child_no (by simp), in_farm_no (by simp)]
    by_cases e : j = i
    · subst e; simp
    · have : ¬ (((4 : Int), (j : Int)) = (4, (i : Int))) := by simp; omega
      simp [e, this]) d.reaches.length, in_head, if_pos hi]
  simp
theorem in_tail (hi : i < d.reaches.length) : inN (movesL d x hour) (6, (i : Int)) = g2 x.tail i hour := by
  unfold movesL
  rw [in_pref (j0 := i) (v := g2 x.tail i hour) (fun j => by
    rw [in_end, in_child_no (by simp), in_farm_no (by simp)]
    by_cases e : j = i
    · subst e; simp
    · have : ¬ (((6 : Int), (j : Int)) = (6, (i : Int))) := by simp; omega
      simp [e, this]) d.reaches.length, in_head, if_pos hi]
  simp
theorem in_taken (hf : Fm d x H) (hi : i < d.farms.length) : inN (movesL d x hour) (5, (i : Int)) = g2 x.taken i hour := by
  have hfo := List.all_eq_true.1 hf.farm (frm d i) (List.mem_of_getElem? (farm_at hi))
  unfold farmOk at hfo
  simp only [Bool.and_eq_true, inI_iff] at hfo
  obtain ⟨-, ⟨h1, h2⟩, -⟩ := hfo
  unfold movesL
  rw [in_pref (j0 := (frm d i).reach.toNat) (v := g2 x.taken i hour) (fun j => by
    rw [in_end, in_child_no (by simp), in_farm]
    by_cases e : j = (frm d i).reach.toNat
    · rw [if_pos e, if_pos (show i < d.farms.length ∧ (frm d i).reach = (j : Int) from ⟨hi, by omega⟩)]; simp
    · rw [if_neg e, if_neg (show ¬ (i < d.farms.length ∧ (frm d i).reach = (j : Int)) from fun h => e (by omega))]; simp) d.reaches.length, in_head, if_pos (show (frm d i).reach.toNat < d.reaches.length by omega)]
  simp
theorem in_way (hf : Fm d x H) (hi : i < d.reaches.length) : inN (movesL d x hour) (2, (i : Int)) = g2 x.inn i hour := by
  obtain ⟨hu, -⟩ := hf.at_ (reach_at hi)
  unfold upOk at hu
  unfold movesL
  by_cases h0 : i = 0
  · subst h0
    rw [if_pos rfl, decide_eq_true_eq] at hu
    rw [in_pref (j0 := 0) (v := 0) (fun j => by
      rw [in_end, in_farm_no (by simp), in_child, if_neg (show ¬ (0 < d.reaches.length ∧ (rch d 0).up = (j : Int)) from fun h => by omega)]; simp) d.reaches.length, in_head]
    simp
  · rw [if_neg h0, inI_iff] at hu
    rw [in_pref (j0 := (rch d i).up.toNat) (v := g2 x.inn i hour) (fun j => by
      rw [in_end, in_farm_no (by simp), in_child]
      by_cases e : j = (rch d i).up.toNat
      · rw [if_pos e, if_pos (show i < d.reaches.length ∧ (rch d i).up = (j : Int) from ⟨hi, by omega⟩)]; simp
      · rw [if_neg e, if_neg (show ¬ (i < d.reaches.length ∧ (rch d i).up = (j : Int)) from fun h => e (by omega))]; simp) d.reaches.length, in_head, if_pos (show (rch d i).up.toNat < d.reaches.length by omega)]
    have : ¬ (((2 : Int), (0 : Int)) = (2, (i : Int))) := by simp; omega
    simp [this]
theorem in_none {key : Int × Int} (h : key = (7, 0) ∨ key = (1, 0)) : inN (movesL d x hour) key = (if ((1 : Int), (0 : Int)) = key then g1 x.inflow hour else 0) + (if ((7 : Int), (0 : Int)) = key then g1 x.spill hour else 0) := by
  unfold movesL
  rw [in_pref (j0 := 0) (v := 0) (fun j => by
    rw [in_end, in_child_no (by rcases h with rfl | rfl <;> simp), in_farm_no (by rcases h with rfl | rfl <;> simp)]
    rcases h with rfl | rfl <;> simp) d.reaches.length, in_head]
  rcases h with rfl | rfl <;> simp
/-- Nothing leaves a place but the tank and the ways. -/
theorem out_pref_no {key : Int × Int} (h : key.1 ≠ 2) : ∀ k, outN (prefL d x hour k) key = outN (headL x hour) key
  | 0 => by
    have : prefL d x hour 0 = headL x hour := by simp [prefL]
    rw [this]
  | k + 1 => by
    rw [prefL_succ, outN_app, out_pref_no h k, outN_no (l := endL d x hour k) (fun m hm e => h (by rw [← e, endL_frm m hm])), Int.add_zero]
theorem out_no {key : Int × Int} (h2 : key.1 ≠ 2) (h1 : key.1 ≠ 1) (h0 : key.1 ≠ 0) : outN (movesL d x hour) key = 0 := by
  unfold movesL
  rw [out_pref_no h2]
  exact outN_no (by
    intro m hm e
    unfold headL at hm
    simp only [List.mem_cons, List.not_mem_nil, or_false] at hm
    rcases hm with rfl | rfl | rfl
    · exact h0 (by rw [← e])
    · exact h1 (by rw [← e])
    · exact h1 (by rw [← e]))
theorem out_tank : outN (movesL d x hour) (1, 0) = g1 x.spill hour + g2 x.inn 0 hour := by
  unfold movesL
  rw [out_pref_no (by simp), show headL x hour = [⟨(0, 0), (1, 0), g1 x.inflow hour⟩] ++ ([⟨(1, 0), (7, 0), g1 x.spill hour⟩] ++ [⟨(1, 0), (2, 0), g2 x.inn 0 hour⟩]) from rfl, outN_app, outN_app, outN_one, outN_one, outN_one]
  simp
end
end Go.Proofs.YtehcphboliofaaaGreatDoor

/- Layer 23, plainly: the accounts of the program and of the reference are alike. -/
namespace Go.Proofs.YtehcphboliofaaaGreatDoor
open Go Go.RowKit

section
variable {d : Dist} {x : Run} {H i : Nat}
theorem rS_zero {l : List Int} {m : Int} (h : m ≤ 0) : rS l m = 0 := by unfold rS; rw [show m.toNat = 0 by omega]; simp
theorem now_step {k : Nat} {key : Int × Int} : nowN d x (k + 1) key = nowN d x k key - outN (movesL d x k) key + inN (movesL d x k) key := rfl
theorem now_tank : ∀ k, nowN d x k (1, 0) = storeN d x k
  | 0 => by unfold nowN storeN; rw [if_pos rfl]
  | k + 1 => by
    rw [now_step, now_tank k, out_tank, in_none (.inr rfl)]
    show _ = storeN d x k + g1 x.inflow k - g1 x.spill k - g2 x.inn 0 k
    simp; omega
theorem now_0 {key : Int × Int} (h : key ≠ (1, 0)) : nowN d x 0 key = 0 := by unfold nowN; rw [if_neg h]
theorem now_way (hf : Fm d x H) (hR : RightP d x H) (hi : i < d.reaches.length) : ∀ k, k ≤ H → nowN d x k (2, (i : Int)) = rS (x.inn.getD i []) k - rS (x.inn.getD i []) (k - (rch d i).delay)
  | 0, _ => by
    obtain ⟨-, -, h1, h2⟩ := hf.at_ (reach_at hi)
    rw [now_0 (by simp), rS_zero (by simp), rS_zero (by simp; omega)]; rfl
  | k + 1, hk => by
    have hb := hR.bal i k hi (by omega)
    unfold balI at hb
    rw [decide_eq_true_eq] at hb
    have hr := (tab_row hf.inn hi).2
    obtain ⟨-, -, h1, h2⟩ := hf.at_ (reach_at hi)
    rw [now_step, now_way hf hR hi k (by omega), out_moves hi, in_way hf hi]
    have e1 := rS_step hr (m := (k : Int)) (by omega)
    have e2 := rS_step hr (m := (k : Int) - (rch d i).delay) (by omega)
    rw [if_pos (by omega), Int.toNat_natCast] at e1
    have e3 : ((k + 1 : Nat) : Int) - (rch d i).delay = (k : Int) - (rch d i).delay + 1 := by omega
    have e4 : ((k + 1 : Nat) : Int) = (k : Int) + 1 := by omega
    rw [e3, e4, e1, e2]
    have hp : (parc d x k i).1 = if 0 ≤ (k : Int) - (rch d i).delay then g1 (x.inn.getD i []) ((k : Int) - (rch d i).delay).toNat else 0 := by
      unfold parc ent; split <;> rfl
    rw [← hp]
    show _ - _ + g1 (x.inn.getD i []) k = _
    omega
theorem now_del (kd : Int) (ls : List (List Int)) (sel : Int × Int × Int → Int) (hf : Fm d x H) (hi : i < d.reaches.length) (hl : numB H (ls.getD i []) = true) (hk0 : kd ≠ 0 ∧ kd ≠ 1 ∧ kd ≠ 2)
    (hin : ∀ k, k < H → inN (movesL d x k) (kd, (i : Int)) = sel (parc d x k i)) (hsel : ∀ k, sel (parc d x k i) = if 0 ≤ (k : Int) - (rch d i).delay then g1 (ls.getD i []) ((k : Int) - (rch d i).delay).toNat else 0) : ∀ k, k ≤ H → nowN d x k (kd, (i : Int)) = rS (ls.getD i []) (k - (rch d i).delay)
  | 0, _ => by
    obtain ⟨-, -, h1, h2⟩ := hf.at_ (reach_at hi)
    rw [now_0 (by simp; omega), rS_zero (by simp; omega)]
  | k + 1, hk => by
    obtain ⟨-, -, h1, h2⟩ := hf.at_ (reach_at hi)
    rw [now_step, now_del kd ls sel hf hi hl hk0 hin hsel k (by omega), out_no hk0.2.2 hk0.2.1 hk0.1, hin k (by omega), hsel]
    have e2 := rS_step hl (m := (k : Int) - (rch d i).delay) (by omega)
    have e3 : ((k + 1 : Nat) : Int) - (rch d i).delay = (k : Int) - (rch d i).delay + 1 := by omega
    rw [e3, e2]; omega
theorem now_flat (kd ix : Int) (l : List Int) (hl : numB H l = true) (hk0 : kd ≠ 0 ∧ kd ≠ 1 ∧ kd ≠ 2) (hin : ∀ k, k < H → inN (movesL d x k) (kd, ix) = g1 l k) : ∀ k, k ≤ H → nowN d x k (kd, ix) = rS l k
  | 0, _ => by rw [now_0 (by simp; omega), rS_zero (by simp)]
  | k + 1, hk => by
    rw [now_step, now_flat kd ix l hl hk0 hin k (by omega), out_no hk0.2.2 hk0.2.1 hk0.1, hin k (by omega)]
    have e2 := rS_step hl (m := (k : Int)) (by omega)
    rw [if_pos (by omega), Int.toNat_natCast] at e2
    have e4 : ((k + 1 : Nat) : Int) = (k : Int) + 1 := by omega
    rw [e4, e2]; omega
theorem racc_eq {T : Nat} (hf : Fm d x H) (hR : RightP d x H) (hT : T ≤ H) : raccL d x T = accL d x T := by
  have hmap : ∀ {n : Nat} {f g : Nat → Ac}, (∀ i, i < n → f i = g i) → (List.range n).map f = (List.range n).map g := fun {n f g} h => List.map_congr_left fun i hi => h i (List.mem_range.1 hi)
  unfold raccL accL kindsL
  simp only [List.flatMap_cons, List.flatMap_nil, List.append_nil, List.append_assoc]
  have a1 : ([⟨1, 0, storeN d x T⟩] : List Ac) = accK d x T 1 1 := by unfold accK; rw [List.range_one, List.map_cons, List.map_nil]; rw [← now_tank]; rfl
  have a2 : raW d x T d.reaches.length = accK d x T 2 d.reaches.length := by
    unfold raW accK; exact hmap fun i hi => by rw [now_way hf hR hi T hT]
  have a3 : raD 3 x.evap d T d.reaches.length = accK d x T 3 d.reaches.length := by
    unfold raD accK; exact hmap fun i hi => by
      rw [now_del 3 x.evap (fun p => p.2.1) hf hi (tab_row hf.evap hi).2 (by omega) (fun k _ => in_evap hi) (fun k => by unfold parc ent; split <;> rfl) T hT]
  have a4 : raD 4 x.seep d T d.reaches.length = accK d x T 4 d.reaches.length := by
    unfold raD accK; exact hmap fun i hi => by
      rw [now_del 4 x.seep (fun p => p.2.2) hf hi (tab_row hf.seep hi).2 (by omega) (fun k _ => in_seep hi) (fun k => by unfold parc ent; split <;> rfl) T hT]
  have a5 : raT 5 x.taken T d.farms.length = accK d x T 5 d.farms.length := by
    unfold raT accK; exact hmap fun i hi => by
      rw [now_flat 5 i (x.taken.getD i []) (tab_row hf.taken hi).2 (by omega) (fun k _ => in_taken hf hi) T hT]
  have a6 : raT 6 x.tail T d.reaches.length = accK d x T 6 d.reaches.length := by
    unfold raT accK; exact hmap fun i hi => by
      rw [now_flat 6 i (x.tail.getD i []) (tab_row hf.tail hi).2 (by omega) (fun k _ => in_tail hi) T hT]
  have a7 : ([⟨7, 0, rS x.spill T⟩] : List Ac) = accK d x T 7 1 := by
    unfold accK; rw [List.range_one, List.map_cons, List.map_nil]
    have := now_flat (d := d) (x := x) 7 0 x.spill hf.spill (by omega) (fun k _ => by rw [in_none (.inl rfl)]; simp) T hT
    show _ = [(⟨7, 0, nowN d x T (7, 0)⟩ : Ac)]
    rw [this]
  rw [a1, a2, a3, a4, a5, a6, a7]
end
end Go.Proofs.YtehcphboliofaaaGreatDoor

/- Layer 23, plainly: what the laws' small district answers. -/
namespace Go.Proofs.YtehcphboliofaaaGreatDoor
open Go Go.RowKit
def smallD : Dist := ⟨ByteArray.empty, 4, 30, 20, [⟨ByteArray.empty, -1, 2, 50, 50, 0, ⟨0, 2⟩, ⟨0, 1⟩, ⟨1, 10⟩⟩, ⟨ByteArray.empty, 0, 1, 50, 50, 0, ⟨0, 0⟩, ⟨0, 1⟩, ⟨0, 1⟩⟩], [⟨ByteArray.empty, 0, 0, -1⟩, ⟨ByteArray.empty, 1, 0, -1⟩], [], [], [], []⟩
def smallX : Run := ⟨[5, 0, 0, 2], [0, 1, 0, 0], [[10, 0, 0, 0], [0, 0, 4, 0]], [[1, 0, 0, 0], [0, 0, 0, 0]], [[1, 0, 0, 0], [0, 0, 0, 0]], [[0, 0, 3, 0], [0, 0, 0, 4]], [[0, 0, 1, 0], [0, 0, 0, 0]]⟩
def noX : Run := ⟨[], [], [], [], [], [], []⟩
def noD : Dist := ⟨ByteArray.empty, 0, 0, 0, [], [], [], [], [], []⟩
theorem sm1 : bErr smallD smallX = 0 := by kernel_rfl
theorem sm2 : storeV smallD smallX 4 = (16, 0) := by kernel_rfl
theorem sm3 : hErr smallD smallX 3 smallD.hours = 0 := by kernel_rfl
theorem sm4 : accL smallD smallX 3 = [⟨1, 0, 14⟩, ⟨2, 0, 0⟩, ⟨2, 1, 4⟩, ⟨3, 0, 1⟩, ⟨3, 1, 0⟩, ⟨4, 0, 1⟩, ⟨4, 1, 0⟩, ⟨5, 0, 3⟩, ⟨5, 1, 0⟩, ⟨6, 0, 1⟩, ⟨6, 1, 0⟩, ⟨7, 0, 1⟩] := by kernel_rfl
theorem sm5 : movV smallD smallX 2 = [⟨(2, 0), (3, 0), 1⟩, ⟨(2, 0), (4, 0), 1⟩, ⟨(2, 0), (2, 1), 4⟩, ⟨(2, 0), (5, 0), 3⟩, ⟨(2, 0), (6, 0), 1⟩] := by kernel_rfl
theorem sm6 : storeV smallD smallX (-1) = (0, 1) := by kernel_rfl
theorem sm7 : bErr smallD noX = 230 := by kernel_rfl
theorem sm8 : bErr noD smallX = 191 := by kernel_rfl
theorem sm9 : hErr smallD smallX 2 (smallD.hours - 1) = 0 := by kernel_rfl
theorem sm10 : bErr smallD { smallX with evap := [[3, 0, 0, 0], [0, 0, 0, 0]] } = 230 := by kernel_rfl
end Go.Proofs.YtehcphboliofaaaGreatDoor

/- Layer 23: contract of the laws' small district. -/
namespace Go.Proofs.YtehcphboliofaaaGreatDoor
open Go Go.RowKit

theorem smallI {l : List Int} (h : (l.all fun x => decide (0 ≤ x) && decide (x ≤ 100)) = true) : ∀ x ∈ l, I64 x := fun x hx => by have := List.all_eq_true.1 h x hx; simp only [Bool.and_eq_true, decide_eq_true_eq] at this; unfold I64; constructor <;> omega
end Go.Proofs.YtehcphboliofaaaGreatDoor

/- Layer 23: contract of the laws' copied. -/
namespace Go.Proofs.YtehcphboliofaaaGreatDoor
open Go Go.RowKit

theorem flat_ints_eq {D : Nat → Prop} {w : World} : ∀ {xs : List Int} {cs : List Value}, FlatR tInt D w xs cs → cs = xs.map fun v => Value.int .i64 v
  | [], _, h => h
  | y :: r, _, ⟨c1, r1, h, ⟨h1, _⟩, h2⟩ => by rw [h, h1, flat_ints_eq h2]; rfl

section
variable {D : Nat → Prop} {w : World} {A : Option Addr} {n c : Nat}
end
end Go.Proofs.YtehcphboliofaaaGreatDoor

/- Layer 23: contract of the laws' sane. -/
namespace Go.Proofs.YtehcphboliofaaaGreatDoor
open Go Go.RowKit

def smallA : List Ac := [⟨1, 0, 14⟩, ⟨2, 0, 0⟩, ⟨2, 1, 4⟩, ⟨3, 0, 1⟩, ⟨3, 1, 0⟩, ⟨4, 0, 1⟩, ⟨4, 1, 0⟩, ⟨5, 0, 3⟩, ⟨5, 1, 0⟩, ⟨6, 0, 1⟩, ⟨6, 1, 0⟩, ⟨7, 0, 1⟩]
def smallM : List Mv := [⟨(2, 0), (3, 0), 1⟩, ⟨(2, 0), (4, 0), 1⟩, ⟨(2, 0), (2, 1), 4⟩, ⟨(2, 0), (5, 0), 3⟩, ⟨(2, 0), (6, 0), 1⟩]
section
variable {D : Nat → Prop} {w : World} {csd csx : List Value}
theorem small_check (hd : DiR D w csd smallD) (hx : RuR D w csx smallX) : CallZ Tryz.prog 36 #[.agg csd.toArray, .agg csx.toArray] w (fun v w' => v = iv 0 ∧ Ext w w') := by have h := c_bCheck hd hx; rwa [sm1] at h
theorem small_checkA (hd : DiR D w csd smallD) (hx : RuR D w csx noX) : CallZ Tryz.prog 36 #[.agg csd.toArray, .agg csx.toArray] w (fun v w' => v = iv 230 ∧ Ext w w') := by have h := c_bCheck hd hx; rwa [sm7] at h
theorem small_checkB (hd : DiR D w csd noD) (hx : RuR D w csx smallX) : CallZ Tryz.prog 36 #[.agg csd.toArray, .agg csx.toArray] w (fun v w' => v = iv 191 ∧ Ext w w') := by have h := c_bCheck hd hx; rwa [sm8] at h
theorem small_checkC (hd : DiR D w csd smallD) (hx : RuR D w csx { smallX with evap := [[3, 0, 0, 0], [0, 0, 0, 0]] }) : CallZ Tryz.prog 36 #[.agg csd.toArray, .agg csx.toArray] w (fun v w' => v = iv 230 ∧ Ext w w') := by have h := c_bCheck hd hx; rwa [sm10] at h
theorem small_acc (hd : DiR D w csd smallD) (hx : RuR D w csx smallX) : CallZ Tryz.prog 37 #[.agg csd.toArray, .agg csx.toArray, iv 3] w (fun v w' => ∃ A n c, v = .tuple #[.slice A n c, iv 0] ∧ OwnF w w' A n c 86 3 (acs smallA)) := by
  have h := c_bAccounts (hour := 3) hd hx
  rw [sm3, if_pos rfl, show (3 : Int).toNat = 3 from rfl, sm4] at h
  exact h
theorem small_mov (hd : DiR D w csd smallD) (hx : RuR D w csx smallX) : CallZ Tryz.prog 71 #[.agg csd.toArray, .agg csx.toArray, iv 2] w (fun v w' => Ext w w' ∧ ∃ A n c, v = .tuple #[.slice A n c, iv 0] ∧ SlR tMv (fun b => w.heap.size ≤ b) w' A n smallM ∧ n ≤ c) := by
  have h := c_bMoves (hour := 2) hd hx
  rw [sm9, sm5] at h
  exact h

end
end Go.Proofs.YtehcphboliofaaaGreatDoor

/- Layer 23: contracts of the laws BalanceSpec, BalanceAccountsSpec. -/
namespace Go.Proofs.YtehcphboliofaaaGreatDoor
open Go Go.RowKit

theorem accL_len {d : Dist} {x : Run} {hour : Nat} : (accL d x hour).length = 2 + 4 * d.reaches.length + d.farms.length := by
  unfold accL kindsL accK
  simp; omega
section
variable {D : Nat → Prop} {w : World}
end
end Go.Proofs.YtehcphboliofaaaGreatDoor

/- Layer 23, plainly: the accounts' keys; what never is negative; what the moves of an hour do to the sum. -/
namespace Go.Proofs.YtehcphboliofaaaGreatDoor
open Go Go.RowKit

def keysL (d : Dist) : List (Int × Int) := (kindsL d).flatMap fun p => (List.range p.2).map fun i : Nat => (p.1, (i : Int))
def acAt (d : Dist) (x : Run) (k : Nat) (key : Int × Int) : Ac := ⟨key.1, key.2, nowN d x k key⟩
section
variable {d : Dist} {x : Run} {H i k : Nat} {key : Int × Int}
theorem accL_keys : accL d x k = (keysL d).map (acAt d x k) := by
  unfold accL keysL accK
  rw [List.map_flatMap]
  simp only [List.map_map]
  rfl
theorem mem_keysL : key ∈ keysL d ↔ ∃ p ∈ kindsL d, ∃ i : Nat, i < p.2 ∧ (p.1, (i : Int)) = key := by
  unfold keysL
  simp only [List.mem_flatMap, List.mem_map, List.mem_range]
theorem keysL_len : (keysL d).length = 2 + 4 * d.reaches.length + d.farms.length := by
  rw [← accL_len (x := ⟨[], [], [], [], [], [], []⟩) (hour := 0), accL_keys, List.length_map]
theorem keysL_head : ∃ r, keysL d = (1, 0) :: r ∧ (1, 0) ∉ r := by
  refine ⟨((kindsL d).drop 1).flatMap fun p => (List.range p.2).map fun i : Nat => (p.1, (i : Int)), rfl, fun h => ?_⟩
  simp only [List.mem_flatMap, List.mem_map, List.mem_range] at h
  obtain ⟨p, hp, i, -, e⟩ := h
  unfold kindsL at hp
  simp only [List.drop_succ_cons, List.drop_zero, List.mem_cons, List.not_mem_nil, or_false] at hp
  rcases hp with rfl | rfl | rfl | rfl | rfl | rfl <;> simp at e
/-- A place whose account is never negative. -/
def Pl (d : Dist) (key : Int × Int) : Prop := key = (1, 0) ∨ (∃ i : Nat, i < d.reaches.length ∧ key = (2, (i : Int))) ∨ (key.1 ≠ 0 ∧ key.1 ≠ 1 ∧ key.1 ≠ 2)
theorem keysL_pl (h : key ∈ keysL d) : Pl d key ∧ key.1 ≠ 0 := by
  obtain ⟨p, hp, i, hi, rfl⟩ := mem_keysL.1 h
  unfold kindsL at hp
  simp only [List.mem_cons, List.not_mem_nil, or_false] at hp
  unfold Pl
  rcases hp with rfl | rfl | rfl | rfl | rfl | rfl | rfl
  · obtain rfl : i = 0 := by have : i < 1 := hi; omega
    exact ⟨.inl rfl, by simp⟩
  · exact ⟨.inr (.inl ⟨i, hi, rfl⟩), by simp⟩
  all_goals exact ⟨.inr (.inr (by simp)), by simp⟩
theorem take_sum_mono {l : List Int} (h : ∀ v ∈ l, 0 ≤ v) : ∀ (a b : Nat), a ≤ b → (l.take a).sum ≤ (l.take b).sum := by
  induction l with
  | nil => intro a b _; simp
  | cons v l ih =>
    intro a b hab
    have hv := h v List.mem_cons_self
    have ih := ih fun v hv => h v (List.mem_cons_of_mem _ hv)
    cases b with
    | zero => obtain rfl : a = 0 := by omega
              simp
    | succ b =>
      cases a with
      | zero => have := ih 0 b (by omega); simp only [List.take_zero, List.sum_nil, List.take_succ_cons, List.sum_cons] at *; omega
      | succ a => have := ih a b (by omega); simp only [List.take_succ_cons, List.sum_cons]; omega
theorem rS_mono {l : List Int} (h : numB H l = true) {a b : Int} (hab : a ≤ b) : rS l a ≤ rS l b := by
  unfold rS
  exact take_sum_mono (fun v hv => ((numB_iff.1 h).2 v hv).1) _ _ (by omega)
theorem sto_pos (hR : RightP d x H) (hs : 0 ≤ d.start ∧ d.start ≤ d.cap) (hk : k ≤ H) : 0 ≤ storeN d x k ∧ storeN d x k ≤ d.cap := by
  cases k with
  | zero => exact hs
  | succ k => exact hR.sto k (by omega)
theorem now_up (hf : Fm d x H) (hk : k < H) (h : key.1 ≠ 0 ∧ key.1 ≠ 1 ∧ key.1 ≠ 2) : nowN d x k key ≤ nowN d x (k + 1) key := by
  rw [now_step, out_no h.2.2 h.2.1 h.1]
  have := inN_le (hf.okMoves hk) key
  omega
theorem now_pos (hf : Fm d x H) (hR : RightP d x H) (hs : 0 ≤ d.start ∧ d.start ≤ d.cap) (hp : Pl d key) : ∀ k, k ≤ H → 0 ≤ nowN d x k key := by
  intro k hk
  rcases hp with rfl | ⟨i, hi, rfl⟩ | h
  · rw [now_tank]; exact (sto_pos hR hs hk).1
  · rw [now_way hf hR hi k hk]
    obtain ⟨-, -, h1, h2⟩ := hf.at_ (reach_at hi)
    have := rS_mono (H := H) (tab_row hf.inn hi).2 (a := (k : Int) - (rch d i).delay) (b := k) (by omega)
    omega
  · induction k with
    | zero => rw [now_0 (fun e => h.2.1 (by rw [e]))]; exact Int.le_refl _
    | succ k ih => have := now_up (x := x) hf (by omega : k < H) h; have := ih (by omega); omega
end
end Go.Proofs.YtehcphboliofaaaGreatDoor

/- Layer 23: contract of the law BalanceSinks. -/
namespace Go.Proofs.YtehcphboliofaaaGreatDoor
open Go Go.RowKit

theorem bErr_head {d : Dist} {x : Run} (h : bErr d x = 0) : 0 ≤ d.start ∧ d.start ≤ d.cap ∧ d.cap ≤ 1099511627776 := by
  have := headOk_iff.1 (validB_iff.1 (bErr_ok.1 h).1.2).1
  omega
theorem hErr_z {d : Dist} {x : Run} {k : Nat} {H : Int} (h : bErr d x = 0) (hk : (k : Int) ≤ H) : hErr d x k H = 0 := hErr_ok.2 ⟨h, by omega, hk⟩
section
variable {D : Nat → Prop} {w : World}
theorem acc_ok {csd csx : List Value} {d : Dist} {x : Run} {k : Nat} {h : Int} (hd : DiR D w csd d) (hx : RuR D w csx x) (e0 : bErr d x = 0) (hk : (k : Int) ≤ d.hours) (hh : h = (k : Int)) : CallZ Tryz.prog 37 #[.agg csd.toArray, .agg csx.toArray, iv h] w
    (fun v w' => Ext w w' ∧ ∃ A n c, v = .tuple #[.slice A n c, iv 0] ∧ SlR tAc (fun b => w.heap.size ≤ b) w' A n (accL d x k) ∧ n ≤ c) := by
  subst hh
  have h := c_bAccounts (hour := (k : Int)) hd hx
  rw [hErr_z e0 hk, if_pos rfl, Int.toNat_natCast] at h
  refine h.mono fun v w' => ?_
  rintro ⟨A, n, c, rfl, o⟩
  refine ⟨o.ext, A, n, c, rfl, ?_, o.le⟩
  have l := o.own.len
  rw [acs_len, accL_len] at l
  obtain ⟨hf, -⟩ := bErr_fm e0
  have := hf.nr'
  have := hf.nf
  exact o.own.rd flat_acs (by rw [accL_len]; omega) (by omega) fun g hg => o.new g hg
theorem mov_ok {csd csx : List Value} {d : Dist} {x : Run} {k : Nat} {h : Int} (hd : DiR D w csd d) (hx : RuR D w csx x) (e0 : bErr d x = 0) (hk : (k : Int) < d.hours) (hh : h = (k : Int)) : CallZ Tryz.prog 71 #[.agg csd.toArray, .agg csx.toArray, iv h] w
    (fun v w' => Ext w w' ∧ ∃ A n c, v = .tuple #[.slice A n c, iv 0] ∧ SlR tMv (fun b => w.heap.size ≤ b) w' A n ((movesL d x k).filter nzM) ∧ n ≤ c) := by
  subst hh
  have h := c_bMoves (hour := (k : Int)) hd hx
  unfold movV at h
  rw [hErr_z e0 (by omega), if_pos rfl, Int.toNat_natCast] at h
  exact h
end
end Go.Proofs.YtehcphboliofaaaGreatDoor

/- Layer 23, plainly: what an hour's moves do to the sum of all accounts; no account is negative meanwhile. -/
namespace Go.Proofs.YtehcphboliofaaaGreatDoor
open Go Go.RowKit

/-! ### sums over keys -/
theorem sum_one {α : Type} [DecidableEq α] (t : α) (v : Int) : ∀ {l : List α}, l.Nodup → (l.map fun k => if t = k then v else 0).sum = if t ∈ l then v else 0
  | [], _ => rfl
  | a :: l, h => by
    obtain ⟨h1, h2⟩ := List.nodup_cons.1 h
    rw [List.map_cons, List.sum_cons, sum_one t v h2]
    by_cases e : t = a
    · subst e; rw [if_pos rfl, if_neg h1, if_pos List.mem_cons_self]; omega
    · rw [if_neg e]
      by_cases h3 : t ∈ l
      · rw [if_pos h3, if_pos (List.mem_cons_of_mem _ h3)]; omega
      · rw [if_neg h3, if_neg (by simp [e, h3])]; rfl
theorem sum_map_add {α : Type} (f g : α → Int) : ∀ l : List α, (l.map fun k => f k + g k).sum = (l.map f).sum + (l.map g).sum
  | [] => rfl
  | a :: l => by simp only [List.map_cons, List.sum_cons]; rw [sum_map_add f g l]; omega
theorem sum_map_sub {α : Type} (f g : α → Int) : ∀ l : List α, (l.map fun k => f k - g k).sum = (l.map f).sum - (l.map g).sum
  | [] => rfl
  | a :: l => by simp only [List.map_cons, List.sum_cons]; rw [sum_map_sub f g l]; omega
theorem sum_map_zero {α : Type} {f : α → Int} : ∀ {l : List α}, (∀ a ∈ l, f a = 0) → (l.map f).sum = 0
  | [], _ => rfl
  | a :: l, h => by rw [List.map_cons, List.sum_cons, h a List.mem_cons_self, sum_map_zero fun b hb => h b (List.mem_cons_of_mem _ hb)]; rfl
def srcN (ms : List Mv) : Int := sumL (ms.filter fun m => decide (m.frm.1 = 0))
theorem srcN_app (a b : List Mv) : srcN (a ++ b) = srcN a + srcN b := by unfold srcN; rw [List.filter_append, sumL_app]
theorem sum_in {l : List (Int × Int)} (hn : l.Nodup) : ∀ {ms : List Mv}, (∀ m ∈ ms, m.to ∈ l) → (l.map (inN ms)).sum = sumL ms
  | [], _ => sum_map_zero fun _ _ => rfl
  | m :: ms, h => by
    have e : inN (m :: ms) = fun k => (if m.to = k then m.litres else 0) + inN ms k := by
      funext k
      rw [show m :: ms = [m] ++ ms from rfl, inN_app, inN_one]
    rw [e, sum_map_add, sum_one _ _ hn, if_pos (h m List.mem_cons_self), sum_in hn fun x hx => h x (List.mem_cons_of_mem _ hx), sumL_cons]
theorem sum_out {l : List (Int × Int)} (hn : l.Nodup) (h0 : ∀ k ∈ l, k.1 ≠ 0) : ∀ {ms : List Mv}, (∀ m ∈ ms, m.frm.1 = 0 ∨ m.frm ∈ l) → (l.map (outN ms)).sum = sumL ms - srcN ms
  | [], _ => sum_map_zero (f := outN []) fun _ _ => rfl
  | m :: ms, h => by
    have e : outN (m :: ms) = fun k => (if m.frm = k then m.litres else 0) + outN ms k := by
      funext k
      rw [show m :: ms = [m] ++ ms from rfl, outN_app, outN_one]
    have ih := sum_out hn h0 (ms := ms) fun x hx => h x (List.mem_cons_of_mem _ hx)
    rw [e, sum_map_add, sum_one _ _ hn, ih, sumL_cons, show m :: ms = [m] ++ ms from rfl, srcN_app]
    have e1 : srcN [m] = if m.frm.1 = 0 then m.litres else 0 := by
      unfold srcN
      by_cases h : m.frm.1 = 0
      · rw [List.filter_cons_of_pos (by simpa using h), if_pos h]; simp [sumL]
      · rw [List.filter_cons_of_neg (by simpa using h), if_neg h]; rfl
    rw [e1]
    rcases h m List.mem_cons_self with h1 | h1
    · rw [if_neg (fun h2 => h0 _ h2 h1), if_pos h1]; omega
    · rw [if_pos h1, if_neg (h0 _ h1)]; omega
theorem nz_sum (q : Mv → Bool) : ∀ ms : List Mv, sumL ((ms.filter nzM).filter q) = sumL (ms.filter q)
  | [] => rfl
  | m :: ms => by
    have ih := nz_sum q ms
    by_cases h : m.litres = 0
    · rw [List.filter_cons_of_neg (p := nzM) (by unfold nzM; simp [h]), ih]
      by_cases hq : q m
      · rw [List.filter_cons_of_pos hq, sumL_cons, h]; omega
      · rw [List.filter_cons_of_neg (by simpa using hq)]
    · rw [List.filter_cons_of_pos (p := nzM) (by unfold nzM; simp [h])]
      by_cases hq : q m
      · rw [List.filter_cons_of_pos hq, List.filter_cons_of_pos hq, sumL_cons, sumL_cons, ih]
      · rw [List.filter_cons_of_neg (by simpa using hq), List.filter_cons_of_neg (by simpa using hq), ih]
theorem nz_out (ms : List Mv) (k : Int × Int) : outN (ms.filter nzM) k = outN ms k := nz_sum _ ms
theorem nz_in (ms : List Mv) (k : Int × Int) : inN (ms.filter nzM) k = inN ms k := nz_sum _ ms

section
variable {d : Dist} {x : Run} {H i k j : Nat} {key : Int × Int}
theorem keysL_nodup : (keysL d).Nodup := by
  unfold keysL List.Nodup
  rw [List.pairwise_flatMap]
  constructor
  · intro p _
    rw [List.pairwise_map]
    exact List.Pairwise.imp (fun h e => h (by injection e with _ e; exact Int.ofNat.inj e)) (List.nodup_range (n := p.2))
  · have h : (kindsL d).Pairwise fun a b => a.1 ≠ b.1 := by unfold kindsL; simp
    refine h.imp fun {a b} hab x hx y hy e => ?_
    simp only [List.mem_map, List.mem_range] at hx hy
    obtain ⟨i, -, rfl⟩ := hx
    obtain ⟨j, -, rfl⟩ := hy
    exact hab (by injection e)
theorem mv_mem {m : Mv} (h : m ∈ movesL d x k) : m = ⟨(0, 0), (1, 0), g1 x.inflow k⟩ ∨ m = ⟨(1, 0), (7, 0), g1 x.spill k⟩ ∨ m = ⟨(1, 0), (2, 0), g2 x.inn 0 k⟩ ∨ ∃ i, i < d.reaches.length ∧ m ∈ endL d x k i := by
  unfold movesL prefL headL at h
  simp only [List.mem_append, List.mem_cons, List.not_mem_nil, or_false, List.mem_flatMap, List.mem_range] at h
  rcases h with (h | h | h) | ⟨i, hi, h⟩
  · exact .inl h
  · exact .inr (.inl h)
  · exact .inr (.inr (.inl h))
  · exact .inr (.inr (.inr ⟨i, hi, h⟩))
theorem mem_k1 : ((1 : Int), (0 : Int)) ∈ keysL d := mem_keysL.2 ⟨(1, 1), by simp [kindsL], 0, by simp, rfl⟩
theorem mem_kR {kd : Int} (h : kd = 2 ∨ kd = 3 ∨ kd = 4 ∨ kd = 6) (hi : i < d.reaches.length) : (kd, (i : Int)) ∈ keysL d := mem_keysL.2 ⟨(kd, d.reaches.length), by rcases h with rfl | rfl | rfl | rfl <;> simp [kindsL], i, hi, rfl⟩
theorem mem_kF (hi : i < d.farms.length) : ((5 : Int), (i : Int)) ∈ keysL d := mem_keysL.2 ⟨(5, d.farms.length), by simp [kindsL], i, hi, rfl⟩
theorem mem_k7 : ((7 : Int), (0 : Int)) ∈ keysL d := mem_keysL.2 ⟨(7, 1), by simp [kindsL], 0, by simp, rfl⟩
theorem mv_frm {m : Mv} (h : m ∈ movesL d x k) : (m.frm.1 = 0 ∧ m = ⟨(0, 0), (1, 0), g1 x.inflow k⟩) ∨ m.frm = (1, 0) ∨ ∃ i : Nat, i < d.reaches.length ∧ m.frm = (2, (i : Int)) := by
  rcases mv_mem h with rfl | rfl | rfl | ⟨i, hi, h⟩
  · exact .inl ⟨rfl, rfl⟩
  · exact .inr (.inl rfl)
  · exact .inr (.inl rfl)
  · exact .inr (.inr ⟨i, hi, endL_frm m h⟩)
theorem mv_to (hn : 0 < d.reaches.length) {m : Mv} (h : m ∈ movesL d x k) : m.to ∈ keysL d := by
  rcases mv_mem h with rfl | rfl | rfl | ⟨i, hi, h⟩
  · exact mem_k1
  · exact mem_k7
  · exact mem_kR (i := 0) (.inl rfl) hn
  · unfold endL lossL childL farmL at h
    simp only [List.mem_append, List.mem_cons, List.not_mem_nil, or_false, List.mem_map, List.mem_filter, List.mem_range] at h
    rcases h with (((rfl | rfl) | ⟨j, ⟨hj, _⟩, rfl⟩) | ⟨j, ⟨hj, _⟩, rfl⟩) | rfl
    · exact mem_kR (.inr (.inl rfl)) hi
    · exact mem_kR (.inr (.inr (.inl rfl))) hi
    · exact mem_kR (.inl rfl) hj
    · exact mem_kF hj
    · exact mem_kR (.inr (.inr (.inr rfl))) hi
theorem mv_key {m : Mv} (h : m ∈ movesL d x k) : m.frm.1 = 0 ∨ m.frm ∈ keysL d := by
  rcases mv_frm h with ⟨h, -⟩ | h | ⟨i, hi, h⟩
  · exact .inl h
  · rw [h]; exact .inr mem_k1
  · rw [h]; exact .inr (mem_kR (.inl rfl) hi)
theorem src_moves : srcN (movesL d x k) = g1 x.inflow k := by
  unfold movesL prefL
  rw [srcN_app]
  have e : srcN ((List.range d.reaches.length).flatMap fun i => endL d x k i) = 0 := by
    unfold srcN
    rw [List.filter_eq_nil_iff.2]
    · rfl
    · intro m hm
      simp only [List.mem_flatMap, List.mem_range] at hm
      obtain ⟨i, -, hm⟩ := hm
      rw [endL_frm m hm]; simp
  rw [e]
  unfold srcN headL sumL
  simp
def totA (d : Dist) (x : Run) (k : Nat) : Int := ((keysL d).map (nowN d x k)).sum
theorem tot_step (hf : Fm d x H) : totA d x (k + 1) = totA d x k + g1 x.inflow k := by
  have e : nowN d x (k + 1) = fun key => (nowN d x k key - outN (movesL d x k) key) + inN (movesL d x k) key := by funext key; exact now_step
  unfold totA
  rw [e, sum_map_add, sum_map_sub, sum_in keysL_nodup fun m hm => mv_to hf.nr hm, sum_out keysL_nodup (fun k hk => (keysL_pl hk).2) fun m hm => mv_key hm, src_moves]
  omega
theorem tot_0 : totA d x 0 = d.start := by
  obtain ⟨r, hr, hn⟩ := keysL_head (d := d)
  unfold totA
  rw [hr, List.map_cons, List.sum_cons, sum_map_zero (fun a ha => now_0 fun e => hn (by rw [← e]; exact ha)), now_tank]
  show d.start + 0 = _
  omega
theorem tot_bound (hf : Fm d x H) (hs : 0 ≤ d.start) : ∀ k, k ≤ H → 0 ≤ totA d x k ∧ totA d x k ≤ d.start + k * 1073741824
  | 0, _ => by rw [tot_0]; omega
  | k + 1, hk => by
    have ih := tot_bound hf hs k (by omega)
    have h := (num_val hf.inflow (show k < H by omega)).2
    rw [tot_step hf]
    omega
theorem part_bound (hf : Fm d x H) (hR : RightP d x H) (hs : 0 ≤ d.start ∧ d.start ≤ d.cap) (hk : k ≤ H) (j : Nat) : 0 ≤ (((keysL d).map (nowN d x k)).take j).sum ∧ (((keysL d).map (nowN d x k)).take j).sum ≤ totA d x k := by
  have hp : ∀ v ∈ (keysL d).map (nowN d x k), 0 ≤ v := by
    intro v hv
    obtain ⟨key, hkey, rfl⟩ := List.mem_map.1 hv
    exact now_pos hf hR hs (keysL_pl hkey).1 k hk
  have h1 := take_sum_mono hp 0 j (by omega)
  have h2 := take_sum_mono hp (min j ((keysL d).map (nowN d x k)).length) ((keysL d).map (nowN d x k)).length (by omega)
  rw [List.take_length] at h2
  have h3 : ((keysL d).map (nowN d x k)).take (min j ((keysL d).map (nowN d x k)).length) = ((keysL d).map (nowN d x k)).take j := by
    rw [← List.take_take, List.take_length]
  rw [h3] at h2
  unfold totA
  simp only [List.take_zero, List.sum_nil] at h1
  omega
theorem okM_nz {ms : List Mv} (h : okM ms) : okM (ms.filter nzM) := fun m hm => h m (List.mem_filter.1 hm).1
/-- Meanwhile. -/
def midN (d : Dist) (x : Run) (k j : Nat) (key : Int × Int) : Int := nowN d x k key - outN (((movesL d x k).filter nzM).take j) key + inN (((movesL d x k).filter nzM).take j) key
theorem mid_pos (hf : Fm d x H) (hR : RightP d x H) (hk : k < H) {m : Mv} (hm : ((movesL d x k).filter nzM)[j]? = some m) (h0 : m.frm.1 ≠ 0) : 0 ≤ midN d x k j m.frm - m.litres := by
  unfold midN
  have ok := okM_nz (hf.okMoves hk)
  obtain ⟨fs, hfs⟩ : ∃ fs, fs = (movesL d x k).filter nzM := ⟨_, rfl⟩
  rw [← hfs] at hm ok ⊢
  have hj := (List.getElem?_eq_some_iff.1 hm).1
  have hsp : fs = fs.take j ++ ([m] ++ fs.drop (j + 1)) := by
    have h1 := (List.getElem?_eq_some_iff.1 hm).2
    have h2 := List.drop_eq_getElem_cons hj
    rw [h1] at h2
    rw [show [m] ++ fs.drop (j + 1) = m :: fs.drop (j + 1) from rfl, ← h2, List.take_append_drop]
  have ho : outN (movesL d x k) m.frm = outN (fs.take j) m.frm + (m.litres + outN (fs.drop (j + 1)) m.frm) := by
    rw [← nz_out, ← hfs]
    conv => lhs; rw [hsp]
    rw [outN_app, outN_app, outN_one, if_pos rfl]
  have hd := outN_le (ms := fs.drop (j + 1)) (fun y hy => ok y (List.mem_of_mem_drop hy)) m.frm
  have hi := inN_le (ms := fs.take j) (fun y hy => ok y (List.mem_of_mem_take hy)) m.frm
  have hmm : m ∈ movesL d x k := (List.mem_filter.1 (by rw [← hfs]; exact List.mem_of_getElem? hm)).1
  rcases mv_frm hmm with ⟨h, -⟩ | h | ⟨i, hi', h⟩
  · exact absurd h h0
  · rw [h] at ho hd hi ⊢
    rw [out_tank] at ho
    rw [now_tank]
    have hs := (hR.sto k hk).1
    have hs' : storeN d x (k + 1) = storeN d x k + g1 x.inflow k - g1 x.spill k - g2 x.inn 0 k := rfl
    have hin : g1 x.inflow k ≤ inN (fs.take j) (1, 0) := by
      by_cases hz : g1 x.inflow k = 0
      · omega
      · have e : fs = ⟨(0, 0), (1, 0), g1 x.inflow k⟩ :: (((movesL d x k).drop 1).filter nzM) := by
          rw [hfs]
          unfold movesL prefL headL
          rw [List.cons_append, List.filter_cons_of_pos (by unfold nzM; simp [hz])]
          rfl
        cases j with
        | zero =>
          rw [e] at hm
          simp only [List.getElem?_cons_zero, Option.some.injEq] at hm
          subst hm
          exact absurd rfl h0
        | succ j =>
          rw [e, List.take_succ_cons, show ∀ (a : Mv) l, a :: l = [a] ++ l from fun _ _ => rfl, inN_app, inN_one, if_pos rfl]
          have := inN_le (ms := (((movesL d x k).drop 1).filter nzM).take j) (fun y hy => (okM_nz (ms := (movesL d x k).drop 1) fun z hz => hf.okMoves hk z (List.mem_of_mem_drop hz)) y (List.mem_of_mem_take hy)) (1, 0)
          show g1 x.inflow k ≤ g1 x.inflow k + _
          omega
    omega
  · rw [h] at ho hd hi ⊢
    rw [out_moves hi'] at ho
    have hb := hR.bal i k hi' hk
    unfold balI at hb
    rw [decide_eq_true_eq] at hb
    have hr := (tab_row hf.inn hi').2
    obtain ⟨-, -, h1, h2⟩ := hf.at_ (reach_at hi')
    have hw := now_way hf hR hi' k (by omega)
    have e2 := rS_step hr (m := (k : Int) - (rch d i).delay) (by omega)
    have e3 := rS_mono hr (a := (k : Int) - (rch d i).delay + 1) (b := k) (by omega)
    have hp : (parc d x k i).1 = if 0 ≤ (k : Int) - (rch d i).delay then g1 (x.inn.getD i []) ((k : Int) - (rch d i).delay).toNat else 0 := by
      unfold parc ent; split <;> rfl
    rw [← hp] at e2
    omega
end
end Go.Proofs.YtehcphboliofaaaGreatDoor
