/- Parts of the proof: El Em En Eo Ep Es Et Eu. -/
import Derived.Test.YtffdjecdcbbfaaaGreatM11
import Derived.Test.YtffdjecdcbbfaaaGreatM2
import Derived.Test.YtffdjecdcbbfaaaGreatM10
import Derived.Test.YtffdjecdcbbfaaaGreatM8
import Derived.Test.YtffdjecdcbbfaaaGreatM7

/- Layer 48: the laws' small functions: Few (some truth), SameTable, exact, district. -/
namespace Go.Proofs.YtffdjecdcbbfaaaGreat
open Go Go.RowKit

section
variable {D : Nat → Prop} {w : World}
theorem c_r48Few {csd csx : List Value} {d : Dist} {x : Ev} (hd : DiR D w csd d) (hx : EvR D w csx x) : CallZ Tryz.prog 7 #[.agg csd.toArray, .agg csx.toArray] w (fun v w' => ∃ b, v = .bool b ∧ Ext w w') := by
  obtain ⟨A1, n1, c1, A2, n2, c2, A3, n3, c3, A4, n4, c4, A5, n5, c5, A6, n6, c6, rfl, hr, hfa, -⟩ := hd.ex
  obtain ⟨W1, m1, e1, S1, m2, e2, rfl, hwv, -⟩ := hx.ex
  refine fn_rule (args := [.agg #[.string d.name, iv d.hours, iv d.cap, iv d.start, .slice A1 n1 c1, .slice A2 n2 c2, .slice A3 n3 c3, .slice A4 n4 c4, .slice A5 n5 c5, .slice A6 n6 c6], .agg #[.slice W1 m1 e1, .slice S1 m2 e2]]) Tryz.func7 (by kernel_rfl) ?_
  refine box (fun bd w1 h1 => ?_)
  refine box (fun bx w2 h2 => ?_)
  have x2 := h1.ext.trans h2.ext
  have Bd := h1.blk.ext h2.ext
  have Bx := h2.blk
  refine ldA _ (.blk Bd) rfl ?_
  refine callE (c_r19Few (hd.ext x2)) (fun w3 _ x3 => ?_) (fun w3 _ x3 => ?_)
  rotate_left
  · exact ret1 (.bool false) rfl ⟨false, rfl, x2.trans x3⟩
  have x23 := x2.trans x3
  have Bd3 := Bd.ext x3
  have Bx3 := Bx.ext x3
  have hwv3 := hwv.ext x23
  have no : ∃ b, Value.bool false = .bool b ∧ Ext w w3 := ⟨false, rfl, x23⟩
  have yes : ∃ b, Value.bool true = .bool b ∧ Ext w w3 := ⟨true, rfl, x23⟩
  all_goals
    refine fldA ?_
    refine ld (.slice A1 n1 c1) (Bd3.cell rfl) ?_
    refine len ?_
    refine cD (fun _ => ?_) (fun _ => ?_)
    refine fldA ?_
    refine ld (.slice A1 n1 c1) (Bd3.cell rfl) ?_
    refine len ?_
    refine cD (fun _ => ?_) (fun _ => ?_)
    exact ret1 (.bool false) rfl no
  all_goals
    refine fldA ?_
    refine ld (.slice A2 n2 c2) (Bd3.cell rfl) ?_
    refine len ?_
    refine cD (fun _ => ?_) (fun _ => ?_)
    refine fldA ?_
    refine ld (.slice A2 n2 c2) (Bd3.cell rfl) ?_
    refine len ?_
    refine cD (fun _ => ?_) (fun _ => ?_)
    exact ret1 (.bool false) rfl no
  all_goals
    refine fldA ?_
    refine ld (.slice W1 m1 e1) (Bx3.cell rfl) ?_
    refine len ?_
    refine cD (fun _ => ?_) (fun _ => ?_)
    refine fldA ?_
    refine ld (.slice W1 m1 e1) (Bx3.cell rfl) ?_
    refine len ?_
    refine cD (fun _ => ?_) (fun _ => ?_)
    exact ret1 (.bool false) rfl no
  all_goals
    refine fldA ?_
    refine ld (.slice W1 m1 e1) (Bx3.cell rfl) ?_
    refine len ?_
    refine cD (fun _ => ?_) (fun _ => ?_)
    exact ret1 (.bool false) rfl no
  all_goals
    refine fldA ?_
    refine ld (.slice S1 m2 e2) (Bx3.cell rfl) ?_
    refine len ?_
    refine cD (fun _ => ?_) (fun _ => ?_)
    refine fldA ?_
    refine ld (.slice S1 m2 e2) (Bx3.cell rfl) ?_
    refine len ?_
    refine cD (fun _ => ?_) (fun _ => ?_)
    exact ret1 (.bool false) rfl no
  all_goals
    refine fldA ?_
    refine ld (.slice S1 m2 e2) (Bx3.cell rfl) ?_
    refine len ?_
    refine cD (fun _ => ?_) (fun _ => ?_)
    exact ret1 (.bool false) rfl no
  all_goals
    refine loop_rule (fun k : Nat => [(6, iv (k : Int))]) (fun k u => k ≤ m1 ∧ u = w3) (fun k _ => m1 - k) 0 ⟨rfl, trivial⟩ ⟨by omega, rfl⟩ rfl ?_
    rintro G k u ⟨hk, rfl⟩
    refine fldA ?_
    refine ld (.slice W1 m1 e1) (Bx3.cell rfl) ?_
    refine len ?_
    refine cD (fun hlt => ?_) (fun hge => ?_)
    rotate_left
    exact ret1 (.bool true) rfl yes
    have hlt : k < m1 := by omega
    have hle := hwv3.le
    obtain ⟨b', o, cs, v, rfl, hv, -, -, hc, hrep⟩ := hwv3.at_ hlt
    obtain ⟨H1, h1', k1, O1, o1, k2, T1, g1, k3, rfl, -⟩ := wv_open hrep
    refine fldA ?_
    refine ld (.slice (some (ad b' o)) m1 e1) (Bx3.cell rfl) ?_
    refine idx k rfl hlt ?_
    refine fldA ?_
    refine ld (.slice H1 h1' k1) (hc 1 _ rfl) ?_
    refine len ?_
    refine cD (fun _ => ?_) (fun _ => ?_)
    exact ret1 (.bool false) rfl no
    refine fldA ?_
    refine ld (.slice (some (ad b' o)) m1 e1) (Bx3.cell rfl) ?_
    refine idx k rfl hlt ?_
    refine fldA ?_
    refine ld (.slice O1 o1 k2) (hc 2 _ rfl) ?_
    refine len ?_
    refine cD (fun _ => ?_) (fun _ => ?_)
    exact ret1 (.bool false) rfl no
    refine fldA ?_
    refine ld (.slice (some (ad b' o)) m1 e1) (Bx3.cell rfl) ?_
    refine idx k rfl hlt ?_
    refine fldA ?_
    refine ld (.slice T1 g1 k3) (hc 3 _ rfl) ?_
    refine len ?_
    refine cD (fun _ => ?_) (fun _ => ?_)
    exact ret1 (.bool false) rfl no
    refine arI (n := (k : Int) + 1) (by omega) ?_
    exact next (k + 1) ⟨rfl, trivial⟩ ⟨by omega, rfl⟩ (by omega)
end
/-- Two tables are the same. -/
theorem c_sameTable {w : World} {D : Nat → Prop} {l m : List Bool} {A B : Option Addr} {n c n' c' : Nat} (hl : SlR tBool D w A n l) (hm : SlR tBool D w B n' m) : CallZ Tryz.prog 17 #[.slice A n c, .slice B n' c'] w (fun v w' => v = .bool (decide (l = m)) ∧ w' = w) := by
  have l1 := hl.len
  have l2 := hm.len
  have e1 := hl.le
  refine fn_rule (args := [.slice A n c, .slice B n' c']) Tryz.func17 (by kernel_rfl) ?_
  refine len ?_
  refine len ?_
  refine cN (fun q => ?_) (fun q => ?_)
  · exact ret1 (.bool false) rfl ⟨by rw [decide_eq_false fun h => q (by subst h; omega)], rfl⟩
  have q : n = n' := by omega
  refine loop_rule (fun k : Nat => [(5, iv (k : Int))]) (fun k u => k ≤ n ∧ u = w ∧ ∀ i, i < k → l[i]? = m[i]?) (fun k _ => n - k) 0 ⟨rfl, trivial⟩ ⟨by omega, rfl, fun i hi => by omega⟩ rfl ?_
  rintro G k u ⟨hk, rfl, hs⟩
  refine len ?_
  refine cD (fun hlt => ?_) (fun hge => ?_)
  · have hlt : k < n := by omega
    obtain ⟨b, o, cs, a, rfl, ha, -, -, hc, rfl⟩ := hl.at_ hlt
    obtain ⟨b', o', cs', a', rfl, ha', -, -, hc', rfl⟩ := hm.at_ (k := k) (by omega)
    refine drawX [0, 1, 2, 3, 4, 5, 6, 7, 8] [] mx (by kernel_rfl) ?_
    refine idx k rfl hlt ?_
    refine ldX (.bool a) (hc 0 _ rfl) (.refl _ _) ?_
    refine idx k rfl (by omega) ?_
    refine ldX (.bool a') (hc' 0 _ rfl) (.refl _ _) ?_
    refine neB (fun g => ?_) (fun g => ?_)
    · refine ret1 (.bool false) rfl ⟨?_, rfl⟩
      rw [decide_eq_false]
      rintro rfl
      rw [ha] at ha'; injection ha' with ha'; exact g ha'
    · refine arI (by omega) ?_
      refine next (k + 1) ⟨by rw [Int.natCast_add]; rfl, trivial⟩ ⟨by omega, rfl, fun i hi => ?_⟩ (by omega)
      by_cases e : i = k
      · subst e; rw [ha, ha', g]
      · exact hs i (by omega)
  · refine ret1 (.bool true) rfl ⟨?_, rfl⟩
    rw [decide_eq_true]
    apply List.ext_getElem?
    intro i
    by_cases hi : i < n
    · exact hs i (by omega)
    · rw [List.getElem?_eq_none (by omega), List.getElem?_eq_none (by omega)]
theorem flat_fl {α : Type} {n : Nat} {c : α → List Value} {hl : ∀ x, (c x).length = n} {D : Nat → Prop} {w : World} : ∀ {xs : List α}, FlatR (tFl n c hl) D w xs (xs.flatMap c)
  | [] => rfl
  | x :: xs => ⟨c x, xs.flatMap c, rfl, rfl, flat_fl⟩
theorem c_exact {w : World} {D : Nat → Prop} {l : List Int} {A : Option Addr} {n c : Nat} (hl : SlR tInt D w A n l) (hn : n ≤ 1000) : CallZ Tryz.prog 24 #[.slice A n c] w (fun v w' => Ext w w' ∧ ∃ A' n' c', v = .slice A' n' c' ∧ n' ≤ c' ∧ SlR tRg (fun b => w.heap.size ≤ b) w' A' n' (l.map fun i => ⟨i, i⟩)) := by
  have l1 := hl.len
  refine fn_rule (args := [.slice A n c]) Tryz.func24 (by kernel_rfl) ?_
  refine len ?_
  refine loop_rule (fun s : Nat × Option Addr × Nat => [(7, iv (s.1 : Int)), (2, .slice s.2.1 s.1 s.2.2)]) (fun s u => s.1 ≤ n ∧ OwnF w u s.2.1 s.1 s.2.2 101 2 (((l.take s.1).map fun i => (⟨i, i⟩ : Rg)).flatMap Rg.c)) (fun s _ => n - s.1) (0, none, 0) ⟨rfl, rfl, trivial⟩ ⟨by omega, .nil (.refl _ _)⟩ rfl ?_
  rintro G ⟨k, B, cb⟩ u ⟨hk, own⟩
  refine cD (fun hlt => ?_) (fun hge => ?_)
  · have hlt : k < n := by omega
    obtain ⟨b, o, cs, a, rfl, ha, -, -, hc, rfl, -⟩ := (hl.ext own.ext).at_ hlt
    have htk : l.take (k + 1) = l.take k ++ [a] := by rw [List.take_add_one, ha]; rfl
    refine idx k rfl hlt ?_
    refine ld (iv a) (hc 0 _ rfl) ?_
    refine bld [iv a, iv a] (by kernel_rfl) ?_
    refine lit [.agg #[iv a, iv a]] (fun g u1 hq => ?_)
    refine appF (own.then hq.ext) (hq.src (sz := 2) rfl) (by omega) (fun A' c' u2 o2 _ _ => ?_)
    refine arI (by omega) ?_
    refine next (k + 1, A', c') ⟨by rw [Int.natCast_add]; rfl, rfl, trivial⟩ ⟨by omega, ?_⟩ (by simp only; omega)
    rw [htk, List.map_append, List.flatMap_append]
    exact o2
  · have hkn : k = n := by omega
    subst hkn
    rw [List.take_of_length_le (by omega)] at own
    refine ret1 (.slice B k cb) rfl ⟨own.ext, B, k, cb, rfl, own.le, ?_⟩
    refine own.own.rd (a := tRg) flat_fl (by rw [List.length_map]; omega) (by omega) ?_
    rintro g' rfl
    rcases own.form with ⟨h, -⟩ | ⟨g'', hg', hg1, -⟩
    · cases h
    · injection hg' with hg'; injection hg' with hg'; omega
set_option maxRecDepth 4000 in
theorem c_district {w : World} : CallZ Tryz.prog 23 #[] w (fun v w' => Ext w w' ∧ ∃ csd, v = .agg csd.toArray ∧ DiR (fun b => w.heap.size ≤ b) w' csd sD48) := by
  refine fn_rule (args := []) Tryz.func23 (by kernel_rfl) ?_
  refine alloc (fun q1 w1 h1 => ?_)
  refine bld [iv 0, iv 1] (by kernel_rfl) ?_
  refine bld [iv 0, iv 1] (by kernel_rfl) ?_
  refine bld [iv 0, iv 1, iv 0, iv 1] (by kernel_rfl) ?_
  refine alloc (fun q2 w2 h2 => ?_)
  refine stA (vs := [iv 0, iv 1, iv 0, iv 1]) h2.blk rfl (Nat.le_of_ble_eq_true rfl) (by simp [Value.oneCell']) (fun w3 b3 k3 s3 => ?_)
  have y1 := h1.at_
  have y2 := h2.at_
  have z1 := h1.size
  have z2 := h2.size
  have m3 : Blk w3 q2 _ [iv 0, iv 1, iv 0, iv 1] := b3
  refine bld [iv 1, iv 2] (by kernel_rfl) ?_
  refine ldA [iv 0, iv 1, iv 0, iv 1] (CellsAt.blk m3) rfl ?_
  refine bld [.string ByteArray.empty, iv (-1), iv 1, iv 0, iv 0, iv 0, iv 1, iv 2, iv 0, iv 1, iv 0, iv 1] (by kernel_rfl) ?_
  refine ldA [iv 0, iv 1, iv 0, iv 1] (CellsAt.blk m3) rfl ?_
  refine bld [.string ByteArray.empty, iv 0, iv 2, iv 0, iv 0, iv 0, iv 0, iv 0, iv 0, iv 1, iv 0, iv 1] (by kernel_rfl) ?_
  refine lit [.agg #[.string ByteArray.empty, iv (-1), iv 1, iv 0, iv 0, iv 0, iv 1, iv 2, iv 0, iv 1, iv 0, iv 1], .agg #[.string ByteArray.empty, iv 0, iv 2, iv 0, iv 0, iv 0, iv 0, iv 0, iv 0, iv 1, iv 0, iv 1]] (fun q4 w4 h4 => ?_)
  refine bld [.string ByteArray.empty, iv 0, iv 0, iv (-1)] (by kernel_rfl) ?_
  refine bld [.string ByteArray.empty, iv 1, iv 0, iv (-1)] (by kernel_rfl) ?_
  refine lit [.agg #[.string ByteArray.empty, iv 0, iv 0, iv (-1)], .agg #[.string ByteArray.empty, iv 1, iv 0, iv (-1)]] (fun q5 w5 h5 => ?_)
  refine bld [.string ByteArray.empty, iv 9, iv 0, iv 0, .slice (some (ad q4 0)) 2 2, .slice (some (ad q5 0)) 2 2, .slice none 0 0, .slice none 0 0, .slice none 0 0, .slice none 0 0] (by kernel_rfl) ?_
  have y4 := h4.at_
  have z4 := h4.size
  have y5 := h5.at_
  have z5 := h5.size
  have e15 : Kept (fun b => b ≠ q2) w1 w5 := (((Ext.any h2.ext).then k3 fun b _ h => h).then h4.ext fun _ _ _ => trivial).then h5.ext fun _ _ _ => trivial
  refine stA (vs := [.string ByteArray.empty, iv 9, iv 0, iv 0, .slice (some (ad q4 0)) 2 2, .slice (some (ad q5 0)) 2 2, .slice none 0 0, .slice none 0 0, .slice none 0 0, .slice none 0 0]) (h1.blk.kept e15 (by omega)) rfl (Nat.le_of_ble_eq_true rfl) (by simp [Value.oneCell']) (fun w6 b6 k6 s6 => ?_)
  have m1 : Blk w6 q1 _ [.string ByteArray.empty, iv 9, iv 0, iv 0, .slice (some (ad q4 0)) 2 2, .slice (some (ad q5 0)) 2 2, .slice none 0 0, .slice none 0 0, .slice none 0 0, .slice none 0 0] := b6
  refine ret ?_
  refine resL _ (holds_agg (CellsAt.blk m1) rfl) ?_
  refine ⟨(h1.ext.then e15 fun b hb _ => by omega).then k6 fun b hb _ => by omega, _, rfl, DiR.of_ ⟨_, _, _, _, _, _, _, _, _, _, _, _, _, _, _, _, _, _, rfl, ?_, ?_, SlR.nil, SlR.nil, SlR.nil, SlR.nil⟩⟩
  · exact SlR.of_cells rfl (by decide) (by omega) (.blk ((h4.blk.ext h5.ext).kept k6 (by omega))) ⟨_, _, rfl, rfl, _, _, rfl, rfl, rfl⟩
  · exact SlR.of_cells rfl (by decide) (by omega) (.blk (h5.blk.kept k6 (by omega))) ⟨_, _, rfl, rfl, _, _, rfl, rfl, rfl⟩
end Go.Proofs.YtffdjecdcbbfaaaGreat

/- Layer 48: the laws' sane answers true. -/
namespace Go.Proofs.YtffdjecdcbbfaaaGreat
open Go Go.RowKit

structure SaR (u : World) (csd : List Value) (b1 b3 wq sq : Nat) (H O T : Option Addr) (hn hc om oc tn tc : Nat) (x y : Int) : Prop where
  hd : DiR (fun b => b ≠ wq) u csd sD48
  bd : Blk u b1 31 csd
  bx : Blk u b3 35 [.slice (some (ad wq 0)) 1 1, .slice (some (ad sq 0)) 3 3]
  wv : Blk u wq 59 [iv 3, .slice H hn hc, .slice O om oc, .slice T tn tc]
  h1 : SlR tRg (fun b => b ≠ wq) u H hn [⟨20, 20⟩, ⟨8, 8⟩]
  h2 : SlR tRg (fun b => b ≠ wq) u O om [⟨5, 5⟩, ⟨6, 6⟩]
  h3 : SlR tRg (fun b => b ≠ wq) u T tn [⟨x, x⟩, ⟨y, y⟩]
  su : Blk u sq 70 [iv 2, iv 1, iv 9, iv 4, iv 0, iv 3, iv 4, iv 1, iv 4]
  n1 : b1 ≠ wq
  n3 : b3 ≠ wq
  ns : sq ≠ wq
  c1 : hn ≤ hc
  c2 : om ≤ oc
  c3 : tn ≤ tc
theorem smallJ {l : List Int} (h : (l.all fun x => decide (0 ≤ x) && decide (x ≤ 100)) = true) : ∀ x ∈ l, I64 x := fun x hx => by have := List.all_eq_true.1 h x hx; simp only [Bool.and_eq_true, decide_eq_true_eq] at this; unfold I64; constructor <;> omega
theorem SaR.ext {u u' : World} {csd : List Value} {b1 b3 wq sq : Nat} {H O T : Option Addr} {hn hc om oc tn tc : Nat} {x y : Int} (s : SaR u csd b1 b3 wq sq H O T hn hc om oc tn tc x y) (k : Ext u u') : SaR u' csd b1 b3 wq sq H O T hn hc om oc tn tc x y :=
  ⟨s.hd.ext k, s.bd.ext k, s.bx.ext k, s.wv.ext k, s.h1.ext k, s.h2.ext k, s.h3.ext k, s.su.ext k, s.n1, s.n3, s.ns, s.c1, s.c2, s.c3⟩
/-- The tails' list is put in its place. -/
theorem SaR.put {u u' : World} {csd : List Value} {b1 b3 wq sq : Nat} {H O T T' : Option Addr} {hn hc om oc tn tc tn' tc' : Nat} {x y x' y' : Int} (s : SaR u csd b1 b3 wq sq H O T hn hc om oc tn tc x y) (k : Kept (fun b => b ≠ wq) u u') (hw : Blk u' wq 59 [iv 3, .slice H hn hc, .slice O om oc, .slice T' tn' tc'])
    (ht : SlR tRg (fun b => b ≠ wq) u T' tn' [⟨x', x'⟩, ⟨y', y'⟩]) (hc3 : tn' ≤ tc') : SaR u' csd b1 b3 wq sq H O T' hn hc om oc tn' tc' x' y' :=
  ⟨s.hd.kept k fun _ _ h => h, s.bd.kept k s.n1, s.bx.kept k s.n3, hw, s.h1.kept k fun _ _ h => h, s.h2.kept k fun _ _ h => h, ht.kept k fun _ _ h => h, s.su.kept k s.ns, s.n1, s.n3, s.ns, s.c1, s.c2, hc3⟩
theorem SaR.ev {u : World} {csd : List Value} {b1 b3 wq sq : Nat} {H O T : Option Addr} {hn hc om oc tn tc : Nat} {x y : Int} (s : SaR u csd b1 b3 wq sq H O T hn hc om oc tn tc x y) : EvR (fun _ => True) u [.slice (some (ad wq 0)) 1 1, .slice (some (ad sq 0)) 3 3] (sX48 x y) := by
  refine EvR.of_ ⟨_, _, _, _, _, _, rfl, ?_, ?_, Nat.le_refl _, Nat.le_refl _⟩
  · exact SlR.of_cells rfl (by decide) trivial (.blk s.wv) ⟨[iv 3, .slice H hn hc, .slice O om oc, .slice T tn tc], [], rfl, ⟨[iv 3], _, rfl, ⟨rfl, show I64 3 from ⟨by decide, by decide⟩⟩, _, _, rfl, ⟨_, _, _, rfl, s.h1.more (by decide) fun _ _ _ => trivial, s.c1⟩, _, _, rfl, ⟨_, _, _, rfl, s.h2.more (by decide) fun _ _ _ => trivial, s.c2⟩, _, _, _, rfl, s.h3.more (by decide) fun _ _ _ => trivial, s.c3⟩, rfl⟩
  · exact SlR.of_cells rfl (by decide) trivial (.blk s.su) ⟨_, _, rfl, rfl, _, _, rfl, rfl, _, _, rfl, rfl, rfl⟩
theorem nD_R {w : World} : DiR (fun _ => True) w [.string ByteArray.empty, iv 0, iv 0, iv 0, .slice none 0 0, .slice none 0 0, .slice none 0 0, .slice none 0 0, .slice none 0 0, .slice none 0 0] nD48 := DiR.of_ ⟨_, _, _, _, _, _, _, _, _, _, _, _, _, _, _, _, _, _, rfl, .nil, .nil, .nil, .nil, .nil, .nil⟩
theorem nX_R {w : World} : EvR (fun _ => True) w [.slice none 0 0, .slice none 0 0] nX48 := EvR.of_ ⟨_, _, _, _, _, _, rfl, .nil, .nil, Nat.le_refl _, Nat.le_refl _⟩
theorem OwnF.bools {w0 w : World} {D : Nat → Prop} {A : Option Addr} {n c : Nat} {xs : List Bool} (h : OwnF w0 w A n c 4 1 (xs.map fun b => Value.bool b)) (hle : xs.length ≤ 140737488355328) (hD : ∀ b, w0.heap.size ≤ b → D b) : SlR tBool D w A n xs := by
  have hf : ∀ {ys : List Bool}, FlatR tBool D w ys (ys.map fun b => Value.bool b) := fun {ys} => by
    induction ys with
    | nil => rfl
    | cons y ys ih => exact ⟨[.bool y], _, rfl, rfl, ih⟩
  have hl := h.own.len
  rw [List.length_map, Nat.mul_one] at hl
  refine h.own.rd (a := tBool) hf hl.symm (by omega) ?_
  rintro g rfl
  rcases h.form with ⟨h, -⟩ | ⟨g'', hg', hg1, -⟩
  · cases h
  · injection hg' with hg'; injection hg' with hg'; exact hD _ (by omega)
theorem blk_bools {w : World} {b : Nat} {xs : List Bool} (h : Blk w b 4 (xs.map fun b => Value.bool b)) (hle : xs.length ≤ 140737488355328) : SlR tBool (fun _ => True) w (some (ad b 0)) xs.length xs := by
  have hf : ∀ {ys : List Bool}, FlatR tBool (fun _ => True) w ys (ys.map fun b => Value.bool b) := fun {ys} => by
    induction ys with
    | nil => rfl
    | cons y ys ih => exact ⟨[.bool y], _, rfl, rfl, ih⟩
  exact SlR.of_cells rfl hle trivial (.blk h) hf
section
variable {w : World}
set_option maxRecDepth 8000 in
theorem c_esane : CallZ Tryz.prog 6 #[] w (fun v w' => v = .bool true ∧ Ext w w') := by
  refine fn_rule (args := []) Tryz.func6 (by kernel_rfl) ?_
  refine call_of c_district ?_
  rintro _ w1 ⟨x1, csd, rfl, hd⟩
  obtain ⟨A1, n1, c1, A2, n2, c2, A3, n3, c3, A4, n4, c4, A5, n5, c5, A6, n6, c6, hcsd, -⟩ := hd.ex
  refine alloc (fun b1 w2 h2 => ?_)
  have a2 := h2.at_
  have hcl : csd.length = 10 := by rw [hcsd]; rfl
  refine stA (vs := csd) h2.blk hcl (by rw [hcl]; exact Nat.le_of_ble_eq_true rfl) (by rw [hcsd]; simp [Value.oneCell']) (fun w3 d3 k3 s3 => ?_)
  have x13 : Ext w1 w3 := h2.ext.then k3 fun b hb _ => by omega
  have d3 : Blk w3 b1 31 csd := by rw [hcsd] at d3 ⊢; exact d3
  have x03 := x1.trans x13
  refine lit [iv 20, iv 8] (fun g4 w4 h4 => ?_)
  refine call_of (c_exact (D := fun _ => True) (l := [20, 8]) (SlR.of_cells rfl (by decide) trivial (.blk h4.blk) (flat_ints (smallJ (by decide)))) (by decide)) ?_
  rintro _ w5 ⟨x5, H, hn, hc, rfl, leH, sH⟩
  have z4 := h4.size
  have z5 := x5.size
  refine lit [iv 5, iv 6] (fun g6 w6 h6 => ?_)
  refine call_of (c_exact (D := fun _ => True) (l := [5, 6]) (SlR.of_cells rfl (by decide) trivial (.blk h6.blk) (flat_ints (smallJ (by decide)))) (by decide)) ?_
  rintro _ w7 ⟨x7, O, om, oc, rfl, leO, sO⟩
  have z6 := h6.size
  have z7 := x7.size
  refine lit [iv 5, iv 2] (fun g8 w8 h8 => ?_)
  refine call_of (c_exact (D := fun _ => True) (l := [5, 2]) (SlR.of_cells rfl (by decide) trivial (.blk h8.blk) (flat_ints (smallJ (by decide)))) (by decide)) ?_
  rintro _ w9 ⟨x9, T, tn, tc, rfl, leT, sT⟩
  have z8 := h8.size
  have z9 := x9.size
  have z3 := s3
  have z2 := h2.size
  refine bld [iv 3, .slice H hn hc, .slice O om oc, .slice T tn tc] (by kernel_rfl) ?_
  refine alloc (fun q10 w10 h10 => ?_)
  have a10 := h10.at_
  refine stA (vs := [iv 3, .slice H hn hc, .slice O om oc, .slice T tn tc]) h10.blk rfl (Nat.le_of_ble_eq_true rfl) (by simp [Value.oneCell']) (fun w11 b11 k11 s11 => ?_)
  have b11 : Blk w11 q10 59 [iv 3, .slice H hn hc, .slice O om oc, .slice T tn tc] := b11
  have z10 := h10.size
  have x911 : Ext w9 w11 := h10.ext.then k11 fun b hb _ => by omega
  refine ldA [iv 3, .slice H hn hc, .slice O om oc, .slice T tn tc] (.blk b11) rfl ?_
  refine lit [.agg #[iv 3, .slice H hn hc, .slice O om oc, .slice T tn tc]] (fun wq w12 h12 => ?_)
  have a12 := h12.at_
  have z12 := h12.size
  refine bld [iv 2, iv 1, iv 9] (by kernel_rfl) ?_
  refine bld [iv 4, iv 0, iv 3] (by kernel_rfl) ?_
  refine bld [iv 4, iv 1, iv 4] (by kernel_rfl) ?_
  refine lit [.agg #[iv 2, iv 1, iv 9], .agg #[iv 4, iv 0, iv 3], .agg #[iv 4, iv 1, iv 4]] (fun sq w13 h13 => ?_)
  have a13 := h13.at_
  have z13 := h13.size
  refine bld [.slice (some (ad wq 0)) 1 1, .slice (some (ad sq 0)) 3 3] (by kernel_rfl) ?_
  refine alloc (fun b3 w14 h14 => ?_)
  have a14 := h14.at_
  have z14 := h14.size
  refine stA (vs := [.slice (some (ad wq 0)) 1 1, .slice (some (ad sq 0)) 3 3]) h14.blk rfl (Nat.le_of_ble_eq_true rfl) (by simp [Value.oneCell']) (fun w15 b15 k15 s15 => ?_)
  have b15 : Blk w15 b3 35 [.slice (some (ad wq 0)) 1 1, .slice (some (ad sq 0)) 3 3] := b15
  have x1415 : Kept (fun b => b < w14.heap.size ∧ b ≠ b3) w14 w15 := k15.weak fun b _ h => h.2
  have x1315 : Ext w13 w15 := h14.ext.then k15 fun b hb _ => by omega
  have x915 : Ext w9 w15 := ((x911.trans h12.ext).trans h13.ext).trans x1315
  have x515 : Ext w5 w15 := (((h6.ext.trans x7).trans h8.ext).trans x9).trans x915
  have x715 : Ext w7 w15 := (h8.ext.trans x9).trans x915
  have x315 : Ext w3 w15 := (h4.ext.trans x5).trans x515
  have x115 := x13.trans x315
  have x015 := x03.trans x315
  have le1 := x1.size
  have ld3 := d3.lt
  have s : SaR w15 csd b1 b3 wq sq H O T hn hc om oc tn tc 5 2 := by
    exact ⟨(hd.more fun b hb _ => by omega).ext x115, d3.ext x315, b15, (h12.blk.ext h13.ext).ext x1315, (sH.more (by decide) fun b hb _ => by omega).ext x515, (sO.more (by decide) fun b hb _ => by omega).ext x715, (sT.more (by decide) fun b hb _ => by omega).ext x915, h13.blk.ext x1315, by omega, by omega, by omega, leH, leO, leT⟩
  have X := x015
  have hwq : w.heap.size ≤ wq := by omega
  clear x015 x115 x315 x715 x515 x915 x1315 x1415 b15 sH sO sT hd d3 x13 x03

  subst hcsd
  refine ldA _ (.blk s.bd) rfl ?_
  refine ldA [.slice (some (ad wq 0)) 1 1, .slice (some (ad sq 0)) 3 3] (.blk s.bx) rfl ?_
  have cc := c_Explains (set := []) (c := 0) (s.hd.more (D' := fun _ => True) fun _ _ _ => trivial) s.ev (SlR.nil (a := tInt) (D := fun _ => True) (A := none))
  rw [se1, sf1] at cc
  refine call_of cc ?_
  clear cc
  rintro _ w16 ⟨rfl, y16⟩
  have s := s.ext y16
  have X := X.trans y16
  refine drawK (fun b => b ≠ wq) [0, 1, 2, 3, 4, 5, 6] [2, 3, 6] mx (by kernel_rfl) ?_
  have s0 := s
  refine fldA ?_
  refine ldK (.slice (some (ad wq 0)) 1 1) (s0.bx.cell rfl) s0.n3 (.refl _ _) ?_
  refine lit [iv 5, iv 1] (fun g17 w17 h17 => ?_)
  refine strK (Ext.any h17.ext) ?_
  have cc := c_exact (w := w17) (D := fun _ => True) (l := [5, 1]) (n := 2) (c := 2) (SlR.of_cells rfl (by decide) trivial (.blk h17.blk) (flat_ints (smallJ (by decide)))) (by decide)
  refine call_of cc ?_
  clear cc
  rintro _ v17 ⟨y17, T17, tn17, tc17, rfl, le17, sT17⟩
  refine strK (Ext.any y17) ?_
  have s1 := (s0.ext h17.ext).ext y17
  have lw := s0.wv.lt
  have z17 := h17.size
  refine idx 0 rfl (by decide) ?_
  refine fldA ?_
  refine st s1.wv (Nat.le_of_ble_eq_true rfl) rfl (fun u17 p17 k17 q17 => ?_)
  refine strK (k17.weak fun b _ h => h) ?_
  have s := s1.put k17 p17 (sT17.more (by decide) fun b hb h => by omega) le17
  have X := ((X.trans h17.ext).trans y17).then k17 fun b hb _ e => by omega
  clear s0 s1
  refine ldA _ (.blk s.bd) rfl ?_
  refine ldA [.slice (some (ad wq 0)) 1 1, .slice (some (ad sq 0)) 3 3] (.blk s.bx) rfl ?_
  have cc := c_Explains (set := []) (c := 0) (s.hd.more (D' := fun _ => True) fun _ _ _ => trivial) s.ev (SlR.nil (a := tInt) (D := fun _ => True) (A := none))
  rw [se2, sf2] at cc
  refine call_of cc ?_
  clear cc
  rintro _ w18 ⟨rfl, y18⟩
  have s := s.ext y18
  have X := X.trans y18
  refine ldA _ (.blk s.bd) rfl ?_
  refine ldA [.slice (some (ad wq 0)) 1 1, .slice (some (ad sq 0)) 3 3] (.blk s.bx) rfl ?_
  refine lit [iv 0] (fun g19 w19 h19 => ?_)
  have s := s.ext h19.ext
  have X := X.trans h19.ext
  have cc := c_Explains (set := [0]) (c := 1) (s.hd.more (D' := fun _ => True) fun _ _ _ => trivial) s.ev (SlR.of_cells (a := tInt) (D := fun _ => True) (xs := [0]) rfl (by decide) trivial (.blk h19.blk) (flat_ints (smallJ (by decide))))
  rw [se3, sf3] at cc
  refine call_of cc ?_
  clear cc
  rintro _ w20 ⟨rfl, y20⟩
  have s := s.ext y20
  have X := X.trans y20
  refine ldA _ (.blk s.bd) rfl ?_
  refine ldA [.slice (some (ad wq 0)) 1 1, .slice (some (ad sq 0)) 3 3] (.blk s.bx) rfl ?_
  refine lit [iv 2] (fun g21 w21 h21 => ?_)
  have s := s.ext h21.ext
  have X := X.trans h21.ext
  have cc := c_Explains (set := [2]) (c := 1) (s.hd.more (D' := fun _ => True) fun _ _ _ => trivial) s.ev (SlR.of_cells (a := tInt) (D := fun _ => True) (xs := [2]) rfl (by decide) trivial (.blk h21.blk) (flat_ints (smallJ (by decide))))
  rw [se4, sf4] at cc
  refine call_of cc ?_
  clear cc
  rintro _ w22 ⟨rfl, y22⟩
  have s := s.ext y22
  have X := X.trans y22
  refine ldA _ (.blk s.bd) rfl ?_
  refine ldA [.slice (some (ad wq 0)) 1 1, .slice (some (ad sq 0)) 3 3] (.blk s.bx) rfl ?_
  have cc := c_Table (s.hd.more (D' := fun _ => True) fun _ _ _ => trivial) s.ev
  rw [stb1, sg1] at cc
  refine call_of cc ?_
  clear cc
  rintro _ w23 ⟨B1, nb1, cb1, rfl, ob1⟩
  have y23 := ob1.ext
  have lw1 := s.wv.lt
  have s := s.ext y23
  have tb1 := ob1.bools (D := fun b => b ≠ wq) (by decide) fun b hb e => by omega
  have X := X.trans y23
  refine drawK (fun b => b ≠ wq) [0, 1, 2, 3, 4, 5, 6] [2, 3, 6] mx (by kernel_rfl) ?_
  have s0 := s
  refine fldA ?_
  refine ldK (.slice (some (ad wq 0)) 1 1) (s0.bx.cell rfl) s0.n3 (.refl _ _) ?_
  refine lit [iv 3, iv 1] (fun g24 w24 h24 => ?_)
  refine strK (Ext.any h24.ext) ?_
  have cc := c_exact (w := w24) (D := fun _ => True) (l := [3, 1]) (n := 2) (c := 2) (SlR.of_cells rfl (by decide) trivial (.blk h24.blk) (flat_ints (smallJ (by decide)))) (by decide)
  refine call_of cc ?_
  clear cc
  rintro _ v24 ⟨y24, T24, tn24, tc24, rfl, le24, sT24⟩
  refine strK (Ext.any y24) ?_
  have s1 := (s0.ext h24.ext).ext y24
  have lw := s0.wv.lt
  have z24 := h24.size
  refine idx 0 rfl (by decide) ?_
  refine fldA ?_
  refine st s1.wv (Nat.le_of_ble_eq_true rfl) rfl (fun u24 p24 k24 q24 => ?_)
  refine strK (k24.weak fun b _ h => h) ?_
  have s := s1.put k24 p24 (sT24.more (by decide) fun b hb h => by omega) le24
  have X := ((X.trans h24.ext).trans y24).then k24 fun b hb _ e => by omega
  clear s0 s1
  have tb1 := tb1.ext h24.ext
  have tb1 := tb1.ext y24
  have tb1 := tb1.kept k24 fun _ _ h => h
  refine ldA _ (.blk s.bd) rfl ?_
  refine ldA [.slice (some (ad wq 0)) 1 1, .slice (some (ad sq 0)) 3 3] (.blk s.bx) rfl ?_
  have cc := c_Table (s.hd.more (D' := fun _ => True) fun _ _ _ => trivial) s.ev
  rw [stb2, sg2] at cc
  refine call_of cc ?_
  clear cc
  rintro _ w25 ⟨B2, nb2, cb2, rfl, ob2⟩
  have y25 := ob2.ext
  have lw2 := s.wv.lt
  have s := s.ext y25
  have tb2 := ob2.bools (D := fun b => b ≠ wq) (by decide) fun b hb e => by omega
  have X := X.trans y25
  have tb1 := tb1.ext y25
  refine ldA _ (.blk s.bd) rfl ?_
  refine ldA [.slice (some (ad wq 0)) 1 1, .slice (some (ad sq 0)) 3 3] (.blk s.bx) rfl ?_
  refine lit [iv 1, iv 2] (fun g26 w26 h26 => ?_)
  have s := s.ext h26.ext
  have X := X.trans h26.ext
  have tb1 := tb1.ext h26.ext
  have tb2 := tb2.ext h26.ext
  have cc := c_Find (set := [1, 2]) (c := 2) (s.hd.more (D' := fun _ => True) fun _ _ _ => trivial) s.ev (SlR.of_cells (a := tInt) (D := fun _ => True) (xs := [1, 2]) rfl (by decide) trivial (.blk h26.blk) (flat_ints (smallJ (by decide))))
  rw [se5, sf5] at cc
  refine call_of cc ?_
  clear cc
  rintro _ w27 ⟨y27, FA, fn, fc, rfl, fle, fR, -⟩
  have s := s.ext y27
  have X := X.trans y27
  have tb1 := tb1.ext y27
  have tb2 := tb2.ext y27
  have fR := (fR rfl).more (D' := fun _ => True) (by decide) fun _ _ _ => trivial
  refine ldA _ (.blk s.bd) rfl ?_
  refine ldA [.slice (some (ad wq 0)) 1 1, .slice (some (ad sq 0)) 3 3] (.blk s.bx) rfl ?_
  refine lit [iv 1, iv 2] (fun g28 w28 h28 => ?_)
  have s := s.ext h28.ext
  have X := X.trans h28.ext
  have tb1 := tb1.ext h28.ext
  have tb2 := tb2.ext h28.ext
  have fR := fR.ext h28.ext

  have cc := c_Accepts (set := [1, 2]) (c := 2) (c' := fc) (s.hd.more (D' := fun _ => True) fun _ _ _ => trivial) s.ev (SlR.of_cells (a := tInt) (D := fun _ => True) (xs := [1, 2]) rfl (by decide) trivial (.blk h28.blk) (flat_ints (smallJ (by decide)))) fR
  rw [sa1, sf5] at cc
  refine call_of cc ?_
  clear cc
  rintro _ w29 ⟨rfl, y29⟩
  have s := s.ext y29
  have X := X.trans y29
  have tb1 := tb1.ext y29
  have tb2 := tb2.ext y29
  have fR := fR.ext y29
  refine ldA _ (.blk s.bd) rfl ?_
  refine ldA [.slice (some (ad wq 0)) 1 1, .slice (some (ad sq 0)) 3 3] (.blk s.bx) rfl ?_
  refine lit [iv 2] (fun g30 w30 h30 => ?_)
  have s := s.ext h30.ext
  have X := X.trans h30.ext
  have tb1 := tb1.ext h30.ext
  have tb2 := tb2.ext h30.ext
  have fR := fR.ext h30.ext
  have cc := c_Accepts (set := [2]) (c := 1) (c' := fc) (s.hd.more (D' := fun _ => True) fun _ _ _ => trivial) s.ev (SlR.of_cells (a := tInt) (D := fun _ => True) (xs := [2]) rfl (by decide) trivial (.blk h30.blk) (flat_ints (smallJ (by decide)))) fR
  rw [sa2, sf6] at cc
  refine call_of cc ?_
  clear cc
  rintro _ w31 ⟨rfl, y31⟩
  have s := s.ext y31
  have X := X.trans y31
  have tb1 := tb1.ext y31
  have tb2 := tb2.ext y31
  have fR := fR.ext y31
  refine ldA _ (.blk s.bd) rfl ?_
  refine bld [.slice none 0 0, .slice none 0 0] (by kernel_rfl) ?_
  refine lit [iv 0] (fun g32 w32 h32 => ?_)
  have s := s.ext h32.ext
  have X := X.trans h32.ext
  have tb1 := tb1.ext h32.ext
  have tb2 := tb2.ext h32.ext
  have fR := fR.ext h32.ext
  have cc := c_Explains (set := [0]) (c := 1) (s.hd.more (D' := fun _ => True) fun _ _ _ => trivial) nX_R (SlR.of_cells (a := tInt) (D := fun _ => True) (xs := [0]) rfl (by decide) trivial (.blk h32.blk) (flat_ints (smallJ (by decide))))
  rw [sf7] at cc
  refine call_of cc ?_
  clear cc
  rintro _ w33 ⟨rfl, y33⟩
  have s := s.ext y33
  have X := X.trans y33
  have tb1 := tb1.ext y33
  have tb2 := tb2.ext y33
  have fR := fR.ext y33
  refine ldA _ (.blk s.bd) rfl ?_
  refine bld [.slice none 0 0, .slice none 0 0] (by kernel_rfl) ?_
  have cc := c_Explains (set := []) (c := 0) (s.hd.more (D' := fun _ => True) fun _ _ _ => trivial) nX_R (SlR.nil (a := tInt) (D := fun _ => True) (A := none))
  rw [se8, sf8] at cc
  refine call_of cc ?_
  clear cc
  rintro _ w34 ⟨rfl, y34⟩
  have s := s.ext y34
  have X := X.trans y34
  have tb1 := tb1.ext y34
  have tb2 := tb2.ext y34
  have fR := fR.ext y34
  refine cN (fun h => absurd rfl h) (fun _ => ?_)
  refine cN (fun h => absurd rfl h) (fun _ => ?_)
  refine cN (fun h => absurd rfl h) (fun _ => ?_)
  refine cN (fun h => absurd rfl h) (fun _ => ?_)
  refine cN (fun h => absurd rfl h) (fun _ => ?_)
  refine cN (fun h => absurd rfl h) (fun _ => ?_)
  refine cN (fun h => absurd rfl h) (fun _ => ?_)
  refine cN (fun h => absurd rfl h) (fun _ => ?_)
  refine cN (fun h => absurd rfl h) (fun _ => ?_)
  refine cN (fun h => absurd rfl h) (fun _ => ?_)
  refine cN (fun h => absurd rfl h) (fun _ => ?_)
  refine bld [.string ByteArray.empty, iv 0, iv 0, iv 0, .slice none 0 0, .slice none 0 0, .slice none 0 0, .slice none 0 0, .slice none 0 0, .slice none 0 0] (by kernel_rfl) ?_
  refine ldA [.slice (some (ad wq 0)) 1 1, .slice (some (ad sq 0)) 3 3] (.blk s.bx) rfl ?_
  have cc := c_eCheck48 nD_R s.ev
  rw [sg9] at cc
  refine call_of cc ?_
  clear cc
  rintro _ w35 ⟨rfl, y35⟩
  have s := s.ext y35
  have X := X.trans y35
  have tb1 := tb1.ext y35
  have tb2 := tb2.ext y35
  have fR := fR.ext y35
  refine cN (fun h => absurd rfl h) (fun _ => ?_)
  refine ldA _ (.blk s.bd) rfl ?_
  refine ldA [.slice (some (ad wq 0)) 1 1, .slice (some (ad sq 0)) 3 3] (.blk s.bx) rfl ?_
  have cc := c_eCheck48 (s.hd.more (D' := fun _ => True) fun _ _ _ => trivial) s.ev
  rw [sg2] at cc
  refine call_of cc ?_
  clear cc
  rintro _ w36 ⟨rfl, y36⟩
  have s := s.ext y36
  have X := X.trans y36
  have tb1 := tb1.ext y36
  have tb2 := tb2.ext y36
  have fR := fR.ext y36
  refine cN (fun h => absurd rfl h) (fun _ => ?_)
  refine lit [.bool false, .bool true, .bool false, .bool true, .bool true, .bool true, .bool true, .bool true] (fun g37 w37 h37 => ?_)
  have s := s.ext h37.ext
  have X := X.trans h37.ext
  have tb1 := tb1.ext h37.ext
  have tb2 := tb2.ext h37.ext
  have fR := fR.ext h37.ext
  have bb37 : SlR tBool (fun _ => True) w37 (some (ad g37 0)) 8 [false, true, false, true, true, true, true, true] := blk_bools (xs := [false, true, false, true, true, true, true, true]) h37.blk (by decide)
  refine callB (c_sameTable (c := cb1) (c' := 8) (tb1.more (D' := fun _ => True) (by decide) fun _ _ _ => trivial) bb37) (fun e => ?_) (fun e => by cases e)
  refine lit [.bool false, .bool false, .bool false, .bool true, .bool false, .bool false, .bool true, .bool true] (fun g38 w38 h38 => ?_)
  have s := s.ext h38.ext
  have X := X.trans h38.ext
  have tb1 := tb1.ext h38.ext
  have tb2 := tb2.ext h38.ext
  have fR := fR.ext h38.ext
  have bb38 : SlR tBool (fun _ => True) w38 (some (ad g38 0)) 8 [false, false, false, true, false, false, true, true] := blk_bools (xs := [false, false, false, true, false, false, true, true]) h38.blk (by decide)
  refine callB (c_sameTable (c := cb2) (c' := 8) (tb2.more (D' := fun _ => True) (by decide) fun _ _ _ => trivial) bb38) (fun e => ?_) (fun e => by cases e)
  exact ret1 (.bool true) rfl ⟨rfl, X⟩
end
end Go.Proofs.YtffdjecdcbbfaaaGreat

/- Layer 48, plainly: what is accepted is explained, what is found is accepted; sets as numbers. -/
namespace Go.Proofs.YtffdjecdcbbfaaaGreat
open Go Go.RowKit

def tT (t : Tru) : Dst → Int
  | .tail r => t.tails.getD r 0
  | .head k => t.heads.getD k 0
  | .outlet k => t.outlets.getD k 0
  | .taken i => t.taken.getD i 0
section
variable {d : Dist} {x : Ev} {bl : Int × Int → Option Int} {v : Wv} {t : Tru} {T : Dst → Int} {A : Nat → Int} {set : List Int}
theorem sumT_split (r : Nat) {f : Nat → Rg} : sumT T (partsL d x bl v f r) = T (.tail r) + (sumF (qH d r) (fun k => T (.head k)) d.reaches.length + (sumF (qO d r) (fun k => T (.outlet k)) d.farms.length + sumF (qP x r) (fun i => T (.taken i)) x.suspects.length)) := by
  unfold sumT partsL tailP headP outP pumpP sumF qH qO qP
  simp only [List.map_append, List.sum_append, List.map_map, List.map_cons, List.map_nil, List.sum_cons, List.sum_nil]
  rw [Int.add_zero]
  rfl
theorem fitsL_T (hw : WavOk d x bl v) (l1 : v.heads.length = d.reaches.length) (l2 : v.outlets.length = d.farms.length) (l3 : v.tails.length = d.reaches.length) (h : FitsL d x bl v t) : FitsT d x bl v (tT t) (fun r => t.arrived.getD r 0) := by
  obtain ⟨e1, i1⟩ := inB_iff.1 h.i1
  obtain ⟨e2, i2⟩ := inB_iff.1 h.i2
  obtain ⟨e3, i3⟩ := inB_iff.1 h.i3
  refine ⟨fun r hr => i1 r (by omega), fun k hk => i2 k (by omega), fun r hr => i3 r (by omega), fun i hi => h.tk i hi, fun r hr => ?_⟩
  obtain ⟨a1, a2, a3⟩ := h.ar r hr
  have hh := i1 r (by omega)
  have hm := rgOk_iff.1 (meter_ok hw.bl (kd := 1) (ix := r) (hw.heads r hr))
  have e : lErr (rcE d r) (t.heads.getD r 0) = 0 := lErr_ok.2 ⟨hw.loss r hr, by omega, by omega⟩
  have ew : worstV (rcE d r) (t.heads.getD r 0) = arrW (rcE d r) (t.heads.getD r 0) := by unfold worstV; rw [if_pos e]; rfl
  have eb : bestV (rcE d r) (t.heads.getD r 0) = arrB (rcE d r) (t.heads.getD r 0) := by unfold bestV; rw [if_pos e]; rfl
  rw [ew] at a2
  rw [eb] at a3
  show t.arrived.getD r 0 = _ ∧ arrW (rcE d r) (t.heads.getD r 0) ≤ t.arrived.getD r 0 ∧ t.arrived.getD r 0 ≤ arrB (rcE d r) (t.heads.getD r 0)
  refine ⟨?_, by omega, by omega⟩
  rw [sumT_split, a1]
  unfold out3 out2 out1 tT
  show _ = t.tails.getD r 0 + (sumF (qH d r) (fun k => t.heads.getD k 0) d.reaches.length + (sumF (qO d r) (fun k => t.outlets.getD k 0) d.farms.length + sumF (qP x r) (fun i => t.taken.getD i 0) x.suspects.length))
  omega
theorem getD_map {R : Nat} {f : Nat → Int} {k : Nat} (h : k < R) : ((List.range R).map f).getD k 0 = f k := by
  rw [List.getD_eq_getElem?_getD, List.getElem?_map, List.getElem?_range h]; rfl
theorem sumF_congr {q : Nat → Bool} {f g : Nat → Int} {k : Nat} (h : ∀ i, i < k → f i = g i) : sumF q f k = sumF q g k := by
  unfold sumF
  congr 1
  exact List.map_congr_left fun i hi => h i (List.mem_range.1 (List.mem_filter.1 hi).1)
theorem fitsT_L (hw : WavOk d x bl v) (l1 : v.heads.length = d.reaches.length) (l2 : v.outlets.length = d.farms.length) (l3 : v.tails.length = d.reaches.length) (h : FitsT d x bl v T A) : FitsL d x bl v (mkT d.reaches.length d.farms.length x.suspects.length T A) := by
  refine ⟨inB_iff.2 ⟨by simp [mkT, l1], fun i hi => ?_⟩, inB_iff.2 ⟨by simp [mkT, l2], fun i hi => ?_⟩, inB_iff.2 ⟨by simp [mkT, l3], fun i hi => ?_⟩, by simp [mkT], by simp [mkT], fun i hi => ?_, fun r hr => ?_⟩
  · have hi : i < d.reaches.length := by simpa [mkT] using hi
    unfold mkT; simp only; rw [getD_map hi]; exact h.heads i hi
  · have hi : i < d.farms.length := by simpa [mkT] using hi
    unfold mkT; simp only; rw [getD_map hi]; exact h.outlets i hi
  · have hi : i < d.reaches.length := by simpa [mkT] using hi
    unfold mkT; simp only; rw [getD_map hi]; exact h.tails i hi
  · unfold mkT; simp only; rw [getD_map hi]; exact h.taken i hi
  · have hh := h.heads r hr
    have hm := rgOk_iff.1 (meter_ok hw.bl (kd := 1) (ix := r) (hw.heads r hr))
    have e : lErr (rcE d r) (T (.head r)) = 0 := lErr_ok.2 ⟨hw.loss r hr, by omega, by omega⟩
    have ew : worstV (rcE d r) (T (.head r)) = arrW (rcE d r) (T (.head r)) := by unfold worstV; rw [if_pos e]; rfl
    have eb : bestV (rcE d r) (T (.head r)) = arrB (rcE d r) (T (.head r)) := by unfold bestV; rw [if_pos e]; rfl
    obtain ⟨a1, a2, a3⟩ := h.arr r hr
    rw [sumT_split] at a1
    have eo : out3 d x (mkT d.reaches.length d.farms.length x.suspects.length T A) d.farms.length r = A r := by
      unfold out3 out2 out1 mkT
      simp only
      rw [getD_map hr, sumF_congr (q := qP x r) (g := fun i => T (.taken i)) fun i hi => getD_map hi, sumF_congr (q := qH d r) (g := fun i => T (.head i)) fun i hi => getD_map hi, sumF_congr (q := qO d r) (g := fun i => T (.outlet i)) fun i hi => getD_map hi]
      omega
    rw [eo]
    unfold mkT; simp only; rw [getD_map hr, getD_map hr, ew, eb]
    exact ⟨rfl, a2, a3⟩
/-- What is accepted is explained. -/
theorem acc_expl {l : List Tru} (h : accV d x set l = true) : explV d x set = true := by
  unfold accV at h
  by_cases e : askErr d x set = 0
  · rw [if_pos e] at h
    unfold explV; rw [if_pos e]
    unfold allB at h
    rw [Bool.and_eq_true, decide_eq_true_eq] at h
    unfold explB
    rw [List.all_eq_true]
    intro v hv
    obtain ⟨k, hk, rfl⟩ := List.getElem_of_mem hv
    have hz := List.all_eq_true.1 h.2 (x.waves[k], l[k]'(by omega)) (List.mem_iff_getElem.2 ⟨k, by rw [List.length_zip]; omega, by rw [List.getElem_zip]⟩)
    obtain ⟨hw, l1, l2, l3⟩ := wavOk_of e hv
    exact fits_follow hw (fitsL_T hw l1 l2 l3 (fitsB_iff.1 hz)) _ _ (Nat.le_refl _) fun k h1 h2 => by omega
  · rw [if_neg e] at h; cases h
theorem find_acc (he : askErr d x set = 0) (h : explV d x set = true) : accV d x set (findL d x set) = true := by
  unfold accV allB findL; rw [if_pos he, Bool.and_eq_true, decide_eq_true_eq, List.length_map]
  refine ⟨rfl, List.all_eq_true.2 fun p hp => ?_⟩
  rw [List.zip_map_right, List.mem_map] at hp
  obtain ⟨⟨v, v'⟩, hv, rfl⟩ := hp
  have hvv : v = v' ∧ v ∈ x.waves := by
    obtain ⟨k, hk, e⟩ := List.getElem_of_mem hv
    rw [List.getElem_zip] at e
    injection e with e1 e2
    exact ⟨by rw [← e1, ← e2], by rw [← e1]; exact List.getElem_mem _⟩
  obtain ⟨rfl, hm⟩ := hvv
  obtain ⟨hw, l1, l2, l3⟩ := wavOk_of he hm
  unfold explV at h
  rw [if_pos he] at h
  obtain ⟨f, hf⟩ := Option.isSome_iff_exists.1 (List.all_eq_true.1 h v hm)
  obtain ⟨hfol, hfok⟩ := fol_fok hw hf
  obtain ⟨⟨r1, r0⟩, -⟩ := ev_sizes (askErr_ok.1 he).1
  have := fitsT_L hw l1 l2 l3 (filled hw r0 hfok)
  show fitsB d x (blF x set) v (truV d x (blF x set) v) = true
  unfold truV
  rw [hfol]
  exact fitsB_iff.2 this
theorem sorted_ext : ∀ {l m : List Int}, l.Pairwise (· < ·) → m.Pairwise (· < ·) → (∀ x, x ∈ l ↔ x ∈ m) → l = m
  | [], [], _, _, _ => rfl
  | [], b :: m, _, _, h => absurd ((h b).2 List.mem_cons_self) (by simp)
  | a :: l, [], _, _, h => absurd ((h a).1 List.mem_cons_self) (by simp)
  | a :: l, b :: m, hl, hm, h => by
    rw [List.pairwise_cons] at hl hm
    have e : a = b := by
      have h1 := (h a).1 List.mem_cons_self
      have h2 := (h b).2 List.mem_cons_self
      rcases List.mem_cons.1 h1 with h1 | h1
      · exact h1
      rcases List.mem_cons.1 h2 with h2 | h2
      · exact h2.symm
      have := hl.1 _ h2
      have := hm.1 _ h1
      omega
    subst e
    rw [sorted_ext hl.2 hm.2 fun y => ?_]
    constructor
    · intro hy
      rcases List.mem_cons.1 ((h y).1 (List.mem_cons_of_mem _ hy)) with e | e
      · subst e; have := hl.1 _ hy; omega
      · exact e
    · intro hy
      rcases List.mem_cons.1 ((h y).2 (List.mem_cons_of_mem _ hy)) with e | e
      · subst e; have := hm.1 _ hy; omega
      · exact e
theorem setB_ok {n : Nat} : ∀ {l : List Int} {last : Int}, setB n last l = true → l.Pairwise (· < ·) ∧ ∀ i ∈ l, last < i ∧ i < n
  | [], _, _ => ⟨.nil, fun i hi => by simp at hi⟩
  | i :: r, last, h => by
    unfold setB at h
    simp only [Bool.and_eq_true, decide_eq_true_eq] at h
    obtain ⟨h1, h2, h3⟩ := h
    obtain ⟨h4, h5⟩ := setB_ok h3
    refine ⟨List.pairwise_cons.2 ⟨fun j hj => (h5 j hj).1, h4⟩, fun j hj => ?_⟩
    rcases List.mem_cons.1 hj with rfl | hj
    · exact ⟨h1, h2⟩
    · have := h5 j hj; omega
def orL (l : List Int) : Nat := l.foldl (fun m i => m ||| 2 ^ i.toNat) 0
theorem orL_snoc (l : List Int) (i : Int) : orL (l ++ [i]) = orL l ||| 2 ^ i.toNat := by unfold orL; rw [List.foldl_append]; rfl
theorem orL_bit {j : Nat} : ∀ {l : List Int}, (∀ i ∈ l, 0 ≤ i) → ((orL l).testBit j = true ↔ (j : Int) ∈ l) := by
  have key : ∀ (l : List Int) (m : Nat), (∀ i ∈ l, 0 ≤ i) → ((l.foldl (fun m i => m ||| 2 ^ i.toNat) m).testBit j = true ↔ m.testBit j = true ∨ (j : Int) ∈ l) := by
    intro l
    induction l with
    | nil => intro m _; simp
    | cons i l ih =>
      intro m h
      rw [List.foldl_cons, ih _ fun k hk => h k (List.mem_cons_of_mem _ hk), Nat.testBit_or, Bool.or_eq_true, Nat.testBit_two_pow, decide_eq_true_eq, List.mem_cons]
      have := h i List.mem_cons_self
      have e : (i.toNat = j) ↔ (j : Int) = i := by omega
      rw [e, or_assoc]
  intro l h
  rw [show orL l = l.foldl (fun m i => m ||| 2 ^ i.toNat) 0 from rfl, key l 0 h]; simp
theorem orL_lt {S : Nat} {l : List Int} (h : ∀ i ∈ l, 0 ≤ i ∧ i < S) : orL l < 2 ^ S := by
  apply Nat.lt_pow_two_of_testBit
  intro j hj
  cases hb : (orL l).testBit j with
  | false => rfl
  | true =>
    have := (orL_bit fun i hi => (h i hi).1).1 hb
    have := h _ this
    omega
theorem members_or {S : Nat} {l : List Int} (h : setB S (-1) l = true) : membersL (orL l) S = l := by
  obtain ⟨h1, h2⟩ := setB_ok h
  refine sorted_ext ?_ h1 fun y => ?_
  · unfold membersL
    refine List.Pairwise.map _ (R := (· < ·)) (fun a b hab => by omega) ?_
    exact List.Pairwise.filter _ List.pairwise_lt_range
  · unfold membersL
    rw [List.mem_map]
    constructor
    · rintro ⟨k, hk, rfl⟩
      exact (orL_bit fun i hi => by have := h2 i hi; omega).1 (List.mem_filter.1 hk).2
    · intro hy
      have := h2 y hy
      refine ⟨y.toNat, List.mem_filter.2 ⟨List.mem_range.2 (by omega), ?_⟩, by omega⟩
      exact (orL_bit fun i hi => by have := h2 i hi; omega).2 (by rw [show ((y.toNat : Nat) : Int) = y by omega]; exact hy)
theorem table_or (he : askErr d x set = 0) : (tableV d x)[orL set]? = some (explV d x set) ∧ (tableV d x).length = 2 ^ x.suspects.length ∧ orL set < 2 ^ x.suspects.length := by
  obtain ⟨h0, hs⟩ := askErr_ok.1 he
  have hlt := orL_lt (fun i hi => by have := (setB_ok hs).2 i hi; omega : ∀ i ∈ set, 0 ≤ i ∧ i < x.suspects.length)
  unfold tableV tableL
  rw [if_pos h0]
  refine ⟨?_, by simp, hlt⟩
  rw [List.getElem?_map, List.getElem?_range hlt]
  show some (explV d x (membersL (orL set) x.suspects.length)) = _
  rw [members_or hs]
end
end Go.Proofs.YtffdjecdcbbfaaaGreat

/- Layer 48: the law EvidenceExact. -/
namespace Go.Proofs.YtffdjecdcbbfaaaGreat
open Go Go.RowKit

section
variable {D : Nat → Prop} {w : World}
theorem callSE {f : FuncId} [h : Enters Tryz.prog f] {args : Array Value} {K : VK} {X : XK} (c : CallZ Tryz.prog f args w (fun v w' => ∃ b, v = .bool b ∧ Ext w w')) (k1 : ∀ w', Ext w w' → K (.bool true) w') (k2 : ∀ w', Ext w w' → K (.bool false) w') : CallP Tryz.prog f args K X w := by
  refine call_of c ?_
  rintro _ w' ⟨b, rfl, x⟩
  cases b
  · exact k2 w' x
  · exact k1 w' x
end
end Go.Proofs.YtffdjecdcbbfaaaGreat

/- Layer 48, plainly: more suspects, wider ranges. -/
namespace Go.Proofs.YtffdjecdcbbfaaaGreat
open Go Go.RowKit

/-- As many ranges, each of them as wide or wider. -/
def WiderL (l l' : List Rg) : Prop := l.length = l'.length ∧ ∀ i, i < l.length → (l'.getD i g0).lo ≤ (l.getD i g0).lo ∧ (l.getD i g0).hi ≤ (l'.getD i g0).hi
theorem WiderL.refl (l : List Rg) : WiderL l l := ⟨rfl, fun _ _ => ⟨Int.le_refl _, Int.le_refl _⟩⟩
structure WiderW (v v' : Wv) : Prop where
  heads : WiderL v.heads v'.heads
  outlets : WiderL v.outlets v'.outlets
  tails : WiderL v.tails v'.tails
theorem WiderW.refl (v : Wv) : WiderW v v := ⟨.refl _, .refl _, .refl _⟩
def BlLe (bl bl' : Int × Int → Option Int) : Prop := ∀ key n, bl key = some n → bl' key = some n
theorem meter_more {bl bl' : Int × Int → Option Int} (hb : BlLe bl bl') {kd ix : Int} {y y' : Rg} (h0 : 0 ≤ y.lo) (h1 : y'.lo ≤ y.lo) (h2 : y.hi ≤ y'.hi) : (meterV bl' kd ix y').lo ≤ (meterV bl kd ix y).lo ∧ (meterV bl kd ix y).hi ≤ (meterV bl' kd ix y').hi := by
  unfold meterV
  cases e : bl (kd, ix) with
  | some n => rw [hb _ _ e]; show (0 : Int) ≤ 0 ∧ max n y.hi ≤ max n y'.hi; omega
  | none =>
    cases e' : bl' (kd, ix) with
    | some n => show (0 : Int) ≤ y.lo ∧ y.hi ≤ max n y'.hi; omega
    | none => exact ⟨h1, h2⟩
theorem in_more {bl bl' : Int × Int → Option Int} (hb : BlLe bl bl') {kd : Int} {l : List Int} {m : Nat} {read read' : List Rg} (hr : WiderL read read') (h0 : rgsB m read = true) (h : inB bl kd l read = true) : inB bl' kd l read' = true := by
  rw [inB_iff] at h ⊢
  refine ⟨by rw [h.1, hr.1], fun i hi => ?_⟩
  have h1 := h.2 i hi
  have h2 := hr.2 i (by rw [← h.1]; exact hi)
  have h3 := rgOk_iff.1 (rgsB_get h0 (by rw [← rgsB_len h0, ← h.1]; exact hi))
  have := meter_more hb (kd := kd) (ix := i) h3.1 h2.1 h2.2
  omega
section
variable {d : Dist} {x x' : Ev} {set set' : List Int}
theorem suE_congr (hs : x'.suspects = x.suspects) (i : Nat) : suE x' i = suE x i := by unfold suE; rw [hs]
theorem suAt_congr (hs : x'.suspects = x.suspects) (i : Int) : suAt x' i = suAt x i := by unfold suAt; rw [hs]
theorem fits_more {bl bl' : Int × Int → Option Int} {v v' : Wv} {t : Tru} (hs : x'.suspects = x.suspects) (hb : BlLe bl bl') (hw : WiderW v v') (w1 : rgsB d.reaches.length v.heads = true) (w2 : rgsB d.farms.length v.outlets = true) (w3 : rgsB d.reaches.length v.tails = true) (hp : ∀ key n, bl' key = some n → 0 ≤ n) (h : FitsL d x bl v t) : FitsL d x' bl' v' t := by
  have ho : ∀ k r, out3 d x' t k r = out3 d x t k r := fun k r => by
    unfold out3 out2 out1
    have : qP x' r = qP x r := funext fun i => by unfold qP; rw [suE_congr hs]
    rw [this, hs]
  refine ⟨in_more hb hw.heads w1 h.i1, in_more hb hw.outlets w2 h.i2, in_more hb hw.tails w3 h.i3, h.la, by rw [hs]; exact h.lt, fun i hi => ?_, fun r hr => ?_⟩
  · have := h.tk i (by rw [← hs]; exact hi)
    refine ⟨this.1, Int.le_trans this.2 ?_⟩
    unfold mostT
    rw [suE_congr hs]
    by_cases hk : (suE x i).kind = 4
    · rw [if_pos hk, if_pos hk]
      cases e : bl ((suE x i).kind, (suE x i).index) with
      | some n => rw [hb _ _ e]; exact Int.le_refl _
      | none =>
        cases e' : bl' ((suE x i).kind, (suE x i).index) with
        | none => exact Int.le_refl _
        | some n => exact hp _ _ e'
    · rw [if_neg hk, if_neg hk]; exact Int.le_refl _
  · rw [ho]; exact h.ar r hr
theorem bl_more (he : askErr d x set = 0) (he' : askErr d x' set' = 0) (hs : x'.suspects = x.suspects) (hsub : ∀ i ∈ set, i ∈ set') : BlLe (blF x set) (blF x' set') := by
  intro key n hn
  obtain ⟨i, hi, hk, rfl⟩ := blF_some hn
  have hsus := (evErr_ok (askErr_ok.1 he).1).2.2.2.2
  have hb := (setB_ok (askErr_ok.1 he).2).2
  have hb' := (setB_ok (askErr_ok.1 he').2).2
  cases e : blF x' set' key with
  | some m =>
    obtain ⟨j, hj, hk', rfl⟩ := blF_some e
    rw [suAt_congr hs] at hk' ⊢
    have h1 := hb i hi
    have h2 := hb' j hj
    rw [hs] at h2
    have : i.toNat = j.toNat := by
      rcases Nat.lt_trichotomy i.toNat j.toNat with q | q | q
      · exact absurd (hk.trans hk'.symm) (sus_ne hsus q (by omega))
      · exact q
      · exact absurd (hk'.trans hk.symm) (sus_ne hsus q (by omega))
    rw [show i = j by omega]
  | none =>
    exfalso
    unfold blF at e
    rw [List.findSome?_eq_none_iff] at e
    have := e i (hsub i hi)
    rw [suAt_congr hs] at this
    rw [if_pos hk] at this
    cases this
/-- Whoever explains, with more suspects and wider ranges still does. -/
theorem expl_more (he : askErr d x set = 0) (he' : askErr d x' set' = 0) (hs : x'.suspects = x.suspects) (hsub : ∀ i ∈ set, i ∈ set') (hl : x'.waves.length = x.waves.length)
    (hw : ∀ (k : Nat) v v', x.waves[k]? = some v → x'.waves[k]? = some v' → WiderW v v') (h : explV d x set = true) : explV d x' set' = true := by
  have hb := bl_more he he' hs hsub
  have ha := find_acc he h
  generalize findL d x set = l at ha
  refine acc_expl (l := l) ?_
  unfold accV at ha ⊢
  rw [if_pos he] at ha
  rw [if_pos he']
  unfold allB at ha ⊢
  rw [Bool.and_eq_true, decide_eq_true_eq] at ha ⊢
  refine ⟨by rw [hl]; exact ha.1, List.all_eq_true.2 fun p hp => ?_⟩
  obtain ⟨k, hk, rfl⟩ := List.getElem_of_mem hp
  rw [List.length_zip] at hk
  rw [List.getElem_zip]
  have hk1 : k < x.waves.length := by omega
  have hk2 : k < l.length := by omega
  have hz := List.all_eq_true.1 ha.2 (x.waves[k], l[k]) (List.mem_iff_getElem.2 ⟨k, by rw [List.length_zip]; omega, by rw [List.getElem_zip]⟩)
  have hm : x.waves[k] ∈ x.waves := List.getElem_mem _
  obtain ⟨w1, w2, w3⟩ := waves_mem (evErr_ok (askErr_ok.1 he).1).2.2.2.1 _ hm
  have hm' : x'.waves[k]'(by omega) ∈ x'.waves := List.getElem_mem _
  have hp' := (wavOk_of he' hm').1.bl
  exact fitsB_iff.2 (fits_more hs hb (hw k _ _ (List.getElem?_eq_getElem hk1) (List.getElem?_eq_getElem (by omega))) w1 w2 w3 (fun key n hn => by have := hp' key n hn; omega) (fitsB_iff.1 hz))

/-! ### in the table -/
theorem members_set {n S : Nat} : setB S (-1) (membersL n S) = true := by
  have key : ∀ (l : List Nat) (last : Int), l.Pairwise (· < ·) → (∀ k ∈ l, last < (k : Int) ∧ k < S) → setB S last (l.map fun i : Nat => (i : Int)) = true := by
    intro l
    induction l with
    | nil => intro _ _ _; rfl
    | cons a l ih =>
      intro last hp hb
      rw [List.pairwise_cons] at hp
      show (decide (last < (a : Int)) && (decide ((a : Int) < S) && setB S (a : Int) (l.map fun i : Nat => (i : Int)))) = true
      have h1 := hb a List.mem_cons_self
      rw [ih _ hp.2 fun k hk => ⟨by have := hp.1 k hk; omega, (hb k (List.mem_cons_of_mem _ hk)).2⟩]
      simp only [Bool.and_eq_true, decide_eq_true_eq]
      exact ⟨h1.1, by omega, trivial⟩
  refine key _ _ (List.Pairwise.filter _ List.pairwise_lt_range) fun k hk => ?_
  have := List.mem_range.1 (List.mem_filter.1 hk).1
  exact ⟨by omega, this⟩
theorem ask_members (h : evErr d x = 0) (n : Nat) : askErr d x (membersL n x.suspects.length) = 0 := askErr_ok.2 ⟨h, members_set⟩
theorem table_get (h : evErr d x = 0) {n : Nat} (hn : n < 2 ^ x.suspects.length) : (tableV d x)[n]? = some (explV d x (membersL n x.suspects.length)) := by
  unfold tableV tableL
  rw [if_pos h, List.getElem?_map, List.getElem?_range hn]; rfl
theorem table_len (h : evErr d x = 0) : (tableV d x).length = 2 ^ x.suspects.length := by unfold tableV tableL; rw [if_pos h]; simp
theorem table_none (h : evErr d x ≠ 0) : tableV d x = [] := by unfold tableV; rw [if_neg h]
/-- One suspect more. -/
theorem table_one (h : evErr d x = 0) {n i : Nat} (_ : n < 2 ^ x.suspects.length) (_ : i < x.suspects.length) (ht : explV d x (membersL n x.suspects.length) = true) : explV d x (membersL (n ||| 2 ^ i) x.suspects.length) = true := by
  refine expl_more (ask_members h n) (ask_members h _) rfl (fun j hj => ?_) rfl (fun k v v' h1 h2 => by rw [h1] at h2; injection h2 with h2; subst h2; exact .refl _) ht
  unfold membersL at hj ⊢
  rw [List.mem_map] at hj ⊢
  obtain ⟨q, hq, rfl⟩ := hj
  rw [List.mem_filter] at hq
  refine ⟨q, List.mem_filter.2 ⟨hq.1, ?_⟩, rfl⟩
  rw [Nat.testBit_or, hq.2]; rfl
/-- One range wider. -/
theorem table_wide (h : evErr d x = 0) (h' : evErr d x' = 0) (hs : x'.suspects = x.suspects) (hl : x'.waves.length = x.waves.length)
    (hw : ∀ (k : Nat) v v', x.waves[k]? = some v → x'.waves[k]? = some v' → WiderW v v') {n : Nat} (ht : explV d x (membersL n x.suspects.length) = true) : explV d x' (membersL n x'.suspects.length) = true := by
  rw [hs]
  exact expl_more (ask_members h n) (askErr_ok.2 ⟨h', by rw [hs]; exact members_set⟩) hs (fun _ h => h) hl hw ht
end
end Go.Proofs.YtffdjecdcbbfaaaGreat

/- Layer 48: Of's put. -/
namespace Go.Proofs.YtffdjecdcbbfaaaGreat
open Go Go.RowKit

/-- Two slices of the function's own that do not share. -/
def dj (A B : Option Addr) : Prop := ∀ g, A = some (ad g 0) → B ≠ some (ad g 0)
theorem dj.symm {A B : Option Addr} (h : dj A B) : dj B A := fun g h1 h2 => h g h2 h1
theorem dj.app {A A' B : Option Addr} {w0 u : World} {n c sz : Nat} {e : TypeId} {cs : List Value} (h : dj A B) (hA : A' = A ∨ A' = none ∨ A' = some (ad u.heap.size 0)) (hB : OwnF w0 u B n c e sz cs) : dj A' B := by
  intro g h1 h2
  rcases hA with e | e | e
  · exact h g (e ▸ h1) h2
  · rw [e] at h1; cases h1
  · rw [e] at h1
    injection h1 with h1; injection h1 with h1
    rcases hB.form with ⟨e2, -⟩ | ⟨g', e2, -, hlt, -⟩
    · rw [e2] at h2; cases h2
    · rw [e2] at h2; injection h2 with h2; injection h2 with h2; omega
theorem srcOf {w : World} {g sz : Nat} {t : TypeId} {vs : List Value} (h : Blk w g t vs) (hl : vs.length = 1 * sz) : Src w (some (ad g 0)) 1 sz vs := ⟨hl, fun _ => ⟨g, 0, rfl, fun j x hx => by rw [Nat.zero_add]; exact h.cell hx⟩⟩
theorem own_ne {w0 w : World} {A : Option Addr} {n c sz : Nat} {e : TypeId} {cs : List Value} (h : OwnF w0 w A n c e sz cs) {g : Nat} (hg : w.heap.size ≤ g) : A ≠ some (ad g 0) := fun e2 => by
  rcases h.form with ⟨e3, -⟩ | ⟨g', e3, -, hlt, -⟩
  · rw [e3] at e2; cases e2
  · rw [e3] at e2; injection e2 with e2; injection e2 with e2; omega
/-- A slice's block is of its elements' type. -/
theorem own_ty {w0 w : World} {A : Option Addr} {n c sz : Nat} {e t : TypeId} {cs xs : List Value} {b : Nat} (h : OwnF w0 w A n c e sz cs) (hb : Blk w b t xs) (hne : t ≠ e) : A ≠ some (ad b 0) := fun e2 => by
  obtain ⟨rest, hb3, _⟩ := Own.blk (e2 ▸ h.own)
  exact hne (hb.uniq hb3).1
/-- A slice after an append: the same block, none, or a new one. -/
def nw (w : World) (A B : Option Addr) : Prop := B = A ∨ B = none ∨ ∃ g, B = some (ad g 0) ∧ w.heap.size ≤ g
theorem nw.of {w u : World} {A B : Option Addr} (h : B = A ∨ B = none ∨ B = some (ad u.heap.size 0)) (hs : w.heap.size ≤ u.heap.size) : nw w A B := by
  rcases h with h | h | h
  · exact .inl h
  · exact .inr (.inl h)
  · exact .inr (.inr ⟨_, h, hs⟩)
theorem dj.nw {w0 w : World} {A B C : Option Addr} {n c sz : Nat} {e : TypeId} {cs : List Value} (h : dj A C) (hB : nw w A B) (hC : OwnF w0 w C n c e sz cs) : dj B C := by
  intro g h1 h2
  rcases hB with e | e | ⟨g', e, hg⟩
  · exact h g (e ▸ h1) h2
  · rw [e] at h1; cases h1
  · rw [e] at h1
    injection h1 with h1; injection h1 with h1
    rcases hC.form with ⟨e2, -⟩ | ⟨g2, e2, -, hlt, -⟩
    · rw [e2] at h2; cases h2
    · rw [e2] at h2; injection h2 with h2; injection h2 with h2; omega
theorem dj_none {A : Option Addr} : dj none A := fun g h => by cases h
/-- Slices of two kinds do not share. -/
theorem dj_ty {w0 v0 w : World} {A B : Option Addr} {n c sz m k sy : Nat} {e t : TypeId} {cs ds : List Value} (hA : OwnF w0 w A n c e sz cs) (hB : OwnF v0 w B m k t sy ds) (hne : t ≠ e) : dj A B := fun g h1 h2 => by
  obtain ⟨rest, hb, _⟩ := Own.blk (h1 ▸ hA.own)
  obtain ⟨rest', hb', _⟩ := Own.blk (h2 ▸ hB.own)
  exact hne (hb'.uniq hb).1
section
variable {w0 w : World}
set_option maxRecDepth 4000 in
theorem c_eput {bT bW bw i j n1 c1 n2 c2 : Nat} {A1 A2 : Option Addr} {cs1 cs2 csT csW : List Value} {N W : Int} (hT : Blk w bT 61 csT) (hW : Blk w bW 59 csW) (hi : csT[i]? = some (.slice A1 n1 c1)) (hj : csW[j]? = some (.slice A2 n2 c2))
    (o1 : OwnF w0 w A1 n1 c1 3 1 cs1) (o2 : OwnF w0 w A2 n2 c2 101 2 cs2) (hd : dj A1 A2) (hw : Blk w bw 3 [iv W]) (hwn : A1 ≠ some (ad bw 0)) (hN : -4611686018427387904 ≤ N ∧ N ≤ 4611686018427387904) (hWb : 0 ≤ W ∧ W ≤ 1073741824) (h1 : n1 ≤ 100000) (h2 : n2 ≤ 100000)
    (hbT : w0.heap.size ≤ bT) (hbW : w0.heap.size ≤ bW) :
    CallZ Tryz.prog 44 #[.pointer (some (ad bT i)), .pointer (some (ad bW j)), iv N, ptr bw] w (fun v w' => v = .tuple #[] ∧ ∃ B1 d1 B2 d2, Blk w' bT 61 (csT.set i (.slice B1 (n1 + 1) d1)) ∧ Blk w' bW 59 (csW.set j (.slice B2 (n2 + 1) d2)) ∧
      OwnF w0 w' B1 (n1 + 1) d1 3 1 (cs1 ++ [iv N]) ∧ OwnF w0 w' B2 (n2 + 1) d2 101 2 (cs2 ++ [iv (max 0 (N - W)), iv (min 1073741824 (N + W))]) ∧ dj B1 B2 ∧ nw w A1 B1 ∧ nw w A2 B2 ∧ Kept (fun b => b ≠ bT ∧ b ≠ bW ∧ A1 ≠ some (ad b 0) ∧ A2 ≠ some (ad b 0)) w w') := by
  have li : i < csT.length := (List.getElem?_eq_some_iff.1 hi).1
  have lj : j < csW.length := (List.getElem?_eq_some_iff.1 hj).1
  have tT := hT.lt
  have tW := hW.lt
  have hTW : bT ≠ bW := fun e => by subst e; exact absurd (hT.uniq hW).1 (by decide)
  refine fn_rule (args := [.pointer (some (ad bT i)), .pointer (some (ad bW j)), iv N, ptr bw]) Tryz.func44 (by kernel_rfl) ?_
  refine drawP (.take 0 (.take 1 (.take 2 (.take 3 (.take 4 (.take 5 (.take 8 (.take 9 (.take 10 (.take 11 (.take 12 (.take 13 (.take 14 (.take 15 (.take 16 (.take 17 (.take 18 (.take 19 (.alt 6 (.alt 7 (.eff 20 (.eff 21 (.take 22 (.bar (.eff 23 (.take 24 (.eff 25 .done))))))) (.eff 20 (.eff 7 (.eff 21 (.take 22 (.bar (.eff 23 (.take 24 (.eff 25 .done))))))))) (.eff 20 (.eff 6 (.eff 7 (.eff 21 (.take 22 (.bar (.eff 23 (.take 24 (.eff 25 .done)))))))))))))))))))))))))))) [23, 24, 25] (fun z => Kept (fun b => A1 ≠ some (ad b 0) ∧ A2 ≠ some (ad b 0)) w z) mx (by kernel_rfl) (.refl _ _) ?_
  refine ldK (.slice A1 n1 c1) (hT.cell hi) ⟨own_ty o1 hT (by decide), own_ty o2 hT (by decide)⟩ (.refl _ _) ?_
  refine ldK (.slice A2 n2 c2) (hW.cell hj) ⟨own_ty o1 hW (by decide), own_ty o2 hW (by decide)⟩ (.refl _ _) ?_
  refine ldK (iv W) (hw.cell rfl) ⟨hwn, own_ty o2 hw (by decide)⟩ (.refl _ _) ?_
  refine arI (by omega) ?_
  refine ldK (iv W) (hw.cell rfl) ⟨hwn, own_ty o2 hw (by decide)⟩ (.refl _ _) ?_
  refine arI (by omega) ?_
  refine bld [iv (max 0 (N - W)), iv (min 1073741824 (N + W))] (by kernel_rfl) ?_
  refine ⟨?yl, ?yr⟩
  case' yl =>
    refine lit [iv N] (fun g1 u1 hq1 => ?_)
    have z1 := hq1.at_
    have kA : Kept (fun b => A1 ≠ some (ad b 0) ∧ A2 ≠ some (ad b 0)) w u1 := hq1.ext.any
    have o1 := o1.then hq1.ext
    have o2 := o2.then hq1.ext
    refine strS kA ?_
    refine ⟨?yll, ?ylr⟩
  case' yll =>
    refine appF o1 (hq1.src (sz := 1) rfl) (by omega) (fun B1 d1 u2 p1 k2 hA => ?_)
    have hd1 := hd.app hA o2
    have n1' : nw w A1 B1 := nw.of hA kA.size
    have o2 := o2.thenK k2 (fun g h1 h2 => hd g h2 h1) p1.ext
    have kB := kA.trans (k2.weak fun _ _ h => h.1)
    refine strS kB ?_
    refine lit [.agg #[iv (max 0 (N - W)), iv (min 1073741824 (N + W))]] (fun g2 u3 hq2 => ?_)
    have p1 := p1.then hq2.ext
    have o2 := o2.then hq2.ext
    have kC := kB.ext hq2.ext
    refine strS kC ?_
    refine appF o2 (hq2.src (sz := 2) rfl) (by omega) (fun B2 d2 u4 p2 k4 hA2 => ?_)
    have n2' : nw w A2 B2 := nw.of hA2 kC.size
    have hdF := (hd1.symm.app hA2 p1).symm
    have p1 := p1.thenK k4 (fun g h1 => hd1 g h1) p2.ext
    have kF := kC.trans (k4.weak fun _ _ h => h.2)
    refine strS kF ?_
  case' ylr =>
    refine lit [.agg #[iv (max 0 (N - W)), iv (min 1073741824 (N + W))]] (fun g2 u2 hq2 => ?_)
    have z2 := hq2.at_
    have ne2 := own_ne o1 (show u1.heap.size ≤ g2 by omega)
    have o1 := o1.then hq2.ext
    have o2 := o2.then hq2.ext
    have kB := kA.ext hq2.ext
    refine strS kB ?_
    refine appF o1 (srcOf (sz := 1) (hq1.blk.ext hq2.ext) rfl) (by omega) (fun B1 d1 u3 p1 k2 hA => ?_)
    have hd1 := hd.app hA o2
    have n1' : nw w A1 B1 := nw.of hA kB.size
    have o2 := o2.thenK k2 (fun g h1 h2 => hd g h2 h1) p1.ext
    have bl2 := hq2.blk.kept k2 ne2
    have kC := kB.trans (k2.weak fun _ _ h => h.1)
    refine strS kC ?_
    refine appF o2 (srcOf (sz := 2) bl2 rfl) (by omega) (fun B2 d2 u4 p2 k4 hA2 => ?_)
    have n2' : nw w A2 B2 := nw.of hA2 kC.size
    have hdF := (hd1.symm.app hA2 p1).symm
    have p1 := p1.thenK k4 (fun g h1 => hd1 g h1) p2.ext
    have kF := kC.trans (k4.weak fun _ _ h => h.2)
    refine strS kF ?_
  case' yr =>
    refine lit [.agg #[iv (max 0 (N - W)), iv (min 1073741824 (N + W))]] (fun g2 u1 hq2 => ?_)
    have z2 := hq2.at_
    have ne2 := own_ne o1 (show w.heap.size ≤ g2 by omega)
    have kA : Kept (fun b => A1 ≠ some (ad b 0) ∧ A2 ≠ some (ad b 0)) w u1 := hq2.ext.any
    have o1 := o1.then hq2.ext
    have o2 := o2.then hq2.ext
    refine strS kA ?_
    refine lit [iv N] (fun g1 u2 hq1 => ?_)
    have o1 := o1.then hq1.ext
    have o2 := o2.then hq1.ext
    have kB := kA.ext hq1.ext
    refine strS kB ?_
    refine appF o1 (hq1.src (sz := 1) rfl) (by omega) (fun B1 d1 u3 p1 k2 hA => ?_)
    have hd1 := hd.app hA o2
    have n1' : nw w A1 B1 := nw.of hA kB.size
    have o2 := o2.thenK k2 (fun g h1 h2 => hd g h2 h1) p1.ext
    have bl2 := (hq2.blk.ext hq1.ext).kept k2 ne2
    have kC := kB.trans (k2.weak fun _ _ h => h.1)
    refine strS kC ?_
    refine appF o2 (srcOf (sz := 2) bl2 rfl) (by omega) (fun B2 d2 u4 p2 k4 hA2 => ?_)
    have n2' : nw w A2 B2 := nw.of hA2 kC.size
    have hdF := (hd1.symm.app hA2 p1).symm
    have p1 := p1.thenK k4 (fun g h1 => hd1 g h1) p2.ext
    have kF := kC.trans (k4.weak fun _ _ h => h.2)
    refine strS kF ?_
  all_goals
    have T4 := hT.kept kF ⟨own_ty ‹OwnF w0 w A1 n1 c1 3 1 cs1› hT (by decide), own_ty ‹OwnF w0 w A2 n2 c2 101 2 cs2› hT (by decide)⟩
    have W4 := hW.kept kF ⟨own_ty ‹OwnF w0 w A1 n1 c1 3 1 cs1› hW (by decide), own_ty ‹OwnF w0 w A2 n2 c2 101 2 cs2› hW (by decide)⟩
    refine barS (fun _ => True) trivial ?_
    refine st (v := .slice B1 (n1 + 1) d1) T4 li rfl (fun u5 T5 k5 z5 => ?_)
    have W5 := W4.kept k5 (Ne.symm hTW)
    have p1 := p1.thenK k5 (fun g h e => own_ty p1 T4 (by decide) (e ▸ h)) (p1.ext.then k5 fun b hb _ e => by omega)
    have p2 := p2.thenK k5 (fun g h e => own_ty p2 T4 (by decide) (e ▸ h)) (p2.ext.then k5 fun b hb _ e => by omega)
    refine strS trivial ?_
    refine st (v := .slice B2 (n2 + 1) d2) W5 lj rfl (fun u6 W6 k6 z6 => ?_)
    have T6 := T5.kept k6 hTW
    have p1 := p1.thenK k6 (fun g h e => own_ty p1 W5 (by decide) (e ▸ h)) (p1.ext.then k6 fun b hb _ e => by omega)
    have p2 := p2.thenK k6 (fun g h e => own_ty p2 W5 (by decide) (e ▸ h)) (p2.ext.then k6 fun b hb _ e => by omega)
    refine strS trivial ?_
    exact ret0 ⟨rfl, B1, d1, B2, d2, T6, W6, p1, p2, hdF, n1', n2', ((kF.weak fun _ _ h => h.2.2).trans (k5.weak fun _ _ h => h.1)).trans (k6.weak fun _ _ h => h.2.1)⟩
end
end Go.Proofs.YtffdjecdcbbfaaaGreat

/- Layer 48, plainly: the wave of a parcel of a right run, and what really happened to it. -/
namespace Go.Proofs.YtffdjecdcbbfaaaGreat
open Go Go.RowKit

def atV (d : Dist) (hour : Int) (r : Nat) : Nat := (hour + delV d (rch d r).up).toNat
def endV (d : Dist) (hour : Int) (r : Nat) : Nat := (hour + delV d r).toNat
def hdV (d : Dist) (x : Run) (hour : Int) (r : Nat) : Int := g2 x.inn r (atV d hour r)
def tlV (d : Dist) (x : Run) (hour : Int) (r : Nat) : Int := g2 x.tail r (endV d hour r)
def arV (d : Dist) (x : Run) (hour : Int) (r : Nat) : Int := g2 x.inn r (atV d hour r) - g2 x.evap r (atV d hour r) - g2 x.seep r (atV d hour r)
def otV (d : Dist) (x : Run) (hour : Int) (f : Nat) : Int := g2 x.taken f (endV d hour (frm d f).reach.toNat)
def arR (wide n : Int) : Rg := ⟨max 0 (n - wide), min 1073741824 (n + wide)⟩
def ofW (d : Dist) (x : Run) (hour wide : Int) : Wv := ⟨hour, (List.range d.reaches.length).map fun r => arR wide (hdV d x hour r), (List.range d.farms.length).map fun f => arR wide (otV d x hour f), (List.range d.reaches.length).map fun r => arR wide (tlV d x hour r)⟩
def ofT (d : Dist) (x : Run) (hour : Int) (n : Nat) : Tru := ⟨(List.range d.reaches.length).map fun r => hdV d x hour r, (List.range d.farms.length).map fun f => otV d x hour f, (List.range d.reaches.length).map fun r => tlV d x hour r, (List.range d.reaches.length).map fun r => arV d x hour r, List.replicate n 0⟩
def ofFit (d : Dist) (hour : Int) : Bool := (List.range d.reaches.length).all fun r : Nat => decide (hour + delV d (r : Int) < d.hours)
def ofErr (d : Dist) (x : Run) (hour wide : Int) : Int := if bErr d x ≠ 0 then bErr d x else if hour < 0 ∨ hour ≥ d.hours ∨ wide < 0 ∨ wide > 1073741824 then 1 else if ofFit d hour then 0 else 1
section
variable {d : Dist} {x : Run} {hour wide : Int} {H n : Nat}
theorem left_ok48 (hf : Fm d x H) (hR : RightP d x H) {i k : Nat} (hi : i < d.reaches.length) (hk : k < H) : (parc d x k i).1 - (lostR (rch d i) (parc d x k i).1).hi ≤ leftN d x i k ∧ leftN d x i k ≤ (parc d x k i).1 - (lostR (rch d i) (parc d x k i).1).lo := by
  have hb := hR.bal i k hi hk
  unfold balI at hb
  rw [decide_eq_true_eq] at hb
  obtain ⟨-, hl, -⟩ := hf.at_ (reach_at hi)
  have hz : (parc d x k i).1 = 0 → (parc d x k i).2.1 = 0 ∧ (parc d x k i).2.2 = 0 := by
    unfold parc
    split
    · intro h0
      have ha := hR.adm i (ent d i k).toNat hi (hf.ent_lt hi hk).2
      unfold admB at ha
      rw [if_pos h0] at ha
      simpa using ha
    · exact fun _ => ⟨rfl, rfl⟩
  by_cases h0 : (parc d x k i).1 = 0
  · obtain ⟨h1, h2⟩ := hz h0
    have := lost_le (v := (parc d x k i).1) hl (by omega)
    omega
  · have ha : admB (rch d i) (parc d x k i).1 (parc d x k i).2.1 (parc d x k i).2.2 = true := by
      revert h0
      unfold parc
      split
      · exact fun _ => hR.adm i (ent d i k).toNat hi (hf.ent_lt hi hk).2
      · exact fun h => absurd rfl h
    obtain ⟨-, -, h3, h4, -⟩ := (admB_iff h0).1 ha
    omega
theorem delV_neg {r : Int} (h : r < 0) : delV d r = 0 := by unfold delV; rw [show (r + 1).toNat = 0 by omega]; rfl
/-- The hours on the way are those of the reaches on it. -/
theorem delV_b (ht : Tre d) : ∀ (f : Nat) (r : Int), r < f → r < d.reaches.length → 0 ≤ delV d r ∧ delV d r ≤ 16 * (r + 1).toNat
  | 0, r, hf, _ => by rw [delV_neg (by omega)]; omega
  | f + 1, r, hf, hn => by
    by_cases h0 : r < 0
    · rw [delV_neg h0]; omega
    obtain ⟨k, rfl⟩ : ∃ k : Nat, r = k := ⟨r.toNat, by omega⟩
    have hx := reach_at (d := d) (i := k) (by omega)
    have hu := ht.up _ _ hx
    have hdl := ht.dl _ _ hx
    have ih := delV_b ht f (rch d k).up (by omega) (by omega)
    rw [delV_step ht hx]
    omega
structure OfOk (d : Dist) (x : Run) (hour wide : Int) : Prop where
  b : bErr d x = 0
  h : 0 ≤ hour ∧ hour < d.hours
  w : 0 ≤ wide ∧ wide ≤ 1073741824
  fit : ∀ r : Nat, r < d.reaches.length → hour + delV d (r : Int) < d.hours
theorem ofErr_ok : ofErr d x hour wide = 0 ↔ OfOk d x hour wide := by
  unfold ofErr
  by_cases h0 : bErr d x = 0
  · rw [if_neg (by simp [h0])]
    by_cases h1 : hour < 0 ∨ hour ≥ d.hours ∨ wide < 0 ∨ wide > 1073741824
    · rw [if_pos h1]; exact ⟨fun h => absurd h (by decide), fun h => by have := h.h; have := h.w; omega⟩
    · rw [if_neg h1]
      by_cases h2 : ofFit d hour = true
      · rw [if_pos h2]
        refine ⟨fun _ => ⟨h0, by omega, by omega, fun r hr => ?_⟩, fun _ => rfl⟩
        exact of_decide_eq_true (List.all_eq_true.1 h2 r (List.mem_range.2 hr))
      · rw [if_neg h2]
        refine ⟨fun h => absurd h (by decide), fun h => absurd (List.all_eq_true.2 fun r hr => decide_eq_true (h.fit r (List.mem_range.1 hr))) h2⟩
  · rw [if_pos (by simpa using h0)]; exact ⟨fun h => absurd h h0, fun h => absurd h.b h0⟩
theorem OfOk.tre (h : OfOk d x hour wide) : Tre d := tre_of (dErr_ok.2 (bErr_ok.1 h.b).1)
theorem at_of (ht : Tre d) (hh : 0 ≤ hour) {r : Nat} (hr : r < d.reaches.length) : ((atV d hour r : Nat) : Int) = hour + delV d (rch d r).up ∧ ((endV d hour r : Nat) : Int) = hour + delV d (r : Int) ∧ hour + delV d (r : Int) = hour + delV d (rch d r).up + (rch d r).delay ∧ (1 ≤ (rch d r).delay ∧ (rch d r).delay ≤ 16) ∧ 0 ≤ delV d (r : Int) ∧ delV d (r : Int) ≤ 16 * (r + 1) := by
  have hx := reach_at hr
  have hu := ht.up _ _ hx
  have hdl := ht.dl _ _ hx
  have st := delV_step ht hx
  have b1 := delV_b ht r (rch d r).up (by omega) (by omega)
  have b2 := delV_b ht (r + 1) r (by omega) (by omega)
  unfold atV endV
  omega
theorem OfOk.at_ (h : OfOk d x hour wide) {r : Nat} (hr : r < d.reaches.length) : ((atV d hour r : Nat) : Int) = hour + delV d (rch d r).up ∧ ((endV d hour r : Nat) : Int) = hour + delV d (r : Int) ∧ hour + delV d (r : Int) = hour + delV d (rch d r).up + (rch d r).delay ∧ (rch d r).delay ≥ 1 ∧ atV d hour r < d.hours.toNat ∧ endV d hour r < d.hours.toNat := by
  have hh := h.h
  have hf := h.fit r hr
  have := at_of h.tre hh.1 hr
  omega
theorem OfOk.bounds (h : OfOk d x hour wide) : (∀ r, r < d.reaches.length → (0 ≤ hdV d x hour r ∧ hdV d x hour r ≤ 1073741824) ∧ (0 ≤ tlV d x hour r ∧ tlV d x hour r ≤ 1073741824)) ∧ ∀ f, f < d.farms.length → (0 ≤ otV d x hour f ∧ otV d x hour f ≤ 1073741824) ∧ 0 ≤ (frm d f).reach ∧ (frm d f).reach < d.reaches.length := by
  obtain ⟨hf, hR⟩ := bErr_fm h.b
  have hv := (bErr_ok.1 h.b).1.2
  refine ⟨fun r hr => ?_, fun f hff => ?_⟩
  · obtain ⟨-, -, -, -, h1, h2⟩ := h.at_ hr
    exact ⟨tab_val hf.inn hr h1, tab_val hf.tail hr h2⟩
  · have hfr : 0 ≤ (frm d f).reach ∧ (frm d f).reach < d.reaches.length := by
      obtain ⟨-, -, -, hF, -⟩ := validB_iff.1 hv
      have := List.all_eq_true.1 hF (frm d f) (List.mem_of_getElem? (farm_at hff))
      unfold farmOk at this
      simp only [Bool.and_eq_true, inI_iff] at this
      omega
    obtain ⟨-, -, -, -, -, h2⟩ := h.at_ (r := (frm d f).reach.toNat) (by omega)
    exact ⟨tab_val hf.taken hff h2, hfr⟩
theorem arR_ok {n : Int} (hn : 0 ≤ n ∧ n ≤ 1073741824) (hw : 0 ≤ wide) : rgOk (arR wide n) 1073741824 = true ∧ (arR wide n).lo ≤ n ∧ n ≤ (arR wide n).hi := by
  rw [rgOk_iff]; unfold arR; dsimp only; omega
theorem rgs_map {R : Nat} {f : Nat → Int} (hw : 0 ≤ wide) (h : ∀ r, r < R → 0 ≤ f r ∧ f r ≤ 1073741824) : rgsB R ((List.range R).map fun r => arR wide (f r)) = true := by
  unfold rgsB
  rw [Bool.and_eq_true, decide_eq_true_eq, List.length_map, List.length_range]
  refine ⟨rfl, List.all_eq_true.2 fun y hy => ?_⟩
  obtain ⟨r, hr, rfl⟩ := List.mem_map.1 hy
  exact (arR_ok (h r (List.mem_range.1 hr)) hw).1
theorem OfOk.wave (h : OfOk d x hour wide) : wavesB d (-1) [ofW d x hour wide] = true := by
  have hh := h.h
  obtain ⟨b1, b2⟩ := h.bounds
  unfold wavesB waveB wavesB
  rw [Bool.and_true, Bool.and_eq_true, Bool.and_eq_true, Bool.and_eq_true, Bool.and_eq_true]
  exact ⟨decide_eq_true (show -1 < hour by omega), decide_eq_true hh.2, rgs_map h.w.1 fun r hr => (b1 r hr).1, rgs_map h.w.1 fun r hr => (b2 r hr).1, rgs_map h.w.1 fun r hr => (b1 r hr).2⟩
/-- The wave alone is a right evidence. -/
theorem OfOk.ev (h : OfOk d x hour wide) : evErr d ⟨[ofW d x hour wide], []⟩ = 0 := by
  unfold evErr
  rw [if_neg (by simp [dErr_ok.2 (bErr_ok.1 h.b).1]), if_neg (by simp)]
  show (if wavesB d (-1) [ofW d x hour wide] && true then (0 : Int) else 480) = 0
  rw [h.wave]; rfl
theorem getD_mapT {α : Type} {R : Nat} {f : Nat → α} {k : Nat} {z : α} (h : k < R) : ((List.range R).map f).getD k z = f k := by
  rw [List.getD_eq_getElem?_getD, List.getElem?_map, List.getElem?_range h]; rfl
theorem in_around {R : Nat} {f : Nat → Int} {kind : Int} (y : Ev) (hw : 0 ≤ wide) (h : ∀ r, r < R → 0 ≤ f r ∧ f r ≤ 1073741824) : inB (blF y []) kind ((List.range R).map f) ((List.range R).map fun r => arR wide (f r)) = true := by
  rw [inB_iff]
  refine ⟨by simp, fun i hi => ?_⟩
  have hi : i < R := by simpa using hi
  rw [getD_mapT hi, getD_mapT hi]
  unfold meterV
  rw [blF_nil]
  exact (arR_ok (h i hi) hw).2
theorem sumF_zero {q : Nat → Bool} {f : Nat → Int} {k : Nat} (h : ∀ i, i < k → f i = 0) : sumF q f k = 0 := by
  rw [sumF_congr (g := fun _ => 0) h]
  unfold sumF
  generalize (List.range k).filter q = l
  induction l with
  | nil => rfl
  | cons a l ih => rw [List.map_cons, List.sum_cons, ih]; rfl
/-- What really happened fits, with nobody. -/
theorem OfOk.fits (h : OfOk d x hour wide) (y : Ev) (hy : y.suspects.length = n) : FitsL d y (blF y []) (ofW d x hour wide) (ofT d x hour n) := by
  obtain ⟨b1, b2⟩ := h.bounds
  obtain ⟨hf, hR⟩ := bErr_fm h.b
  have ht := h.tre
  refine ⟨in_around y h.w.1 fun r hr => (b1 r hr).1, in_around y h.w.1 fun r hr => (b2 r hr).1, in_around y h.w.1 fun r hr => (b1 r hr).2, by simp [ofT], by simp [ofT, hy], fun i hi => ?_, fun r hr => ?_⟩
  · have e0 : (List.replicate n (0 : Int)).getD i 0 = 0 := by rw [List.getD_eq_getElem?_getD, List.getElem?_replicate_of_lt (by omega)]; rfl
    show 0 ≤ (List.replicate n (0 : Int)).getD i 0 ∧ (List.replicate n (0 : Int)).getD i 0 ≤ mostT y (blF y []) i
    rw [e0]
    unfold mostT
    split
    · rw [blF_nil]; exact ⟨Int.le_refl _, Int.le_refl _⟩
    · exact ⟨Int.le_refl _, Int.le_refl _⟩
  obtain ⟨p1, p2, p3, p4, p5, p6⟩ := h.at_ hr
  have hent : ent d r (endV d hour r) = ((atV d hour r : Nat) : Int) := by unfold ent; omega
  have hp : parc d x (endV d hour r) r = (g2 x.inn r (atV d hour r), g2 x.evap r (atV d hour r), g2 x.seep r (atV d hour r)) := by
    unfold parc; rw [if_pos (by omega), hent, Int.toNat_natCast]
  have hb := hR.bal r _ hr p6
  unfold balI at hb
  rw [decide_eq_true_eq, hp] at hb
  have hlk := left_ok48 hf hR hr p6
  rw [hp] at hlk
  have hout : out3 d y (ofT d x hour n) d.farms.length r = leftN d x r (endV d hour r) := by
    unfold out3 out2 out1
    rw [sumF_zero (q := qP y r) (f := fun i => (ofT d x hour n).taken.getD i 0) fun i hi => by
      show (List.replicate n (0 : Int)).getD i 0 = 0
      rw [List.getD_eq_getElem?_getD, List.getElem?_replicate_of_lt (by omega)]; rfl]
    have e1 : (ofT d x hour n).tails.getD r 0 = g2 x.tail r (endV d hour r) := getD_mapT hr
    have e2 : sumF (qH d r) (fun i => (ofT d x hour n).heads.getD i 0) d.reaches.length = sumL (childL d x (endV d hour r) r d.reaches.length) := by
      unfold sumF sumL childL
      rw [List.map_map]
      congr 1
      show List.map _ ((List.range d.reaches.length).filter fun j : Nat => decide ((rch d j).up = (r : Int))) = _
      refine List.map_congr_left fun j hj => ?_
      rw [List.mem_filter, List.mem_range, decide_eq_true_eq] at hj
      show ((List.range d.reaches.length).map fun r => hdV d x hour r).getD j 0 = g2 x.inn j (endV d hour r)
      rw [getD_mapT hj.1]
      unfold hdV atV endV
      rw [hj.2]
    have e3 : sumF (qO d r) (fun i => (ofT d x hour n).outlets.getD i 0) d.farms.length = sumL (farmL d x (endV d hour r) r d.farms.length) := by
      unfold sumF sumL farmL
      rw [List.map_map]
      congr 1
      show List.map _ ((List.range d.farms.length).filter fun j : Nat => decide ((frm d j).reach = (r : Int))) = _
      refine List.map_congr_left fun j hj => ?_
      rw [List.mem_filter, List.mem_range, decide_eq_true_eq] at hj
      show ((List.range d.farms.length).map fun r => otV d x hour r).getD j 0 = g2 x.taken j (endV d hour r)
      rw [getD_mapT hj.1]
      unfold otV
      rw [hj.2, Int.toNat_natCast]
    rw [e1, e2, e3]
    unfold leftN
    omega
  have ea : (ofT d x hour n).arrived.getD r 0 = arV d x hour r := getD_mapT hr
  have eh : (ofT d x hour n).heads.getD r 0 = hdV d x hour r := getD_mapT hr
  obtain ⟨-, hlo, -⟩ := hf.at_ (reach_at hr)
  have he : lErr (rcE d r) (hdV d x hour r) = 0 := lErr_ok.2 ⟨hlo, (b1 r hr).1⟩
  rw [ea, eh, hout]
  unfold worstV bestV
  rw [if_pos he, if_pos he]
  refine ⟨by unfold arV; exact hb, hlk⟩
/-- Nobody explains it, and whoever else is suspected, too. -/
theorem OfOk.table (h : OfOk d x hour wide) {y : Ev} (hy : y.waves = [ofW d x hour wide]) (he : evErr d y = 0) : accV d y [] [ofT d x hour y.suspects.length] = true ∧ ∀ b ∈ tableV d y, b = true := by
  have h0 : askErr d y [] = 0 := askErr_ok.2 ⟨he, rfl⟩
  have ha : accV d y [] [ofT d x hour y.suspects.length] = true := by
    unfold accV allB
    rw [if_pos h0, hy]
    show (decide (1 = 1) && (fitsB d y (blF y []) (ofW d x hour wide) (ofT d x hour y.suspects.length) && true)) = true
    rw [fitsB_iff.2 (h.fits y rfl)]; rfl
  refine ⟨ha, fun b hb => ?_⟩
  obtain ⟨n, hn, rfl⟩ := List.getElem_of_mem hb
  have hn' : n < 2 ^ y.suspects.length := by rw [table_len he] at hn; exact hn
  have hg := table_get he hn'
  rw [List.getElem?_eq_getElem hn] at hg
  injection hg with hg
  rw [hg]
  exact expl_more h0 (ask_members he n) rfl (fun i hi => by simp at hi) rfl (fun k v v' h1 h2 => by rw [h1] at h2; injection h2 with h2; rw [h2]; exact .refl _) (acc_expl ha)
end
end Go.Proofs.YtffdjecdcbbfaaaGreat

/- Layer 48: contract of Of. -/
namespace Go.Proofs.YtffdjecdcbbfaaaGreat
open Go Go.RowKit

/-- Slices by class: those of two classes do not share. -/
def cof (cls : Nat → Nat) (A : Option Addr) (i : Nat) : Prop := ∀ g, A = some (ad g 0) → cls g = i
theorem cof.none {cls : Nat → Nat} {i : Nat} : cof cls none i := fun g h => by cases h
section
variable {w0 w u : World} {A B : Option Addr} {n c sz m k sy i j : Nat} {e t : TypeId} {cs ds : List Value} {cls cls' : Nat → Nat}
theorem cof.ne (hA : cof cls A i) (hB : cof cls B j) (h : i ≠ j) : dj A B := fun g h1 h2 => h (by rw [← hA g h1, ← hB g h2])
theorem cof.keep (h : cof cls A i) (o : OwnF w0 w A n c e sz cs) (hk : ∀ b, b < w.heap.size → cls' b = cls b) : cof cls' A i := fun g hg => by
  rw [hk g (Own.lt o.own (by rw [hg]; rfl))]; exact h g hg
theorem cof_up {A' B' : Option Addr} (hA : cof cls A i) (hB : cof cls B j) (_oA : OwnF w0 w A n c e sz cs) (_oB : OwnF w0 w B m k t sy ds) (nA : nw w A A') (nB : nw w B B') (hd : dj A' B') :
    ∃ cls' : Nat → Nat, (∀ b, b < w.heap.size → cls' b = cls b) ∧ cof cls' A' i ∧ cof cls' B' j := by
  classical
  refine ⟨fun b => if b < w.heap.size then cls b else if A' = some (ad b 0) then i else j, fun b hb => if_pos hb, fun g hg => ?_, fun g hg => ?_⟩
  · by_cases hl : g < w.heap.size
    · show (if g < w.heap.size then cls g else _) = i
      rw [if_pos hl]
      rcases nA with h | h | ⟨g', h, hge⟩
      · exact hA g (h ▸ hg)
      · rw [h] at hg; cases hg
      · rw [h] at hg; injection hg with hg; injection hg with hg; omega
    · show (if g < w.heap.size then cls g else if A' = some (ad g 0) then i else j) = i
      rw [if_neg hl, if_pos hg]
  · by_cases hl : g < w.heap.size
    · show (if g < w.heap.size then cls g else _) = j
      rw [if_pos hl]
      rcases nB with h | h | ⟨g', h, hge⟩
      · exact hB g (h ▸ hg)
      · rw [h] at hg; cases hg
      · rw [h] at hg; injection hg with hg; injection hg with hg; omega
    · show (if g < w.heap.size then cls g else if A' = some (ad g 0) then i else j) = j
      rw [if_neg hl, if_neg fun h => hd g h hg]
theorem cof_up1 {A' : Option Addr} (hA : cof cls A i) (nA : nw w A A') : ∃ cls' : Nat → Nat, (∀ b, b < w.heap.size → cls' b = cls b) ∧ cof cls' A' i := by
  refine ⟨fun b => if b < w.heap.size then cls b else i, fun b hb => if_pos hb, fun g hg => ?_⟩
  by_cases hl : g < w.heap.size
  · show (if g < w.heap.size then cls g else _) = i
    rw [if_pos hl]
    rcases nA with h | h | ⟨g', h, hge⟩
    · exact hA g (h ▸ hg)
    · rw [h] at hg; cases hg
    · rw [h] at hg; injection hg with hg; injection hg with hg; omega
  · show (if g < w.heap.size then cls g else i) = i
    rw [if_neg hl]
/-- What a put into two other slices leaves. -/
theorem OwnF.past {X : Option Addr} {bT bW l : Nat} {tT tW : TypeId} {csT csW : List Value} (o : OwnF w0 w X n c e sz cs) (cX : cof cls X l) (cA : cof cls A i) (cB : cof cls B j) (hT : Blk w bT tT csT) (hW : Blk w bW tW csW)
    (k : Kept (fun b => b ≠ bT ∧ b ≠ bW ∧ A ≠ some (ad b 0) ∧ B ≠ some (ad b 0)) w u) (hx : Ext w0 u) (h1 : l ≠ i) (h2 : l ≠ j) (h3 : tT ≠ e) (h4 : tW ≠ e) : OwnF w0 u X n c e sz cs :=
  o.thenK k (fun g hg => ⟨fun e' => own_ty o hT h3 (e' ▸ hg), fun e' => own_ty o hW h4 (e' ▸ hg), fun h => cX.ne cA h1 g hg h, fun h => cX.ne cB h2 g hg h⟩) hx
end
def rcells (k : Nat) (f : Nat → Rg) : List Value := (List.range k).flatMap fun r => (f r).c
theorem icells_snoc (k : Nat) (f : Nat → Int) : icells (k + 1) f = icells k f ++ [iv (f k)] := by unfold icells; rw [List.range_succ, List.map_append]; rfl
theorem rcells_snoc (k : Nat) (f : Nat → Rg) : rcells (k + 1) f = rcells k f ++ [iv (f k).lo, iv (f k).hi] := by unfold rcells; rw [List.range_succ, List.flatMap_append]; rfl
theorem flat_rgO {D : Nat → Prop} {w : World} : ∀ {l : List Rg}, FlatR tRg D w l (l.flatMap Rg.c)
  | [] => rfl
  | m :: l => ⟨m.c, l.flatMap Rg.c, rfl, rfl, flat_rgO⟩
theorem OwnF.rgs {w0 w : World} {A : Option Addr} {n c k : Nat} {e : TypeId} {f : Nat → Rg} {D : Nat → Prop} (h : OwnF w0 w A n c e 2 (rcells k f)) (hn : n = k) (hle : n ≤ 140737488355328) (hD : ∀ b, w0.heap.size ≤ b → D b) : SlR tRg D w A n ((List.range k).map f) :=
  Own.rd (a := tRg) (e := e) h.own (by rw [show rcells k f = ((List.range k).map f).flatMap Rg.c from by unfold rcells; rw [List.flatMap_map]]; exact flat_rgO) (by rw [List.length_map, List.length_range]; exact hn) hle fun g hg => hD g (h.new g hg)
theorem OwnF.icl {w0 w : World} {A : Option Addr} {n c k : Nat} {e : TypeId} {f : Nat → Int} {D : Nat → Prop} (h : OwnF w0 w A n c e 1 (icells k f)) (hb : ∀ r, r < k → I64 (f r)) (hle : n ≤ 140737488355328) (hD : ∀ b, w0.heap.size ≤ b → D b) : SlR tInt D w A n ((List.range k).map f) :=
  OwnF.ints (xs := (List.range k).map f) (by rw [List.map_map]; exact h) (fun x hx => by obtain ⟨r, hr, rfl⟩ := List.mem_map.1 hx; exact hb r (List.mem_range.1 hr)) hle hD

/-- What the function has so far: of k reaches and f farms. -/
structure OfI (w0 u : World) (bW bT bw : Nat) (d : Dist) (x : Run) (hour wide : Int) (k f : Nat) (En : Option Addr) (ec : Nat) : Prop where
  of_ ::
  ex : ∃ HT c1 OT c2 TT c3 AT c4 HW c5 OW c6 TW c7 cls,
    Blk u bT 61 [.slice HT k c1, .slice OT f c2, .slice TT k c3, .slice AT k c4, .slice none 0 0] ∧
    Blk u bW 59 [iv hour, .slice HW k c5, .slice OW f c6, .slice TW k c7] ∧
    (OwnF w0 u HT k c1 3 1 (icells k (hdV d x hour)) ∧ cof cls HT 1) ∧
    (OwnF w0 u OT f c2 3 1 (icells f (otV d x hour)) ∧ cof cls OT 2) ∧
    (OwnF w0 u TT k c3 3 1 (icells k (tlV d x hour)) ∧ cof cls TT 3) ∧
    (OwnF w0 u AT k c4 3 1 (icells k (arV d x hour)) ∧ cof cls AT 4) ∧
    (OwnF w0 u HW k c5 101 2 (rcells k fun r => arR wide (hdV d x hour r)) ∧ cof cls HW 5) ∧
    (OwnF w0 u OW f c6 101 2 (rcells f fun r => arR wide (otV d x hour r)) ∧ cof cls OW 6) ∧
    (OwnF w0 u TW k c7 101 2 (rcells k fun r => arR wide (tlV d x hour r)) ∧ cof cls TW 7) ∧
    (OwnF w0 u En k ec 3 1 (icells k fun r => (endV d hour r : Int)) ∧ cof cls En 8) ∧ cls bw = 9
theorem OfI.ext {w0 u u' : World} {bW bT bw k f ec : Nat} {d : Dist} {x : Run} {hour wide : Int} {En : Option Addr} (h : OfI w0 u bW bT bw d x hour wide k f En ec) (y : Ext u u') : OfI w0 u' bW bT bw d x hour wide k f En ec := by
  obtain ⟨HT, c1, OT, c2, TT, c3, AT, c4, HW, c5, OW, c6, TW, c7, cls, T, W, ⟨o1, k1⟩, ⟨o2, k2⟩, ⟨o3, k3⟩, ⟨o4, k4⟩, ⟨o5, k5⟩, ⟨o6, k6⟩, ⟨o7, k7⟩, ⟨o8, k8⟩, k9⟩ := h.ex
  exact ⟨HT, c1, OT, c2, TT, c3, AT, c4, HW, c5, OW, c6, TW, c7, cls, T.ext y, W.ext y, ⟨o1.then y, k1⟩, ⟨o2.then y, k2⟩, ⟨o3.then y, k3⟩, ⟨o4.then y, k4⟩, ⟨o5.then y, k5⟩, ⟨o6.then y, k6⟩, ⟨o7.then y, k7⟩, ⟨o8.then y, k8⟩, k9⟩
def ofWv (d : Dist) (x : Run) (hour wide : Int) : Wv := if ofErr d x hour wide = 0 then ofW d x hour wide else ⟨0, [], [], []⟩
def ofTv (d : Dist) (x : Run) (hour wide : Int) : Tru := if ofErr d x hour wide = 0 then ofT d x hour 0 else ⟨[], [], [], [], []⟩
/-- What Of answers. -/
def OfA (w w' : World) (v : Value) (d : Dist) (x : Run) (hour wide : Int) : Prop :=
  ∃ cw ct, v = .tuple #[.agg cw.toArray, .agg ct.toArray, iv (ofErr d x hour wide)] ∧ Ext w w' ∧ tWv.rep (fun b => w.heap.size ≤ b) w' cw (ofWv d x hour wide) ∧ tTru.rep (fun b => w.heap.size ≤ b) w' ct (ofTv d x hour wide)
theorem ofA_err {w w' : World} {d : Dist} {x : Run} {hour wide e : Int} (he : ofErr d x hour wide = e) (h0 : e ≠ 0) (hx : Ext w w') : OfA w w' (.tuple #[.agg #[iv 0, .slice none 0 0, .slice none 0 0, .slice none 0 0], .agg #[.slice none 0 0, .slice none 0 0, .slice none 0 0, .slice none 0 0, .slice none 0 0], iv e]) d x hour wide := by
  refine ⟨[iv 0, .slice none 0 0, .slice none 0 0, .slice none 0 0], [.slice none 0 0, .slice none 0 0, .slice none 0 0, .slice none 0 0, .slice none 0 0], by rw [he], hx, ?_, ?_⟩
  · unfold ofWv
    rw [if_neg (by rw [he]; exact h0)]
    exact ⟨[iv 0], [.slice none 0 0, .slice none 0 0, .slice none 0 0], rfl, ⟨rfl, by unfold I64; decide⟩, [.slice none 0 0], [.slice none 0 0, .slice none 0 0], rfl, ⟨none, 0, 0, rfl, .nil, Nat.le_refl _⟩, [.slice none 0 0], [.slice none 0 0], rfl, ⟨none, 0, 0, rfl, .nil, Nat.le_refl _⟩, none, 0, 0, rfl, .nil, Nat.le_refl _⟩
  · unfold ofTv
    rw [if_neg (by rw [he]; exact h0)]
    exact ⟨[.slice none 0 0], [.slice none 0 0, .slice none 0 0, .slice none 0 0, .slice none 0 0], rfl, ⟨none, 0, 0, rfl, .nil, Nat.le_refl _⟩, [.slice none 0 0], [.slice none 0 0, .slice none 0 0, .slice none 0 0], rfl, ⟨none, 0, 0, rfl, .nil, Nat.le_refl _⟩, [.slice none 0 0], [.slice none 0 0, .slice none 0 0], rfl, ⟨none, 0, 0, rfl, .nil, Nat.le_refl _⟩, [.slice none 0 0], [.slice none 0 0], rfl, ⟨none, 0, 0, rfl, .nil, Nat.le_refl _⟩, none, 0, 0, rfl, .nil, Nat.le_refl _⟩
end Go.Proofs.YtffdjecdcbbfaaaGreat
