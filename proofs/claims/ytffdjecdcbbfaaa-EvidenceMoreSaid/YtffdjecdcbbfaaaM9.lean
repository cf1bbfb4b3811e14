/- Parts of the proof: Em En Eo Ep Eq Er Za. -/
import Derived.Test.YtffdjecdcbbfaaaM8
import Derived.Test.YtffdjecdcbbfaaaM2
import Derived.Test.YtffdjecdcbbfaaaM5
import Derived.Test.YtffdjecdcbbfaaaRows
import Derived.Stop.LaidErr

/- Layer 48: the laws' sane answers true. -/
namespace Go.Proofs.Ytffdjecdcbbfaaa
open Go Go.RowKit

structure SaR (u : World) (csd : List Value) (b1 b3 wq sq : Nat) (H O T : Option Addr) (hn hc om oc tn tc : Nat) (x y : Int) : Prop where
  hd : DiR (fun b => b ≠ wq) u csd sD48
  bd : Blk u b1 31 csd
  bx : Blk u b3 35 [.slice (some (ad wq 0)) 1 1, .slice (some (ad sq 0)) 3 3]
  wv : Blk u wq 53 [iv 3, .slice H hn hc, .slice O om oc, .slice T tn tc]
  h1 : SlR tRg (fun b => b ≠ wq) u H hn [⟨20, 20⟩, ⟨8, 8⟩]
  h2 : SlR tRg (fun b => b ≠ wq) u O om [⟨5, 5⟩, ⟨6, 6⟩]
  h3 : SlR tRg (fun b => b ≠ wq) u T tn [⟨x, x⟩, ⟨y, y⟩]
  su : Blk u sq 74 [iv 2, iv 1, iv 9, iv 4, iv 0, iv 3, iv 4, iv 1, iv 4]
  n1 : b1 ≠ wq
  n3 : b3 ≠ wq
  ns : sq ≠ wq
  c1 : hn ≤ hc
  c2 : om ≤ oc
  c3 : tn ≤ tc
theorem smallJ {l : List Int} (h : (l.all fun x => decide (0 ≤ x) && decide (x ≤ 100)) = true) : ∀ x ∈ l, I64 x := fun x hx => by have := List.all_eq_true.1 h x hx; simp only [Bool.and_eq_true, decide_eq_true_eq] at this; unfold I64; constructor <;> omega
theorem SaR.ext {u u' : World} {csd : List Value} {b1 b3 wq sq : Nat} {H O T : Option Addr} {hn hc om oc tn tc : Nat} {x y : Int} (s : SaR u csd b1 b3 wq sq H O T hn hc om oc tn tc x y) (k : Ext u u') : SaR u' csd b1 b3 wq sq H O T hn hc om oc tn tc x y :=
  ⟨s.hd.ext k, s.bd.ext k, s.bx.ext k, s.wv.ext k, s.h1.ext k, s.h2.ext k, s.h3.ext k, s.su.ext k, s.n1, s.n3, s.ns, s.c1, s.c2, s.c3⟩
/-- The tails' list is put in its place. -/
theorem SaR.put {u u' : World} {csd : List Value} {b1 b3 wq sq : Nat} {H O T T' : Option Addr} {hn hc om oc tn tc tn' tc' : Nat} {x y x' y' : Int} (s : SaR u csd b1 b3 wq sq H O T hn hc om oc tn tc x y) (k : Kept (fun b => b ≠ wq) u u') (hw : Blk u' wq 53 [iv 3, .slice H hn hc, .slice O om oc, .slice T' tn' tc'])
    (ht : SlR tRg (fun b => b ≠ wq) u T' tn' [⟨x', x'⟩, ⟨y', y'⟩]) (hc3 : tn' ≤ tc') : SaR u' csd b1 b3 wq sq H O T' hn hc om oc tn' tc' x' y' :=
  ⟨s.hd.kept k fun _ _ h => h, s.bd.kept k s.n1, s.bx.kept k s.n3, hw, s.h1.kept k fun _ _ h => h, s.h2.kept k fun _ _ h => h, ht.kept k fun _ _ h => h, s.su.kept k s.ns, s.n1, s.n3, s.ns, s.c1, s.c2, hc3⟩
theorem SaR.ev {u : World} {csd : List Value} {b1 b3 wq sq : Nat} {H O T : Option Addr} {hn hc om oc tn tc : Nat} {x y : Int} (s : SaR u csd b1 b3 wq sq H O T hn hc om oc tn tc x y) : EvR (fun _ => True) u [.slice (some (ad wq 0)) 1 1, .slice (some (ad sq 0)) 3 3] (sX48 x y) := by
  refine EvR.of_ ⟨_, _, _, _, _, _, rfl, ?_, ?_, Nat.le_refl _, Nat.le_refl _⟩
  · exact SlR.of_cells rfl (by decide) trivial (.blk s.wv) ⟨[iv 3, .slice H hn hc, .slice O om oc, .slice T tn tc], [], rfl, ⟨[iv 3], _, rfl, ⟨rfl, show I64 3 from ⟨by decide, by decide⟩⟩, _, _, rfl, ⟨_, _, _, rfl, s.h1.more (by decide) fun _ _ _ => trivial, s.c1⟩, _, _, rfl, ⟨_, _, _, rfl, s.h2.more (by decide) fun _ _ _ => trivial, s.c2⟩, _, _, _, rfl, s.h3.more (by decide) fun _ _ _ => trivial, s.c3⟩, rfl⟩
  · exact SlR.of_cells rfl (by decide) trivial (.blk s.su) ⟨_, _, rfl, rfl, _, _, rfl, rfl, _, _, rfl, rfl, rfl⟩
theorem nD_R {w : World} : DiR (fun _ => True) w [.string ByteArray.empty, iv 0, iv 0, iv 0, .slice none 0 0, .slice none 0 0, .slice none 0 0, .slice none 0 0, .slice none 0 0, .slice none 0 0] nD48 := DiR.of_ ⟨_, _, _, _, _, _, _, _, _, _, _, _, _, _, _, _, _, _, rfl, .nil, .nil, .nil, .nil, .nil, .nil⟩
theorem nX_R {w : World} : EvR (fun _ => True) w [.slice none 0 0, .slice none 0 0] nX48 := EvR.of_ ⟨_, _, _, _, _, _, rfl, .nil, .nil, Nat.le_refl _, Nat.le_refl _⟩
theorem OwnF.bools {w0 w : World} {D : Nat → Prop} {A : Option Addr} {n c : Nat} {xs : List Bool} (h : OwnF w0 w A n c 4 1 (xs.map fun b => Value.bool b)) (hle : xs.length ≤ 140737488355328) (hD : ∀ b, w0.heap.size ≤ b → D b) : SlR tBool D w A n xs := by
  have hf : ∀ {ys : List Bool}, FlatR tBool D w ys (ys.map fun b => Value.bool b) := fun {ys} => by
    induction ys with
    | nil => rfl
    | cons y ys ih => exact ⟨[.bool y], _, rfl, rfl, ih⟩
  have hl := h.own.len
  rw [List.length_map, Nat.mul_one] at hl
  refine h.own.rd (a := tBool) hf hl.symm (by omega) ?_
  rintro g rfl
  rcases h.form with ⟨h, -⟩ | ⟨g'', hg', hg1, -⟩
  · cases h
  · injection hg' with hg'; injection hg' with hg'; exact hD _ (by omega)
theorem blk_bools {w : World} {b : Nat} {xs : List Bool} (h : Blk w b 4 (xs.map fun b => Value.bool b)) (hle : xs.length ≤ 140737488355328) : SlR tBool (fun _ => True) w (some (ad b 0)) xs.length xs := by
  have hf : ∀ {ys : List Bool}, FlatR tBool (fun _ => True) w ys (ys.map fun b => Value.bool b) := fun {ys} => by
    induction ys with
    | nil => rfl
    | cons y ys ih => exact ⟨[.bool y], _, rfl, rfl, ih⟩
  exact SlR.of_cells rfl hle trivial (.blk h) hf
section
variable {w : World}
set_option maxRecDepth 8000 in
theorem c_esane : CallZ Try.prog 6 #[] w (fun v w' => v = .bool true ∧ Ext w w') := by
  refine fn_rule (args := []) Try.func6 (by kernel_rfl) ?_
  refine call_of c_district ?_
  rintro _ w1 ⟨x1, csd, rfl, hd⟩
  obtain ⟨A1, n1, c1, A2, n2, c2, A3, n3, c3, A4, n4, c4, A5, n5, c5, A6, n6, c6, hcsd, -⟩ := hd.ex
  refine alloc (fun b1 w2 h2 => ?_)
  have a2 := h2.at_
  have hcl : csd.length = 10 := by rw [hcsd]; rfl
  refine stA (vs := csd) h2.blk hcl (by rw [hcl]; exact Nat.le_of_ble_eq_true rfl) (by rw [hcsd]; simp [Value.oneCell']) (fun w3 d3 k3 s3 => ?_)
  have x13 : Ext w1 w3 := h2.ext.then k3 fun b hb _ => by omega
  have d3 : Blk w3 b1 31 csd := by rw [hcsd] at d3 ⊢; exact d3
  have x03 := x1.trans x13
  refine lit [iv 20, iv 8] (fun g4 w4 h4 => ?_)
  refine call_of (c_exact (D := fun _ => True) (l := [20, 8]) (SlR.of_cells rfl (by decide) trivial (.blk h4.blk) (flat_ints (smallJ (by decide)))) (by decide)) ?_
  rintro _ w5 ⟨x5, H, hn, hc, rfl, leH, sH⟩
  have z4 := h4.size
  have z5 := x5.size
  refine lit [iv 5, iv 6] (fun g6 w6 h6 => ?_)
  refine call_of (c_exact (D := fun _ => True) (l := [5, 6]) (SlR.of_cells rfl (by decide) trivial (.blk h6.blk) (flat_ints (smallJ (by decide)))) (by decide)) ?_
  rintro _ w7 ⟨x7, O, om, oc, rfl, leO, sO⟩
  have z6 := h6.size
  have z7 := x7.size
  refine lit [iv 5, iv 2] (fun g8 w8 h8 => ?_)
  refine call_of (c_exact (D := fun _ => True) (l := [5, 2]) (SlR.of_cells rfl (by decide) trivial (.blk h8.blk) (flat_ints (smallJ (by decide)))) (by decide)) ?_
  rintro _ w9 ⟨x9, T, tn, tc, rfl, leT, sT⟩
  have z8 := h8.size
  have z9 := x9.size
  have z3 := s3
  have z2 := h2.size
  refine bld [iv 3, .slice H hn hc, .slice O om oc, .slice T tn tc] (by kernel_rfl) ?_
  refine alloc (fun q10 w10 h10 => ?_)
  have a10 := h10.at_
  refine stA (vs := [iv 3, .slice H hn hc, .slice O om oc, .slice T tn tc]) h10.blk rfl (Nat.le_of_ble_eq_true rfl) (by simp [Value.oneCell']) (fun w11 b11 k11 s11 => ?_)
  have b11 : Blk w11 q10 53 [iv 3, .slice H hn hc, .slice O om oc, .slice T tn tc] := b11
  have z10 := h10.size
  have x911 : Ext w9 w11 := h10.ext.then k11 fun b hb _ => by omega
  refine ldA [iv 3, .slice H hn hc, .slice O om oc, .slice T tn tc] (.blk b11) rfl ?_
  refine lit [.agg #[iv 3, .slice H hn hc, .slice O om oc, .slice T tn tc]] (fun wq w12 h12 => ?_)
  have a12 := h12.at_
  have z12 := h12.size
  refine bld [iv 2, iv 1, iv 9] (by kernel_rfl) ?_
  refine bld [iv 4, iv 0, iv 3] (by kernel_rfl) ?_
  refine bld [iv 4, iv 1, iv 4] (by kernel_rfl) ?_
  refine lit [.agg #[iv 2, iv 1, iv 9], .agg #[iv 4, iv 0, iv 3], .agg #[iv 4, iv 1, iv 4]] (fun sq w13 h13 => ?_)
  have a13 := h13.at_
  have z13 := h13.size
  refine bld [.slice (some (ad wq 0)) 1 1, .slice (some (ad sq 0)) 3 3] (by kernel_rfl) ?_
  refine alloc (fun b3 w14 h14 => ?_)
  have a14 := h14.at_
  have z14 := h14.size
  refine stA (vs := [.slice (some (ad wq 0)) 1 1, .slice (some (ad sq 0)) 3 3]) h14.blk rfl (Nat.le_of_ble_eq_true rfl) (by simp [Value.oneCell']) (fun w15 b15 k15 s15 => ?_)
  have b15 : Blk w15 b3 35 [.slice (some (ad wq 0)) 1 1, .slice (some (ad sq 0)) 3 3] := b15
  have x1415 : Kept (fun b => b < w14.heap.size ∧ b ≠ b3) w14 w15 := k15.weak fun b _ h => h.2
  have x1315 : Ext w13 w15 := h14.ext.then k15 fun b hb _ => by omega
  have x915 : Ext w9 w15 := ((x911.trans h12.ext).trans h13.ext).trans x1315
  have x515 : Ext w5 w15 := (((h6.ext.trans x7).trans h8.ext).trans x9).trans x915
  have x715 : Ext w7 w15 := (h8.ext.trans x9).trans x915
  have x315 : Ext w3 w15 := (h4.ext.trans x5).trans x515
  have x115 := x13.trans x315
  have x015 := x03.trans x315
  have le1 := x1.size
  have ld3 := d3.lt
  have s : SaR w15 csd b1 b3 wq sq H O T hn hc om oc tn tc 5 2 := by
    exact ⟨(hd.more fun b hb _ => by omega).ext x115, d3.ext x315, b15, (h12.blk.ext h13.ext).ext x1315, (sH.more (by decide) fun b hb _ => by omega).ext x515, (sO.more (by decide) fun b hb _ => by omega).ext x715, (sT.more (by decide) fun b hb _ => by omega).ext x915, h13.blk.ext x1315, by omega, by omega, by omega, leH, leO, leT⟩
  have X := x015
  have hwq : w.heap.size ≤ wq := by omega
  clear x015 x115 x315 x715 x515 x915 x1315 x1415 b15 sH sO sT hd d3 x13 x03

  subst hcsd
  refine ldA _ (.blk s.bd) rfl ?_
  refine ldA [.slice (some (ad wq 0)) 1 1, .slice (some (ad sq 0)) 3 3] (.blk s.bx) rfl ?_
  have cc := c_Explains (set := []) (c := 0) (s.hd.more (D' := fun _ => True) fun _ _ _ => trivial) s.ev (SlR.nil (a := tInt) (D := fun _ => True) (A := none))
  rw [se1, sf1] at cc
  refine call_of cc ?_
  clear cc
  rintro _ w16 ⟨rfl, y16⟩
  have s := s.ext y16
  have X := X.trans y16
  refine drawK (fun b => b ≠ wq) [0, 1, 2, 3, 4, 5, 6] [2, 3, 6] mx (by kernel_rfl) ?_
  have s0 := s
  refine fldA ?_
  refine ldK (.slice (some (ad wq 0)) 1 1) (s0.bx.cell rfl) s0.n3 (.refl _ _) ?_
  refine lit [iv 5, iv 1] (fun g17 w17 h17 => ?_)
  refine strK (Ext.any h17.ext) ?_
  have cc := c_exact (w := w17) (D := fun _ => True) (l := [5, 1]) (n := 2) (c := 2) (SlR.of_cells rfl (by decide) trivial (.blk h17.blk) (flat_ints (smallJ (by decide)))) (by decide)
  refine call_of cc ?_
  clear cc
  rintro _ v17 ⟨y17, T17, tn17, tc17, rfl, le17, sT17⟩
  refine strK (Ext.any y17) ?_
  have s1 := (s0.ext h17.ext).ext y17
  have lw := s0.wv.lt
  have z17 := h17.size
  refine idx 0 rfl (by decide) ?_
  refine fldA ?_
  refine st s1.wv (Nat.le_of_ble_eq_true rfl) rfl (fun u17 p17 k17 q17 => ?_)
  refine strK (k17.weak fun b _ h => h) ?_
  have s := s1.put k17 p17 (sT17.more (by decide) fun b hb h => by omega) le17
  have X := ((X.trans h17.ext).trans y17).then k17 fun b hb _ e => by omega
  clear s0 s1
  refine ldA _ (.blk s.bd) rfl ?_
  refine ldA [.slice (some (ad wq 0)) 1 1, .slice (some (ad sq 0)) 3 3] (.blk s.bx) rfl ?_
  have cc := c_Explains (set := []) (c := 0) (s.hd.more (D' := fun _ => True) fun _ _ _ => trivial) s.ev (SlR.nil (a := tInt) (D := fun _ => True) (A := none))
  rw [se2, sf2] at cc
  refine call_of cc ?_
  clear cc
  rintro _ w18 ⟨rfl, y18⟩
  have s := s.ext y18
  have X := X.trans y18
  refine ldA _ (.blk s.bd) rfl ?_
  refine ldA [.slice (some (ad wq 0)) 1 1, .slice (some (ad sq 0)) 3 3] (.blk s.bx) rfl ?_
  refine lit [iv 0] (fun g19 w19 h19 => ?_)
  have s := s.ext h19.ext
  have X := X.trans h19.ext
  have cc := c_Explains (set := [0]) (c := 1) (s.hd.more (D' := fun _ => True) fun _ _ _ => trivial) s.ev (SlR.of_cells (a := tInt) (D := fun _ => True) (xs := [0]) rfl (by decide) trivial (.blk h19.blk) (flat_ints (smallJ (by decide))))
  rw [se3, sf3] at cc
  refine call_of cc ?_
  clear cc
  rintro _ w20 ⟨rfl, y20⟩
  have s := s.ext y20
  have X := X.trans y20
  refine ldA _ (.blk s.bd) rfl ?_
  refine ldA [.slice (some (ad wq 0)) 1 1, .slice (some (ad sq 0)) 3 3] (.blk s.bx) rfl ?_
  refine lit [iv 2] (fun g21 w21 h21 => ?_)
  have s := s.ext h21.ext
  have X := X.trans h21.ext
  have cc := c_Explains (set := [2]) (c := 1) (s.hd.more (D' := fun _ => True) fun _ _ _ => trivial) s.ev (SlR.of_cells (a := tInt) (D := fun _ => True) (xs := [2]) rfl (by decide) trivial (.blk h21.blk) (flat_ints (smallJ (by decide))))
  rw [se4, sf4] at cc
  refine call_of cc ?_
  clear cc
  rintro _ w22 ⟨rfl, y22⟩
  have s := s.ext y22
  have X := X.trans y22
  refine ldA _ (.blk s.bd) rfl ?_
  refine ldA [.slice (some (ad wq 0)) 1 1, .slice (some (ad sq 0)) 3 3] (.blk s.bx) rfl ?_
  have cc := c_Table (s.hd.more (D' := fun _ => True) fun _ _ _ => trivial) s.ev
  rw [stb1, sg1] at cc
  refine call_of cc ?_
  clear cc
  rintro _ w23 ⟨B1, nb1, cb1, rfl, ob1⟩
  have y23 := ob1.ext
  have lw1 := s.wv.lt
  have s := s.ext y23
  have tb1 := ob1.bools (D := fun b => b ≠ wq) (by decide) fun b hb e => by omega
  have X := X.trans y23
  refine drawK (fun b => b ≠ wq) [0, 1, 2, 3, 4, 5, 6] [2, 3, 6] mx (by kernel_rfl) ?_
  have s0 := s
  refine fldA ?_
  refine ldK (.slice (some (ad wq 0)) 1 1) (s0.bx.cell rfl) s0.n3 (.refl _ _) ?_
  refine lit [iv 3, iv 1] (fun g24 w24 h24 => ?_)
  refine strK (Ext.any h24.ext) ?_
  have cc := c_exact (w := w24) (D := fun _ => True) (l := [3, 1]) (n := 2) (c := 2) (SlR.of_cells rfl (by decide) trivial (.blk h24.blk) (flat_ints (smallJ (by decide)))) (by decide)
  refine call_of cc ?_
  clear cc
  rintro _ v24 ⟨y24, T24, tn24, tc24, rfl, le24, sT24⟩
  refine strK (Ext.any y24) ?_
  have s1 := (s0.ext h24.ext).ext y24
  have lw := s0.wv.lt
  have z24 := h24.size
  refine idx 0 rfl (by decide) ?_
  refine fldA ?_
  refine st s1.wv (Nat.le_of_ble_eq_true rfl) rfl (fun u24 p24 k24 q24 => ?_)
  refine strK (k24.weak fun b _ h => h) ?_
  have s := s1.put k24 p24 (sT24.more (by decide) fun b hb h => by omega) le24
  have X := ((X.trans h24.ext).trans y24).then k24 fun b hb _ e => by omega
  clear s0 s1
  have tb1 := tb1.ext h24.ext
  have tb1 := tb1.ext y24
  have tb1 := tb1.kept k24 fun _ _ h => h
  refine ldA _ (.blk s.bd) rfl ?_
  refine ldA [.slice (some (ad wq 0)) 1 1, .slice (some (ad sq 0)) 3 3] (.blk s.bx) rfl ?_
  have cc := c_Table (s.hd.more (D' := fun _ => True) fun _ _ _ => trivial) s.ev
  rw [stb2, sg2] at cc
  refine call_of cc ?_
  clear cc
  rintro _ w25 ⟨B2, nb2, cb2, rfl, ob2⟩
  have y25 := ob2.ext
  have lw2 := s.wv.lt
  have s := s.ext y25
  have tb2 := ob2.bools (D := fun b => b ≠ wq) (by decide) fun b hb e => by omega
  have X := X.trans y25
  have tb1 := tb1.ext y25
  refine ldA _ (.blk s.bd) rfl ?_
  refine ldA [.slice (some (ad wq 0)) 1 1, .slice (some (ad sq 0)) 3 3] (.blk s.bx) rfl ?_
  refine lit [iv 1, iv 2] (fun g26 w26 h26 => ?_)
  have s := s.ext h26.ext
  have X := X.trans h26.ext
  have tb1 := tb1.ext h26.ext
  have tb2 := tb2.ext h26.ext
  have cc := c_Find (set := [1, 2]) (c := 2) (s.hd.more (D' := fun _ => True) fun _ _ _ => trivial) s.ev (SlR.of_cells (a := tInt) (D := fun _ => True) (xs := [1, 2]) rfl (by decide) trivial (.blk h26.blk) (flat_ints (smallJ (by decide))))
  rw [se5, sf5] at cc
  refine call_of cc ?_
  clear cc
  rintro _ w27 ⟨y27, FA, fn, fc, rfl, fle, fR, -⟩
  have s := s.ext y27
  have X := X.trans y27
  have tb1 := tb1.ext y27
  have tb2 := tb2.ext y27
  have fR := (fR rfl).more (D' := fun _ => True) (by decide) fun _ _ _ => trivial
  refine ldA _ (.blk s.bd) rfl ?_
  refine ldA [.slice (some (ad wq 0)) 1 1, .slice (some (ad sq 0)) 3 3] (.blk s.bx) rfl ?_
  refine lit [iv 1, iv 2] (fun g28 w28 h28 => ?_)
  have s := s.ext h28.ext
  have X := X.trans h28.ext
  have tb1 := tb1.ext h28.ext
  have tb2 := tb2.ext h28.ext
  have fR := fR.ext h28.ext

  have cc := c_Accepts (set := [1, 2]) (c := 2) (c' := fc) (s.hd.more (D' := fun _ => True) fun _ _ _ => trivial) s.ev (SlR.of_cells (a := tInt) (D := fun _ => True) (xs := [1, 2]) rfl (by decide) trivial (.blk h28.blk) (flat_ints (smallJ (by decide)))) fR
  rw [sa1, sf5] at cc
  refine call_of cc ?_
  clear cc
  rintro _ w29 ⟨rfl, y29⟩
  have s := s.ext y29
  have X := X.trans y29
  have tb1 := tb1.ext y29
  have tb2 := tb2.ext y29
  have fR := fR.ext y29
  refine ldA _ (.blk s.bd) rfl ?_
  refine ldA [.slice (some (ad wq 0)) 1 1, .slice (some (ad sq 0)) 3 3] (.blk s.bx) rfl ?_
  refine lit [iv 2] (fun g30 w30 h30 => ?_)
  have s := s.ext h30.ext
  have X := X.trans h30.ext
  have tb1 := tb1.ext h30.ext
  have tb2 := tb2.ext h30.ext
  have fR := fR.ext h30.ext
  have cc := c_Accepts (set := [2]) (c := 1) (c' := fc) (s.hd.more (D' := fun _ => True) fun _ _ _ => trivial) s.ev (SlR.of_cells (a := tInt) (D := fun _ => True) (xs := [2]) rfl (by decide) trivial (.blk h30.blk) (flat_ints (smallJ (by decide)))) fR
  rw [sa2, sf6] at cc
  refine call_of cc ?_
  clear cc
  rintro _ w31 ⟨rfl, y31⟩
  have s := s.ext y31
  have X := X.trans y31
  have tb1 := tb1.ext y31
  have tb2 := tb2.ext y31
  have fR := fR.ext y31
  refine ldA _ (.blk s.bd) rfl ?_
  refine bld [.slice none 0 0, .slice none 0 0] (by kernel_rfl) ?_
  refine lit [iv 0] (fun g32 w32 h32 => ?_)
  have s := s.ext h32.ext
  have X := X.trans h32.ext
  have tb1 := tb1.ext h32.ext
  have tb2 := tb2.ext h32.ext
  have fR := fR.ext h32.ext
  have cc := c_Explains (set := [0]) (c := 1) (s.hd.more (D' := fun _ => True) fun _ _ _ => trivial) nX_R (SlR.of_cells (a := tInt) (D := fun _ => True) (xs := [0]) rfl (by decide) trivial (.blk h32.blk) (flat_ints (smallJ (by decide))))
  rw [sf7] at cc
  refine call_of cc ?_
  clear cc
  rintro _ w33 ⟨rfl, y33⟩
  have s := s.ext y33
  have X := X.trans y33
  have tb1 := tb1.ext y33
  have tb2 := tb2.ext y33
  have fR := fR.ext y33
  refine ldA _ (.blk s.bd) rfl ?_
  refine bld [.slice none 0 0, .slice none 0 0] (by kernel_rfl) ?_
  have cc := c_Explains (set := []) (c := 0) (s.hd.more (D' := fun _ => True) fun _ _ _ => trivial) nX_R (SlR.nil (a := tInt) (D := fun _ => True) (A := none))
  rw [se8, sf8] at cc
  refine call_of cc ?_
  clear cc
  rintro _ w34 ⟨rfl, y34⟩
  have s := s.ext y34
  have X := X.trans y34
  have tb1 := tb1.ext y34
  have tb2 := tb2.ext y34
  have fR := fR.ext y34
  refine cN (fun h => absurd rfl h) (fun _ => ?_)
  refine cN (fun h => absurd rfl h) (fun _ => ?_)
  refine cN (fun h => absurd rfl h) (fun _ => ?_)
  refine cN (fun h => absurd rfl h) (fun _ => ?_)
  refine cN (fun h => absurd rfl h) (fun _ => ?_)
  refine cN (fun h => absurd rfl h) (fun _ => ?_)
  refine cN (fun h => absurd rfl h) (fun _ => ?_)
  refine cN (fun h => absurd rfl h) (fun _ => ?_)
  refine cN (fun h => absurd rfl h) (fun _ => ?_)
  refine cN (fun h => absurd rfl h) (fun _ => ?_)
  refine cN (fun h => absurd rfl h) (fun _ => ?_)
  refine bld [.string ByteArray.empty, iv 0, iv 0, iv 0, .slice none 0 0, .slice none 0 0, .slice none 0 0, .slice none 0 0, .slice none 0 0, .slice none 0 0] (by kernel_rfl) ?_
  refine ldA [.slice (some (ad wq 0)) 1 1, .slice (some (ad sq 0)) 3 3] (.blk s.bx) rfl ?_
  have cc := c_eCheck48 nD_R s.ev
  rw [sg9] at cc
  refine call_of cc ?_
  clear cc
  rintro _ w35 ⟨rfl, y35⟩
  have s := s.ext y35
  have X := X.trans y35
  have tb1 := tb1.ext y35
  have tb2 := tb2.ext y35
  have fR := fR.ext y35
  refine cN (fun h => absurd rfl h) (fun _ => ?_)
  refine ldA _ (.blk s.bd) rfl ?_
  refine ldA [.slice (some (ad wq 0)) 1 1, .slice (some (ad sq 0)) 3 3] (.blk s.bx) rfl ?_
  have cc := c_eCheck48 (s.hd.more (D' := fun _ => True) fun _ _ _ => trivial) s.ev
  rw [sg2] at cc
  refine call_of cc ?_
  clear cc
  rintro _ w36 ⟨rfl, y36⟩
  have s := s.ext y36
  have X := X.trans y36
  have tb1 := tb1.ext y36
  have tb2 := tb2.ext y36
  have fR := fR.ext y36
  refine cN (fun h => absurd rfl h) (fun _ => ?_)
  refine lit [.bool false, .bool true, .bool false, .bool true, .bool true, .bool true, .bool true, .bool true] (fun g37 w37 h37 => ?_)
  have s := s.ext h37.ext
  have X := X.trans h37.ext
  have tb1 := tb1.ext h37.ext
  have tb2 := tb2.ext h37.ext
  have fR := fR.ext h37.ext
  have bb37 : SlR tBool (fun _ => True) w37 (some (ad g37 0)) 8 [false, true, false, true, true, true, true, true] := blk_bools (xs := [false, true, false, true, true, true, true, true]) h37.blk (by decide)
  refine callB (c_sameTable (c := cb1) (c' := 8) (tb1.more (D' := fun _ => True) (by decide) fun _ _ _ => trivial) bb37) (fun e => ?_) (fun e => by cases e)
  refine lit [.bool false, .bool false, .bool false, .bool true, .bool false, .bool false, .bool true, .bool true] (fun g38 w38 h38 => ?_)
  have s := s.ext h38.ext
  have X := X.trans h38.ext
  have tb1 := tb1.ext h38.ext
  have tb2 := tb2.ext h38.ext
  have fR := fR.ext h38.ext
  have bb38 : SlR tBool (fun _ => True) w38 (some (ad g38 0)) 8 [false, false, false, true, false, false, true, true] := blk_bools (xs := [false, false, false, true, false, false, true, true]) h38.blk (by decide)
  refine callB (c_sameTable (c := cb2) (c' := 8) (tb2.more (D' := fun _ => True) (by decide) fun _ _ _ => trivial) bb38) (fun e => ?_) (fun e => by cases e)
  exact ret1 (.bool true) rfl ⟨rfl, X⟩
end
end Go.Proofs.Ytffdjecdcbbfaaa

/- Layer 48, plainly: what is accepted is explained, what is found is accepted; sets as numbers. -/
namespace Go.Proofs.Ytffdjecdcbbfaaa
open Go Go.RowKit

def tT (t : Tru) : Dst → Int
  | .tail r => t.tails.getD r 0
  | .head k => t.heads.getD k 0
  | .outlet k => t.outlets.getD k 0
  | .taken i => t.taken.getD i 0
section
variable {d : Dist} {x : Ev} {bl : Int × Int → Option Int} {v : Wv} {t : Tru} {T : Dst → Int} {A : Nat → Int} {set : List Int}
theorem sumT_split (r : Nat) {f : Nat → Rg} : sumT T (partsL d x bl v f r) = T (.tail r) + (sumF (qH d r) (fun k => T (.head k)) d.reaches.length + (sumF (qO d r) (fun k => T (.outlet k)) d.farms.length + sumF (qP x r) (fun i => T (.taken i)) x.suspects.length)) := by
  unfold sumT partsL tailP headP outP pumpP sumF qH qO qP
  simp only [List.map_append, List.sum_append, List.map_map, List.map_cons, List.map_nil, List.sum_cons, List.sum_nil]
  rw [Int.add_zero]
  rfl
theorem fitsL_T (hw : WavOk d x bl v) (l1 : v.heads.length = d.reaches.length) (l2 : v.outlets.length = d.farms.length) (l3 : v.tails.length = d.reaches.length) (h : FitsL d x bl v t) : FitsT d x bl v (tT t) (fun r => t.arrived.getD r 0) := by
  obtain ⟨e1, i1⟩ := inB_iff.1 h.i1
  obtain ⟨e2, i2⟩ := inB_iff.1 h.i2
  obtain ⟨e3, i3⟩ := inB_iff.1 h.i3
  refine ⟨fun r hr => i1 r (by omega), fun k hk => i2 k (by omega), fun r hr => i3 r (by omega), fun i hi => h.tk i hi, fun r hr => ?_⟩
  obtain ⟨a1, a2, a3⟩ := h.ar r hr
  have hh := i1 r (by omega)
  have hm := rgOk_iff.1 (meter_ok hw.bl (kd := 1) (ix := r) (hw.heads r hr))
  have e : lErr (rcE d r) (t.heads.getD r 0) = 0 := lErr_ok.2 ⟨hw.loss r hr, by omega, by omega⟩
  have ew : worstV (rcE d r) (t.heads.getD r 0) = arrW (rcE d r) (t.heads.getD r 0) := by unfold worstV; rw [if_pos e]; rfl
  have eb : bestV (rcE d r) (t.heads.getD r 0) = arrB (rcE d r) (t.heads.getD r 0) := by unfold bestV; rw [if_pos e]; rfl
  rw [ew] at a2
  rw [eb] at a3
  show t.arrived.getD r 0 = _ ∧ arrW (rcE d r) (t.heads.getD r 0) ≤ t.arrived.getD r 0 ∧ t.arrived.getD r 0 ≤ arrB (rcE d r) (t.heads.getD r 0)
  refine ⟨?_, by omega, by omega⟩
  rw [sumT_split, a1]
  unfold out3 out2 out1 tT
  show _ = t.tails.getD r 0 + (sumF (qH d r) (fun k => t.heads.getD k 0) d.reaches.length + (sumF (qO d r) (fun k => t.outlets.getD k 0) d.farms.length + sumF (qP x r) (fun i => t.taken.getD i 0) x.suspects.length))
  omega
theorem getD_map {R : Nat} {f : Nat → Int} {k : Nat} (h : k < R) : ((List.range R).map f).getD k 0 = f k := by
  rw [List.getD_eq_getElem?_getD, List.getElem?_map, List.getElem?_range h]; rfl
theorem sumF_congr {q : Nat → Bool} {f g : Nat → Int} {k : Nat} (h : ∀ i, i < k → f i = g i) : sumF q f k = sumF q g k := by
  unfold sumF
  congr 1
  exact List.map_congr_left fun i hi => h i (List.mem_range.1 (List.mem_filter.1 hi).1)
theorem fitsT_L (hw : WavOk d x bl v) (l1 : v.heads.length = d.reaches.length) (l2 : v.outlets.length = d.farms.length) (l3 : v.tails.length = d.reaches.length) (h : FitsT d x bl v T A) : FitsL d x bl v (mkT d.reaches.length d.farms.length x.suspects.length T A) := by
  refine ⟨inB_iff.2 ⟨by simp [mkT, l1], fun i hi => ?_⟩, inB_iff.2 ⟨by simp [mkT, l2], fun i hi => ?_⟩, inB_iff.2 ⟨by simp [mkT, l3], fun i hi => ?_⟩, by simp [mkT], by simp [mkT], fun i hi => ?_, fun r hr => ?_⟩
  · have hi : i < d.reaches.length := by simpa [mkT] using hi
    unfold mkT; simp only; rw [getD_map hi]; exact h.heads i hi
  · have hi : i < d.farms.length := by simpa [mkT] using hi
    unfold mkT; simp only; rw [getD_map hi]; exact h.outlets i hi
  · have hi : i < d.reaches.length := by simpa [mkT] using hi
    unfold mkT; simp only; rw [getD_map hi]; exact h.tails i hi
  · unfold mkT; simp only; rw [getD_map hi]; exact h.taken i hi
  · have hh := h.heads r hr
    have hm := rgOk_iff.1 (meter_ok hw.bl (kd := 1) (ix := r) (hw.heads r hr))
    have e : lErr (rcE d r) (T (.head r)) = 0 := lErr_ok.2 ⟨hw.loss r hr, by omega, by omega⟩
    have ew : worstV (rcE d r) (T (.head r)) = arrW (rcE d r) (T (.head r)) := by unfold worstV; rw [if_pos e]; rfl
    have eb : bestV (rcE d r) (T (.head r)) = arrB (rcE d r) (T (.head r)) := by unfold bestV; rw [if_pos e]; rfl
    obtain ⟨a1, a2, a3⟩ := h.arr r hr
    rw [sumT_split] at a1
    have eo : out3 d x (mkT d.reaches.length d.farms.length x.suspects.length T A) d.farms.length r = A r := by
      unfold out3 out2 out1 mkT
      simp only
      rw [getD_map hr, sumF_congr (q := qP x r) (g := fun i => T (.taken i)) fun i hi => getD_map hi, sumF_congr (q := qH d r) (g := fun i => T (.head i)) fun i hi => getD_map hi, sumF_congr (q := qO d r) (g := fun i => T (.outlet i)) fun i hi => getD_map hi]
      omega
    rw [eo]
    unfold mkT; simp only; rw [getD_map hr, getD_map hr, ew, eb]
    exact ⟨rfl, a2, a3⟩
/-- What is accepted is explained. -/
theorem acc_expl {l : List Tru} (h : accV d x set l = true) : explV d x set = true := by
  unfold accV at h
  by_cases e : askErr d x set = 0
  · rw [if_pos e] at h
    unfold explV; rw [if_pos e]
    unfold allB at h
    rw [Bool.and_eq_true, decide_eq_true_eq] at h
    unfold explB
    rw [List.all_eq_true]
    intro v hv
    obtain ⟨k, hk, rfl⟩ := List.getElem_of_mem hv
    have hz := List.all_eq_true.1 h.2 (x.waves[k], l[k]'(by omega)) (List.mem_iff_getElem.2 ⟨k, by rw [List.length_zip]; omega, by rw [List.getElem_zip]⟩)
    obtain ⟨hw, l1, l2, l3⟩ := wavOk_of e hv
    exact fits_follow hw (fitsL_T hw l1 l2 l3 (fitsB_iff.1 hz)) _ _ (Nat.le_refl _) fun k h1 h2 => by omega
  · rw [if_neg e] at h; cases h
theorem find_acc (he : askErr d x set = 0) (h : explV d x set = true) : accV d x set (findL d x set) = true := by
  unfold accV allB findL; rw [if_pos he, Bool.and_eq_true, decide_eq_true_eq, List.length_map]
  refine ⟨rfl, List.all_eq_true.2 fun p hp => ?_⟩
  rw [List.zip_map_right, List.mem_map] at hp
  obtain ⟨⟨v, v'⟩, hv, rfl⟩ := hp
  have hvv : v = v' ∧ v ∈ x.waves := by
    obtain ⟨k, hk, e⟩ := List.getElem_of_mem hv
    rw [List.getElem_zip] at e
    injection e with e1 e2
    exact ⟨by rw [← e1, ← e2], by rw [← e1]; exact List.getElem_mem _⟩
  obtain ⟨rfl, hm⟩ := hvv
  obtain ⟨hw, l1, l2, l3⟩ := wavOk_of he hm
  unfold explV at h
  rw [if_pos he] at h
  obtain ⟨f, hf⟩ := Option.isSome_iff_exists.1 (List.all_eq_true.1 h v hm)
  obtain ⟨hfol, hfok⟩ := fol_fok hw hf
  obtain ⟨⟨r1, r0⟩, -⟩ := ev_sizes (askErr_ok.1 he).1
  have := fitsT_L hw l1 l2 l3 (filled hw r0 hfok)
  show fitsB d x (blF x set) v (truV d x (blF x set) v) = true
  unfold truV
  rw [hfol]
  exact fitsB_iff.2 this
theorem sorted_ext : ∀ {l m : List Int}, l.Pairwise (· < ·) → m.Pairwise (· < ·) → (∀ x, x ∈ l ↔ x ∈ m) → l = m
  | [], [], _, _, _ => rfl
  | [], b :: m, _, _, h => absurd ((h b).2 List.mem_cons_self) (by simp)
  | a :: l, [], _, _, h => absurd ((h a).1 List.mem_cons_self) (by simp)
  | a :: l, b :: m, hl, hm, h => by
    rw [List.pairwise_cons] at hl hm
    have e : a = b := by
      have h1 := (h a).1 List.mem_cons_self
      have h2 := (h b).2 List.mem_cons_self
      rcases List.mem_cons.1 h1 with h1 | h1
      · exact h1
      rcases List.mem_cons.1 h2 with h2 | h2
      · exact h2.symm
      have := hl.1 _ h2
      have := hm.1 _ h1
      omega
    subst e
    rw [sorted_ext hl.2 hm.2 fun y => ?_]
    constructor
    · intro hy
      rcases List.mem_cons.1 ((h y).1 (List.mem_cons_of_mem _ hy)) with e | e
      · subst e; have := hl.1 _ hy; omega
      · exact e
    · intro hy
      rcases List.mem_cons.1 ((h y).2 (List.mem_cons_of_mem _ hy)) with e | e
      · subst e; have := hm.1 _ hy; omega
      · exact e
theorem setB_ok {n : Nat} : ∀ {l : List Int} {last : Int}, setB n last l = true → l.Pairwise (· < ·) ∧ ∀ i ∈ l, last < i ∧ i < n
  | [], _, _ => ⟨.nil, fun i hi => by simp at hi⟩
  | i :: r, last, h => by
    unfold setB at h
    simp only [Bool.and_eq_true, decide_eq_true_eq] at h
    obtain ⟨h1, h2, h3⟩ := h
    obtain ⟨h4, h5⟩ := setB_ok h3
    refine ⟨List.pairwise_cons.2 ⟨fun j hj => (h5 j hj).1, h4⟩, fun j hj => ?_⟩
    rcases List.mem_cons.1 hj with rfl | hj
    · exact ⟨h1, h2⟩
    · have := h5 j hj; omega
def orL (l : List Int) : Nat := l.foldl (fun m i => m ||| 2 ^ i.toNat) 0
theorem orL_snoc (l : List Int) (i : Int) : orL (l ++ [i]) = orL l ||| 2 ^ i.toNat := by unfold orL; rw [List.foldl_append]; rfl
theorem orL_bit {j : Nat} : ∀ {l : List Int}, (∀ i ∈ l, 0 ≤ i) → ((orL l).testBit j = true ↔ (j : Int) ∈ l) := by
  have key : ∀ (l : List Int) (m : Nat), (∀ i ∈ l, 0 ≤ i) → ((l.foldl (fun m i => m ||| 2 ^ i.toNat) m).testBit j = true ↔ m.testBit j = true ∨ (j : Int) ∈ l) := by
    intro l
    induction l with
    | nil => intro m _; simp
    | cons i l ih =>
      intro m h
      rw [List.foldl_cons, ih _ fun k hk => h k (List.mem_cons_of_mem _ hk), Nat.testBit_or, Bool.or_eq_true, Nat.testBit_two_pow, decide_eq_true_eq, List.mem_cons]
      have := h i List.mem_cons_self
      have e : (i.toNat = j) ↔ (j : Int) = i := by omega
      rw [e, or_assoc]
  intro l h
  rw [show orL l = l.foldl (fun m i => m ||| 2 ^ i.toNat) 0 from rfl, key l 0 h]; simp
theorem orL_lt {S : Nat} {l : List Int} (h : ∀ i ∈ l, 0 ≤ i ∧ i < S) : orL l < 2 ^ S := by
  apply Nat.lt_pow_two_of_testBit
  intro j hj
  cases hb : (orL l).testBit j with
  | false => rfl
  | true =>
    have := (orL_bit fun i hi => (h i hi).1).1 hb
    have := h _ this
    omega
theorem members_or {S : Nat} {l : List Int} (h : setB S (-1) l = true) : membersL (orL l) S = l := by
  obtain ⟨h1, h2⟩ := setB_ok h
  refine sorted_ext ?_ h1 fun y => ?_
  · unfold membersL
    refine List.Pairwise.map _ (R := (· < ·)) (fun a b hab => by omega) ?_
    exact List.Pairwise.filter _ List.pairwise_lt_range
  · unfold membersL
    rw [List.mem_map]
    constructor
    · rintro ⟨k, hk, rfl⟩
      exact (orL_bit fun i hi => by have := h2 i hi; omega).1 (List.mem_filter.1 hk).2
    · intro hy
      have := h2 y hy
      refine ⟨y.toNat, List.mem_filter.2 ⟨List.mem_range.2 (by omega), ?_⟩, by omega⟩
      exact (orL_bit fun i hi => by have := h2 i hi; omega).2 (by rw [show ((y.toNat : Nat) : Int) = y by omega]; exact hy)
theorem table_or (he : askErr d x set = 0) : (tableV d x)[orL set]? = some (explV d x set) ∧ (tableV d x).length = 2 ^ x.suspects.length ∧ orL set < 2 ^ x.suspects.length := by
  obtain ⟨h0, hs⟩ := askErr_ok.1 he
  have hlt := orL_lt (fun i hi => by have := (setB_ok hs).2 i hi; omega : ∀ i ∈ set, 0 ≤ i ∧ i < x.suspects.length)
  unfold tableV tableL
  rw [if_pos h0]
  refine ⟨?_, by simp, hlt⟩
  rw [List.getElem?_map, List.getElem?_range hlt]
  show some (explV d x (membersL (orL set) x.suspects.length)) = _
  rw [members_or hs]
end
end Go.Proofs.Ytffdjecdcbbfaaa

/- Layer 48: the law EvidenceExact. -/
namespace Go.Proofs.Ytffdjecdcbbfaaa
open Go Go.RowKit

section
variable {D : Nat → Prop} {w : World}
theorem callSE {f : FuncId} [h : Enters Try.prog f] {args : Array Value} {K : VK} {X : XK} (c : CallZ Try.prog f args w (fun v w' => ∃ b, v = .bool b ∧ Ext w w')) (k1 : ∀ w', Ext w w' → K (.bool true) w') (k2 : ∀ w', Ext w w' → K (.bool false) w') : CallP Try.prog f args K X w := by
  refine call_of c ?_
  rintro _ w' ⟨b, rfl, x⟩
  cases b
  · exact k2 w' x
  · exact k1 w' x
set_option maxRecDepth 8000 in
theorem c_EvidenceExact {csd csx : List Value} {d : Dist} {x : Ev} {set : List Int} {l : List Tru} {AS AL : Option Addr} {nS cS nL cL : Nat} (hd : DiR D w csd d) (hx : EvR D w csx x) (hset : SlR tInt D w AS nS set) (hl : SlR tTru D w AL nL l) : CallZ Try.prog 3 #[.agg csd.toArray, .agg csx.toArray, .slice AS nS cS, .slice AL nL cL] w
    (fun v w' => v = .bool true ∧ Ext w w') := by
  have hd := hd.more (D' := fun _ => True) fun _ _ _ => trivial
  have hx := hx.more (D' := fun _ => True) fun _ _ _ => trivial
  have hset := hset.more (D' := fun _ => True) (by decide) fun _ _ _ => trivial
  have hl := hl.more (D' := fun _ => True) (by decide) fun _ _ _ => trivial
  obtain ⟨A1, n1, c1, A2, n2, c2, A3, n3, c3, A4, n4, c4, A5, n5, c5, A6, n6, c6, rfl, -⟩ := hd.ex
  obtain ⟨W1, m1, e1, S1, m2, e2, rfl, hwv, -⟩ := hx.ex
  refine fn_rule (args := [.agg #[.string d.name, iv d.hours, iv d.cap, iv d.start, .slice A1 n1 c1, .slice A2 n2 c2, .slice A3 n3 c3, .slice A4 n4 c4, .slice A5 n5 c5, .slice A6 n6 c6], .agg #[.slice W1 m1 e1, .slice S1 m2 e2], .slice AS nS cS, .slice AL nL cL]) Try.func3 (by kernel_rfl) ?_
  refine box (fun bd w1 i1 => ?_)
  refine box (fun bx w2 i2 => ?_)
  have x2 := i1.ext.trans i2.ext
  have Bd : Blk w2 bd 31 [.string d.name, iv d.hours, iv d.cap, iv d.start, .slice A1 n1 c1, .slice A2 n2 c2, .slice A3 n3 c3, .slice A4 n4 c4, .slice A5 n5 c5, .slice A6 n6 c6] := i1.blk.ext i2.ext
  have Bx : Blk w2 bx 35 [.slice W1 m1 e1, .slice S1 m2 e2] := i2.blk
  refine call_of c_esane ?_
  rintro _ w3 ⟨rfl, x3⟩
  refine ldA [.string d.name, iv d.hours, iv d.cap, iv d.start, .slice A1 n1 c1, .slice A2 n2 c2, .slice A3 n3 c3, .slice A4 n4 c4, .slice A5 n5 c5, .slice A6 n6 c6] (.blk (Bd.ext x3)) rfl ?_
  refine ldA [.slice W1 m1 e1, .slice S1 m2 e2] (.blk (Bx.ext x3)) rfl ?_
  refine callSE (c_r48Few ((hd.ext x2).ext x3) ((hx.ext x2).ext x3)) (fun w4 x4 => ?_) (fun w4 x4 => ?_)
  rotate_left
  · exact ret1 (.bool true) rfl ⟨rfl, x2.trans (x3.trans x4)⟩
  have z4 := x3.trans x4
  refine len ?_
  refine cD (fun _ => ?_) (fun _ => ?_)
  · exact ret1 (.bool true) rfl ⟨rfl, x2.trans z4⟩
  obtain ⟨b1, hb1⟩ : ∃ b, b = explV d x set := ⟨_, rfl⟩
  obtain ⟨b2, hb2⟩ : ∃ b, b = accV d x set l := ⟨_, rfl⟩
  cases b1 with
  | true =>
    cases b2 with
    | true =>
      refine ldA [.string d.name, iv d.hours, iv d.cap, iv d.start, .slice A1 n1 c1, .slice A2 n2 c2, .slice A3 n3 c3, .slice A4 n4 c4, .slice A5 n5 c5, .slice A6 n6 c6] (.blk (Bd.ext z4)) rfl ?_
      refine ldA [.slice W1 m1 e1, .slice S1 m2 e2] (.blk (Bx.ext z4)) rfl ?_
      have cc := c_Explains ((hd.ext x2).ext z4) ((hx.ext x2).ext z4) (c := cS) ((hset.ext x2).ext z4)
      rw [← hb1] at cc
      refine call_of cc ?_
      clear cc
      rintro _ w5 ⟨rfl, x5⟩
      have z5 := z4.trans x5
      refine ldA [.string d.name, iv d.hours, iv d.cap, iv d.start, .slice A1 n1 c1, .slice A2 n2 c2, .slice A3 n3 c3, .slice A4 n4 c4, .slice A5 n5 c5, .slice A6 n6 c6] (.blk (Bd.ext z5)) rfl ?_
      refine ldA [.slice W1 m1 e1, .slice S1 m2 e2] (.blk (Bx.ext z5)) rfl ?_
      have cc := c_Accepts ((hd.ext x2).ext z5) ((hx.ext x2).ext z5) (c := cS) (c' := cL) ((hset.ext x2).ext z5) ((hl.ext x2).ext z5)
      rw [← hb2] at cc
      refine call_of cc ?_
      clear cc
      rintro _ w6 ⟨rfl, x6⟩
      have z6 := z5.trans x6
      refine cN (fun h => absurd rfl h) (fun _ => ?_)
      have e0 : askErr d x set = 0 := by
        by_cases h : askErr d x set = 0
        · exact h
        · exfalso; unfold explV at hb1; rw [if_neg h] at hb1; cases hb1
      refine cN (fun h => absurd e0 h) (fun _ => ?_)
      have hsb : ∀ i ∈ set, 0 ≤ i ∧ i < (x.suspects.length : Int) := fun i hi => by have := (setB_ok (askErr_ok.1 e0).2).2 i hi; omega
      have hs12 := (evErr_ok (askErr_ok.1 e0).1).2.2.1
      obtain ⟨tg, tl, tb⟩ := table_or e0
      refine ldA [.string d.name, iv d.hours, iv d.cap, iv d.start, .slice A1 n1 c1, .slice A2 n2 c2, .slice A3 n3 c3, .slice A4 n4 c4, .slice A5 n5 c5, .slice A6 n6 c6] (.blk (Bd.ext z6)) rfl ?_
      refine ldA [.slice W1 m1 e1, .slice S1 m2 e2] (.blk (Bx.ext z6)) rfl ?_
      have cc := c_Find ((hd.ext x2).ext z6) ((hx.ext x2).ext z6) (c := cS) ((hset.ext x2).ext z6)
      rw [← hb1] at cc
      refine call_of cc ?_
      clear cc
      rintro _ w7 ⟨x7, FA, fn, fc, rfl, fle, fR, -⟩
      have z7 := z6.trans x7
      refine cN (fun h => absurd e0 h) (fun _ => ?_)
      refine neB (fun h => absurd rfl h) (fun _ => ?_)
      have fR := (fR rfl).more (D' := fun _ => True) (by decide) fun _ _ _ => trivial
      refine ldA [.string d.name, iv d.hours, iv d.cap, iv d.start, .slice A1 n1 c1, .slice A2 n2 c2, .slice A3 n3 c3, .slice A4 n4 c4, .slice A5 n5 c5, .slice A6 n6 c6] (.blk (Bd.ext z7)) rfl ?_
      refine ldA [.slice W1 m1 e1, .slice S1 m2 e2] (.blk (Bx.ext z7)) rfl ?_
      have cc := c_Accepts ((hd.ext x2).ext z7) ((hx.ext x2).ext z7) (c := cS) (c' := fc) ((hset.ext x2).ext z7) fR
      rw [find_acc e0 hb1.symm] at cc
      refine call_of cc ?_
      clear cc
      rintro _ w8 ⟨rfl, x8⟩
      have z8 := z7.trans x8
      refine cN (fun h => absurd e0 h) (fun _ => ?_)
      refine ldA [.string d.name, iv d.hours, iv d.cap, iv d.start, .slice A1 n1 c1, .slice A2 n2 c2, .slice A3 n3 c3, .slice A4 n4 c4, .slice A5 n5 c5, .slice A6 n6 c6] (.blk (Bd.ext z8)) rfl ?_
      refine ldA [.slice W1 m1 e1, .slice S1 m2 e2] (.blk (Bx.ext z8)) rfl ?_
      refine call_of (c_Table ((hd.ext x2).ext z8) ((hx.ext x2).ext z8)) ?_
      rintro _ w9 ⟨TA, tn, tc, rfl, oT⟩
      have z9 := z8.trans oT.ext
      have hset9 := ((hset.ext x2).ext z9)
      have hle := hset9.le
      have hln := hset9.len
      have bT := oT.bools (D := fun _ => True) (by rw [tl]; exact Nat.le_trans (Nat.pow_le_pow_right (by decide) hs12) (by decide)) fun _ _ => trivial
      refine len ?_
      refine loop_rule (fun s : Nat × Nat => [(105, iv (s.1 : Int)), (20, iv (s.2 : Int))]) (fun s u => s.1 ≤ nS ∧ u = w9 ∧ s.2 = orL (set.take s.1)) (fun s _ => nS - s.1) (0, 0) ⟨rfl, rfl, trivial⟩ ⟨by omega, rfl, by rfl⟩ rfl ?_
      rintro G ⟨k, m⟩ u ⟨hk, rfl, hm⟩
      refine cD (fun hlt => ?_) (fun hge => ?_)
      · have hlt : k < nS := by omega
        obtain ⟨b, o, cs, a, rfl, ha, -, -, hc, rfl, -⟩ := hset9.at_ hlt
        have htk : set.take (k + 1) = set.take k ++ [a] := by rw [List.take_add_one, ha]; rfl
        have hab := hsb a (List.mem_of_getElem? ha)
        have hm' : m < 2 ^ x.suspects.length := by rw [show m = orL (set.take k) from hm]; exact orL_lt fun i hi => hsb i (List.mem_of_mem_take hi)
        have hp : 2 ^ x.suspects.length ≤ 2 ^ 12 := Nat.pow_le_pow_right (by decide) hs12
        have hm'' : m < 4096 := by omega
        refine idx k rfl hlt ?_
        refine ld (iv a) (hc 0 _ rfl) ?_
        refine shl1 (fun q hq hql => ?_) (by omega)
        refine orV (fun q' hq' => ?_)
        refine arI (by omega) ?_
        refine next (k + 1, q') ⟨by rw [Int.natCast_add]; rfl, rfl, trivial⟩ ⟨by omega, rfl, ?_⟩ (by simp only; omega)
        show q' = orL (set.take (k + 1))
        rw [htk, orL_snoc, hq', hq, ← hm]
      · have hkn : k = nS := by omega
        subst hkn
        rw [List.take_of_length_le (by omega)] at hm
        have hm : m = orL set := hm
        have tnl : tn = 2 ^ x.suspects.length := by rw [← tl]; exact bT.len.symm
        refine cE (fun _ => ?_) (fun h => absurd (askErr_ok.1 e0).1 h)
        refine len ?_
        refine cD (fun _ => ?_) (fun h => by omega)
        obtain ⟨b, o, cs, y, rfl, hy, -, -, hc, rfl⟩ := bT.at_ (k := m) (by omega)
        rw [hm, tg, ← hb1] at hy
        injection hy with hy
        subst hy
        refine idx m rfl (by omega) ?_
        refine ld (.bool true) (hc 0 _ rfl) ?_
        refine eqB (fun _ => ?_) (fun h => absurd rfl h)
        exact ret1 (.bool true) rfl ⟨rfl, x2.trans z9⟩
    | false =>
      refine ldA [.string d.name, iv d.hours, iv d.cap, iv d.start, .slice A1 n1 c1, .slice A2 n2 c2, .slice A3 n3 c3, .slice A4 n4 c4, .slice A5 n5 c5, .slice A6 n6 c6] (.blk (Bd.ext z4)) rfl ?_
      refine ldA [.slice W1 m1 e1, .slice S1 m2 e2] (.blk (Bx.ext z4)) rfl ?_
      have cc := c_Explains ((hd.ext x2).ext z4) ((hx.ext x2).ext z4) (c := cS) ((hset.ext x2).ext z4)
      rw [← hb1] at cc
      refine call_of cc ?_
      clear cc
      rintro _ w5 ⟨rfl, x5⟩
      have z5 := z4.trans x5
      refine ldA [.string d.name, iv d.hours, iv d.cap, iv d.start, .slice A1 n1 c1, .slice A2 n2 c2, .slice A3 n3 c3, .slice A4 n4 c4, .slice A5 n5 c5, .slice A6 n6 c6] (.blk (Bd.ext z5)) rfl ?_
      refine ldA [.slice W1 m1 e1, .slice S1 m2 e2] (.blk (Bx.ext z5)) rfl ?_
      have cc := c_Accepts ((hd.ext x2).ext z5) ((hx.ext x2).ext z5) (c := cS) (c' := cL) ((hset.ext x2).ext z5) ((hl.ext x2).ext z5)
      rw [← hb2] at cc
      refine call_of cc ?_
      clear cc
      rintro _ w6 ⟨rfl, x6⟩
      have z6 := z5.trans x6
      refine cN (fun h => absurd rfl h) (fun _ => ?_)
      have e0 : askErr d x set = 0 := by
        by_cases h : askErr d x set = 0
        · exact h
        · exfalso; unfold explV at hb1; rw [if_neg h] at hb1; cases hb1
      refine cN (fun h => absurd e0 h) (fun _ => ?_)
      have hsb : ∀ i ∈ set, 0 ≤ i ∧ i < (x.suspects.length : Int) := fun i hi => by have := (setB_ok (askErr_ok.1 e0).2).2 i hi; omega
      have hs12 := (evErr_ok (askErr_ok.1 e0).1).2.2.1
      obtain ⟨tg, tl, tb⟩ := table_or e0
      refine ldA [.string d.name, iv d.hours, iv d.cap, iv d.start, .slice A1 n1 c1, .slice A2 n2 c2, .slice A3 n3 c3, .slice A4 n4 c4, .slice A5 n5 c5, .slice A6 n6 c6] (.blk (Bd.ext z6)) rfl ?_
      refine ldA [.slice W1 m1 e1, .slice S1 m2 e2] (.blk (Bx.ext z6)) rfl ?_
      have cc := c_Find ((hd.ext x2).ext z6) ((hx.ext x2).ext z6) (c := cS) ((hset.ext x2).ext z6)
      rw [← hb1] at cc
      refine call_of cc ?_
      clear cc
      rintro _ w7 ⟨x7, FA, fn, fc, rfl, fle, fR, -⟩
      have z7 := z6.trans x7
      refine cN (fun h => absurd e0 h) (fun _ => ?_)
      refine neB (fun h => absurd rfl h) (fun _ => ?_)
      have fR := (fR rfl).more (D' := fun _ => True) (by decide) fun _ _ _ => trivial
      refine ldA [.string d.name, iv d.hours, iv d.cap, iv d.start, .slice A1 n1 c1, .slice A2 n2 c2, .slice A3 n3 c3, .slice A4 n4 c4, .slice A5 n5 c5, .slice A6 n6 c6] (.blk (Bd.ext z7)) rfl ?_
      refine ldA [.slice W1 m1 e1, .slice S1 m2 e2] (.blk (Bx.ext z7)) rfl ?_
      have cc := c_Accepts ((hd.ext x2).ext z7) ((hx.ext x2).ext z7) (c := cS) (c' := fc) ((hset.ext x2).ext z7) fR
      rw [find_acc e0 hb1.symm] at cc
      refine call_of cc ?_
      clear cc
      rintro _ w8 ⟨rfl, x8⟩
      have z8 := z7.trans x8
      refine cN (fun h => absurd e0 h) (fun _ => ?_)
      refine ldA [.string d.name, iv d.hours, iv d.cap, iv d.start, .slice A1 n1 c1, .slice A2 n2 c2, .slice A3 n3 c3, .slice A4 n4 c4, .slice A5 n5 c5, .slice A6 n6 c6] (.blk (Bd.ext z8)) rfl ?_
      refine ldA [.slice W1 m1 e1, .slice S1 m2 e2] (.blk (Bx.ext z8)) rfl ?_
      refine call_of (c_Table ((hd.ext x2).ext z8) ((hx.ext x2).ext z8)) ?_
      rintro _ w9 ⟨TA, tn, tc, rfl, oT⟩
      have z9 := z8.trans oT.ext
      have hset9 := ((hset.ext x2).ext z9)
      have hle := hset9.le
      have hln := hset9.len
      have bT := oT.bools (D := fun _ => True) (by rw [tl]; exact Nat.le_trans (Nat.pow_le_pow_right (by decide) hs12) (by decide)) fun _ _ => trivial
      refine len ?_
      refine loop_rule (fun s : Nat × Nat => [(105, iv (s.1 : Int)), (20, iv (s.2 : Int))]) (fun s u => s.1 ≤ nS ∧ u = w9 ∧ s.2 = orL (set.take s.1)) (fun s _ => nS - s.1) (0, 0) ⟨rfl, rfl, trivial⟩ ⟨by omega, rfl, by rfl⟩ rfl ?_
      rintro G ⟨k, m⟩ u ⟨hk, rfl, hm⟩
      refine cD (fun hlt => ?_) (fun hge => ?_)
      · have hlt : k < nS := by omega
        obtain ⟨b, o, cs, a, rfl, ha, -, -, hc, rfl, -⟩ := hset9.at_ hlt
        have htk : set.take (k + 1) = set.take k ++ [a] := by rw [List.take_add_one, ha]; rfl
        have hab := hsb a (List.mem_of_getElem? ha)
        have hm' : m < 2 ^ x.suspects.length := by rw [show m = orL (set.take k) from hm]; exact orL_lt fun i hi => hsb i (List.mem_of_mem_take hi)
        have hp : 2 ^ x.suspects.length ≤ 2 ^ 12 := Nat.pow_le_pow_right (by decide) hs12
        have hm'' : m < 4096 := by omega
        refine idx k rfl hlt ?_
        refine ld (iv a) (hc 0 _ rfl) ?_
        refine shl1 (fun q hq hql => ?_) (by omega)
        refine orV (fun q' hq' => ?_)
        refine arI (by omega) ?_
        refine next (k + 1, q') ⟨by rw [Int.natCast_add]; rfl, rfl, trivial⟩ ⟨by omega, rfl, ?_⟩ (by simp only; omega)
        show q' = orL (set.take (k + 1))
        rw [htk, orL_snoc, hq', hq, ← hm]
      · have hkn : k = nS := by omega
        subst hkn
        rw [List.take_of_length_le (by omega)] at hm
        have hm : m = orL set := hm
        have tnl : tn = 2 ^ x.suspects.length := by rw [← tl]; exact bT.len.symm
        refine cE (fun _ => ?_) (fun h => absurd (askErr_ok.1 e0).1 h)
        refine len ?_
        refine cD (fun _ => ?_) (fun h => by omega)
        obtain ⟨b, o, cs, y, rfl, hy, -, -, hc, rfl⟩ := bT.at_ (k := m) (by omega)
        rw [hm, tg, ← hb1] at hy
        injection hy with hy
        subst hy
        refine idx m rfl (by omega) ?_
        refine ld (.bool true) (hc 0 _ rfl) ?_
        refine eqB (fun _ => ?_) (fun h => absurd rfl h)
        exact ret1 (.bool true) rfl ⟨rfl, x2.trans z9⟩
  | false =>
    cases b2 with
    | true => rw [acc_expl hb2.symm] at hb1; cases hb1
    | false =>
      refine ldA [.string d.name, iv d.hours, iv d.cap, iv d.start, .slice A1 n1 c1, .slice A2 n2 c2, .slice A3 n3 c3, .slice A4 n4 c4, .slice A5 n5 c5, .slice A6 n6 c6] (.blk (Bd.ext z4)) rfl ?_
      refine ldA [.slice W1 m1 e1, .slice S1 m2 e2] (.blk (Bx.ext z4)) rfl ?_
      have cc := c_Explains ((hd.ext x2).ext z4) ((hx.ext x2).ext z4) (c := cS) ((hset.ext x2).ext z4)
      rw [← hb1] at cc
      refine call_of cc ?_
      clear cc
      rintro _ w5 ⟨rfl, x5⟩
      have z5 := z4.trans x5
      refine ldA [.string d.name, iv d.hours, iv d.cap, iv d.start, .slice A1 n1 c1, .slice A2 n2 c2, .slice A3 n3 c3, .slice A4 n4 c4, .slice A5 n5 c5, .slice A6 n6 c6] (.blk (Bd.ext z5)) rfl ?_
      refine ldA [.slice W1 m1 e1, .slice S1 m2 e2] (.blk (Bx.ext z5)) rfl ?_
      have cc := c_Accepts ((hd.ext x2).ext z5) ((hx.ext x2).ext z5) (c := cS) (c' := cL) ((hset.ext x2).ext z5) ((hl.ext x2).ext z5)
      rw [← hb2] at cc
      refine call_of cc ?_
      clear cc
      rintro _ w6 ⟨rfl, x6⟩
      have z6 := z5.trans x6
      refine cN (fun h => absurd rfl h) (fun _ => ?_)
      refine cN (fun _ => ?_) (fun e0 => ?_)
      · exact ret1 (.bool true) rfl ⟨rfl, x2.trans z6⟩
      have e0 : askErr d x set = 0 := e0
      have hsb : ∀ i ∈ set, 0 ≤ i ∧ i < (x.suspects.length : Int) := fun i hi => by have := (setB_ok (askErr_ok.1 e0).2).2 i hi; omega
      have hs12 := (evErr_ok (askErr_ok.1 e0).1).2.2.1
      obtain ⟨tg, tl, tb⟩ := table_or e0
      refine ldA [.string d.name, iv d.hours, iv d.cap, iv d.start, .slice A1 n1 c1, .slice A2 n2 c2, .slice A3 n3 c3, .slice A4 n4 c4, .slice A5 n5 c5, .slice A6 n6 c6] (.blk (Bd.ext z6)) rfl ?_
      refine ldA [.slice W1 m1 e1, .slice S1 m2 e2] (.blk (Bx.ext z6)) rfl ?_
      have cc := c_Find ((hd.ext x2).ext z6) ((hx.ext x2).ext z6) (c := cS) ((hset.ext x2).ext z6)
      rw [← hb1] at cc
      refine call_of cc ?_
      clear cc
      rintro _ w7 ⟨x7, FA, fn, fc, rfl, fle, fR, -⟩
      have z7 := z6.trans x7
      refine cN (fun h => absurd e0 h) (fun _ => ?_)
      refine neB (fun h => absurd rfl h) (fun _ => ?_)
      have z8 := z7
      refine ldA [.string d.name, iv d.hours, iv d.cap, iv d.start, .slice A1 n1 c1, .slice A2 n2 c2, .slice A3 n3 c3, .slice A4 n4 c4, .slice A5 n5 c5, .slice A6 n6 c6] (.blk (Bd.ext z8)) rfl ?_
      refine ldA [.slice W1 m1 e1, .slice S1 m2 e2] (.blk (Bx.ext z8)) rfl ?_
      refine call_of (c_Table ((hd.ext x2).ext z8) ((hx.ext x2).ext z8)) ?_
      rintro _ w9 ⟨TA, tn, tc, rfl, oT⟩
      have z9 := z8.trans oT.ext
      have hset9 := ((hset.ext x2).ext z9)
      have hle := hset9.le
      have hln := hset9.len
      have bT := oT.bools (D := fun _ => True) (by rw [tl]; exact Nat.le_trans (Nat.pow_le_pow_right (by decide) hs12) (by decide)) fun _ _ => trivial
      refine len ?_
      refine loop_rule (fun s : Nat × Nat => [(105, iv (s.1 : Int)), (20, iv (s.2 : Int))]) (fun s u => s.1 ≤ nS ∧ u = w9 ∧ s.2 = orL (set.take s.1)) (fun s _ => nS - s.1) (0, 0) ⟨rfl, rfl, trivial⟩ ⟨by omega, rfl, by rfl⟩ rfl ?_
      rintro G ⟨k, m⟩ u ⟨hk, rfl, hm⟩
      refine cD (fun hlt => ?_) (fun hge => ?_)
      · have hlt : k < nS := by omega
        obtain ⟨b, o, cs, a, rfl, ha, -, -, hc, rfl, -⟩ := hset9.at_ hlt
        have htk : set.take (k + 1) = set.take k ++ [a] := by rw [List.take_add_one, ha]; rfl
        have hab := hsb a (List.mem_of_getElem? ha)
        have hm' : m < 2 ^ x.suspects.length := by rw [show m = orL (set.take k) from hm]; exact orL_lt fun i hi => hsb i (List.mem_of_mem_take hi)
        have hp : 2 ^ x.suspects.length ≤ 2 ^ 12 := Nat.pow_le_pow_right (by decide) hs12
        have hm'' : m < 4096 := by omega
        refine idx k rfl hlt ?_
        refine ld (iv a) (hc 0 _ rfl) ?_
        refine shl1 (fun q hq hql => ?_) (by omega)
        refine orV (fun q' hq' => ?_)
        refine arI (by omega) ?_
        refine next (k + 1, q') ⟨by rw [Int.natCast_add]; rfl, rfl, trivial⟩ ⟨by omega, rfl, ?_⟩ (by simp only; omega)
        show q' = orL (set.take (k + 1))
        rw [htk, orL_snoc, hq', hq, ← hm]
      · have hkn : k = nS := by omega
        subst hkn
        rw [List.take_of_length_le (by omega)] at hm
        have hm : m = orL set := hm
        have tnl : tn = 2 ^ x.suspects.length := by rw [← tl]; exact bT.len.symm
        refine cE (fun _ => ?_) (fun h => absurd (askErr_ok.1 e0).1 h)
        refine len ?_
        refine cD (fun _ => ?_) (fun h => by omega)
        obtain ⟨b, o, cs, y, rfl, hy, -, -, hc, rfl⟩ := bT.at_ (k := m) (by omega)
        rw [hm, tg, ← hb1] at hy
        injection hy with hy
        subst hy
        refine idx m rfl (by omega) ?_
        refine ld (.bool false) (hc 0 _ rfl) ?_
        refine eqB (fun _ => ?_) (fun h => absurd rfl h)
        exact ret1 (.bool true) rfl ⟨rfl, x2.trans z9⟩
end
end Go.Proofs.Ytffdjecdcbbfaaa

/- Layer 48, plainly: more suspects, wider ranges. -/
namespace Go.Proofs.Ytffdjecdcbbfaaa
open Go Go.RowKit

/-- As many ranges, each of them as wide or wider. -/
def WiderL (l l' : List Rg) : Prop := l.length = l'.length ∧ ∀ i, i < l.length → (l'.getD i g0).lo ≤ (l.getD i g0).lo ∧ (l.getD i g0).hi ≤ (l'.getD i g0).hi
theorem WiderL.refl (l : List Rg) : WiderL l l := ⟨rfl, fun _ _ => ⟨Int.le_refl _, Int.le_refl _⟩⟩
structure WiderW (v v' : Wv) : Prop where
  heads : WiderL v.heads v'.heads
  outlets : WiderL v.outlets v'.outlets
  tails : WiderL v.tails v'.tails
theorem WiderW.refl (v : Wv) : WiderW v v := ⟨.refl _, .refl _, .refl _⟩
def BlLe (bl bl' : Int × Int → Option Int) : Prop := ∀ key n, bl key = some n → bl' key = some n
theorem meter_more {bl bl' : Int × Int → Option Int} (hb : BlLe bl bl') {kd ix : Int} {y y' : Rg} (h0 : 0 ≤ y.lo) (h1 : y'.lo ≤ y.lo) (h2 : y.hi ≤ y'.hi) : (meterV bl' kd ix y').lo ≤ (meterV bl kd ix y).lo ∧ (meterV bl kd ix y).hi ≤ (meterV bl' kd ix y').hi := by
  unfold meterV
  cases e : bl (kd, ix) with
  | some n => rw [hb _ _ e]; show (0 : Int) ≤ 0 ∧ max n y.hi ≤ max n y'.hi; omega
  | none =>
    cases e' : bl' (kd, ix) with
    | some n => show (0 : Int) ≤ y.lo ∧ y.hi ≤ max n y'.hi; omega
    | none => exact ⟨h1, h2⟩
theorem in_more {bl bl' : Int × Int → Option Int} (hb : BlLe bl bl') {kd : Int} {l : List Int} {m : Nat} {read read' : List Rg} (hr : WiderL read read') (h0 : rgsB m read = true) (h : inB bl kd l read = true) : inB bl' kd l read' = true := by
  rw [inB_iff] at h ⊢
  refine ⟨by rw [h.1, hr.1], fun i hi => ?_⟩
  have h1 := h.2 i hi
  have h2 := hr.2 i (by rw [← h.1]; exact hi)
  have h3 := rgOk_iff.1 (rgsB_get h0 (by rw [← rgsB_len h0, ← h.1]; exact hi))
  have := meter_more hb (kd := kd) (ix := i) h3.1 h2.1 h2.2
  omega
section
variable {d : Dist} {x x' : Ev} {set set' : List Int}
theorem suE_congr (hs : x'.suspects = x.suspects) (i : Nat) : suE x' i = suE x i := by unfold suE; rw [hs]
theorem suAt_congr (hs : x'.suspects = x.suspects) (i : Int) : suAt x' i = suAt x i := by unfold suAt; rw [hs]
theorem fits_more {bl bl' : Int × Int → Option Int} {v v' : Wv} {t : Tru} (hs : x'.suspects = x.suspects) (hb : BlLe bl bl') (hw : WiderW v v') (w1 : rgsB d.reaches.length v.heads = true) (w2 : rgsB d.farms.length v.outlets = true) (w3 : rgsB d.reaches.length v.tails = true) (hp : ∀ key n, bl' key = some n → 0 ≤ n) (h : FitsL d x bl v t) : FitsL d x' bl' v' t := by
  have ho : ∀ k r, out3 d x' t k r = out3 d x t k r := fun k r => by
    unfold out3 out2 out1
    have : qP x' r = qP x r := funext fun i => by unfold qP; rw [suE_congr hs]
    rw [this, hs]
  refine ⟨in_more hb hw.heads w1 h.i1, in_more hb hw.outlets w2 h.i2, in_more hb hw.tails w3 h.i3, h.la, by rw [hs]; exact h.lt, fun i hi => ?_, fun r hr => ?_⟩
  · have := h.tk i (by rw [← hs]; exact hi)
    refine ⟨this.1, Int.le_trans this.2 ?_⟩
    unfold mostT
    rw [suE_congr hs]
    by_cases hk : (suE x i).kind = 4
    · rw [if_pos hk, if_pos hk]
      cases e : bl ((suE x i).kind, (suE x i).index) with
      | some n => rw [hb _ _ e]; exact Int.le_refl _
      | none =>
        cases e' : bl' ((suE x i).kind, (suE x i).index) with
        | none => exact Int.le_refl _
        | some n => exact hp _ _ e'
    · rw [if_neg hk, if_neg hk]; exact Int.le_refl _
  · rw [ho]; exact h.ar r hr
theorem bl_more (he : askErr d x set = 0) (he' : askErr d x' set' = 0) (hs : x'.suspects = x.suspects) (hsub : ∀ i ∈ set, i ∈ set') : BlLe (blF x set) (blF x' set') := by
  intro key n hn
  obtain ⟨i, hi, hk, rfl⟩ := blF_some hn
  have hsus := (evErr_ok (askErr_ok.1 he).1).2.2.2.2
  have hb := (setB_ok (askErr_ok.1 he).2).2
  have hb' := (setB_ok (askErr_ok.1 he').2).2
  cases e : blF x' set' key with
  | some m =>
    obtain ⟨j, hj, hk', rfl⟩ := blF_some e
    rw [suAt_congr hs] at hk' ⊢
    have h1 := hb i hi
    have h2 := hb' j hj
    rw [hs] at h2
    have : i.toNat = j.toNat := by
      rcases Nat.lt_trichotomy i.toNat j.toNat with q | q | q
      · exact absurd (hk.trans hk'.symm) (sus_ne hsus q (by omega))
      · exact q
      · exact absurd (hk'.trans hk.symm) (sus_ne hsus q (by omega))
    rw [show i = j by omega]
  | none =>
    exfalso
    unfold blF at e
    rw [List.findSome?_eq_none_iff] at e
    have := e i (hsub i hi)
    rw [suAt_congr hs] at this
    rw [if_pos hk] at this
    cases this
/-- Whoever explains, with more suspects and wider ranges still does. -/
theorem expl_more (he : askErr d x set = 0) (he' : askErr d x' set' = 0) (hs : x'.suspects = x.suspects) (hsub : ∀ i ∈ set, i ∈ set') (hl : x'.waves.length = x.waves.length)
    (hw : ∀ (k : Nat) v v', x.waves[k]? = some v → x'.waves[k]? = some v' → WiderW v v') (h : explV d x set = true) : explV d x' set' = true := by
  have hb := bl_more he he' hs hsub
  have ha := find_acc he h
  generalize findL d x set = l at ha
  refine acc_expl (l := l) ?_
  unfold accV at ha ⊢
  rw [if_pos he] at ha
  rw [if_pos he']
  unfold allB at ha ⊢
  rw [Bool.and_eq_true, decide_eq_true_eq] at ha ⊢
  refine ⟨by rw [hl]; exact ha.1, List.all_eq_true.2 fun p hp => ?_⟩
  obtain ⟨k, hk, rfl⟩ := List.getElem_of_mem hp
  rw [List.length_zip] at hk
  rw [List.getElem_zip]
  have hk1 : k < x.waves.length := by omega
  have hk2 : k < l.length := by omega
  have hz := List.all_eq_true.1 ha.2 (x.waves[k], l[k]) (List.mem_iff_getElem.2 ⟨k, by rw [List.length_zip]; omega, by rw [List.getElem_zip]⟩)
  have hm : x.waves[k] ∈ x.waves := List.getElem_mem _
  obtain ⟨w1, w2, w3⟩ := waves_mem (evErr_ok (askErr_ok.1 he).1).2.2.2.1 _ hm
  have hm' : x'.waves[k]'(by omega) ∈ x'.waves := List.getElem_mem _
  have hp' := (wavOk_of he' hm').1.bl
  exact fitsB_iff.2 (fits_more hs hb (hw k _ _ (List.getElem?_eq_getElem hk1) (List.getElem?_eq_getElem (by omega))) w1 w2 w3 (fun key n hn => by have := hp' key n hn; omega) (fitsB_iff.1 hz))

/-! ### in the table -/
theorem members_set {n S : Nat} : setB S (-1) (membersL n S) = true := by
  have key : ∀ (l : List Nat) (last : Int), l.Pairwise (· < ·) → (∀ k ∈ l, last < (k : Int) ∧ k < S) → setB S last (l.map fun i : Nat => (i : Int)) = true := by
    intro l
    induction l with
    | nil => intro _ _ _; rfl
    | cons a l ih =>
      intro last hp hb
      rw [List.pairwise_cons] at hp
      show (decide (last < (a : Int)) && (decide ((a : Int) < S) && setB S (a : Int) (l.map fun i : Nat => (i : Int)))) = true
      have h1 := hb a List.mem_cons_self
      rw [ih _ hp.2 fun k hk => ⟨by have := hp.1 k hk; omega, (hb k (List.mem_cons_of_mem _ hk)).2⟩]
      simp only [Bool.and_eq_true, decide_eq_true_eq]
      exact ⟨h1.1, by omega, trivial⟩
  refine key _ _ (List.Pairwise.filter _ List.pairwise_lt_range) fun k hk => ?_
  have := List.mem_range.1 (List.mem_filter.1 hk).1
  exact ⟨by omega, this⟩
theorem ask_members (h : evErr d x = 0) (n : Nat) : askErr d x (membersL n x.suspects.length) = 0 := askErr_ok.2 ⟨h, members_set⟩
theorem table_get (h : evErr d x = 0) {n : Nat} (hn : n < 2 ^ x.suspects.length) : (tableV d x)[n]? = some (explV d x (membersL n x.suspects.length)) := by
  unfold tableV tableL
  rw [if_pos h, List.getElem?_map, List.getElem?_range hn]; rfl
theorem table_len (h : evErr d x = 0) : (tableV d x).length = 2 ^ x.suspects.length := by unfold tableV tableL; rw [if_pos h]; simp
theorem table_none (h : evErr d x ≠ 0) : tableV d x = [] := by unfold tableV; rw [if_neg h]
/-- One suspect more. -/
theorem table_one (h : evErr d x = 0) {n i : Nat} (_ : n < 2 ^ x.suspects.length) (_ : i < x.suspects.length) (ht : explV d x (membersL n x.suspects.length) = true) : explV d x (membersL (n ||| 2 ^ i) x.suspects.length) = true := by
  refine expl_more (ask_members h n) (ask_members h _) rfl (fun j hj => ?_) rfl (fun k v v' h1 h2 => by rw [h1] at h2; injection h2 with h2; subst h2; exact .refl _) ht
  unfold membersL at hj ⊢
  rw [List.mem_map] at hj ⊢
  obtain ⟨q, hq, rfl⟩ := hj
  rw [List.mem_filter] at hq
  refine ⟨q, List.mem_filter.2 ⟨hq.1, ?_⟩, rfl⟩
  rw [Nat.testBit_or, hq.2]; rfl
/-- One range wider. -/
theorem table_wide (h : evErr d x = 0) (h' : evErr d x' = 0) (hs : x'.suspects = x.suspects) (hl : x'.waves.length = x.waves.length)
    (hw : ∀ (k : Nat) v v', x.waves[k]? = some v → x'.waves[k]? = some v' → WiderW v v') {n : Nat} (ht : explV d x (membersL n x.suspects.length) = true) : explV d x' (membersL n x'.suspects.length) = true := by
  rw [hs]
  exact expl_more (ask_members h n) (askErr_ok.2 ⟨h', by rw [hs]; exact members_set⟩) hs (fun _ h => h) hl hw ht
end
end Go.Proofs.Ytffdjecdcbbfaaa

/- Layer 48: the law EvidenceMore. -/
namespace Go.Proofs.Ytffdjecdcbbfaaa
open Go Go.RowKit

/-! ### bytes -/
theorem convU8 {P : Program} {s t : TypeId} {n : Int} {K : Value → Prop} [IntTy P s .u8] [IntTy P t .i64] (hn : 0 ≤ n ∧ n ≤ 255) (kk : K (.int .i64 n)) : ConvP P s t (.int .u8 n) K :=
  conv (by rw [IntWalk.i64_in n (by omega)]; exact kk)
theorem u8_in (n : Int) (h : 0 ≤ n ∧ n ≤ 255) : IntKind.u8.wrap n = n := by
  simp [IntKind.wrap, IntKind.bits, IntKind.signed]; omega
theorem quoU8 {a b : Int} {K : Value → Prop} (hb : 0 < b) (ha : 0 ≤ a ∧ a ≤ 255) (k : K (.int .u8 (a / b))) : QuoP .u8 a b K := by
  rw [QuoP_eq]
  refine ⟨by omega, ?_⟩
  have h1 : 0 ≤ a / b := Int.ediv_nonneg ha.1 (by omega)
  have h2 : a / b ≤ a := Int.ediv_le_self b ha.1
  rw [Int.tdiv_eq_ediv_of_nonneg ha.1, u8_in _ (by omega)]
  exact k

/-! ### a wave changed -/
theorem FlatR.split {α : Type} {a : Ty α} {D : Nat → Prop} {w : World} : ∀ {xs ys : List α} {cs : List Value}, FlatR a D w (xs ++ ys) cs → ∃ c1 c2, cs = c1 ++ c2 ∧ FlatR a D w xs c1 ∧ FlatR a D w ys c2
  | [], ys, cs, h => ⟨[], cs, rfl, rfl, h⟩
  | x :: xs, ys, cs, ⟨c, r, e, h1, h2⟩ => by
    obtain ⟨c1, c2, rfl, k1, k2⟩ := FlatR.split h2
    exact ⟨c ++ c1, c2, by rw [e, List.append_assoc], ⟨c, c1, rfl, h1, k1⟩, k2⟩
def selL (j : Nat) (v : Wv) : List Rg := if j = 0 then v.heads else if j = 1 then v.outlets else v.tails
def putW (j : Nat) (v : Wv) (l : List Rg) : Wv := ⟨v.hour, if j = 0 then l else v.heads, if j = 0 then v.outlets else if j = 1 then l else v.outlets, if j = 0 then v.tails else if j = 1 then v.tails else l⟩
theorem rgsB_set {m i : Nat} {l : List Rg} {y : Rg} (h : rgsB m l = true) (hy : rgOk y 1073741824 = true) : rgsB m (l.set i y) = true := by
  unfold rgsB at h ⊢
  rw [Bool.and_eq_true, decide_eq_true_eq, List.all_eq_true] at h ⊢
  refine ⟨by rw [List.length_set]; exact h.1, fun x hx => ?_⟩
  rcases List.mem_or_eq_of_mem_set hx with hx | hx
  · exact h.2 x hx
  · rw [hx]; exact hy
theorem waves_set {d : Dist} {v' : Wv} : ∀ {l : List Wv} {b : Int} {k : Nat} {v : Wv}, wavesB d b l = true → l[k]? = some v → v'.hour = v.hour → rgsB d.reaches.length v'.heads = true → rgsB d.farms.length v'.outlets = true → rgsB d.reaches.length v'.tails = true → wavesB d b (l.set k v') = true
  | [], b, k, v, _, h, _, _, _, _ => by simp at h
  | y :: l, b, 0, v, h, hk, hh, h1, h2, h3 => by
    simp at hk; subst hk
    rw [List.set_cons_zero]
    unfold wavesB waveB at h ⊢
    rw [hh]
    simp only [Bool.and_eq_true] at h ⊢
    exact ⟨⟨h.1.1, h.1.2.1, h1, h2, h3⟩, h.2⟩
  | y :: l, b, k + 1, v, h, hk, hh, h1, h2, h3 => by
    rw [List.set_cons_succ]
    unfold wavesB at h ⊢
    rw [Bool.and_eq_true] at h ⊢
    exact ⟨h.1, waves_set h.2 (by simpa using hk) hh h1 h2 h3⟩
theorem wider_set {l : List Rg} {i : Nat} {y : Rg} (h : ∀ x, l[i]? = some x → y.lo ≤ x.lo ∧ x.hi ≤ y.hi) : WiderL l (l.set i y) := by
  refine ⟨by rw [List.length_set], fun j hj => ?_⟩
  rw [List.getD_eq_getElem?_getD, List.getD_eq_getElem?_getD, List.getElem?_set]
  by_cases e : i = j
  · subst e
    rw [if_pos rfl, if_pos hj]
    have := h l[i] (List.getElem?_eq_getElem hj)
    rw [List.getElem?_eq_getElem hj]
    exact this
  · rw [if_neg e]; exact ⟨Int.le_refl _, Int.le_refl _⟩
/-- The evidence with a wave's list exchanged. -/
def putX (x : Ev) (k j : Nat) (v : Wv) (l : List Rg) : Ev := ⟨x.waves.set k (putW j v l), x.suspects⟩
section
variable {d : Dist} {x : Ev} {k j : Nat} {v : Wv} {l : List Rg}
theorem putX_err (h : evErr d x = 0) (hk : x.waves[k]? = some v) (hl : ∀ m, rgsB m (selL j v) = true → rgsB m l = true) : evErr d (putX x k j v l) = 0 := by
  obtain ⟨h0, h1, h2, h3, h4⟩ := evErr_ok h
  obtain ⟨w1, w2, w3⟩ := waves_mem h3 v (List.mem_of_getElem? hk)
  have hw : wavesB d (-1) (putX x k j v l).waves = true := by
    refine waves_set h3 hk rfl ?_ ?_ ?_
    · show rgsB _ (if j = 0 then l else v.heads) = true
      by_cases e : j = 0
      · rw [if_pos e]; exact hl _ (by unfold selL; rw [if_pos e]; exact w1)
      · rw [if_neg e]; exact w1
    · show rgsB _ (if j = 0 then v.outlets else if j = 1 then l else v.outlets) = true
      by_cases e : j = 0
      · rw [if_pos e]; exact w2
      · rw [if_neg e]
        by_cases e1 : j = 1
        · rw [if_pos e1]; exact hl _ (by unfold selL; rw [if_neg e, if_pos e1]; exact w2)
        · rw [if_neg e1]; exact w2
    · show rgsB _ (if j = 0 then v.tails else if j = 1 then v.tails else l) = true
      by_cases e : j = 0
      · rw [if_pos e]; exact w3
      · rw [if_neg e]
        by_cases e1 : j = 1
        · rw [if_pos e1]; exact w3
        · rw [if_neg e1]; exact hl _ (by unfold selL; rw [if_neg e, if_neg e1]; exact w3)
  unfold evErr
  rw [if_neg (by simp [h0]), if_neg (by show ¬ ((x.waves.set k _).length > 24 ∨ x.suspects.length > 12); rw [List.length_set]; omega), hw]
  have : susB d (0, -1) (putX x k j v l).suspects = true := h4
  rw [this]; rfl
theorem putX_wider (hk : x.waves[k]? = some v) (hl : WiderL (selL j v) l) : ∀ (i : Nat) a b, x.waves[i]? = some a → (putX x k j v l).waves[i]? = some b → WiderW a b := by
  intro i a b ha hb
  have hb : (x.waves.set k (putW j v l))[i]? = some b := hb
  rw [List.getElem?_set] at hb
  by_cases e : k = i
  · subst e
    rw [if_pos rfl, if_pos (List.getElem?_eq_some_iff.1 ha).1] at hb
    injection hb with hb
    subst hb
    rw [hk] at ha; injection ha with ha; subst ha
    unfold selL at hl
    unfold putW
    refine ⟨?_, ?_, ?_⟩
    · show WiderL v.heads (if j = 0 then l else v.heads)
      by_cases e : j = 0
      · rw [if_pos e] at hl ⊢; exact hl
      · rw [if_neg e]; exact .refl _
    · show WiderL v.outlets (if j = 0 then v.outlets else if j = 1 then l else v.outlets)
      by_cases e : j = 0
      · rw [if_pos e]; exact .refl _
      · rw [if_neg e] at hl ⊢
        by_cases e1 : j = 1
        · rw [if_pos e1] at hl ⊢; exact hl
        · rw [if_neg e1]; exact .refl _
    · show WiderL v.tails (if j = 0 then v.tails else if j = 1 then v.tails else l)
      by_cases e : j = 0
      · rw [if_pos e]; exact .refl _
      · rw [if_neg e] at hl ⊢
        by_cases e1 : j = 1
        · rw [if_pos e1]; exact .refl _
        · rw [if_neg e1] at hl ⊢; exact hl
  · rw [if_neg e, ha] at hb; injection hb with hb; subst hb; exact .refl _
end
end Go.Proofs.Ytffdjecdcbbfaaa

/- Layer 48: the law EvidenceMore, walked. -/
namespace Go.Proofs.Ytffdjecdcbbfaaa
open Go Go.RowKit

section
variable {D : Nat → Prop} {w : World}
theorem World_cell_ext {w w' : World} {a : Addr} {v : Value} (k : Ext w w') (h : w.cell? a = some v) : w'.cell? a = some v := k.cell h trivial
theorem flat_wv_one : ∀ {xs : List Wv} {cs : List Value}, FlatR tWv D w xs cs → ∀ u ∈ cs, u.oneCell' = true
  | [], _, h, u, hu => by rw [show _ = [] from h] at hu; cases hu
  | x :: xs, _, ⟨c, r, e, h1, h2⟩, u, hu => by
    rw [e] at hu
    rcases List.mem_append.1 hu with hu | hu
    · obtain ⟨H1, h1', k1, O1, o1, k2, T1, t1, k3, rfl, -⟩ := wv_open h1
      simp only [List.mem_cons, List.not_mem_nil, or_false] at hu
      rcases hu with rfl | rfl | rfl | rfl <;> rfl
    · exact flat_wv_one h2 u hu
theorem flat_rg_eq : ∀ {xs : List Rg} {cs : List Value}, FlatR tRg D w xs cs → cs = xs.flatMap Rg.c
  | [], _, h => h
  | x :: xs, _, ⟨c, r, e, h1, h2⟩ => by rw [e, flat_rg_eq h2, show c = x.c from h1]; rfl
theorem rgs_src {A : Option Addr} {n : Nat} {xs : List Rg} (h : SlR tRg D w A n xs) : Src w A n 2 (xs.flatMap Rg.c) := by
  have hl : (xs.flatMap Rg.c).length = n * 2 := by
    have := h.len
    have key : ∀ l : List Rg, (l.flatMap Rg.c).length = l.length * 2 := fun l => by
      induction l with
      | nil => rfl
      | cons a l ih => rw [List.flatMap_cons, List.length_append, ih, List.length_cons]; show 2 + l.length * 2 = (l.length + 1) * 2; omega
    rw [key]; omega
  refine ⟨hl, fun h0 => ?_⟩
  obtain ⟨b, o, cs, x, rfl, _⟩ := h.at_ h0
  obtain ⟨cs2, hf, hc⟩ := h.cells
  refine ⟨b, o, rfl, ?_⟩
  rw [← flat_rg_eq hf]; exact hc
theorem rgs_put {y : Rg} : ∀ {l : List Rg} {i : Nat}, i < l.length → (l.set i y).flatMap Rg.c = ((l.flatMap Rg.c).set (i * 2) (iv y.lo)).set (i * 2 + 1) (iv y.hi)
  | [], i, h => by simp at h
  | x :: l, 0, _ => by rfl
  | x :: l, i + 1, h => by
    rw [List.set_cons_succ, List.flatMap_cons, List.flatMap_cons, rgs_put (by simpa using h)]
    rw [show (i + 1) * 2 = i * 2 + 1 + 1 by omega]
    rfl
theorem wv_put {x : Wv} {j : Nat} {H O T A : Option Addr} {h1 k1 o1 k2 t1 k3 n c : Nat} {l : List Rg} (hj : j < 3) (hh : I64 x.hour) (p1 : SlR tRg D w H h1 x.heads) (p2 : SlR tRg D w O o1 x.outlets) (p3 : SlR tRg D w T t1 x.tails) (q1 : h1 ≤ k1) (q2 : o1 ≤ k2) (q3 : t1 ≤ k3) (pl : SlR tRg D w A n l) (ql : n ≤ c) :
    tWv.rep D w ([iv x.hour, .slice H h1 k1, .slice O o1 k2, .slice T t1 k3].set (1 + j) (.slice A n c)) (putW j x l) := by
  have hj : j = 0 ∨ j = 1 ∨ j = 2 := by omega
  rcases hj with rfl | rfl | rfl
  · exact ⟨_, _, rfl, ⟨rfl, hh⟩, _, _, rfl, ⟨A, n, c, rfl, pl, ql⟩, _, _, rfl, ⟨O, o1, k2, rfl, p2, q2⟩, T, t1, k3, rfl, p3, q3⟩
  · exact ⟨_, _, rfl, ⟨rfl, hh⟩, _, _, rfl, ⟨H, h1, k1, rfl, p1, q1⟩, _, _, rfl, ⟨A, n, c, rfl, pl, ql⟩, T, t1, k3, rfl, p3, q3⟩
  · exact ⟨_, _, rfl, ⟨rfl, hh⟩, _, _, rfl, ⟨H, h1, k1, rfl, p1, q1⟩, _, _, rfl, ⟨O, o1, k2, rfl, p2, q2⟩, A, n, c, rfl, pl, ql⟩
theorem wv_open' {cs : List Value} {x : Wv} (h : tWv.rep D w cs x) : ∃ H1 h1 k1 O1 o1 k2 T1 t1 k3, cs = [iv x.hour, .slice H1 h1 k1, .slice O1 o1 k2, .slice T1 t1 k3] ∧ I64 x.hour ∧ SlR tRg D w H1 h1 x.heads ∧ SlR tRg D w O1 o1 x.outlets ∧ SlR tRg D w T1 t1 x.tails ∧ h1 ≤ k1 ∧ o1 ≤ k2 ∧ t1 ≤ k3 := by
  obtain ⟨_, _, rfl, ⟨rfl, hh⟩, _, _, rfl, ⟨H1, h1, k1, rfl, g1, q1⟩, _, _, rfl, ⟨O1, o1, k2, rfl, g2, q2⟩, T1, t1, k3, rfl, g3, q3⟩ := h
  exact ⟨H1, h1, k1, O1, o1, k2, T1, t1, k3, rfl, hh, g1, g2, g3, q1, q2, q3⟩
theorem wv_sel {x : Wv} {j : Nat} {H O T : Option Addr} {h1 k1 o1 k2 t1 k3 : Nat} (hj : j < 3) (p1 : SlR tRg D w H h1 x.heads) (p2 : SlR tRg D w O o1 x.outlets) (p3 : SlR tRg D w T t1 x.tails) :
    ∃ A n c, [iv x.hour, .slice H h1 k1, .slice O o1 k2, .slice T t1 k3][1 + j]? = some (.slice A n c) ∧ SlR tRg D w A n (selL j x) := by
  have hj : j = 0 ∨ j = 1 ∨ j = 2 := by omega
  rcases hj with rfl | rfl | rfl
  · exact ⟨H, h1, k1, rfl, p1⟩
  · exact ⟨O, o1, k2, rfl, p2⟩
  · exact ⟨T, t1, k3, rfl, p3⟩
set_option maxRecDepth 8000 in
theorem c_EvidenceMore {csd csx : List Value} {d : Dist} {x : Ev} {wh wi : Int} (hd : DiR D w csd d) (hx : EvR D w csx x) (hwh : 0 ≤ wh ∧ wh ≤ 255) (hwi : 0 ≤ wi ∧ wi ≤ 255) : CallZ Try.prog 4 #[.agg csd.toArray, .agg csx.toArray, .int .u8 wh, .int .u8 wi] w
    (fun v w' => v = .bool true ∧ Ext w w') := by
  have hd := hd.more (D' := fun _ => True) fun _ _ _ => trivial
  have hx := hx.more (D' := fun _ => True) fun _ _ _ => trivial
  obtain ⟨A1, n1, c1, A2, n2, c2, A3, n3, c3, A4, n4, c4, A5, n5, c5, A6, n6, c6, rfl, -⟩ := hd.ex
  obtain ⟨W1, m1, e1, S1, m2, e2, rfl, hwv, hsu, le1, le2⟩ := hx.ex
  have ls := hsu.len
  have lw := hwv.len
  refine fn_rule (args := [.agg #[.string d.name, iv d.hours, iv d.cap, iv d.start, .slice A1 n1 c1, .slice A2 n2 c2, .slice A3 n3 c3, .slice A4 n4 c4, .slice A5 n5 c5, .slice A6 n6 c6], .agg #[.slice W1 m1 e1, .slice S1 m2 e2], .int .u8 wh, .int .u8 wi]) Try.func4 (by kernel_rfl) ?_
  refine box (fun bd w1 i1 => ?_)
  refine box (fun bx w2 i2 => ?_)
  have x2 := i1.ext.trans i2.ext
  have Bd : Blk w2 bd 31 [.string d.name, iv d.hours, iv d.cap, iv d.start, .slice A1 n1 c1, .slice A2 n2 c2, .slice A3 n3 c3, .slice A4 n4 c4, .slice A5 n5 c5, .slice A6 n6 c6] := i1.blk.ext i2.ext
  have Bx : Blk w2 bx 35 [.slice W1 m1 e1, .slice S1 m2 e2] := i2.blk
  refine call_of (c_esane) ?_
  rintro _ w3 ⟨rfl, x3⟩
  refine ldA [.string d.name, iv d.hours, iv d.cap, iv d.start, .slice A1 n1 c1, .slice A2 n2 c2, .slice A3 n3 c3, .slice A4 n4 c4, .slice A5 n5 c5, .slice A6 n6 c6] (.blk (Bd.ext x3)) rfl ?_
  refine ldA [.slice W1 m1 e1, .slice S1 m2 e2] (.blk (Bx.ext x3)) rfl ?_
  refine callSE (c_r48Few ((hd.ext x2).ext x3) ((hx.ext x2).ext x3)) (fun w4 x4 => ?_) (fun w4 x4 => ?_)
  rotate_left
  · exact ret1 (.bool true) rfl ⟨rfl, x2.trans (x3.trans x4)⟩
  have z4 := x3.trans x4
  refine ldA [.string d.name, iv d.hours, iv d.cap, iv d.start, .slice A1 n1 c1, .slice A2 n2 c2, .slice A3 n3 c3, .slice A4 n4 c4, .slice A5 n5 c5, .slice A6 n6 c6] (.blk (Bd.ext z4)) rfl ?_
  refine ldA [.slice W1 m1 e1, .slice S1 m2 e2] (.blk (Bx.ext z4)) rfl ?_
  refine call_of (c_Table ((hd.ext x2).ext z4) ((hx.ext x2).ext z4)) ?_
  rintro _ w5 ⟨TA, tn, tc, rfl, oT⟩
  have z5 := z4.trans oT.ext
  refine cN (fun q0 => ?_) (fun q0 => ?_)
  · have q0 : evErr d x ≠ 0 := q0
    have hn := oT.own.len
    rw [table_none q0] at hn
    have hn : 0 = tn * 1 := hn
    refine len ?_
    refine cE (fun _ => ?_) (fun h => absurd (show (tn : Int) = 0 by omega) h)
    exact ret1 (.bool true) rfl ⟨rfl, x2.trans z5⟩
  have q0 : evErr d x = 0 := q0
  obtain ⟨-, -, hS⟩ := ev_sizes q0
  have tl := table_len q0
  have bT := oT.bools (D := fun _ => True) (by rw [tl]; exact Nat.le_trans (Nat.pow_le_pow_right (by decide) hS) (by decide)) fun _ _ => trivial
  have tnl : tn = 2 ^ x.suspects.length := by rw [← tl]; exact bT.len.symm
  have hpos : 0 < 2 ^ x.suspects.length := Nat.pow_pos (by decide)
  have hpow : 2 ^ x.suspects.length ≤ 4096 := Nat.le_trans (Nat.pow_le_pow_right (by omega) hS) (by decide)
  refine len ?_
  refine fldA ?_
  refine ld (.slice S1 m2 e2) ((Bx.ext z5).cell rfl) ?_
  refine len ?_
  refine shl1 (fun pw hpw _ => ?_)
  have hpw : pw = 2 ^ x.suspects.length := by rw [hpw, Int.toNat_natCast, ls]
  refine cN (fun h => absurd (show (tn : Int) = (pw : Int) by rw [tnl, hpw]) h) (fun _ => ?_)
  obtain ⟨tb, to_, _, _, rfl, -⟩ := bT.at_ (k := 0) (by omega)
  have tget : ∀ k, k < tn → w5.cell? (ad tb (to_ + k * 1)) = some (.bool (explV d x (membersL k x.suspects.length))) := fun k hk => by
    obtain ⟨b', o', cs, y, e, hy, -, -, hc, rfl⟩ := bT.at_ (k := k) hk
    rw [table_get q0 (by omega)] at hy
    simp only [Option.some.injEq, Addr.mk.injEq] at e
    obtain ⟨rfl, rfl, -⟩ := e
    injection hy with hy
    subst hy
    exact hc 0 _ rfl
  refine len ?_
  refine loop_rule (fun k : Nat => [(47, iv (k : Int))]) (fun k u => k ≤ tn ∧ w5 = u) (fun k _ => tn - k) 0 ⟨rfl, trivial⟩ ⟨by omega, rfl⟩ rfl ?_
  rintro G k u ⟨hk, rfl⟩
  refine cD (fun hlt => ?_) (fun hge => ?_)
  · have hlt : k < tn := by omega
    refine fldA ?_
    refine ld (.slice S1 m2 e2) ((Bx.ext z5).cell rfl) ?_
    refine len ?_
    refine loop_rule (fun i : Nat => [(53, iv (i : Int))]) (fun i u => i ≤ m2 ∧ w5 = u) (fun i _ => m2 - i) 0 ⟨rfl, trivial⟩ ⟨by omega, rfl⟩ rfl ?_
    rintro G2 i u ⟨hi, rfl⟩
    refine cD (fun hlti => ?_) (fun hgei => ?_)
    · have hlti : i < m2 := by omega
      have hc := tget k hlt
      obtain ⟨y, hy⟩ : ∃ y, y = explV d x (membersL k x.suspects.length) := ⟨_, rfl⟩
      rw [← hy] at hc
      refine idx k rfl hlt ?_
      cases y with
      | false =>
        refine ld (.bool false) hc ?_
        refine arI (by omega) ?_
        exact next (i + 1) ⟨by rw [Int.natCast_add]; rfl, trivial⟩ ⟨by omega, rfl⟩ (by omega)
      | true =>
        refine ld (.bool true) hc ?_
        refine shl1 (fun q hq hql => ?_) (by omega)
        refine orV (fun q' hq' => ?_)
        have hq : q = 2 ^ i := by rw [hq, Int.toNat_natCast]
        have hlq : q' < tn := by
          rw [hq', hq, tnl]
          exact Nat.or_lt_two_pow (by omega) (Nat.pow_lt_pow_right (by decide) (by omega))
        have hc' := tget q' hlq
        rw [hq', hq, table_one q0 (by omega) (by omega) hy.symm, ← hq, ← hq'] at hc'
        refine idx q' rfl hlq ?_
        refine ld (.bool true) hc' ?_
        refine arI (by omega) ?_
        exact next (i + 1) ⟨by rw [Int.natCast_add]; rfl, trivial⟩ ⟨by omega, rfl⟩ (by omega)
    · refine arI (by omega) ?_
      exact next (k + 1) ⟨by rw [Int.natCast_add]; rfl, trivial⟩ ⟨by omega, rfl⟩ (by omega)
  refine fldA ?_
  refine ld (.slice W1 m1 e1) ((Bx.ext z5).cell rfl) ?_
  refine len ?_
  refine cE (fun _ => ?_) (fun hm1 => ?_)
  · exact ret1 (.bool true) rfl ⟨rfl, x2.trans z5⟩
  have hm1 : 0 < m1 := by omega
  have hwv5 := (hwv.ext x2).ext z5
  obtain ⟨wb, wo, _, _, rfl, -⟩ := hwv5.at_ (k := 0) hm1
  obtain ⟨wc, hfw, hcw⟩ := hwv5.cells
  have lwc : wc.length = m1 * 4 := by have := hfw.len; rw [this, lw]; rfl
  have hle1 := hwv.le
  have hw24 := (evErr_ok q0).2.1
  refine ldA [.slice (some (ad wb wo)) m1 e1, .slice S1 m2 e2] (.blk (Bx.ext z5)) rfl ?_
  refine alloc (fun by_ w6 i6 => ?_)
  refine stA i6.blk rfl (by show 0 + 2 ≤ 2; omega) (fun u hu => by simp only [List.mem_cons, List.not_mem_nil, or_false] at hu; rcases hu with rfl | rfl <;> rfl) (fun w7 b7 k7 s7 => ?_)
  have b7 : Blk w7 by_ 35 [.slice (some (ad wb wo)) m1 e1, .slice S1 m2 e2] := b7
  have hby := i6.at_
  have i6s := i6.size
  have x57 : Ext w5 w7 := i6.ext.then k7 fun b hb _ e => by omega
  refine lit [] (fun ga w8 h8 => ?_)
  refine fldA ?_
  refine ld (.slice (some (ad wb wo)) m1 e1) ((Bx.ext (z5.trans (x57.trans h8.ext))).cell rfl) ?_
  have o8 : OwnF w7 w8 (some (ad ga 0)) 0 0 53 4 [] := OwnF.lit (cs := []) (.refl _ _) h8 rfl
  refine appF o8 ⟨lwc, fun _ => ⟨wb, wo, rfl, hcw.kept (x57.trans h8.ext) trivial⟩⟩ (by omega) (fun A' c' w9 o9 k9 hA9 => ?_) (h1 := List.all_eq_true.2 (flat_wv_one hfw))
  have x79 := o9.ext
  rcases o9.form with ⟨-, h0, -⟩ | ⟨gw, rfl, hg1, hg2, hg3⟩
  · omega
  obtain ⟨rs, bw9, -, -⟩ := o9.own.blk
  refine fldA ?_
  refine st (b7.ext x79) (by show 0 + 0 < 2; omega) rfl (fun w10 b10 k10 s10 => ?_)
  have b10 : Blk w10 by_ 35 [.slice (some (ad gw 0)) (0 + m1) c', .slice S1 m2 e2] := b10
  have bylt := b7.lt
  have hgby : gw ≠ by_ := by omega
  have bw10 : Blk w10 gw 53 (wc ++ rs) := bw9.kept k10 hgby
  have z6 : w5.heap.size ≤ w7.heap.size := x57.size
  have x5_10 : Ext w5 w10 := (x57.trans x79).then k10 fun b hb _ e => by omega
  -- the wave that is changed
  obtain ⟨q, hq, hqlt⟩ : ∃ q : Nat, wh % ((0 + m1 : Nat) : Int) = q ∧ q < m1 := ⟨(wh % ((0 + m1 : Nat) : Int)).toNat, by have := Int.emod_nonneg wh (show ((0 + m1 : Nat) : Int) ≠ 0 by omega); omega, by have := Int.emod_lt_of_pos wh (show (0 : Int) < ((0 + m1 : Nat) : Int) by omega); have := Int.emod_nonneg wh (show ((0 + m1 : Nat) : Int) ≠ 0 by omega); omega⟩
  obtain ⟨j, hj, hjlt⟩ : ∃ j : Nat, wh % 3 = j ∧ j < 3 := ⟨(wh % 3).toNat, by omega, by omega⟩
  obtain ⟨v, hv⟩ : ∃ v, x.waves[q]? = some v := ⟨x.waves[q]'(by omega), List.getElem?_eq_getElem (by omega)⟩
  have hxs : x.waves = x.waves.take q ++ ([v] ++ x.waves.drop (q + 1)) := by
    have : v = x.waves[q]'(by omega) := by rw [List.getElem?_eq_getElem (by omega)] at hv; exact (Option.some.inj hv).symm
    rw [this, List.singleton_append, List.getElem_cons_drop, List.take_append_drop]
  have hfw' := hfw
  rw [hxs] at hfw'
  obtain ⟨wc1, wcr, ewc, hf1, hfr⟩ := FlatR.split hfw'
  obtain ⟨wcv, wc2, rfl, hfv, hf2⟩ := FlatR.split hfr
  have lwc1 : wc1.length = q * 4 := by have := hf1.len; rw [this, List.length_take, Nat.min_eq_left (by omega)]; rfl
  have hrv : tWv.rep (fun _ => True) w5 wcv v := by
    obtain ⟨c, r, e, h1, h2⟩ := hfv
    rw [show r = [] from h2, List.append_nil] at e
    rw [e]; exact h1
  obtain ⟨H, hn, hc, O, on, oc, T, tn', tc', rfl, hour, pH, pO, pT, qH, qO, qT⟩ := wv_open' hrv
  obtain ⟨SA, sn, sc, hsel, pS⟩ := wv_sel (k1 := hc) (k2 := oc) (k3 := tc') hjlt pH pO pT
  obtain ⟨cell4, hcell4⟩ : ∃ c : List Value, c = [iv v.hour, .slice H hn hc, .slice O on oc, .slice T tn' tc'] := ⟨_, rfl⟩
  rw [← hcell4] at hsel ewc
  have l4 : cell4.length = 4 := by rw [hcell4]; rfl
  rw [ewc] at bw10
  refine drawX [0, 1, 2, 3, 4, 5, 6, 7, 8, 9] [] mx (by kernel_rfl) ?_
  refine fldA ?_
  refine ldX (.slice (some (ad gw 0)) (0 + m1) c') (b10.cell rfl) (.refl _ _) ?_
  refine convU8 hwh ?_
  refine fldA ?_
  refine ldX (.slice (some (ad gw 0)) (0 + m1) c') (b10.cell rfl) (.refl _ _) ?_
  refine len ?_
  refine remI (by omega) hwh.1 ?_
  refine idx q hq (by omega) ?_
  refine drawX [0, 1, 2, 3, 4, 5, 6, 7, 8, 9, 10] [9] mx (by kernel_rfl) ?_
  refine fldA ?_
  refine fldA ?_
  refine fldA ?_
  refine lit [.pointer (some (ad gw (0 + q * 4 + 1))), .pointer (some (ad gw (0 + q * 4 + 2))), .pointer (some (ad gw (0 + q * 4 + 3)))] (fun gl w11 h11 => ?_)
  refine strS h11.ext ?_
  have hptr : w11.cell? (ad gl (0 + j * 1)) = some (.pointer (some (ad gw (q * 4 + (1 + j))))) := by
    have hj3 : j = 0 ∨ j = 1 ∨ j = 2 := by omega
    rcases hj3 with rfl | rfl | rfl
    · rw [show q * 4 + (1 + 0) = 0 + q * 4 + 1 by omega]; exact h11.blk.cell rfl
    · rw [show q * 4 + (1 + 1) = 0 + q * 4 + 2 by omega]; exact h11.blk.cell rfl
    · rw [show q * 4 + (1 + 2) = 0 + q * 4 + 3 by omega]; exact h11.blk.cell rfl
  refine convU8 hwh ?_
  refine remI (by omega) hwh.1 ?_
  refine idx j hj hjlt ?_
  refine ld (.pointer (some (ad gw (q * 4 + (1 + j))))) hptr ?_
  refine lit [] (fun gb w12 h12 => ?_)
  have x10_12 : Ext w10 w12 := h11.ext.trans h12.ext
  have bw12 := bw10.ext x10_12
  have scell : (wc1 ++ (cell4 ++ wc2) ++ rs)[q * 4 + (1 + j)]? = some (.slice SA sn sc) := by
    rw [List.append_assoc, List.getElem?_append_right (by omega), lwc1, show q * 4 + (1 + j) - q * 4 = 1 + j by omega, List.append_assoc, List.getElem?_append_left (by omega)]
    exact hsel
  refine ld (.slice SA sn sc) (bw12.cell scell) ?_
  have o12 : OwnF w11 w12 (some (ad gb 0)) 0 0 58 2 [] := OwnF.lit (cs := []) (.refl _ _) h12 rfl
  have x5_12 : Ext w5 w12 := x5_10.trans x10_12
  have lsel := pS.len
  have hlesn := pS.le
  have hsn : sn ≤ 600 := by
    obtain ⟨w1', w2', w3'⟩ := waves_mem (evErr_ok q0).2.2.2.1 v (List.mem_of_getElem? hv)
    obtain ⟨⟨r1, -⟩, r2, -⟩ := ev_sizes q0
    have g1 := rgsB_len w1'
    have g2 := rgsB_len w2'
    have g3 := rgsB_len w3'
    rw [← lsel]
    unfold selL
    split
    · omega
    · split <;> omega
  refine appF o12 (rgs_src (pS.ext x5_12)) (by omega) (fun AR cR w13 o13 k13 hA13 => ?_) (h1 := by rw [List.all_flatMap]; exact List.all_eq_true.2 fun _ _ => rfl)
  have z11 := h11.size
  have z12 := h12.size
  have a11 := h11.at_
  have a12 := h12.at_
  have gwlt := bw10.lt
  have x10_13 : Ext w10 w13 := h11.ext.trans o13.ext
  have bw13 := bw10.ext x10_13
  refine st bw13 (by rw [List.length_append, List.length_append, List.length_append, lwc1, l4]; omega) rfl (fun w14 bw14r k14 s14 => ?_)
  obtain ⟨cellN, hcellN⟩ : ∃ c : List Value, c = cell4.set (1 + j) (.slice AR (0 + sn) cR) := ⟨_, rfl⟩
  have eset : (wc1 ++ (cell4 ++ wc2) ++ rs).set (q * 4 + (1 + j)) (.slice AR (0 + sn) cR) = wc1 ++ (cellN ++ wc2) ++ rs := by
    rw [List.append_assoc, List.set_append_right _ _ (by omega), lwc1, show q * 4 + (1 + j) - q * 4 = 1 + j by omega, List.append_assoc, List.set_append_left _ _ (by omega), ← hcellN]
    simp
  have bw14 : Blk w14 gw 53 ((wc1 ++ (cell4 ++ wc2) ++ rs).set (q * 4 + (1 + j)) (.slice AR (0 + sn) cR)) := bw14r
  clear bw14r
  rw [eset] at bw14
  have ncell : (wc1 ++ (cellN ++ wc2) ++ rs)[q * 4 + (1 + j)]? = some (.slice AR (0 + sn) cR) := by
    rw [List.append_assoc, List.getElem?_append_right (by omega), lwc1, show q * 4 + (1 + j) - q * 4 = 1 + j by omega, List.append_assoc, List.getElem?_append_left (by rw [hcellN, List.length_set]; omega), hcellN, List.getElem?_set_self (by omega)]
  have b14 : Blk w14 by_ 35 [.slice (some (ad gw 0)) (0 + m1) c', .slice S1 m2 e2] := (b10.ext x10_13).kept k14 (fun e => hgby e.symm)
  have z10 := k10.size
  have z13 := x10_13.size
  have x5_14 : Ext w5 w14 := (x5_10.trans x10_13).then k14 fun b hb _ e => by omega
  -- what comes of it, whatever the list then says
  have fin : ∀ (w' : World) (l' : List Rg) , Ext w5 w' → Blk w' by_ 35 [.slice (some (ad gw 0)) (0 + m1) c', .slice S1 m2 e2] → Blk w' gw 53 (wc1 ++ (cellN ++ wc2) ++ rs) → SlR tRg (fun _ => True) w' AR (0 + sn) l' → 0 + sn ≤ cR → EvR (fun _ => True) w' [.slice (some (ad gw 0)) (0 + m1) c', .slice S1 m2 e2] (putX x q j v l') := by
    intro w' l' xw yb gb' hl' hlc
    refine EvR.of_ ⟨_, _, _, _, _, _, rfl, ?_, ((hsu.ext x2).ext z5).ext xw, o9.le, le2⟩
    have hrep : tWv.rep (fun _ => True) w' cellN (putW j v l') := by
      rw [hcellN, hcell4]
      exact wv_put hjlt hour (pH.ext xw) (pO.ext xw) (pT.ext xw) qH qO qT hl' hlc
    have hset : (putX x q j v l').waves = x.waves.take q ++ ([putW j v l'] ++ x.waves.drop (q + 1)) := by
      show x.waves.set q _ = _
      rw [List.set_eq_take_append_cons_drop, if_pos (by omega)]; rfl
    rw [hset]
    refine SlR.of_cells (cs := wc1 ++ (cellN ++ wc2)) ?_ (by omega) trivial (CellsAt.app (.blk gb')).1 ?_
    · rw [← hset]; show 0 + m1 = (x.waves.set q _).length; rw [List.length_set]; omega
    · exact (hf1.keep fun b hb h => xw.blk b hb h).app ((FlatR.one hrep).app (hf2.keep fun b hb h => xw.blk b hb h))
  have herr : ∀ l', (∀ m, rgsB m (selL j v) = true → rgsB m l' = true) → evErr d (putX x q j v l') = 0 := fun l' h => putX_err q0 hv h
  refine ld (.slice AR (0 + sn) cR) (bw14.cell ncell) ?_
  refine len ?_
  have hfin : ∀ (u : World) (l' : List Rg), Ext w5 u → EvR (fun _ => True) u [.slice (some (ad gw 0)) (0 + m1) c', .slice S1 m2 e2] (putX x q j v l') → evErr d (putX x q j v l') = 0 → WiderL (selL j v) l' →
      ∀ k, k < tn → explV d x (membersL k x.suspects.length) = true → explV d (putX x q j v l') (membersL k (putX x q j v l').suspects.length) = true := fun u l' _ _ e hw k hk ht =>
    table_wide q0 e rfl (by show (x.waves.set q _).length = _; rw [List.length_set]) (putX_wider hv hw) ht
  have lle := o13.le
  refine cD (fun hlt => ?_) (fun hge => ?_)
  · have hlt : 0 < sn := by omega
    rcases o13.form with ⟨-, h0, -⟩ | ⟨gr, rfl, hr1, hr2, -⟩
    · omega
    obtain ⟨rs2, br13, -, -⟩ := o13.own.blk
    have br13 : Blk w13 gr 58 ((selL j v).flatMap Rg.c ++ rs2) := br13
    have hgrw : gr ≠ gw := by omega
    have hgrb : gr ≠ by_ := by omega
    have br14 := br13.kept k14 hgrw
    obtain ⟨i, hi, hilt⟩ : ∃ i : Nat, (wh / 3) % ((0 + sn : Nat) : Int) = i ∧ i < sn := ⟨((wh / 3) % ((0 + sn : Nat) : Int)).toNat, by have := Int.emod_nonneg (wh / 3) (show ((0 + sn : Nat) : Int) ≠ 0 by omega); omega, by have := Int.emod_lt_of_pos (wh / 3) (show (0 : Int) < ((0 + sn : Nat) : Int) by omega); have := Int.emod_nonneg (wh / 3) (show ((0 + sn : Nat) : Int) ≠ 0 by omega); omega⟩
    obtain ⟨y, hy⟩ : ∃ y, (selL j v)[i]? = some y := ⟨(selL j v)[i]'(by omega), List.getElem?_eq_getElem (by omega)⟩
    have lfm : ((selL j v).flatMap Rg.c).length = sn * 2 := (rgs_src pS).1
    have hcy : ∀ (m : Nat) (u : Value), y.c[m]? = some u → ((selL j v).flatMap Rg.c ++ rs2)[i * 2 + m]? = some u := fun m u hm => by
      have hm2 : m < 2 := (List.getElem?_eq_some_iff.1 hm).1
      obtain ⟨c, hc, hcc⟩ := (flat_fl (n := 2) (c := Rg.c) (hl := fun _ => rfl) (D := fun _ => True) (w := w) (xs := selL j v)).at_ hy
      rw [List.getElem?_append_left (by omega)]
      exact hcc m u (by rw [show c = y.c from hc]; exact hm)
    have hyb : rgOk y 1073741824 = true := by
      obtain ⟨w1', w2', w3'⟩ := waves_mem (evErr_ok q0).2.2.2.1 v (List.mem_of_getElem? hv)
      have hm := List.mem_of_getElem? hy
      unfold selL at hm
      have key : ∀ {m : Nat} {l : List Rg}, rgsB m l = true → y ∈ l → rgOk y 1073741824 = true := fun h hy => by
        unfold rgsB at h
        rw [Bool.and_eq_true, List.all_eq_true] at h
        exact h.2 y hy
      split at hm
      · exact key w1' hm
      · split at hm
        · exact key w2' hm
        · exact key w3' hm
    have hyb' := rgOk_iff.1 hyb
    refine drawX [0, 1, 2, 3, 4, 5, 6, 7, 8, 9, 10, 11, 12] [] mx (by kernel_rfl) ?_
    refine ldX (.slice (some (ad gr 0)) (0 + sn) cR) (bw14.cell ncell) (.refl _ _) ?_
    refine quoU8 (by omega) hwh ?_
    refine convU8 (by omega) ?_
    refine ldX (.slice (some (ad gr 0)) (0 + sn) cR) (bw14.cell ncell) (.refl _ _) ?_
    refine len ?_
    refine remI (by omega) (by omega) ?_
    refine idx i hi (by omega) ?_
    obtain ⟨u1, hu1, hu1b⟩ : ∃ u1, u1 = wi % 9 ∧ 0 ≤ u1 ∧ u1 ≤ 255 := ⟨_, rfl, by omega, by omega⟩
    obtain ⟨u2, hu2, hu2b⟩ : ∃ u2, u2 = wi / 9 ∧ 0 ≤ u2 ∧ u2 ≤ 255 := ⟨_, rfl, by omega, by omega⟩
    refine drawP (.take 0 (.take 1 (.take 2 (.take 3 (.take 4 (.take 5 (.take 6 (.take 7 (.take 8 (.take 9 (.take 10 (.take 11 (.take 12 (.take 13 (.take 14 (.take 15 (.take 16 (.take 17 (.take 18 (.take 19 (.take 20 (.take 21 (.bar (.eff 22 (.take 23 (.take 24 (.eff 25 .done))))))))))))))))))))))))))) [22, 23, 24, 25] (fun u => u = w14) mx (by kernel_rfl) rfl ?_
    refine fldA ?_
    refine ld (iv y.lo) (by rw [show 0 + i * 2 = i * 2 + 0 by omega]; exact br14.cell (hcy 0 _ rfl)) ?_
    refine remI (by omega) hwi.1 ?_
    rw [← hu1]
    refine convU8 hu1b ?_
    refine arI (by omega) ?_
    refine fldA ?_
    refine ld (iv y.hi) (by rw [show 0 + i * 2 + 1 = i * 2 + 1 by omega]; exact br14.cell (hcy 1 _ rfl)) ?_
    refine quoU8 (by omega) hwi ?_
    rw [← hu2]
    refine convU8 hu2b ?_
    refine arI (by omega) ?_
    refine fldA ?_
    refine barS (fun _ => True) trivial ?_
    refine st br14 (by rw [List.length_append]; omega) rfl (fun w15 br15 k15 s15 => ?_)
    refine strS trivial ?_
    refine fldA ?_
    refine st br15 (by rw [List.length_set, List.length_append]; omega) rfl (fun w16 br16 k16 s16 => ?_)
    refine strS trivial ?_
    obtain ⟨y', hy'⟩ : ∃ y' : Rg, y' = ⟨max 0 (y.lo - u1), min 1073741824 (y.hi + u2)⟩ := ⟨_, rfl⟩
    have br16 : Blk w16 gr 58 (((selL j v).set i y').flatMap Rg.c ++ rs2) := by
      have e : (((selL j v).flatMap Rg.c ++ rs2).set (0 + i * 2) (iv (max 0 (y.lo - u1)))).set (0 + i * 2 + 1) (iv (min 1073741824 (y.hi + u2))) = ((selL j v).set i y').flatMap Rg.c ++ rs2 := by
        rw [rgs_put (by omega), hy', List.set_append_left _ _ (by omega), List.set_append_left _ _ (by rw [List.length_set]; omega), show 0 + i * 2 = i * 2 by omega]
      rw [← e]; exact br16
    have k14_16 : Kept (fun b => b ≠ gr) w14 w16 := k15.trans k16
    have yb16 := b14.kept k14_16 (fun e => hgrb e.symm)
    have bw16 := bw14.kept k14_16 (fun e => hgrw e.symm)
    have z14 := x5_14.size
    have z1013 := o13.ext.size
    have x5_16 : Ext w5 w16 := x5_14.then k14_16 fun b hb _ e => by omega
    have hr : SlR tRg (fun _ => True) w16 (some (ad gr 0)) (0 + sn) ((selL j v).set i y') :=
      SlR.of_cells (by rw [List.length_set]; omega) (by omega) trivial (CellsAt.app (.blk br16)).1 flat_fl
    have hyy : rgOk y' 1073741824 = true := by rw [hy', rgOk_iff]; show 0 ≤ max 0 (y.lo - u1) ∧ max 0 (y.lo - u1) ≤ min 1073741824 (y.hi + u2) ∧ min 1073741824 (y.hi + u2) ≤ 1073741824; omega
    have hev := fin w16 _ x5_16 yb16 bw16 hr lle
    have he := herr ((selL j v).set i y') (fun m h => rgsB_set h hyy)
    have hwd : WiderL (selL j v) ((selL j v).set i y') := wider_set fun x hx => by
      rw [hy] at hx; injection hx with hx; subst hx
      rw [hy']
      show max 0 (y.lo - u1) ≤ y.lo ∧ y.hi ≤ min 1073741824 (y.hi + u2)
      omega
    have hmore := hfin w16 _ x5_16 hev he hwd
    obtain ⟨xN, hxN⟩ : ∃ xN, xN = putX x q j v ((selL j v).set i y') := ⟨_, rfl⟩
    rw [← hxN] at hev he hmore
    have hsN : xN.suspects = x.suspects := by rw [hxN]; rfl
    have xwN := x5_16
    have ybN := yb16
    refine ldA [.string d.name, iv d.hours, iv d.cap, iv d.start, .slice A1 n1 c1, .slice A2 n2 c2, .slice A3 n3 c3, .slice A4 n4 c4, .slice A5 n5 c5, .slice A6 n6 c6] (.blk (Bd.ext (z5.trans xwN))) rfl ?_
    refine ldA [.slice (some (ad gw 0)) (0 + m1) c', .slice S1 m2 e2] (.blk ybN) rfl ?_
    refine call_of (c_Table (((hd.ext x2).ext z5).ext xwN) hev) ?_
    rintro _ w17 ⟨UA, un, uc, rfl, oU⟩
    have ul := table_len he
    rw [hsN] at ul
    have bU := oU.bools (D := fun _ => True) (by rw [ul]; omega) fun _ _ => trivial
    have unl : un = 2 ^ x.suspects.length := by rw [← ul]; exact bU.len.symm
    refine cN (fun h => absurd he h) (fun _ => ?_)
    refine len ?_
    refine len ?_
    refine cN (fun h => absurd (show (un : Int) = (tn : Int) by omega) h) (fun _ => ?_)
    obtain ⟨ub, uo, _, _, rfl, -⟩ := bU.at_ (k := 0) (by omega)
    have uget : ∀ k, k < tn → w17.cell? (ad ub (uo + k * 1)) = some (.bool (explV d xN (membersL k xN.suspects.length))) := fun k hk => by
      obtain ⟨b', o', cs, y, e, hy, -, -, hc, rfl⟩ := bU.at_ (k := k) (by omega)
      rw [table_get he (by rw [hsN]; omega)] at hy
      simp only [Option.some.injEq, Addr.mk.injEq] at e
      obtain ⟨rfl, rfl, -⟩ := e
      injection hy with hy
      subst hy
      exact hc 0 _ rfl
    have x5_17 := xwN.trans oU.ext
    refine len ?_
    refine loop_rule (fun k : Nat => [(172, iv (k : Int))]) (fun k u => k ≤ tn ∧ w17 = u) (fun k _ => tn - k) 0 ⟨rfl, trivial⟩ ⟨by omega, rfl⟩ rfl ?_
    rintro G k u ⟨hk, rfl⟩
    refine cD (fun hlt => ?_) (fun hge => ?_)
    · have hlt : k < tn := by omega
      have hc := World_cell_ext x5_17 (tget k hlt)
      obtain ⟨y, hy⟩ : ∃ y, y = explV d x (membersL k x.suspects.length) := ⟨_, rfl⟩
      rw [← hy] at hc
      refine idx k rfl hlt ?_
      cases y with
      | false =>
        refine ld (.bool false) hc ?_
        refine arI (by omega) ?_
        exact next (k + 1) ⟨by rw [Int.natCast_add]; rfl, trivial⟩ ⟨by omega, rfl⟩ (by omega)
      | true =>
        have hc' := uget k hlt
        rw [hmore k hlt hy.symm] at hc'
        refine ld (.bool true) hc ?_
        refine idx k rfl (by omega) ?_
        refine ld (.bool true) hc' ?_
        refine arI (by omega) ?_
        exact next (k + 1) ⟨by rw [Int.natCast_add]; rfl, trivial⟩ ⟨by omega, rfl⟩ (by omega)
    · exact ret1 (.bool true) rfl ⟨rfl, x2.trans (z5.trans x5_17)⟩
  · have h0 : sn = 0 := by omega
    have lS : selL j v = [] := List.eq_nil_of_length_eq_zero (by omega)
    have hr : SlR tRg (fun _ => True) w14 AR (0 + sn) (selL j v) := by rw [lS, h0]; exact .nil
    have hev := fin w14 _ x5_14 b14 bw14 hr lle
    have he := herr (selL j v) (fun m h => h)
    have hmore := hfin w14 _ x5_14 hev he (.refl _)
    obtain ⟨xN, hxN⟩ : ∃ xN, xN = putX x q j v (selL j v) := ⟨_, rfl⟩
    rw [← hxN] at hev he hmore
    have hsN : xN.suspects = x.suspects := by rw [hxN]; rfl
    have xwN := x5_14
    have ybN := b14
    refine ldA [.string d.name, iv d.hours, iv d.cap, iv d.start, .slice A1 n1 c1, .slice A2 n2 c2, .slice A3 n3 c3, .slice A4 n4 c4, .slice A5 n5 c5, .slice A6 n6 c6] (.blk (Bd.ext (z5.trans xwN))) rfl ?_
    refine ldA [.slice (some (ad gw 0)) (0 + m1) c', .slice S1 m2 e2] (.blk ybN) rfl ?_
    refine call_of (c_Table (((hd.ext x2).ext z5).ext xwN) hev) ?_
    rintro _ w17 ⟨UA, un, uc, rfl, oU⟩
    have ul := table_len he
    rw [hsN] at ul
    have bU := oU.bools (D := fun _ => True) (by rw [ul]; omega) fun _ _ => trivial
    have unl : un = 2 ^ x.suspects.length := by rw [← ul]; exact bU.len.symm
    refine cN (fun h => absurd he h) (fun _ => ?_)
    refine len ?_
    refine len ?_
    refine cN (fun h => absurd (show (un : Int) = (tn : Int) by omega) h) (fun _ => ?_)
    obtain ⟨ub, uo, _, _, rfl, -⟩ := bU.at_ (k := 0) (by omega)
    have uget : ∀ k, k < tn → w17.cell? (ad ub (uo + k * 1)) = some (.bool (explV d xN (membersL k xN.suspects.length))) := fun k hk => by
      obtain ⟨b', o', cs, y, e, hy, -, -, hc, rfl⟩ := bU.at_ (k := k) (by omega)
      rw [table_get he (by rw [hsN]; omega)] at hy
      simp only [Option.some.injEq, Addr.mk.injEq] at e
      obtain ⟨rfl, rfl, -⟩ := e
      injection hy with hy
      subst hy
      exact hc 0 _ rfl
    have x5_17 := xwN.trans oU.ext
    refine len ?_
    refine loop_rule (fun k : Nat => [(172, iv (k : Int))]) (fun k u => k ≤ tn ∧ w17 = u) (fun k _ => tn - k) 0 ⟨rfl, trivial⟩ ⟨by omega, rfl⟩ rfl ?_
    rintro G k u ⟨hk, rfl⟩
    refine cD (fun hlt => ?_) (fun hge => ?_)
    · have hlt : k < tn := by omega
      have hc := World_cell_ext x5_17 (tget k hlt)
      obtain ⟨y, hy⟩ : ∃ y, y = explV d x (membersL k x.suspects.length) := ⟨_, rfl⟩
      rw [← hy] at hc
      refine idx k rfl hlt ?_
      cases y with
      | false =>
        refine ld (.bool false) hc ?_
        refine arI (by omega) ?_
        exact next (k + 1) ⟨by rw [Int.natCast_add]; rfl, trivial⟩ ⟨by omega, rfl⟩ (by omega)
      | true =>
        have hc' := uget k hlt
        rw [hmore k hlt hy.symm] at hc'
        refine ld (.bool true) hc ?_
        refine idx k rfl (by omega) ?_
        refine ld (.bool true) hc' ?_
        refine arI (by omega) ?_
        exact next (k + 1) ⟨by rw [Int.natCast_add]; rfl, trivial⟩ ⟨by omega, rfl⟩ (by omega)
    · exact ret1 (.bool true) rfl ⟨rfl, x2.trans (z5.trans x5_17)⟩
end
end Go.Proofs.Ytffdjecdcbbfaaa

/- Closing: what evidence and Truths that are handed in read as. -/
namespace Go.Proofs.Ytffdjecdcbbfaaa
open Go Go.RowKit Go.ChangeShapes Go.WideShapes Go.ChangeAt

def tEvR : Ty Ev where
  sz := 2
  rep := EvR
  len h := by obtain ⟨_, _, _, _, _, _, rfl, -⟩ := h.ex; rfl
  keep hk h := h.keep hk
  more hk h := h.more hk
theorem rd_is : Rd Try.prog 36 (tSl tInt) := inferInstance
theorem rd_rg : Rd Try.prog 58 tRg := by
  refine Rd.of (fun y : Int × Int => (⟨y.1, y.2⟩ : Rg)) rd_range ?_
  rintro W cs ⟨s, u⟩ ⟨_, _, rfl, ⟨rfl, -⟩, ⟨rfl, -⟩⟩
  rfl
theorem rd_su : Rd Try.prog 74 tSu := by
  refine Rd.of (fun y : Int × Int × Int => (⟨y.1, y.2.1, y.2.2⟩ : Su))
    (Rd.struct Try.underlying74 (by kernel_rfl) fun n => .cons (rdAt Try.prog 3 tInt n) rfl (.cons (rdAt Try.prog 3 tInt n) rfl (.one (rdAt Try.prog 3 tInt n) rfl))) ?_
  rintro W cs ⟨s, u, d⟩ ⟨_, _, rfl, ⟨rfl, -⟩, _, _, rfl, ⟨rfl, -⟩, ⟨rfl, -⟩⟩
  rfl
instance : Rd Try.prog 58 tRg := rd_rg
instance : Rd Try.prog 74 tSu := rd_su
theorem rd_rgs : Rd Try.prog 51 (tSl tRg) := inferInstance
theorem rd_wave : Rd Try.prog 53 tWv := Rd.map (g := fun y : Int × List Rg × List Rg × List Rg => (⟨y.1, y.2.1, y.2.2.1, y.2.2.2⟩ : Wv))
    (Rd.struct Try.underlying53 (by kernel_rfl) fun n => .cons (rdAt Try.prog 3 tInt n) rfl (.cons (rd_rgs.h n) rfl (.cons (rd_rgs.h n) rfl (.one (rd_rgs.h n) rfl)))) fun _ => rfl
theorem rd_tru : Rd Try.prog 65 tTru := Rd.map (g := fun y : List Int × List Int × List Int × List Int × List Int => (⟨y.1, y.2.1, y.2.2.1, y.2.2.2.1, y.2.2.2.2⟩ : Tru))
    (Rd.struct Try.underlying65 (by kernel_rfl) fun n => .cons (rd_is.h n) rfl (.cons (rd_is.h n) rfl (.cons (rd_is.h n) rfl (.cons (rd_is.h n) rfl (.one (rd_is.h n) rfl))))) fun _ => rfl
instance : Rd Try.prog 53 tWv := rd_wave
instance : Rd Try.prog 65 tTru := rd_tru
theorem rd_waves : Rd Try.prog 32 (tSl tWv) := inferInstance
theorem rd_sus : Rd Try.prog 33 (tSl tSu) := inferInstance
theorem rd_trus : Rd Try.prog 37 (tSl tTru) := inferInstance
theorem rd_ev : Rd Try.prog 35 tEvR := by
  refine Rd.of (fun y : List Wv × List Su => (⟨y.1, y.2⟩ : Ev))
    (Rd.struct Try.underlying35 (by kernel_rfl) fun n => .cons (rd_waves.h n) rfl (.one (rd_sus.h n) rfl)) ?_
  rintro W cs ⟨l1, l2⟩ ⟨_, _, rfl, ⟨A1, n1, c1, rfl, h1, g1⟩, A2, n2, c2, rfl, h2, g2⟩
  exact EvR.of_ ⟨A1, n1, c1, A2, n2, c2, rfl, h1, h2, g1, g2⟩
end Go.Proofs.Ytffdjecdcbbfaaa
