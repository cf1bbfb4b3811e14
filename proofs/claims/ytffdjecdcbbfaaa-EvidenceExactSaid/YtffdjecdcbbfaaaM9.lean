/- Parts of the proof: Em En Eo Za. -/
import Derived.Test.YtffdjecdcbbfaaaM8
import Derived.Test.YtffdjecdcbbfaaaM2
import Derived.Test.YtffdjecdcbbfaaaM5
import Derived.Test.YtffdjecdcbbfaaaRows
import Derived.Stop.LaidErr

/- Layer 48: the laws' sane answers true. -/
namespace Go.Proofs.Ytffdjecdcbbfaaa
open Go Go.RowKit

structure SaR (u : World) (csd : List Value) (b1 b3 wq sq : Nat) (H O T : Option Addr) (hn hc om oc tn tc : Nat) (x y : Int) : Prop where
  hd : DiR (fun b => b ≠ wq) u csd sD48
  bd : Blk u b1 31 csd
  bx : Blk u b3 35 [.slice (some (ad wq 0)) 1 1, .slice (some (ad sq 0)) 3 3]
  wv : Blk u wq 53 [iv 3, .slice H hn hc, .slice O om oc, .slice T tn tc]
  h1 : SlR tRg (fun b => b ≠ wq) u H hn [⟨20, 20⟩, ⟨8, 8⟩]
  h2 : SlR tRg (fun b => b ≠ wq) u O om [⟨5, 5⟩, ⟨6, 6⟩]
  h3 : SlR tRg (fun b => b ≠ wq) u T tn [⟨x, x⟩, ⟨y, y⟩]
  su : Blk u sq 74 [iv 2, iv 1, iv 9, iv 4, iv 0, iv 3, iv 4, iv 1, iv 4]
  n1 : b1 ≠ wq
  n3 : b3 ≠ wq
  ns : sq ≠ wq
  c1 : hn ≤ hc
  c2 : om ≤ oc
  c3 : tn ≤ tc
theorem smallJ {l : List Int} (h : (l.all fun x => decide (0 ≤ x) && decide (x ≤ 100)) = true) : ∀ x ∈ l, I64 x := fun x hx => by have := List.all_eq_true.1 h x hx; simp only [Bool.and_eq_true, decide_eq_true_eq] at this; unfold I64; constructor <;> omega
theorem SaR.ext {u u' : World} {csd : List Value} {b1 b3 wq sq : Nat} {H O T : Option Addr} {hn hc om oc tn tc : Nat} {x y : Int} (s : SaR u csd b1 b3 wq sq H O T hn hc om oc tn tc x y) (k : Ext u u') : SaR u' csd b1 b3 wq sq H O T hn hc om oc tn tc x y :=
  ⟨s.hd.ext k, s.bd.ext k, s.bx.ext k, s.wv.ext k, s.h1.ext k, s.h2.ext k, s.h3.ext k, s.su.ext k, s.n1, s.n3, s.ns, s.c1, s.c2, s.c3⟩
/-- The tails' list is put in its place. -/
theorem SaR.put {u u' : World} {csd : List Value} {b1 b3 wq sq : Nat} {H O T T' : Option Addr} {hn hc om oc tn tc tn' tc' : Nat} {x y x' y' : Int} (s : SaR u csd b1 b3 wq sq H O T hn hc om oc tn tc x y) (k : Kept (fun b => b ≠ wq) u u') (hw : Blk u' wq 53 [iv 3, .slice H hn hc, .slice O om oc, .slice T' tn' tc'])
    (ht : SlR tRg (fun b => b ≠ wq) u T' tn' [⟨x', x'⟩, ⟨y', y'⟩]) (hc3 : tn' ≤ tc') : SaR u' csd b1 b3 wq sq H O T' hn hc om oc tn' tc' x' y' :=
  ⟨s.hd.kept k fun _ _ h => h, s.bd.kept k s.n1, s.bx.kept k s.n3, hw, s.h1.kept k fun _ _ h => h, s.h2.kept k fun _ _ h => h, ht.kept k fun _ _ h => h, s.su.kept k s.ns, s.n1, s.n3, s.ns, s.c1, s.c2, hc3⟩
theorem SaR.ev {u : World} {csd : List Value} {b1 b3 wq sq : Nat} {H O T : Option Addr} {hn hc om oc tn tc : Nat} {x y : Int} (s : SaR u csd b1 b3 wq sq H O T hn hc om oc tn tc x y) : EvR (fun _ => True) u [.slice (some (ad wq 0)) 1 1, .slice (some (ad sq 0)) 3 3] (sX48 x y) := by
  refine EvR.of_ ⟨_, _, _, _, _, _, rfl, ?_, ?_, Nat.le_refl _, Nat.le_refl _⟩
  · exact SlR.of_cells rfl (by decide) trivial (.blk s.wv) ⟨[iv 3, .slice H hn hc, .slice O om oc, .slice T tn tc], [], rfl, ⟨[iv 3], _, rfl, ⟨rfl, show I64 3 from ⟨by decide, by decide⟩⟩, _, _, rfl, ⟨_, _, _, rfl, s.h1.more (by decide) fun _ _ _ => trivial, s.c1⟩, _, _, rfl, ⟨_, _, _, rfl, s.h2.more (by decide) fun _ _ _ => trivial, s.c2⟩, _, _, _, rfl, s.h3.more (by decide) fun _ _ _ => trivial, s.c3⟩, rfl⟩
  · exact SlR.of_cells rfl (by decide) trivial (.blk s.su) ⟨_, _, rfl, rfl, _, _, rfl, rfl, _, _, rfl, rfl, rfl⟩
theorem nD_R {w : World} : DiR (fun _ => True) w [.string ByteArray.empty, iv 0, iv 0, iv 0, .slice none 0 0, .slice none 0 0, .slice none 0 0, .slice none 0 0, .slice none 0 0, .slice none 0 0] nD48 := DiR.of_ ⟨_, _, _, _, _, _, _, _, _, _, _, _, _, _, _, _, _, _, rfl, .nil, .nil, .nil, .nil, .nil, .nil⟩
theorem nX_R {w : World} : EvR (fun _ => True) w [.slice none 0 0, .slice none 0 0] nX48 := EvR.of_ ⟨_, _, _, _, _, _, rfl, .nil, .nil, Nat.le_refl _, Nat.le_refl _⟩
theorem OwnF.bools {w0 w : World} {D : Nat → Prop} {A : Option Addr} {n c : Nat} {xs : List Bool} (h : OwnF w0 w A n c 4 1 (xs.map fun b => Value.bool b)) (hle : xs.length ≤ 140737488355328) (hD : ∀ b, w0.heap.size ≤ b → D b) : SlR tBool D w A n xs := by
  have hf : ∀ {ys : List Bool}, FlatR tBool D w ys (ys.map fun b => Value.bool b) := fun {ys} => by
    induction ys with
    | nil => rfl
    | cons y ys ih => exact ⟨[.bool y], _, rfl, rfl, ih⟩
  have hl := h.own.len
  rw [List.length_map, Nat.mul_one] at hl
  refine h.own.rd (a := tBool) hf hl.symm (by omega) ?_
  rintro g rfl
  rcases h.form with ⟨h, -⟩ | ⟨g'', hg', hg1, -⟩
  · cases h
  · injection hg' with hg'; injection hg' with hg'; exact hD _ (by omega)
theorem blk_bools {w : World} {b : Nat} {xs : List Bool} (h : Blk w b 4 (xs.map fun b => Value.bool b)) (hle : xs.length ≤ 140737488355328) : SlR tBool (fun _ => True) w (some (ad b 0)) xs.length xs := by
  have hf : ∀ {ys : List Bool}, FlatR tBool (fun _ => True) w ys (ys.map fun b => Value.bool b) := fun {ys} => by
    induction ys with
    | nil => rfl
    | cons y ys ih => exact ⟨[.bool y], _, rfl, rfl, ih⟩
  exact SlR.of_cells rfl hle trivial (.blk h) hf
section
variable {w : World}
set_option maxRecDepth 8000 in
theorem c_esane : CallZ Try.prog 6 #[] w (fun v w' => v = .bool true ∧ Ext w w') := by
  refine fn_rule (args := []) Try.func6 (by kernel_rfl) ?_
  refine call_of c_district ?_
  rintro _ w1 ⟨x1, csd, rfl, hd⟩
  obtain ⟨A1, n1, c1, A2, n2, c2, A3, n3, c3, A4, n4, c4, A5, n5, c5, A6, n6, c6, hcsd, -⟩ := hd.ex
  refine alloc (fun b1 w2 h2 => ?_)
  have a2 := h2.at_
  have hcl : csd.length = 10 := by rw [hcsd]; rfl
  refine stA (vs := csd) h2.blk hcl (by rw [hcl]; exact Nat.le_of_ble_eq_true rfl) (by rw [hcsd]; simp [Value.oneCell']) (fun w3 d3 k3 s3 => ?_)
  have x13 : Ext w1 w3 := h2.ext.then k3 fun b hb _ => by omega
  have d3 : Blk w3 b1 31 csd := by rw [hcsd] at d3 ⊢; exact d3
  have x03 := x1.trans x13
  refine lit [iv 20, iv 8] (fun g4 w4 h4 => ?_)
  refine call_of (c_exact (D := fun _ => True) (l := [20, 8]) (SlR.of_cells rfl (by decide) trivial (.blk h4.blk) (flat_ints (smallJ (by decide)))) (by decide)) ?_
  rintro _ w5 ⟨x5, H, hn, hc, rfl, leH, sH⟩
  have z4 := h4.size
  have z5 := x5.size
  refine lit [iv 5, iv 6] (fun g6 w6 h6 => ?_)
  refine call_of (c_exact (D := fun _ => True) (l := [5, 6]) (SlR.of_cells rfl (by decide) trivial (.blk h6.blk) (flat_ints (smallJ (by decide)))) (by decide)) ?_
  rintro _ w7 ⟨x7, O, om, oc, rfl, leO, sO⟩
  have z6 := h6.size
  have z7 := x7.size
  refine lit [iv 5, iv 2] (fun g8 w8 h8 => ?_)
  refine call_of (c_exact (D := fun _ => True) (l := [5, 2]) (SlR.of_cells rfl (by decide) trivial (.blk h8.blk) (flat_ints (smallJ (by decide)))) (by decide)) ?_
  rintro _ w9 ⟨x9, T, tn, tc, rfl, leT, sT⟩
  have z8 := h8.size
  have z9 := x9.size
  have z3 := s3
  have z2 := h2.size
  refine bld [iv 3, .slice H hn hc, .slice O om oc, .slice T tn tc] (by kernel_rfl) ?_
  refine alloc (fun q10 w10 h10 => ?_)
  have a10 := h10.at_
  refine stA (vs := [iv 3, .slice H hn hc, .slice O om oc, .slice T tn tc]) h10.blk rfl (Nat.le_of_ble_eq_true rfl) (by simp [Value.oneCell']) (fun w11 b11 k11 s11 => ?_)
  have b11 : Blk w11 q10 53 [iv 3, .slice H hn hc, .slice O om oc, .slice T tn tc] := b11
  have z10 := h10.size
  have x911 : Ext w9 w11 := h10.ext.then k11 fun b hb _ => by omega
  refine ldA [iv 3, .slice H hn hc, .slice O om oc, .slice T tn tc] (.blk b11) rfl ?_
  refine lit [.agg #[iv 3, .slice H hn hc, .slice O om oc, .slice T tn tc]] (fun wq w12 h12 => ?_)
  have a12 := h12.at_
  have z12 := h12.size
  refine bld [iv 2, iv 1, iv 9] (by kernel_rfl) ?_
  refine bld [iv 4, iv 0, iv 3] (by kernel_rfl) ?_
  refine bld [iv 4, iv 1, iv 4] (by kernel_rfl) ?_
  refine lit [.agg #[iv 2, iv 1, iv 9], .agg #[iv 4, iv 0, iv 3], .agg #[iv 4, iv 1, iv 4]] (fun sq w13 h13 => ?_)
  have a13 := h13.at_
  have z13 := h13.size
  refine bld [.slice (some (ad wq 0)) 1 1, .slice (some (ad sq 0)) 3 3] (by kernel_rfl) ?_
  refine alloc (fun b3 w14 h14 => ?_)
  have a14 := h14.at_
  have z14 := h14.size
  refine stA (vs := [.slice (some (ad wq 0)) 1 1, .slice (some (ad sq 0)) 3 3]) h14.blk rfl (Nat.le_of_ble_eq_true rfl) (by simp [Value.oneCell']) (fun w15 b15 k15 s15 => ?_)
  have b15 : Blk w15 b3 35 [.slice (some (ad wq 0)) 1 1, .slice (some (ad sq 0)) 3 3] := b15
  have x1415 : Kept (fun b => b < w14.heap.size ∧ b ≠ b3) w14 w15 := k15.weak fun b _ h => h.2
  have x1315 : Ext w13 w15 := h14.ext.then k15 fun b hb _ => by omega
  have x915 : Ext w9 w15 := ((x911.trans h12.ext).trans h13.ext).trans x1315
  have x515 : Ext w5 w15 := (((h6.ext.trans x7).trans h8.ext).trans x9).trans x915
  have x715 : Ext w7 w15 := (h8.ext.trans x9).trans x915
  have x315 : Ext w3 w15 := (h4.ext.trans x5).trans x515
  have x115 := x13.trans x315
  have x015 := x03.trans x315
  have le1 := x1.size
  have ld3 := d3.lt
  have s : SaR w15 csd b1 b3 wq sq H O T hn hc om oc tn tc 5 2 := by
    exact ⟨(hd.more fun b hb _ => by omega).ext x115, d3.ext x315, b15, (h12.blk.ext h13.ext).ext x1315, (sH.more (by decide) fun b hb _ => by omega).ext x515, (sO.more (by decide) fun b hb _ => by omega).ext x715, (sT.more (by decide) fun b hb _ => by omega).ext x915, h13.blk.ext x1315, by omega, by omega, by omega, leH, leO, leT⟩
  have X := x015
  have hwq : w.heap.size ≤ wq := by omega
  clear x015 x115 x315 x715 x515 x915 x1315 x1415 b15 sH sO sT hd d3 x13 x03

  subst hcsd
  refine ldA _ (.blk s.bd) rfl ?_
  refine ldA [.slice (some (ad wq 0)) 1 1, .slice (some (ad sq 0)) 3 3] (.blk s.bx) rfl ?_
  have cc := c_Explains (set := []) (c := 0) (s.hd.more (D' := fun _ => True) fun _ _ _ => trivial) s.ev (SlR.nil (a := tInt) (D := fun _ => True) (A := none))
  rw [se1, sf1] at cc
  refine call_of cc ?_
  clear cc
  rintro _ w16 ⟨rfl, y16⟩
  have s := s.ext y16
  have X := X.trans y16
  refine drawK (fun b => b ≠ wq) [0, 1, 2, 3, 4, 5, 6] [2, 3, 6] mx (by kernel_rfl) ?_
  have s0 := s
  refine fldA ?_
  refine ldK (.slice (some (ad wq 0)) 1 1) (s0.bx.cell rfl) s0.n3 (.refl _ _) ?_
  refine lit [iv 5, iv 1] (fun g17 w17 h17 => ?_)
  refine strK (Ext.any h17.ext) ?_
  have cc := c_exact (w := w17) (D := fun _ => True) (l := [5, 1]) (n := 2) (c := 2) (SlR.of_cells rfl (by decide) trivial (.blk h17.blk) (flat_ints (smallJ (by decide)))) (by decide)
  refine call_of cc ?_
  clear cc
  rintro _ v17 ⟨y17, T17, tn17, tc17, rfl, le17, sT17⟩
  refine strK (Ext.any y17) ?_
  have s1 := (s0.ext h17.ext).ext y17
  have lw := s0.wv.lt
  have z17 := h17.size
  refine idx 0 rfl (by decide) ?_
  refine fldA ?_
  refine st s1.wv (Nat.le_of_ble_eq_true rfl) rfl (fun u17 p17 k17 q17 => ?_)
  refine strK (k17.weak fun b _ h => h) ?_
  have s := s1.put k17 p17 (sT17.more (by decide) fun b hb h => by omega) le17
  have X := ((X.trans h17.ext).trans y17).then k17 fun b hb _ e => by omega
  clear s0 s1
  refine ldA _ (.blk s.bd) rfl ?_
  refine ldA [.slice (some (ad wq 0)) 1 1, .slice (some (ad sq 0)) 3 3] (.blk s.bx) rfl ?_
  have cc := c_Explains (set := []) (c := 0) (s.hd.more (D' := fun _ => True) fun _ _ _ => trivial) s.ev (SlR.nil (a := tInt) (D := fun _ => True) (A := none))
  rw [se2, sf2] at cc
  refine call_of cc ?_
  clear cc
  rintro _ w18 ⟨rfl, y18⟩
  have s := s.ext y18
  have X := X.trans y18
  refine ldA _ (.blk s.bd) rfl ?_
  refine ldA [.slice (some (ad wq 0)) 1 1, .slice (some (ad sq 0)) 3 3] (.blk s.bx) rfl ?_
  refine lit [iv 0] (fun g19 w19 h19 => ?_)
  have s := s.ext h19.ext
  have X := X.trans h19.ext
  have cc := c_Explains (set := [0]) (c := 1) (s.hd.more (D' := fun _ => True) fun _ _ _ => trivial) s.ev (SlR.of_cells (a := tInt) (D := fun _ => True) (xs := [0]) rfl (by decide) trivial (.blk h19.blk) (flat_ints (smallJ (by decide))))
  rw [se3, sf3] at cc
  refine call_of cc ?_
  clear cc
  rintro _ w20 ⟨rfl, y20⟩
  have s := s.ext y20
  have X := X.trans y20
  refine ldA _ (.blk s.bd) rfl ?_
  refine ldA [.slice (some (ad wq 0)) 1 1, .slice (some (ad sq 0)) 3 3] (.blk s.bx) rfl ?_
  refine lit [iv 2] (fun g21 w21 h21 => ?_)
  have s := s.ext h21.ext
  have X := X.trans h21.ext
  have cc := c_Explains (set := [2]) (c := 1) (s.hd.more (D' := fun _ => True) fun _ _ _ => trivial) s.ev (SlR.of_cells (a := tInt) (D := fun _ => True) (xs := [2]) rfl (by decide) trivial (.blk h21.blk) (flat_ints (smallJ (by decide))))
  rw [se4, sf4] at cc
  refine call_of cc ?_
  clear cc
  rintro _ w22 ⟨rfl, y22⟩
  have s := s.ext y22
  have X := X.trans y22
  refine ldA _ (.blk s.bd) rfl ?_
  refine ldA [.slice (some (ad wq 0)) 1 1, .slice (some (ad sq 0)) 3 3] (.blk s.bx) rfl ?_
  have cc := c_Table (s.hd.more (D' := fun _ => True) fun _ _ _ => trivial) s.ev
  rw [stb1, sg1] at cc
  refine call_of cc ?_
  clear cc
  rintro _ w23 ⟨B1, nb1, cb1, rfl, ob1⟩
  have y23 := ob1.ext
  have lw1 := s.wv.lt
  have s := s.ext y23
  have tb1 := ob1.bools (D := fun b => b ≠ wq) (by decide) fun b hb e => by omega
  have X := X.trans y23
  refine drawK (fun b => b ≠ wq) [0, 1, 2, 3, 4, 5, 6] [2, 3, 6] mx (by kernel_rfl) ?_
  have s0 := s
  refine fldA ?_
  refine ldK (.slice (some (ad wq 0)) 1 1) (s0.bx.cell rfl) s0.n3 (.refl _ _) ?_
  refine lit [iv 3, iv 1] (fun g24 w24 h24 => ?_)
  refine strK (Ext.any h24.ext) ?_
  have cc := c_exact (w := w24) (D := fun _ => True) (l := [3, 1]) (n := 2) (c := 2) (SlR.of_cells rfl (by decide) trivial (.blk h24.blk) (flat_ints (smallJ (by decide)))) (by decide)
  refine call_of cc ?_
  clear cc
  rintro _ v24 ⟨y24, T24, tn24, tc24, rfl, le24, sT24⟩
  refine strK (Ext.any y24) ?_
  have s1 := (s0.ext h24.ext).ext y24
  have lw := s0.wv.lt
  have z24 := h24.size
  refine idx 0 rfl (by decide) ?_
  refine fldA ?_
  refine st s1.wv (Nat.le_of_ble_eq_true rfl) rfl (fun u24 p24 k24 q24 => ?_)
  refine strK (k24.weak fun b _ h => h) ?_
  have s := s1.put k24 p24 (sT24.more (by decide) fun b hb h => by omega) le24
  have X := ((X.trans h24.ext).trans y24).then k24 fun b hb _ e => by omega
  clear s0 s1
  have tb1 := tb1.ext h24.ext
  have tb1 := tb1.ext y24
  have tb1 := tb1.kept k24 fun _ _ h => h
  refine ldA _ (.blk s.bd) rfl ?_
  refine ldA [.slice (some (ad wq 0)) 1 1, .slice (some (ad sq 0)) 3 3] (.blk s.bx) rfl ?_
  have cc := c_Table (s.hd.more (D' := fun _ => True) fun _ _ _ => trivial) s.ev
  rw [stb2, sg2] at cc
  refine call_of cc ?_
  clear cc
  rintro _ w25 ⟨B2, nb2, cb2, rfl, ob2⟩
  have y25 := ob2.ext
  have lw2 := s.wv.lt
  have s := s.ext y25
  have tb2 := ob2.bools (D := fun b => b ≠ wq) (by decide) fun b hb e => by omega
  have X := X.trans y25
  have tb1 := tb1.ext y25
  refine ldA _ (.blk s.bd) rfl ?_
  refine ldA [.slice (some (ad wq 0)) 1 1, .slice (some (ad sq 0)) 3 3] (.blk s.bx) rfl ?_
  refine lit [iv 1, iv 2] (fun g26 w26 h26 => ?_)
  have s := s.ext h26.ext
  have X := X.trans h26.ext
  have tb1 := tb1.ext h26.ext
  have tb2 := tb2.ext h26.ext
  have cc := c_Find (set := [1, 2]) (c := 2) (s.hd.more (D' := fun _ => True) fun _ _ _ => trivial) s.ev (SlR.of_cells (a := tInt) (D := fun _ => True) (xs := [1, 2]) rfl (by decide) trivial (.blk h26.blk) (flat_ints (smallJ (by decide))))
  rw [se5, sf5] at cc
  refine call_of cc ?_
  clear cc
  rintro _ w27 ⟨y27, FA, fn, fc, rfl, fle, fR, -⟩
  have s := s.ext y27
  have X := X.trans y27
  have tb1 := tb1.ext y27
  have tb2 := tb2.ext y27
  have fR := (fR rfl).more (D' := fun _ => True) (by decide) fun _ _ _ => trivial
  refine ldA _ (.blk s.bd) rfl ?_
  refine ldA [.slice (some (ad wq 0)) 1 1, .slice (some (ad sq 0)) 3 3] (.blk s.bx) rfl ?_
  refine lit [iv 1, iv 2] (fun g28 w28 h28 => ?_)
  have s := s.ext h28.ext
  have X := X.trans h28.ext
  have tb1 := tb1.ext h28.ext
  have tb2 := tb2.ext h28.ext
  have fR := fR.ext h28.ext

  have cc := c_Accepts (set := [1, 2]) (c := 2) (c' := fc) (s.hd.more (D' := fun _ => True) fun _ _ _ => trivial) s.ev (SlR.of_cells (a := tInt) (D := fun _ => True) (xs := [1, 2]) rfl (by decide) trivial (.blk h28.blk) (flat_ints (smallJ (by decide)))) fR
  rw [sa1, sf5] at cc
  refine call_of cc ?_
  clear cc
  rintro _ w29 ⟨rfl, y29⟩
  have s := s.ext y29
  have X := X.trans y29
  have tb1 := tb1.ext y29
  have tb2 := tb2.ext y29
  have fR := fR.ext y29
  refine ldA _ (.blk s.bd) rfl ?_
  refine ldA [.slice (some (ad wq 0)) 1 1, .slice (some (ad sq 0)) 3 3] (.blk s.bx) rfl ?_
  refine lit [iv 2] (fun g30 w30 h30 => ?_)
  have s := s.ext h30.ext
  have X := X.trans h30.ext
  have tb1 := tb1.ext h30.ext
  have tb2 := tb2.ext h30.ext
  have fR := fR.ext h30.ext
  have cc := c_Accepts (set := [2]) (c := 1) (c' := fc) (s.hd.more (D' := fun _ => True) fun _ _ _ => trivial) s.ev (SlR.of_cells (a := tInt) (D := fun _ => True) (xs := [2]) rfl (by decide) trivial (.blk h30.blk) (flat_ints (smallJ (by decide)))) fR
  rw [sa2, sf6] at cc
  refine call_of cc ?_
  clear cc
  rintro _ w31 ⟨rfl, y31⟩
  have s := s.ext y31
  have X := X.trans y31
  have tb1 := tb1.ext y31
  have tb2 := tb2.ext y31
  have fR := fR.ext y31
  refine ldA _ (.blk s.bd) rfl ?_
  refine bld [.slice none 0 0, .slice none 0 0] (by kernel_rfl) ?_
  refine lit [iv 0] (fun g32 w32 h32 => ?_)
  have s := s.ext h32.ext
  have X := X.trans h32.ext
  have tb1 := tb1.ext h32.ext
  have tb2 := tb2.ext h32.ext
  have fR := fR.ext h32.ext
  have cc := c_Explains (set := [0]) (c := 1) (s.hd.more (D' := fun _ => True) fun _ _ _ => trivial) nX_R (SlR.of_cells (a := tInt) (D := fun _ => True) (xs := [0]) rfl (by decide) trivial (.blk h32.blk) (flat_ints (smallJ (by decide))))
  rw [sf7] at cc
  refine call_of cc ?_
  clear cc
  rintro _ w33 ⟨rfl, y33⟩
  have s := s.ext y33
  have X := X.trans y33
  have tb1 := tb1.ext y33
  have tb2 := tb2.ext y33
  have fR := fR.ext y33
  refine ldA _ (.blk s.bd) rfl ?_
  refine bld [.slice none 0 0, .slice none 0 0] (by kernel_rfl) ?_
  have cc := c_Explains (set := []) (c := 0) (s.hd.more (D' := fun _ => True) fun _ _ _ => trivial) nX_R (SlR.nil (a := tInt) (D := fun _ => True) (A := none))
  rw [se8, sf8] at cc
  refine call_of cc ?_
  clear cc
  rintro _ w34 ⟨rfl, y34⟩
  have s := s.ext y34
  have X := X.trans y34
  have tb1 := tb1.ext y34
  have tb2 := tb2.ext y34
  have fR := fR.ext y34
  refine cN (fun h => absurd rfl h) (fun _ => ?_)
  refine cN (fun h => absurd rfl h) (fun _ => ?_)
  refine cN (fun h => absurd rfl h) (fun _ => ?_)
  refine cN (fun h => absurd rfl h) (fun _ => ?_)
  refine cN (fun h => absurd rfl h) (fun _ => ?_)
  refine cN (fun h => absurd rfl h) (fun _ => ?_)
  refine cN (fun h => absurd rfl h) (fun _ => ?_)
  refine cN (fun h => absurd rfl h) (fun _ => ?_)
  refine cN (fun h => absurd rfl h) (fun _ => ?_)
  refine cN (fun h => absurd rfl h) (fun _ => ?_)
  refine cN (fun h => absurd rfl h) (fun _ => ?_)
  refine bld [.string ByteArray.empty, iv 0, iv 0, iv 0, .slice none 0 0, .slice none 0 0, .slice none 0 0, .slice none 0 0, .slice none 0 0, .slice none 0 0] (by kernel_rfl) ?_
  refine ldA [.slice (some (ad wq 0)) 1 1, .slice (some (ad sq 0)) 3 3] (.blk s.bx) rfl ?_
  have cc := c_eCheck48 nD_R s.ev
  rw [sg9] at cc
  refine call_of cc ?_
  clear cc
  rintro _ w35 ⟨rfl, y35⟩
  have s := s.ext y35
  have X := X.trans y35
  have tb1 := tb1.ext y35
  have tb2 := tb2.ext y35
  have fR := fR.ext y35
  refine cN (fun h => absurd rfl h) (fun _ => ?_)
  refine ldA _ (.blk s.bd) rfl ?_
  refine ldA [.slice (some (ad wq 0)) 1 1, .slice (some (ad sq 0)) 3 3] (.blk s.bx) rfl ?_
  have cc := c_eCheck48 (s.hd.more (D' := fun _ => True) fun _ _ _ => trivial) s.ev
  rw [sg2] at cc
  refine call_of cc ?_
  clear cc
  rintro _ w36 ⟨rfl, y36⟩
  have s := s.ext y36
  have X := X.trans y36
  have tb1 := tb1.ext y36
  have tb2 := tb2.ext y36
  have fR := fR.ext y36
  refine cN (fun h => absurd rfl h) (fun _ => ?_)
  refine lit [.bool false, .bool true, .bool false, .bool true, .bool true, .bool true, .bool true, .bool true] (fun g37 w37 h37 => ?_)
  have s := s.ext h37.ext
  have X := X.trans h37.ext
  have tb1 := tb1.ext h37.ext
  have tb2 := tb2.ext h37.ext
  have fR := fR.ext h37.ext
  have bb37 : SlR tBool (fun _ => True) w37 (some (ad g37 0)) 8 [false, true, false, true, true, true, true, true] := blk_bools (xs := [false, true, false, true, true, true, true, true]) h37.blk (by decide)
  refine callB (c_sameTable (c := cb1) (c' := 8) (tb1.more (D' := fun _ => True) (by decide) fun _ _ _ => trivial) bb37) (fun e => ?_) (fun e => by cases e)
  refine lit [.bool false, .bool false, .bool false, .bool true, .bool false, .bool false, .bool true, .bool true] (fun g38 w38 h38 => ?_)
  have s := s.ext h38.ext
  have X := X.trans h38.ext
  have tb1 := tb1.ext h38.ext
  have tb2 := tb2.ext h38.ext
  have fR := fR.ext h38.ext
  have bb38 : SlR tBool (fun _ => True) w38 (some (ad g38 0)) 8 [false, false, false, true, false, false, true, true] := blk_bools (xs := [false, false, false, true, false, false, true, true]) h38.blk (by decide)
  refine callB (c_sameTable (c := cb2) (c' := 8) (tb2.more (D' := fun _ => True) (by decide) fun _ _ _ => trivial) bb38) (fun e => ?_) (fun e => by cases e)
  exact ret1 (.bool true) rfl ⟨rfl, X⟩
end
end Go.Proofs.Ytffdjecdcbbfaaa

/- Layer 48, plainly: what is accepted is explained, what is found is accepted; sets as numbers. -/
namespace Go.Proofs.Ytffdjecdcbbfaaa
open Go Go.RowKit

def tT (t : Tru) : Dst → Int
  | .tail r => t.tails.getD r 0
  | .head k => t.heads.getD k 0
  | .outlet k => t.outlets.getD k 0
  | .taken i => t.taken.getD i 0
section
variable {d : Dist} {x : Ev} {bl : Int × Int → Option Int} {v : Wv} {t : Tru} {T : Dst → Int} {A : Nat → Int} {set : List Int}
theorem sumT_split (r : Nat) {f : Nat → Rg} : sumT T (partsL d x bl v f r) = T (.tail r) + (sumF (qH d r) (fun k => T (.head k)) d.reaches.length + (sumF (qO d r) (fun k => T (.outlet k)) d.farms.length + sumF (qP x r) (fun i => T (.taken i)) x.suspects.length)) := by
  unfold sumT partsL tailP headP outP pumpP sumF qH qO qP
  simp only [List.map_append, List.sum_append, List.map_map, List.map_cons, List.map_nil, List.sum_cons, List.sum_nil]
  rw [Int.add_zero]
  rfl
theorem fitsL_T (hw : WavOk d x bl v) (l1 : v.heads.length = d.reaches.length) (l2 : v.outlets.length = d.farms.length) (l3 : v.tails.length = d.reaches.length) (h : FitsL d x bl v t) : FitsT d x bl v (tT t) (fun r => t.arrived.getD r 0) := by
  obtain ⟨e1, i1⟩ := inB_iff.1 h.i1
  obtain ⟨e2, i2⟩ := inB_iff.1 h.i2
  obtain ⟨e3, i3⟩ := inB_iff.1 h.i3
  refine ⟨fun r hr => i1 r (by omega), fun k hk => i2 k (by omega), fun r hr => i3 r (by omega), fun i hi => h.tk i hi, fun r hr => ?_⟩
  obtain ⟨a1, a2, a3⟩ := h.ar r hr
  have hh := i1 r (by omega)
  have hm := rgOk_iff.1 (meter_ok hw.bl (kd := 1) (ix := r) (hw.heads r hr))
  have e : lErr (rcE d r) (t.heads.getD r 0) = 0 := lErr_ok.2 ⟨hw.loss r hr, by omega, by omega⟩
  have ew : worstV (rcE d r) (t.heads.getD r 0) = arrW (rcE d r) (t.heads.getD r 0) := by unfold worstV; rw [if_pos e]; rfl
  have eb : bestV (rcE d r) (t.heads.getD r 0) = arrB (rcE d r) (t.heads.getD r 0) := by unfold bestV; rw [if_pos e]; rfl
  rw [ew] at a2
  rw [eb] at a3
  show t.arrived.getD r 0 = _ ∧ arrW (rcE d r) (t.heads.getD r 0) ≤ t.arrived.getD r 0 ∧ t.arrived.getD r 0 ≤ arrB (rcE d r) (t.heads.getD r 0)
  refine ⟨?_, by omega, by omega⟩
  rw [sumT_split, a1]
  unfold out3 out2 out1 tT
  show _ = t.tails.getD r 0 + (sumF (qH d r) (fun k => t.heads.getD k 0) d.reaches.length + (sumF (qO d r) (fun k => t.outlets.getD k 0) d.farms.length + sumF (qP x r) (fun i => t.taken.getD i 0) x.suspects.length))
  omega
theorem getD_map {R : Nat} {f : Nat → Int} {k : Nat} (h : k < R) : ((List.range R).map f).getD k 0 = f k := by
  rw [List.getD_eq_getElem?_getD, List.getElem?_map, List.getElem?_range h]; rfl
theorem sumF_congr {q : Nat → Bool} {f g : Nat → Int} {k : Nat} (h : ∀ i, i < k → f i = g i) : sumF q f k = sumF q g k := by
  unfold sumF
  congr 1
  exact List.map_congr_left fun i hi => h i (List.mem_range.1 (List.mem_filter.1 hi).1)
theorem fitsT_L (hw : WavOk d x bl v) (l1 : v.heads.length = d.reaches.length) (l2 : v.outlets.length = d.farms.length) (l3 : v.tails.length = d.reaches.length) (h : FitsT d x bl v T A) : FitsL d x bl v (mkT d.reaches.length d.farms.length x.suspects.length T A) := by
  refine ⟨inB_iff.2 ⟨by simp [mkT, l1], fun i hi => ?_⟩, inB_iff.2 ⟨by simp [mkT, l2], fun i hi => ?_⟩, inB_iff.2 ⟨by simp [mkT, l3], fun i hi => ?_⟩, by simp [mkT], by simp [mkT], fun i hi => ?_, fun r hr => ?_⟩
  · have hi : i < d.reaches.length := by simpa [mkT] using hi
    unfold mkT; simp only; rw [getD_map hi]; exact h.heads i hi
  · have hi : i < d.farms.length := by simpa [mkT] using hi
    unfold mkT; simp only; rw [getD_map hi]; exact h.outlets i hi
  · have hi : i < d.reaches.length := by simpa [mkT] using hi
    unfold mkT; simp only; rw [getD_map hi]; exact h.tails i hi
  · unfold mkT; simp only; rw [getD_map hi]; exact h.taken i hi
  · have hh := h.heads r hr
    have hm := rgOk_iff.1 (meter_ok hw.bl (kd := 1) (ix := r) (hw.heads r hr))
    have e : lErr (rcE d r) (T (.head r)) = 0 := lErr_ok.2 ⟨hw.loss r hr, by omega, by omega⟩
    have ew : worstV (rcE d r) (T (.head r)) = arrW (rcE d r) (T (.head r)) := by unfold worstV; rw [if_pos e]; rfl
    have eb : bestV (rcE d r) (T (.head r)) = arrB (rcE d r) (T (.head r)) := by unfold bestV; rw [if_pos e]; rfl
    obtain ⟨a1, a2, a3⟩ := h.arr r hr
    rw [sumT_split] at a1
    have eo : out3 d x (mkT d.reaches.length d.farms.length x.suspects.length T A) d.farms.length r = A r := by
      unfold out3 out2 out1 mkT
      simp only
      rw [getD_map hr, sumF_congr (q := qP x r) (g := fun i => T (.taken i)) fun i hi => getD_map hi, sumF_congr (q := qH d r) (g := fun i => T (.head i)) fun i hi => getD_map hi, sumF_congr (q := qO d r) (g := fun i => T (.outlet i)) fun i hi => getD_map hi]
      omega
    rw [eo]
    unfold mkT; simp only; rw [getD_map hr, getD_map hr, ew, eb]
    exact ⟨rfl, a2, a3⟩
/-- What is accepted is explained. -/
theorem acc_expl {l : List Tru} (h : accV d x set l = true) : explV d x set = true := by
  unfold accV at h
  by_cases e : askErr d x set = 0
  · rw [if_pos e] at h
    unfold explV; rw [if_pos e]
    unfold allB at h
    rw [Bool.and_eq_true, decide_eq_true_eq] at h
    unfold explB
    rw [List.all_eq_true]
    intro v hv
    obtain ⟨k, hk, rfl⟩ := List.getElem_of_mem hv
    have hz := List.all_eq_true.1 h.2 (x.waves[k], l[k]'(by omega)) (List.mem_iff_getElem.2 ⟨k, by rw [List.length_zip]; omega, by rw [List.getElem_zip]⟩)
    obtain ⟨hw, l1, l2, l3⟩ := wavOk_of e hv
    exact fits_follow hw (fitsL_T hw l1 l2 l3 (fitsB_iff.1 hz)) _ _ (Nat.le_refl _) fun k h1 h2 => by omega
  · rw [if_neg e] at h; cases h
theorem find_acc (he : askErr d x set = 0) (h : explV d x set = true) : accV d x set (findL d x set) = true := by
  unfold accV allB findL; rw [if_pos he, Bool.and_eq_true, decide_eq_true_eq, List.length_map]
  refine ⟨rfl, List.all_eq_true.2 fun p hp => ?_⟩
  rw [List.zip_map_right, List.mem_map] at hp
  obtain ⟨⟨v, v'⟩, hv, rfl⟩ := hp
  have hvv : v = v' ∧ v ∈ x.waves := by
    obtain ⟨k, hk, e⟩ := List.getElem_of_mem hv
    rw [List.getElem_zip] at e
    injection e with e1 e2
    exact ⟨by rw [← e1, ← e2], by rw [← e1]; exact List.getElem_mem _⟩
  obtain ⟨rfl, hm⟩ := hvv
  obtain ⟨hw, l1, l2, l3⟩ := wavOk_of he hm
  unfold explV at h
  rw [if_pos he] at h
  obtain ⟨f, hf⟩ := Option.isSome_iff_exists.1 (List.all_eq_true.1 h v hm)
  obtain ⟨hfol, hfok⟩ := fol_fok hw hf
  obtain ⟨⟨r1, r0⟩, -⟩ := ev_sizes (askErr_ok.1 he).1
  have := fitsT_L hw l1 l2 l3 (filled hw r0 hfok)
  show fitsB d x (blF x set) v (truV d x (blF x set) v) = true
  unfold truV
  rw [hfol]
  exact fitsB_iff.2 this
theorem sorted_ext : ∀ {l m : List Int}, l.Pairwise (· < ·) → m.Pairwise (· < ·) → (∀ x, x ∈ l ↔ x ∈ m) → l = m
  | [], [], _, _, _ => rfl
  | [], b :: m, _, _, h => absurd ((h b).2 List.mem_cons_self) (by simp)
  | a :: l, [], _, _, h => absurd ((h a).1 List.mem_cons_self) (by simp)
  | a :: l, b :: m, hl, hm, h => by
    rw [List.pairwise_cons] at hl hm
    have e : a = b := by
      have h1 := (h a).1 List.mem_cons_self
      have h2 := (h b).2 List.mem_cons_self
      rcases List.mem_cons.1 h1 with h1 | h1
      · exact h1
      rcases List.mem_cons.1 h2 with h2 | h2
      · exact h2.symm
      have := hl.1 _ h2
      have := hm.1 _ h1
      omega
    subst e
    rw [sorted_ext hl.2 hm.2 fun y => ?_]
    constructor
    · intro hy
      rcases List.mem_cons.1 ((h y).1 (List.mem_cons_of_mem _ hy)) with e | e
      · subst e; have := hl.1 _ hy; omega
      · exact e
    · intro hy
      rcases List.mem_cons.1 ((h y).2 (List.mem_cons_of_mem _ hy)) with e | e
      · subst e; have := hm.1 _ hy; omega
      · exact e
theorem setB_ok {n : Nat} : ∀ {l : List Int} {last : Int}, setB n last l = true → l.Pairwise (· < ·) ∧ ∀ i ∈ l, last < i ∧ i < n
  | [], _, _ => ⟨.nil, fun i hi => by simp at hi⟩
  | i :: r, last, h => by
    unfold setB at h
    simp only [Bool.and_eq_true, decide_eq_true_eq] at h
    obtain ⟨h1, h2, h3⟩ := h
    obtain ⟨h4, h5⟩ := setB_ok h3
    refine ⟨List.pairwise_cons.2 ⟨fun j hj => (h5 j hj).1, h4⟩, fun j hj => ?_⟩
    rcases List.mem_cons.1 hj with rfl | hj
    · exact ⟨h1, h2⟩
    · have := h5 j hj; omega
def orL (l : List Int) : Nat := l.foldl (fun m i => m ||| 2 ^ i.toNat) 0
theorem orL_snoc (l : List Int) (i : Int) : orL (l ++ [i]) = orL l ||| 2 ^ i.toNat := by unfold orL; rw [List.foldl_append]; rfl
theorem orL_bit {j : Nat} : ∀ {l : List Int}, (∀ i ∈ l, 0 ≤ i) → ((orL l).testBit j = true ↔ (j : Int) ∈ l) := by
  have key : ∀ (l : List Int) (m : Nat), (∀ i ∈ l, 0 ≤ i) → ((l.foldl (fun m i => m ||| 2 ^ i.toNat) m).testBit j = true ↔ m.testBit j = true ∨ (j : Int) ∈ l) := by
    intro l
    induction l with
    | nil => intro m _; simp
    | cons i l ih =>
      intro m h
      rw [List.foldl_cons, ih _ fun k hk => h k (List.mem_cons_of_mem _ hk), Nat.testBit_or, Bool.or_eq_true, Nat.testBit_two_pow, decide_eq_true_eq, List.mem_cons]
      have := h i List.mem_cons_self
      have e : (i.toNat = j) ↔ (j : Int) = i := by omega
      rw [e, or_assoc]
  intro l h
  rw [show orL l = l.foldl (fun m i => m ||| 2 ^ i.toNat) 0 from rfl, key l 0 h]; simp
theorem orL_lt {S : Nat} {l : List Int} (h : ∀ i ∈ l, 0 ≤ i ∧ i < S) : orL l < 2 ^ S := by
  apply Nat.lt_pow_two_of_testBit
  intro j hj
  cases hb : (orL l).testBit j with
  | false => rfl
  | true =>
    have := (orL_bit fun i hi => (h i hi).1).1 hb
    have := h _ this
    omega
theorem members_or {S : Nat} {l : List Int} (h : setB S (-1) l = true) : membersL (orL l) S = l := by
  obtain ⟨h1, h2⟩ := setB_ok h
  refine sorted_ext ?_ h1 fun y => ?_
  · unfold membersL
    refine List.Pairwise.map _ (R := (· < ·)) (fun a b hab => by omega) ?_
    exact List.Pairwise.filter _ List.pairwise_lt_range
  · unfold membersL
    rw [List.mem_map]
    constructor
    · rintro ⟨k, hk, rfl⟩
      exact (orL_bit fun i hi => by have := h2 i hi; omega).1 (List.mem_filter.1 hk).2
    · intro hy
      have := h2 y hy
      refine ⟨y.toNat, List.mem_filter.2 ⟨List.mem_range.2 (by omega), ?_⟩, by omega⟩
      exact (orL_bit fun i hi => by have := h2 i hi; omega).2 (by rw [show ((y.toNat : Nat) : Int) = y by omega]; exact hy)
theorem table_or (he : askErr d x set = 0) : (tableV d x)[orL set]? = some (explV d x set) ∧ (tableV d x).length = 2 ^ x.suspects.length ∧ orL set < 2 ^ x.suspects.length := by
  obtain ⟨h0, hs⟩ := askErr_ok.1 he
  have hlt := orL_lt (fun i hi => by have := (setB_ok hs).2 i hi; omega : ∀ i ∈ set, 0 ≤ i ∧ i < x.suspects.length)
  unfold tableV tableL
  rw [if_pos h0]
  refine ⟨?_, by simp, hlt⟩
  rw [List.getElem?_map, List.getElem?_range hlt]
  show some (explV d x (membersL (orL set) x.suspects.length)) = _
  rw [members_or hs]
end
end Go.Proofs.Ytffdjecdcbbfaaa

/- Layer 48: the law EvidenceExact. -/
namespace Go.Proofs.Ytffdjecdcbbfaaa
open Go Go.RowKit

section
variable {D : Nat → Prop} {w : World}
theorem callSE {f : FuncId} [h : Enters Try.prog f] {args : Array Value} {K : VK} {X : XK} (c : CallZ Try.prog f args w (fun v w' => ∃ b, v = .bool b ∧ Ext w w')) (k1 : ∀ w', Ext w w' → K (.bool true) w') (k2 : ∀ w', Ext w w' → K (.bool false) w') : CallP Try.prog f args K X w := by
  refine call_of c ?_
  rintro _ w' ⟨b, rfl, x⟩
  cases b
  · exact k2 w' x
  · exact k1 w' x
set_option maxRecDepth 8000 in
theorem c_EvidenceExact {csd csx : List Value} {d : Dist} {x : Ev} {set : List Int} {l : List Tru} {AS AL : Option Addr} {nS cS nL cL : Nat} (hd : DiR D w csd d) (hx : EvR D w csx x) (hset : SlR tInt D w AS nS set) (hl : SlR tTru D w AL nL l) : CallZ Try.prog 3 #[.agg csd.toArray, .agg csx.toArray, .slice AS nS cS, .slice AL nL cL] w
    (fun v w' => v = .bool true ∧ Ext w w') := by
  have hd := hd.more (D' := fun _ => True) fun _ _ _ => trivial
  have hx := hx.more (D' := fun _ => True) fun _ _ _ => trivial
  have hset := hset.more (D' := fun _ => True) (by decide) fun _ _ _ => trivial
  have hl := hl.more (D' := fun _ => True) (by decide) fun _ _ _ => trivial
  obtain ⟨A1, n1, c1, A2, n2, c2, A3, n3, c3, A4, n4, c4, A5, n5, c5, A6, n6, c6, rfl, -⟩ := hd.ex
  obtain ⟨W1, m1, e1, S1, m2, e2, rfl, hwv, -⟩ := hx.ex
  refine fn_rule (args := [.agg #[.string d.name, iv d.hours, iv d.cap, iv d.start, .slice A1 n1 c1, .slice A2 n2 c2, .slice A3 n3 c3, .slice A4 n4 c4, .slice A5 n5 c5, .slice A6 n6 c6], .agg #[.slice W1 m1 e1, .slice S1 m2 e2], .slice AS nS cS, .slice AL nL cL]) Try.func3 (by kernel_rfl) ?_
  refine box (fun bd w1 i1 => ?_)
  refine box (fun bx w2 i2 => ?_)
  have x2 := i1.ext.trans i2.ext
  have Bd : Blk w2 bd 31 [.string d.name, iv d.hours, iv d.cap, iv d.start, .slice A1 n1 c1, .slice A2 n2 c2, .slice A3 n3 c3, .slice A4 n4 c4, .slice A5 n5 c5, .slice A6 n6 c6] := i1.blk.ext i2.ext
  have Bx : Blk w2 bx 35 [.slice W1 m1 e1, .slice S1 m2 e2] := i2.blk
  refine call_of c_esane ?_
  rintro _ w3 ⟨rfl, x3⟩
  refine ldA [.string d.name, iv d.hours, iv d.cap, iv d.start, .slice A1 n1 c1, .slice A2 n2 c2, .slice A3 n3 c3, .slice A4 n4 c4, .slice A5 n5 c5, .slice A6 n6 c6] (.blk (Bd.ext x3)) rfl ?_
  refine ldA [.slice W1 m1 e1, .slice S1 m2 e2] (.blk (Bx.ext x3)) rfl ?_
  refine callSE (c_r48Few ((hd.ext x2).ext x3) ((hx.ext x2).ext x3)) (fun w4 x4 => ?_) (fun w4 x4 => ?_)
  rotate_left
  · exact ret1 (.bool true) rfl ⟨rfl, x2.trans (x3.trans x4)⟩
  have z4 := x3.trans x4
  refine len ?_
  refine cD (fun _ => ?_) (fun _ => ?_)
  · exact ret1 (.bool true) rfl ⟨rfl, x2.trans z4⟩
  obtain ⟨b1, hb1⟩ : ∃ b, b = explV d x set := ⟨_, rfl⟩
  obtain ⟨b2, hb2⟩ : ∃ b, b = accV d x set l := ⟨_, rfl⟩
  cases b1 with
  | true =>
    cases b2 with
    | true =>
      refine ldA [.string d.name, iv d.hours, iv d.cap, iv d.start, .slice A1 n1 c1, .slice A2 n2 c2, .slice A3 n3 c3, .slice A4 n4 c4, .slice A5 n5 c5, .slice A6 n6 c6] (.blk (Bd.ext z4)) rfl ?_
      refine ldA [.slice W1 m1 e1, .slice S1 m2 e2] (.blk (Bx.ext z4)) rfl ?_
      have cc := c_Explains ((hd.ext x2).ext z4) ((hx.ext x2).ext z4) (c := cS) ((hset.ext x2).ext z4)
      rw [← hb1] at cc
      refine call_of cc ?_
      clear cc
      rintro _ w5 ⟨rfl, x5⟩
      have z5 := z4.trans x5
      refine ldA [.string d.name, iv d.hours, iv d.cap, iv d.start, .slice A1 n1 c1, .slice A2 n2 c2, .slice A3 n3 c3, .slice A4 n4 c4, .slice A5 n5 c5, .slice A6 n6 c6] (.blk (Bd.ext z5)) rfl ?_
      refine ldA [.slice W1 m1 e1, .slice S1 m2 e2] (.blk (Bx.ext z5)) rfl ?_
      have cc := c_Accepts ((hd.ext x2).ext z5) ((hx.ext x2).ext z5) (c := cS) (c' := cL) ((hset.ext x2).ext z5) ((hl.ext x2).ext z5)
      rw [← hb2] at cc
      refine call_of cc ?_
      clear cc
      rintro _ w6 ⟨rfl, x6⟩
      have z6 := z5.trans x6
      refine cN (fun h => absurd rfl h) (fun _ => ?_)
      have e0 : askErr d x set = 0 := by
        by_cases h : askErr d x set = 0
        · exact h
        · exfalso; unfold explV at hb1; rw [if_neg h] at hb1; cases hb1
      refine cN (fun h => absurd e0 h) (fun _ => ?_)
      have hsb : ∀ i ∈ set, 0 ≤ i ∧ i < (x.suspects.length : Int) := fun i hi => by have := (setB_ok (askErr_ok.1 e0).2).2 i hi; omega
      have hs12 := (evErr_ok (askErr_ok.1 e0).1).2.2.1
      obtain ⟨tg, tl, tb⟩ := table_or e0
      refine ldA [.string d.name, iv d.hours, iv d.cap, iv d.start, .slice A1 n1 c1, .slice A2 n2 c2, .slice A3 n3 c3, .slice A4 n4 c4, .slice A5 n5 c5, .slice A6 n6 c6] (.blk (Bd.ext z6)) rfl ?_
      refine ldA [.slice W1 m1 e1, .slice S1 m2 e2] (.blk (Bx.ext z6)) rfl ?_
      have cc := c_Find ((hd.ext x2).ext z6) ((hx.ext x2).ext z6) (c := cS) ((hset.ext x2).ext z6)
      rw [← hb1] at cc
      refine call_of cc ?_
      clear cc
      rintro _ w7 ⟨x7, FA, fn, fc, rfl, fle, fR, -⟩
      have z7 := z6.trans x7
      refine cN (fun h => absurd e0 h) (fun _ => ?_)
      refine neB (fun h => absurd rfl h) (fun _ => ?_)
      have fR := (fR rfl).more (D' := fun _ => True) (by decide) fun _ _ _ => trivial
      refine ldA [.string d.name, iv d.hours, iv d.cap, iv d.start, .slice A1 n1 c1, .slice A2 n2 c2, .slice A3 n3 c3, .slice A4 n4 c4, .slice A5 n5 c5, .slice A6 n6 c6] (.blk (Bd.ext z7)) rfl ?_
      refine ldA [.slice W1 m1 e1, .slice S1 m2 e2] (.blk (Bx.ext z7)) rfl ?_
      have cc := c_Accepts ((hd.ext x2).ext z7) ((hx.ext x2).ext z7) (c := cS) (c' := fc) ((hset.ext x2).ext z7) fR
      rw [find_acc e0 hb1.symm] at cc
      refine call_of cc ?_
      clear cc
      rintro _ w8 ⟨rfl, x8⟩
      have z8 := z7.trans x8
      refine cN (fun h => absurd e0 h) (fun _ => ?_)
      refine ldA [.string d.name, iv d.hours, iv d.cap, iv d.start, .slice A1 n1 c1, .slice A2 n2 c2, .slice A3 n3 c3, .slice A4 n4 c4, .slice A5 n5 c5, .slice A6 n6 c6] (.blk (Bd.ext z8)) rfl ?_
      refine ldA [.slice W1 m1 e1, .slice S1 m2 e2] (.blk (Bx.ext z8)) rfl ?_
      refine call_of (c_Table ((hd.ext x2).ext z8) ((hx.ext x2).ext z8)) ?_
      rintro _ w9 ⟨TA, tn, tc, rfl, oT⟩
      have z9 := z8.trans oT.ext
      have hset9 := ((hset.ext x2).ext z9)
      have hle := hset9.le
      have hln := hset9.len
      have bT := oT.bools (D := fun _ => True) (by rw [tl]; exact Nat.le_trans (Nat.pow_le_pow_right (by decide) hs12) (by decide)) fun _ _ => trivial
      refine len ?_
      refine loop_rule (fun s : Nat × Nat => [(105, iv (s.1 : Int)), (20, iv (s.2 : Int))]) (fun s u => s.1 ≤ nS ∧ u = w9 ∧ s.2 = orL (set.take s.1)) (fun s _ => nS - s.1) (0, 0) ⟨rfl, rfl, trivial⟩ ⟨by omega, rfl, by rfl⟩ rfl ?_
      rintro G ⟨k, m⟩ u ⟨hk, rfl, hm⟩
      refine cD (fun hlt => ?_) (fun hge => ?_)
      · have hlt : k < nS := by omega
        obtain ⟨b, o, cs, a, rfl, ha, -, -, hc, rfl, -⟩ := hset9.at_ hlt
        have htk : set.take (k + 1) = set.take k ++ [a] := by rw [List.take_add_one, ha]; rfl
        have hab := hsb a (List.mem_of_getElem? ha)
        have hm' : m < 2 ^ x.suspects.length := by rw [show m = orL (set.take k) from hm]; exact orL_lt fun i hi => hsb i (List.mem_of_mem_take hi)
        have hp : 2 ^ x.suspects.length ≤ 2 ^ 12 := Nat.pow_le_pow_right (by decide) hs12
        have hm'' : m < 4096 := by omega
        refine idx k rfl hlt ?_
        refine ld (iv a) (hc 0 _ rfl) ?_
        refine shl1 (fun q hq hql => ?_) (by omega)
        refine orV (fun q' hq' => ?_)
        refine arI (by omega) ?_
        refine next (k + 1, q') ⟨by rw [Int.natCast_add]; rfl, rfl, trivial⟩ ⟨by omega, rfl, ?_⟩ (by simp only; omega)
        show q' = orL (set.take (k + 1))
        rw [htk, orL_snoc, hq', hq, ← hm]
      · have hkn : k = nS := by omega
        subst hkn
        rw [List.take_of_length_le (by omega)] at hm
        have hm : m = orL set := hm
        have tnl : tn = 2 ^ x.suspects.length := by rw [← tl]; exact bT.len.symm
        refine cE (fun _ => ?_) (fun h => absurd (askErr_ok.1 e0).1 h)
        refine len ?_
        refine cD (fun _ => ?_) (fun h => by omega)
        obtain ⟨b, o, cs, y, rfl, hy, -, -, hc, rfl⟩ := bT.at_ (k := m) (by omega)
        rw [hm, tg, ← hb1] at hy
        injection hy with hy
        subst hy
        refine idx m rfl (by omega) ?_
        refine ld (.bool true) (hc 0 _ rfl) ?_
        refine eqB (fun _ => ?_) (fun h => absurd rfl h)
        exact ret1 (.bool true) rfl ⟨rfl, x2.trans z9⟩
    | false =>
      refine ldA [.string d.name, iv d.hours, iv d.cap, iv d.start, .slice A1 n1 c1, .slice A2 n2 c2, .slice A3 n3 c3, .slice A4 n4 c4, .slice A5 n5 c5, .slice A6 n6 c6] (.blk (Bd.ext z4)) rfl ?_
      refine ldA [.slice W1 m1 e1, .slice S1 m2 e2] (.blk (Bx.ext z4)) rfl ?_
      have cc := c_Explains ((hd.ext x2).ext z4) ((hx.ext x2).ext z4) (c := cS) ((hset.ext x2).ext z4)
      rw [← hb1] at cc
      refine call_of cc ?_
      clear cc
      rintro _ w5 ⟨rfl, x5⟩
      have z5 := z4.trans x5
      refine ldA [.string d.name, iv d.hours, iv d.cap, iv d.start, .slice A1 n1 c1, .slice A2 n2 c2, .slice A3 n3 c3, .slice A4 n4 c4, .slice A5 n5 c5, .slice A6 n6 c6] (.blk (Bd.ext z5)) rfl ?_
      refine ldA [.slice W1 m1 e1, .slice S1 m2 e2] (.blk (Bx.ext z5)) rfl ?_
      have cc := c_Accepts ((hd.ext x2).ext z5) ((hx.ext x2).ext z5) (c := cS) (c' := cL) ((hset.ext x2).ext z5) ((hl.ext x2).ext z5)
      rw [← hb2] at cc
      refine call_of cc ?_
      clear cc
      rintro _ w6 ⟨rfl, x6⟩
      have z6 := z5.trans x6
      refine cN (fun h => absurd rfl h) (fun _ => ?_)
      have e0 : askErr d x set = 0 := by
        by_cases h : askErr d x set = 0
        · exact h
        · exfalso; unfold explV at hb1; rw [if_neg h] at hb1; cases hb1
      refine cN (fun h => absurd e0 h) (fun _ => ?_)
      have hsb : ∀ i ∈ set, 0 ≤ i ∧ i < (x.suspects.length : Int) := fun i hi => by have := (setB_ok (askErr_ok.1 e0).2).2 i hi; omega
      have hs12 := (evErr_ok (askErr_ok.1 e0).1).2.2.1
      obtain ⟨tg, tl, tb⟩ := table_or e0
      refine ldA [.string d.name, iv d.hours, iv d.cap, iv d.start, .slice A1 n1 c1, .slice A2 n2 c2, .slice A3 n3 c3, .slice A4 n4 c4, .slice A5 n5 c5, .slice A6 n6 c6] (.blk (Bd.ext z6)) rfl ?_
      refine ldA [.slice W1 m1 e1, .slice S1 m2 e2] (.blk (Bx.ext z6)) rfl ?_
      have cc := c_Find ((hd.ext x2).ext z6) ((hx.ext x2).ext z6) (c := cS) ((hset.ext x2).ext z6)
      rw [← hb1] at cc
      refine call_of cc ?_
      clear cc
      rintro _ w7 ⟨x7, FA, fn, fc, rfl, fle, fR, -⟩
      have z7 := z6.trans x7
      refine cN (fun h => absurd e0 h) (fun _ => ?_)
      refine neB (fun h => absurd rfl h) (fun _ => ?_)
      have fR := (fR rfl).more (D' := fun _ => True) (by decide) fun _ _ _ => trivial
      refine ldA [.string d.name, iv d.hours, iv d.cap, iv d.start, .slice A1 n1 c1, .slice A2 n2 c2, .slice A3 n3 c3, .slice A4 n4 c4, .slice A5 n5 c5, .slice A6 n6 c6] (.blk (Bd.ext z7)) rfl ?_
      refine ldA [.slice W1 m1 e1, .slice S1 m2 e2] (.blk (Bx.ext z7)) rfl ?_
      have cc := c_Accepts ((hd.ext x2).ext z7) ((hx.ext x2).ext z7) (c := cS) (c' := fc) ((hset.ext x2).ext z7) fR
      rw [find_acc e0 hb1.symm] at cc
      refine call_of cc ?_
      clear cc
      rintro _ w8 ⟨rfl, x8⟩
      have z8 := z7.trans x8
      refine cN (fun h => absurd e0 h) (fun _ => ?_)
      refine ldA [.string d.name, iv d.hours, iv d.cap, iv d.start, .slice A1 n1 c1, .slice A2 n2 c2, .slice A3 n3 c3, .slice A4 n4 c4, .slice A5 n5 c5, .slice A6 n6 c6] (.blk (Bd.ext z8)) rfl ?_
      refine ldA [.slice W1 m1 e1, .slice S1 m2 e2] (.blk (Bx.ext z8)) rfl ?_
      refine call_of (c_Table ((hd.ext x2).ext z8) ((hx.ext x2).ext z8)) ?_
      rintro _ w9 ⟨TA, tn, tc, rfl, oT⟩
      have z9 := z8.trans oT.ext
      have hset9 := ((hset.ext x2).ext z9)
      have hle := hset9.le
      have hln := hset9.len
      have bT := oT.bools (D := fun _ => True) (by rw [tl]; exact Nat.le_trans (Nat.pow_le_pow_right (by decide) hs12) (by decide)) fun _ _ => trivial
      refine len ?_
      refine loop_rule (fun s : Nat × Nat => [(105, iv (s.1 : Int)), (20, iv (s.2 : Int))]) (fun s u => s.1 ≤ nS ∧ u = w9 ∧ s.2 = orL (set.take s.1)) (fun s _ => nS - s.1) (0, 0) ⟨rfl, rfl, trivial⟩ ⟨by omega, rfl, by rfl⟩ rfl ?_
      rintro G ⟨k, m⟩ u ⟨hk, rfl, hm⟩
      refine cD (fun hlt => ?_) (fun hge => ?_)
      · have hlt : k < nS := by omega
        obtain ⟨b, o, cs, a, rfl, ha, -, -, hc, rfl, -⟩ := hset9.at_ hlt
        have htk : set.take (k + 1) = set.take k ++ [a] := by rw [List.take_add_one, ha]; rfl
        have hab := hsb a (List.mem_of_getElem? ha)
        have hm' : m < 2 ^ x.suspects.length := by rw [show m = orL (set.take k) from hm]; exact orL_lt fun i hi => hsb i (List.mem_of_mem_take hi)
        have hp : 2 ^ x.suspects.length ≤ 2 ^ 12 := Nat.pow_le_pow_right (by decide) hs12
        have hm'' : m < 4096 := by omega
        refine idx k rfl hlt ?_
        refine ld (iv a) (hc 0 _ rfl) ?_
        refine shl1 (fun q hq hql => ?_) (by omega)
        refine orV (fun q' hq' => ?_)
        refine arI (by omega) ?_
        refine next (k + 1, q') ⟨by rw [Int.natCast_add]; rfl, rfl, trivial⟩ ⟨by omega, rfl, ?_⟩ (by simp only; omega)
        show q' = orL (set.take (k + 1))
        rw [htk, orL_snoc, hq', hq, ← hm]
      · have hkn : k = nS := by omega
        subst hkn
        rw [List.take_of_length_le (by omega)] at hm
        have hm : m = orL set := hm
        have tnl : tn = 2 ^ x.suspects.length := by rw [← tl]; exact bT.len.symm
        refine cE (fun _ => ?_) (fun h => absurd (askErr_ok.1 e0).1 h)
        refine len ?_
        refine cD (fun _ => ?_) (fun h => by omega)
        obtain ⟨b, o, cs, y, rfl, hy, -, -, hc, rfl⟩ := bT.at_ (k := m) (by omega)
        rw [hm, tg, ← hb1] at hy
        injection hy with hy
        subst hy
        refine idx m rfl (by omega) ?_
        refine ld (.bool true) (hc 0 _ rfl) ?_
        refine eqB (fun _ => ?_) (fun h => absurd rfl h)
        exact ret1 (.bool true) rfl ⟨rfl, x2.trans z9⟩
  | false =>
    cases b2 with
    | true => rw [acc_expl hb2.symm] at hb1; cases hb1
    | false =>
      refine ldA [.string d.name, iv d.hours, iv d.cap, iv d.start, .slice A1 n1 c1, .slice A2 n2 c2, .slice A3 n3 c3, .slice A4 n4 c4, .slice A5 n5 c5, .slice A6 n6 c6] (.blk (Bd.ext z4)) rfl ?_
      refine ldA [.slice W1 m1 e1, .slice S1 m2 e2] (.blk (Bx.ext z4)) rfl ?_
      have cc := c_Explains ((hd.ext x2).ext z4) ((hx.ext x2).ext z4) (c := cS) ((hset.ext x2).ext z4)
      rw [← hb1] at cc
      refine call_of cc ?_
      clear cc
      rintro _ w5 ⟨rfl, x5⟩
      have z5 := z4.trans x5
      refine ldA [.string d.name, iv d.hours, iv d.cap, iv d.start, .slice A1 n1 c1, .slice A2 n2 c2, .slice A3 n3 c3, .slice A4 n4 c4, .slice A5 n5 c5, .slice A6 n6 c6] (.blk (Bd.ext z5)) rfl ?_
      refine ldA [.slice W1 m1 e1, .slice S1 m2 e2] (.blk (Bx.ext z5)) rfl ?_
      have cc := c_Accepts ((hd.ext x2).ext z5) ((hx.ext x2).ext z5) (c := cS) (c' := cL) ((hset.ext x2).ext z5) ((hl.ext x2).ext z5)
      rw [← hb2] at cc
      refine call_of cc ?_
      clear cc
      rintro _ w6 ⟨rfl, x6⟩
      have z6 := z5.trans x6
      refine cN (fun h => absurd rfl h) (fun _ => ?_)
      refine cN (fun _ => ?_) (fun e0 => ?_)
      · exact ret1 (.bool true) rfl ⟨rfl, x2.trans z6⟩
      have e0 : askErr d x set = 0 := e0
      have hsb : ∀ i ∈ set, 0 ≤ i ∧ i < (x.suspects.length : Int) := fun i hi => by have := (setB_ok (askErr_ok.1 e0).2).2 i hi; omega
      have hs12 := (evErr_ok (askErr_ok.1 e0).1).2.2.1
      obtain ⟨tg, tl, tb⟩ := table_or e0
      refine ldA [.string d.name, iv d.hours, iv d.cap, iv d.start, .slice A1 n1 c1, .slice A2 n2 c2, .slice A3 n3 c3, .slice A4 n4 c4, .slice A5 n5 c5, .slice A6 n6 c6] (.blk (Bd.ext z6)) rfl ?_
      refine ldA [.slice W1 m1 e1, .slice S1 m2 e2] (.blk (Bx.ext z6)) rfl ?_
      have cc := c_Find ((hd.ext x2).ext z6) ((hx.ext x2).ext z6) (c := cS) ((hset.ext x2).ext z6)
      rw [← hb1] at cc
      refine call_of cc ?_
      clear cc
      rintro _ w7 ⟨x7, FA, fn, fc, rfl, fle, fR, -⟩
      have z7 := z6.trans x7
      refine cN (fun h => absurd e0 h) (fun _ => ?_)
      refine neB (fun h => absurd rfl h) (fun _ => ?_)
      have z8 := z7
      refine ldA [.string d.name, iv d.hours, iv d.cap, iv d.start, .slice A1 n1 c1, .slice A2 n2 c2, .slice A3 n3 c3, .slice A4 n4 c4, .slice A5 n5 c5, .slice A6 n6 c6] (.blk (Bd.ext z8)) rfl ?_
      refine ldA [.slice W1 m1 e1, .slice S1 m2 e2] (.blk (Bx.ext z8)) rfl ?_
      refine call_of (c_Table ((hd.ext x2).ext z8) ((hx.ext x2).ext z8)) ?_
      rintro _ w9 ⟨TA, tn, tc, rfl, oT⟩
      have z9 := z8.trans oT.ext
      have hset9 := ((hset.ext x2).ext z9)
      have hle := hset9.le
      have hln := hset9.len
      have bT := oT.bools (D := fun _ => True) (by rw [tl]; exact Nat.le_trans (Nat.pow_le_pow_right (by decide) hs12) (by decide)) fun _ _ => trivial
      refine len ?_
      refine loop_rule (fun s : Nat × Nat => [(105, iv (s.1 : Int)), (20, iv (s.2 : Int))]) (fun s u => s.1 ≤ nS ∧ u = w9 ∧ s.2 = orL (set.take s.1)) (fun s _ => nS - s.1) (0, 0) ⟨rfl, rfl, trivial⟩ ⟨by omega, rfl, by rfl⟩ rfl ?_
      rintro G ⟨k, m⟩ u ⟨hk, rfl, hm⟩
      refine cD (fun hlt => ?_) (fun hge => ?_)
      · have hlt : k < nS := by omega
        obtain ⟨b, o, cs, a, rfl, ha, -, -, hc, rfl, -⟩ := hset9.at_ hlt
        have htk : set.take (k + 1) = set.take k ++ [a] := by rw [List.take_add_one, ha]; rfl
        have hab := hsb a (List.mem_of_getElem? ha)
        have hm' : m < 2 ^ x.suspects.length := by rw [show m = orL (set.take k) from hm]; exact orL_lt fun i hi => hsb i (List.mem_of_mem_take hi)
        have hp : 2 ^ x.suspects.length ≤ 2 ^ 12 := Nat.pow_le_pow_right (by decide) hs12
        have hm'' : m < 4096 := by omega
        refine idx k rfl hlt ?_
        refine ld (iv a) (hc 0 _ rfl) ?_
        refine shl1 (fun q hq hql => ?_) (by omega)
        refine orV (fun q' hq' => ?_)
        refine arI (by omega) ?_
        refine next (k + 1, q') ⟨by rw [Int.natCast_add]; rfl, rfl, trivial⟩ ⟨by omega, rfl, ?_⟩ (by simp only; omega)
        show q' = orL (set.take (k + 1))
        rw [htk, orL_snoc, hq', hq, ← hm]
      · have hkn : k = nS := by omega
        subst hkn
        rw [List.take_of_length_le (by omega)] at hm
        have hm : m = orL set := hm
        have tnl : tn = 2 ^ x.suspects.length := by rw [← tl]; exact bT.len.symm
        refine cE (fun _ => ?_) (fun h => absurd (askErr_ok.1 e0).1 h)
        refine len ?_
        refine cD (fun _ => ?_) (fun h => by omega)
        obtain ⟨b, o, cs, y, rfl, hy, -, -, hc, rfl⟩ := bT.at_ (k := m) (by omega)
        rw [hm, tg, ← hb1] at hy
        injection hy with hy
        subst hy
        refine idx m rfl (by omega) ?_
        refine ld (.bool false) (hc 0 _ rfl) ?_
        refine eqB (fun _ => ?_) (fun h => absurd rfl h)
        exact ret1 (.bool true) rfl ⟨rfl, x2.trans z9⟩
end
end Go.Proofs.Ytffdjecdcbbfaaa

/- Closing: what evidence and Truths that are handed in read as. -/
namespace Go.Proofs.Ytffdjecdcbbfaaa
open Go Go.RowKit Go.ChangeShapes Go.WideShapes Go.ChangeAt

def tEvR : Ty Ev where
  sz := 2
  rep := EvR
  len h := by obtain ⟨_, _, _, _, _, _, rfl, -⟩ := h.ex; rfl
  keep hk h := h.keep hk
  more hk h := h.more hk
theorem rd_is : Rd Try.prog 36 (tSl tInt) := inferInstance
theorem rd_rg : Rd Try.prog 58 tRg := by
  refine Rd.of (fun y : Int × Int => (⟨y.1, y.2⟩ : Rg)) rd_range ?_
  rintro W cs ⟨s, u⟩ ⟨_, _, rfl, ⟨rfl, -⟩, ⟨rfl, -⟩⟩
  rfl
theorem rd_su : Rd Try.prog 74 tSu := by
  refine Rd.of (fun y : Int × Int × Int => (⟨y.1, y.2.1, y.2.2⟩ : Su))
    (Rd.struct Try.underlying74 (by kernel_rfl) fun n => .cons (rdAt Try.prog 3 tInt n) rfl (.cons (rdAt Try.prog 3 tInt n) rfl (.one (rdAt Try.prog 3 tInt n) rfl))) ?_
  rintro W cs ⟨s, u, d⟩ ⟨_, _, rfl, ⟨rfl, -⟩, _, _, rfl, ⟨rfl, -⟩, ⟨rfl, -⟩⟩
  rfl
instance : Rd Try.prog 58 tRg := rd_rg
instance : Rd Try.prog 74 tSu := rd_su
theorem rd_rgs : Rd Try.prog 51 (tSl tRg) := inferInstance
theorem rd_wave : Rd Try.prog 53 tWv := Rd.map (g := fun y : Int × List Rg × List Rg × List Rg => (⟨y.1, y.2.1, y.2.2.1, y.2.2.2⟩ : Wv))
    (Rd.struct Try.underlying53 (by kernel_rfl) fun n => .cons (rdAt Try.prog 3 tInt n) rfl (.cons (rd_rgs.h n) rfl (.cons (rd_rgs.h n) rfl (.one (rd_rgs.h n) rfl)))) fun _ => rfl
theorem rd_tru : Rd Try.prog 65 tTru := Rd.map (g := fun y : List Int × List Int × List Int × List Int × List Int => (⟨y.1, y.2.1, y.2.2.1, y.2.2.2.1, y.2.2.2.2⟩ : Tru))
    (Rd.struct Try.underlying65 (by kernel_rfl) fun n => .cons (rd_is.h n) rfl (.cons (rd_is.h n) rfl (.cons (rd_is.h n) rfl (.cons (rd_is.h n) rfl (.one (rd_is.h n) rfl))))) fun _ => rfl
instance : Rd Try.prog 53 tWv := rd_wave
instance : Rd Try.prog 65 tTru := rd_tru
theorem rd_waves : Rd Try.prog 32 (tSl tWv) := inferInstance
theorem rd_sus : Rd Try.prog 33 (tSl tSu) := inferInstance
theorem rd_trus : Rd Try.prog 37 (tSl tTru) := inferInstance
theorem rd_ev : Rd Try.prog 35 tEvR := by
  refine Rd.of (fun y : List Wv × List Su => (⟨y.1, y.2⟩ : Ev))
    (Rd.struct Try.underlying35 (by kernel_rfl) fun n => .cons (rd_waves.h n) rfl (.one (rd_sus.h n) rfl)) ?_
  rintro W cs ⟨l1, l2⟩ ⟨_, _, rfl, ⟨A1, n1, c1, rfl, h1, g1⟩, A2, n2, c2, rfl, h2, g2⟩
  exact EvR.of_ ⟨A1, n1, c1, A2, n2, c2, rfl, h1, h2, g1, g2⟩
end Go.Proofs.Ytffdjecdcbbfaaa
