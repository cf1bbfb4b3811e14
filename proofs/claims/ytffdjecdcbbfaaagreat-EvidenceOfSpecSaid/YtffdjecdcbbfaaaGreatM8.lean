/- Parts of the proof: B4 B5 B6 B7 B8 B9 Ba Bb Bc. -/
import Derived.Test.YtffdjecdcbbfaaaGreatM7
import Derived.Test.YtffdjecdcbbfaaaGreatM4

/- Layer 23: the moves of an hour. -/
namespace Go.Proofs.YtffdjecdcbbfaaaGreat
open Go Go.RowKit

structure Mv where
  frm : Int × Int
  to : Int × Int
  litres : Int
deriving DecidableEq
abbrev Mv.c (m : Mv) : List Value := [iv m.frm.1, iv m.frm.2, iv m.to.1, iv m.to.2, iv m.litres]
abbrev mvs (l : List Mv) : List Value := l.flatMap Mv.c
theorem mvs_len : ∀ l : List Mv, (mvs l).length = l.length * 5
  | [] => rfl
  | m :: l => by show (Mv.c m ++ mvs l).length = _; rw [List.length_append, mvs_len l, List.length_cons]; simp; omega
theorem mvs_app (l k : List Mv) : mvs (l ++ k) = mvs l ++ mvs k := List.flatMap_append
def childL (d : Dist) (x : Run) (hour i k : Nat) : List Mv := ((List.range k).filter fun j : Nat => decide ((rch d j).up = (i : Int))).map fun j : Nat => ⟨(2, i), (2, j), g2 x.inn j hour⟩
def farmL (d : Dist) (x : Run) (hour i k : Nat) : List Mv := ((List.range k).filter fun j : Nat => decide ((frm d j).reach = (i : Int))).map fun j : Nat => ⟨(2, i), (5, j), g2 x.taken j hour⟩
def lossL (d : Dist) (x : Run) (hour i : Nat) : List Mv := [⟨(2, i), (3, i), (parc d x hour i).2.1⟩, ⟨(2, i), (4, i), (parc d x hour i).2.2⟩]
def endL (d : Dist) (x : Run) (hour i : Nat) : List Mv := lossL d x hour i ++ childL d x hour i d.reaches.length ++ farmL d x hour i d.farms.length ++ [⟨(2, i), (6, i), g2 x.tail i hour⟩]
def headL (x : Run) (hour : Nat) : List Mv := [⟨(0, 0), (1, 0), g1 x.inflow hour⟩, ⟨(1, 0), (7, 0), g1 x.spill hour⟩, ⟨(1, 0), (2, 0), g2 x.inn 0 hour⟩]
def prefL (d : Dist) (x : Run) (hour k : Nat) : List Mv := headL x hour ++ (List.range k).flatMap fun i => endL d x hour i
def movesL (d : Dist) (x : Run) (hour : Nat) : List Mv := prefL d x hour d.reaches.length
theorem childL_succ {d : Dist} {x : Run} {hour i k : Nat} : childL d x hour i (k + 1) = childL d x hour i k ++ (if (rch d k).up = (i : Int) then [⟨(2, i), (2, k), g2 x.inn k hour⟩] else []) := by
  unfold childL
  rw [List.range_succ, List.filter_append, List.map_append]
  congr 1
  by_cases h : (rch d k).up = (i : Int) <;> simp [h]
theorem farmL_succ {d : Dist} {x : Run} {hour i k : Nat} : farmL d x hour i (k + 1) = farmL d x hour i k ++ (if (frm d k).reach = (i : Int) then [⟨(2, i), (5, k), g2 x.taken k hour⟩] else []) := by
  unfold farmL
  rw [List.range_succ, List.filter_append, List.map_append]
  congr 1
  by_cases h : (frm d k).reach = (i : Int) <;> simp [h]
theorem prefL_succ {d : Dist} {x : Run} {hour k : Nat} : prefL d x hour (k + 1) = prefL d x hour k ++ endL d x hour k := by
  unfold prefL
  rw [List.range_succ, List.flatMap_append]
  simp
theorem childL_len {d : Dist} {x : Run} {hour i k : Nat} : (childL d x hour i k).length ≤ k := by
  unfold childL
  rw [List.length_map]
  exact Nat.le_trans (List.length_filter_le _ _) (by simp)
theorem farmL_len {d : Dist} {x : Run} {hour i k : Nat} : (farmL d x hour i k).length ≤ k := by
  unfold farmL
  rw [List.length_map]
  exact Nat.le_trans (List.length_filter_le _ _) (by simp)
theorem endL_len {d : Dist} {x : Run} {hour i : Nat} : (endL d x hour i).length ≤ 3 + d.reaches.length + d.farms.length := by
  unfold endL lossL
  have h1 := childL_len (d := d) (x := x) (hour := hour) (i := i) (k := d.reaches.length)
  have h2 := farmL_len (d := d) (x := x) (hour := hour) (i := i) (k := d.farms.length)
  simp only [List.length_append, List.length_cons, List.length_nil]
  omega
theorem prefL_len {d : Dist} {x : Run} {hour : Nat} (h1 : d.reaches.length ≤ 64) (h2 : d.farms.length ≤ 600) : ∀ k, (prefL d x hour k).length ≤ 3 + k * 667
  | 0 => by simp [prefL, headL]
  | k + 1 => by
    rw [prefL_succ, List.length_append]
    have := prefL_len (x := x) (hour := hour) h1 h2 k
    have := endL_len (d := d) (x := x) (hour := hour) (i := k)
    omega

/-! ### the list that grows in a cell -/
structure MovS (D : Nat → Prop) (w0 w : World) (q : Nat) (ms : List Mv) : Prop where
  of_ ::
  ex : ∃ A n c, Blk w q 179 [.slice A n c] ∧ OwnF w0 w A n c 183 5 (mvs ms) ∧ ∀ g, A = some (ad g 0) → ¬ D g
section
variable {D D2 : Nat → Prop} {w0 w w' : World} {q p : Nat} {ms : List Mv}
theorem MovS.ext (h : MovS D w0 w q ms) (x : Ext w w') : MovS D w0 w' q ms := by
  obtain ⟨A, n, c, h1, h2, h3⟩ := h.ex
  exact ⟨A, n, c, h1.ext x, h2.then x, h3⟩
theorem MovS.sub (h : MovS D w0 w q ms) (hD : ∀ b, D2 b → D b) : MovS D2 w0 w q ms := by
  obtain ⟨A, n, c, h1, h2, h3⟩ := h.ex
  exact ⟨A, n, c, h1, h2, fun g hg h => h3 g hg (hD g h)⟩
theorem MovS.kept (h : MovS D w0 w q ms) (k : Kept D2 w w') (hq : D2 q) (hD : ∀ g, ¬ D g → D2 g) (hx : Ext w0 w') : MovS D w0 w' q ms := by
  obtain ⟨A, n, c, h1, h2, h3⟩ := h.ex
  exact ⟨A, n, c, h1.kept k hq, h2.thenK k (fun g hg => hD g (h3 g hg)) hx, h3⟩
theorem MovS.add (h : MovS D w0 w q ms) (hp : w.heap.size ≤ p) : MovS (fun b => D b ∨ b = p) w0 w q ms := by
  obtain ⟨A, n, c, h1, h2, h3⟩ := h.ex
  refine ⟨A, n, c, h1, h2, fun g hg hd => ?_⟩
  rcases hd with h | h
  · exact h3 g hg h
  · rcases h2.form with ⟨hA, _⟩ | ⟨g', hA, _, hlt, _⟩
    · rw [hA] at hg; cases hg
    · rw [hA] at hg
      simp only [Option.some.injEq, Addr.mk.injEq, and_true] at hg
      omega
theorem c_put {a b c d L : Int} (h : MovS D w0 w q ms) (hD : ∀ b, D b → b < w.heap.size) (hq : ¬ D q) (hq0 : w0.heap.size ≤ q) (hn : ms.length ≤ 100000) :
    CallZ Tryz.prog 132 #[iv a, iv b, iv c, iv d, iv L, ptr q] w (fun v w' => v = .tuple #[] ∧ MovS D w0 w' q (ms ++ [⟨(a, b), (c, d), L⟩]) ∧ Kept D w w') := by
  obtain ⟨A, n, cc, h1, h2, h3⟩ := h.ex
  have hl := h2.own.len
  rw [mvs_len] at hl
  refine fn_rule (args := [iv a, iv b, iv c, iv d, iv L, ptr q]) Tryz.func132 (by kernel_rfl) ?_
  refine ld (.slice A n cc) (h1.cell rfl) ?_
  refine bld [iv a, iv b] (by kernel_rfl) ?_
  refine bld [iv c, iv d] (by kernel_rfl) ?_
  refine bld [iv a, iv b, iv c, iv d, iv L] (by kernel_rfl) ?_
  refine lit [.agg #[iv a, iv b, iv c, iv d, iv L]] (fun g w1 hb => ?_)
  have z1 := hb.at_
  have zs := hb.size
  refine appF (h2.then hb.ext) (hb.src (sz := 5) rfl) (by omega) (fun A' c' w2 o2 k2 hA' => ?_)
  have hA2 : ∀ g, A' = some (ad g 0) → ¬ D g := fun g' hg hd => by
    rcases hA' with h | h | h
    · rw [h] at hg; exact h3 g' hg hd
    · rw [h] at hg; cases hg
    · rw [h] at hg
      simp only [Option.some.injEq, Addr.mk.injEq, and_true] at hg
      have := hD g' hd
      have := hb.ext.size
      omega
  have hAq : A ≠ some (ad q 0) := fun e => by
    rcases h2.form with ⟨hA, _⟩ | ⟨g', hA, _, hlt, _⟩
    · rw [hA] at e; cases e
    · rw [hA] at e
      simp only [Option.some.injEq, Addr.mk.injEq, and_true] at e
      subst e
      obtain ⟨rest, hb3, _⟩ := Own.blk (hA ▸ h2.own)
      have := (h1.uniq hb3).1
      exact absurd this (by decide)
  have hlt := h1.lt
  have b2 := (h1.ext hb.ext).kept k2 hAq
  refine st1 b2 rfl (fun w3 hb3 k3 => ?_)
  have hAq' : ∀ g, A' = some (ad g 0) → g ≠ q := fun g' hg e => by
    subst e
    rcases hA' with h | h | h
    · rw [h] at hg; exact hAq hg
    · rw [h] at hg; cases hg
    · rw [h] at hg
      simp only [Option.some.injEq, Addr.mk.injEq, and_true] at hg
      have := hb.ext.size
      omega
  refine ret0 ⟨rfl, ⟨A', n + 1, c', hb3, ?_, hA2⟩, ?_⟩
  · have := o2.thenK k3 hAq' (o2.ext.then k3 fun b hb _ e => by omega)
    rw [mvs_app]
    exact this
  · exact (Ext.any hb.ext).trans ((k2.weak fun i _ hi e => h3 i e hi).trans (k3.weak fun i _ hi e => hq (e ▸ hi)))
end
end Go.Proofs.YtffdjecdcbbfaaaGreat

/- Layer 23: contract of moves. -/
namespace Go.Proofs.YtffdjecdcbbfaaaGreat
open Go Go.RowKit

section
variable {D : Nat → Prop} {w : World}
theorem c_moves {csd csx : List Value} {d : Dist} {x : Run} {hour H : Nat} (hd : DiR D w csd d) (hx : RuR D w csx x) (hf : Fm d x H) (hh : hour < H) : CallZ Tryz.prog 106 #[.agg csd.toArray, .agg csx.toArray, iv (hour : Int)] w
    (fun v w' => ∃ A n c, v = .slice A n c ∧ OwnF w w' A n c 183 5 (mvs (movesL d x hour))) := by
  have hd := hd.more (D' := fun b => b < w.heap.size) fun b hb _ => hb
  have hx := hx.more (D' := fun b => b < w.heap.size) fun b hb _ => hb
  obtain ⟨A1, n1, c1, A2, n2, c2, A3, n3, c3, A4, n4, c4, A5, n5, c5, A6, n6, c6, rfl, hr, hfa, hcr, hri, hdu, hwe⟩ := hd.ex
  obtain ⟨B1, m1, e1, B2, m2, e2, B3, m3, e3, B4, m4, e4, B5, m5, e5, B6, m6, e6, B7, m7, e7, rfl, i1, i2, i3, i4, i5, i6, i7, -⟩ := hx.ex
  have ln := hr.len
  have lf := hfa.len
  have t1 := numB_iff.1 hf.inflow
  have t2 := numB_iff.1 hf.spill
  have t3 := tabB_iff.1 hf.inn
  have t6 := tabB_iff.1 hf.taken
  have t7 := tabB_iff.1 hf.tail
  have k1 := i1.len
  have k2 := i2.len
  have k3 := i3.len
  have k6 := i6.len
  have k7 := i7.len
  have hnr := hf.nr
  have hnr' := hf.nr'
  have hnf := hf.nf
  refine fn_rule (args := [.agg #[.string d.name, iv d.hours, iv d.cap, iv d.start, .slice A1 n1 c1, .slice A2 n2 c2, .slice A3 n3 c3, .slice A4 n4 c4, .slice A5 n5 c5, .slice A6 n6 c6], .agg #[.slice B1 m1 e1, .slice B2 m2 e2, .slice B3 m3 e3, .slice B4 m4 e4, .slice B5 m5 e5, .slice B6 m6 e6, .slice B7 m7 e7], iv (hour : Int)]) Tryz.func106 (by kernel_rfl) ?_
  refine box (fun bd w1 h1 => ?_)
  refine box (fun bx w2 h2 => ?_)
  refine box (fun bh w3 h3 => ?_)
  refine alloc (fun q w4 h4 => ?_)
  refine alloc (fun f7 w5 h5 => ?_)
  refine st1 h5.blk rfl (fun w6 hb6 s6 => ?_)
  have a1 := h1.at_
  have a2 := h2.at_
  have a3 := h3.at_
  have a4 := h4.at_
  have a5 := h5.at_
  have z1 := h1.size
  have z2 := h2.size
  have z3 := h3.size
  have z4 := h4.size
  have z5 := h5.size
  have z6 := s6.size
  have x14 : Ext w1 w4 := (h2.ext.trans h3.ext).trans h4.ext
  have x4 : Ext w w4 := h1.ext.trans x14
  have x46 : Ext w4 w6 := h5.ext.then s6 fun b hb _ e => by omega
  have x6 : Ext w w6 := x4.trans x46
  have E6 : EnvA (fun b => b < w.heap.size) w6 bd bh bx _ _ d x hour := ⟨h1.blk.ext (x14.trans x46), h3.blk.ext (h4.ext.trans x46), h2.blk.ext ((h3.ext.trans h4.ext).trans x46), hd.ext x6, hx.ext x6⟩
  have M6 : MovS (fun b => b < w6.heap.size ∧ b ≠ q) w w6 q [] := ⟨none, 0, 0, h4.blk.ext x46, OwnF.nil x6, fun g hg => by cases hg⟩
  have keyK : ∀ u, Kept (fun b => b < w6.heap.size ∧ b ≠ q) w6 u → Kept (fun b => b < w.heap.size) w u := fun u k => (Ext.any x6).then k (fun b _ hb => ⟨by omega, by omega⟩)
  have keyE : ∀ u, Kept (fun b => b < w6.heap.size ∧ b ≠ q) w6 u → EnvA (fun b => b < w.heap.size) u bd bh bx _ _ d x hour := fun u k => E6.kept k ⟨by omega, by omega⟩ ⟨by omega, by omega⟩ ⟨by omega, by omega⟩ fun b _ hb => ⟨by omega, by omega⟩
  have keyF : ∀ u, Kept (fun b => b < w6.heap.size ∧ b ≠ q) w6 u → Blk u f7 _ [.func (.func 132) #[] #[ptr q]] := fun u k => hb6.kept k ⟨by omega, by omega⟩
  have hq : ¬ (fun b => b < w6.heap.size ∧ b ≠ q) q := fun h => h.2 rfl
  -- the inflow
  obtain ⟨fa, fb, rfl, v1⟩ := num_at (i1.kept (keyK w6 (.refl _ _)) fun b _ hb => hb) (k := hour) (by omega)
  refine drawP (.take 0 (.take 1 (.take 2 (.take 3 (.take 4 (.take 5 (.bar (.eff 6 .done)))))))) [6] (fun u => u = w6) mx (by kernel_rfl) rfl ?_
  refine ld _ (hb6.cell rfl) ?_
  refine fldA ?_
  refine ld _ (E6.xx.cell rfl) ?_
  refine ld _ (E6.hh.cell rfl) ?_
  refine idx hour rfl (by omega) ?_
  refine ld _ v1 ?_
  refine barS (fun _ => True) trivial ?_
  refine call_of (c_put M6 (fun b h => h.1) hq (by omega) (by simp)) ?_
  rintro _ w7 ⟨rfl, M7, k7⟩
  refine strS trivial ?_
  -- the spill
  obtain ⟨ga, gb, rfl, v2⟩ := num_at (i2.kept (keyK w7 k7) fun b _ hb => hb) (k := hour) (by omega)
  refine drawP (.take 0 (.take 1 (.take 2 (.take 3 (.take 4 (.take 5 (.bar (.eff 6 .done)))))))) [6] (fun u => u = w7) mx (by kernel_rfl) rfl ?_
  refine ld _ ((keyF w7 k7).cell rfl) ?_
  refine fldA ?_
  refine ld _ ((keyE w7 k7).xx.cell rfl) ?_
  refine ld _ ((keyE w7 k7).hh.cell rfl) ?_
  refine idx hour rfl (by omega) ?_
  refine ld _ v2 ?_
  refine barS (fun _ => True) trivial ?_
  refine call_of (c_put M7 (fun b h => Nat.lt_of_lt_of_le h.1 k7.size) hq (by omega) (by simp)) ?_
  rintro _ w8 ⟨rfl, M8, k78⟩
  have k8 := k7.trans k78
  refine strS trivial ?_
  -- what enters
  obtain ⟨ha, hb, R3, s3, u3, rfl, cc3, r3, -⟩ := row_at (i3.kept (keyK w8 k8) fun b _ hb => hb) (i := 0) (by omega)
  have q3 := r3.len
  have n3' := numB_iff.1 (tab_row hf.inn hnr).2
  obtain ⟨ja, jb, rfl, v3⟩ := num_at r3 (k := hour) (by omega)
  refine drawP (.take 0 (.take 1 (.take 2 (.take 3 (.take 4 (.take 5 (.take 6 (.take 7 (.bar (.eff 8 .done)))))))))) [8] (fun u => u = w8) mx (by kernel_rfl) rfl ?_
  refine ld _ ((keyF w8 k8).cell rfl) ?_
  refine fldA ?_
  refine ld _ ((keyE w8 k8).xx.cell rfl) ?_
  refine idx 0 rfl (by omega) ?_
  refine ld _ cc3 ?_
  refine ld _ ((keyE w8 k8).hh.cell rfl) ?_
  refine idx hour rfl (by omega) ?_
  refine ld _ v3 ?_
  refine barS (fun _ => True) trivial ?_
  refine call_of (c_put M8 (fun b h => Nat.lt_of_lt_of_le h.1 k8.size) hq (by omega) (by simp)) ?_
  rintro _ w9 ⟨rfl, M9, k89⟩
  have k9 := k8.trans k89
  refine strS trivial ?_
  have E9 := keyE w9 k9
  refine ldA _ (.blk E9.dd) rfl ?_
  refine ldA _ (.blk E9.xx) rfl ?_
  refine ld _ (E9.hh.cell rfl) ?_
  refine call_of (c_arriving E9.rd E9.rx) ?_
  rintro _ w11 ⟨bd', bh', bx', rfl, x11, E11, y1, y2, y3, y4, y5, y6⟩
  obtain ⟨A0, n0, c0, o1, o2, o3⟩ := M9.ex
  have hA0 : ∀ b, A0 = some (ad b 0) → w.heap.size ≤ b ∧ b < w9.heap.size ∧ ¬ (b < w6.heap.size ∧ b ≠ q) := fun b hb => by
    refine ⟨o2.new b hb, ?_, o3 b hb⟩
    rcases o2.form with ⟨hA, _⟩ | ⟨g', hA, _, hlt, _⟩
    · rw [hA] at hb; cases hb
    · rw [hA] at hb
      simp only [Option.some.injEq, Addr.mk.injEq, and_true] at hb
      omega
  have y9 := k9.size
  have y11 := x11.size
  refine range (gf := 133) (lb := #[ptr bd', ptr bh', ptr bx']) rfl (fun fn tmps w12 R hR hF hwf x12 z12 hD12 hl12 => ?_)
  show CallZ _ _ #[.func (.yield (w11.heap.size + 1)) #[] #[], ptr bd', ptr bh', ptr bx'] w12 _
  obtain ⟨Dl, hDl⟩ : ∃ Dl : Nat → Prop, Dl = fun b => b < w12.heap.size ∧ b ≠ q ∧ A0 ≠ some (ad b 0) := ⟨_, rfl⟩
  have dl : ∀ b, Dl b ↔ b < w12.heap.size ∧ b ≠ q ∧ A0 ≠ some (ad b 0) := fun b => by rw [hDl]
  have dlLow : ∀ b, b < w6.heap.size → b ≠ q → Dl b := fun b h1 h2 => (dl b).2 ⟨by omega, h2, fun e => (hA0 b e).2.2 ⟨h1, h2⟩⟩
  have dlHi : ∀ b, w9.heap.size ≤ b → b < w12.heap.size → Dl b := fun b h1 h2 => (dl b).2 ⟨h2, by omega, fun e => by have := (hA0 b e).2.1; omega⟩
  have hDq : ¬ Dl q := fun h => ((dl q).1 h).2.1 rfl
  clear hDl
  have x912 := x11.trans x12
  have M12 : MovS Dl w w12 q (headL x hour) := by
    refine ⟨A0, n0, c0, o1.ext x912, ?_, fun g hg h => ((dl g).1 h).2.2 hg⟩
    exact o2.then x912
  -- what holds of a world that keeps these blocks
  have kLow : ∀ u, Kept (fun b => Dl b ∧ b ≠ w11.heap.size + 1) w12 u → Kept (fun b => b < w6.heap.size ∧ b ≠ q) w6 u := fun u k => k9.then ((Ext.any (D := fun b => b < w9.heap.size ∧ Dl b) x912).then k fun b hb h => ⟨h.2, by omega⟩) fun b hb h => ⟨by omega, dlLow b h.1 h.2⟩
  refine (c_arr1 (D := fun b => b < w.heap.size) (csd := _) (csx := _) (H := H) (fun i u => Kept (fun b => Dl b ∧ b ≠ w11.heap.size + 1) w12 u ∧ LoopAt u (w11.heap.size + 1) R ∧ MovS Dl w u q (prefL d x hour i)) (fun _ => False)
    (fun i u hj => (E11.ext x12).kept hj.1 ⟨dlHi _ (by omega) (by omega), by omega⟩ ⟨dlHi _ (by omega) (by omega), by omega⟩ ⟨dlHi _ (by omega) (by omega), by omega⟩ fun b hb hbw => ⟨dlLow b (by omega) (by omega), by omega⟩)
    (fun i u u' hj xx => ⟨hj.1.ext xx, hj.2.1.kept xx trivial, hj.2.2.ext xx⟩) hf hh ?_ ⟨.refl _ _, hl12, by
      have : prefL d x hour 0 = headL x hour := by simp [prefL]
      rw [this]; exact M12⟩).mono ?_
  · rintro i u hi ⟨ku, lu, mu⟩
    subst hR
    refine yield_rule (args := [iv (i : Int), pv (parc d x hour i)]) lu rfl rfl hF hwf ?_
    have us := ku.size
    refine alloc (fun p u1 g1 => ?_)
    refine stA (vs := [iv (parc d x hour i).1, iv (parc d x hour i).2.1, iv (parc d x hour i).2.2]) g1.blk rfl (Nat.le_of_ble_eq_true rfl) (by simp [Value.oneCell']) (fun u2 pb2 s2 zu2 => ?_)
    have p1 := g1.at_
    have p2 := g1.size
    have p3 := s2.size
    have xu2 : Ext u u2 := g1.ext.then s2 fun b hb _ e => by omega
    have lu2 := lu.kept xu2 trivial
    have mu2 := (mu.add (p := p) (by omega)).ext xu2
    refine mid' lu2 (fun u3 s3 zs3 lu3 => ?_)
    have hLi : w11.heap.size + 1 < w12.heap.size := hl12.lt
    have DlL : Dl (w11.heap.size + 1) := dlHi _ (by omega) hLi
    have pL : p ≠ w11.heap.size + 1 := by omega
    have pb3 := pb2.kept s3 pL
    have mu3 : MovS (fun b => Dl b ∨ b = p) w u3 q (prefL d x hour i) := mu2.kept s3 (fun e => hDq (e ▸ DlL)) (fun g hg e => hg (.inl (e ▸ DlL))) (((mu2.ex.choose_spec.choose_spec.choose_spec).2.1).ext.then s3 fun b hb _ e => by omega)
    have ku3 : Kept (fun b => Dl b ∧ b ≠ w11.heap.size + 1) w12 u3 := (ku.ext xu2).then s3 fun b _ h => h.2
    have hDp : ∀ u' : World, u3.heap.size ≤ u'.heap.size → ∀ b, (Dl b ∨ b = p) → b < u'.heap.size := fun u' hu b hb => by
      rcases hb with hb | hb
      · have := ((dl b).1 hb).1; have := ku3.size; omega
      · omega
    have hqp : ¬ (Dl q ∨ q = p) := fun h => by
      rcases h with h | h
      · exact hDq h
      · omega
    have kAll : ∀ u', Kept (fun b => Dl b ∨ b = p) u3 u' → Kept (fun b => Dl b ∧ b ≠ w11.heap.size + 1) w12 u' := fun u' k => ku3.then k fun b _ h => .inl h.1
    have pf := prefL_len (d := d) (x := x) (hour := hour) hnr' hnf i
    have pc0 : ∀ {k}, (childL d x hour i k).length ≤ k := childL_len
    have pf0 : ∀ {k}, (farmL d x hour i k).length ≤ k := farmL_len
    -- what evaporated
    have F3 := keyF u3 (kLow u3 ku3)
    refine ld _ (F3.cell rfl) ?_
    refine fldA ?_
    refine ld (iv (parc d x hour i).2.1) (pb3.cell rfl) ?_
    refine call_of (c_put mu3 (hDp u3 (Nat.le_refl _)) hqp (by omega) (by omega)) ?_
    rintro _ u4 ⟨rfl, M4, k4⟩
    have F4 := keyF u4 (kLow u4 (kAll u4 k4))
    have pb4 := pb3.kept k4 (.inr rfl)
    refine ld _ (F4.cell rfl) ?_
    refine fldA ?_
    refine ld (iv (parc d x hour i).2.2) (pb4.cell rfl) ?_
    refine call_of (c_put M4 (hDp u4 k4.size) hqp (by omega) (by simp; omega)) ?_
    rintro _ u5 ⟨rfl, M5, k45⟩
    have k5 := k4.trans k45
    have E5 := keyE u5 (kLow u5 (kAll u5 k5))
    have M5 : MovS (fun b => Dl b ∨ b = p) w u5 q (prefL d x hour i ++ lossL d x hour i) := by rw [List.append_assoc] at M5; exact M5
    refine fldA ?_
    refine ld (.slice A1 n1 c1) (E5.dd.cell rfl) ?_
    refine len ?_
    -- the children
    refine loop_rule (fun k : Nat => [(59, iv (k : Int))]) (fun k u' => k ≤ n1 ∧ Kept (fun b => Dl b ∨ b = p) u3 u' ∧ MovS (fun b => Dl b ∨ b = p) w u' q (prefL d x hour i ++ lossL d x hour i ++ childL d x hour i k)) (fun k _ => n1 - k) 0 ⟨rfl, trivial⟩ ⟨by omega, k5, by
      rw [show childL d x hour i 0 = [] from rfl, List.append_nil]; exact M5⟩ rfl ?_
    rintro G k u6 ⟨hk, k6, M6'⟩
    have E6' := keyE u6 (kLow u6 (kAll u6 k6))
    have F6 := keyF u6 (kLow u6 (kAll u6 k6))
    refine cD (fun hlt => ?_) (fun hge => ?_)
    · have hlt : k < n1 := by omega
      obtain ⟨b, o, cs, r, rfl, hrx, -, -, hc, rfl⟩ := (hr.kept (keyK u6 (kLow u6 (kAll u6 k6))) fun b _ hb => hb).at_ hlt
      refine idx k rfl hlt ?_
      refine ldA r.c hc rfl ?_
      refine alloc (fun t u7 g7 => ?_)
      refine stA (vs := r.c) g7.blk rfl (Nat.le_of_ble_eq_true rfl) (by simp [Value.oneCell']) (fun u8 tb8 s8 zu8 => ?_)
      have t1 := g7.at_
      have x68 : Ext u6 u8 := g7.ext.then s8 fun b hb _ e => by omega
      have M8' := M6'.ext x68
      have k8' : Kept (fun b => Dl b ∨ b = p) u3 u8 := k6.ext x68
      have hrk := rch_eq hrx
      refine fldA ?_
      refine ld (iv r.up) (tb8.cell rfl) ?_
      refine cE (fun hup => ?_) (fun hup => ?_)
      · obtain ⟨f3, p3', R3', s3', u3', hA3, cc3', r3', -⟩ := row_at (i3.kept (keyK u8 (kLow u8 (kAll u8 k8'))) fun b _ hb => hb) (i := k) (by omega)
        cases hA3
        have n3k := numB_iff.1 (tab_row hf.inn (i := k) (by omega)).2
        have q3k := r3'.len
        obtain ⟨v3a, v3b, rfl, v3'⟩ := num_at r3' (k := hour) (by omega)
        have E8 := keyE u8 (kLow u8 (kAll u8 k8'))
        refine drawP (.take 0 (.take 1 (.take 2 (.take 3 (.take 4 (.take 5 (.take 6 (.take 7 (.take 8 (.take 9 (.take 10 (.bar (.eff 11 .done))))))))))))) [11] (fun u => u = u8) mx (by kernel_rfl) rfl ?_
        refine ld _ ((keyF u8 (kLow u8 (kAll u8 k8'))).cell rfl) ?_
        refine fldA ?_
        refine ld _ (E8.xx.cell rfl) ?_
        refine idx k rfl (by omega) ?_
        refine ld _ cc3' ?_
        refine ld _ (E8.hh.cell rfl) ?_
        refine idx hour rfl (by omega) ?_
        refine ld _ v3' ?_
        refine barS (fun _ => True) trivial ?_
        have pk := pc0 (k := k)
        refine call_of (c_put M8' (hDp u8 k8'.size) hqp (by omega) (by simp [lossL]; omega)) ?_
        rintro _ u9 ⟨rfl, M9', k89'⟩
        refine strS trivial ?_
        refine arI (by have := hr.le; omega) ?_
        refine next (k + 1) ⟨by rw [Int.natCast_add]; rfl, trivial⟩ ⟨by omega, k8'.trans k89', ?_⟩ (by omega)
        rw [childL_succ, hrk, if_pos hup, ← List.append_assoc]
        exact M9'
      · refine arI (by have := hr.le; omega) ?_
        refine next (k + 1) ⟨by rw [Int.natCast_add]; rfl, trivial⟩ ⟨by omega, k8', ?_⟩ (by omega)
        rw [childL_succ, hrk, if_neg hup, List.append_nil]
        exact M8'
    have hk1 : k = d.reaches.length := by omega
    rw [hk1] at M6'
    clear hge hk
    refine fldA ?_
    refine ld (.slice A2 n2 c2) (E6'.dd.cell rfl) ?_
    refine len ?_
    -- the farms
    refine loop_rule (fun k : Nat => [(84, iv (k : Int))]) (fun k u' => k ≤ n2 ∧ Kept (fun b => Dl b ∨ b = p) u3 u' ∧ MovS (fun b => Dl b ∨ b = p) w u' q (prefL d x hour i ++ lossL d x hour i ++ childL d x hour i d.reaches.length ++ farmL d x hour i k)) (fun k _ => n2 - k) 0 ⟨rfl, trivial⟩ ⟨by omega, k6, by
      rw [show farmL d x hour i 0 = [] from rfl, List.append_nil]; exact M6'⟩ rfl ?_
    clear F6 E6' M6'
    rintro G k u6 ⟨hk, k6, M6'⟩
    have E6' := keyE u6 (kLow u6 (kAll u6 k6))
    have F6 := keyF u6 (kLow u6 (kAll u6 k6))
    refine cD (fun hlt => ?_) (fun hge => ?_)
    · have hlt : k < n2 := by omega
      obtain ⟨b, o, cs, r, rfl, hrx, -, -, hc, rfl⟩ := (hfa.kept (keyK u6 (kLow u6 (kAll u6 k6))) fun b _ hb => hb).at_ hlt
      refine idx k rfl hlt ?_
      refine ldA r.c hc rfl ?_
      refine alloc (fun t u7 g7 => ?_)
      refine stA (vs := r.c) g7.blk rfl (Nat.le_of_ble_eq_true rfl) (by simp [Value.oneCell']) (fun u8 tb8 s8 zu8 => ?_)
      have t1 := g7.at_
      have x68 : Ext u6 u8 := g7.ext.then s8 fun b hb _ e => by omega
      have M8' := M6'.ext x68
      have k8' : Kept (fun b => Dl b ∨ b = p) u3 u8 := k6.ext x68
      have hrk := frm_eq hrx
      refine fldA ?_
      refine ld (iv r.reach) (tb8.cell rfl) ?_
      refine cE (fun hup => ?_) (fun hup => ?_)
      · obtain ⟨f3, p3', R3', s3', u3', rfl, cc3', r3', -⟩ := row_at (i6.kept (keyK u8 (kLow u8 (kAll u8 k8'))) fun b _ hb => hb) (i := k) (by omega)
        have n3k := numB_iff.1 (tab_row hf.taken (i := k) (by omega)).2
        have q3k := r3'.len
        obtain ⟨v3a, v3b, rfl, v3'⟩ := num_at r3' (k := hour) (by omega)
        have E8 := keyE u8 (kLow u8 (kAll u8 k8'))
        refine drawP (.take 0 (.take 1 (.take 2 (.take 3 (.take 4 (.take 5 (.take 6 (.take 7 (.take 8 (.take 9 (.take 10 (.bar (.eff 11 .done))))))))))))) [11] (fun u => u = u8) mx (by kernel_rfl) rfl ?_
        refine ld _ ((keyF u8 (kLow u8 (kAll u8 k8'))).cell rfl) ?_
        refine fldA ?_
        refine ld _ (E8.xx.cell rfl) ?_
        refine idx k rfl (by omega) ?_
        refine ld _ cc3' ?_
        refine ld _ (E8.hh.cell rfl) ?_
        refine idx hour rfl (by omega) ?_
        refine ld _ v3' ?_
        refine barS (fun _ => True) trivial ?_
        have pk := pf0 (k := k)
        have pk0 := pc0 (k := d.reaches.length)
        refine call_of (c_put M8' (hDp u8 k8'.size) hqp (by omega) (by simp [lossL]; omega)) ?_
        rintro _ u9 ⟨rfl, M9', k89'⟩
        refine strS trivial ?_
        refine arI (by have := hfa.le; omega) ?_
        refine next (k + 1) ⟨by rw [Int.natCast_add]; rfl, trivial⟩ ⟨by omega, k8'.trans k89', ?_⟩ (by omega)
        rw [farmL_succ, hrk, if_pos hup, ← List.append_assoc]
        exact M9'
      · refine arI (by have := hfa.le; omega) ?_
        refine next (k + 1) ⟨by rw [Int.natCast_add]; rfl, trivial⟩ ⟨by omega, k8', ?_⟩ (by omega)
        rw [farmL_succ, hrk, if_neg hup, List.append_nil]
        exact M8'
    have hk2 : k = d.farms.length := by omega
    rw [hk2] at M6'
    clear hge hk
    -- the tail
    obtain ⟨f3, p3', R3', s3', u3', rfl, cc3', r3', -⟩ := row_at (i7.kept (keyK u6 (kLow u6 (kAll u6 k6))) fun b _ hb => hb) (i := i) (by omega)
    have n3k := numB_iff.1 (tab_row hf.tail hi).2
    have q3k := r3'.len
    obtain ⟨v3a, v3b, rfl, v3'⟩ := num_at r3' (k := hour) (by omega)
    refine drawP (.take 0 (.take 1 (.take 2 (.take 3 (.take 4 (.take 5 (.take 6 (.take 7 (.take 8 (.take 9 (.take 10 (.bar (.eff 11 .done))))))))))))) [11] (fun u => u = u6) mx (by kernel_rfl) rfl ?_
    refine ld _ (F6.cell rfl) ?_
    refine fldA ?_
    refine ld _ (E6'.xx.cell rfl) ?_
    refine idx i rfl (by omega) ?_
    refine ld _ cc3' ?_
    refine ld _ (E6'.hh.cell rfl) ?_
    refine idx hour rfl (by omega) ?_
    refine ld _ v3' ?_
    refine barS (fun _ => True) trivial ?_
    have pk := pf0 (k := d.farms.length)
    have pk0 := pc0 (k := d.reaches.length)
    refine call_of (c_put M6' (hDp u6 k6.size) hqp (by omega) (by simp [lossL]; omega)) ?_
    rintro _ u10 ⟨rfl, M10, k10⟩
    refine strS trivial ?_
    have k3x := k6.trans k10
    refine roundN' _ (lu3.kept k3x (.inl DlL)) (fun u11 s11 l11 => ?_)
    refine .inl ⟨rfl, (kAll u10 k3x).then s11 (fun b _ h => h.2), l11, ?_⟩
    have M10' : MovS Dl w u10 q (prefL d x hour (i + 1)) := by
      rw [prefL_succ]
      have := M10.sub (D2 := Dl) fun b hb => .inl hb
      have e : prefL d x hour i ++ endL d x hour i = prefL d x hour i ++ lossL d x hour i ++ childL d x hour i d.reaches.length ++ farmL d x hour i d.farms.length ++ [⟨(2, i), (6, i), g2 x.tail i hour⟩] := by
        unfold endL; simp only [List.append_assoc]
      rw [e]; exact this
    exact M10'.kept s11 (fun e => hDq (e ▸ DlL)) (fun g hg e => hg (e ▸ DlL)) (((M10'.ex.choose_spec.choose_spec.choose_spec).2.1).ext.then s11 fun b hb _ e => by omega)
  · rintro _ w30 (⟨k30, l30, m30⟩ | h)
    · subst hR
      refine range_end _ l30 (by simp) (fun w31 s31 => ?_)
      have hLi : w11.heap.size + 1 < w12.heap.size := hl12.lt
      have DlL : Dl (w11.heap.size + 1) := dlHi _ (by omega) hLi
      have m31 := m30.kept s31 (fun e => hDq (e ▸ DlL)) (fun g hg e => hg (e ▸ DlL)) (((m30.ex.choose_spec.choose_spec.choose_spec).2.1).ext.then s31 fun b hb _ e => by omega)
      obtain ⟨A, n, c, r1, r2, r3'⟩ := m31.ex
      refine ld (.slice A n c) (r1.cell rfl) ?_
      refine st1 r1 rfl (fun w32 q32 s32 => ?_)
      have k32 : Kept (fun b => Dl b ∧ b ≠ w11.heap.size + 1) w12 w32 := (k30.then s31 fun b _ h => h.2).then s32 fun b _ h e => hDq (e ▸ h.1)
      have hAq : ∀ g, A = some (ad g 0) → g ≠ q := fun g hg e => by
        subst e
        obtain ⟨rest, hb3, _⟩ := Own.blk (hg ▸ r2.own)
        have := (r1.uniq hb3).1
        exact absurd this (by decide)
      have r2' := r2.thenK s32 hAq (r2.ext.then s32 fun b hb _ e => by omega)
      have hD32 : w32.heap[w11.heap.size]? = some (.deferred (some [])) := (k32.blk _ (by omega) ⟨dlHi _ (by omega) (by omega), by omega⟩).trans hD12
      refine retM hD32 ?_
      have k33 := Kept.putObj w32 w11.heap.size (.deferred none)
      have hq11 : q ≠ w11.heap.size := by omega
      refine resL _ (holds_cell ((q32.kept k33 hq11).cell rfl)) ?_
      refine ⟨A, n, c, rfl, r2'.thenK k33 (fun g hg e => ?_) (r2'.ext.then k33 fun b hb _ e => by omega)⟩
      exact r3' g hg (e ▸ dlHi _ (by omega) (by omega))
    · exact h.elim
end
end Go.Proofs.YtffdjecdcbbfaaaGreat

/- Layer 23: what is right, plainly. -/
namespace Go.Proofs.YtffdjecdcbbfaaaGreat
open Go Go.RowKit

/-! ### sums of moves -/
def sumL (l : List Mv) : Int := (l.map (·.litres)).sum
theorem sumL_app (a b : List Mv) : sumL (a ++ b) = sumL a + sumL b := by unfold sumL; rw [List.map_append, List.sum_append]
theorem sumL_cons (m : Mv) (l : List Mv) : sumL (m :: l) = m.litres + sumL l := rfl
def outN (ms : List Mv) (key : Int × Int) : Int := sumL (ms.filter fun m => decide (m.frm = key))
def inN (ms : List Mv) (key : Int × Int) : Int := sumL (ms.filter fun m => decide (m.to = key))
theorem outN_app (a b : List Mv) (k : Int × Int) : outN (a ++ b) k = outN a k + outN b k := by unfold outN; rw [List.filter_append, sumL_app]
theorem inN_app (a b : List Mv) (k : Int × Int) : inN (a ++ b) k = inN a k + inN b k := by unfold inN; rw [List.filter_append, sumL_app]
theorem outN_one (m : Mv) (k : Int × Int) : outN [m] k = if m.frm = k then m.litres else 0 := by
  unfold outN
  by_cases h : m.frm = k
  · rw [List.filter_cons_of_pos (by simpa using h), if_pos h]; simp [sumL]
  · rw [List.filter_cons_of_neg (by simpa using h), if_neg h]; rfl
theorem inN_one (m : Mv) (k : Int × Int) : inN [m] k = if m.to = k then m.litres else 0 := by
  unfold inN
  by_cases h : m.to = k
  · rw [List.filter_cons_of_pos (by simpa using h), if_pos h]; simp [sumL]
  · rw [List.filter_cons_of_neg (by simpa using h), if_neg h]; rfl
def okM (ms : List Mv) : Prop := ∀ m ∈ ms, 0 ≤ m.litres ∧ m.litres ≤ 1073741824
theorem sumL_le : ∀ {ms : List Mv}, okM ms → 0 ≤ sumL ms ∧ sumL ms ≤ ms.length * 1073741824
  | [], _ => by simp [sumL]
  | m :: l, h => by
    have h1 := h m List.mem_cons_self
    have h2 := sumL_le (ms := l) fun x hx => h x (List.mem_cons_of_mem _ hx)
    rw [sumL_cons, List.length_cons]
    omega
theorem outN_le {ms : List Mv} (h : okM ms) (k : Int × Int) : 0 ≤ outN ms k ∧ outN ms k ≤ ms.length * 1073741824 := by
  have h1 := sumL_le (ms := ms.filter fun m => decide (m.frm = k)) fun m hm => h m (List.mem_filter.1 hm).1
  have h2 := List.length_filter_le (fun m => decide (m.frm = k)) ms
  unfold outN
  omega
theorem inN_le {ms : List Mv} (h : okM ms) (k : Int × Int) : 0 ≤ inN ms k ∧ inN ms k ≤ ms.length * 1073741824 := by
  have h1 := sumL_le (ms := ms.filter fun m => decide (m.to = k)) fun m hm => h m (List.mem_filter.1 hm).1
  have h2 := List.length_filter_le (fun m => decide (m.to = k)) ms
  unfold inN
  omega
theorem okM_app {a b : List Mv} : okM (a ++ b) ↔ okM a ∧ okM b := by unfold okM; simp only [List.mem_append]; exact ⟨fun h => ⟨fun m hm => h m (.inl hm), fun m hm => h m (.inr hm)⟩, fun h m hm => hm.elim (h.1 m) (h.2 m)⟩
theorem outN_all {l : List Mv} {k : Int × Int} (h : ∀ m ∈ l, m.frm = k) : outN l k = sumL l := by unfold outN; rw [List.filter_eq_self.2 fun m hm => by simpa using h m hm]
theorem outN_no {l : List Mv} {k : Int × Int} (h : ∀ m ∈ l, m.frm ≠ k) : outN l k = 0 := by unfold outN; rw [List.filter_eq_nil_iff.2 fun m hm => by simpa using h m hm]; rfl
theorem inN_no {l : List Mv} {k : Int × Int} (h : ∀ m ∈ l, m.to ≠ k) : inN l k = 0 := by unfold inN; rw [List.filter_eq_nil_iff.2 fun m hm => by simpa using h m hm]; rfl

/-! ### a formed run's numbers -/
section
variable {d : Dist} {x : Run} {H hour i k : Nat}
theorem reach_at (hi : i < d.reaches.length) : d.reaches[i]? = some (rch d i) := by
  have : d.reaches[i]? = some d.reaches[i] := List.getElem?_eq_getElem hi
  rw [rch_eq this, this]
theorem farm_at (hi : i < d.farms.length) : d.farms[i]? = some (frm d i) := by
  have : d.farms[i]? = some d.farms[i] := List.getElem?_eq_getElem hi
  rw [frm_eq this, this]
theorem Fm.ent_lt (hf : Fm d x H) (hi : i < d.reaches.length) (hh : hour < H) : ent d i hour < hour ∧ (ent d i hour).toNat < H := by
  obtain ⟨-, -, h1, h2⟩ := hf.at_ (reach_at hi)
  unfold ent
  omega
theorem Fm.parc (hf : Fm d x H) (hi : i < d.reaches.length) (hh : hour < H) : (0 ≤ (parc d x hour i).1 ∧ (parc d x hour i).1 ≤ 1073741824) ∧ (0 ≤ (parc d x hour i).2.1 ∧ (parc d x hour i).2.1 ≤ 1073741824) ∧ 0 ≤ (parc d x hour i).2.2 ∧ (parc d x hour i).2.2 ≤ 1073741824 := by
  obtain ⟨-, h2⟩ := hf.ent_lt hi hh
  unfold Proofs.YtffdjecdcbbfaaaGreat.parc
  split
  · exact ⟨tab_val hf.inn hi h2, tab_val hf.evap hi h2, tab_val hf.seep hi h2⟩
  · simp
theorem Fm.okChild (hf : Fm d x H) (hh : hour < H) (hk : k ≤ d.reaches.length) : okM (childL d x hour i k) := by
  intro m hm
  unfold childL at hm
  obtain ⟨j, hj, rfl⟩ := List.mem_map.1 hm
  have := (List.mem_filter.1 hj).1
  rw [List.mem_range] at this
  exact tab_val hf.inn (by omega) hh
theorem Fm.okFarm (hf : Fm d x H) (hh : hour < H) (hk : k ≤ d.farms.length) : okM (farmL d x hour i k) := by
  intro m hm
  unfold farmL at hm
  obtain ⟨j, hj, rfl⟩ := List.mem_map.1 hm
  have := (List.mem_filter.1 hj).1
  rw [List.mem_range] at this
  exact tab_val hf.taken (by omega) hh
theorem Fm.okEnd (hf : Fm d x H) (hh : hour < H) (hi : i < d.reaches.length) : okM (endL d x hour i) := by
  unfold endL
  have hp := hf.parc hi hh
  rw [okM_app, okM_app, okM_app]
  refine ⟨⟨⟨?_, hf.okChild hh (Nat.le_refl _)⟩, hf.okFarm hh (Nat.le_refl _)⟩, ?_⟩
  · intro m hm
    unfold lossL at hm
    simp only [List.mem_cons, List.not_mem_nil, or_false] at hm
    rcases hm with rfl | rfl
    · exact hp.2.1
    · exact hp.2.2
  · intro m hm
    simp only [List.mem_cons, List.not_mem_nil, or_false] at hm
    subst hm
    exact tab_val hf.tail hi hh
theorem Fm.okHead (hf : Fm d x H) (hh : hour < H) : okM (headL x hour) := by
  intro m hm
  unfold headL at hm
  simp only [List.mem_cons, List.not_mem_nil, or_false] at hm
  rcases hm with rfl | rfl | rfl
  · exact (num_val hf.inflow hh).2
  · exact (num_val hf.spill hh).2
  · exact tab_val hf.inn hf.nr hh
theorem Fm.okPref (hf : Fm d x H) (hh : hour < H) : ∀ k, k ≤ d.reaches.length → okM (prefL d x hour k)
  | 0, _ => by
    have : prefL d x hour 0 = headL x hour := by simp [prefL]
    rw [this]; exact hf.okHead hh
  | k + 1, hk => by rw [prefL_succ, okM_app]; exact ⟨hf.okPref hh k (by omega), hf.okEnd hh (by omega)⟩
theorem Fm.okMoves (hf : Fm d x H) (hh : hour < H) : okM (movesL d x hour) := hf.okPref hh _ (Nat.le_refl _)
theorem endL_frm : ∀ m ∈ endL d x hour i, m.frm = (2, (i : Int)) := by
  intro m hm
  unfold endL lossL childL farmL at hm
  simp only [List.mem_append, List.mem_cons, List.not_mem_nil, or_false, List.mem_map] at hm
  rcases hm with (((rfl | rfl) | ⟨j, _, rfl⟩) | ⟨j, _, rfl⟩) | rfl <;> rfl
def leftN (d : Dist) (x : Run) (i hour : Nat) : Int := sumL (childL d x hour i d.reaches.length) + sumL (farmL d x hour i d.farms.length) + g2 x.tail i hour
theorem sum_end : sumL (endL d x hour i) = (parc d x hour i).2.1 + (parc d x hour i).2.2 + leftN d x i hour := by
  unfold endL leftN lossL
  rw [sumL_app, sumL_app, sumL_app]
  simp only [sumL, List.map_cons, List.map_nil, List.sum_cons, List.sum_nil]
  omega
theorem out_pref : ∀ k, outN (prefL d x hour k) (2, (i : Int)) = if i < k then sumL (endL d x hour i) else 0
  | 0 => by
    have : prefL d x hour 0 = headL x hour := by simp [prefL]
    rw [this, if_neg (by omega)]
    exact outN_no (by intro m hm; unfold headL at hm; simp only [List.mem_cons, List.not_mem_nil, or_false] at hm; rcases hm with rfl | rfl | rfl <;> simp)
  | k + 1 => by
    rw [prefL_succ, outN_app, out_pref k]
    by_cases h : i = k
    · subst h
      rw [if_neg (by omega), if_pos (by omega), outN_all endL_frm]; omega
    · have h2 : outN (endL d x hour k) (2, (i : Int)) = 0 := outN_no fun m hm e => by
        rw [endL_frm m hm] at e
        simp only [Prod.mk.injEq, true_and] at e
        omega
      rw [h2]
      by_cases h3 : i < k
      · rw [if_pos h3, if_pos (by omega)]; omega
      · rw [if_neg h3, if_neg (by omega)]; omega
theorem out_moves (hi : i < d.reaches.length) : outN (movesL d x hour) (2, (i : Int)) = (parc d x hour i).2.1 + (parc d x hour i).2.2 + leftN d x i hour := by
  unfold movesL; rw [out_pref, if_pos hi, sum_end]

/-! ### right -/
def formB (d : Dist) (x : Run) : Bool := numB d.hours x.inflow && (numB d.hours x.spill && (tabB d.farms.length d.hours x.taken && (tabB d.reaches.length d.hours x.inn && (tabB d.reaches.length d.hours x.evap && (tabB d.reaches.length d.hours x.seep && tabB d.reaches.length d.hours x.tail)))))
def storeN (d : Dist) (x : Run) : Nat → Int
  | 0 => d.start
  | k + 1 => storeN d x k + g1 x.inflow k - g1 x.spill k - g2 x.inn 0 k
def balI (d : Dist) (x : Run) (i hour : Nat) : Bool := decide ((parc d x hour i).1 - (parc d x hour i).2.1 - (parc d x hour i).2.2 = leftN d x i hour)
structure RightP (d : Dist) (x : Run) (H : Nat) : Prop where
  adm : ∀ i k, i < d.reaches.length → k < H → admB (rch d i) (g2 x.inn i k) (g2 x.evap i k) (g2 x.seep i k) = true
  bal : ∀ i k, i < d.reaches.length → k < H → balI d x i k = true
  sto : ∀ k, k < H → 0 ≤ storeN d x (k + 1) ∧ storeN d x (k + 1) ≤ d.cap
def rightB (d : Dist) (x : Run) : Bool := formB d x &&
  (((List.range d.reaches.length).all fun i => (List.range d.hours.toNat).all fun k => admB (rch d i) (g2 x.inn i k) (g2 x.evap i k) (g2 x.seep i k)) &&
  (((List.range d.reaches.length).all fun i => (List.range d.hours.toNat).all fun k => balI d x i k) && ((List.range d.hours.toNat).all fun k => inI (storeN d x (k + 1)) 0 d.cap)))
theorem formB_iff : formB d x = true ↔ numB d.hours x.inflow = true ∧ numB d.hours x.spill = true ∧ tabB d.farms.length d.hours x.taken = true ∧ tabB d.reaches.length d.hours x.inn = true ∧ tabB d.reaches.length d.hours x.evap = true ∧ tabB d.reaches.length d.hours x.seep = true ∧ tabB d.reaches.length d.hours x.tail = true := by
  unfold formB; simp only [Bool.and_eq_true]
theorem rightB_iff : rightB d x = true ↔ formB d x = true ∧ RightP d x d.hours.toNat := by
  unfold rightB
  simp only [Bool.and_eq_true, List.all_eq_true, List.mem_range, inI_iff]
  exact ⟨fun ⟨h1, h2, h3, h4⟩ => ⟨h1, ⟨fun i k hi hk => h2 i hi k hk, fun i k hi hk => h3 i hi k hk, h4⟩⟩, fun ⟨h1, h2⟩ => ⟨h1, fun i hi k hk => h2.adm i k hi hk, fun i hi k hk => h2.bal i k hi hk, h2.sto⟩⟩
theorem Fm.of (hv : validB d = true) (ht : tooMany d = false) (hf : formB d x = true) : Fm d x d.hours.toNat := by
  obtain ⟨hH, hR, -, hF, -⟩ := validB_iff.1 hv
  obtain ⟨h1, -, -, h4⟩ := headOk_iff.1 hH
  have hh : ((d.hours.toNat : Nat) : Int) = d.hours := by omega
  have t : d.reaches.length ≤ 64 ∧ d.farms.length ≤ 600 := by unfold tooMany at ht; simp at ht; omega
  obtain ⟨f1, f2, f3, f4, f5, f6, f7⟩ := formB_iff.1 hf
  exact ⟨hh.symm, by omega, by omega, h4, t.1, t.2, hR, hF, by rw [hh]; exact f1, by rw [hh]; exact f2, by rw [hh]; exact f3, by rw [hh]; exact f4, by rw [hh]; exact f5, by rw [hh]; exact f6, by rw [hh]; exact f7⟩
end
end Go.Proofs.YtffdjecdcbbfaaaGreat

/- Layer 23: contract of right. -/
namespace Go.Proofs.YtffdjecdcbbfaaaGreat
open Go Go.RowKit

def tMv : Ty Mv := tFl 5 Mv.c fun _ => rfl
theorem flat_mvs {D : Nat → Prop} {w : World} : ∀ {l : List Mv}, FlatR tMv D w l (mvs l)
  | [] => rfl
  | m :: l => ⟨m.c, mvs l, rfl, rfl, flat_mvs⟩
theorem OwnF.mvs {w0 w : World} {A : Option Addr} {n c : Nat} {e : TypeId} {l : List Mv} (h : OwnF w0 w A n c e 5 (mvs l)) (hle : n ≤ 140737488355328) : SlR tMv AnyB w A n l :=
  h.own.rd flat_mvs (by have := h.own.len; rw [mvs_len] at this; omega) hle (fun _ _ => trivial)
theorem key2 : Key2 Tryz.prog 181 3 := ⟨by kernel_rfl, by kernel_rfl, by kernel_rfl, by kernel_rfl, fun _ _ _ _ => by kernel_rfl⟩
instance keyInt2 : KeyL Tryz.prog 181 kv2 := key2.law
abbrev tLL : Ty (List (List Int)) := tSl tInts
/-- A list of lists written out. -/
theorem NewB.two {D : Nat → Prop} {w w' : World} {e : TypeId} {g n1 c1 n2 c2 : Nat} {A1 A2 : Option Addr} {l1 l2 : List Int} (hb : NewB w e [.slice A1 n1 c1, .slice A2 n2 c2] g w') (h1 : SlR tInt D w A1 n1 l1) (h2 : SlR tInt D w A2 n2 l2) (e1 : n1 ≤ c1) (e2 : n2 ≤ c2) : SlR tInts AnyB w' (some (ad g 0)) 2 [l1, l2] :=
  SlR.of_cells rfl (by omega) trivial (.blk hb.blk) ⟨[.slice A1 n1 c1], [.slice A2 n2 c2], rfl, ⟨A1, n1, c1, rfl, (h1.ext hb.ext).more (by decide) fun _ _ _ => trivial, e1⟩, [.slice A2 n2 c2], [], rfl, ⟨A2, n2, c2, rfl, (h2.ext hb.ext).more (by decide) fun _ _ _ => trivial, e2⟩, rfl⟩
theorem arE {n : Int} {K : Value → Prop} (m : Int) (e : n = m) (h : -9223372036854775808 ≤ m ∧ m ≤ 9223372036854775807) (k : K (.int .i64 m)) : ArP .i64 n K := by subst e; exact arI h k
theorem okM_take {l : List Mv} (h : okM l) (k : Nat) : okM (l.take k) := fun m hm => h m (List.mem_of_mem_take hm)
section
variable {D : Nat → Prop} {w : World}
set_option maxRecDepth 4000 in
theorem c_bright {csd csx : List Value} {d : Dist} {x : Run} (hd : DiR D w csd d) (hx : RuR D w csx x) (hv : validB d = true) (ht : tooMany d = false) : CallZ Tryz.prog 77 #[.agg csd.toArray, .agg csx.toArray] w
    (fun v w' => v = .bool (rightB d x) ∧ Ext w w') := by
  have hd := hd.more (D' := fun b => b < w.heap.size) fun b hb _ => hb
  have hx := hx.more (D' := fun b => b < w.heap.size) fun b hb _ => hb
  obtain ⟨A1, n1, c1, A2, n2, c2, A3, n3, c3, A4, n4, c4, A5, n5, c5, A6, n6, c6, rfl, hr, hfa, hcr, hri, hdu, hwe⟩ := hd.ex
  obtain ⟨B1, m1, e1, B2, m2, e2, B3, m3, e3, B4, m4, e4, B5, m5, e5, B6, m6, e6, B7, m7, e7, rfl, i1, i2, i3, i4, i5, i6, i7, i8, i9⟩ := hx.ex
  have ln := hr.len
  have lf := hfa.len
  have k1 := i1.len
  have k2 := i2.len
  have k3 := i3.len
  have k4 := i4.len
  have k5 := i5.len
  have k6 := i6.len
  have k7 := i7.len
  refine fn_rule (args := [.agg #[.string d.name, iv d.hours, iv d.cap, iv d.start, .slice A1 n1 c1, .slice A2 n2 c2, .slice A3 n3 c3, .slice A4 n4 c4, .slice A5 n5 c5, .slice A6 n6 c6], .agg #[.slice B1 m1 e1, .slice B2 m2 e2, .slice B3 m3 e3, .slice B4 m4 e4, .slice B5 m5 e5, .slice B6 m6 e6, .slice B7 m7 e7]]) Tryz.func77 (by kernel_rfl) ?_
  refine box (fun bd w1 h1 => ?_)
  refine box (fun bx w2 h2 => ?_)
  refine alloc (fun q w3 h3 => ?_)
  have a1 := h1.at_
  have a2 := h2.at_
  have a3 := h3.at_
  have z1 := h1.size
  have z2 := h2.size
  have z3 := h3.size
  have x3 : Ext w w3 := (h1.ext.trans h2.ext).trans h3.ext
  have B_d : Blk w3 bd _ _ := (h1.blk.ext h2.ext).ext h3.ext
  have B_x : Blk w3 bx _ _ := h2.blk.ext h3.ext
  have B_q : Blk w3 q _ _ := h3.blk
  have m0 : ∀ u, Marks w3.heap.size [] u := fun _ => trivial
  -- a return of false
  have no : ∀ {F : Fr} {ds : List Deferred} {u : World} {K : VK}, F 4 = ptr q → Ext w3 u → Marks w3.heap.size ds u → rightB d x = false →
      (∀ w', RetP Tryz.prog [.cell 4 4] F ds (fun v w' => v = .bool (rightB d x) ∧ Ext w w') w' → K undef w') → StoreP Tryz.prog 4 (.pointer (some (ad q 0))) (.bool false) K u := fun {F ds u K} hF xu hm hb hK => by
    refine st1 (B_q.ext xu) rfl (fun u' q' k' => hK _ ?_)
    refine retMs (lo := w3.heap.size) (hm.kept k' (fun b h1 _ _ e => by omega)) (fun u'' k'' => ?_)
    show ResLP _ _ (F 4) _ _
    rw [hF]
    refine resL _ (holds_cell ((q'.kept k'' (by omega)).cell rfl)) ?_
    exact ⟨by rw [hb]; rfl, ((x3.trans xu).then k' fun b hb _ e => by omega).then k'' fun b hb _ => by omega⟩
  have noF : formB d x = false → rightB d x = false := fun h => by unfold rightB; rw [h]; rfl
  have fiff := formB_iff (d := d) (x := x)
  have noF' : ¬ (formB d x = true) → rightB d x = false := fun h => noF (Bool.eq_false_iff.2 h)
  refine fldA ?_
  refine ld (.slice B6 m6 e6) (B_x.cell rfl) ?_
  refine len ?_
  refine fldA ?_
  refine ld (.slice A2 n2 c2) (B_d.cell rfl) ?_
  refine len ?_
  refine cN (fun hg1 => ?_) (fun hg1 => ?_)
  · exact no rfl (.refl _ _) (m0 _) (noF' fun h => by have := (tabB_iff.1 (fiff.1 h).2.2.1).1; omega) fun _ h => h
  refine fldA ?_
  refine ld (iv d.hours) (B_d.cell rfl) ?_
  refine fldA ?_
  refine ld (.slice B1 m1 e1) (B_x.cell rfl) ?_
  refine fldA ?_
  refine ld (.slice B2 m2 e2) (B_x.cell rfl) ?_
  refine lit [.slice B1 m1 e1, .slice B2 m2 e2] (fun g4 w4 h4 => ?_)
  refine callE (c_formed (h := d.hours) (h4.two (i1.ext x3) (i2.ext x3) i8 i9)) (fun w5 f1 x5 => ?_) (fun w5 f1 x5 => ?_)
  rotate_left
  · exact no rfl (h4.ext.trans x5) (m0 _) (noF' fun h => by have h := fiff.1 h; rw [List.all_cons, List.all_cons, h.1, h.2.1] at f1; exact Bool.noConfusion f1) fun _ h => h
  have x35 := h4.ext.trans x5
  refine fldA ?_
  refine ld (iv d.hours) ((B_d.ext x35).cell rfl) ?_
  refine fldA ?_
  refine ld (.slice B6 m6 e6) ((B_x.ext x35).cell rfl) ?_
  refine callE (c_formed (h := d.hours) (i6.ext (x3.trans x35))) (fun w6 f2 x6 => ?_) (fun w6 f2 x6 => ?_)
  rotate_left
  · exact no rfl (x35.trans x6) (m0 _) (noF' fun h => by have h := (tabB_iff.1 (fiff.1 h).2.2.1).2; rw [List.all_eq_true.2 h] at f2; exact Bool.noConfusion f2) fun _ h => h
  have x36 := x35.trans x6
  simp only [List.all_cons, List.all_nil, Bool.and_true, Bool.and_eq_true] at f1
  have fT : tabB d.farms.length d.hours x.taken = true := tabB_iff.2 ⟨by omega, List.all_eq_true.1 f2⟩
  refine fldA ?_
  refine ld (.slice B3 m3 e3) ((B_x.ext x36).cell rfl) ?_
  refine fldA ?_
  refine ld (.slice B4 m4 e4) ((B_x.ext x36).cell rfl) ?_
  refine fldA ?_
  refine ld (.slice B5 m5 e5) ((B_x.ext x36).cell rfl) ?_
  refine fldA ?_
  refine ld (.slice B7 m7 e7) ((B_x.ext x36).cell rfl) ?_
  refine lit [.slice B3 m3 e3, .slice B4 m4 e4, .slice B5 m5 e5, .slice B7 m7 e7] (fun g7 w7 h7 => ?_)
  refine len ?_
  have x37 := x36.trans h7.ext
  have T4 : ∀ k : Nat, k < 4 → ∃ A n c l, ([Value.slice B3 m3 e3, .slice B4 m4 e4, .slice B5 m5 e5, .slice B7 m7 e7] : List Value)[k]? = some (.slice A n c) ∧ [x.inn, x.evap, x.seep, x.tail][k]? = some l ∧ SlR tInts (fun b => b < w.heap.size) w A n l := fun k hk => by
    match k, hk with
    | 0, _ => exact ⟨B3, m3, e3, _, rfl, rfl, i3⟩
    | 1, _ => exact ⟨B4, m4, e4, _, rfl, rfl, i4⟩
    | 2, _ => exact ⟨B5, m5, e5, _, rfl, rfl, i5⟩
    | 3, _ => exact ⟨B7, m7, e7, _, rfl, rfl, i7⟩
  have t4iff : formB d x = true ↔ ([x.inn, x.evap, x.seep, x.tail].all (tabB d.reaches.length d.hours)) = true := by
    rw [fiff]
    simp only [List.all_cons, List.all_nil, Bool.and_true, Bool.and_eq_true]
    exact ⟨fun h => h.2.2.2, fun h => ⟨f1.1, f1.2, fT, h⟩⟩
  -- the four tables
  refine loop_rule (fun k : Nat => [(54, iv (k : Int))]) (fun k u => k ≤ 4 ∧ Ext w7 u ∧ ([x.inn, x.evap, x.seep, x.tail].all (tabB d.reaches.length d.hours)) = (([x.inn, x.evap, x.seep, x.tail].drop k).all (tabB d.reaches.length d.hours))) (fun k _ => 4 - k) 0 ⟨rfl, trivial⟩ ⟨by omega, .refl _ _, rfl⟩ rfl ?_
  rintro G k u ⟨hk, xu, he⟩
  refine cD (fun hlt => ?_) (fun hge => ?_)
  · have hlt : k < 4 := by omega
    obtain ⟨A, n, c, l, hc, hl, hs⟩ := T4 k hlt
    have hll := hs.len
    have hdr : [x.inn, x.evap, x.seep, x.tail].drop k = l :: [x.inn, x.evap, x.seep, x.tail].drop (k + 1) := by
      obtain ⟨h1, h2⟩ := List.getElem?_eq_some_iff.1 hl
      rw [List.drop_eq_getElem_cons h1, h2]
    have he := he.trans (show _ = (tabB d.reaches.length d.hours l && ([x.inn, x.evap, x.seep, x.tail].drop (k + 1)).all (tabB d.reaches.length d.hours)) from by rw [hdr, List.all_cons])
    have bad : ∀ {u'}, Ext w7 u' → tabB d.reaches.length d.hours l = false → rightB d x = false := fun _ h => noF' fun h' => by rw [t4iff, he, h] at h'; exact Bool.noConfusion h'
    refine idx k rfl (by omega) ?_
    refine ld (.slice A n c) ((h7.blk.ext xu).cell (by rw [Nat.zero_add, Nat.mul_one]; exact hc)) ?_
    refine len ?_
    refine fldA ?_
    refine ld (.slice A1 n1 c1) ((B_d.ext (x37.trans xu)).cell rfl) ?_
    refine len ?_
    refine cN (fun hg2 => ?_) (fun hg2 => ?_)
    · exact no rfl (x37.trans xu) (m0 _) (bad xu (Bool.eq_false_iff.2 fun h => by have := (tabB_iff.1 h).1; omega)) fun _ h => h
    refine fldA ?_
    refine ld (iv d.hours) ((B_d.ext (x37.trans xu)).cell rfl) ?_
    refine callE (c_formed (h := d.hours) (hs.ext (x3.trans (x37.trans xu)))) (fun u2 f3 x2 => ?_) (fun u2 f3 x2 => ?_)
    · refine arI (by omega) ?_
      refine next (k + 1) ⟨by rw [Int.natCast_add]; rfl, trivial⟩ ⟨by omega, xu.trans x2, ?_⟩ (by omega)
      rw [he, tabB_iff.2 ⟨by omega, List.all_eq_true.1 f3⟩]; rfl
    · exact no rfl ((x37.trans xu).trans x2) (m0 _) (bad (xu.trans x2) (Bool.eq_false_iff.2 fun h => by have := (tabB_iff.1 h).2; rw [List.all_eq_true.2 this] at f3; exact Bool.noConfusion f3)) fun _ h => h
  have hk4 : k = 4 := by omega
  subst hk4
  have hF : formB d x = true := t4iff.2 he
  have hf := Fm.of hv ht hF
  generalize hH : d.hours.toNat = H at hf
  have hHi := hf.hours
  have hH1 := hf.h1
  have hH2 := hf.h2
  have hnr := hf.nr
  have hnr' := hf.nr'
  have hnf := hf.nf
  have x38 := x37.trans xu
  clear he hge xu hk T4 t4iff
  have riff : rightB d x = true ↔ RightP d x H := by rw [rightB_iff, hH]; exact ⟨fun h => h.2, fun h => ⟨hF, h⟩⟩
  have noR : ¬ RightP d x H → rightB d x = false := fun h => Bool.eq_false_iff.2 fun e => h (riff.1 e)
  refine fldA ?_
  refine ld (.slice A1 n1 c1) ((B_d.ext x38).cell rfl) ?_
  refine len ?_
  -- what is lost
  refine loop_rule (fun i : Nat => [(75, iv (i : Int))]) (fun i v => i ≤ n1 ∧ Ext u v ∧ ∀ i' k, i' < i → k < H → admB (rch d i') (g2 x.inn i' k) (g2 x.evap i' k) (g2 x.seep i' k) = true) (fun i _ => n1 - i) 0 ⟨rfl, trivial⟩ ⟨by omega, .refl _ _, fun i' k h => absurd h (Nat.not_lt_zero _)⟩ rfl ?_
  rintro G2 i v ⟨hi, xv, hadm⟩
  refine cD (fun hlt => ?_) (fun hge => ?_)
  · have hlt : i < n1 := by omega
    have hin : i < d.reaches.length := by omega
    obtain ⟨b, o, cs, r, rfl, hrx, -, -, hc, rfl⟩ := (hr.ext (x3.trans (x38.trans xv))).at_ hlt
    have hrr := rch_eq hrx
    obtain ⟨-, hlo, -, -⟩ := hf.at_ hrx
    refine idx i rfl hlt ?_
    refine ldA r.c hc rfl ?_
    refine alloc (fun t v1 g1' => ?_)
    refine stA (vs := r.c) g1'.blk rfl (Nat.le_of_ble_eq_true rfl) (by simp [Value.oneCell']) (fun v2 tb s2 zv2 => ?_)
    have t1 := g1'.at_
    have xv2 : Ext v v2 := g1'.ext.then s2 fun b hb _ e => by omega
    have xa : Ext w3 v2 := x38.trans (xv.trans xv2)
    obtain ⟨f3, p3, R3, s3, u3, hA3, cc3, r3, -⟩ := row_at (i3.ext (x3.trans xa)) (i := i) (by have := (tabB_iff.1 hf.inn).1; omega)
    have q3 := r3.len
    have n3' := numB_iff.1 (tab_row hf.inn hin).2
    subst hA3
    refine fldA ?_
    refine ld _ ((B_x.ext xa).cell rfl) ?_
    refine idx i rfl (by have := (tabB_iff.1 hf.inn).1; omega) ?_
    refine ld _ cc3 ?_
    refine len ?_
    refine loop_rule (fun k : Nat => [(86, iv (k : Int))]) (fun k v' => k ≤ s3 ∧ Ext v2 v' ∧ ∀ k', k' < k → admB r (g2 x.inn i k') (g2 x.evap i k') (g2 x.seep i k') = true) (fun k _ => s3 - k) 0 ⟨rfl, trivial⟩ ⟨by omega, .refl _ _, fun k h => absurd h (Nat.not_lt_zero _)⟩ rfl ?_
    rintro G3 k v' ⟨hk, xv', hadm'⟩
    refine cD (fun hlt2 => ?_) (fun hge2 => ?_)
    · have hlt2 : k < s3 := by omega
      have hkH : k < H := by omega
      have xb := xa.trans xv'
      obtain ⟨va, vb, rfl, v3⟩ := num_at (r3.ext xv') (k := k) hlt2
      obtain ⟨f4, p4, R4, s4, u4, hA4, cc4, r4, -⟩ := row_at (i4.ext (x3.trans xb)) (i := i) (by have := (tabB_iff.1 hf.evap).1; omega)
      obtain ⟨f5, p5, R5, s5, u5, hA5, cc5, r5, -⟩ := row_at (i5.ext (x3.trans xb)) (i := i) (by have := (tabB_iff.1 hf.seep).1; omega)
      have q4 := r4.len
      have q5 := r5.len
      have n4' := numB_iff.1 (tab_row hf.evap hin).2
      have n5' := numB_iff.1 (tab_row hf.seep hin).2
      obtain ⟨wa, wb, rfl, v4⟩ := num_at r4 (k := k) (by omega)
      obtain ⟨ya, yb, rfl, v5⟩ := num_at r5 (k := k) (by omega)
      subst hA4
      subst hA5
      refine idx k rfl (by omega) ?_
      refine ld _ v3 ?_
      refine drawX [0, 1, 2, 3, 4, 5, 6, 7, 8, 9, 10, 11, 12, 13, 14, 15, 16, 17, 18, 19] [18] mx (by kernel_rfl) ?_
      refine ldAX r.c (.blk (tb.ext xv')) rfl (.refl _ _) ?_
      refine fldA ?_
      refine ldX _ ((B_x.ext xb).cell rfl) (.refl _ _) ?_
      refine idx i rfl (by have := (tabB_iff.1 hf.evap).1; omega) ?_
      refine ldX _ cc4 (.refl _ _) ?_
      refine idx k rfl (by omega) ?_
      refine ldX _ v4 (.refl _ _) ?_
      refine fldA ?_
      refine ldX _ ((B_x.ext xb).cell rfl) (.refl _ _) ?_
      refine idx i rfl (by have := (tabB_iff.1 hf.seep).1; omega) ?_
      refine ldX _ cc5 (.refl _ _) ?_
      refine idx k rfl (by omega) ?_
      refine ldX _ v5 (.refl _ _) ?_
      refine callE (c_adm (r := r) (v := g2 x.inn i k) (e := g2 x.evap i k) (s := g2 x.seep i k) hlo (tab_val hf.inn hin hkH) (tab_val hf.evap hin hkH) (tab_val hf.seep hin hkH)) (fun v9 ha x9 => ?_) (fun v9 ha x9 => ?_)
      · refine strS x9 ?_
        refine arI (by omega) ?_
        refine next (k + 1) ⟨by rw [Int.natCast_add]; rfl, trivial⟩ ⟨by omega, xv'.trans x9, fun k' hk' => ?_⟩ (by omega)
        by_cases e : k' = k
        · subst e; exact ha
        · exact hadm' k' (by omega)
      · refine strS x9 ?_
        exact no rfl (xb.trans x9) (m0 _) (noR fun h => by have := h.adm i k hin hkH; rw [hrr, ha] at this; exact Bool.noConfusion this) fun _ h => h
    · refine arI (by have := hr.le; omega) ?_
      refine next (i + 1) ⟨by rw [Int.natCast_add]; rfl, trivial⟩ ⟨by omega, xv.trans (xv2.trans xv'), fun i' k' hi' hk' => ?_⟩ (by omega)
      by_cases e : i' = i
      · subst e; rw [hrr]; exact hadm' k' (by omega)
      · exact hadm i' k' (by omega) hk'
  have hadmA : ∀ i k, i < d.reaches.length → k < H → admB (rch d i) (g2 x.inn i k) (g2 x.evap i k) (g2 x.seep i k) = true := fun i' k h1 h2 => hadm i' k (by omega) h2
  clear hadm hge hi
  have xv8 := x38.trans xv
  refine fldA ?_
  refine fldA ?_
  refine ld (iv d.start) ((B_d.ext xv8).cell rfl) ?_
  refine fldA ?_
  refine ld (iv d.hours) ((B_d.ext xv8).cell rfl) ?_
  rw [hHi]
  have hhd := headOk_iff.1 (validB_iff.1 hv).1
  refine loopD (fun (k : Nat) (s : Int) => [(118, iv (k : Int)), (11, iv s)]) (fun k s ds u => k ≤ H ∧ Ext v u ∧ s = storeN d x k ∧ Marks w3.heap.size ds u ∧ (0 ≤ s ∧ s ≤ d.cap) ∧ ∀ h, h < k → (0 ≤ storeN d x (h + 1) ∧ storeN d x (h + 1) ≤ d.cap) ∧ ∀ i, i < d.reaches.length → balI d x i h = true) (fun k _ _ => H - k) 0 d.start ⟨rfl, rfl, trivial⟩
    ⟨by omega, .refl _ _, rfl, trivial, by omega, fun h hh => absurd hh (Nat.not_lt_zero _)⟩ ?_
  rintro G4 k s ds u ⟨hk, xu, hs, hm, hsb, hall⟩
  refine cD (fun hlt => ?_) (fun hge => ?_)
  · have hkH : k < H := by omega
    have xa := xv8.trans xu
    have xw := x3.trans xa
    obtain ⟨fa, fb, rfl, v1⟩ := num_at (i1.ext xw) (k := k) (by have := (numB_iff.1 hf.inflow).1; omega)
    obtain ⟨ga, gb, rfl, v2⟩ := num_at (i2.ext xw) (k := k) (by have := (numB_iff.1 hf.spill).1; omega)
    obtain ⟨f3, p3, R3, s3, u3, hA3, cc3, r3, -⟩ := row_at (i3.ext xw) (i := 0) (by have := (tabB_iff.1 hf.inn).1; omega)
    have q3 := r3.len
    have n3' := numB_iff.1 (tab_row hf.inn hnr).2
    obtain ⟨ya, yb, rfl, v3⟩ := num_at r3 (k := k) (by omega)
    subst hA3
    have b1 := (num_val hf.inflow hkH).2
    have b2 := (num_val hf.spill hkH).2
    have b3 := tab_val hf.inn hnr hkH
    refine drawX [0, 1, 2, 3, 4, 5, 6, 7, 8, 9, 10, 11, 12, 13, 14, 15, 16, 17, 18, 19, 20, 21, 22] [18, 19] mx (by kernel_rfl) ?_
    refine fldA ?_
    refine ldX _ ((B_x.ext xa).cell rfl) (.refl _ _) ?_
    refine idx k rfl (by have := (numB_iff.1 hf.inflow).1; omega) ?_
    refine ldX _ v1 (.refl _ _) ?_
    refine fldA ?_
    refine ldX _ ((B_x.ext xa).cell rfl) (.refl _ _) ?_
    refine idx k rfl (by have := (numB_iff.1 hf.spill).1; omega) ?_
    refine ldX _ v2 (.refl _ _) ?_
    refine fldA ?_
    refine ldX _ ((B_x.ext xa).cell rfl) (.refl _ _) ?_
    refine idx 0 rfl (by have := (tabB_iff.1 hf.inn).1; omega) ?_
    refine ldX _ cc3 (.refl _ _) ?_
    refine idx k rfl (by omega) ?_
    refine ldX _ v3 (.refl _ _) ?_
    refine lit [iv (g1 x.spill k), iv (g2 x.inn 0 k)] (fun gl u1 hl1 => ?_)
    refine strS hl1.ext ?_
    have hsl : SlR tInt (fun _ => True) u1 (some (ad gl 0)) 2 [g1 x.spill k, g2 x.inn 0 k] := SlR.of_cells rfl (by omega) trivial (.blk hl1.blk) (flat_ints (xs := [g1 x.spill k, g2 x.inn 0 k]) fun y hy => by
      simp only [List.mem_cons, List.not_mem_nil, or_false] at hy
      unfold I64
      rcases hy with rfl | rfl <;> omega)
    refine call_of (c_total hsl (fun y hy => by
      simp only [List.mem_cons, List.not_mem_nil, or_false] at hy
      rcases hy with rfl | rfl
      · exact b2
      · exact b3) (by omega)) ?_
    rintro _ u1' ⟨rfl, hu1⟩
    rw [hu1]
    clear hu1 u1'
    refine strS hl1.ext ?_
    have hsum : [g1 x.spill k, g2 x.inn 0 k].sum = g1 x.spill k + g2 x.inn 0 k := by simp
    refine arE (g1 x.inflow k - (g1 x.spill k + g2 x.inn 0 k)) (by rw [hsum]) (by omega) ?_
    have hcap := hhd.2.2.1
    refine arE (storeN d x (k + 1)) (by rw [hs]; show _ = storeN d x k + g1 x.inflow k - g1 x.spill k - g2 x.inn 0 k; omega) (by
      show _ ≤ storeN d x k + g1 x.inflow k - g1 x.spill k - g2 x.inn 0 k ∧ storeN d x k + g1 x.inflow k - g1 x.spill k - g2 x.inn 0 k ≤ _
      omega) ?_
    have xb := xa.trans hl1.ext
    refine cD (fun g1' => ?_) (fun g1' => ?_)
    · exact no rfl xb (hm.ext hl1.ext) (noR fun h => by have := h.sto k hkH; omega) fun _ h => h
    refine fldA ?_
    refine fldA ?_
    refine ld (iv d.cap) ((B_d.ext xb).cell rfl) ?_
    refine cD (fun g2' => ?_) (fun g2' => ?_)
    · exact no rfl xb (hm.ext hl1.ext) (noR fun h => by have := h.sto k hkH; omega) fun _ h => h
    -- the map
    refine mmap (fun gm u2 hgm hu2 => ?_)
    have xm : Ext u1 u2 := by rw [hu2]; exact Kept.alloc _ _ _
    have M2 : MapG kv2 u2 gm (fun _ => none) := by rw [hu2, hgm]; exact MapG.new kv2 u1
    refine alloc (fun gv u3' h3' => ?_)
    refine st1 h3'.blk rfl (fun u4 V4 k4' => ?_)
    have y1 := h3'.at_
    have y2 := xm.size
    have y3 := h3'.size
    have y4 := k4'.size
    have x34 : Ext u2 u4 := h3'.ext.then k4' fun b hb _ e => by omega
    have M4 := M2.kept x34 trivial
    have xc := (xb.trans xm).trans x34
    have hgml : gm < u2.heap.size := M2.lt
    refine ldA _ (.blk (B_d.ext xc)) rfl ?_
    refine ldA _ (.blk (B_x.ext xc)) rfl ?_
    refine call_of (c_moves (hd.ext (x3.trans xc)) (hx.ext (x3.trans xc)) hf hkH) ?_
    rintro _ u5 ⟨Am, nm, cm, rfl, om⟩
    have x45 := om.ext
    have M5 := M4.kept x45 trivial
    have V5 := V4.ext x45
    have hml := om.own.len
    rw [mvs_len] at hml
    have hmb := prefL_len (d := d) (x := x) (hour := k) hnr' hnf d.reaches.length
    have hmb : (movesL d x k).length ≤ 42691 := Nat.le_trans hmb (by omega)
    have y34 := x34.size
    have y0 := xb.size
    have y45 := x45.size
    have hgm5 : gm ≠ gv := by omega
    have hgmq : q ≠ gm := by omega
    have sm : SlR tMv (fun b => b ≠ gm) u5 Am nm (movesL d x k) := om.own.rd flat_mvs (by omega) (by omega) (fun g hg e => by have := om.new g hg; omega)
    have okm := hf.okMoves hkH
    refine len ?_
    refine loop_rule (fun j : Nat => [(158, iv (j : Int))]) (fun j v' => j ≤ nm ∧ Kept (fun b => b ≠ gm) u5 v' ∧ ∃ f, MapG kv2 v' gm f ∧ ∀ key, (f key).getD (iv 0) = iv (outN ((movesL d x k).take j) key)) (fun j _ => nm - j) 0 ⟨rfl, trivial⟩ ⟨by omega, .refl _ _, _, M5, fun key => rfl⟩ rfl ?_
    rintro G5 j v' ⟨hj, kv', f, Mf, hfv⟩
    refine cD (fun hltj => ?_) (fun hgej => ?_)
    · have hltj : j < nm := by omega
      obtain ⟨b, o, cs, m, rfl, hmj, -, -, hc', rfl⟩ := (sm.kept kv' fun b _ hb => hb).at_ hltj
      have hml2 := okm m (List.mem_of_getElem? hmj)
      refine idx j rfl hltj ?_
      refine ldA m.c hc' rfl ?_
      refine alloc (fun t v1' h1'' => ?_)
      refine stA (vs := m.c) h1''.blk rfl (Nat.le_of_ble_eq_true rfl) (by simp [Value.oneCell']) (fun v2' tb s2 zs => ?_)
      have t1 := h1''.at_
      have hgml2 := Mf.lt
      have xv2 : Ext v' v2' := h1''.ext.then s2 fun b hb _ e => by omega
      have htg : t ≠ gm := by omega
      have kv2' := kv'.ext xv2
      have Vv := V5.kept kv2' (Ne.symm hgm5)
      have Mf2 := Mf.kept xv2 trivial
      have hold := outN_le (okM_take okm j) m.frm
      have hlt' : ((movesL d x k).take j).length ≤ 42691 := Nat.le_trans (List.length_take_le _ _) (by omega)
      refine drawP (.take 0 (.take 1 (.take 2 (.take 3 (.take 4 (.take 5 (.take 6 (.eff 7 (.take 8 (.bar (.eff 9 .done))))))))))) [9] (fun y => Kept (fun b => b ≠ gm) v2' y ∧ ∃ f', MapG kv2 y gm f' ∧ (f' m.frm).getD (iv 0) = iv (outN ((movesL d x k).take j) m.frm)) mx (by kernel_rfl) ⟨.refl _ _, f, Mf2, hfv _⟩ ?_
      refine ldS (.map (some gm)) (fun y hy => hy.1.cell (Vv.cell rfl) (Ne.symm hgm5)) ?_
      refine fldA ?_
      refine ldAS [iv m.frm.1, iv m.frm.2] (fun y hy => ((CellsAt.blk tb).mid 0 2).kept hy.1 htg) rfl ?_
      refine lookG1 (kv := kv2) m.frm (iv (outN ((movesL d x k).take j) m.frm)) (fun y hy => hy.2) ?_
      refine fldA ?_
      refine ldS (iv m.litres) (fun y hy => hy.1.cell (tb.cell rfl) htg) ?_
      refine arI (by omega) ?_
      refine mentG (kv := kv2) m.frm Mf2 (fun y s' MS ks zs' => ?_)
      refine strS ⟨ks, _, MS.g, ?_⟩ ?_
      · unfold pset; rw [if_pos rfl]; exact hfv _
      refine barS (fun _ => True) trivial ?_
      refine estoG MS (fun y2 M' ks2 zs2 => ?_)
      refine strS trivial ?_
      refine arI (by omega) ?_
      refine next (j + 1) ⟨by rw [Int.natCast_add]; rfl, trivial⟩ ⟨by omega, (kv2'.trans ks).trans ks2, _, M', fun key => ?_⟩ (by omega)
      have htk : (movesL d x k).take (j + 1) = (movesL d x k).take j ++ [m] := by rw [List.take_add_one, hmj]; rfl
      rw [htk, outN_app, outN_one]
      unfold pset
      by_cases hkey : key = m.frm
      · subst hkey; rw [if_pos rfl, if_pos rfl]; rfl
      · rw [if_neg hkey, if_neg hkey, if_neg (fun e => hkey e.symm), hfv, Int.add_zero]
    have hjn : j = (movesL d x k).length := by omega
    rw [hjn, List.take_length] at hfv
    clear hgej
    have xd : Ext w3 v' := (xc.trans x45).then kv' fun b hb _ e => by omega
    have Vv := V5.kept kv' (Ne.symm hgm5)
    refine ldA _ (.blk (B_d.ext xd)) rfl ?_
    refine ldA _ (.blk (B_x.ext xd)) rfl ?_
    refine call_of (c_arriving (hour := k) (hd.ext (x3.trans xd)) (hx.ext (x3.trans xd))) ?_
    rintro _ w11 ⟨bd', bh', bx', rfl, x11, E11, y11, y12, y13, y14, y15, y16⟩
    have hvs := xd.size
    have hv11 := x11.size
    have hgv11 := Vv.lt
    refine range (gf := 133) (lb := #[ptr bd', ptr bh', ptr bx']) rfl (fun fn tmps w12 R hR hF' hwf x12 z12 hD12 hl12 => ?_)
    show CallZ _ _ #[.func (.yield (w11.heap.size + 1)) #[] #[], ptr bd', ptr bh', ptr bx'] w12 _
    have x1112 := x11.trans x12
    have V12 := Vv.ext x1112
    have M12 := Mf.kept x1112 trivial
    have hgm12 := Mf.lt
    refine (c_arr1 (D := fun b => b < w.heap.size) (csd := _) (csx := _) (H := H) (fun i y => Kept (fun b => b ≠ w11.heap.size + 1) w12 y ∧ LoopAt y (w11.heap.size + 1) R ∧ ∀ i', i' < i → balI d x i' k = true)
      (fun y => ∃ r, LoopAt y (w11.heap.size + 1) r ∧ r.state ≠ .busy ∧ r.pending = some .ret ∧ Kept (fun b => b ≠ w11.heap.size + 1 ∧ b ≠ q) w12 y ∧ Blk y q 4 [.bool false] ∧ rightB d x = false)
      (fun i y hj => (E11.ext x12).kept hj.1 (by omega) (by omega) (by omega) fun b _ hb => by omega)
      (fun i y y' hj xx => ⟨hj.1.ext xx, hj.2.1.kept xx trivial, hj.2.2⟩) hf hkH ?_ ⟨.refl _ _, hl12, fun i' h => absurd h (Nat.not_lt_zero _)⟩).mono ?_
    · rintro i y hi ⟨ky, ly, hbal⟩
      have hys := ky.size
      subst hR
      refine yield_rule (args := [iv (i : Int), pv (parc d x k i)]) ly rfl rfl hF' hwf ?_
      refine alloc (fun p y1' g1' => ?_)
      refine stA (vs := [iv (parc d x k i).1, iv (parc d x k i).2.1, iv (parc d x k i).2.2]) g1'.blk rfl (Nat.le_of_ble_eq_true rfl) (by simp [Value.oneCell']) (fun y2' pb2 s2 zu2 => ?_)
      have p1 := g1'.at_
      have xy2 : Ext y y2' := g1'.ext.then s2 fun b hb _ e => by omega
      refine mid' (ly.kept xy2 trivial) (fun y3' s3' zs3 ly3 => ?_)
      have ky3 : Kept (fun b => b ≠ w11.heap.size + 1) w12 y3' := (ky.ext xy2).then s3' fun b _ h => h
      have hpL : p ≠ w11.heap.size + 1 := by omega
      have pb3 := pb2.kept s3' hpL
      have V3 := V12.kept ky3 (by omega)
      have Mf3 := M12.kept ky3 (by omega)
      refine drawQ mx (by kernel_rfl) ?_
      refine ld _ (V3.cell rfl) ?_
      refine bld [iv 2, iv (i : Int)] (by kernel_rfl) ?_
      refine lookG1 (kv := kv2) (2, (i : Int)) (iv (outN (movesL d x k) (2, (i : Int)))) (fun y hy => ⟨f, by rw [hy]; exact Mf3, hfv _⟩) ?_
      refine fldA ?_
      refine ld (iv (parc d x k i).1) (pb3.cell rfl) ?_
      have hout := out_moves (d := d) (x := x) (hour := k) hi
      refine cN (fun hne => ?_) (fun heq => ?_)
      · have hbf : rightB d x = false := noR fun h => by
          have := h.bal i k hi hkH
          unfold balI at this
          rw [decide_eq_true_eq] at this
          omega
        refine st1 ((B_q.ext (xd.trans x1112)).kept ky3 (by omega)) rfl (fun y4' q4 s4 => ?_)
        refine roundR' _ (ly3.kept s4 (by omega)) (fun y5' s5 l5 => ?_)
        refine .inr ⟨rfl, _, l5, by simp, rfl, ?_, q4.kept s5 (by omega), hbf⟩
        exact ((ky3.weak fun b _ h => h.1).trans (s4.weak fun b _ h => h.2)).trans (s5.weak fun b _ h => h.1)
      · refine roundN' _ ly3 (fun y4' s4 l4 => ?_)
        refine .inl ⟨rfl, ky3.then s4 (fun b _ h => h), l4, fun i' hi' => ?_⟩
        by_cases e : i' = i
        · subst e; unfold balI; rw [decide_eq_true_eq]; omega
        · exact hbal i' (by omega)
    · rintro _ y (⟨ky, ly, hbal⟩ | ⟨r, ly, hr1, hr2, ky, qy, hbf⟩)
      · subst hR
        refine range_end _ ly (by simp) (fun y1' s1' => ?_)
        have ky1 : Kept (fun b => b ≠ w11.heap.size + 1) w12 y1' := ky.then s1' fun b _ h => h
        have xn : Ext u y1' := ((((hl1.ext.trans xm).trans x34).trans x45).then kv' fun b hb _ e => by have := hl1.size; omega).trans (x1112.then ky1 fun b hb _ e => by omega)
        have hD1 : y1'.heap[w11.heap.size]? = some (.deferred (some [])) := (ky1.blk _ (by omega) (by omega)).trans hD12
        refine arI (by omega) ?_
        have hxs : u.heap.size ≤ w11.heap.size := by have := xm.size; have := hl1.size; have := x45.size; have := kv'.size; omega
        refine nextD (k + 1) (storeN d x (k + 1)) ⟨by rw [Int.natCast_add]; rfl, rfl, trivial⟩ ⟨by omega, xu.trans xn, rfl, hm.add xn hxs (by omega) hD1, by omega, fun h hh => ?_⟩ (by omega)
        by_cases e : h = k
        · subst e; exact ⟨by omega, hbal⟩
        · exact hall h (by omega)
      · refine range_end r ly hr1 (fun y1' s1' => ?_)
        rw [hr2]
        have ky1 : Kept (fun b => b ≠ w11.heap.size + 1 ∧ b ≠ q) w12 y1' := ky.then s1' fun b _ h => h.1
        have hD1 : y1'.heap[w11.heap.size]? = some (.deferred (some [])) := (ky1.blk _ (by omega) ⟨by omega, by omega⟩).trans hD12
        have hxs : u.heap.size ≤ w11.heap.size := by have := xm.size; have := hl1.size; have := x45.size; have := kv'.size; omega
        have xn0 : Ext u w12 := ((((hl1.ext.trans xm).trans x34).trans x45).then kv' fun b hb _ e => by have := hl1.size; omega).trans x1112
        have m12 := hm.add (b := w11.heap.size) xn0 hxs (by omega) hD12
        have m13 := m12.kept ky1 (fun b hb hbl hob => ⟨(fun e => by subst e; rw [hl12] at hob; cases hob), by omega⟩)
        refine retMs m13 (fun y2' k2' => ?_)
        refine resL _ (holds_cell (((qy.kept s1' (by omega)).kept k2' (by omega)).cell rfl)) ?_
        refine ⟨by rw [hbf]; rfl, ?_⟩
        exact (((x3.trans (xd.trans x1112)).then ky1 fun b hb _ => ⟨by omega, by omega⟩).then k2' fun b hb _ => by omega)
  · refine st1 (B_q.ext (xv8.trans xu)) rfl (fun u' q' k' => ?_)
    refine retMs (lo := w3.heap.size) (hm.kept k' (fun b h1 _ _ e => by omega)) (fun u'' k'' => ?_)
    refine resL _ (holds_cell ((q'.kept k'' (by omega)).cell rfl)) ?_
    have hkH : k = H := by omega
    subst hkH
    refine ⟨by rw [riff.2 ⟨hadmA, fun i h h1 h2 => (hall h h2).2 i h1, fun h h1 => (hall h h1).1⟩]; rfl, ?_⟩
    exact (((x3.trans (xv8.trans xu)).then k' fun b hb _ e => by omega).then k'' fun b hb _ => by omega)
end
end Go.Proofs.YtffdjecdcbbfaaaGreat

/- Layer 23: contracts of Check and Store. -/
namespace Go.Proofs.YtffdjecdcbbfaaaGreat
open Go Go.RowKit

def wide (d : Dist) : Bool := decide ((d.reaches.length : Int) * d.hours > 1024) || decide ((d.farms.length : Int) * d.hours > 4096)
def bErr (d : Dist) (x : Run) : Int := if dErr d ≠ 0 then dErr d else if wide d then 2 else if rightB d x then 0 else 230
theorem dErr_ok {d : Dist} : dErr d = 0 ↔ tooMany d = false ∧ validB d = true := by unfold dErr; cases tooMany d <;> cases validB d <;> simp
theorem bErr_ok {d : Dist} {x : Run} : bErr d x = 0 ↔ (tooMany d = false ∧ validB d = true) ∧ wide d = false ∧ rightB d x = true := by
  rw [← dErr_ok]; unfold bErr
  by_cases h : dErr d = 0
  · rw [if_neg (by simpa using h)]; cases wide d <;> cases rightB d x <;> simp [h]
  · rw [if_pos h]; simp [h]
theorem valid_bounds {d : Dist} (ht : tooMany d = false) (hv : validB d = true) : (d.reaches.length ≤ 64 ∧ d.farms.length ≤ 600) ∧ 1 ≤ d.hours ∧ d.hours ≤ 4096 := by
  have h1 := (headOk_iff.1 (validB_iff.1 hv).1).1
  unfold tooMany at ht; simp at ht; omega
/-- What a right run of a valid district gives. -/
theorem bErr_fm {d : Dist} {x : Run} (h : bErr d x = 0) : Fm d x d.hours.toNat ∧ RightP d x d.hours.toNat := by
  obtain ⟨⟨h1, h2⟩, -, h4⟩ := bErr_ok.1 h
  obtain ⟨h5, h6⟩ := rightB_iff.1 h4
  exact ⟨Fm.of h2 h1 h5, h6⟩
def storeV (d : Dist) (x : Run) (hour : Int) : Int × Int := if bErr d x ≠ 0 then (0, bErr d x) else if hour < 0 ∨ hour > d.hours then (0, 1) else (storeN d x hour.toNat, 0)
theorem sum_take {l : List Int} {k : Nat} (h : k < l.length) : (l.take (k + 1)).sum = (l.take k).sum + g1 l k := by
  have : l[k]? = some l[k] := List.getElem?_eq_getElem h
  have e : g1 l k = l[k] := by unfold g1; rw [List.getD_eq_getElem?_getD, this]; rfl
  rw [List.take_add_one, this, List.sum_append, e]; simp
theorem store_sums {d : Dist} {x : Run} {H : Nat} (hf : Fm d x H) : ∀ k, k ≤ H → storeN d x k = d.start + (x.inflow.take k).sum - (x.spill.take k).sum - ((x.inn.getD 0 []).take k).sum
  | 0, _ => by simp [storeN]
  | k + 1, hk => by
    have h1 := (numB_iff.1 hf.inflow).1
    have h2 := (numB_iff.1 hf.spill).1
    have h3 := (numB_iff.1 (tab_row hf.inn hf.nr).2).1
    rw [sum_take (by omega), sum_take (by omega), sum_take (by omega)]
    show storeN d x k + g1 x.inflow k - g1 x.spill k - g2 x.inn 0 k = _
    rw [store_sums hf k (by omega)]
    unfold g2
    omega
theorem sum_bound : ∀ {l : List Int}, (∀ x ∈ l, 0 ≤ x ∧ x ≤ 1073741824) → 0 ≤ l.sum ∧ l.sum ≤ l.length * 1073741824
  | [], _ => by simp
  | x :: l, h => by
    have h1 := h x List.mem_cons_self
    have h2 := sum_bound (l := l) fun y hy => h y (List.mem_cons_of_mem _ hy)
    rw [List.sum_cons, List.length_cons]; omega
section
variable {D : Nat → Prop} {w : World}
theorem c_bCheck {csd csx : List Value} {d : Dist} {x : Run} (hd : DiR D w csd d) (hx : RuR D w csx x) : CallZ Tryz.prog 43 #[.agg csd.toArray, .agg csx.toArray] w
    (fun v w' => v = iv (bErr d x) ∧ Ext w w') := by
  obtain ⟨A1, n1, c1, A2, n2, c2, A3, n3, c3, A4, n4, c4, A5, n5, c5, A6, n6, c6, rfl, hr, hfa, -⟩ := hd.ex
  obtain ⟨B1, m1, e1, B2, m2, e2, B3, m3, e3, B4, m4, e4, B5, m5, e5, B6, m6, e6, B7, m7, e7, rfl, -⟩ := hx.ex
  have ln := hr.len
  have lf := hfa.len
  refine fn_rule (args := [.agg #[.string d.name, iv d.hours, iv d.cap, iv d.start, .slice A1 n1 c1, .slice A2 n2 c2, .slice A3 n3 c3, .slice A4 n4 c4, .slice A5 n5 c5, .slice A6 n6 c6], .agg #[.slice B1 m1 e1, .slice B2 m2 e2, .slice B3 m3 e3, .slice B4 m4 e4, .slice B5 m5 e5, .slice B6 m6 e6, .slice B7 m7 e7]]) Tryz.func43 (by kernel_rfl) ?_
  refine box (fun bd w1 h1 => ?_)
  refine box (fun bx w2 h2 => ?_)
  have x2 := h1.ext.trans h2.ext
  have Bd := h1.blk.ext h2.ext
  have Bx := h2.blk
  refine ldA _ (.blk Bd) rfl ?_
  refine call_of (c_eCheck (hd.ext x2)) ?_
  rintro _ w3 ⟨rfl, x3⟩
  have x23 := x2.trans x3
  refine cN (fun q1 => ?_) (fun q1 => ?_)
  · exact ret1 (iv (dErr d)) rfl ⟨by unfold bErr; rw [if_pos q1], x23⟩
  obtain ⟨ht, hv⟩ := dErr_ok.1 q1
  obtain ⟨⟨b1, b2⟩, b3, b4⟩ := valid_bounds ht hv
  have p1 := prod_lt (x := (n1 : Int)) (y := d.hours) (by omega) (by omega)
  have p2 := prod_lt (x := (n2 : Int)) (y := d.hours) (by omega) (by omega)
  refine fldA ?_
  refine ld (.slice A1 n1 c1) ((Bd.ext x3).cell rfl) ?_
  refine len ?_
  refine fldA ?_
  refine ld (iv d.hours) ((Bd.ext x3).cell rfl) ?_
  refine arI (by omega) ?_
  have e0 : dErr d = 0 := q1
  refine cD (fun q2 => ?_) (fun q2 => ?_)
  · exact ret1 (iv 2) rfl ⟨by unfold bErr wide; rw [if_neg (by simpa using e0), ln, decide_eq_true q2]; rfl, x23⟩
  refine fldA ?_
  refine ld (.slice A2 n2 c2) ((Bd.ext x3).cell rfl) ?_
  refine len ?_
  refine fldA ?_
  refine ld (iv d.hours) ((Bd.ext x3).cell rfl) ?_
  refine arI (by omega) ?_
  refine cD (fun q3 => ?_) (fun q3 => ?_)
  · exact ret1 (iv 2) rfl ⟨by unfold bErr wide; rw [if_neg (by simpa using e0), lf, decide_eq_true q3, Bool.or_true]; rfl, x23⟩
  have hw : wide d = false := by unfold wide; rw [ln, lf, decide_eq_false q2, decide_eq_false q3]; rfl
  refine ldA _ (.blk (Bd.ext x3)) rfl ?_
  refine ldA _ (.blk (Bx.ext x3)) rfl ?_
  refine callE (c_bright (hd.ext x23) (hx.ext x23) hv ht) (fun w4 q4 x4 => ?_) (fun w4 q4 x4 => ?_)
  · exact ret1 (iv 0) rfl ⟨by unfold bErr; rw [if_neg (by simpa using e0), hw, q4]; rfl, x23.trans x4⟩
  · exact ret1 (iv 230) rfl ⟨by unfold bErr; rw [if_neg (by simpa using e0), hw, q4]; rfl, x23.trans x4⟩
end
end Go.Proofs.YtffdjecdcbbfaaaGreat

/- Layer 23: contract of Accounts. -/
namespace Go.Proofs.YtffdjecdcbbfaaaGreat
open Go Go.RowKit

structure Ac where
  kind : Int
  index : Int
  litres : Int
deriving DecidableEq
abbrev Ac.c (m : Ac) : List Value := [iv m.kind, iv m.index, iv m.litres]
abbrev acs (l : List Ac) : List Value := l.flatMap Ac.c
theorem acs_len : ∀ l : List Ac, (acs l).length = l.length * 3
  | [] => rfl
  | m :: l => by show (Ac.c m ++ acs l).length = _; rw [List.length_append, acs_len l, List.length_cons]; simp; omega
theorem acs_app (l k : List Ac) : acs (l ++ k) = acs l ++ acs k := List.flatMap_append
def tAc : Ty Ac := tFl 3 Ac.c fun _ => rfl
theorem flat_acs {D : Nat → Prop} {w : World} : ∀ {l : List Ac}, FlatR tAc D w l (acs l)
  | [] => rfl
  | m :: l => ⟨m.c, acs l, rfl, rfl, flat_acs⟩
/-- What is where, before an hour. -/
def nowN (d : Dist) (x : Run) : Nat → Int × Int → Int
  | 0, key => if key = (1, 0) then d.start else 0
  | k + 1, key => nowN d x k key - outN (movesL d x k) key + inN (movesL d x k) key
def kindsL (d : Dist) : List (Int × Nat) := [(1, 1), (2, d.reaches.length), (3, d.reaches.length), (4, d.reaches.length), (5, d.farms.length), (6, d.reaches.length), (7, 1)]
def accK (d : Dist) (x : Run) (hour : Nat) (k : Int) (m : Nat) : List Ac := (List.range m).map fun i : Nat => ⟨k, i, nowN d x hour (k, i)⟩
def accU (d : Dist) (x : Run) (hour : Nat) (j : Nat) : List Ac := ((kindsL d).take j).flatMap fun p => accK d x hour p.1 p.2
def accL (d : Dist) (x : Run) (hour : Nat) : List Ac := (kindsL d).flatMap fun p => accK d x hour p.1 p.2
theorem accK_succ {d : Dist} {x : Run} {hour m : Nat} {k : Int} : accK d x hour k (m + 1) = accK d x hour k m ++ [⟨k, m, nowN d x hour (k, (m : Int))⟩] := by unfold accK; rw [List.range_succ, List.map_append]; rfl
theorem accU_succ {d : Dist} {x : Run} {hour j : Nat} {p : Int × Nat} (h : (kindsL d)[j]? = some p) : accU d x hour (j + 1) = accU d x hour j ++ accK d x hour p.1 p.2 := by
  unfold accU; rw [List.take_add_one, h, List.flatMap_append]; simp
theorem accU_len {d : Dist} {x : Run} {hour : Nat} (h1 : d.reaches.length ≤ 64) (h2 : d.farms.length ≤ 600) (j : Nat) : (accU d x hour j).length ≤ 1000 := by
  have h3 : ∀ l : List (Int × Nat), (l.flatMap fun p => accK d x hour p.1 p.2).length = (l.map (·.2)).sum := fun l => by
    induction l with
    | nil => rfl
    | cons p l ih => rw [List.flatMap_cons, List.length_append, ih, List.map_cons, List.sum_cons]; simp [accK]
  unfold accU
  rw [h3]
  have h4 : ∀ (l : List (Int × Nat)) (j : Nat), ((l.take j).map (·.2)).sum ≤ (l.map (·.2)).sum := fun l => by
    induction l with
    | nil => intro j; simp
    | cons p l ih =>
      intro j
      cases j with
      | zero => simp
      | succ j => simp only [List.take_succ_cons, List.map_cons, List.sum_cons]; have := ih j; omega
  have := h4 (kindsL d) j
  have h5 : ((kindsL d).map (·.2)).sum = 2 + 4 * d.reaches.length + d.farms.length := by unfold kindsL; simp; omega
  omega
def hErr (d : Dist) (x : Run) (hour most : Int) : Int := if bErr d x ≠ 0 then bErr d x else if hour < 0 ∨ hour > most then 1 else 0
theorem hErr_ok {d : Dist} {x : Run} {hour most : Int} : hErr d x hour most = 0 ↔ bErr d x = 0 ∧ 0 ≤ hour ∧ hour ≤ most := by
  unfold hErr
  by_cases h : bErr d x = 0
  · rw [if_neg (by simpa using h)]
    by_cases h2 : hour < 0 ∨ hour > most
    · rw [if_pos h2]; simp; omega
    · rw [if_neg h2]; simp; omega
  · rw [if_pos h]; simp [h]
theorem now_bound {d : Dist} {x : Run} {H : Nat} (hf : Fm d x H) (hs : 0 ≤ d.start ∧ d.start ≤ 1099511627776) (key : Int × Int) : ∀ k, k ≤ H → -(1099511627776 + k * 45839113650176) ≤ nowN d x k key ∧ nowN d x k key ≤ 1099511627776 + k * 45839113650176
  | 0, _ => by unfold nowN; split <;> omega
  | k + 1, hk => by
    have ih := now_bound hf hs key k (by omega)
    have h1 := outN_le (hf.okMoves (hour := k) (by omega)) key
    have h2 := inN_le (hf.okMoves (hour := k) (by omega)) key
    have h3 : (movesL d x k).length ≤ 42691 := Nat.le_trans (prefL_len hf.nr' hf.nf _) (by have := hf.nr'; omega)
    show _ ≤ nowN d x k key - outN (movesL d x k) key + inN (movesL d x k) key ∧ nowN d x k key - outN (movesL d x k) key + inN (movesL d x k) key ≤ _
    omega
abbrev kdc (p : Int × Nat) : List Value := [iv p.1, iv (p.2 : Int)]
def tKd : Ty (Int × Nat) := tFl 2 kdc fun _ => rfl
theorem flat_kds {D : Nat → Prop} {w : World} : ∀ {l : List (Int × Nat)}, FlatR tKd D w l (l.flatMap kdc)
  | [] => rfl
  | m :: l => ⟨kdc m, l.flatMap kdc, rfl, rfl, flat_kds⟩
section
variable {D : Nat → Prop} {w : World}
end
end Go.Proofs.YtffdjecdcbbfaaaGreat

/- Layer 23: contract of Moves. -/
namespace Go.Proofs.YtffdjecdcbbfaaaGreat
open Go Go.RowKit

def nzM (m : Mv) : Bool := !decide (m.litres = 0)
theorem mvs_take : ∀ (l : List Mv) (i : Nat) (rest : List Value), i ≤ l.length → (mvs l ++ rest).take (i * 5) = mvs (l.take i)
  | l, 0, rest, _ => by simp
  | m :: l, i + 1, rest, h => by
    have : (mvs (m :: l) ++ rest) = m.c ++ (mvs l ++ rest) := by rw [show mvs (m :: l) = m.c ++ mvs l from rfl, List.append_assoc]
    rw [this, List.take_append, show m.c.length = 5 from rfl, show (i + 1) * 5 - 5 = i * 5 by omega, mvs_take l i rest (by simpa using h)]
    rw [List.take_of_length_le (by show 5 ≤ _; omega)]
    rfl
  | [], i + 1, rest, h => by simp at h
theorem mvs_drop : ∀ (l : List Mv) (i : Nat) (rest : List Value), i ≤ l.length → (mvs l ++ rest).drop (i * 5) = mvs (l.drop i) ++ rest
  | l, 0, rest, _ => by simp
  | m :: l, i + 1, rest, h => by
    have : (mvs (m :: l) ++ rest) = m.c ++ (mvs l ++ rest) := by rw [show mvs (m :: l) = m.c ++ mvs l from rfl, List.append_assoc]
    rw [this, List.drop_append, show m.c.length = 5 from rfl, show (i + 1) * 5 - 5 = i * 5 by omega, mvs_drop l i rest (by simpa using h)]
    rw [List.drop_of_length_le (by show 5 ≤ _; omega)]
    rfl
  | [], i + 1, rest, h => by simp at h
theorem mvs_set {l : List Mv} {i : Nat} {m : Mv} {rest : List Value} (h : i < l.length) : (mvs l ++ rest).take (i * 5) ++ m.c ++ (mvs l ++ rest).drop (i * 5 + 5) = mvs (l.take i ++ m :: l.drop (i + 1)) ++ rest := by
  rw [mvs_take _ _ _ (by omega), show i * 5 + 5 = (i + 1) * 5 by omega, mvs_drop _ _ _ (by omega), mvs_app, show mvs (m :: l.drop (i + 1)) = m.c ++ mvs (l.drop (i + 1)) from rfl]
  simp only [List.append_assoc]
theorem slr_mvs {w : World} {g n : Nat} {l : List Mv} {cs : List Value} {D : Nat → Prop} (hb : Blk w g 183 cs) (h : cs.take (n * 5) = mvs l) (hn : n = l.length) (hle : n ≤ 140737488355328) (hD : D g) : SlR tMv D w (some (ad g 0)) n l :=
  SlR.of_cells hn hle hD (fun j v hv => by
    rw [Nat.zero_add]
    rw [← h, List.getElem?_take] at hv
    split at hv
    · exact hb.cell hv
    · cases hv) flat_mvs
section
variable {D : Nat → Prop} {w : World}
end
end Go.Proofs.YtffdjecdcbbfaaaGreat

/- Layer 23: contract of Moves; the reference, first part. -/
namespace Go.Proofs.YtffdjecdcbbfaaaGreat
open Go Go.RowKit

def movV (d : Dist) (x : Run) (hour : Int) : List Mv := if hErr d x hour (d.hours - 1) = 0 then (movesL d x hour.toNat).filter nzM else []
section
variable {D : Nat → Prop} {w : World}
/-! ### the reference -/
theorem c_r23up {a b : Int} (ha : 0 ≤ a ∧ a ≤ 1152921504606846976) (hb : 1 ≤ b ∧ b ≤ 1073741824) : CallZ Tryz.prog 136 #[iv a, iv b] w (fun v w' => v = iv (upI a b) ∧ w' = w) := by
  refine fn_rule (args := [iv a, iv b]) Tryz.func136 (by kernel_rfl) ?_
  refine arI (by omega) ?_
  refine arI (by omega) ?_
  refine quoI (by omega) (by omega) (by omega) ?_
  exact ret1 (iv ((a + b - 1) / b)) rfl ⟨rfl, rfl⟩
theorem c_r23Adm {r : Reach} {v e s : Int} (hok : lossOk r = true) (hv : 0 ≤ v ∧ v ≤ 1073741824) (he : 0 ≤ e ∧ e ≤ 1073741824) (hs : 0 ≤ s ∧ s ≤ 1073741824) :
    CallZ Tryz.prog 110 #[r.v, iv v, iv e, iv s] w (fun u w' => u = .bool (admB r v e s) ∧ Ext w w') := by
  refine fn_rule (args := [.agg #[.string r.name, iv r.up, iv r.delay, iv r.cap, iv r.bank, iv r.siphon, iv r.evap.lo, iv r.evap.hi, iv r.s0.n, iv r.s0.d, iv r.s1.n, iv r.s1.d], iv v, iv e, iv s]) Tryz.func110 (by kernel_rfl) ?_
  obtain ⟨hev, hsh⟩ := lossOk_iff.1 hok
  obtain ⟨hs0, hs1, -⟩ := sharesQ_iff.1 hsh
  obtain ⟨q0, m0, m1⟩ := shareQ_iff.1 hs0
  obtain ⟨q1, m2, m3⟩ := shareQ_iff.1 hs1
  obtain ⟨d0, d1, -⟩ := qValid_iff.1 q0
  obtain ⟨d2, d3, -⟩ := qValid_iff.1 q1
  refine box (fun g w1 h1 => ?_)
  have bg := h1.blk
  have x1 := h1.ext
  refine cE (fun v0 => ?_) (fun v0 => ?_)
  · refine cE (fun e0 => ?_) (fun e0 => ?_)
    · refine cE (fun s0 => ?_) (fun s0 => ?_)
      · exact ret1 (.bool true) rfl ⟨by unfold admB; rw [if_pos v0, decide_eq_true e0, decide_eq_true s0]; rfl, x1⟩
      · exact ret1 (.bool false) rfl ⟨by unfold admB; rw [if_pos v0, decide_eq_false s0, Bool.and_false], x1⟩
    · exact ret1 (.bool false) rfl ⟨by unfold admB; rw [if_pos v0, decide_eq_false e0, Bool.false_and], x1⟩
  have iff := admB_iff (r := r) (e := e) (s := s) v0
  have bad : ∀ {w'}, Ext w1 w' → ¬ (admB r v e s = true) → Value.bool false = .bool (admB r v e s) ∧ Ext w w' := fun x h => ⟨by rw [Bool.eq_false_iff.2 h], x1.trans x⟩
  have good : ∀ {w'}, Ext w1 w' → admB r v e s = true → Value.bool true = .bool (admB r v e s) ∧ Ext w w' := fun x h => ⟨by rw [h], x1.trans x⟩
  refine ldA r.c (.blk bg) rfl ?_
  refine call_of (c_r21Lost (r := r) (v := v)) ?_
  rintro _ w2 ⟨rfl, x2⟩
  rw [lostL_ok (lErr_ok.2 ⟨hok, hv⟩)]
  obtain ⟨L1, L2, L3, L4⟩ := lost_le hok hv
  refine alloc (fun p w3 h3 => ?_)
  refine stA (vs := [iv (lostR r v).lo, iv (lostR r v).hi]) h3.blk rfl (Nat.le_of_ble_eq_true rfl) (by simp [Value.oneCell']) (fun w4 hb4 k4 z4 => ?_)
  have z3 := h3.at_
  have y1 := h1.at_
  have yl := bg.lt
  have y2 := x2.size
  have x4 : Ext w1 w4 := (x2.trans h3.ext).then k4 fun b hb _ e => by omega
  have bg4 := bg.ext x4
  have p2 := share_le (v := v) hs1 hv.1
  have p3 := share_le (v := v) hs0 hv.1
  have pr2 := prod_lt (x := v) (y := r.s1.n) (by omega) (by omega)
  have pr3 := prod_lt (x := v) (y := r.s0.n) (by omega) (by omega)
  refine fldA ?_
  refine fldA ?_
  refine ld (iv r.evap.hi) (bg4.cell rfl) ?_
  refine cD (fun g1 => ?_) (fun g1 => ?_)
  · exact ret1 (.bool false) rfl (bad x4 fun h => by have := iff.1 h; omega)
  refine fldA ?_
  refine idxR 1 rfl (by decide) ?_
  refine fldA ?_
  refine ld (iv r.s1.n) (bg4.cell rfl) ?_
  refine arI (by omega) ?_
  refine fldA ?_
  refine idxR 1 rfl (by decide) ?_
  refine fldA ?_
  refine ld (iv r.s1.d) (bg4.cell rfl) ?_
  refine call_of (c_r23up (by omega) (by omega)) ?_
  rintro _ w5 ⟨rfl, hw5⟩
  rw [hw5]
  clear hw5 w5
  refine cD (fun g2 => ?_) (fun g2 => ?_)
  · exact ret1 (.bool false) rfl (bad x4 fun h => by have := iff.1 h; omega)
  refine arI (by omega) ?_
  refine fldA ?_
  refine ld (iv (lostR r v).lo) (hb4.cell rfl) ?_
  refine cD (fun g3 => ?_) (fun g3 => ?_)
  · exact ret1 (.bool false) rfl (bad x4 fun h => by have := iff.1 h; omega)
  refine arI (by omega) ?_
  refine fldA ?_
  refine ld (iv (lostR r v).hi) (hb4.cell rfl) ?_
  refine cD (fun g4 => ?_) (fun g4 => ?_)
  · exact ret1 (.bool false) rfl (bad x4 fun h => by have := iff.1 h; omega)
  have iff2 : admB r v e s = true ↔ (e + s = v ∨ (r.evap.lo ≤ e ∧ v * r.s0.n / r.s0.d ≤ s)) := by
    rw [iff]; exact ⟨fun h => h.2.2.2.2, fun h => ⟨by omega, by omega, by omega, by omega, h⟩⟩
  refine arI (by omega) ?_
  refine cE (fun g5 => ?_) (fun g5 => ?_)
  · exact ret1 (.bool true) rfl (good x4 (iff2.2 (.inl g5)))
  refine fldA ?_
  refine fldA ?_
  refine ld (iv r.evap.lo) (bg4.cell rfl) ?_
  refine cD (fun g6 => ?_) (fun g6 => ?_)
  rotate_left
  · exact ret1 (.bool false) rfl (bad x4 fun h => by have := iff2.1 h; omega)
  refine fldA ?_
  refine idxR 0 rfl (by decide) ?_
  refine fldA ?_
  refine ld (iv r.s0.n) (bg4.cell rfl) ?_
  refine arI (by omega) ?_
  refine fldA ?_
  refine idxR 0 rfl (by decide) ?_
  refine fldA ?_
  refine ld (iv r.s0.d) (bg4.cell rfl) ?_
  refine quoI (by omega) (by omega) (by omega) ?_
  refine cD (fun g7 => ?_) (fun g7 => ?_)
  · exact ret1 (.bool true) rfl (good x4 (iff2.2 (.inr ⟨by omega, by omega⟩)))
  · exact ret1 (.bool false) rfl (bad x4 fun h => by have := iff2.1 h; omega)
theorem c_r23numbers {l : List Int} {A : Option Addr} {n c : Nat} {h : Int} (hs : SlR tInt D w A n l) : CallZ Tryz.prog 134 #[.slice A n c, iv h] w (fun v w' => v = .bool (numB h l) ∧ w' = w) := by
  refine fn_rule (args := [.slice A n c, iv h]) Tryz.func134 (by kernel_rfl) ?_
  have hl := hs.len
  refine len ?_
  refine cN (fun g => ?_) (fun g => ?_)
  · exact ret1 (.bool false) rfl ⟨by unfold numB; rw [hl, decide_eq_false g]; rfl, rfl⟩
  have e0 : numB h l = l.all fun x => inI x 0 1073741824 := by unfold numB; rw [hl, decide_eq_true g, Bool.true_and]
  refine loop_rule (fun k : Nat => [(5, iv (k : Int))]) (fun k w' => k ≤ n ∧ w' = w ∧ (l.all fun x => inI x 0 1073741824) = ((l.drop k).all fun x => inI x 0 1073741824)) (fun k _ => n - k) 0 ⟨rfl, trivial⟩ ⟨by omega, rfl, rfl⟩ rfl ?_
  rintro G k w' ⟨hk, rfl, he⟩
  refine len ?_
  refine cD (fun hlt => ?_) (fun hge => ?_)
  · obtain ⟨b, o, cs, x, rfl, hx, hdx, -, hc, rfl, -⟩ := hs.at_ (show k < n by omega)
    rw [hdx, List.all_cons] at he
    refine idx k rfl (by omega) ?_
    refine ld (iv x) (hc 0 _ rfl) ?_
    refine cD (fun q1 => ?_) (fun q1 => ?_)
    · exact ret1 (.bool false) rfl ⟨by rw [e0, he, inI_not.2 (by omega)]; rfl, rfl⟩
    refine idx k rfl (by omega) ?_
    refine ld (iv x) (hc 0 _ rfl) ?_
    refine cD (fun q2 => ?_) (fun q2 => ?_)
    · exact ret1 (.bool false) rfl ⟨by rw [e0, he, inI_not.2 (by omega)]; rfl, rfl⟩
    refine arI (by have := hs.le; omega) ?_
    refine next (k + 1) ⟨by rw [Int.natCast_add]; rfl, trivial⟩ ⟨by omega, rfl, ?_⟩ (by omega)
    rw [he, inI_iff.2 (by omega)]; rfl
  · refine ret1 (.bool true) rfl ⟨?_, rfl⟩
    rw [e0, he, drop_end (by omega)]; rfl
theorem c_r23tables {l : List (List Int)} {A : Option Addr} {n c m : Nat} {h : Int} (hs : SlR tInts D w A n l) : CallZ Tryz.prog 135 #[.slice A n c, iv (m : Int), iv h] w (fun v w' => v = .bool (tabB m h l) ∧ w' = w) := by
  refine fn_rule (args := [.slice A n c, iv (m : Int), iv h]) Tryz.func135 (by kernel_rfl) ?_
  have hl := hs.len
  refine len ?_
  refine cN (fun g => ?_) (fun g => ?_)
  · exact ret1 (.bool false) rfl ⟨by unfold tabB; rw [hl, decide_eq_false (by omega)]; rfl, rfl⟩
  have e0 : tabB m h l = l.all (numB h) := by unfold tabB; rw [hl, decide_eq_true (by omega), Bool.true_and]
  refine loop_rule (fun k : Nat => [(7, iv (k : Int))]) (fun k w' => k ≤ n ∧ w' = w ∧ l.all (numB h) = (l.drop k).all (numB h)) (fun k _ => n - k) 0 ⟨rfl, trivial⟩ ⟨by omega, rfl, rfl⟩ rfl ?_
  rintro G k w' ⟨hk, rfl, he⟩
  refine cD (fun hlt => ?_) (fun hge => ?_)
  · obtain ⟨b, o, cs, x, rfl, hx, hdx, -, hc, A2, n2, c2, rfl, hx2, -⟩ := hs.at_ (show k < n by omega)
    rw [hdx, List.all_cons] at he
    refine idx k rfl (by omega) ?_
    refine ld (.slice A2 n2 c2) (hc 0 _ rfl) ?_
    refine callB (c_r23numbers hx2) (fun q => ?_) (fun q => ?_)
    · refine arI (by have := hs.le; omega) ?_
      refine next (k + 1) ⟨by rw [Int.natCast_add]; rfl, trivial⟩ ⟨by omega, rfl, ?_⟩ (by omega)
      rw [he, q]; rfl
    · exact ret1 (.bool false) rfl ⟨by rw [e0, he, q]; rfl, rfl⟩
  · refine ret1 (.bool true) rfl ⟨?_, rfl⟩
    rw [e0, he, drop_end (by omega)]; rfl
end
end Go.Proofs.YtffdjecdcbbfaaaGreat

/- Made by gen_XBc.py. Layer 23: the reference, second part. -/
namespace Go.Proofs.YtffdjecdcbbfaaaGreat
open Go Go.RowKit

section
variable {D : Nat → Prop} {w : World}
theorem c_r23formed {csd csx : List Value} {d : Dist} {x : Run} (hd : DiR D w csd d) (hx : RuR D w csx x) : CallZ Tryz.prog 109 #[.agg csd.toArray, .agg csx.toArray] w (fun v w' => v = .bool (formB d x) ∧ Ext w w') := by
  obtain ⟨A1, n1, c1, A2, n2, c2, A3, n3, c3, A4, n4, c4, A5, n5, c5, A6, n6, c6, rfl, hr, hfa, -⟩ := hd.ex
  obtain ⟨B1, m1, e1, B2, m2, e2, B3, m3, e3, B4, m4, e4, B5, m5, e5, B6, m6, e6, B7, m7, e7, rfl, i1, i2, i3, i4, i5, i6, i7, -⟩ := hx.ex
  have ln := hr.len
  have lf := hfa.len
  have k1 := i1.len
  have k2 := i2.len
  have k3 := i3.len
  have k4 := i4.len
  have k5 := i5.len
  have k6 := i6.len
  have k7 := i7.len
  refine fn_rule (args := [.agg #[.string d.name, iv d.hours, iv d.cap, iv d.start, .slice A1 n1 c1, .slice A2 n2 c2, .slice A3 n3 c3, .slice A4 n4 c4, .slice A5 n5 c5, .slice A6 n6 c6], .agg #[.slice B1 m1 e1, .slice B2 m2 e2, .slice B3 m3 e3, .slice B4 m4 e4, .slice B5 m5 e5, .slice B6 m6 e6, .slice B7 m7 e7]]) Tryz.func109 (by kernel_rfl) ?_
  refine box (fun bd w1 h1 => ?_)
  refine box (fun bx w2 h2 => ?_)
  have x2 := h1.ext.trans h2.ext
  have Bd := h1.blk.ext h2.ext
  have Bx := h2.blk
  have iff := formB_iff (d := d) (x := x)
  have bad : ¬ (formB d x = true) → Value.bool false = .bool (formB d x) ∧ Ext w w2 := fun h => ⟨by rw [Bool.eq_false_iff.2 h], x2⟩
  refine fldA ?_
  refine ld (.slice A1 n1 c1) (Bd.cell rfl) ?_
  refine len ?_
  refine fldA ?_
  refine ld (.slice B1 m1 e1) (Bx.cell rfl) ?_
  refine fldA ?_
  refine ld (iv d.hours) (Bd.cell rfl) ?_
  refine callB (c_r23numbers (i1.ext x2)) (fun q1 => ?_) (fun q1 => ?_)
  rotate_left
  · exact ret1 (.bool false) rfl (bad fun h => by have := (iff.1 h).1; rw [this] at q1; exact Bool.noConfusion q1)
  refine fldA ?_
  refine ld (.slice B2 m2 e2) (Bx.cell rfl) ?_
  refine fldA ?_
  refine ld (iv d.hours) (Bd.cell rfl) ?_
  refine callB (c_r23numbers (i2.ext x2)) (fun q2 => ?_) (fun q2 => ?_)
  rotate_left
  · exact ret1 (.bool false) rfl (bad fun h => by have := (iff.1 h).2.1; rw [this] at q2; exact Bool.noConfusion q2)
  refine fldA ?_
  refine ld (.slice B6 m6 e6) (Bx.cell rfl) ?_
  refine fldA ?_
  refine ld (.slice A2 n2 c2) (Bd.cell rfl) ?_
  refine len ?_
  refine fldA ?_
  refine ld (iv d.hours) (Bd.cell rfl) ?_
  refine callB (c_r23tables (i6.ext x2)) (fun q6 => ?_) (fun q6 => ?_)
  rotate_left
  · exact ret1 (.bool false) rfl (bad fun h => by have := (iff.1 h).2.2.1; rw [lf] at this; rw [this] at q6; exact Bool.noConfusion q6)
  refine fldA ?_
  refine ld (.slice B3 m3 e3) (Bx.cell rfl) ?_
  refine fldA ?_
  refine ld (iv d.hours) (Bd.cell rfl) ?_
  refine callB (c_r23tables (i3.ext x2)) (fun q3 => ?_) (fun q3 => ?_)
  rotate_left
  · exact ret1 (.bool false) rfl (bad fun h => by have := (iff.1 h).2.2.2.1; rw [ln] at this; rw [this] at q3; exact Bool.noConfusion q3)
  refine fldA ?_
  refine ld (.slice B4 m4 e4) (Bx.cell rfl) ?_
  refine fldA ?_
  refine ld (iv d.hours) (Bd.cell rfl) ?_
  refine callB (c_r23tables (i4.ext x2)) (fun q4 => ?_) (fun q4 => ?_)
  rotate_left
  · exact ret1 (.bool false) rfl (bad fun h => by have := (iff.1 h).2.2.2.2.1; rw [ln] at this; rw [this] at q4; exact Bool.noConfusion q4)
  refine fldA ?_
  refine ld (.slice B5 m5 e5) (Bx.cell rfl) ?_
  refine fldA ?_
  refine ld (iv d.hours) (Bd.cell rfl) ?_
  refine callB (c_r23tables (i5.ext x2)) (fun q5 => ?_) (fun q5 => ?_)
  rotate_left
  · exact ret1 (.bool false) rfl (bad fun h => by have := (iff.1 h).2.2.2.2.2.1; rw [ln] at this; rw [this] at q5; exact Bool.noConfusion q5)
  refine fldA ?_
  refine ld (.slice B7 m7 e7) (Bx.cell rfl) ?_
  refine fldA ?_
  refine ld (iv d.hours) (Bd.cell rfl) ?_
  refine callB (c_r23tables (i7.ext x2)) (fun q7 => ?_) (fun q7 => ?_)
  rotate_left
  · exact ret1 (.bool false) rfl (bad fun h => by have := (iff.1 h).2.2.2.2.2.2; rw [ln] at this; rw [this] at q7; exact Bool.noConfusion q7)
  exact ret1 (.bool true) rfl ⟨by rw [iff.2 ⟨q1, q2, by rw [lf]; exact q6, by rw [ln]; exact q3, by rw [ln]; exact q4, by rw [ln]; exact q5, by rw [ln]; exact q7⟩], x2⟩
theorem c_r23entered {csd : List Value} {d : Dist} {x : Run} {i hour H : Nat} (hd : DiR D w csd d) (hf : Fm d x H) (hi : i < d.reaches.length) (hh : hour ≤ 4096) : CallZ Tryz.prog 137 #[.agg csd.toArray, iv (i : Int), iv (hour : Int)] w (fun v w' => v = iv (ent d i hour) ∧ Ext w w') := by
  obtain ⟨A1, n1, c1, A2, n2, c2, A3, n3, c3, A4, n4, c4, A5, n5, c5, A6, n6, c6, rfl, hr, hfa, -⟩ := hd.ex
  have ln := hr.len
  refine fn_rule (args := [.agg #[.string d.name, iv d.hours, iv d.cap, iv d.start, .slice A1 n1 c1, .slice A2 n2 c2, .slice A3 n3 c3, .slice A4 n4 c4, .slice A5 n5 c5, .slice A6 n6 c6], iv (i : Int), iv (hour : Int)]) Tryz.func137 (by kernel_rfl) ?_
  refine box (fun bd w1 h1 => ?_)
  have Bd := h1.blk
  obtain ⟨b, o, cs, r, rfl, hrx, -, -, hc, rfl⟩ := (hr.ext h1.ext).at_ (show i < n1 by omega)
  obtain ⟨-, -, d1, d2⟩ := hf.at_ hrx
  refine fldA ?_
  refine ld _ (Bd.cell rfl) ?_
  refine idx i rfl (by omega) ?_
  refine fldA ?_
  refine ld (iv r.delay) (hc 2 _ rfl) ?_
  refine arI (by omega) ?_
  exact ret1 (iv ((hour : Int) - r.delay)) rfl ⟨by rw [ent_eq hrx], h1.ext⟩
def arrN (d : Dist) (x : Run) (i hour : Nat) : Int := (parc d x hour i).1 - (parc d x hour i).2.1 - (parc d x hour i).2.2
theorem c_r23Arrival {csd csx : List Value} {d : Dist} {x : Run} {i hour H : Nat} (hd : DiR D w csd d) (hx : RuR D w csx x) (hf : Fm d x H) (hi : i < d.reaches.length) (hh : hour < H) : CallZ Tryz.prog 111 #[.agg csd.toArray, .agg csx.toArray, iv (i : Int), iv (hour : Int)] w (fun v w' => v = iv (arrN d x i hour) ∧ Ext w w') := by
  obtain ⟨A1, n1, c1, A2, n2, c2, A3, n3, c3, A4, n4, c4, A5, n5, c5, A6, n6, c6, rfl, hr, hfa, -⟩ := hd.ex
  obtain ⟨B1, m1, e1, B2, m2, e2, B3, m3, e3, B4, m4, e4, B5, m5, e5, B6, m6, e6, B7, m7, e7, rfl, i1, i2, i3, i4, i5, i6, i7, -⟩ := hx.ex
  have ln := hr.len
  have lf := hfa.len
  have k1 := i1.len
  have k2 := i2.len
  have k3 := i3.len
  have k4 := i4.len
  have k5 := i5.len
  have k6 := i6.len
  have k7 := i7.len
  have hf1 := (numB_iff.1 hf.inflow).1
  have hf2 := (numB_iff.1 hf.spill).1
  have hf3 := (tabB_iff.1 hf.inn).1
  have hf4 := (tabB_iff.1 hf.evap).1
  have hf5 := (tabB_iff.1 hf.seep).1
  have hf6 := (tabB_iff.1 hf.taken).1
  have hf7 := (tabB_iff.1 hf.tail).1
  have hHi := hf.hours
  have hH1 := hf.h1
  have hH2 := hf.h2
  have hnr := hf.nr
  have hnr' := hf.nr'
  have hnf := hf.nf
  refine fn_rule (args := [.agg #[.string d.name, iv d.hours, iv d.cap, iv d.start, .slice A1 n1 c1, .slice A2 n2 c2, .slice A3 n3 c3, .slice A4 n4 c4, .slice A5 n5 c5, .slice A6 n6 c6], .agg #[.slice B1 m1 e1, .slice B2 m2 e2, .slice B3 m3 e3, .slice B4 m4 e4, .slice B5 m5 e5, .slice B6 m6 e6, .slice B7 m7 e7], iv (i : Int), iv (hour : Int)]) Tryz.func111 (by kernel_rfl) ?_
  refine box (fun bd w1 h1 => ?_)
  refine box (fun bx w2 h2 => ?_)
  have x2 := h1.ext.trans h2.ext
  have Bd := h1.blk.ext h2.ext
  have Bx := h2.blk
  refine ldA _ (.blk Bd) rfl ?_
  refine call_of (c_r23entered (hd.ext x2) hf hi (by omega)) ?_
  rintro _ w3 ⟨rfl, x3⟩
  have x23 := x2.trans x3
  obtain ⟨el, eh⟩ := hf.ent_lt hi hh
  refine cD (fun q1 => ?_) (fun q1 => ?_)
  · exact ret1 (iv 0) rfl ⟨by unfold arrN parc; rw [if_neg (by omega)]; rfl, x23⟩
  obtain ⟨t, ht⟩ : ∃ t : Nat, ent d i hour = (t : Int) := ⟨(ent d i hour).toNat, by omega⟩
  have hp : parc d x hour i = (g2 x.inn i t, g2 x.evap i t, g2 x.seep i t) := by unfold parc; rw [ht, if_pos (by omega), Int.toNat_natCast]
  have htH : t < H := by omega
  obtain ⟨f3, p3, R3, s3, u3, rfl, cc3, r3, -⟩ := row_at (i3.ext x23) (i := i) (by omega)
  obtain ⟨f4, p4, R4, s4, u4, rfl, cc4, r4, -⟩ := row_at (i4.ext x23) (i := i) (by omega)
  obtain ⟨f5, p5, R5, s5, u5, rfl, cc5, r5, -⟩ := row_at (i5.ext x23) (i := i) (by omega)
  have y3 := (numB_iff.1 (tab_row hf.inn hi).2).1
  have y4 := (numB_iff.1 (tab_row hf.evap hi).2).1
  have y5 := (numB_iff.1 (tab_row hf.seep hi).2).1
  have z3 := r3.len
  have z4 := r4.len
  have z5 := r5.len
  obtain ⟨a3, b3, rfl, v3⟩ := num_at r3 (k := t) (by omega)
  obtain ⟨a4, b4, rfl, v4⟩ := num_at r4 (k := t) (by omega)
  obtain ⟨a5, b5, rfl, v5⟩ := num_at r5 (k := t) (by omega)
  have l3 := tab_val hf.inn hi htH
  have l4 := tab_val hf.evap hi htH
  have l5 := tab_val hf.seep hi htH
  refine drawQ mx (by kernel_rfl) ?_
  refine fldA ?_
  refine ld _ ((Bx.ext x3).cell rfl) ?_
  refine idx i rfl (by omega) ?_
  refine ld _ cc3 ?_
  refine idx t ht (by omega) ?_
  refine ld _ v3 ?_
  refine fldA ?_
  refine ld _ ((Bx.ext x3).cell rfl) ?_
  refine idx i rfl (by omega) ?_
  refine ld _ cc4 ?_
  refine idx t ht (by omega) ?_
  refine ld _ v4 ?_
  refine arE (g2 x.inn i t - g2 x.evap i t) rfl (by omega) ?_
  refine fldA ?_
  refine ld _ ((Bx.ext x3).cell rfl) ?_
  refine idx i rfl (by omega) ?_
  refine ld _ cc5 ?_
  refine idx t ht (by omega) ?_
  refine ld _ v5 ?_
  refine arE (g2 x.inn i t - g2 x.evap i t - g2 x.seep i t) rfl (by omega) ?_
  exact ret1 (iv (g2 x.inn i t - g2 x.evap i t - g2 x.seep i t)) rfl ⟨by unfold arrN; rw [hp], x23⟩
theorem c_r23left {csd csx : List Value} {d : Dist} {x : Run} {i hour H : Nat} (hd : DiR D w csd d) (hx : RuR D w csx x) (hf : Fm d x H) (hi : i < d.reaches.length) (hh : hour < H) : CallZ Tryz.prog 112 #[.agg csd.toArray, .agg csx.toArray, iv (i : Int), iv (hour : Int)] w (fun v w' => v = iv (leftN d x i hour) ∧ Ext w w') := by
  obtain ⟨A1, n1, c1, A2, n2, c2, A3, n3, c3, A4, n4, c4, A5, n5, c5, A6, n6, c6, rfl, hr, hfa, -⟩ := hd.ex
  obtain ⟨B1, m1, e1, B2, m2, e2, B3, m3, e3, B4, m4, e4, B5, m5, e5, B6, m6, e6, B7, m7, e7, rfl, i1, i2, i3, i4, i5, i6, i7, -⟩ := hx.ex
  have ln := hr.len
  have lf := hfa.len
  have k1 := i1.len
  have k2 := i2.len
  have k3 := i3.len
  have k4 := i4.len
  have k5 := i5.len
  have k6 := i6.len
  have k7 := i7.len
  have hf1 := (numB_iff.1 hf.inflow).1
  have hf2 := (numB_iff.1 hf.spill).1
  have hf3 := (tabB_iff.1 hf.inn).1
  have hf4 := (tabB_iff.1 hf.evap).1
  have hf5 := (tabB_iff.1 hf.seep).1
  have hf6 := (tabB_iff.1 hf.taken).1
  have hf7 := (tabB_iff.1 hf.tail).1
  have hHi := hf.hours
  have hH1 := hf.h1
  have hH2 := hf.h2
  have hnr := hf.nr
  have hnr' := hf.nr'
  have hnf := hf.nf
  refine fn_rule (args := [.agg #[.string d.name, iv d.hours, iv d.cap, iv d.start, .slice A1 n1 c1, .slice A2 n2 c2, .slice A3 n3 c3, .slice A4 n4 c4, .slice A5 n5 c5, .slice A6 n6 c6], .agg #[.slice B1 m1 e1, .slice B2 m2 e2, .slice B3 m3 e3, .slice B4 m4 e4, .slice B5 m5 e5, .slice B6 m6 e6, .slice B7 m7 e7], iv (i : Int), iv (hour : Int)]) Tryz.func112 (by kernel_rfl) ?_
  refine box (fun bd w1 h1 => ?_)
  refine box (fun bx w2 h2 => ?_)
  have x2 := h1.ext.trans h2.ext
  have Bd := h1.blk.ext h2.ext
  have Bx := h2.blk
  obtain ⟨f3, p3, R3, s3, u3, rfl, cc3, r3, -⟩ := row_at (i7.ext x2) (i := i) (by omega)
  have y3 := (numB_iff.1 (tab_row hf.tail hi).2).1
  have z3 := r3.len
  obtain ⟨a3, b3, rfl, v3⟩ := num_at r3 (k := hour) (by omega)
  have l3 := tab_val hf.tail hi hh
  refine fldA ?_
  refine ld _ (Bx.cell rfl) ?_
  refine idx i rfl (by omega) ?_
  refine ld _ cc3 ?_
  refine idx hour rfl (by omega) ?_
  refine ld _ v3 ?_
  refine loop2 (fun (k : Nat) (s : Int) => [(10, iv (k : Int)), (9, iv s)]) (fun k s w' => k ≤ n1 ∧ w2 = w' ∧ s = g2 x.tail i hour + sumL (childL d x hour i k)) (fun k _ _ => n1 - k) 0 (g2 x.tail i hour) ⟨rfl, rfl, trivial⟩ ⟨by omega, rfl, by rw [show childL d x hour i 0 = [] from rfl]; simp [sumL]⟩ rfl ?_
  rintro G k s _ ⟨hk, rfl, hs⟩
  refine fldA ?_
  refine ld (.slice A1 n1 c1) (Bd.cell rfl) ?_
  refine len ?_
  have b1 := sumL_le (hf.okChild (i := i) hh (k := k) (by omega))
  have b2 := childL_len (d := d) (x := x) (hour := hour) (i := i) (k := k)
  refine cD (fun hlt => ?_) (fun hge => ?_)
  · have hlt : k < n1 := by omega
    obtain ⟨b, o, cs, r, rfl, hrx, -, -, hc, rfl⟩ := (hr.ext x2).at_ hlt
    have hrk := rch_eq hrx
    refine fldA ?_
    refine ld _ (Bd.cell rfl) ?_
    refine idx k rfl hlt ?_
    refine fldA ?_
    refine ld (iv r.up) (hc 1 _ rfl) ?_
    refine cE (fun hup => ?_) (fun hup => ?_)
    · obtain ⟨f4, p4, R4, s4, u4, rfl, cc4, r4, -⟩ := row_at (i3.ext x2) (i := k) (by omega)
      have y4 := (numB_iff.1 (tab_row hf.inn (i := k) (by omega)).2).1
      have z4 := r4.len
      obtain ⟨a4, b4, rfl, v4⟩ := num_at r4 (k := hour) (by omega)
      have l4 := tab_val hf.inn (i := k) (by omega) hh
      refine fldA ?_
      refine ld _ (Bx.cell rfl) ?_
      refine idx k rfl (by omega) ?_
      refine ld _ cc4 ?_
      refine idx hour rfl (by omega) ?_
      refine ld _ v4 ?_
      refine arE (s + g2 x.inn k hour) rfl (by omega) ?_
      refine arI (by omega) ?_
      refine next2 (k + 1) (s + g2 x.inn k hour) ⟨by rw [Int.natCast_add]; rfl, rfl, trivial⟩ ⟨by omega, rfl, ?_⟩ (by omega)
      rw [childL_succ, hrk, if_pos hup, sumL_app, hs]; simp [sumL]; omega
    · refine arI (by omega) ?_
      refine next2 (k + 1) s ⟨by rw [Int.natCast_add]; rfl, rfl, trivial⟩ ⟨by omega, rfl, ?_⟩ (by omega)
      rw [childL_succ, hrk, if_neg hup, List.append_nil]; exact hs
  have hs0 : s = g2 x.tail i hour + sumL (childL d x hour i d.reaches.length) := by rw [hs, show k = d.reaches.length by omega]
  have b3 := sumL_le (hf.okChild (i := i) hh (Nat.le_refl _))
  have b4 := childL_len (d := d) (x := x) (hour := hour) (i := i) (k := d.reaches.length)
  refine loop2 (fun (k : Nat) (s' : Int) => [(11, iv (k : Int)), (9, iv s')]) (fun k s' w' => k ≤ n2 ∧ w2 = w' ∧ s' = s + sumL (farmL d x hour i k)) (fun k _ _ => n2 - k) 0 s ⟨rfl, rfl, trivial⟩ ⟨by omega, rfl, by rw [show farmL d x hour i 0 = [] from rfl]; simp [sumL]⟩ rfl ?_
  rintro G2 k' s' _ ⟨hk', rfl, hs'⟩
  refine fldA ?_
  refine ld (.slice A2 n2 c2) (Bd.cell rfl) ?_
  refine len ?_
  have b5 := sumL_le (hf.okFarm (i := i) hh (k := k') (by omega))
  have b6 := farmL_len (d := d) (x := x) (hour := hour) (i := i) (k := k')
  refine cD (fun hlt => ?_) (fun hge2 => ?_)
  · have hlt : k' < n2 := by omega
    obtain ⟨b, o, cs, r, rfl, hrx, -, -, hc, rfl⟩ := (hfa.ext x2).at_ hlt
    have hrk := frm_eq hrx
    refine fldA ?_
    refine ld _ (Bd.cell rfl) ?_
    refine idx k' rfl hlt ?_
    refine fldA ?_
    refine ld (iv r.reach) (hc 1 _ rfl) ?_
    refine cE (fun hup => ?_) (fun hup => ?_)
    · obtain ⟨f4, p4, R4, s4, u4, rfl, cc4, r4, -⟩ := row_at (i6.ext x2) (i := k') (by omega)
      have y4 := (numB_iff.1 (tab_row hf.taken (i := k') (by omega)).2).1
      have z4 := r4.len
      obtain ⟨a4, b4', rfl, v4⟩ := num_at r4 (k := hour) (by omega)
      have l4 := tab_val hf.taken (i := k') (by omega) hh
      refine fldA ?_
      refine ld _ (Bx.cell rfl) ?_
      refine idx k' rfl (by omega) ?_
      refine ld _ cc4 ?_
      refine idx hour rfl (by omega) ?_
      refine ld _ v4 ?_
      refine arE (s' + g2 x.taken k' hour) rfl (by omega) ?_
      refine arI (by omega) ?_
      refine next2 (k' + 1) (s' + g2 x.taken k' hour) ⟨by rw [Int.natCast_add]; rfl, rfl, trivial⟩ ⟨by omega, rfl, ?_⟩ (by omega)
      rw [farmL_succ, hrk, if_pos hup, sumL_app, hs']; simp [sumL]; omega
    · refine arI (by omega) ?_
      refine next2 (k' + 1) s' ⟨by rw [Int.natCast_add]; rfl, rfl, trivial⟩ ⟨by omega, rfl, ?_⟩ (by omega)
      rw [farmL_succ, hrk, if_neg hup, List.append_nil]; exact hs'
  refine ret1 (iv s') rfl ⟨?_, x2⟩
  have : leftN d x i hour = s' := by unfold leftN; rw [hs', hs0, show k' = d.farms.length by omega]; omega
  rw [this]
end
end Go.Proofs.YtffdjecdcbbfaaaGreat
