/- Contracts of the program: the best tree. -/
import Derived.Test.YtpmmhcgghldaaaaDoorQ3
namespace Go.Proofs.YtpmmhcgghldaaaaDoor
open Go Go.RowKit

/-- The measurement that is chosen separates. -/
theorem pfold_sep {rec : Nat → Int × Int} {S : Nat} : ∀ (ps : List (Int × Nat)) (i : Nat) (acc : Int × Int), (pfold rec S i ps acc).2 = acc.2 ∨ ∃ j x, ps[j]? = some x ∧ (pfold rec S i ps acc).2 = ((i + j : Nat) : Int) ∧ psep x.2 S = true
  | [], i, acc => .inl rfl
  | x :: r, i, acc => by
    unfold pfold
    have h1 : (pstep rec S i x acc).2 = acc.2 ∨ ((pstep rec S i x acc).2 = (i : Int) ∧ psep x.2 S = true) := by
      unfold pstep
      split
      · rename_i hs
        split
        · exact .inr ⟨rfl, hs⟩
        · exact .inl rfl
      · exact .inl rfl
    rcases pfold_sep r (i + 1) (pstep rec S i x acc) with h | ⟨j, y, hj, h2, h3⟩
    · rw [h]
      rcases h1 with h1 | ⟨h1, h2⟩
      · exact .inl h1
      · exact .inr ⟨0, x, rfl, by rw [h1]; rfl, h2⟩
    · exact .inr ⟨j + 1, y, by simpa using hj, by rw [h2]; congr 1; omega, h3⟩
theorem B_sep {ps : List (Int × Nat)} {S : Nat} (h : 0 ≤ (B ps S).2) : ∃ x, ps[(B ps S).2.toNat]? = some x ∧ psep x.2 S = true := by
  rw [B_eq] at h ⊢
  rcases pfold_sep (rec := B ps) (S := S) ps 0 (0, -1) with h1 | ⟨j, x, hj, h2, h3⟩
  · rw [h1] at h; exact absurd h (by decide)
  · rw [h2]; exact ⟨x, by simpa using hj, h3⟩
def mAt (ps : List (Int × Nat)) (i : Int) : Nat := (ps.getD i.toNat (0, 0)).2
def ptree (ps : List (Int × Nat)) : Nat → Nat → Tr
  | 0, _ => .mk 0 [] []
  | f + 1, S => if (B ps S).2 < 0 then .mk 0 (ofNats (mem S 12)) [] else
    .mk (B ps S).2 [] [ptree ps f (S - (mAt ps (B ps S).2 &&& S)), ptree ps f (mAt ps (B ps S).2 &&& S)]

/-- What the program's functions stand on. -/
structure PEnv (w : World) (b g : Nat) (h : PH) (pd : PD) : Prop where
  plan : PlanAt w b g h pd
  map : MapOk w g pd.ps
  tab : TabW w
  ng : 1 ≠ g
theorem PEnv.kept {w w' : World} {b g : Nat} {h : PH} {pd : PD} (e : PEnv w b g h pd) (k : Kept (fun x => x ≠ g) w w') (m : MapOk w' g pd.ps) : PEnv w' b g h pd :=
  ⟨e.plan.kept k, m, CellsAt.kept e.tab k e.ng, e.ng⟩
theorem PEnv.ext {w w' : World} {b g : Nat} {h : PH} {pd : PD} (e : PEnv w b g h pd) (k : Ext w w') : PEnv w' b g h pd := e.kept k.any (e.map.kept k trivial)

theorem c_tree {b g : Nat} {h : PH} {pd : PD} (hok : PdOk pd) : ∀ (f S : Nat), S < 4096 → S < f → ∀ (w : World), PEnv w b g h pd →
    CallZ Tryd.prog 26 #[ptr b, .int .i64 (S : Int)] w (fun v w' => ∃ cs, v = .agg cs.toArray ∧ (tTr f).rep (fun x => w.heap.size ≤ x) w' cs (ptree pd.ps f S) ∧ Kept (fun x => x ≠ g) w w' ∧ MapOk w' g pd.ps) := by
  intro f
  induction f with
  | zero => exact fun S _ hf => absurd hf (Nat.not_lt_zero _)
  | succ f ih =>
    intro S hS hf w env
    have hgl := env.map.lt
    refine fn_rule (args := [ptr b, .int .i64 (S : Int)]) Tryd.func26 (by kernel_rfl) ?_
    refine alloc (fun r4 w1 h1 => ?_)
    have e1 := h1.at_
    have s1 := h1.size
    have env1 := env.ext h1.ext
    refine call_of (c_choose hok hS env1.plan env1.map) ?_
    rintro _ w2 ⟨rfl, k2, m2⟩
    have env2 := env1.kept k2 m2
    have s2 := k2.size
    refine alloc (fun r5 w3 h3 => ?_)
    have e3 := h3.at_
    have s3 := h3.size
    refine stA (vs := [.int .i64 _, .int .i64 _]) h3.blk rfl (Nat.le_of_ble_eq_true rfl) (by simp [Value.oneCell']) (fun w4 hb4 hk4 hz4 => ?_)
    have hb4 : Blk w4 r5 57 [.int .i64 (B pd.ps S).1, .int .i64 (B pd.ps S).2] := hb4
    have hx4 : Ext w2 w4 := h3.ext.then hk4 (fun b hb _ e => by omega)
    have env4 := env2.ext hx4
    have s4 := hx4.size
    have k4 : Kept (fun x => x ≠ g) w w4 := (h1.ext.any.trans k2).trans hx4.any
    have hr4 : Blk w4 r4 29 [.int .i64 0, .slice none 0 0, .slice none 0 0] := (h1.blk.kept k2 (by omega)).ext hx4
    refine fldA ?_
    refine ld _ (hb4.cell rfl) ?_
    refine cD (fun hneg => ?_) (fun hpos => ?_)
    · refine call_of (c_list hS env4.tab) ?_
      rintro _ w5 ⟨hx5, A5, n5, c5, rfl, hle5, hl5⟩
      have s5 := hx5.size
      refine bld [.int .i64 0, .slice A5 n5 c5, .slice none 0 0] (by kernel_rfl) ?_
      refine stA (vs := [.int .i64 0, .slice A5 n5 c5, .slice none 0 0]) (hr4.ext hx5) rfl (Nat.le_of_ble_eq_true rfl) (by simp [Value.oneCell']) (fun w6 hb6 k6 hz6 => ?_)
      have hb6 : Blk w6 r4 29 [.int .i64 0, .slice A5 n5 c5, .slice none 0 0] := hb6
      refine ret ?_
      refine resL _ (holds_agg (.blk hb6) rfl) ?_
      refine ⟨_, rfl, ?_, (k4.trans hx5.any).then k6 (fun b hb _ e => by omega), (env4.map.kept hx5 trivial).kept k6 (by omega)⟩
      rw [ptree, if_pos hneg]
      exact tr_mk (t := .mk 0 _ []) i64_0 (((hl5.kept k6 (fun b _ h e => by omega)).more (by decide) (fun b _ h => by omega)).nats) hle5 .nil (Nat.le_refl _)
    · obtain ⟨x, hx, hsep⟩ := B_sep (ps := pd.ps) (S := S) (by omega)
      obtain ⟨p1, p2, p3⟩ := psep_lt hsep
      have hBo := B_ok hok.psOk S
      have hm : mAt pd.ps (B pd.ps S).2 = x.2 := by unfold mAt; rw [List.getD_eq_getElem?_getD, hx]; rfl
      have hxs : pd.shown[(B pd.ps S).2.toNat]? = some x.2 := (List.getElem?_zip_eq_some.1 hx).2
      obtain ⟨bs, os, cs, y, hA1, hy, -, -, hc, hr⟩ := env4.plan.shown.at_ (k := (B pd.ps S).2.toNat) (by have := env4.plan.shown.1; have := (List.getElem?_eq_some_iff.1 hxs).1; omega)
      obtain ⟨rfl, -⟩ := tNat_rep hr
      obtain rfl : y = x.2 := by rw [hxs] at hy; injection hy with e; exact e.symm
      have hn1 := env4.plan.shown.1
      have hlt1 := (List.getElem?_eq_some_iff.1 hxs).1
      have hx12 := hok.lt x.2 (List.mem_of_getElem? hxs)
      refine drawQ mx (by kernel_rfl) ?_
      refine fldA ?_
      refine ld (.slice (some (ad bs os)) h.n1 h.c1) (by rw [← hA1]; exact env4.plan.blk.cell rfl) ?_
      refine fldA ?_
      refine ld _ (hb4.cell rfl) ?_
      refine idx (B pd.ps S).2.toNat (by omega) (by omega) ?_
      refine ld _ (hc 0 _ rfl) ?_
      refine andV (fun T hT => ?_)
      rw [← hT] at p1 p2 p3
      refine drawK (fun y => y ≠ g ∧ y ≠ r4) [0, 1, 2, 3, 4, 5, 7, 8, 6, 9, 10, 11, 12] [6, 9, 10, 12] mx (by kernel_rfl) ?_
      refine fldA ?_
      refine ldK _ (hb4.cell rfl) ⟨show r5 ≠ g by omega, show r5 ≠ r4 by omega⟩ (.refl _ _) ?_
      refine andNotV (fun q hq => ?_)
      have hqT : q = S - T := by rw [hq, hT, and_and_self']
      refine call_of (ih q (by omega) (by omega) w4 env4) ?_
      rintro _ w5 ⟨cs5, rfl, hr5, k5, m5⟩
      have env5 := env4.kept k5 m5
      have s5 := k5.size
      refine strK (k5.weak fun _ _ h => h.1) ?_
      refine call_of (ih T (by omega) (by omega) w5 env5) ?_
      rintro _ w6 ⟨cs6, rfl, hr6, k6, m6⟩
      have env6 := env5.kept k6 m6
      have s6 := k6.size
      refine strK (k6.weak fun _ _ h => h.1) ?_
      obtain ⟨f, rfl⟩ := tr_pos hr5
      have hr5' := (tTr (f + 1)).kept hr5 k6 (fun b _ h e => by omega)
      obtain ⟨_, _, _, _, _, _, rfl, -⟩ := tr_open hr5
      obtain ⟨_, _, _, _, _, _, rfl, -⟩ := tr_open hr6
      refine lit [.agg _, .agg _] (fun g7 w7 hb7 => ?_)
      have e7 := hb7.at_
      have s7 := hb7.size
      refine strK hb7.ext.any ?_
      refine bld [.int .i64 (B pd.ps S).2, .slice none 0 0, .slice (some (ad g7 0)) 2 2] (by kernel_rfl) ?_
      have hr47 := ((hr4.kept k5 (by omega)).kept k6 (by omega)).ext hb7.ext
      refine stA (vs := [.int .i64 (B pd.ps S).2, .slice none 0 0, .slice (some (ad g7 0)) 2 2]) hr47 rfl (Nat.le_of_ble_eq_true rfl) (by simp [Value.oneCell']) (fun w8 hb8 k8 hz8 => ?_)
      have hb8 : Blk w8 r4 29 [.int .i64 (B pd.ps S).2, .slice none 0 0, .slice (some (ad g7 0)) 2 2] := hb8
      refine strK (k8.weak fun _ _ h => h.2) ?_
      have hbl7 : Blk w7 g7 29 ([.int .i64 _, .slice _ _ _, .slice _ _ _] ++ [.int .i64 _, .slice _ _ _, .slice _ _ _]) := hb7.blk
      refine ret ?_
      refine resL _ (holds_agg (.blk hb8) rfl) ?_
      have k68 : Kept (fun b => b ≠ r4) w6 w8 := hb7.ext.any.trans k8
      refine ⟨_, rfl, ?_, (((k4.trans k5).trans k6).trans hb7.ext.any).then k8 (fun b hb _ e => by omega), (m6.kept hb7.ext trivial).kept k8 (by omega)⟩
      have r5 := (tTr (f + 1)).kept hr5' k68 (fun b _ h e => by omega)
      have r6 := (tTr (f + 1)).kept hr6 k68 (fun b _ h e => by omega)
      have r5 := (tTr (f + 1)).more (D' := fun x => w.heap.size ≤ x) (fun b _ h => by omega) r5
      have r6 := (tTr (f + 1)).more (D' := fun x => w.heap.size ≤ x) (fun b _ h => by omega) r6
      rw [hqT] at r5
      rw [ptree, if_neg hpos, hm, ← hT]
      have hpl : pd.ps.length ≤ 12 := by unfold PD.ps; rw [List.length_zip]; have := hok.le; omega
      have hi64 : I64 (B pd.ps S).2 := by have := hBo.2.2.2; constructor <;> omega
      refine tr_mk (t := .mk _ [] [_, _]) hi64 .nil (Nat.le_refl _) ?_ (Nat.le_refl _)
      exact SlR.of_cells rfl (by decide) (by show w.heap.size ≤ g7; omega) (.blk (hbl7.kept k8 (by omega))) ⟨_, _, (by rw [hqT]; rfl), r5, _, [], rfl, r6, rfl⟩
end Go.Proofs.YtpmmhcgghldaaaaDoor
