/- Contracts of the program: the best choice. -/
import Derived.Test.YtpmmhcgghldaaaaDoorQ2
namespace Go.Proofs.YtpmmhcgghldaaaaDoor
open Go Go.RowKit

theorem Kept.any {D : Nat → Prop} {a b : World} (h : Kept (fun _ => True) a b) : Kept D a b := Ext.any h
/-- What choose's inner function stands on. -/
structure ChEnv (w : World) (b g bx bl : Nat) (h : PH) (pd : PD) : Prop where
  plan : PlanAt w b g h pd
  x : w.cell? (ad bx 0) = some (ptr b)
  least : w.cell? (ad bl 0) = some (.func (.func 42) #[] #[ptr bx, ptr bl])
  nx : bx ≠ g
  nl : bl ≠ g
  map : MapOk w g pd.ps
theorem ChEnv.kept {w w' : World} {b g bx bl : Nat} {h : PH} {pd : PD} (e : ChEnv w b g bx bl h pd) (k : Kept (fun x => x ≠ g) w w') (m : MapOk w' g pd.ps) : ChEnv w' b g bx bl h pd :=
  ⟨e.plan.kept k, k.cell e.x e.nx, k.cell e.least e.nl, e.nx, e.nl, m⟩
theorem ChEnv.ext {w w' : World} {b g bx bl : Nat} {h : PH} {pd : PD} (e : ChEnv w b g bx bl h pd) (k : Ext w w') : ChEnv w' b g bx bl h pd := e.kept k.any (e.map.kept k trivial)
theorem and_and_self' (m S : Nat) : S &&& (m &&& S) = m &&& S := by
  rw [Nat.and_comm m S, ← Nat.and_assoc, Nat.and_self]
theorem zip_at {α β : Type} {xs : List α} {ys : List β} {k : Nat} {x : α} {y : β} (hx : xs[k]? = some x) (hy : ys[k]? = some y) : (xs.zip ys).drop k = (x, y) :: (xs.zip ys).drop (k + 1) := zip_drop_cons hx hy

theorem c_choose1 {b g bx bl : Nat} {h : PH} {pd : PD} (hok : PdOk pd) : ∀ (S : Nat), S < 4096 → ∀ (w : World), ChEnv w b g bx bl h pd →
    CallZ Tryd.prog 42 #[.int .i64 (S : Int), ptr bx, ptr bl] w (fun v w' => v = cval (B pd.ps S) ∧ Kept (fun x => x ≠ g) w w' ∧ MapOk w' g pd.ps) := by
  intro S
  induction S using Nat.strongRecOn with
  | _ S ih =>
    intro hS w env
    refine fn_rule (args := [.int .i64 (S : Int), ptr bx, ptr bl]) Tryd.func42 (by kernel_rfl) ?_
    refine box (fun b3 w1 h3 => ?_)
    refine alloc (fun r4 w2 h4 => ?_)
    have env2 := (env.ext h3.ext).ext h4.ext
    have hgl := env.map.lt
    have hb3 := h3.at_
    have hr4 := h4.at_
    have hs3 := h3.size
    have hs4 := h4.size
    have c3 : w2.cell? (ad b3 0) = some (.int .i64 (S : Int)) := (h3.blk.ext h4.ext).cell rfl
    have k2 : Kept (fun x => x ≠ g) w w2 := (h3.ext.trans h4.ext).any
    obtain ⟨f, hf, hfok⟩ := env2.map
    cases hfS : f (S : Int) with
    | some v =>
      obtain ⟨S', hS', rfl⟩ := hfok _ _ hfS
      obtain rfl : S = S' := by omega
      refine drawX [0, 1, 2, 3, 4, 5, 6, 7, 8, 9, 10, 11] [9, 10] mx (by kernel_rfl) ?_
      refine ldX _ env2.x (.refl _ _) ?_
      refine fldA ?_
      refine ldX (.map (some g)) (env2.plan.blk.cell rfl) (.refl _ _) ?_
      refine ldX _ c3 (.refl _ _) ?_
      refine lookT _ (fun u hu => hf.kept hu trivial) hfS ?_
      refine alloc (fun r5 w3 h5 => ?_)
      refine strS h5.ext ?_
      refine stA (vs := [.int .i64 _, .int .i64 _]) h5.blk rfl (Nat.le_of_ble_eq_true rfl) (by simp [Value.oneCell']) (fun w4 hb4 hk4 hz4 => ?_)
      have hr5 := h5.at_
      have hx4 : Ext w2 w4 := h5.ext.then hk4 (fun b hb _ e => by omega)
      refine strS hx4 ?_
      have hb4 : Blk w4 r5 57 [.int .i64 _, .int .i64 _] := hb4
      refine ldA [.int .i64 _, .int .i64 _] (.blk hb4) rfl ?_
      have hb44 : Blk w4 r4 57 [.int .i64 0, .int .i64 0] := h4.blk.ext hx4
      refine stA (vs := [.int .i64 _, .int .i64 _]) hb44 rfl (Nat.le_of_ble_eq_true rfl) (by simp [Value.oneCell']) (fun w5 hb5 hk5 hz5 => ?_)
      have hb5 : Blk w5 r4 57 [.int .i64 _, .int .i64 _] := hb5
      refine ret ?_
      refine resL _ (holds_agg (.blk hb5) rfl) ?_
      have k5 : Kept (fun x => x ≠ g) w w5 := k2.then ((hx4.any (D := fun b => b ≠ r4)).trans hk5) (fun b hb _ e => by omega)
      exact ⟨rfl, k5, (MapOk.kept ⟨f, hf, hfok⟩ ((hx4.any (D := fun b => b ≠ r4)).trans hk5) (by omega))⟩
    | none =>
      refine drawX [0, 1, 2, 3, 4, 5, 6, 7, 8, 9, 10, 11] [9, 10] mx (by kernel_rfl) ?_
      refine ldX _ env2.x (.refl _ _) ?_
      refine fldA ?_
      refine ldX (.map (some g)) (env2.plan.blk.cell rfl) (.refl _ _) ?_
      refine ldX _ c3 (.refl _ _) ?_
      refine lookF (fun u hu => hf.kept hu trivial) hfS ?_
      refine alloc (fun r5 w3 h5 => ?_)
      refine strS h5.ext ?_
      refine stA (vs := [.int .i64 0, .int .i64 0]) h5.blk rfl (Nat.le_of_ble_eq_true rfl) (by simp [Value.oneCell']) (fun w4 hb4 hk4 hz4 => ?_)
      have hr5 := h5.at_
      have hs5 := h5.size
      have hx4 : Ext w2 w4 := h5.ext.then hk4 (fun b hb _ e => by omega)
      refine strS hx4 ?_
      refine bld [.int .i64 0, .int .i64 (-1)] (by kernel_rfl) ?_
      refine alloc (fun r7 w5 h7 => ?_)
      refine stA (vs := [.int .i64 0, .int .i64 (-1)]) h7.blk rfl (Nat.le_of_ble_eq_true rfl) (by simp [Value.oneCell']) (fun w6 hb6 hk6 hz6 => ?_)
      have hb6 : Blk w6 r7 57 [.int .i64 0, .int .i64 (-1)] := hb6
      have hr7 := h7.at_
      have hs7 := h7.size
      have hx6 : Ext w2 w6 := (hx4.trans h7.ext).then hk6 (fun b hb _ e => by omega)
      have env6 := env2.ext hx6
      have c36 := hx6.cell c3 trivial
      refine ld _ env6.x ?_
      refine ld _ c36 ?_
      refine call_of c_separating ?_
      rintro _ w7 ⟨b1, b2, rfl, hx7, hc1, hc2, hb1, hb2⟩
      have env7 := env6.ext hx7
      have hb7 := hb6.ext hx7
      have hz6' := hx6.size
      have hz7 := hx7.size
      have hr7l := hb6.lt
      have c37 := hx7.cell c36 trivial
      have hb47 := ((h4.blk.ext hx6).ext hx7)
      have hwx7 : Ext w w7 := ((h3.ext.trans h4.ext).trans hx6).trans hx7
      have hlen := hok.len
      refine range (gf := 49) (lb := #[ptr b1, ptr b2]) rfl (fun fn tmps w8 R hR hF hwf hx8 hsz8 hD8 hl8 => ?_)
      show CallZ _ _ #[.func (.yield (w7.heap.size + 1)) #[] #[], ptr b1, ptr b2] w8 _
      have hw8 := hwx7.trans hx8
      have hws := hwx7.size
      obtain ⟨l, hl⟩ : ∃ l, l = w7.heap.size + 1 := ⟨_, rfl⟩
      have env8 : ChEnv w8 b g bx bl h pd := env.ext hw8
      have hJ8 : ∀ w', Kept (fun x => x ≠ g ∧ x ≠ r7 ∧ x ≠ l) w8 w' → Kept (fun x => x ≠ g) w w' := fun w' k => hw8.any.then k (fun b hb hne => ⟨hne, by omega, by omega⟩)
      refine (c_separating1 (b := b) (g := g) (bx := b1) (bs := b2) (S := S) (h := h) hok hS
        (fun k w' => Kept (fun x => x ≠ g ∧ x ≠ r7 ∧ x ≠ l) w8 w' ∧ MapOk w' g pd.ps ∧ LoopAt w' (w7.heap.size + 1) R ∧ ∃ a : Int × Int, Blk w' r7 57 [.int .i64 a.1, .int .i64 a.2] ∧ accOk S k a ∧ B pd.ps S = pfold (B pd.ps) S k (pd.ps.drop k) a)
        (fun _ => False) ?_ ?_ ?_ ?_).mono ?_
      · rintro k w' ⟨hk, hm, -, -⟩
        exact ⟨env.plan.kept (hJ8 w' hk), hk.cell (hx8.cell hc1 trivial) ⟨by show b1 ≠ g; omega, by show b1 ≠ r7; omega, by show b1 ≠ l; have := lt_of_cell hc1; omega⟩, hk.cell (hx8.cell hc2 trivial) ⟨by show b2 ≠ g; omega, by show b2 ≠ r7; omega, by show b2 ≠ l; have := lt_of_cell hc2; omega⟩⟩
      · rintro k w' m ⟨hk, hm, hlp, a, hba, hao, hB⟩ hmk hsep T hT
        obtain ⟨p1, p2, p3⟩ := psep_lt hsep
        rw [← hT] at p1 p2 p3
        have hkl := (List.getElem?_eq_some_iff.1 hmk).1
        obtain ⟨cst, hck⟩ : ∃ c, pd.costs[k]? = some c := ⟨_, List.getElem?_eq_getElem (by omega)⟩
        have hcok := hok.cost cst (List.mem_of_getElem? hck)
        have hdrop : pd.ps.drop k = (cst, m) :: pd.ps.drop (k + 1) := zip_at hck hmk
        rw [hdrop, pfold] at hB
        subst hR
        refine yield_rule (args := [.int .i64 (k : Int), .int .i64 (T : Int)]) hlp rfl rfl hF hwf ?_
        refine mid' hlp (fun w9 kp hsz9 hl9 => ?_)
        have hsz' := hk.size
        have k9 : Kept (fun x => x ≠ g ∧ x ≠ r7 ∧ x ≠ l) w8 w9 := hk.then kp (fun b _ h e => h.2.2 (by omega))
        have env9 : ChEnv w9 b g bx bl h pd := env.kept (hJ8 w9 k9) (hm.kept kp (by omega))
        have hba9 : Blk w9 r7 57 _ := hba.kept kp (by omega)
        have c39 : w9.cell? (ad b3 0) = some (.int .i64 (S : Int)) := k9.cell (hx8.cell c37 trivial) ⟨by show b3 ≠ g; omega, by show b3 ≠ r7; omega, by show b3 ≠ l; omega⟩
        obtain ⟨bc, oc, cc, x, hA2, hx2, -, hbcD, hcc, rfl, -⟩ := env9.plan.costs.at_ (k := k) (by have := env9.plan.costs.1; omega)
        obtain rfl : x = cst := by rw [hck] at hx2; injection hx2 with e; exact e.symm
        have hn2 := env9.plan.costs.1
        refine drawK (fun x => x ≠ g) [0, 1, 2, 3, 4, 5, 6, 7, 8, 11, 12, 13, 14, 9, 10, 15, 16, 17, 18, 19] [9, 15] mx (by kernel_rfl) ?_
        refine ldK _ env9.x env9.nx (.refl _ _) ?_
        refine fldA ?_
        refine ldK (.slice (some (ad bc oc)) h.n2 h.c2) (by rw [← hA2]; exact env9.plan.blk.cell rfl) env9.plan.ne (.refl _ _) ?_
        refine idx k rfl (by omega) ?_
        refine ldK _ (hcc 0 _ rfl) hbcD (.refl _ _) ?_
        refine ldK _ env9.least env9.nl (.refl _ _) ?_
        refine ldK _ env9.least env9.nl (.refl _ _) ?_
        refine ldK _ c39 (show b3 ≠ g by omega) (.refl _ _) ?_
        refine andNotV (fun q hq => ?_)
        have hqT : q = S - T := by rw [hq, hT, and_and_self']
        refine call_of (ih T p1 (by omega) w9 env9) ?_
        rintro _ w10 ⟨rfl, k10, m10⟩
        refine strK k10 ?_
        have env10 := env9.kept k10 m10
        refine fldV (cs := [.int .i64 _, .int .i64 _]) _ rfl ?_
        refine call_of (ih q (by omega) (by omega) w10 env10) ?_
        rintro _ w11 ⟨rfl, k11, m11⟩
        refine strK k11 ?_
        refine fldV (cs := [.int .i64 _, .int .i64 _]) _ rfl ?_
        have o1 := B_ok hok.psOk T
        have o2 := B_ok hok.psOk q
        obtain ⟨o1a, o1b, -, -⟩ := o1
        obtain ⟨o2a, o2b, -, -⟩ := o2
        have hstep : pstep (B pd.ps) S k (x, m) a = if a.2 < 0 ∨ x + max (B pd.ps T).1 (B pd.ps q).1 < a.1 then (x + max (B pd.ps T).1 (B pd.ps q).1, (k : Int)) else a := by
          unfold pstep; rw [if_pos hsep, ← hT, hqT]
        have hok' := pstep_ok (rec := B pd.ps) (S := S) (i := k) (x := (x, m)) (acc := a) (fun T _ => ⟨(B_ok hok.psOk T).1, (B_ok hok.psOk T).2.1⟩) hcok hao
        rw [hstep] at hB hok'
        refine arI (by omega) ?_
        generalize hn : x + max (B pd.ps T).1 (B pd.ps q).1 = nn at hB hok' ⊢
        have k911 := k10.trans k11
        have hba11 : Blk w11 r7 57 _ := hba9.kept k911 (by omega)
        have hl11 := hl9.kept k911 (show w7.heap.size + 1 ≠ g by omega)
        have fin : ∀ (a' : Int × Int) (w12 w13 : World), Kept (fun b => b ≠ r7) w11 w12 → Kept (fun b => b ≠ w7.heap.size + 1) w12 w13 → Kept (fun x => x ≠ g ∧ x ≠ r7 ∧ x ≠ l) w8 w13 ∧ MapOk w13 g pd.ps := fun a' w12 w13 k12 k13 =>
          ⟨((k9.then k911 (fun b _ h => h.1)).then k12 (fun b _ h => h.2.1)).then k13 (fun b _ h e => h.2.2 (by omega)), (m11.kept k12 (by omega)).kept k13 (by omega)⟩
        have put : ∀ K, (∀ w', Blk w' r7 57 [.int .i64 nn, .int .i64 (k : Int)] → Kept (fun b => b ≠ r7) w11 w' → K undef w') → StoreP Tryd.prog 57 (.pointer (some (ad r7 0))) (.agg #[.int .i64 nn, .int .i64 (k : Int)]) K w11 := fun K hK =>
          stA (vs := [.int .i64 nn, .int .i64 (k : Int)]) hba11 rfl (Nat.le_of_ble_eq_true rfl) (by simp [Value.oneCell']) (fun w12 hb12 hk12 _ => hK w12 hb12 hk12)
        refine fldA ?_
        refine ld _ (hba11.cell rfl) ?_
        refine cD (fun h1 => ?_) (fun h1 => ?_)
        · rw [if_pos (.inl h1)] at hB hok'
          refine bld [.int .i64 nn, .int .i64 (k : Int)] (by kernel_rfl) ?_
          refine put _ (fun w12 hb12 k12 => ?_)
          have hl12 := hl11.kept k12 (show w7.heap.size + 1 ≠ r7 by omega)
          refine roundN' _ hl12 (fun w13 k13 hl13 => ?_)
          obtain ⟨f1, f2⟩ := fin a w12 w13 k12 k13
          exact .inl ⟨rfl, f1, f2, hl13, (nn, (k : Int)), hb12.kept k13 (by omega), hok', hB⟩
        · refine fldA ?_
          refine ld _ (hba11.cell rfl) ?_
          refine cD (fun h2 => ?_) (fun h2 => ?_)
          · rw [if_pos (.inr h2)] at hB hok'
            refine bld [.int .i64 nn, .int .i64 (k : Int)] (by kernel_rfl) ?_
            refine put _ (fun w12 hb12 k12 => ?_)
            have hl12 := hl11.kept k12 (show w7.heap.size + 1 ≠ r7 by omega)
            refine roundN' _ hl12 (fun w13 k13 hl13 => ?_)
            obtain ⟨f1, f2⟩ := fin a w12 w13 k12 k13
            exact .inl ⟨rfl, f1, f2, hl13, (nn, (k : Int)), hb12.kept k13 (by omega), hok', hB⟩
          · rw [if_neg (by rintro (h | h); exact h1 h; exact h2 h)] at hB hok'
            refine roundN' _ hl11 (fun w13 k13 hl13 => ?_)
            obtain ⟨f1, f2⟩ := fin a w11 w13 (.refl _ _) k13
            exact .inl ⟨rfl, f1, f2, hl13, a, hba11.kept k13 (by omega), hok', hB⟩
      · rintro k w' m ⟨hk, hm, hlp, a, hba, hao, hB⟩ hmk hsep
        have hkl := (List.getElem?_eq_some_iff.1 hmk).1
        obtain ⟨cst, hck⟩ : ∃ c, pd.costs[k]? = some c := ⟨_, List.getElem?_eq_getElem (by omega)⟩
        have hdrop : pd.ps.drop k = (cst, m) :: pd.ps.drop (k + 1) := zip_at hck hmk
        rw [hdrop, pfold] at hB
        have hst : pstep (B pd.ps) S k (cst, m) a = a := by unfold pstep; rw [hsep]; rfl
        rw [hst] at hB
        exact ⟨hk, hm, hlp, a, hba, ⟨hao.1, hao.2.1, hao.2.2.1, by have := hao.2.2.2; omega⟩, hB⟩
      · refine ⟨.refl _ _, env8.map, hl8, (0, -1), hb7.ext hx8, ⟨by decide, by show (0 : Int) ≤ (S : Int) * 1048576; omega, by decide, by decide⟩, B_eq _ _⟩
      · rintro v w9 (⟨hk, hm, hlp, a, hba, hao, hB⟩ | hfalse)
        · subst hR
          refine range_end _ hlp (by simp) (fun w10 k10 => ?_)
          have hBf : B pd.ps S = a := by
            rw [hB, List.drop_eq_nil_of_le (by unfold PD.ps; rw [List.length_zip]; omega)]; rfl
          have k810 : Kept (fun x => x ≠ g ∧ x ≠ r7 ∧ x ≠ l) w8 w10 := hk.then k10 (fun b _ h e => h.2.2 (by omega))
          have env10 : ChEnv w10 b g bx bl h pd := env.kept (hJ8 w10 k810) (hm.kept k10 (by omega))
          have hba10 : Blk w10 r7 57 [.int .i64 a.1, .int .i64 a.2] := hba.kept k10 (by omega)
          have c310 : w10.cell? (ad b3 0) = some (.int .i64 (S : Int)) := k810.cell (hx8.cell c37 trivial) ⟨by show b3 ≠ g; omega, by show b3 ≠ r7; omega, by show b3 ≠ l; omega⟩
          have hD10 : w10.heap[w7.heap.size]? = some (.deferred (some [])) := (k810.blk _ (by omega) ⟨by omega, by omega, by omega⟩).trans hD8
          have hb410 : Blk w10 r4 57 [.int .i64 0, .int .i64 0] := (hb47.ext hx8).kept k810 ⟨by omega, by omega, by omega⟩
          obtain ⟨f', hf', hfok'⟩ := env10.map
          refine drawK (fun x => x ≠ g) [0, 1, 2, 3, 4, 5, 6] [6] mx (by kernel_rfl) ?_
          refine ldK _ env10.x env10.nx (.refl _ _) ?_
          refine fldA ?_
          refine ldK (.map (some g)) (env10.plan.blk.cell rfl) env10.plan.ne (.refl _ _) ?_
          refine ldK _ c310 (show b3 ≠ g by omega) (.refl _ _) ?_
          refine ldAK [.int .i64 a.1, .int .i64 a.2] (.blk hba10) rfl (show r7 ≠ g by omega) (.refl _ _) ?_
          refine mupd hf' (fun w11 hf11 k11 hz11 => ?_)
          refine strK k11 ?_
          have hm11 : MapOk w11 g pd.ps := ⟨_, hf11, fun kk v hv => by
            unfold fset at hv
            split at hv
            · rename_i e; injection hv with hv; exact ⟨S, e, by rw [← hv, hBf]; rfl⟩
            · exact hfok' kk v hv⟩
          have hba11 := hba10.kept k11 (show r7 ≠ g by omega)
          refine ldA [.int .i64 a.1, .int .i64 a.2] (.blk hba11) rfl ?_
          refine stA (vs := [.int .i64 a.1, .int .i64 a.2]) (hb410.kept k11 (by omega)) rfl (Nat.le_of_ble_eq_true rfl) (by simp [Value.oneCell']) (fun w12 hb12 k12 _ => ?_)
          have hb12 : Blk w12 r4 57 [.int .i64 a.1, .int .i64 a.2] := hb12
          have hD12 : w12.heap[w7.heap.size]? = some (.deferred (some [])) := (k12.blk _ (by have := k11.size; have := (Array.getElem?_eq_some_iff.1 hD10).1; omega) (by omega)).trans ((k11.blk _ (Array.getElem?_eq_some_iff.1 hD10).1 (by omega)).trans hD10)
          refine retM hD12 ?_
          have kD := Kept.putObj w12 w7.heap.size (.deferred none)
          refine resL _ (holds_agg (.blk (hb12.kept kD (by omega))) rfl) ?_
          refine ⟨by rw [hBf]; rfl, ?_, (hm11.kept k12 (by omega)).kept kD (by omega)⟩
          exact (((hJ8 w10 k810).trans k11).then k12 (fun b hb _ e => by omega)).then kD (fun b hb _ e => by omega)
        · exact hfalse.elim

theorem c_choose {w : World} {b g S : Nat} {h : PH} {pd : PD} (hok : PdOk pd) (hS : S < 4096) (hp : PlanAt w b g h pd) (hm : MapOk w g pd.ps) :
    CallZ Tryd.prog 28 #[ptr b, .int .i64 (S : Int)] w (fun v w' => v = cval (B pd.ps S) ∧ Kept (fun x => x ≠ g) w w' ∧ MapOk w' g pd.ps) := by
  have hgl := hm.lt
  refine fn_rule (args := [ptr b, .int .i64 (S : Int)]) Tryd.func28 (by kernel_rfl) ?_
  refine box (fun bx w1 h1 => ?_)
  refine alloc (fun r4 w2 h2 => ?_)
  refine alloc (fun bl w3 h3 => ?_)
  have e1 := h1.at_
  have e2 := h2.at_
  have e3 := h3.at_
  have s1 := h1.size
  have s2 := h2.size
  have s3 := h3.size
  refine st h3.blk (by decide) rfl (fun w4 hb4 hk4 hz4 => ?_)
  have hb4 : Blk w4 bl _ [.func (.func 42) #[] #[ptr bx, ptr bl]] := hb4
  have hx4 : Ext w2 w4 := h3.ext.then hk4 (fun b hb _ e => by omega)
  have hw2 : Ext w w2 := h1.ext.trans h2.ext
  have hw4 := hw2.trans hx4
  have env : ChEnv w4 b g bx bl h pd := ⟨hp.kept hw4.any, ((h1.blk.ext h2.ext).ext hx4).cell rfl, hb4.cell rfl, by omega, by omega, hm.kept hw4 trivial⟩
  refine ld _ env.least ?_
  refine call_of (c_choose1 hok S hS w4 env) ?_
  rintro _ w5 ⟨rfl, hk5, hm5⟩
  have hb25 : Blk w5 r4 57 [.int .i64 0, .int .i64 0] := (h2.blk.ext hx4).kept hk5 (by omega)
  refine stA (vs := [.int .i64 _, .int .i64 _]) hb25 rfl (Nat.le_of_ble_eq_true rfl) (by simp [Value.oneCell']) (fun w6 hb6 hk6 hz6 => ?_)
  have hb6 : Blk w6 r4 57 [.int .i64 _, .int .i64 _] := hb6
  refine ret ?_
  refine resL _ (holds_agg (.blk hb6) rfl) ?_
  have hz4' := hw4.size
  exact ⟨rfl, ((hw4.any (D := fun x => x ≠ g)).trans hk5).then hk6 (fun b hb _ e => by omega), hm5.kept hk6 (by omega)⟩
end Go.Proofs.YtpmmhcgghldaaaaDoor
