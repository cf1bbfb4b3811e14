/- Parts of the proof: A9 Aa Ab C1 C2 B1 B2 B3. -/
import Derived.Test.YtffdjecdcbbfaaaGreatM6
import Derived.Test.YtffdjecdcbbfaaaGreatM3
import Derived.ProofKit
import Derived.OpenShut
import Derived.LaidMore
import Derived.Deep.DeepHandedRow
import Derived.Test.YtffdjecdcbbfaaaGreatM4

/- Contracts: expand.Check. -/
namespace Go.Proofs.YtffdjecdcbbfaaaGreat
open Go Go.RowKit

def tooMany (d : Dist) : Bool := !(decide (d.reaches.length ≤ 64) && (decide (d.farms.length ≤ 600) && (decide (d.crops.length ≤ 32) && (decide (d.rights.length ≤ 256) && decide (d.duties.length ≤ 256)))))
def dErr (d : Dist) : Int := if tooMany d then 2 else if validB d then 0 else 191

section
variable {P : Program} {X : XK}
theorem run_equalNil {t u : TypeId} {v : Value} {ms : Array (String × TypeId)} (hu : P.underlying t = some (.interface ms)) (w : World) : (Op.equal t (.iface u v) .nilIface).run P w = .ok false w := by
  unfold Op.equal
  rw [show Op.maxDepth = (Op.maxDepth - 1) + 1 from rfl]
  rw [Op.equalIn, Sem.run_bind, run_underlying hu]
  rfl
theorem run_equalNil0 {t : TypeId} {ms : Array (String × TypeId)} (hu : P.underlying t = some (.interface ms)) (w : World) : (Op.equal t .nilIface .nilIface).run P w = .ok true w := by
  unfold Op.equal
  rw [show Op.maxDepth = (Op.maxDepth - 1) + 1 from rfl]
  rw [Op.equalIn, Sem.run_bind, run_underlying hu]
  rfl
theorem neNil {t u : TypeId} {v c : Value} {xo : Operand} {K : Value → Prop} {ms : Array (String × TypeId)} (hu : P.underlying t = some (.interface ms)) (k : K (.bool true)) : BinP P .neq t xo (.const c) (.iface u v) .nilIface K := by
  rw [BinP_eq]
  refine pure_vval (fun w => ?_) k
  have h1 : (eqGuard .neq t xo (.const c) (.iface u v) .nilIface).run P w = .ok () w := rfl
  have h2 : binOp .neq t (.iface u v) .nilIface = (do pure (.bool (!(← Op.equal t (.iface u v) .nilIface)))) := rfl
  rw [Sem.run_bind, h1, h2]
  simp only [Result.andThen_ok, Sem.run_bind, run_equalNil hu, Sem.run_pure]
  rfl
theorem neNil0 {t : TypeId} {c : Value} {xo : Operand} {K : Value → Prop} {ms : Array (String × TypeId)} (hu : P.underlying t = some (.interface ms)) (k : K (.bool false)) : BinP P .neq t xo (.const c) .nilIface .nilIface K := by
  rw [BinP_eq]
  refine pure_vval (fun w => ?_) k
  have h1 : (eqGuard .neq t xo (.const c) .nilIface .nilIface).run P w = .ok () w := by rw [eqGuard_nil_constR]; rfl
  have h2 : binOp .neq t .nilIface .nilIface = (do pure (.bool (!(← Op.equal t .nilIface .nilIface)))) := rfl
  rw [Sem.run_bind, h1, h2]
  simp only [Result.andThen_ok, Sem.run_bind, run_equalNil0 hu, Sem.run_pure]
  rfl
end
section
variable {D : Nat → Prop} {w : World}
theorem u20 : Tryz.prog.underlying 20 = some (.interface #[]) := by kernel_rfl
theorem c_rec {p : Nat} {e x : Int} {w0 : World} (hp : Blk (z w0) p 39 [iv x]) :
    CallsDIn Fence.wide 0 Tryz.prog 61 #[ptr p] (.panicking (refusal e)) w0 (fun e' u' w' => e' = .returned (.tuple #[]) ∧ u' = .panicking [{ v := .iface 158 (iv e), recovered := true }] ∧ Blk (z w') p 39 [iv e] ∧ Kept (fun b => b ≠ p) (z w0) (z w')) := by
  refine rec_rule (args := [ptr p]) (d0 := 2) (d1 := 1) (v := .iface 158 (iv e)) (u' := .panicking [{ v := .iface 158 (iv e), recovered := true }]) Tryz.func61 rfl (by kernel_rfl) ?_ w0 ?_
  · intro c₀ cs h
    simp [recoverD, h, refusal]
  · refine neNil u20 ?_
    refine call_of c_caught ?_
    rintro _ _ ⟨rfl, rfl⟩
    refine st1 hp rfl (fun w2 hb2 k2 => ?_)
    refine ⟨rfl, fun tmps w3 _ hw3 => ⟨.tuple #[], results_none rfl _ _ _, rfl, rfl, ?_⟩⟩
    subst hw3
    exact ⟨hb2, k2⟩
theorem c_idle {p : Nat} {w0 : World} :
    CallsDIn Fence.wide 0 Tryz.prog 61 #[ptr p] .returning w0 (fun e' u' w' => e' = .returned (.tuple #[]) ∧ u' = .returning ∧ z w' = z w0) := by
  refine rec_rule (args := [ptr p]) (d0 := 2) (d1 := 1) (v := .nilIface) (u' := .returning) Tryz.func61 rfl (by kernel_rfl) ?_ w0 ?_
  · intro c₀ cs h
    simp [recoverD, h]
  · refine neNil0 u20 ?_
    exact ⟨rfl, fun tmps w3 _ hw3 => ⟨.tuple #[], results_none rfl _ _ _, rfl, rfl, hw3⟩⟩
abbrev R2 (R : VK) : Ending → World → Prop := fun e w' => ∃ v, e = .returned v ∧ R v (z w')
theorem inv42 {q : Nat} (w0 : World) : (invoke (.fn (.func 61) #[ptr q]) #[]).run Tryz.prog w0 = .ok (.enter 61 #[ptr q]) w0 := (inferInstance : Enters Tryz.prog 61).h #[ptr q] w0
/-- The end: the result's cell is read. -/
theorem eEnd {q : Nat} {x : Int} {F : Fr} {R : VK} {tmps : Array Value} {w0 : World} (hF : ∀ t, tmps.getD t undef = F t) (h2 : F 2 = ptr q) (hb : Blk (z w0) q 39 [iv x]) (k : R (iv x) (z w0)) :
    LeavesInM Fence.wide 0 Tryz.prog Tryz.f33 tmps (R2 R) [] .returning w0 :=
  leaves_soundG (a := { tmps := tmps, defers := [] }) (R := R) (fun v _ h => ⟨v, rfl, h⟩) hF [] w0 (z w0) rfl (by
    show ResLP _ _ (F 2) _ _
    rw [h2]
    exact resL _ (holds_cell (hb.cell rfl)) k)
theorem door_idle {q : Nat} {x : Int} {F : Fr} {R : VK} {w : World} (h2 : F 2 = ptr q) (hb : Blk w q 39 [iv x]) (k : R (iv x) w) :
    KendL Tryz.prog Tryz.f33 (R2 R) .normal F [{ target := .fn (.func 61) #[ptr q], args := #[] }] w := by
  intro tmps w0 hF hw
  subst hw
  refine ⟨by simp, .inr ⟨(fun h => Bool.noConfusion h), _, _, 61, #[ptr q], rfl, inv42 w0, fun _ _ => trivial, c_idle.mono ?_⟩⟩
  rintro e u w1 ⟨rfl, rfl, hz⟩
  show LeavesInM _ _ _ _ _ _ [] .returning w1
  exact eEnd hF h2 (by rw [hz]; exact hb) (by rw [hz]; exact k)
theorem door_pan {q : Nat} {x e : Int} {F : Fr} {R : VK} {w : World} (h2 : F 2 = ptr q) (hb : Blk w q 39 [iv x]) (k : ∀ w', Kept (fun b => b ≠ q) w w' → R (iv e) w') :
    KendL Tryz.prog Tryz.f33 (R2 R) (.panic (refusal e)) F [{ target := .fn (.func 61) #[ptr q], args := #[] }] w := by
  intro tmps w0 hF hw
  subst hw
  refine ⟨by simp, .inr ⟨(fun h => Bool.noConfusion h), _, _, 61, #[ptr q], rfl, inv42 w0, fun _ _ => trivial, (c_rec hb).mono ?_⟩⟩
  rintro e' u w1 ⟨rfl, rfl, hb1, hk⟩
  show LeavesInM _ _ _ _ _ _ [] .returning w1
  exact eEnd hF h2 hb1 (k _ hk)
theorem c_eCheck {d : Dist} {cs : List Value} (hd : DiR D w cs d) : CallZ Tryz.prog 33 #[.agg cs.toArray] w (fun v w' => v = iv (dErr d) ∧ Ext w w') := by
  obtain ⟨A1, n1, c1, A2, n2, c2, A3, n3, c3, A4, n4, c4, A5, n5, c5, A6, n6, c6, rfl, hr, hf, hcr, hri, hdu, hwe⟩ := hd.ex
  have l1 := hr.len
  have l2 := hf.len
  have l3 := hcr.len
  have l4 := hri.len
  have l5 := hdu.len
  intro w00 hw00
  refine fn_ruleD (args := [.agg #[.string d.name, iv d.hours, iv d.cap, iv d.start, .slice A1 n1 c1, .slice A2 n2 c2, .slice A3 n3 c3, .slice A4 n4 c4, .slice A5 n5 c5, .slice A6 n6 c6]]) (d0 := 3) (c0 := 2) (w := w) Tryz.func33 rfl (by kernel_rfl) ?_ w00 hw00
  refine box (fun g w1 h1 => ?_)
  refine alloc (fun q w2 h2 => ?_)
  refine ⟨rfl, ?_⟩
  have bg := h1.blk.ext h2.ext
  have x2 := h1.ext.trans h2.ext
  have tiff : tooMany d = false ↔ n1 ≤ 64 ∧ n2 ≤ 600 ∧ n3 ≤ 32 ∧ n4 ≤ 256 ∧ n5 ≤ 256 := by unfold tooMany; rw [l1, l2, l3, l4, l5]; simp
  have bad : ¬ (n1 ≤ 64 ∧ n2 ≤ 600 ∧ n3 ≤ 32 ∧ n4 ≤ 256 ∧ n5 ≤ 256) → dErr d = 2 := fun h => by unfold dErr; rw [show tooMany d = true from by cases ht : tooMany d with | true => rfl | false => exact absurd (tiff.1 ht) h]; rfl
  have zz := h2.at_
  have z1 := h1.ext.size
  have fin : ∀ {w5 : World}, Ext w2 w5 → ∀ w', Kept (fun b => b ≠ q) w5 w' → Ext w w' := fun x5 w' k => (x2.trans x5).then k fun b hb _ e => by omega
  have qb := h2.blk
  refine fldA ?_
  refine ld (.slice A1 n1 c1) (bg.cell rfl) ?_
  refine len ?_
  refine cD (fun a1 => ?_) (fun a1 => ?_)
  rotate_left
  · refine dem (fun h => Bool.noConfusion h) (fun _ => ?_)
    exact fun F' hF' => door_pan (R := fun v w' => v = iv (dErr d) ∧ Ext w w') (hF' 2 rfl) qb fun w' k => ⟨by rw [bad (by omega)], fin (.refl _ _) w' k⟩
  refine fldA ?_
  refine ld (.slice A2 n2 c2) (bg.cell rfl) ?_
  refine len ?_
  refine cD (fun a2 => ?_) (fun a2 => ?_)
  rotate_left
  · refine dem (fun h => Bool.noConfusion h) (fun _ => ?_)
    exact fun F' hF' => door_pan (R := fun v w' => v = iv (dErr d) ∧ Ext w w') (hF' 2 rfl) qb fun w' k => ⟨by rw [bad (by omega)], fin (.refl _ _) w' k⟩
  refine fldA ?_
  refine ld (.slice A3 n3 c3) (bg.cell rfl) ?_
  refine len ?_
  refine cD (fun a3 => ?_) (fun a3 => ?_)
  rotate_left
  · refine dem (fun h => Bool.noConfusion h) (fun _ => ?_)
    exact fun F' hF' => door_pan (R := fun v w' => v = iv (dErr d) ∧ Ext w w') (hF' 2 rfl) qb fun w' k => ⟨by rw [bad (by omega)], fin (.refl _ _) w' k⟩
  refine fldA ?_
  refine ld (.slice A4 n4 c4) (bg.cell rfl) ?_
  refine len ?_
  refine cD (fun a4 => ?_) (fun a4 => ?_)
  rotate_left
  · refine dem (fun h => Bool.noConfusion h) (fun _ => ?_)
    exact fun F' hF' => door_pan (R := fun v w' => v = iv (dErr d) ∧ Ext w w') (hF' 2 rfl) qb fun w' k => ⟨by rw [bad (by omega)], fin (.refl _ _) w' k⟩
  refine fldA ?_
  refine ld (.slice A5 n5 c5) (bg.cell rfl) ?_
  refine len ?_
  refine cD (fun a5 => ?_) (fun a5 => ?_)
  rotate_left
  · refine dem (fun h => Bool.noConfusion h) (fun _ => ?_)
    exact fun F' hF' => door_pan (R := fun v w' => v = iv (dErr d) ∧ Ext w w') (hF' 2 rfl) qb fun w' k => ⟨by rw [bad (by omega)], fin (.refl _ _) w' k⟩
  refine dem (fun _ => ?_) (fun h => Bool.noConfusion h)
  have hT : tooMany d = false := tiff.2 (by omega)
  refine ldA [.string d.name, iv d.hours, iv d.cap, iv d.start, .slice A1 n1 c1, .slice A2 n2 c2, .slice A3 n3 c3, .slice A4 n4 c4, .slice A5 n5 c5, .slice A6 n6 c6] (.blk bg) rfl ?_
  refine call_ofX (c_examine (e := 191) (hd.ext x2)) ?_ ?_
  · rintro _ w5 ⟨rfl, hv, x5⟩
    refine st1 (qb.ext x5) rfl (fun w6 hb6 k6 => ?_)
    exact door_idle (R := fun v w' => v = iv (dErr d) ∧ Ext w w') rfl hb6 ⟨by unfold dErr; rw [hT, hv]; rfl, fin x5 _ k6⟩
  · rintro _ w5 ⟨hv, x5, rfl⟩
    exact fun F' hF' => door_pan (R := fun v w' => v = iv (dErr d) ∧ Ext w w') (hF' 2 rfl) (qb.ext x5) fun w' k => ⟨by unfold dErr; rw [hT, hv]; rfl, fin x5 w' k⟩
end
end Go.Proofs.YtffdjecdcbbfaaaGreat

/- Made by gen_XA10.py. Contracts: layer 19's reference. -/
namespace Go.Proofs.YtffdjecdcbbfaaaGreat
open Go Go.RowKit

section
variable {D : Nat → Prop} {w : World}
theorem c_within {n lo hi : Int} : CallZ Tryz.prog 98 #[iv n, iv lo, iv hi] w (fun v w' => v = .bool (inI n lo hi) ∧ w' = w) := by
  refine fn_rule (args := [iv n, iv lo, iv hi]) Tryz.func98 (by kernel_rfl) ?_
  refine cD (fun g1 => ?_) (fun g1 => ?_)
  · refine cD (fun g2 => ?_) (fun g2 => ?_)
    · exact ret1 (.bool true) rfl ⟨by rw [inI_iff.2 (by omega)], rfl⟩
    · exact ret1 (.bool false) rfl ⟨by rw [inI_not.2 (by omega)], rfl⟩
  · exact ret1 (.bool false) rfl ⟨by rw [inI_not.2 (by omega)], rfl⟩
theorem sharesQ_all {a b : Q} : sharesQ a b = true ↔ qValid a = true ∧ qValid b = true ∧ 0 ≤ a.n ∧ a.n * b.d ≤ b.n * a.d ∧ b.n ≤ b.d := by
  rw [sharesQ_iff, shareQ_iff, shareQ_iff]
  refine ⟨fun ⟨⟨h1, h2, h3⟩, ⟨h4, h5, h6⟩, h7⟩ => ⟨h1, h4, h2, h7, h6⟩, fun ⟨h1, h4, h2, h7, h6⟩ => ?_⟩
  have d1 := (qValid_iff.1 h1).1
  have d2 := (qValid_iff.1 h4).1
  have hb : 0 ≤ b.n := by
    have : 0 ≤ b.n * a.d := Int.le_trans (Int.mul_nonneg h2 (by omega)) h7
    exact Int.not_lt.1 fun hn => by have := Int.mul_neg_of_neg_of_pos hn (show 0 < a.d by omega); omega
  have ha : a.n ≤ a.d := Int.not_lt.1 fun hn => by
    have e1 : b.n * a.d ≤ b.d * a.d := Int.mul_le_mul_of_nonneg_right h6 (by omega)
    have e2 : a.d * b.d < a.n * b.d := Int.mul_lt_mul_of_pos_right hn (by omega)
    rw [Int.mul_comm b.d] at e1
    omega
  exact ⟨⟨h1, h2, ha⟩, ⟨h4, hb, h6⟩, h7⟩
theorem c_r19shares {a b : Q} : CallZ Tryz.prog 143 #[pairQ a b] w (fun v w' => v = .bool (sharesQ a b) ∧ Ext w w') := by
  refine fn_rule (args := [.agg #[iv a.n, iv a.d, iv b.n, iv b.d]]) Tryz.func143 (by kernel_rfl) ?_
  refine box (fun g w1 h1 => ?_)
  have hc := CellsAt.blk h1.blk
  have bad : ¬ (qValid a = true ∧ qValid b = true ∧ 0 ≤ a.n ∧ a.n * b.d ≤ b.n * a.d ∧ b.n ≤ b.d) → Value.bool false = .bool (sharesQ a b) := fun h => by rw [show sharesQ a b = false from Bool.eq_false_iff.2 fun e => h (sharesQ_all.1 e)]
  refine idxR 0 rfl (by decide) ?_
  refine ldA [iv a.n, iv a.d] (hc.mid 0 2) rfl ?_
  refine call_of (c_r12Check (a := a)) ?_
  rintro _ w2 ⟨rfl, x2⟩
  refine cN (fun g1 => ?_) (fun g1 => ?_)
  · exact ret1 (.bool false) rfl ⟨bad fun h => g1 (qErr_ok.2 h.1), h1.ext.trans x2⟩
  refine idxR 1 rfl (by decide) ?_
  refine ldA [iv b.n, iv b.d] ((hc.mid 2 2).kept x2 trivial) rfl ?_
  refine call_of (c_r12Check (a := b)) ?_
  rintro _ w3 ⟨rfl, x3⟩
  have x13 := x2.trans x3
  refine cN (fun g2 => ?_) (fun g2 => ?_)
  · exact ret1 (.bool false) rfl ⟨bad fun h => g2 (qErr_ok.2 h.2.1), h1.ext.trans x13⟩
  have va := qErr_ok.1 g1
  have vb := qErr_ok.1 g2
  refine idxR 0 rfl (by decide) ?_
  refine ldA [iv a.n, iv a.d] ((hc.mid 0 2).kept x13 trivial) rfl ?_
  refine idxR 1 rfl (by decide) ?_
  refine ldA [iv b.n, iv b.d] ((hc.mid 2 2).kept x13 trivial) rfl ?_
  refine call_of (c_r12Cmp (a := a) (b := b)) ?_
  rintro _ w4 ⟨rfl, x4⟩
  have hC : qCmp a b = (cmpI (a.n * b.d) (b.n * a.d), 0) := by unfold qCmp; rw [va, vb]; rfl
  have hcmp : cmpI (a.n * b.d) (b.n * a.d) ≤ 0 ↔ a.n * b.d ≤ b.n * a.d := by unfold cmpI; split <;> (try split) <;> omega
  have x := h1.ext.trans (x13.trans x4)
  have b4 := h1.blk.ext (x13.trans x4)
  rw [hC]
  refine idxR 0 rfl (by decide) ?_
  refine fldA ?_
  refine ld (iv a.n) (b4.cell rfl) ?_
  refine cD (fun g3 => ?_) (fun g3 => ?_)
  · refine cD (fun g4 => ?_) (fun g4 => ?_)
    · refine idxR 1 rfl (by decide) ?_
      refine fldA ?_
      refine ld (iv b.n) (b4.cell rfl) ?_
      refine idxR 1 rfl (by decide) ?_
      refine fldA ?_
      refine ld (iv b.d) (b4.cell rfl) ?_
      refine cD (fun g5 => ?_) (fun g5 => ?_)
      · exact ret1 (.bool true) rfl ⟨by rw [sharesQ_all.2 ⟨va, vb, g3, hcmp.1 g4, g5⟩], x⟩
      · exact ret1 (.bool false) rfl ⟨bad fun h => g5 h.2.2.2.2, x⟩
    · exact ret1 (.bool false) rfl ⟨bad fun h => g4 (hcmp.2 h.2.2.2.1), x⟩
  · exact ret1 (.bool false) rfl ⟨bad fun h => g3 h.2.2.1, x⟩
theorem c_r19Reach {x : Reach} : CallZ Tryz.prog 124 #[x.v] w (fun v w' => v = .bool (reachOk x) ∧ Ext w w') := by
  refine fn_rule (args := [.agg #[.string x.name, iv x.up, iv x.delay, iv x.cap, iv x.bank, iv x.siphon, iv x.evap.lo, iv x.evap.hi, iv x.s0.n, iv x.s0.d, iv x.s1.n, iv x.s1.d]]) Tryz.func124 (by kernel_rfl) ?_
  refine box (fun g w1 h1 => ?_)
  have b1 := h1.blk
  have bad : ¬ (reachOk x = true) → Value.bool false = .bool (reachOk x) := fun h => by rw [Bool.eq_false_iff.2 h]
  refine fldA ?_
  refine ld (iv x.delay) (b1.cell rfl) ?_
  refine callB c_within (fun g0 => ?_) (fun g0 => ?_)
  rotate_left
  · exact ret1 (.bool false) rfl ⟨bad fun h => inI_not.1 g0 (by have := reachOk_iff.1 h; omega), h1.ext⟩
  refine fldA ?_
  refine ld (iv x.cap) (b1.cell rfl) ?_
  refine callB c_within (fun g1 => ?_) (fun g1 => ?_)
  rotate_left
  · exact ret1 (.bool false) rfl ⟨bad fun h => inI_not.1 g1 (by have := reachOk_iff.1 h; omega), h1.ext⟩
  refine fldA ?_
  refine ld (iv x.bank) (b1.cell rfl) ?_
  refine callB c_within (fun g2 => ?_) (fun g2 => ?_)
  rotate_left
  · exact ret1 (.bool false) rfl ⟨bad fun h => inI_not.1 g2 (by have := reachOk_iff.1 h; omega), h1.ext⟩
  refine fldA ?_
  refine ld (iv x.siphon) (b1.cell rfl) ?_
  refine fldA ?_
  refine ld (iv x.cap) (b1.cell rfl) ?_
  refine fldA ?_
  refine ld (iv x.bank) (b1.cell rfl) ?_
  refine callB c_within (fun g3 => ?_) (fun g3 => ?_)
  rotate_left
  · exact ret1 (.bool false) rfl ⟨bad fun h => inI_not.1 g3 (by have := reachOk_iff.1 h; omega), h1.ext⟩
  refine fldA ?_
  refine fldA ?_
  refine ld (iv x.evap.lo) (b1.cell rfl) ?_
  refine fldA ?_
  refine fldA ?_
  refine ld (iv x.evap.hi) (b1.cell rfl) ?_
  refine callB c_within (fun g4 => ?_) (fun g4 => ?_)
  rotate_left
  · exact ret1 (.bool false) rfl ⟨bad fun h => inI_not.1 g4 (by have := (lossOk_iff.1 (reachOk_iff.1 h).2.2.2.2).1; omega), h1.ext⟩
  refine fldA ?_
  refine fldA ?_
  refine ld (iv x.evap.hi) (b1.cell rfl) ?_
  refine cD (fun g5 => ?_) (fun g5 => ?_)
  · exact ret1 (.bool false) rfl ⟨bad fun h => by have := (lossOk_iff.1 (reachOk_iff.1 h).2.2.2.2).1; omega, h1.ext⟩
  refine fldA ?_
  refine ldA [iv x.s0.n, iv x.s0.d, iv x.s1.n, iv x.s1.d] ((CellsAt.blk h1.blk).mid 8 4) rfl ?_
  have k0 := inI_iff.1 g0
  have k1 := inI_iff.1 g1
  have k2 := inI_iff.1 g2
  have k3 := inI_iff.1 g3
  have k4 := inI_iff.1 g4
  refine callE (c_r19shares (a := x.s0) (b := x.s1)) (fun w2 hs x2 => ?_) (fun w2 hs x2 => ?_)
  · exact ret1 (.bool true) rfl ⟨by rw [reachOk_iff.2 ⟨by omega, by omega, by omega, by omega, lossOk_iff.2 ⟨by omega, hs⟩⟩], h1.ext.trans x2⟩
  · exact ret1 (.bool false) rfl ⟨bad fun h => by have := (lossOk_iff.1 (reachOk_iff.1 h).2.2.2.2).2; rw [hs] at this; exact Bool.noConfusion this, h1.ext.trans x2⟩
theorem c_r19reaches {l : List Reach} {A : Option Addr} {n c : Nat} (hl : SlR tReach D w A n l) : CallZ Tryz.prog 99 #[.slice A n c] w (fun v w' => v = .bool (reachesB 0 l && decide (0 < l.length)) ∧ Ext w w') := by
  refine fn_rule (args := [.slice A n c]) Tryz.func99 (by kernel_rfl) ?_
  have e1 := hl.le
  refine loop_rule (fun k : Nat => [(3, iv (k : Int))]) (fun k w' => k ≤ n ∧ Ext w w' ∧ reachesB 0 l = reachesB k (l.drop k)) (fun k _ => n - k) 0 ⟨rfl, trivial⟩ ⟨by omega, .refl _ _, rfl⟩ rfl ?_
  rintro G k w1 ⟨hk, x1, he⟩
  refine len ?_
  refine cD (fun hlt => ?_) (fun hge => ?_)
  · obtain ⟨b, o, cs, x, rfl, -, hx, -, hc, rfl⟩ := (hl.ext x1).at_ (show k < n by omega)
    rw [hx, reachesB] at he
    have bad : ∀ {w'}, Ext w1 w' → (upOk k x.up && reachOk x) = false → Value.bool false = .bool (reachesB 0 l && decide (0 < l.length)) ∧ Ext w w' := fun e h => ⟨by rw [he, h]; rfl, x1.trans e⟩
    have tail : upOk k x.up = true → True := fun _ => trivial
    refine cE (fun k0 => ?_) (fun k0 => ?_)
    · refine idx k rfl (by omega) ?_
      refine fldA ?_
      refine ld (iv x.up) (hc 1 _ rfl) ?_
      refine cN (fun k1 => ?_) (fun k1 => ?_)
      · exact ret1 (.bool false) rfl (bad (.refl _ _) (by unfold upOk; rw [if_pos (by omega), decide_eq_false k1]; rfl))
      have hu : upOk k x.up = true := by unfold upOk; rw [if_pos (by omega), decide_eq_true k1]
      refine cDF (by omega) ?_
      refine idx k rfl (by omega) ?_
      refine ldA x.c hc rfl ?_
      refine callE (c_r19Reach (x := x)) (fun w2 hq x2 => ?_) (fun w2 hq x2 => ?_)
      · refine arI (by omega) ?_
        refine next (k + 1) ⟨by rw [Int.natCast_add]; rfl, trivial⟩ ⟨by omega, x1.trans x2, ?_⟩ (by omega)
        rw [he, hu, hq]; rfl
      · exact ret1 (.bool false) rfl (bad x2 (by rw [hu, hq]; rfl))
    · refine cDT (by omega) ?_
      refine idx k rfl (by omega) ?_
      refine fldA ?_
      refine ld (iv x.up) (hc 1 _ rfl) ?_
      refine arI (by omega) ?_
      refine callB c_within (fun k1 => ?_) (fun k1 => ?_)
      rotate_left
      · exact ret1 (.bool false) rfl (bad (.refl _ _) (by unfold upOk; rw [if_neg (by omega), k1]; rfl))
      have hu : upOk k x.up = true := by unfold upOk; rw [if_neg (by omega), k1]
      refine idx k rfl (by omega) ?_
      refine ldA x.c hc rfl ?_
      refine callE (c_r19Reach (x := x)) (fun w2 hq x2 => ?_) (fun w2 hq x2 => ?_)
      · refine arI (by omega) ?_
        refine next (k + 1) ⟨by rw [Int.natCast_add]; rfl, trivial⟩ ⟨by omega, x1.trans x2, ?_⟩ (by omega)
        rw [he, hu, hq]; rfl
      · exact ret1 (.bool false) rfl (bad x2 (by rw [hu, hq]; rfl))
  · have hR : reachesB 0 l = true := by rw [he, drop_end (by have := hl.len; omega)]; rfl
    refine len ?_
    have hn := hl.len
    refine cD (fun g => ?_) (fun g => ?_)
    · exact ret1 (.bool true) rfl ⟨by rw [hR, decide_eq_true (by omega)]; rfl, x1⟩
    · exact ret1 (.bool false) rfl ⟨by rw [hR, decide_eq_false (by omega)]; rfl, x1⟩
theorem c_r19farms {d : Dist} {cs : List Value} (hd : DiR D w cs d) : CallZ Tryz.prog 100 #[.agg cs.toArray] w (fun v w' => v = .bool (d.crops.all cropOk && d.farms.all (farmOk d.reaches.length d.crops.length)) ∧ Ext w w') := by
  obtain ⟨A1, n1, c1, A2, n2, c2, A3, n3, c3, A4, n4, c4, A5, n5, c5, A6, n6, c6, rfl, hr, hf, hcr, hri, hdu, hwe⟩ := hd.ex
  have l1 := hr.len
  have l2 := hf.len
  have l3 := hcr.len
  have l4 := hri.len
  have l5 := hdu.len
  have l6 := hwe.len
  have e1 := hr.le
  have e2 := hf.le
  have e3 := hcr.le
  have e4 := hri.le
  have e5 := hdu.le
  refine fn_rule (args := [.agg #[.string d.name, iv d.hours, iv d.cap, iv d.start, .slice A1 n1 c1, .slice A2 n2 c2, .slice A3 n3 c3, .slice A4 n4 c4, .slice A5 n5 c5, .slice A6 n6 c6]]) Tryz.func100 (by kernel_rfl) ?_
  refine box (fun g w1 h1 => ?_)
  have bg := h1.blk
  have x1 := h1.ext
  have zg := h1.at_
  have zlt := bg.lt
  refine loop_rule (fun k : Nat => [(3, iv (k : Int))]) (fun k w' => k ≤ n3 ∧ w' = w1 ∧ d.crops.all cropOk = (d.crops.drop k).all cropOk) (fun k _ => n3 - k) 0 ⟨rfl, trivial⟩ ⟨by omega, rfl, rfl⟩ rfl ?_
  rintro G k w' ⟨hk, hw', he⟩
  subst hw'
  refine fldA ?_
  refine ld (.slice A3 n3 c3) (bg.cell rfl) ?_
  refine len ?_
  refine cD (fun hlt => ?_) (fun hge => ?_)
  · obtain ⟨b, o, cs, x, rfl, -, hx, -, hc, rfl⟩ := (hcr.ext x1).at_ (show k < n3 by omega)
    rw [hx, List.all_cons] at he
    refine fldA ?_
    refine ld (.slice _ n3 c3) (bg.cell rfl) ?_
    refine idx k rfl (by omega) ?_
    refine fldA ?_
    refine ld (iv x.need) (hc 1 _ rfl) ?_
    refine callB c_within (fun hq => ?_) (fun hq => ?_)
    · refine arI (by omega) ?_
      refine next (k + 1) ⟨by rw [Int.natCast_add]; rfl, trivial⟩ ⟨by omega, rfl, ?_⟩ (by omega)
      rw [he, show cropOk x = true from hq]; rfl
    · exact ret1 (.bool false) rfl ⟨by rw [he, show cropOk x = false from hq]; rfl, x1⟩
  have hC : d.crops.all cropOk = true := by rw [he, drop_end (by omega)]; rfl
  clear he hge
  refine loop_rule (fun k : Nat => [(4, iv (k : Int))]) (fun k w'' => k ≤ n2 ∧ Ext w' w'' ∧ d.farms.all (farmOk d.reaches.length d.crops.length) = (d.farms.drop k).all (farmOk d.reaches.length d.crops.length)) (fun k _ => n2 - k) 0 ⟨rfl, trivial⟩ ⟨by omega, .refl _ _, rfl⟩ rfl ?_
  rintro G k w2 ⟨hk, x2, he⟩
  refine fldA ?_
  refine ld (.slice A2 n2 c2) ((bg.ext x2).cell rfl) ?_
  refine len ?_
  refine cD (fun hlt => ?_) (fun hge => ?_)
  · obtain ⟨b, o, cs, x, rfl, -, hx, -, hc, rfl⟩ := (hf.ext (x1.trans x2)).at_ (show k < n2 by omega)
    rw [hx, List.all_cons] at he
    refine fldA ?_
    refine ld (.slice _ n2 c2) ((bg.ext x2).cell rfl) ?_
    refine idx k rfl (by omega) ?_
    refine ldA x.c hc rfl ?_
    refine alloc (fun q w6 h6 => ?_)
    refine stA (vs := x.c) h6.blk rfl (Nat.le_of_ble_eq_true rfl) (by simp [Value.oneCell']) (fun w7 hb7 k7 z7 => ?_)
    have z6 := h6.at_
    have zz := x2.size
    have x7 : Ext w' w7 := (x2.trans h6.ext).then k7 fun b hb _ e => by omega
    have bg7 := bg.ext x7
    have fiff : farmOk d.reaches.length d.crops.length x = true ↔ (if 0 < x.area then inI x.crop 0 ((n3 : Int) - 1) = true else x.crop = -1) ∧ inI x.reach 0 ((n1 : Int) - 1) = true ∧ (0 ≤ x.area ∧ x.area ≤ 1048576) := by
      unfold farmOk; rw [l1, l3, Bool.and_eq_true, Bool.and_eq_true, inI_iff (n := x.area)]
      split <;> simp only [decide_eq_true_eq]
    have bad : ¬ (farmOk d.reaches.length d.crops.length x = true) → Value.bool false = .bool (d.crops.all cropOk && d.farms.all (farmOk d.reaches.length d.crops.length)) ∧ Ext w w7 := fun h => ⟨by rw [hC, he, Bool.eq_false_iff.2 h]; rfl, x1.trans x7⟩
    have good : farmOk d.reaches.length d.crops.length x = true → d.farms.all (farmOk d.reaches.length d.crops.length) = (d.farms.drop (k + 1)).all (farmOk d.reaches.length d.crops.length) := fun h => by rw [he, h]; rfl
    refine fldA ?_
    refine ld (iv x.reach) (hb7.cell rfl) ?_
    refine fldA ?_
    refine ld (.slice A1 n1 c1) (bg7.cell rfl) ?_
    refine len ?_
    refine arI (by omega) ?_
    refine callB c_within (fun g1 => ?_) (fun g1 => ?_)
    rotate_left
    · exact ret1 (.bool false) rfl (bad fun h => by have := (fiff.1 h).2.1; rw [g1] at this; exact Bool.noConfusion this)
    refine fldA ?_
    refine ld (iv x.area) (hb7.cell rfl) ?_
    refine callB c_within (fun g2 => ?_) (fun g2 => ?_)
    rotate_left
    · exact ret1 (.bool false) rfl (bad fun h => inI_not.1 g2 (fiff.1 h).2.2)
    have g2 := inI_iff.1 g2
    refine fldA ?_
    refine ld (iv x.area) (hb7.cell rfl) ?_
    refine cE (fun g3 => ?_) (fun g3 => ?_)
    · refine fldA ?_
      refine ld (iv x.crop) (hb7.cell rfl) ?_
      refine cN (fun g4 => ?_) (fun g4 => ?_)
      · exact ret1 (.bool false) rfl (bad fun h => by have := (fiff.1 h).1; rw [if_neg (by omega)] at this; exact g4 this)
      refine fldA ?_
      refine ld (iv x.area) (hb7.cell rfl) ?_
      refine cDF (by omega) ?_
      refine arI (by omega) ?_
      exact next (k + 1) ⟨by rw [Int.natCast_add]; rfl, trivial⟩ ⟨by omega, x7, good (fiff.2 ⟨by rw [if_neg (by omega)]; exact g4, g1, g2⟩)⟩ (by omega)
    · refine fldA ?_
      refine ld (iv x.area) (hb7.cell rfl) ?_
      refine cDT (by omega) ?_
      refine fldA ?_
      refine ld (iv x.crop) (hb7.cell rfl) ?_
      refine fldA ?_
      refine ld (.slice A3 n3 c3) (bg7.cell rfl) ?_
      refine len ?_
      refine arI (by omega) ?_
      refine callB c_within (fun g4 => ?_) (fun g4 => ?_)
      · refine arI (by omega) ?_
        exact next (k + 1) ⟨by rw [Int.natCast_add]; rfl, trivial⟩ ⟨by omega, x7, good (fiff.2 ⟨by rw [if_pos (by omega)]; exact g4, g1, g2⟩)⟩ (by omega)
      · exact ret1 (.bool false) rfl (bad fun h => by have := (fiff.1 h).1; rw [if_pos (by omega), g4] at this; exact Bool.noConfusion this)
  have hF : d.farms.all (farmOk d.reaches.length d.crops.length) = true := by rw [he, drop_end (by omega)]; rfl
  exact ret1 (.bool true) rfl ⟨by rw [hC, hF]; rfl, x1.trans x2⟩
theorem c_r19right {d : Dist} {cs : List Value} {x : Right} (hd : DiR D w cs d) (hh : 1 ≤ d.hours ∧ d.hours ≤ 4096) : CallZ Tryz.prog 101 #[.agg cs.toArray, .agg x.c.toArray] w (fun v w' => v = .bool (rightOk d.farms.length d.reaches.length d.hours x) ∧ Ext w w') := by
  obtain ⟨A1, n1, c1, A2, n2, c2, A3, n3, c3, A4, n4, c4, A5, n5, c5, A6, n6, c6, rfl, hr, hf, hcr, hri, hdu, hwe⟩ := hd.ex
  have l1 := hr.len
  have l2 := hf.len
  have l3 := hcr.len
  have l4 := hri.len
  have l5 := hdu.len
  have l6 := hwe.len
  have e1 := hr.le
  have e2 := hf.le
  have e3 := hcr.le
  have e4 := hri.le
  have e5 := hdu.le
  refine fn_rule (args := [.agg #[.string d.name, iv d.hours, iv d.cap, iv d.start, .slice A1 n1 c1, .slice A2 n2 c2, .slice A3 n3 c3, .slice A4 n4 c4, .slice A5 n5 c5, .slice A6 n6 c6], .agg #[.string x.name, iv x.kind, iv x.farm, iv x.reach, iv x.rank, iv x.litres, iv x.frm, iv x.to, iv x.every, iv x.length]]) Tryz.func101 (by kernel_rfl) ?_
  have bad0 : ¬ (rightOk d.farms.length d.reaches.length d.hours x = true) → Value.bool false = .bool (rightOk d.farms.length d.reaches.length d.hours x) := fun h => by rw [Bool.eq_false_iff.2 h]
  have iff : rightOk d.farms.length d.reaches.length d.hours x = true ↔ (0 ≤ x.farm ∧ x.farm ≤ (n2 : Int) - 1) ∧ (0 ≤ x.reach ∧ x.reach ≤ (n1 : Int) - 1) ∧ (0 ≤ x.frm ∧ x.frm ≤ x.to) ∧ x.to < d.hours ∧ kindOk d.hours x = true := by
    unfold rightOk; rw [l1, l2]; simp only [Bool.and_eq_true, decide_eq_true_eq, inI_iff]
  refine box (fun g w1 h1 => ?_)
  refine box (fun q w2 h2 => ?_)
  have bg := h1.blk.ext h2.ext
  have bq := h2.blk
  have x2 := h1.ext.trans h2.ext
  have bad : ¬ (rightOk d.farms.length d.reaches.length d.hours x = true) → Value.bool false = .bool (rightOk d.farms.length d.reaches.length d.hours x) ∧ Ext w w2 := fun h => ⟨bad0 h, x2⟩
  refine fldA ?_
  refine ld (iv x.farm) (bq.cell rfl) ?_
  refine fldA ?_
  refine ld (.slice A2 n2 c2) (bg.cell rfl) ?_
  refine len ?_
  refine arI (by omega) ?_
  refine callB c_within (fun g1 => ?_) (fun g1 => ?_)
  rotate_left
  · exact ret1 (.bool false) rfl (bad fun h => inI_not.1 g1 (by have := iff.1 h; omega))
  refine fldA ?_
  refine ld (iv x.reach) (bq.cell rfl) ?_
  refine fldA ?_
  refine ld (.slice A1 n1 c1) (bg.cell rfl) ?_
  refine len ?_
  refine arI (by omega) ?_
  refine callB c_within (fun g2 => ?_) (fun g2 => ?_)
  rotate_left
  · exact ret1 (.bool false) rfl (bad fun h => inI_not.1 g2 (by have := iff.1 h; omega))
  refine fldA ?_
  refine ld (iv x.frm) (bq.cell rfl) ?_
  refine fldA ?_
  refine ld (iv x.to) (bq.cell rfl) ?_
  refine callB c_within (fun g3 => ?_) (fun g3 => ?_)
  rotate_left
  · exact ret1 (.bool false) rfl (bad fun h => inI_not.1 g3 (by have := iff.1 h; omega))
  refine fldA ?_
  refine ld (iv x.to) (bq.cell rfl) ?_
  refine fldA ?_
  refine ld (iv d.hours) (bg.cell rfl) ?_
  refine cD (fun g4 => ?_) (fun g4 => ?_)
  · exact ret1 (.bool false) rfl (bad fun h => by have := iff.1 h; omega)
  have iff2 : rightOk d.farms.length d.reaches.length d.hours x = true ↔ kindOk d.hours x = true := by
    rw [iff]; exact ⟨fun h => h.2.2.2.2, fun h => ⟨inI_iff.1 g1, inI_iff.1 g2, inI_iff.1 g3, by omega, h⟩⟩
  refine fldA ?_
  refine ld (iv x.kind) (bq.cell rfl) ?_
  refine cE (fun k1 => ?_) (fun k1 => ?_)
  · have iff3 : kindOk d.hours x = true ↔ x.reach = 0 ∧ (0 ≤ x.rank ∧ x.rank ≤ 1048576) ∧ (1 ≤ x.litres ∧ x.litres ≤ 1073741824) ∧ (1 ≤ x.length ∧ x.length ≤ x.every) ∧ x.every ≤ d.hours := by
      unfold kindOk; rw [if_pos k1]; simp only [Bool.and_eq_true, decide_eq_true_eq, inI_iff]
    refine fldA ?_
    refine ld (iv x.reach) (bq.cell rfl) ?_
    refine cE (fun b1 => ?_) (fun b1 => ?_)
    rotate_left
    · exact ret1 (.bool false) rfl (bad fun h => by have := iff3.1 (iff2.1 h); omega)
    refine fldA ?_
    refine ld (iv x.rank) (bq.cell rfl) ?_
    refine callB c_within (fun g5 => ?_) (fun g5 => ?_)
    rotate_left
    · exact ret1 (.bool false) rfl (bad fun h => inI_not.1 g5 (by have := iff3.1 (iff2.1 h); omega))
    refine fldA ?_
    refine ld (iv x.litres) (bq.cell rfl) ?_
    refine callB c_within (fun g6 => ?_) (fun g6 => ?_)
    rotate_left
    · exact ret1 (.bool false) rfl (bad fun h => inI_not.1 g6 (by have := iff3.1 (iff2.1 h); omega))
    refine fldA ?_
    refine ld (iv x.length) (bq.cell rfl) ?_
    refine fldA ?_
    refine ld (iv x.every) (bq.cell rfl) ?_
    refine callB c_within (fun g7 => ?_) (fun g7 => ?_)
    rotate_left
    · exact ret1 (.bool false) rfl (bad fun h => inI_not.1 g7 (by have := iff3.1 (iff2.1 h); omega))
    refine fldA ?_
    refine ld (iv x.every) (bq.cell rfl) ?_
    refine fldA ?_
    refine ld (iv d.hours) (bg.cell rfl) ?_
    refine cD (fun b2 => ?_) (fun b2 => ?_)
    · exact ret1 (.bool true) rfl ⟨by rw [iff2.2 (iff3.2 ⟨b1, inI_iff.1 g5, inI_iff.1 g6, inI_iff.1 g7, b2⟩)], x2⟩
    · exact ret1 (.bool false) rfl (bad fun h => by have := iff3.1 (iff2.1 h); omega)
  refine cE (fun k2 => ?_) (fun k2 => ?_)
  · have iff3 : kindOk d.hours x = true ↔ x.rank = 0 ∧ x.litres = 0 ∧ x.every = 0 ∧ x.length = 0 ∧ x.frm = 0 ∧ x.to = d.hours - 1 := by
      unfold kindOk; rw [if_neg k1, if_pos k2]; simp only [Bool.and_eq_true, decide_eq_true_eq]
    refine fldA ?_
    refine ld (iv x.rank) (bq.cell rfl) ?_
    refine cE (fun b1 => ?_) (fun b1 => ?_)
    rotate_left
    · exact ret1 (.bool false) rfl (bad fun h => by have := iff3.1 (iff2.1 h); omega)
    refine fldA ?_
    refine ld (iv x.litres) (bq.cell rfl) ?_
    refine cE (fun b2 => ?_) (fun b2 => ?_)
    rotate_left
    · exact ret1 (.bool false) rfl (bad fun h => by have := iff3.1 (iff2.1 h); omega)
    refine fldA ?_
    refine ld (iv x.every) (bq.cell rfl) ?_
    refine cE (fun b3 => ?_) (fun b3 => ?_)
    rotate_left
    · exact ret1 (.bool false) rfl (bad fun h => by have := iff3.1 (iff2.1 h); omega)
    refine fldA ?_
    refine ld (iv x.length) (bq.cell rfl) ?_
    refine cE (fun b4 => ?_) (fun b4 => ?_)
    rotate_left
    · exact ret1 (.bool false) rfl (bad fun h => by have := iff3.1 (iff2.1 h); omega)
    refine fldA ?_
    refine ld (iv x.frm) (bq.cell rfl) ?_
    refine cE (fun b5 => ?_) (fun b5 => ?_)
    rotate_left
    · exact ret1 (.bool false) rfl (bad fun h => by have := iff3.1 (iff2.1 h); omega)
    refine fldA ?_
    refine ld (iv x.to) (bq.cell rfl) ?_
    refine fldA ?_
    refine ld (iv d.hours) (bg.cell rfl) ?_
    refine arI (by omega) ?_
    refine cE (fun b6 => ?_) (fun b6 => ?_)
    · exact ret1 (.bool true) rfl ⟨by rw [iff2.2 (iff3.2 ⟨b1, b2, b3, b4, b5, b6⟩)], x2⟩
    · exact ret1 (.bool false) rfl (bad fun h => b6 (iff3.1 (iff2.1 h)).2.2.2.2.2)
  refine cE (fun k3 => ?_) (fun k3 => ?_)
  · have iff3 : kindOk d.hours x = true ↔ x.rank = 0 ∧ x.litres = 0 ∧ x.every = 0 ∧ x.length = 0 := by
      unfold kindOk; rw [if_neg k1, if_neg k2, if_pos k3]; simp only [Bool.and_eq_true, decide_eq_true_eq]
    refine fldA ?_
    refine ld (iv x.rank) (bq.cell rfl) ?_
    refine cE (fun b1 => ?_) (fun b1 => ?_)
    rotate_left
    · exact ret1 (.bool false) rfl (bad fun h => by have := iff3.1 (iff2.1 h); omega)
    refine fldA ?_
    refine ld (iv x.litres) (bq.cell rfl) ?_
    refine cE (fun b2 => ?_) (fun b2 => ?_)
    rotate_left
    · exact ret1 (.bool false) rfl (bad fun h => by have := iff3.1 (iff2.1 h); omega)
    refine fldA ?_
    refine ld (iv x.every) (bq.cell rfl) ?_
    refine cE (fun b3 => ?_) (fun b3 => ?_)
    rotate_left
    · exact ret1 (.bool false) rfl (bad fun h => by have := iff3.1 (iff2.1 h); omega)
    refine fldA ?_
    refine ld (iv x.length) (bq.cell rfl) ?_
    refine cE (fun b4 => ?_) (fun b4 => ?_)
    · exact ret1 (.bool true) rfl ⟨by rw [iff2.2 (iff3.2 ⟨b1, b2, b3, b4⟩)], x2⟩
    · exact ret1 (.bool false) rfl (bad fun h => b4 (iff3.1 (iff2.1 h)).2.2.2)
  · refine ret1 (.bool false) rfl (bad fun h => ?_)
    have := iff2.1 h
    unfold kindOk at this
    rw [if_neg k1, if_neg k2, if_neg k3] at this
    exact Bool.noConfusion this
theorem c_r19valid {d : Dist} {cs : List Value} (hd : DiR D w cs d) : CallZ Tryz.prog 67 #[.agg cs.toArray] w (fun v w' => v = .bool (validB d) ∧ Ext w w') := by
  obtain ⟨A1, n1, c1, A2, n2, c2, A3, n3, c3, A4, n4, c4, A5, n5, c5, A6, n6, c6, rfl, hr, hf, hcr, hri, hdu, hwe⟩ := hd.ex
  have l1 := hr.len
  have l2 := hf.len
  have l3 := hcr.len
  have l4 := hri.len
  have l5 := hdu.len
  have l6 := hwe.len
  have e1 := hr.le
  have e2 := hf.le
  have e3 := hcr.le
  have e4 := hri.le
  have e5 := hdu.le
  refine fn_rule (args := [.agg #[.string d.name, iv d.hours, iv d.cap, iv d.start, .slice A1 n1 c1, .slice A2 n2 c2, .slice A3 n3 c3, .slice A4 n4 c4, .slice A5 n5 c5, .slice A6 n6 c6]]) Tryz.func67 (by kernel_rfl) ?_
  refine box (fun g w1 h1 => ?_)
  have bg := h1.blk
  have x1 := h1.ext
  have zg := h1.at_
  have zlt := bg.lt
  have bad : ∀ {w'}, Ext w1 w' → ¬ (validB d = true) → Value.bool false = .bool (validB d) ∧ Ext w w' := fun e h => ⟨by rw [Bool.eq_false_iff.2 h], x1.trans e⟩
  refine fldA ?_
  refine ld (iv d.hours) (bg.cell rfl) ?_
  refine callB c_within (fun g1 => ?_) (fun g1 => ?_)
  rotate_left
  · exact ret1 (.bool false) rfl (bad (.refl _ _) fun h => inI_not.1 g1 (by have := headOk_iff.1 (validB_iff.1 h).1; omega))
  refine fldA ?_
  refine fldA ?_
  refine ld (iv d.start) (bg.cell rfl) ?_
  refine fldA ?_
  refine fldA ?_
  refine ld (iv d.cap) (bg.cell rfl) ?_
  refine callB c_within (fun g2 => ?_) (fun g2 => ?_)
  rotate_left
  · exact ret1 (.bool false) rfl (bad (.refl _ _) fun h => inI_not.1 g2 (by have := headOk_iff.1 (validB_iff.1 h).1; omega))
  refine fldA ?_
  refine fldA ?_
  refine ld (iv d.cap) (bg.cell rfl) ?_
  refine cD (fun g3 => ?_) (fun g3 => ?_)
  · exact ret1 (.bool false) rfl (bad (.refl _ _) fun h => by have := headOk_iff.1 (validB_iff.1 h).1; omega)
  have g1 := inI_iff.1 g1
  have g2 := inI_iff.1 g2
  refine fldA ?_
  refine ld (.slice A1 n1 c1) (bg.cell rfl) ?_
  refine callE (c_r19reaches (hr.ext x1)) (fun w2 q2 x2 => ?_) (fun w2 q2 x2 => ?_)
  rotate_left
  · exact ret1 (.bool false) rfl (bad x2 fun h => by rw [(validB_iff.1 h).2.1, decide_eq_true (headOk_iff.1 (validB_iff.1 h).1).2.2.2] at q2; exact Bool.noConfusion q2)
  rw [Bool.and_eq_true, decide_eq_true_eq] at q2
  have hH : headOk d = true := headOk_iff.2 ⟨g1, g2, by omega, q2.2⟩
  refine ldA [.string d.name, iv d.hours, iv d.cap, iv d.start, .slice A1 n1 c1, .slice A2 n2 c2, .slice A3 n3 c3, .slice A4 n4 c4, .slice A5 n5 c5, .slice A6 n6 c6] (.blk (bg.ext x2)) rfl ?_
  refine callE (c_r19farms (hd.ext (x1.trans x2))) (fun w3 q3 x3 => ?_) (fun w3 q3 x3 => ?_)
  rotate_left
  · exact ret1 (.bool false) rfl (bad (x2.trans x3) fun h => by rw [(validB_iff.1 h).2.2.1, (validB_iff.1 h).2.2.2.1] at q3; exact Bool.noConfusion q3)
  rw [Bool.and_eq_true] at q3
  refine loop_rule (fun k : Nat => [(3, iv (k : Int))]) (fun k w' => k ≤ n4 ∧ Ext w1 w' ∧ d.rights.all (rightOk d.farms.length d.reaches.length d.hours) = (d.rights.drop k).all (rightOk d.farms.length d.reaches.length d.hours)) (fun k _ => n4 - k) 0 ⟨rfl, trivial⟩ ⟨by omega, x2.trans x3, rfl⟩ rfl ?_
  rintro G k w11 ⟨hk, x11, he⟩
  refine fldA ?_
  refine ld (.slice A4 n4 c4) ((bg.ext x11).cell rfl) ?_
  refine len ?_
  refine cD (fun hlt => ?_) (fun hge => ?_)
  · obtain ⟨b, o, cs, x, rfl, -, hx, -, hc, rfl⟩ := (hri.ext (x1.trans x11)).at_ (show k < n4 by omega)
    rw [hx, List.all_cons] at he
    refine drawX [0, 1, 2, 3, 4, 5, 6, 7] [6] mx (by kernel_rfl) ?_
    refine ldAX [.string d.name, iv d.hours, iv d.cap, iv d.start, .slice A1 n1 c1, .slice A2 n2 c2, .slice A3 n3 c3, .slice (some (ad b o)) n4 c4, .slice A5 n5 c5, .slice A6 n6 c6] (.blk (bg.ext x11)) rfl (.refl _ _) ?_
    refine fldA ?_
    refine ldX (.slice (some (ad b o)) n4 c4) ((bg.ext x11).cell rfl) (.refl _ _) ?_
    refine idx k rfl (by omega) ?_
    refine ldAX x.c hc rfl (.refl _ _) ?_
    refine callE (c_r19right (d := d) (x := x) (hd.ext (x1.trans x11)) g1) (fun w8 hq x8 => ?_) (fun w8 hq x8 => ?_)
    · refine strS x8 ?_
      refine arI (by omega) ?_
      refine next (k + 1) ⟨by rw [Int.natCast_add]; rfl, trivial⟩ ⟨by omega, x11.trans x8, ?_⟩ (by omega)
      rw [he, hq]; rfl
    · refine strS x8 ?_
      exact ret1 (.bool false) rfl (bad (x11.trans x8) fun h => by have := (validB_iff.1 h).2.2.2.2.1; rw [he, hq] at this; exact Bool.noConfusion this)
  have hG : d.rights.all (rightOk d.farms.length d.reaches.length d.hours) = true := by rw [he, drop_end (by omega)]; rfl
  clear he hge
  refine loop_rule (fun k : Nat => [(4, iv (k : Int))]) (fun k w' => k ≤ n5 ∧ Ext w1 w' ∧ d.duties.all (dutyOk d.farms.length d.reaches.length d.hours) = (d.duties.drop k).all (dutyOk d.farms.length d.reaches.length d.hours)) (fun k _ => n5 - k) 0 ⟨rfl, trivial⟩ ⟨by omega, x11, rfl⟩ rfl ?_
  rintro G k w12 ⟨hk, x12, he⟩
  refine fldA ?_
  refine ld (.slice A5 n5 c5) ((bg.ext x12).cell rfl) ?_
  refine len ?_
  refine cD (fun hlt => ?_) (fun hge => ?_)
  · obtain ⟨b, o, cs, x, rfl, -, hx, -, hc, rfl⟩ := (hdu.ext (x1.trans x12)).at_ (show k < n5 by omega)
    rw [hx, List.all_cons] at he
    refine fldA ?_
    refine ld (.slice _ n5 c5) ((bg.ext x12).cell rfl) ?_
    refine idx k rfl (by omega) ?_
    refine ldA x.c hc rfl ?_
    refine alloc (fun q w6 h6 => ?_)
    refine stA (vs := x.c) h6.blk rfl (Nat.le_of_ble_eq_true rfl) (by simp [Value.oneCell']) (fun w7 hb7 k7 z7 => ?_)
    have z6 := h6.at_
    have zz := x12.size
    have x7 : Ext w1 w7 := (x12.trans h6.ext).then k7 fun b hb _ e => by omega
    have bg7 := bg.ext x7
    have fiff : dutyOk d.farms.length d.reaches.length d.hours x = true ↔ (0 ≤ x.farm ∧ x.farm ≤ (n2 : Int) - 1) ∧ (0 ≤ x.reach ∧ x.reach ≤ (n1 : Int) - 1) ∧ (0 ≤ x.due ∧ x.due ≤ d.hours) := by
      unfold dutyOk; rw [l1, l2]; simp only [Bool.and_eq_true, inI_iff]
    have bad3 : ¬ (dutyOk d.farms.length d.reaches.length d.hours x = true) → Value.bool false = .bool (validB d) ∧ Ext w w7 := fun hq => bad x7 fun h => by have := (validB_iff.1 h).2.2.2.2.2; rw [he, Bool.eq_false_iff.2 hq] at this; exact Bool.noConfusion this
    refine fldA ?_
    refine ld (iv x.farm) (hb7.cell rfl) ?_
    refine fldA ?_
    refine ld (.slice A2 n2 c2) (bg7.cell rfl) ?_
    refine len ?_
    refine arI (by omega) ?_
    refine callB c_within (fun f1 => ?_) (fun f1 => ?_)
    rotate_left
    · exact ret1 (.bool false) rfl (bad3 fun h => inI_not.1 f1 (by have := fiff.1 h; omega))
    refine fldA ?_
    refine ld (iv x.reach) (hb7.cell rfl) ?_
    refine fldA ?_
    refine ld (.slice A1 n1 c1) (bg7.cell rfl) ?_
    refine len ?_
    refine arI (by omega) ?_
    refine callB c_within (fun f2 => ?_) (fun f2 => ?_)
    rotate_left
    · exact ret1 (.bool false) rfl (bad3 fun h => inI_not.1 f2 (by have := fiff.1 h; omega))
    refine fldA ?_
    refine ld (iv x.due) (hb7.cell rfl) ?_
    refine fldA ?_
    refine ld (iv d.hours) (bg7.cell rfl) ?_
    refine callB c_within (fun f3 => ?_) (fun f3 => ?_)
    rotate_left
    · exact ret1 (.bool false) rfl (bad3 fun h => inI_not.1 f3 (by have := fiff.1 h; omega))
    refine arI (by omega) ?_
    refine next (k + 1) ⟨by rw [Int.natCast_add]; rfl, trivial⟩ ⟨by omega, x7, ?_⟩ (by omega)
    rw [he, fiff.2 ⟨inI_iff.1 f1, inI_iff.1 f2, inI_iff.1 f3⟩]; rfl
  have hU : d.duties.all (dutyOk d.farms.length d.reaches.length d.hours) = true := by rw [he, drop_end (by omega)]; rfl
  exact ret1 (.bool true) rfl ⟨by rw [validB_iff.2 ⟨hH, q2.1, q3.1, q3.2, hG, hU⟩], x1.trans x12⟩
theorem c_r19Check {d : Dist} {cs : List Value} (hd : DiR D w cs d) : CallZ Tryz.prog 35 #[.agg cs.toArray] w (fun v w' => v = iv (dErr d) ∧ Ext w w') := by
  obtain ⟨A1, n1, c1, A2, n2, c2, A3, n3, c3, A4, n4, c4, A5, n5, c5, A6, n6, c6, rfl, hr, hf, hcr, hri, hdu, hwe⟩ := hd.ex
  have l1 := hr.len
  have l2 := hf.len
  have l3 := hcr.len
  have l4 := hri.len
  have l5 := hdu.len
  have l6 := hwe.len
  have e1 := hr.le
  have e2 := hf.le
  have e3 := hcr.le
  have e4 := hri.le
  have e5 := hdu.le
  refine fn_rule (args := [.agg #[.string d.name, iv d.hours, iv d.cap, iv d.start, .slice A1 n1 c1, .slice A2 n2 c2, .slice A3 n3 c3, .slice A4 n4 c4, .slice A5 n5 c5, .slice A6 n6 c6]]) Tryz.func35 (by kernel_rfl) ?_
  refine box (fun g w1 h1 => ?_)
  have bg := h1.blk
  have x1 := h1.ext
  have tiff : tooMany d = false ↔ n1 ≤ 64 ∧ n2 ≤ 600 ∧ n3 ≤ 32 ∧ n4 ≤ 256 ∧ n5 ≤ 256 := by unfold tooMany; rw [l1, l2, l3, l4, l5]; simp
  have bad : ¬ (n1 ≤ 64 ∧ n2 ≤ 600 ∧ n3 ≤ 32 ∧ n4 ≤ 256 ∧ n5 ≤ 256) → iv 2 = iv (dErr d) ∧ Ext w w1 := fun h => ⟨by unfold dErr; rw [show tooMany d = true from by cases ht : tooMany d with | true => rfl | false => exact absurd (tiff.1 ht) h]; rfl, x1⟩
  refine fldA ?_
  refine ld (.slice A1 n1 c1) (bg.cell rfl) ?_
  refine len ?_
  refine cD (fun g1 => ?_) (fun g1 => ?_)
  · exact ret1 (iv 2) rfl (bad (by omega))
  refine fldA ?_
  refine ld (.slice A2 n2 c2) (bg.cell rfl) ?_
  refine len ?_
  refine cD (fun g2 => ?_) (fun g2 => ?_)
  · exact ret1 (iv 2) rfl (bad (by omega))
  refine fldA ?_
  refine ld (.slice A3 n3 c3) (bg.cell rfl) ?_
  refine len ?_
  refine cD (fun g3 => ?_) (fun g3 => ?_)
  · exact ret1 (iv 2) rfl (bad (by omega))
  refine fldA ?_
  refine ld (.slice A4 n4 c4) (bg.cell rfl) ?_
  refine len ?_
  refine cD (fun g4 => ?_) (fun g4 => ?_)
  · exact ret1 (iv 2) rfl (bad (by omega))
  refine fldA ?_
  refine ld (.slice A5 n5 c5) (bg.cell rfl) ?_
  refine len ?_
  refine cD (fun g5 => ?_) (fun g5 => ?_)
  · exact ret1 (iv 2) rfl (bad (by omega))
  have hT : tooMany d = false := tiff.2 (by omega)
  refine ldA [.string d.name, iv d.hours, iv d.cap, iv d.start, .slice A1 n1 c1, .slice A2 n2 c2, .slice A3 n3 c3, .slice A4 n4 c4, .slice A5 n5 c5, .slice A6 n6 c6] (.blk bg) rfl ?_
  refine callE (c_r19valid (hd.ext x1)) (fun w2 hv x2 => ?_) (fun w2 hv x2 => ?_)
  · exact ret1 (iv 0) rfl ⟨by unfold dErr; rw [hT, hv]; rfl, x1.trans x2⟩
  · exact ret1 (iv 191) rfl ⟨by unfold dErr; rw [hT, hv]; rfl, x1.trans x2⟩
def fewD (d : Dist) : Bool := decide (d.reaches.length ≤ 100) && (decide (d.farms.length ≤ 700) && (decide (d.crops.length ≤ 100) && (decide (d.rights.length ≤ 300) && (decide (d.duties.length ≤ 300) && decide (d.wells.length ≤ 100)))))
theorem c_r19Few {d : Dist} {cs : List Value} (hd : DiR D w cs d) : CallZ Tryz.prog 25 #[.agg cs.toArray] w (fun v w' => v = .bool (fewD d) ∧ Ext w w') := by
  obtain ⟨A1, n1, c1, A2, n2, c2, A3, n3, c3, A4, n4, c4, A5, n5, c5, A6, n6, c6, rfl, hr, hf, hcr, hri, hdu, hwe⟩ := hd.ex
  have l1 := hr.len
  have l2 := hf.len
  have l3 := hcr.len
  have l4 := hri.len
  have l5 := hdu.len
  have l6 := hwe.len
  have e1 := hr.le
  have e2 := hf.le
  have e3 := hcr.le
  have e4 := hri.le
  have e5 := hdu.le
  refine fn_rule (args := [.agg #[.string d.name, iv d.hours, iv d.cap, iv d.start, .slice A1 n1 c1, .slice A2 n2 c2, .slice A3 n3 c3, .slice A4 n4 c4, .slice A5 n5 c5, .slice A6 n6 c6]]) Tryz.func25 (by kernel_rfl) ?_
  refine box (fun g w1 h1 => ?_)
  have bg := h1.blk
  have x1 := h1.ext
  have tiff : fewD d = true ↔ n1 ≤ 100 ∧ n2 ≤ 700 ∧ n3 ≤ 100 ∧ n4 ≤ 300 ∧ n5 ≤ 300 ∧ n6 ≤ 100 := by unfold fewD; rw [l1, l2, l3, l4, l5, l6]; simp
  have bad : ¬ (n1 ≤ 100 ∧ n2 ≤ 700 ∧ n3 ≤ 100 ∧ n4 ≤ 300 ∧ n5 ≤ 300 ∧ n6 ≤ 100) → Value.bool false = .bool (fewD d) ∧ Ext w w1 := fun h => ⟨by rw [Bool.eq_false_iff.2 fun e => h (tiff.1 e)], x1⟩
  refine fldA ?_
  refine ld (.slice A1 n1 c1) (bg.cell rfl) ?_
  refine len ?_
  refine cDr (fun g1 => ?_) (fun g1 => ?_)
  · exact ret1 (.bool false) rfl (bad (by omega))
  refine fldA ?_
  refine ld (.slice A2 n2 c2) (bg.cell rfl) ?_
  refine len ?_
  refine cDr (fun g2 => ?_) (fun g2 => ?_)
  · exact ret1 (.bool false) rfl (bad (by omega))
  refine fldA ?_
  refine ld (.slice A3 n3 c3) (bg.cell rfl) ?_
  refine len ?_
  refine cDr (fun g3 => ?_) (fun g3 => ?_)
  · exact ret1 (.bool false) rfl (bad (by omega))
  refine fldA ?_
  refine ld (.slice A4 n4 c4) (bg.cell rfl) ?_
  refine len ?_
  refine cDr (fun g4 => ?_) (fun g4 => ?_)
  · exact ret1 (.bool false) rfl (bad (by omega))
  refine fldA ?_
  refine ld (.slice A5 n5 c5) (bg.cell rfl) ?_
  refine len ?_
  refine cDr (fun g5 => ?_) (fun g5 => ?_)
  · exact ret1 (.bool false) rfl (bad (by omega))
  refine fldA ?_
  refine ld (.slice A6 n6 c6) (bg.cell rfl) ?_
  refine len ?_
  refine cDr (fun g6 => ?_) (fun g6 => ?_)
  · exact ret1 (.bool false) rfl (bad (by omega))
  exact ret1 (.bool true) rfl ⟨by rw [tiff.2 (by omega)], x1⟩
end
end Go.Proofs.YtffdjecdcbbfaaaGreat

/- Closing: what a district that is handed in reads as. -/
namespace Go.Proofs.YtffdjecdcbbfaaaGreat
open Go Go.RowKit Go.ChangeShapes Go.WideShapes Go.ChangeAt

theorem own : ownKnob Tryz.prog.godebug = none := by kernel_rfl
theorem laidOut : laidOutB Tryz.prog = true := by kernel_rfl
instance nz1 : NeZero 1 := ⟨by decide⟩
instance nz8 : NeZero 8 := ⟨by decide⟩
instance nz16 : NeZero 16 := ⟨by decide⟩
instance nz24 : NeZero 24 := ⟨by decide⟩
instance nz32 : NeZero 32 := ⟨by decide⟩
instance nz40 : NeZero 40 := ⟨by decide⟩
instance nz48 : NeZero 48 := ⟨by decide⟩
instance nz56 : NeZero 56 := ⟨by decide⟩
instance nz88 : NeZero 88 := ⟨by decide⟩
instance nz104 : NeZero 104 := ⟨by decide⟩

section
variable {P : Program} {α β : Type} {a : Ty α} {b : Ty β}
theorem rdAt {α : Type} (P : Program) (t : TypeId) (a : Ty α) [h : Rd P t a] (n : Nat) : RdN P n t a := h.h n
def tStr : Ty ByteArray := tFl 1 (fun s => [.string s]) fun _ => rfl
theorem rd_str {t : TypeId} (h : P.underlying t = some .string) : Rd P t tStr := ⟨fun n => ⟨fun {H enc W cs x} hx _ => by
  obtain ⟨s, hs, _⟩ := DataW.trod_string h hx
  exact ⟨s, hs⟩⟩⟩
theorem Rd.of {t : TypeId} (f : α → β) (h : Rd P t a) (hf : ∀ W cs y, a.rep AnyB W cs y → b.rep AnyB W cs (f y)) : Rd P t b := ⟨fun n => ⟨fun {H enc W cs x} hx hw => by
  obtain ⟨y, hy⟩ := (h.h n).h hx hw
  exact ⟨f y, hf W cs y hy⟩⟩⟩
theorem rd_arr2 {t e : TypeId} (hu : P.underlying t = some (.array 2 e)) (hc : P.cellsOf t = a.sz + a.sz) (he : P.cellsOf e = a.sz) (hr : Rd P e a) : Rd P t (tPair a a) := ⟨fun n => ⟨fun {H enc W cs x} hx hw => by
  obtain ⟨xs, m, rfl, rfl, hl, hxl, hi⟩ := DataW.trod_array hu hx
  dsimp only at hw
  rw [DataW.weights, hu] at hw
  dsimp only at hw
  have el : ∀ i, i < 2 → ∃ y, a.rep AnyB W ((cs.drop (i * P.cellsOf e)).take (P.cellsOf e)) y := fun i h2 => by
    have h1 := hi i h2
    have h3 : i < xs.length := by omega
    rw [List.getElem?_eq_getElem h3] at h1
    exact (hr.h m).h h1 (weightsAll_mem (List.mem_map_of_mem (List.getElem_mem h3)) hw)
  obtain ⟨y0, h0⟩ := el 0 (by omega)
  obtain ⟨y1, h1⟩ := el 1 (by omega)
  rw [he] at h0 h1
  rw [hc] at hl
  refine ⟨(y0, y1), _, _, ?_, h0, h1⟩
  rw [Nat.zero_mul, List.drop_zero, Nat.one_mul, List.take_of_length_le (l := cs.drop a.sz) (by rw [List.length_drop]; omega), List.take_append_drop]⟩⟩
end

theorem rd_range : Rd Tryz.prog 101 (tPair tInt tInt) := Rd.struct Tryz.underlying101 (by kernel_rfl) fun n => .cons (rdAt Tryz.prog 3 tInt n) rfl (.one (rdAt Tryz.prog 3 tInt n) rfl)
theorem rd_ratio : Rd Tryz.prog 104 (tPair tInt tInt) := Rd.struct Tryz.underlying104 (by kernel_rfl) fun n => .cons (rdAt Tryz.prog 3 tInt n) rfl (.one (rdAt Tryz.prog 3 tInt n) rfl)
theorem rd_tank : Rd Tryz.prog 23 (tPair tInt tInt) := Rd.struct Tryz.underlying23 (by kernel_rfl) fun n => .cons (rdAt Tryz.prog 3 tInt n) rfl (.one (rdAt Tryz.prog 3 tInt n) rfl)
theorem rd_ratios2 : Rd Tryz.prog 105 (tPair (tPair tInt tInt) (tPair tInt tInt)) := rd_arr2 (e := 104) Tryz.underlying105 (by kernel_rfl) (by kernel_rfl) rd_ratio
theorem rd_name : Rd Tryz.prog 9 tStr := rd_str Tryz.underlying9
theorem rd_reach : Rd Tryz.prog 107 tReach := by
  refine Rd.of (fun y : ByteArray × Int × Int × Int × Int × Int × (Int × Int) × (Int × Int) × (Int × Int) => (⟨y.1, y.2.1, y.2.2.1, y.2.2.2.1, y.2.2.2.2.1, y.2.2.2.2.2.1, ⟨y.2.2.2.2.2.2.1.1, y.2.2.2.2.2.2.1.2⟩, ⟨y.2.2.2.2.2.2.2.1.1, y.2.2.2.2.2.2.2.1.2⟩, ⟨y.2.2.2.2.2.2.2.2.1, y.2.2.2.2.2.2.2.2.2⟩⟩ : Reach))
    (Rd.struct Tryz.underlying107 (by kernel_rfl) fun n => .cons (rd_name.h n) rfl (.cons (rdAt Tryz.prog 3 tInt n) rfl (.cons (rdAt Tryz.prog 3 tInt n) rfl (.cons (rdAt Tryz.prog 3 tInt n) rfl (.cons (rdAt Tryz.prog 3 tInt n) rfl (.cons (rdAt Tryz.prog 3 tInt n) rfl (.cons (rd_range.h n) rfl (.one (rd_ratios2.h n) rfl)))))))) ?_
  rintro W cs ⟨s, u, d, c, k, i, ⟨e1, e2⟩, ⟨f1, f2⟩, ⟨g1, g2⟩⟩ ⟨_, _, rfl, rfl, _, _, rfl, ⟨rfl, -⟩, _, _, rfl, ⟨rfl, -⟩, _, _, rfl, ⟨rfl, -⟩, _, _, rfl, ⟨rfl, -⟩, _, _, rfl, ⟨rfl, -⟩, _, _, rfl, ⟨_, _, rfl, ⟨rfl, -⟩, ⟨rfl, -⟩⟩, _, _, rfl, ⟨_, _, rfl, ⟨rfl, -⟩, ⟨rfl, -⟩⟩, ⟨_, _, rfl, ⟨rfl, -⟩, ⟨rfl, -⟩⟩⟩
  rfl
theorem rd_farm : Rd Tryz.prog 111 tFarm := by
  refine Rd.of (fun y : ByteArray × Int × Int × Int => (⟨y.1, y.2.1, y.2.2.1, y.2.2.2⟩ : Farm))
    (Rd.struct Tryz.underlying111 (by kernel_rfl) fun n => .cons (rd_name.h n) rfl (.cons (rdAt Tryz.prog 3 tInt n) rfl (.cons (rdAt Tryz.prog 3 tInt n) rfl (.one (rdAt Tryz.prog 3 tInt n) rfl)))) ?_
  rintro W cs ⟨s, u, d, c⟩ ⟨_, _, rfl, rfl, _, _, rfl, ⟨rfl, -⟩, _, _, rfl, ⟨rfl, -⟩, ⟨rfl, -⟩⟩
  rfl
theorem rd_crop : Rd Tryz.prog 162 tCrop := by
  refine Rd.of (fun y : ByteArray × Int => (⟨y.1, y.2⟩ : Crop))
    (Rd.struct Tryz.underlying162 (by kernel_rfl) fun n => .cons (rd_name.h n) rfl (.one (rdAt Tryz.prog 3 tInt n) rfl)) ?_
  rintro W cs ⟨s, u⟩ ⟨_, _, rfl, rfl, ⟨rfl, -⟩⟩
  rfl
theorem rd_duty : Rd Tryz.prog 168 tDuty := by
  refine Rd.of (fun y : ByteArray × Int × Int × Int => (⟨y.1, y.2.1, y.2.2.1, y.2.2.2⟩ : Duty))
    (Rd.struct Tryz.underlying168 (by kernel_rfl) fun n => .cons (rd_name.h n) rfl (.cons (rdAt Tryz.prog 3 tInt n) rfl (.cons (rdAt Tryz.prog 3 tInt n) rfl (.one (rdAt Tryz.prog 3 tInt n) rfl)))) ?_
  rintro W cs ⟨s, u, d, c⟩ ⟨_, _, rfl, rfl, _, _, rfl, ⟨rfl, -⟩, _, _, rfl, ⟨rfl, -⟩, ⟨rfl, -⟩⟩
  rfl
theorem rd_right : Rd Tryz.prog 165 tRight := by
  refine Rd.of (fun y : ByteArray × Int × Int × Int × Int × Int × Int × Int × Int × Int => (⟨y.1, y.2.1, y.2.2.1, y.2.2.2.1, y.2.2.2.2.1, y.2.2.2.2.2.1, y.2.2.2.2.2.2.1, y.2.2.2.2.2.2.2.1, y.2.2.2.2.2.2.2.2.1, y.2.2.2.2.2.2.2.2.2⟩ : Right))
    (Rd.struct Tryz.underlying165 (by kernel_rfl) fun n => .cons (rd_name.h n) rfl (.cons (rdAt Tryz.prog 3 tInt n) rfl (.cons (rdAt Tryz.prog 3 tInt n) rfl (.cons (rdAt Tryz.prog 3 tInt n) rfl (.cons (rdAt Tryz.prog 3 tInt n) rfl (.cons (rdAt Tryz.prog 3 tInt n) rfl (.cons (rdAt Tryz.prog 3 tInt n) rfl (.cons (rdAt Tryz.prog 3 tInt n) rfl (.cons (rdAt Tryz.prog 3 tInt n) rfl (.one (rdAt Tryz.prog 3 tInt n) rfl)))))))))) ?_
  rintro W cs ⟨s, a, b, c, d, e, f, g, h, i⟩ ⟨_, _, rfl, rfl, _, _, rfl, ⟨rfl, -⟩, _, _, rfl, ⟨rfl, -⟩, _, _, rfl, ⟨rfl, -⟩, _, _, rfl, ⟨rfl, -⟩, _, _, rfl, ⟨rfl, -⟩, _, _, rfl, ⟨rfl, -⟩, _, _, rfl, ⟨rfl, -⟩, _, _, rfl, ⟨rfl, -⟩, ⟨rfl, -⟩⟩
  rfl
theorem rd_well : Rd Tryz.prog 240 tWell := Rd.map (g := fun y : Int × Int × Int × List Int => (⟨y.1, y.2.1, y.2.2.1, y.2.2.2⟩ : Well))
    (Rd.struct Tryz.underlying240 (by kernel_rfl) fun n => .cons (rdAt Tryz.prog 3 tInt n) rfl (.cons (rdAt Tryz.prog 3 tInt n) rfl (.cons (rdAt Tryz.prog 3 tInt n) rfl (.one (rdAt Tryz.prog 36 (tSl tInt) n) rfl)))) fun _ => rfl
instance : Rd Tryz.prog 107 tReach := rd_reach
instance : Rd Tryz.prog 111 tFarm := rd_farm
instance : Rd Tryz.prog 162 tCrop := rd_crop
instance : Rd Tryz.prog 165 tRight := rd_right
instance : Rd Tryz.prog 168 tDuty := rd_duty
instance : Rd Tryz.prog 240 tWell := rd_well
theorem rd_reaches : Rd Tryz.prog 24 (tSl tReach) := inferInstance
theorem rd_farms : Rd Tryz.prog 25 (tSl tFarm) := inferInstance
theorem rd_crops : Rd Tryz.prog 26 (tSl tCrop) := inferInstance
theorem rd_rights : Rd Tryz.prog 27 (tSl tRight) := inferInstance
theorem rd_duties : Rd Tryz.prog 28 (tSl tDuty) := inferInstance
theorem rd_wells : Rd Tryz.prog 29 (tSl tWell) := inferInstance
theorem rd_dist : Rd Tryz.prog 31 tDist := by
  refine Rd.of (fun y : ByteArray × Int × (Int × Int) × List Reach × List Farm × List Crop × List Right × List Duty × List Well => (⟨y.1, y.2.1, y.2.2.1.1, y.2.2.1.2, y.2.2.2.1, y.2.2.2.2.1, y.2.2.2.2.2.1, y.2.2.2.2.2.2.1, y.2.2.2.2.2.2.2.1, y.2.2.2.2.2.2.2.2⟩ : Dist))
    (Rd.struct Tryz.underlying31 (by kernel_rfl) fun n => .cons (rd_name.h n) rfl (.cons (rdAt Tryz.prog 3 tInt n) rfl (.cons (rd_tank.h n) rfl (.cons (rd_reaches.h n) rfl (.cons (rd_farms.h n) rfl (.cons (rd_crops.h n) rfl (.cons (rd_rights.h n) rfl (.cons (rd_duties.h n) rfl (.one (rd_wells.h n) rfl))))))))) ?_
  rintro W cs ⟨s, h, ⟨c, t⟩, l1, l2, l3, l4, l5, l6⟩ ⟨_, _, rfl, rfl, _, _, rfl, ⟨rfl, -⟩, _, _, rfl, ⟨_, _, rfl, ⟨rfl, -⟩, ⟨rfl, -⟩⟩, _, _, rfl, ⟨A1, n1, c1, rfl, h1, -⟩, _, _, rfl, ⟨A2, n2, c2, rfl, h2, -⟩, _, _, rfl, ⟨A3, n3, c3, rfl, h3, -⟩, _, _, rfl, ⟨A4, n4, c4, rfl, h4, -⟩, _, _, rfl, ⟨A5, n5, c5, rfl, h5, -⟩, A6, n6, c6, rfl, h6, -⟩
  exact DiR.of_ ⟨A1, n1, c1, A2, n2, c2, A3, n3, c3, A4, n4, c4, A5, n5, c5, A6, n6, c6, rfl, h1, h2, h3, h4, h5, h6⟩
end Go.Proofs.YtffdjecdcbbfaaaGreat

/- Layer 20: canals.check, up, Delay. -/
namespace Go.Proofs.YtffdjecdcbbfaaaGreat
open Go Go.RowKit

def rcC (d : Dist) (k : Nat) : Reach := d.reaches.getD k ⟨ByteArray.empty, 0, 0, 0, 0, 0, ⟨0, 0⟩, ⟨0, 0⟩, ⟨0, 0⟩⟩
theorem rcC_at {d : Dist} {k : Nat} {x : Reach} (h : d.reaches[k]? = some x) : rcC d k = x := by unfold rcC; rw [List.getD_eq_getElem?_getD, h]; rfl
theorem reachesB_up : ∀ {l : List Reach} {i k : Nat} {r : Reach}, reachesB i l = true → l[k]? = some r → upOk (i + k) r.up = true ∧ reachOk r = true
  | [], i, k, r, _, h => by simp at h
  | y :: l, i, 0, r, hl, h => by
    simp at h; subst h
    unfold reachesB at hl
    simp only [Bool.and_eq_true] at hl
    exact hl.1
  | y :: l, i, k + 1, r, hl, h => by
    unfold reachesB at hl
    simp only [Bool.and_eq_true] at hl
    have := reachesB_up (i := i + 1) (k := k) hl.2 (by simpa using h)
    rwa [show i + 1 + k = i + (k + 1) by omega] at this
/-- Where the canals lead upwards. -/
structure Tre (d : Dist) : Prop where
  up : ∀ (k : Nat) (x : Reach), d.reaches[k]? = some x → -1 ≤ x.up ∧ x.up < k
  dl : ∀ (k : Nat) (x : Reach), d.reaches[k]? = some x → 1 ≤ x.delay ∧ x.delay ≤ 16
theorem tre_of {d : Dist} (h : dErr d = 0) : Tre d := by
  have hv : reachesB 0 d.reaches = true := by
    unfold dErr at h
    cases h1 : tooMany d with
    | true => rw [h1] at h; cases h
    | false =>
      rw [h1] at h
      cases h2 : validB d with
      | false => rw [h2] at h; cases h
      | true => unfold validB at h2; simp only [Bool.and_eq_true] at h2; simp_all
  refine ⟨fun k x hx => ?_, fun k x hx => (reachOk_iff.1 (reachesB_up hv hx).2).1⟩
  have := (reachesB_up hv hx).1
  unfold upOk at this
  split at this
  · have := of_decide_eq_true this; omega
  · have := inI_iff.1 this; omega
/-- The hours on the way. -/
def delN (d : Dist) : Nat → Int → Int
  | 0, _ => 0
  | f + 1, r => if r < 0 then 0 else (rcC d r.toNat).delay + delN d f (rcC d r.toNat).up
theorem delN_more {d : Dist} (h : Tre d) : ∀ (f : Nat) (r : Int), r < f → r < d.reaches.length → delN d f r = delN d (r + 1).toNat r
  | 0, r, hf, _ => by
    have : (r + 1).toNat = 0 := by omega
    rw [this]
  | f + 1, r, hf, hn => by
    by_cases hr : r < 0
    · have : (r + 1).toNat = 0 := by omega
      rw [this]
      unfold delN
      rw [if_pos hr]
    · obtain ⟨g, hg⟩ : ∃ g, (r + 1).toNat = g + 1 := ⟨r.toNat, by omega⟩
      rw [hg]
      unfold delN
      rw [if_neg hr, if_neg hr]
      obtain ⟨x, hx⟩ : ∃ x, d.reaches[r.toNat]? = some x := ⟨_, List.getElem?_eq_getElem (by omega : r.toNat < d.reaches.length)⟩
      have hu := h.up _ _ hx
      rw [rcC_at hx]
      rw [delN_more h f x.up (by omega) (by omega), delN_more h g x.up (by omega) (by omega)]
  termination_by f => f
  decreasing_by all_goals omega
def delV (d : Dist) (r : Int) : Int := delN d (r + 1).toNat r
theorem delV_step {d : Dist} (h : Tre d) {k : Nat} {x : Reach} (hx : d.reaches[k]? = some x) : delV d k = x.delay + delV d x.up := by
  have hk := (List.getElem?_eq_some_iff.1 hx).1
  have hu := h.up _ _ hx
  unfold delV
  rw [show ((k : Int) + 1).toNat = k + 1 by omega]
  show (if (k : Int) < 0 then 0 else (rcC d ((k : Int)).toNat).delay + delN d k (rcC d ((k : Int)).toNat).up) = _
  rw [if_neg (by omega), show ((k : Int)).toNat = k by omega, rcC_at hx, delN_more h k x.up (by omega) (by omega)]
def canE (d : Dist) (rs : List Int) : Int := if dErr d = 0 then (if rs.all fun r => decide (0 ≤ r ∧ r < d.reaches.length) then 0 else 1) else dErr d
section
variable {D : Nat → Prop} {w : World}
theorem c_cancheck {csd : List Value} {d : Dist} {rs : List Int} {A : Option Addr} {n c : Nat} (hd : DiR D w csd d) (hl : SlR tInt D w A n rs) : CallZ Tryz.prog 78 #[.agg csd.toArray, .slice A n c] w (fun v w' => v = iv (canE d rs) ∧ Ext w w') := by
  have l1 := hl.len
  have hle := hl.le
  have hd0 := hd
  obtain ⟨A1, n1, c1, A2, n2, c2, A3, n3, c3, A4, n4, c4, A5, n5, c5, A6, n6, c6, rfl, hr, -⟩ := hd.ex
  have lr := hr.len
  refine fn_rule (args := [.agg #[.string d.name, iv d.hours, iv d.cap, iv d.start, .slice A1 n1 c1, .slice A2 n2 c2, .slice A3 n3 c3, .slice A4 n4 c4, .slice A5 n5 c5, .slice A6 n6 c6], .slice A n c]) Tryz.func78 (by kernel_rfl) ?_
  refine box (fun b w1 h1 => ?_)
  have B : Blk w1 b 31 [.string d.name, iv d.hours, iv d.cap, iv d.start, .slice A1 n1 c1, .slice A2 n2 c2, .slice A3 n3 c3, .slice A4 n4 c4, .slice A5 n5 c5, .slice A6 n6 c6] := h1.blk
  refine ldA [.string d.name, iv d.hours, iv d.cap, iv d.start, .slice A1 n1 c1, .slice A2 n2 c2, .slice A3 n3 c3, .slice A4 n4 c4, .slice A5 n5 c5, .slice A6 n6 c6] (.blk B) rfl ?_
  refine call_of (c_eCheck (hd0.ext h1.ext)) ?_
  rintro _ w2 ⟨rfl, x2⟩
  have x12 := h1.ext.trans x2
  have B := B.ext x2
  obtain ⟨e, he⟩ : ∃ e, e = dErr d := ⟨_, rfl⟩
  rw [← he]
  refine cN (fun g => ?_) (fun g => ?_)
  · exact ret1 (iv e) rfl ⟨by unfold canE; rw [← he, if_neg g], x12⟩
  have ce : canE d rs = if rs.all fun r => decide (0 ≤ r ∧ r < d.reaches.length) then 0 else 1 := by unfold canE; rw [← he, if_pos g]
  refine len ?_
  refine loop_rule (fun k : Nat => [(15, iv (k : Int))]) (fun k u => k ≤ n ∧ w2 = u ∧ ∀ r ∈ rs.take k, 0 ≤ r ∧ r < d.reaches.length) (fun k _ => n - k) 0 ⟨rfl, trivial⟩ ⟨by omega, rfl, fun r hr => by simp at hr⟩ rfl ?_
  rintro G k u ⟨hk, rfl, hall⟩
  refine cD (fun hlt => ?_) (fun hge => ?_)
  · have hlt : k < n := by omega
    obtain ⟨bl, o, cs, r, rfl, hq, -, -, hc, rfl, -⟩ := (hl.ext x12).at_ hlt
    have htk : rs.take (k + 1) = rs.take k ++ [r] := by rw [List.take_add_one, hq]; rfl
    have no : ¬ (0 ≤ r ∧ r < d.reaches.length) → canE d rs = 1 := fun h => by
      rw [ce, if_neg]
      intro h2
      exact h (of_decide_eq_true (List.all_eq_true.1 h2 r (List.mem_of_getElem? hq)))
    refine idx k rfl hlt ?_
    refine ld (iv r) (hc 0 _ rfl) ?_
    refine cD (fun g1 => ?_) (fun g1 => ?_)
    · exact ret1 (iv 1) rfl ⟨by rw [no (by omega)], x12⟩
    refine fldA ?_
    refine ld (.slice A1 n1 c1) (B.cell rfl) ?_
    refine len ?_
    refine cD (fun g2 => ?_) (fun g2 => ?_)
    · exact ret1 (iv 1) rfl ⟨by rw [no (by omega)], x12⟩
    refine arI (by omega) ?_
    refine next (k + 1) ⟨by rw [Int.natCast_add]; rfl, trivial⟩ ⟨by omega, rfl, fun x hx => ?_⟩ (by omega)
    rw [htk, List.mem_append, List.mem_singleton] at hx
    rcases hx with hx | rfl
    · exact hall x hx
    · omega
  · rw [List.take_of_length_le (by omega)] at hall
    exact ret1 (iv 0) rfl ⟨by rw [ce, if_pos (List.all_eq_true.2 fun r hr => decide_eq_true (hall r hr))], x12⟩
/-- One walk upwards. J says what holds before a reach is visited. -/
theorem c_canup1 {csd : List Value} {d : Dist} {l b1 b2 : Nat} {r : Int} {D D' : Nat → Prop} (J : Int → World → Prop) (ht : Tre d) (hb12 : b1 ≠ b2) (hJ : ∀ r w w', J r w → Kept (fun x => x ≠ b1) w w' → J r w')
    (hstep : ∀ (k : Nat) x w, d.reaches[k]? = some x → J k w → YieldP Tryz.prog l [iv (k : Int)].toArray (fun v w' => v = .bool true ∧ J x.up w' ∧ Kept D w w') w) (hD1 : D b1) (hD2 : D b2) (hDD : ∀ b, D' b → D b) (hD1' : ∀ b, D' b → b ≠ b1)
    (h1 : Blk w b1 3 [iv r]) (h2 : Blk w b2 31 csd) (hd : DiR D' w csd d) (hr : -1 ≤ r ∧ r < d.reaches.length) (h0 : J r w) :
    CallZ Tryz.prog 108 #[.func (.yield l) #[] #[], ptr b1, ptr b2] w (fun _ w' => J (-1) w') := by
  obtain ⟨A1, n1, c1, A2, n2, c2, A3, n3, c3, A4, n4, c4, A5, n5, c5, A6, n6, c6, rfl, hrs, -⟩ := hd.ex
  have lr := hrs.len
  refine fn_rule (args := [.func (.yield l) #[] #[], ptr b1, ptr b2]) Tryz.func108 (by kernel_rfl) ?_
  refine loop_rule (fun _ : Int => []) (fun r u => (-1 ≤ r ∧ r < d.reaches.length) ∧ Blk u b1 3 [iv r] ∧ Blk u b2 31 [.string d.name, iv d.hours, iv d.cap, iv d.start, .slice A1 n1 c1, .slice A2 n2 c2, .slice A3 n3 c3, .slice A4 n4 c4, .slice A5 n5 c5, .slice A6 n6 c6] ∧ SlR tReach D' u A1 n1 d.reaches ∧ J r u) (fun r _ => (r + 1).toNat) r trivial ⟨hr, h1, h2, hrs, h0⟩ rfl ?_
  rintro G r u ⟨hr, B1, B2, hs, hj⟩
  refine ld (iv r) (B1.cell rfl) ?_
  refine cD (fun g => ?_) (fun g => ?_)
  · obtain ⟨k, rfl⟩ : ∃ k : Nat, r = k := ⟨r.toNat, by omega⟩
    obtain ⟨x, hx⟩ : ∃ x, d.reaches[k]? = some x := ⟨_, List.getElem?_eq_getElem (by omega : k < d.reaches.length)⟩
    refine ld (iv (k : Int)) (B1.cell rfl) ?_
    refine yield_of (hstep k x u hx hj) ?_
    rintro _ u2 ⟨rfl, hj2, k2⟩
    have B1 := B1.kept k2 hD1
    have B2 := B2.kept k2 hD2
    have hs := hs.kept k2 fun b _ h => hDD b h
    have hu := ht.up _ _ hx
    obtain ⟨bb, o, cs, y, rfl, hy, -, -, hc, rfl⟩ := hs.at_ (k := k) (by omega)
    obtain rfl : x = y := by rw [hx] at hy; injection hy
    refine fldA ?_
    refine ld (.slice (some (ad bb o)) n1 c1) (B2.cell rfl) ?_
    refine ld (iv (k : Int)) (B1.cell rfl) ?_
    refine idx k rfl (by omega) ?_
    refine fldA ?_
    refine ld (iv x.up) (hc 1 _ rfl) ?_
    refine st1 B1 rfl (fun u3 B3 k3 => ?_)
    exact next x.up trivial ⟨by omega, B3, B2.kept k3 (Ne.symm hb12), hs.kept k3 fun b _ h => hD1' b h, hJ _ _ _ hj2 k3⟩ (by omega)
  · obtain rfl : r = -1 := by omega
    exact ret0 hj
end
end Go.Proofs.YtffdjecdcbbfaaaGreat

/- Layer 20: up, Delay. -/
namespace Go.Proofs.YtffdjecdcbbfaaaGreat
open Go Go.RowKit

theorem canE_ok {d : Dist} {r : Int} (h : canE d [r] = 0) : dErr d = 0 ∧ 0 ≤ r ∧ r < d.reaches.length := by
  unfold canE at h
  by_cases h0 : dErr d = 0
  · rw [if_pos h0] at h
    by_cases h1 : ([r].all fun r => decide (0 ≤ r ∧ r < d.reaches.length)) = true
    · exact ⟨h0, of_decide_eq_true (List.all_eq_true.1 h1 r List.mem_cons_self)⟩
    · rw [if_neg h1] at h; cases h
  · rw [if_neg h0] at h; exact absurd h h0
section
variable {D : Nat → Prop} {w : World}
theorem c_canup {csd : List Value} {d : Dist} {r : Int} (hd : DiR D w csd d) : CallZ Tryz.prog 79 #[.agg csd.toArray, iv r] w (fun v w' => ∃ b1 b2, v = .func (.func 108) #[] #[ptr b1, ptr b2] ∧ Ext w w' ∧ Blk w' b1 3 [iv r] ∧ Blk w' b2 31 csd ∧ w.heap.size ≤ b2 ∧ b2 < b1) := by
  obtain ⟨A1, n1, c1, A2, n2, c2, A3, n3, c3, A4, n4, c4, A5, n5, c5, A6, n6, c6, rfl, -⟩ := hd.ex
  refine fn_rule (args := [.agg #[.string d.name, iv d.hours, iv d.cap, iv d.start, .slice A1 n1 c1, .slice A2 n2 c2, .slice A3 n3 c3, .slice A4 n4 c4, .slice A5 n5 c5, .slice A6 n6 c6], iv r]) Tryz.func79 (by kernel_rfl) ?_
  refine box (fun b2 w1 h1 => ?_)
  refine box (fun b1 w2 h2 => ?_)
  have e1 := h1.at_
  have e2 := h2.at_
  have s1 := h1.size
  exact ret1 (.func (.func 108) #[] #[ptr b1, ptr b2]) rfl ⟨b1, b2, rfl, h1.ext.trans h2.ext, h2.blk, h1.blk.ext h2.ext, by omega, by omega⟩
set_option maxRecDepth 4000 in
theorem c_canDelay {csd : List Value} {d : Dist} {r : Int} (hd : DiR D w csd d) (hr : I64 r) : CallZ Tryz.prog 45 #[.agg csd.toArray, iv r] w (fun v w' => v = .tuple #[iv (if canE d [r] = 0 then delV d r else 0), iv (canE d [r])] ∧ Ext w w') := by
  have hd0 := hd.more (D' := fun b => b < w.heap.size) fun b h _ => h
  obtain ⟨A1, n1, c1, A2, n2, c2, A3, n3, c3, A4, n4, c4, A5, n5, c5, A6, n6, c6, rfl, hrs, -⟩ := hd0.ex
  have lr := hrs.len
  have lle := hrs.le
  refine fn_rule (args := [.agg #[.string d.name, iv d.hours, iv d.cap, iv d.start, .slice A1 n1 c1, .slice A2 n2 c2, .slice A3 n3 c3, .slice A4 n4 c4, .slice A5 n5 c5, .slice A6 n6 c6], iv r]) Tryz.func45 (by kernel_rfl) ?_
  refine box (fun bd w1 h1 => ?_)
  refine alloc (fun b4 w2 h2 => ?_)
  have e1 := h1.at_
  have e2 := h2.at_
  have s1 := h1.size
  have s2 := h2.size
  have x2 := h1.ext.trans h2.ext
  have Bd : Blk w2 bd 31 [.string d.name, iv d.hours, iv d.cap, iv d.start, .slice A1 n1 c1, .slice A2 n2 c2, .slice A3 n3 c3, .slice A4 n4 c4, .slice A5 n5 c5, .slice A6 n6 c6] := h1.blk.ext h2.ext
  have B4 : Blk w2 b4 3 [iv 0] := h2.blk
  refine ldA [.string d.name, iv d.hours, iv d.cap, iv d.start, .slice A1 n1 c1, .slice A2 n2 c2, .slice A3 n3 c3, .slice A4 n4 c4, .slice A5 n5 c5, .slice A6 n6 c6] (.blk Bd) rfl ?_
  refine lit [iv r] (fun g w3 h3 => ?_)
  refine call_of (c_cancheck (D := fun _ => True) (rs := [r]) ((hd0.ext (x2.trans h3.ext)).more fun _ _ _ => trivial) (SlR.of_cells rfl (by decide) trivial (.blk h3.blk) (flat_ints fun x hx => by rw [List.mem_singleton] at hx; rw [hx]; exact hr))) ?_
  rintro _ w4 ⟨rfl, x4⟩
  have x24 := h3.ext.trans x4
  have x04 := x2.trans x24
  have Bd := Bd.ext x24
  have B4 := B4.ext x24
  have s4 := x04.size
  have s24 := x24.size
  obtain ⟨e, he⟩ : ∃ e, e = canE d [r] := ⟨_, rfl⟩
  rw [← he]
  refine cN (fun g => ?_) (fun g => ?_)
  · refine st1 B4 rfl (fun w5 B5 k5 => ?_)
    refine ret ?_
    refine resL _ (holds_cell (B5.cell rfl)) ?_
    exact ⟨by rw [if_neg g]; rfl, x04.then k5 fun b hb _ e => by omega⟩
  obtain ⟨hde, hr0, hr1⟩ := canE_ok (d := d) (r := r) (by rw [← he]; exact g)
  have ht := tre_of hde
  refine ldA [.string d.name, iv d.hours, iv d.cap, iv d.start, .slice A1 n1 c1, .slice A2 n2 c2, .slice A3 n3 c3, .slice A4 n4 c4, .slice A5 n5 c5, .slice A6 n6 c6] (.blk Bd) rfl ?_
  refine call_of (c_canup (hd0.ext x04)) ?_
  rintro _ w5 ⟨b1, b2, rfl, x5, C1, C2, hb2, hb12⟩
  have Bd := Bd.ext x5
  have B4 := B4.ext x5
  have x05 := x04.trans x5
  have s5 := x5.size
  have l1 := C1.lt
  have l2 := C2.lt
  refine range (gf := 108) (lb := #[ptr b1, ptr b2]) rfl (fun fn tmps w6 R hR hF hwf x6 z6 hD6 hl6 => ?_)
  show CallZ _ _ #[.func (.yield (w5.heap.size + 1)) #[] #[], ptr b1, ptr b2] w6 _
  have hs6 := hrs.ext (x05.trans x6)
  have Bd6 := Bd.ext x6
  refine (c_canup1 (D := fun x => x ≠ b4 ∧ x ≠ w5.heap.size + 1) (D' := fun b => b < w.heap.size) (fun q u => Kept (fun x => x ≠ b4 ∧ x ≠ b1 ∧ x ≠ w5.heap.size + 1) w6 u ∧ LoopAt u (w5.heap.size + 1) R ∧ (-1 ≤ q ∧ q ≤ r) ∧ ∃ S, Blk u b4 3 [iv S] ∧ S + delV d q = delV d r ∧ 0 ≤ S ∧ S ≤ 16 * (r - q))
    ht (by omega) (fun q u u' ⟨k5, l5, hq, S, q5, hS⟩ k6 => ⟨k5.then k6 fun _ _ h => h.2.1, l5.kept k6 (by omega), hq, S, q5.kept k6 (by omega), hS⟩) ?_ ⟨by omega, by omega⟩ ⟨by omega, by omega⟩ (fun b hb => ⟨by omega, by omega⟩) (fun b hb => by omega) (C1.ext x6) (C2.ext x6) (hd0.ext (x05.trans x6)) ⟨by omega, hr1⟩
    ⟨.refl _ _, hl6, ⟨by omega, by omega⟩, 0, B4.ext x6, by omega, by omega, by omega⟩).mono ?_
  · rintro k x u hx ⟨k5, l5, hq, S, q5, hS, hS0, hS1⟩
    subst hR
    have hk := (List.getElem?_eq_some_iff.1 hx).1
    have hu := ht.up _ _ hx
    have hdl := ht.dl _ _ hx
    refine yield_rule (args := [iv (k : Int)]) l5 rfl rfl hF hwf ?_
    refine mid' l5 (fun u6 k6 _ l6 => ?_)
    have k56 : Kept (fun x => x ≠ b4 ∧ x ≠ b1 ∧ x ≠ w5.heap.size + 1) w6 u6 := k5.then k6 fun _ _ h => h.2.2
    have Bd := Bd6.kept k56 ⟨by omega, by omega, by omega⟩
    have q6 := q5.kept k6 (by omega)
    obtain ⟨bb, o, cs, y, hA, hy, -, hbb, hc, rfl⟩ := (hs6.kept k56 fun b _ hb => ⟨by omega, by omega, by omega⟩).at_ (k := k) (by omega)
    obtain rfl : x = y := by rw [hx] at hy; injection hy
    subst hA
    refine drawP (.take 0 (.take 1 (.take 2 (.take 3 (.take 4 (.take 5 (.take 6 (.take 7 (.bar (.eff 8 .done)))))))))) [8] (fun z => z = u6) mx (by kernel_rfl) rfl ?_
    refine ld (iv S) (q6.cell rfl) ?_
    refine fldA ?_
    refine ld (.slice (some (ad bb o)) n1 c1) (Bd.cell rfl) ?_
    refine idx k rfl (by omega) ?_
    refine fldA ?_
    refine ld (iv x.delay) (hc 2 _ rfl) ?_
    refine arI (by omega) ?_
    refine barS (fun _ => True) trivial ?_
    refine st1 q6 rfl (fun u7 q7 k7 => ?_)
    refine strS trivial ?_
    refine roundN' _ (l6.kept k7 (by omega)) (fun u8 k8 l8 => ?_)
    have kk : Kept (fun x => x ≠ b4 ∧ x ≠ w5.heap.size + 1) u u8 := ((k6.weak fun _ _ h => h.2).trans (k7.weak fun _ _ h => h.1)).trans (k8.weak fun _ _ h => h.2)
    have st := delV_step ht hx
    exact ⟨rfl, ⟨k5.then kk fun _ _ h => ⟨h.1, h.2.2⟩, l8, ⟨by omega, by omega⟩, S + x.delay, q7.kept k8 (by omega), by omega, by omega, by omega⟩, kk⟩
  · rintro v u ⟨k5, l5, -, S, q5, hS, hS0, hS1⟩
    subst hR
    have z0 : delV d (-1) = 0 := rfl
    refine range_end _ l5 (by simp) (fun u6 k6 => ?_)
    have q6 := q5.kept k6 (by omega)
    refine ld _ (q6.cell rfl) ?_
    refine st1 q6 rfl (fun u7 q7 k7 => ?_)
    have k67 : Kept (fun x => x ≠ b4 ∧ x ≠ b1 ∧ x ≠ w5.heap.size + 1) w6 u7 := (k5.then k6 fun _ _ h => h.2.2).then k7 fun _ _ h => h.1
    have hD7 : u7.heap[w5.heap.size]? = some (.deferred (some [])) := (k67.blk _ (by omega) ⟨by omega, by omega, by omega⟩).trans hD6
    refine retM hD7 ?_
    have k8 := Kept.putObj u7 w5.heap.size (.deferred none)
    refine resL _ (holds_cell ((q7.kept k8 (by omega)).cell rfl)) ?_
    refine ⟨?_, (((Ext.any (D := fun b => b < w.heap.size) (x05.trans x6)).then k67 (fun b _ h => ⟨by omega, by omega, by omega⟩)).then k8 (fun b _ h => by omega)).then (.refl (fun _ => True) _) (fun _ _ _ => trivial) |>.weak fun b hb _ => hb⟩
    rw [if_pos g, g, show S = delV d r by omega]; rfl
end
end Go.Proofs.YtffdjecdcbbfaaaGreat

/- Layer 23: runs; contracts of the small functions of the program. -/
namespace Go.Proofs.YtffdjecdcbbfaaaGreat
open Go Go.RowKit

abbrev tInts : Ty (List Int) := tSl tInt
structure Run where
  inflow : List Int
  spill : List Int
  inn : List (List Int)
  evap : List (List Int)
  seep : List (List Int)
  taken : List (List Int)
  tail : List (List Int)
/-- A run's cells. -/
structure RuR (D : Nat → Prop) (w : World) (cs : List Value) (x : Run) : Prop where
  of_ ::
  ex : ∃ A1 n1 c1 A2 n2 c2 A3 n3 c3 A4 n4 c4 A5 n5 c5 A6 n6 c6 A7 n7 c7, cs = [.slice A1 n1 c1, .slice A2 n2 c2, .slice A3 n3 c3, .slice A4 n4 c4, .slice A5 n5 c5, .slice A6 n6 c6, .slice A7 n7 c7] ∧
    SlR tInt D w A1 n1 x.inflow ∧ SlR tInt D w A2 n2 x.spill ∧ SlR tInts D w A3 n3 x.inn ∧ SlR tInts D w A4 n4 x.evap ∧ SlR tInts D w A5 n5 x.seep ∧ SlR tInts D w A6 n6 x.taken ∧ SlR tInts D w A7 n7 x.tail ∧ n1 ≤ c1 ∧ n2 ≤ c2
theorem RuR.keep {D : Nat → Prop} {w w' : World} {cs : List Value} {d : Run} (hk : ∀ b, b < w.heap.size → D b → w'.heap[b]? = w.heap[b]?) (h : RuR D w cs d) : RuR D w' cs d := by
  obtain ⟨A1, n1, c1, A2, n2, c2, A3, n3, c3, A4, n4, c4, A5, n5, c5, A6, n6, c6, A7, n7, c7, h, h1, h2, h3, h4, h5, h6, h7, h8⟩ := h.ex
  exact ⟨A1, n1, c1, A2, n2, c2, A3, n3, c3, A4, n4, c4, A5, n5, c5, A6, n6, c6, A7, n7, c7, h, h1.keep hk, h2.keep hk, h3.keep hk, h4.keep hk, h5.keep hk, h6.keep hk, h7.keep hk, h8⟩
theorem RuR.more {D D' : Nat → Prop} {w : World} {cs : List Value} {d : Run} (hk : ∀ b, b < w.heap.size → D b → D' b) (h : RuR D w cs d) : RuR D' w cs d := by
  obtain ⟨A1, n1, c1, A2, n2, c2, A3, n3, c3, A4, n4, c4, A5, n5, c5, A6, n6, c6, A7, n7, c7, h, h1, h2, h3, h4, h5, h6, h7, h8⟩ := h.ex
  exact ⟨A1, n1, c1, A2, n2, c2, A3, n3, c3, A4, n4, c4, A5, n5, c5, A6, n6, c6, A7, n7, c7, h, h1.more (by decide) hk, h2.more (by decide) hk, h3.more (by decide) hk, h4.more (by decide) hk, h5.more (by decide) hk, h6.more (by decide) hk, h7.more (by decide) hk, h8⟩
theorem RuR.kept {D D' : Nat → Prop} {w w' : World} {cs : List Value} {d : Run} (h : RuR D w cs d) (k : Kept D' w w') (hd : ∀ b, b < w.heap.size → D b → D' b) : RuR D w' cs d := h.keep fun b hb hD => k.blk b hb (hd b hb hD)
theorem RuR.ext {D : Nat → Prop} {w w' : World} {cs : List Value} {d : Run} (h : RuR D w cs d) (k : Ext w w') : RuR D w' cs d := h.kept k fun _ _ _ => trivial
def tRun : Ty Run where
  sz := 7
  rep := RuR
  len h := by obtain ⟨A1, n1, c1, A2, n2, c2, A3, n3, c3, A4, n4, c4, A5, n5, c5, A6, n6, c6, A7, n7, c7, rfl, -⟩ := h.ex; rfl
  keep hk h := h.keep hk
  more hB h := h.more hB

/-! ### what is right -/
def numB (h : Int) (l : List Int) : Bool := decide ((l.length : Int) = h) && l.all fun x => inI x 0 1073741824
def tabB (m : Nat) (h : Int) (l : List (List Int)) : Bool := decide (l.length = m) && l.all (numB h)
def admB (r : Reach) (v e s : Int) : Bool :=
  if v = 0 then decide (e = 0) && decide (s = 0)
  else !(decide (e > r.evap.hi) || decide (s > upI (v * r.s1.n) r.s1.d) || decide (e + s < (lostR r v).lo) || decide (e + s > (lostR r v).hi)) && (decide (e + s = v) || (decide (e ≥ r.evap.lo) && decide (s ≥ v * r.s0.n / r.s0.d)))
theorem admB_iff {r : Reach} {v e s : Int} (hv : v ≠ 0) : admB r v e s = true ↔ e ≤ r.evap.hi ∧ s ≤ upI (v * r.s1.n) r.s1.d ∧ (lostR r v).lo ≤ e + s ∧ e + s ≤ (lostR r v).hi ∧ (e + s = v ∨ (r.evap.lo ≤ e ∧ v * r.s0.n / r.s0.d ≤ s)) := by
  unfold admB
  rw [if_neg hv]
  simp only [Bool.and_eq_true, Bool.not_eq_true', Bool.or_eq_false_iff, decide_eq_false_iff_not, Bool.or_eq_true, decide_eq_true_eq]
  constructor
  · rintro ⟨⟨⟨⟨h1, h2⟩, h3⟩, h4⟩, h5⟩
    exact ⟨by omega, by omega, by omega, by omega, h5⟩
  · rintro ⟨h1, h2, h3, h4, h5⟩
    exact ⟨⟨⟨⟨by omega, by omega⟩, by omega⟩, by omega⟩, h5⟩
theorem up_lt {n d s : Int} (hd : 0 < d) : upI n d < s ↔ n ≤ (s - 1) * d := by
  unfold upI
  rw [Int.ediv_lt_iff_lt_mul hd]
  rw [Int.sub_mul]
  omega
theorem down_le {n d s : Int} (hd : 0 < d) : n / d ≤ s ↔ n < (s + 1) * d := by
  rw [← Int.lt_add_one_iff, Int.ediv_lt_iff_lt_mul hd]

section
variable {D : Nat → Prop} {w : World} {A : Option Addr} {n c : Nat}
theorem sum_drop {l : List Int} {k : Nat} {x : Int} (h : l.drop k = x :: l.drop (k + 1)) : (l.drop k).sum = x + (l.drop (k + 1)).sum := by rw [h, List.sum_cons]
theorem c_total {xs : List Int} (h : SlR tInt D w A n xs) (hb : ∀ x ∈ xs, 0 ≤ x ∧ x ≤ 1073741824) (hn : n ≤ 8192) : CallZ Tryz.prog 105 #[.slice A n c] w (fun v w' => v = iv xs.sum ∧ w' = w) := by
  refine fn_rule (args := [.slice A n c]) Tryz.func105 (by kernel_rfl) ?_
  refine len ?_
  refine loop2 (fun (k : Nat) (s : Int) => [(7, iv (k : Int)), (2, iv s)]) (fun k s w' => k ≤ n ∧ w' = w ∧ xs.sum = s + (xs.drop k).sum ∧ 0 ≤ s ∧ s ≤ k * 1073741824) (fun k _ _ => n - k) 0 0 ⟨rfl, rfl, trivial⟩ ⟨by omega, rfl, by simp, by omega, by omega⟩ rfl ?_
  rintro G k s w' ⟨hk, rfl, he, h0, h1⟩
  refine cD (fun hlt => ?_) (fun hge => ?_)
  · obtain ⟨b, o, cs, x, rfl, hx, hdx, -, hc, rfl, -⟩ := h.at_ (show k < n by omega)
    have hxb := hb x (List.mem_of_getElem? hx)
    refine idx k rfl (by omega) ?_
    refine ld (iv x) (hc 0 _ rfl) ?_
    refine arI (by omega) ?_
    refine arI (by have := h.le; omega) ?_
    refine next2 (k + 1) (s + x) ⟨by rw [Int.natCast_add]; rfl, rfl, trivial⟩ ⟨by omega, rfl, ?_, by omega, by omega⟩ (by omega)
    rw [he, sum_drop hdx]; omega
  · refine ret1 (iv s) rfl ⟨?_, rfl⟩
    rw [he, drop_end (by have := h.len; omega)]; simp
theorem c_formed11 {x : Int} : CallZ Tryz.prog 130 #[iv x] w (fun v w' => v = .bool (!inI x 0 1073741824) ∧ w' = w) := by
  refine fn_rule (args := [iv x]) Tryz.func130 (by kernel_rfl) ?_
  refine cD (fun g1 => ?_) (fun g1 => ?_)
  · exact ret1 (.bool true) rfl ⟨by rw [inI_not.2 (by omega)]; rfl, rfl⟩
  refine cD (fun g2 => ?_) (fun g2 => ?_)
  · exact ret1 (.bool true) rfl ⟨by rw [inI_not.2 (by omega)]; rfl, rfl⟩
  · exact ret1 (.bool false) rfl ⟨by rw [inI_iff.2 (by omega)]; rfl, rfl⟩
theorem c_indL {xs : List Int} (h : SlR tInt D w A n xs) : CallZ Tryz.prog 148 #[.slice A n c, .func (.func 130) #[] #[]] w (fun v w' => (∃ i : Int, v = iv i ∧ (0 ≤ i ↔ (xs.all fun x => inI x 0 1073741824) = false)) ∧ w' = w) := by
  refine fn_rule (args := [.slice A n c, .func (.func 130) #[] #[]]) Tryz.func148 (by kernel_rfl) ?_
  refine len ?_
  refine loop_rule (fun k : Nat => [(8, iv (k : Int))]) (fun k w' => k ≤ n ∧ w' = w ∧ (xs.all fun x => inI x 0 1073741824) = ((xs.drop k).all fun x => inI x 0 1073741824)) (fun k _ => n - k) 0 ⟨rfl, trivial⟩ ⟨by omega, rfl, rfl⟩ rfl ?_
  rintro G k w' ⟨hk, rfl, he⟩
  refine cD (fun hlt => ?_) (fun hge => ?_)
  · obtain ⟨b, o, cs, x, rfl, hx, hdx, -, hc, rfl, -⟩ := h.at_ (show k < n by omega)
    rw [hdx, List.all_cons] at he
    refine idx k rfl (by omega) ?_
    refine ld (iv x) (hc 0 _ rfl) ?_
    refine callB (c_formed11 (x := x)) (fun g => ?_) (fun g => ?_)
    · refine ret1 (iv (k : Int)) rfl ⟨⟨k, rfl, ?_⟩, rfl⟩
      simp only [Bool.not_eq_true'] at g
      rw [he, g]; simp
    · simp only [Bool.not_eq_false'] at g
      refine arI (by have := h.le; omega) ?_
      refine next (k + 1) ⟨by rw [Int.natCast_add]; rfl, trivial⟩ ⟨by omega, rfl, ?_⟩ (by omega)
      rw [he, g]; rfl
  · refine ret1 (iv (-1)) rfl ⟨⟨-1, rfl, ?_⟩, rfl⟩
    rw [he, drop_end (by have := h.len; omega)]; simp
theorem c_contL {xs : List Int} (h : SlR tInt D w A n xs) : CallZ Tryz.prog 129 #[.slice A n c, .func (.func 130) #[] #[]] w (fun v w' => v = .bool (!(xs.all fun x => inI x 0 1073741824)) ∧ w' = w) := by
  refine fn_rule (args := [.slice A n c, .func (.func 130) #[] #[]]) Tryz.func129 (by kernel_rfl) ?_
  refine call_of (c_indL h) ?_
  rintro _ _ ⟨⟨i, rfl, hi⟩, rfl⟩
  refine cD (fun g => ?_) (fun g => ?_)
  · exact ret1 (.bool true) rfl ⟨by rw [hi.1 g]; rfl, rfl⟩
  · exact ret1 (.bool false) rfl ⟨by rw [show (xs.all fun x => inI x 0 1073741824) = true from by cases ha : (xs.all fun x => inI x 0 1073741824) with | true => rfl | false => exact absurd (hi.2 ha) g]; rfl, rfl⟩
theorem c_formed1 {xs : List Int} {h : Int} {g : Nat} (hs : SlR tInt D w A n xs) (hg : Blk w g 3 [iv h]) : CallZ Tryz.prog 128 #[.slice A n c, ptr g] w (fun v w' => v = .bool (!numB h xs) ∧ w' = w) := by
  refine fn_rule (args := [.slice A n c, ptr g]) Tryz.func128 (by kernel_rfl) ?_
  have hl := hs.len
  refine len ?_
  refine ld (iv h) (hg.cell rfl) ?_
  refine cN (fun g1 => ?_) (fun g1 => ?_)
  · exact ret1 (.bool true) rfl ⟨by unfold numB; rw [hl, decide_eq_false g1]; rfl, rfl⟩
  refine callB (c_contL hs) (fun g2 => ?_) (fun g2 => ?_)
  · exact ret1 (.bool true) rfl ⟨by unfold numB; rw [hl, decide_eq_true g1, Bool.true_and, g2], rfl⟩
  · exact ret1 (.bool false) rfl ⟨by unfold numB; rw [hl, decide_eq_true g1, Bool.true_and, g2], rfl⟩
theorem c_indLL {ls : List (List Int)} {h : Int} {g : Nat} (hs : SlR tInts D w A n ls) (hg : Blk w g 3 [iv h]) : CallZ Tryz.prog 147 #[.slice A n c, .func (.func 128) #[] #[ptr g]] w (fun v w' => (∃ i : Int, v = iv i ∧ (0 ≤ i ↔ ls.all (numB h) = false)) ∧ w' = w) := by
  refine fn_rule (args := [.slice A n c, .func (.func 128) #[] #[ptr g]]) Tryz.func147 (by kernel_rfl) ?_
  refine len ?_
  refine loop_rule (fun k : Nat => [(8, iv (k : Int))]) (fun k w' => k ≤ n ∧ w' = w ∧ ls.all (numB h) = (ls.drop k).all (numB h)) (fun k _ => n - k) 0 ⟨rfl, trivial⟩ ⟨by omega, rfl, rfl⟩ rfl ?_
  rintro G k w' ⟨hk, rfl, he⟩
  refine cD (fun hlt => ?_) (fun hge => ?_)
  · obtain ⟨b, o, cs, x, rfl, hx, hdx, -, hc, A2, n2, c2, rfl, hx2, -⟩ := hs.at_ (show k < n by omega)
    rw [hdx, List.all_cons] at he
    refine idx k rfl (by omega) ?_
    refine ld (.slice A2 n2 c2) (hc 0 _ rfl) ?_
    refine callB (c_formed1 hx2 hg) (fun q => ?_) (fun q => ?_)
    · refine ret1 (iv (k : Int)) rfl ⟨⟨k, rfl, ?_⟩, rfl⟩
      simp only [Bool.not_eq_true'] at q
      rw [he, q]; simp
    · simp only [Bool.not_eq_false'] at q
      refine arI (by have := hs.le; omega) ?_
      refine next (k + 1) ⟨by rw [Int.natCast_add]; rfl, trivial⟩ ⟨by omega, rfl, ?_⟩ (by omega)
      rw [he, q]; rfl
  · refine ret1 (iv (-1)) rfl ⟨⟨-1, rfl, ?_⟩, rfl⟩
    rw [he, drop_end (by have := hs.len; omega)]; simp
theorem c_contLL {ls : List (List Int)} {h : Int} {g : Nat} (hs : SlR tInts D w A n ls) (hg : Blk w g 3 [iv h]) : CallZ Tryz.prog 127 #[.slice A n c, .func (.func 128) #[] #[ptr g]] w (fun v w' => v = .bool (!ls.all (numB h)) ∧ w' = w) := by
  refine fn_rule (args := [.slice A n c, .func (.func 128) #[] #[ptr g]]) Tryz.func127 (by kernel_rfl) ?_
  refine call_of (c_indLL hs hg) ?_
  rintro _ _ ⟨⟨i, rfl, hi⟩, rfl⟩
  refine cD (fun q => ?_) (fun q => ?_)
  · exact ret1 (.bool true) rfl ⟨by rw [hi.1 q]; rfl, rfl⟩
  · exact ret1 (.bool false) rfl ⟨by rw [show ls.all (numB h) = true from by cases ha : ls.all (numB h) with | true => rfl | false => exact absurd (hi.2 ha) q]; rfl, rfl⟩
theorem c_formed {ls : List (List Int)} {h : Int} (hs : SlR tInts D w A n ls) : CallZ Tryz.prog 103 #[iv h, .slice A n c] w (fun v w' => v = .bool (ls.all (numB h)) ∧ Ext w w') := by
  refine fn_rule (args := [iv h, .slice A n c]) Tryz.func103 (by kernel_rfl) ?_
  refine box (fun g w1 h1 => ?_)
  refine callB (c_contLL (hs.ext h1.ext) h1.blk) (fun q => ?_) (fun q => ?_)
  · exact ret1 (.bool false) rfl ⟨by simp only [Bool.not_eq_true'] at q; rw [q], h1.ext⟩
  · exact ret1 (.bool true) rfl ⟨by simp only [Bool.not_eq_false'] at q; rw [q], h1.ext⟩
end
end Go.Proofs.YtffdjecdcbbfaaaGreat

/- Layer 23: contracts of admissible. -/
namespace Go.Proofs.YtffdjecdcbbfaaaGreat
open Go Go.RowKit

section
variable {D : Nat → Prop} {w : World}
theorem c_adm {r : Reach} {v e s : Int} (hok : lossOk r = true) (hv : 0 ≤ v ∧ v ≤ 1073741824) (he : 0 ≤ e ∧ e ≤ 1073741824) (hs : 0 ≤ s ∧ s ≤ 1073741824) :
    CallZ Tryz.prog 104 #[r.v, iv v, iv e, iv s] w (fun u w' => u = .bool (admB r v e s) ∧ Ext w w') := by
  refine fn_rule (args := [.agg #[.string r.name, iv r.up, iv r.delay, iv r.cap, iv r.bank, iv r.siphon, iv r.evap.lo, iv r.evap.hi, iv r.s0.n, iv r.s0.d, iv r.s1.n, iv r.s1.d], iv v, iv e, iv s]) Tryz.func104 (by kernel_rfl) ?_
  obtain ⟨hev, hsh⟩ := lossOk_iff.1 hok
  obtain ⟨hs0, hs1, -⟩ := sharesQ_iff.1 hsh
  obtain ⟨q0, m0, m1⟩ := shareQ_iff.1 hs0
  obtain ⟨q1, m2, m3⟩ := shareQ_iff.1 hs1
  obtain ⟨d0, d1, -⟩ := qValid_iff.1 q0
  obtain ⟨d2, d3, -⟩ := qValid_iff.1 q1
  refine box (fun g w1 h1 => ?_)
  have bg := h1.blk
  have x1 := h1.ext
  refine cE (fun v0 => ?_) (fun v0 => ?_)
  · refine cE (fun e0 => ?_) (fun e0 => ?_)
    · refine cE (fun s0 => ?_) (fun s0 => ?_)
      · exact ret1 (.bool true) rfl ⟨by unfold admB; rw [if_pos v0, decide_eq_true e0, decide_eq_true s0]; rfl, x1⟩
      · exact ret1 (.bool false) rfl ⟨by unfold admB; rw [if_pos v0, decide_eq_false s0, Bool.and_false], x1⟩
    · exact ret1 (.bool false) rfl ⟨by unfold admB; rw [if_pos v0, decide_eq_false e0, Bool.false_and], x1⟩
  have iff := admB_iff (r := r) (e := e) (s := s) v0
  have bad : ∀ {w'}, Ext w1 w' → ¬ (admB r v e s = true) → Value.bool false = .bool (admB r v e s) ∧ Ext w w' := fun x h => ⟨by rw [Bool.eq_false_iff.2 h], x1.trans x⟩
  have good : ∀ {w'}, Ext w1 w' → admB r v e s = true → Value.bool true = .bool (admB r v e s) ∧ Ext w w' := fun x h => ⟨by rw [h], x1.trans x⟩
  refine ldA r.c (.blk bg) rfl ?_
  refine call_of (c_lLost (r := r) (v := v)) ?_
  rintro _ w2 ⟨rfl, x2⟩
  rw [lostL_ok (lErr_ok.2 ⟨hok, hv⟩)]
  obtain ⟨L1, L2, L3, L4⟩ := lost_le hok hv
  refine alloc (fun p w3 h3 => ?_)
  refine stA (vs := [iv (lostR r v).lo, iv (lostR r v).hi]) h3.blk rfl (Nat.le_of_ble_eq_true rfl) (by simp [Value.oneCell']) (fun w4 hb4 k4 z4 => ?_)
  have z3 := h3.at_
  have y1 := h1.at_
  have yl := bg.lt
  have y2 := x2.size
  have x4 : Ext w1 w4 := (x2.trans h3.ext).then k4 fun b hb _ e => by omega
  have bg4 := bg.ext x4
  refine arI (by omega) ?_
  refine fldA ?_
  refine ld (iv (lostR r v).lo) (hb4.cell rfl) ?_
  refine cD (fun g1 => ?_) (fun g1 => ?_)
  · exact ret1 (.bool false) rfl (bad x4 fun h => by have := iff.1 h; omega)
  refine fldA ?_
  refine ld (iv (lostR r v).hi) (hb4.cell rfl) ?_
  refine cD (fun g2 => ?_) (fun g2 => ?_)
  · exact ret1 (.bool false) rfl (bad x4 fun h => by have := iff.1 h; omega)
  refine fldA ?_
  refine fldA ?_
  refine ld (iv r.evap.hi) (bg4.cell rfl) ?_
  refine cD (fun g3 => ?_) (fun g3 => ?_)
  · exact ret1 (.bool false) rfl (bad x4 fun h => by have := iff.1 h; omega)
  have hc := CellsAt.blk bg4
  have w1l := x4.size
  refine drawP (.take 0 (.take 1 (.take 2 (.take 3 (.take 4 (.take 5 (.alt 6 (.eff 7 (.eff 8 (.eff 9 .done))) (.eff 7 (.eff 6 (.eff 8 (.eff 9 .done))))))))))) [] (fun u => Ext w4 u) mx (by kernel_rfl) (.refl _ _) ?_
  refine fldA ?_
  refine idxR 0 rfl (by decide) ?_
  refine ldAX [iv r.s0.n, iv r.s0.d] (hc.mid 8 2) rfl (.refl _ _) ?_
  refine fldA ?_
  refine idxR 1 rfl (by decide) ?_
  refine ldAX [iv r.s1.n, iv r.s1.d] (hc.mid 10 2) rfl (.refl _ _) ?_
  refine ⟨?xl, ?xr⟩
  case' xl =>
    refine alloc (fun a w5 h5 => ?_)
    refine strS h5.ext ?_
    refine alloc (fun b w6 h6 => ?_)
    have xe := h5.ext.trans h6.ext
    refine strS xe ?_
    have ba := h5.blk.ext h6.ext
    have bb := h6.blk
    have a5 := h5.at_
    have a6 := h6.at_
    have zs5 := h5.size
    have hab : a ≠ b := by omega
    have hw4a : w4.heap.size ≤ a := by omega
    have hw4b : w4.heap.size ≤ b := by omega
    clear h5 h6 a5 a6 zs5
  case' xr =>
    refine alloc (fun b w5 h5 => ?_)
    refine strS h5.ext ?_
    refine alloc (fun a w6 h6 => ?_)
    have xe := h5.ext.trans h6.ext
    refine strS xe ?_
    have bb := h5.blk.ext h6.ext
    have ba := h6.blk
    have a5 := h5.at_
    have a6 := h6.at_
    have zs5 := h5.size
    have hab : a ≠ b := by omega
    have hw4a : w4.heap.size ≤ a := by omega
    have hw4b : w4.heap.size ≤ b := by omega
    clear h5 h6 a5 a6 zs5
  all_goals
    refine stA (vs := [iv r.s0.n, iv r.s0.d]) ba rfl (Nat.le_of_ble_eq_true rfl) (by simp [Value.oneCell']) (fun w7 ba7 k7 z7 => ?_)
    have x7 : Ext w4 w7 := xe.then k7 fun i hi _ e => by omega
    refine strS x7 ?_
    have bb7 := bb.kept k7 (Ne.symm hab)
    refine stA (vs := [iv r.s1.n, iv r.s1.d]) bb7 rfl (Nat.le_of_ble_eq_true rfl) (by simp [Value.oneCell']) (fun w8 bb8 k8 z8 => ?_)
    have x8 : Ext w4 w8 := x7.then k8 fun i hi _ e => by omega
    refine strS x8 ?_
    have ba8 := ba7.kept k8 hab
    have xx := x4.trans x8
    refine arI (by omega) ?_
    refine fldA ?_
    refine ld (iv r.s1.d) (bb8.cell rfl) ?_
    have p1 := prod_lt (x := s - 1) (y := r.s1.d) (by omega) (by omega)
    have p2 := prod_lt (x := v) (y := r.s1.n) (by omega) (by omega)
    have p3 := prod_lt (x := v) (y := r.s0.n) (by omega) (by omega)
    refine arI (by omega) ?_
    refine fldA ?_
    refine ld (iv r.s1.n) (bb8.cell rfl) ?_
    refine arI (by omega) ?_
    have hup : upI (v * r.s1.n) r.s1.d < s ↔ v * r.s1.n ≤ (s - 1) * r.s1.d := up_lt (by omega)
    have hup0 : 0 ≤ upI (v * r.s1.n) r.s1.d := (share_le hs1 hv.1).2.2.2.2
    have hdn : v * r.s0.n / r.s0.d ≤ s ↔ v * r.s0.n < (s + 1) * r.s0.d := down_le (by omega)
    have iff' : (¬ (upI (v * r.s1.n) r.s1.d < s)) → (admB r v e s = true ↔ (e + s = v ∨ (r.evap.lo ≤ e ∧ v * r.s0.n < (s + 1) * r.s0.d))) := fun hn => by
      rw [iff, hdn]
      exact ⟨fun h => h.2.2.2.2, fun h => ⟨by omega, by omega, by omega, by omega, h⟩⟩
    have tail : (¬ (upI (v * r.s1.n) r.s1.d < s)) → True := fun _ => trivial
    refine cD (fun g4 => ?_) (fun g4 => ?_)
    rotate_left
    have hn : ¬ (upI (v * r.s1.n) r.s1.d < s) := fun h => g4 (hup.1 h)
    rotate_left
    refine cD (fun g5 => ?_) (fun g5 => ?_)
    · exact ret1 (.bool false) rfl (bad xx fun h => by have := iff.1 h; have := hup.2 g4; omega)
    have hn : ¬ (upI (v * r.s1.n) r.s1.d < s) := fun h => by omega
    all_goals
      have iff2 := iff' hn
      refine cE (fun g6 => ?_) (fun g6 => ?_)
      · exact ret1 (.bool true) rfl (good xx (iff2.2 (.inl g6)))
      refine fldA ?_
      refine fldA ?_
      refine ld (iv r.evap.lo) ((bg.ext xx).cell rfl) ?_
      refine cD (fun g7 => ?_) (fun g7 => ?_)
      rotate_left
      · exact ret1 (.bool false) rfl (bad xx fun h => by have := iff2.1 h; omega)
      refine arI (by omega) ?_
      refine fldA ?_
      refine ld (iv r.s0.d) (ba8.cell rfl) ?_
      have p4 := prod_lt (x := s + 1 - 1) (y := r.s0.d) (by omega) (by omega)
      have p5 : (s + 1) * r.s0.d = (s + 1 - 1) * r.s0.d + r.s0.d := by rw [Int.add_sub_cancel, Int.add_mul, Int.one_mul]
      refine arI (by omega) ?_
      refine fldA ?_
      refine ld (iv r.s0.n) (ba8.cell rfl) ?_
      refine arI (by omega) ?_
      refine cD (fun g8 => ?_) (fun g8 => ?_)
      · exact ret1 (.bool true) rfl (good xx (iff2.2 (.inr ⟨by omega, g8⟩)))
      · exact ret1 (.bool false) rfl (bad xx fun h => by have := iff2.1 h; omega)
end
end Go.Proofs.YtffdjecdcbbfaaaGreat

/- Layer 23: what arrives. -/
namespace Go.Proofs.YtffdjecdcbbfaaaGreat
open Go Go.RowKit

def g1 (l : List Int) (k : Nat) : Int := l.getD k 0
def g2 (ls : List (List Int)) (i k : Nat) : Int := g1 (ls.getD i []) k
/-- A formed run of a valid district of H hours. -/
structure Fm (d : Dist) (x : Run) (H : Nat) : Prop where
  hours : d.hours = H
  h1 : 1 ≤ H
  h2 : H ≤ 4096
  nr : 0 < d.reaches.length
  nr' : d.reaches.length ≤ 64
  nf : d.farms.length ≤ 600
  reach : reachesB 0 d.reaches = true
  farm : d.farms.all (farmOk d.reaches.length d.crops.length) = true
  inflow : numB H x.inflow = true
  spill : numB H x.spill = true
  taken : tabB d.farms.length H x.taken = true
  inn : tabB d.reaches.length H x.inn = true
  evap : tabB d.reaches.length H x.evap = true
  seep : tabB d.reaches.length H x.seep = true
  tail : tabB d.reaches.length H x.tail = true
theorem numB_iff {h : Int} {l : List Int} : numB h l = true ↔ (l.length : Int) = h ∧ ∀ x ∈ l, 0 ≤ x ∧ x ≤ 1073741824 := by
  unfold numB; simp only [Bool.and_eq_true, decide_eq_true_eq, List.all_eq_true, inI_iff]
theorem tabB_iff {m : Nat} {h : Int} {l : List (List Int)} : tabB m h l = true ↔ l.length = m ∧ ∀ x ∈ l, numB h x = true := by
  unfold tabB; simp only [Bool.and_eq_true, decide_eq_true_eq, List.all_eq_true]
theorem tab_row {m : Nat} {h : Int} {ls : List (List Int)} (ht : tabB m h ls = true) {i : Nat} (hi : i < m) : ls[i]? = some (ls.getD i []) ∧ numB h (ls.getD i []) = true := by
  obtain ⟨h1, h2⟩ := tabB_iff.1 ht
  have : ls[i]? = some ls[i] := List.getElem?_eq_getElem (by omega)
  have e : ls.getD i [] = ls[i] := by rw [List.getD_eq_getElem?_getD, this]; rfl
  rw [e]
  exact ⟨this, h2 _ (List.getElem_mem _)⟩
theorem num_val {H : Nat} {l : List Int} (h : numB H l = true) {k : Nat} (hk : k < H) : l[k]? = some (g1 l k) ∧ 0 ≤ g1 l k ∧ g1 l k ≤ 1073741824 := by
  obtain ⟨h1, h2⟩ := numB_iff.1 h
  have : l[k]? = some l[k] := List.getElem?_eq_getElem (by omega)
  have e : g1 l k = l[k] := by unfold g1; rw [List.getD_eq_getElem?_getD, this]; rfl
  rw [e]
  exact ⟨this, h2 _ (List.getElem_mem _)⟩
theorem tab_val {m H : Nat} {ls : List (List Int)} (ht : tabB m H ls = true) {i k : Nat} (hi : i < m) (hk : k < H) : 0 ≤ g2 ls i k ∧ g2 ls i k ≤ 1073741824 := (num_val (tab_row ht hi).2 hk).2
theorem reachesB_at : ∀ {l : List Reach} {i k : Nat} {r : Reach}, reachesB i l = true → l[k]? = some r → upOk (i + k) r.up = true ∧ reachOk r = true
  | [], i, k, r, _, h => by simp at h
  | x :: l, i, 0, r, hl, h => by
    simp at h; subst h
    unfold reachesB at hl
    simp only [Bool.and_eq_true] at hl
    exact hl.1
  | x :: l, i, k + 1, r, hl, h => by
    unfold reachesB at hl
    simp only [Bool.and_eq_true] at hl
    have := reachesB_at (i := i + 1) (k := k) hl.2 (by simpa using h)
    rwa [show i + 1 + k = i + (k + 1) by omega] at this
theorem Fm.at_ {d : Dist} {x : Run} {H : Nat} (h : Fm d x H) {i : Nat} {r : Reach} (hr : d.reaches[i]? = some r) : upOk i r.up = true ∧ lossOk r = true ∧ 1 ≤ r.delay ∧ r.delay ≤ 16 := by
  obtain ⟨h1, h2⟩ := reachesB_at h.reach hr
  have := reachOk_iff.1 h2
  rw [Nat.zero_add] at h1
  exact ⟨h1, this.2.2.2.2, this.1⟩
def r0 : Reach := ⟨ByteArray.empty, 0, 0, 0, 0, 0, ⟨0, 0⟩, ⟨0, 0⟩, ⟨0, 0⟩⟩
def f0 : Farm := ⟨ByteArray.empty, 0, 0, 0⟩
def rch (d : Dist) (i : Nat) : Reach := d.reaches.getD i r0
def frm (d : Dist) (i : Nat) : Farm := d.farms.getD i f0
theorem rch_eq {d : Dist} {i : Nat} {r : Reach} (h : d.reaches[i]? = some r) : rch d i = r := by unfold rch; rw [List.getD_eq_getElem?_getD, h]; rfl
theorem frm_eq {d : Dist} {i : Nat} {r : Farm} (h : d.farms[i]? = some r) : frm d i = r := by unfold frm; rw [List.getD_eq_getElem?_getD, h]; rfl
/-- The hour in which the parcel entered that arrives. -/
def ent (d : Dist) (i hour : Nat) : Int := (hour : Int) - (rch d i).delay
theorem ent_eq {d : Dist} {i hour : Nat} {r : Reach} (h : d.reaches[i]? = some r) : ent d i hour = (hour : Int) - r.delay := by
  unfold ent; rw [rch_eq h]
/-- Litres that entered, evaporated, seeped. -/
def parc (d : Dist) (x : Run) (hour i : Nat) : Int × Int × Int := if 0 ≤ ent d i hour then (g2 x.inn i (ent d i hour).toNat, g2 x.evap i (ent d i hour).toNat, g2 x.seep i (ent d i hour).toNat) else (0, 0, 0)
abbrev pv (p : Int × Int × Int) : Value := .agg #[iv p.1, iv p.2.1, iv p.2.2]
section
variable {D : Nat → Prop} {w : World} {A : Option Addr} {n c : Nat}
theorem row_at {ls : List (List Int)} (h : SlR tInts D w A n ls) {i : Nat} (hi : i < n) : ∃ b o A2 n2 c2, A = some (ad b o) ∧ w.cell? (ad b (o + i * 1)) = some (.slice A2 n2 c2) ∧ SlR tInt D w A2 n2 (ls.getD i []) ∧ n2 ≤ c2 := by
  obtain ⟨b, o, cs, x, hA, hx, -, -, hc, A2, n2, c2, rfl, h2, h3⟩ := h.at_ hi
  have e : ls.getD i [] = x := by rw [List.getD_eq_getElem?_getD, hx]; rfl
  exact ⟨b, o, A2, n2, c2, hA, hc 0 _ rfl, by rw [e]; exact h2, h3⟩
theorem num_at {xs : List Int} (h : SlR tInt D w A n xs) {k : Nat} (hk : k < n) : ∃ b o, A = some (ad b o) ∧ w.cell? (ad b (o + k * 1)) = some (iv (g1 xs k)) := by
  obtain ⟨b, o, cs, x, hA, hx, -, -, hc, rfl, -⟩ := h.at_ hk
  have e : g1 xs k = x := by unfold g1; rw [List.getD_eq_getElem?_getD, hx]; rfl
  exact ⟨b, o, hA, by rw [e]; exact hc 0 _ rfl⟩
/-- What stands in the boxes. -/
structure EnvA (D : Nat → Prop) (w : World) (bd bh bx : Nat) (csd csx : List Value) (d : Dist) (x : Run) (hour : Nat) : Prop where
  dd : Blk w bd 31 csd
  hh : Blk w bh 3 [iv (hour : Int)]
  xx : Blk w bx 55 csx
  rd : DiR D w csd d
  rx : RuR D w csx x
theorem EnvA.kept {w' : World} {D' : Nat → Prop} {bd bh bx hour : Nat} {csd csx : List Value} {d : Dist} {x : Run} (h : EnvA D w bd bh bx csd csx d x hour) (k : Kept D' w w') (h1 : D' bd) (h2 : D' bh) (h3 : D' bx) (hD : ∀ b, b < w.heap.size → D b → D' b) : EnvA D w' bd bh bx csd csx d x hour :=
  ⟨h.dd.kept k h1, h.hh.kept k h2, h.xx.kept k h3, h.rd.kept k hD, h.rx.kept k hD⟩
theorem EnvA.ext {w' : World} {bd bh bx hour : Nat} {csd csx : List Value} {d : Dist} {x : Run} (h : EnvA D w bd bh bx csd csx d x hour) (k : Ext w w') : EnvA D w' bd bh bx csd csx d x hour := h.kept k trivial trivial trivial fun _ _ _ => trivial
theorem c_arriving {csd csx : List Value} {d : Dist} {x : Run} {hour : Nat} (hd : DiR D w csd d) (hx : RuR D w csx x) : CallZ Tryz.prog 107 #[.agg csd.toArray, .agg csx.toArray, iv (hour : Int)] w
    (fun v w' => ∃ bd bh bx, v = .func (.func 133) #[] #[ptr bd, ptr bh, ptr bx] ∧ Ext w w' ∧ EnvA D w' bd bh bx csd csx d x hour ∧ w.heap.size ≤ bd ∧ w.heap.size ≤ bh ∧ w.heap.size ≤ bx ∧ bd < w'.heap.size ∧ bh < w'.heap.size ∧ bx < w'.heap.size) := by
  refine fn_rule (args := [.agg csd.toArray, .agg csx.toArray, iv (hour : Int)]) Tryz.func107 (by kernel_rfl) ?_
  refine box (fun bd w1 h1 => ?_)
  refine box (fun bx w2 h2 => ?_)
  refine box (fun bh w3 h3 => ?_)
  have x13 := (h1.ext.trans h2.ext).trans h3.ext
  have e1 := h1.at_
  have e2 := h2.at_
  have e3 := h3.at_
  have s1 := h1.size
  have s2 := h2.size
  have s3 := h3.size
  refine ret1 (.func (.func 133) #[] #[ptr bd, ptr bh, ptr bx]) rfl ⟨bd, bh, bx, rfl, x13, ⟨(h1.blk.ext h2.ext).ext h3.ext, h3.blk, h2.blk.ext h3.ext, hd.ext x13, hx.ext x13⟩, by omega, by omega, by omega, by omega, by omega, by omega⟩
theorem c_arr1 {l bd bh bx : Nat} {csd csx : List Value} {d : Dist} {x : Run} {hour H : Nat} (J : Nat → World → Prop) (Z : World → Prop) (hJE : ∀ i w', J i w' → EnvA D w' bd bh bx csd csx d x hour) (hJ : ∀ i w' w'', J i w' → Ext w' w'' → J i w'') (hf : Fm d x H) (hh : hour < H)
    (hstep : ∀ i w', i < d.reaches.length → J i w' → YieldP Tryz.prog l [iv (i : Int), pv (parc d x hour i)].toArray (fun v w'' => (v = .bool true ∧ J (i + 1) w'') ∨ (v = .bool false ∧ Z w'')) w') (h0 : J 0 w) :
    CallZ Tryz.prog 133 #[.func (.yield l) #[] #[], ptr bd, ptr bh, ptr bx] w (fun _ w' => J d.reaches.length w' ∨ Z w') := by
  refine fn_rule (args := [.func (.yield l) #[] #[], ptr bd, ptr bh, ptr bx]) Tryz.func133 (by kernel_rfl) ?_
  have E0 := hJE 0 w h0
  obtain ⟨A1, n1, c1, A2, n2, c2, A3, n3, c3, A4, n4, c4, A5, n5, c5, A6, n6, c6, hcs, hr, -⟩ := E0.rd.ex
  obtain ⟨B1, m1, e1, B2, m2, e2, B3, m3, e3, B4, m4, e4, B5, m5, e5, B6, m6, e6, B7, m7, e7, hcx, -⟩ := E0.rx.ex
  subst hcs
  subst hcx
  have ln := hr.len
  refine fldA ?_
  refine ld (.slice A1 n1 c1) (E0.dd.cell rfl) ?_
  refine len ?_
  refine loop_rule (fun k : Nat => [(12, iv (k : Int))]) (fun k w' => k ≤ n1 ∧ J k w') (fun k _ => n1 - k) 0 ⟨rfl, trivial⟩ ⟨by omega, h0⟩ rfl ?_
  rintro G k w1 ⟨hk, hj⟩
  refine cD (fun hlt => ?_) (fun hge => ?_)
  · have hlt : k < n1 := by omega
    have E1 := hJE k w1 hj
    obtain ⟨A1', n1', c1', A2', n2', c2', A3', n3', c3', A4', n4', c4', A5', n5', c5', A6', n6', c6', hcs', hr', -⟩ := E1.rd.ex
    obtain ⟨B1', m1', e1', B2', m2', e2', B3', m3', e3', B4', m4', e4', B5', m5', e5', B6', m6', e6', B7', m7', e7', hcx', -, -, i3, i4, i5, -⟩ := E1.rx.ex
    simp only [List.cons.injEq, Value.slice.injEq, and_true] at hcs' hcx'
    obtain ⟨-, -, -, -, ⟨rfl, rfl, rfl⟩, -⟩ := hcs'
    obtain ⟨-, -, ⟨rfl, rfl, rfl⟩, ⟨rfl, rfl, rfl⟩, ⟨rfl, rfl, rfl⟩, -⟩ := hcx'
    obtain ⟨b, o, cs, r, rfl, hrx, -, -, hc, rfl⟩ := hr'.at_ hlt
    obtain ⟨-, -, hd1, hd2⟩ := hf.at_ hrx
    have hent := ent_eq (hour := hour) hrx
    refine idx k rfl hlt ?_
    refine ldA r.c hc rfl ?_
    refine alloc (fun q w2 h2 => ?_)
    refine stA (vs := r.c) h2.blk rfl (Nat.le_of_ble_eq_true rfl) (by simp [Value.oneCell']) (fun w3 hb3 k3 z3 => ?_)
    have z2 := h2.at_
    have zs2 := h2.size
    have x3 : Ext w1 w3 := h2.ext.then k3 fun b hb _ e => by omega
    refine bld [iv 0, iv 0, iv 0] (by kernel_rfl) ?_
    refine alloc (fun p w4 h4 => ?_)
    refine stA (vs := [iv 0, iv 0, iv 0]) h4.blk rfl (Nat.le_of_ble_eq_true rfl) (by simp [Value.oneCell']) (fun w5 hb5 k5 z5 => ?_)
    have z4 := h4.at_
    have zs4 := h4.size
    have x35 : Ext w3 w5 := h4.ext.then k5 fun b hb _ e => by omega
    have x5 := x3.trans x35
    have E5 := E1.ext x5
    have hb35 := hb3.ext x35
    refine ld (iv (hour : Int)) (E5.hh.cell rfl) ?_
    refine fldA ?_
    refine ld (iv r.delay) (hb35.cell rfl) ?_
    have hh2 := hf.h2
    refine arI (by omega) ?_
    refine cD (fun ge => ?ya) (fun ge => ?yb)
    case' ya =>
      obtain ⟨t, ht⟩ : ∃ t : Nat, (hour : Int) - r.delay = (t : Int) := ⟨((hour : Int) - r.delay).toNat, by omega⟩
      have htH : t < H := by omega
      have hkr : k < d.reaches.length := by omega
      have parE : parc d x hour k = (g2 x.inn k t, g2 x.evap k t, g2 x.seep k t) := by unfold parc; rw [hent, ht, if_pos (by omega), Int.toNat_natCast]
      have l3 := i3.len
      have l4 := i4.len
      have l5 := i5.len
      have t3 := tabB_iff.1 hf.inn
      have t4 := tabB_iff.1 hf.evap
      have t5 := tabB_iff.1 hf.seep
      obtain ⟨f3, p3, R3, s3, u3, rfl, cc3, r3, -⟩ := row_at (i3.ext x5) (i := k) (by omega)
      obtain ⟨f4, p4, R4, s4, u4, rfl, cc4, r4, -⟩ := row_at (i4.ext x5) (i := k) (by omega)
      obtain ⟨f5, p5, R5, s5, u5, rfl, cc5, r5, -⟩ := row_at (i5.ext x5) (i := k) (by omega)
      have n3 := numB_iff.1 (tab_row hf.inn hkr).2
      have n4 := numB_iff.1 (tab_row hf.evap hkr).2
      have n5 := numB_iff.1 (tab_row hf.seep hkr).2
      have q3 := r3.len
      have q4 := r4.len
      have q5 := r5.len
      obtain ⟨a3, b3, rfl, v3⟩ := num_at r3 (k := t) (by omega)
      obtain ⟨a4, b4, rfl, v4⟩ := num_at r4 (k := t) (by omega)
      obtain ⟨a5, b5, rfl, v5⟩ := num_at r5 (k := t) (by omega)
      refine drawP (.take 0 (.take 1 (.take 2 (.take 3 (.take 4 (.take 5 (.take 6 (.take 7 (.take 8 (.take 9 (.take 10 (.take 11 (.take 12 (.take 13 (.take 14 (.take 15 (.take 16 (.take 17 (.take 18 (.take 19 (.take 20 (.take 21 (.take 22 (.take 23 (.take 24 (.bar (.eff 25 .done))))))))))))))))))))))))))) [25] (fun u => u = w5) mx (by kernel_rfl) rfl ?_
      refine fldA ?_
      refine ld _ (E5.xx.cell rfl) ?_
      refine idx k rfl (by omega) ?_
      refine ld _ cc3 ?_
      refine idx t ht (by omega) ?_
      refine ld _ v3 ?_
      refine fldA ?_
      refine ld _ (E5.xx.cell rfl) ?_
      refine idx k rfl (by omega) ?_
      refine ld _ cc4 ?_
      refine idx t ht (by omega) ?_
      refine ld _ v4 ?_
      refine fldA ?_
      refine ld _ (E5.xx.cell rfl) ?_
      refine idx k rfl (by omega) ?_
      refine ld _ cc5 ?_
      refine idx t ht (by omega) ?_
      refine ld _ v5 ?_
      refine bld [iv (g2 x.inn k t), iv (g2 x.evap k t), iv (g2 x.seep k t)] (by kernel_rfl) ?_
      refine barS (fun _ => True) trivial ?_
      refine stA (vs := [iv (g2 x.inn k t), iv (g2 x.evap k t), iv (g2 x.seep k t)]) hb5 rfl (Nat.le_of_ble_eq_true rfl) (by simp [Value.oneCell']) (fun w6 hb6 k6 z6 => ?_)
      refine strS trivial ?_
      have x6 : Ext w1 w6 := x5.then k6 fun b hb _ e => by omega
      refine ldA [iv (g2 x.inn k t), iv (g2 x.evap k t), iv (g2 x.seep k t)] (.blk hb6) rfl ?_
      have hy := hstep k w6 hkr (hJ k w1 w6 hj x6)
      rw [parE] at hy
    case' yb =>
      have parE : parc d x hour k = (0, 0, 0) := by unfold parc; rw [hent, if_neg (by omega)]
      have x6 := x5
      refine ldA [iv 0, iv 0, iv 0] (.blk hb5) rfl ?_
      have hy := hstep k w5 (by omega) (hJ k w1 w5 hj x6)
      rw [parE] at hy
    all_goals
      refine yield_of hy ?_
      rintro v w7 (⟨rfl, hj7⟩ | ⟨rfl, hz7⟩)
      · refine arI (by have := hr.le; omega) ?_
        exact next (k + 1) ⟨by rw [Int.natCast_add]; rfl, trivial⟩ ⟨by omega, hj7⟩ (by omega)
      · exact ret0 (.inr hz7)
  · refine ret0 (.inl ?_)
    rw [ln, show n1 = k by omega]; exact hj
end
end Go.Proofs.YtffdjecdcbbfaaaGreat
