/-
  HarmlessOthers: nobody else is harmed, and the same release still meets all awards. No condition.
-/
import Derived.Test.YtcpogcdadlcdaaaGreatM13
namespace Go.Proofs.YtcpogcdadlcdaaaGreat.harmlessOthers
open Go Go.Proofs.YtcpogcdadlcdaaaGreat Go.RowKit Go.ChangeShapes Go.WideShapes Go.ChangeAt

set_option maxRecDepth 100000 in
theorem contract (H : Type) (enc : TypeId × Value → H) (W : World) (base : Nat) (args : Array Value) (ds gs : List (DataW H)) (before : List MemPlace)
    (hval : ∀ (j : Nat) t v, Tryz.f5.params[j]? = some t → args[j]? = some v → Value.okWide Tryz.prog W .any base t v)
    (hW : DataW.Whole enc Tryz.prog Tryz.f5.params.toList Rows.harmlessOthersSpec.vars false W args.toList ds gs before)
    (hz : (DataW.weightsEach Tryz.prog (Tryz.f5.params.toList ++ (OpenSpec.ofChange Rows.harmlessOthersSpec).bare.plain.varTypes Tryz.prog) (ds ++ gs)).all (· ≤ reachBytes) = true)
    (_hL : laidMetH Tryz.prog Rows.harmlessOthersRow.laid W) :
    Calls Tryz.prog 5 args W fun e W' => ∃ v, e = .returned v ∧ Rows.harmlessOthersSpec.post enc Tryz.prog Tryz.f5 false true false false W args v W' := by
  have hW' := hW
  obtain ⟨p, q, hA0, hV, rfl, hfz, hnd⟩ := hW
  have hA : DataW.TrodAll enc Tryz.prog W 0 (fun _ => true) true Tryz.f5.params.toList args.toList ds p := hA0
  rw [Tryz.params5] at hA hval hz
  obtain ⟨v0, vs0, d0, ds0, p0, q0, hargs, rfl, rfl, h0, r0⟩ := trodAll_cons hA
  obtain ⟨v1, vs1, d1, ds1, p1, q1, rfl, rfl, rfl, h1, r1⟩ := trodAll_cons r0
  obtain ⟨v2, vs2, d2, ds2, p2, q2, rfl, rfl, rfl, h2, r2⟩ := trodAll_cons r1
  obtain ⟨v3, vs3, d3, ds3, p3, q3, rfl, rfl, rfl, h3, r3⟩ := trodAll_cons r2
  obtain ⟨rfl, rfl, rfl⟩ := trodAll_nil r3
  obtain rfl : args = #[v0, v1, v2, v3] := Array.toList_inj.1 hargs
  have z0 := weightsEach_mem (P := Tryz.prog) (j := 0) (t := 31) (d := d0) rfl rfl hz
  have z1 := weightsEach_mem (P := Tryz.prog) (j := 1) (t := 32) (d := d1) rfl rfl hz
  have z2 := weightsEach_mem (P := Tryz.prog) (j := 2) (t := 40) (d := d2) rfl rfl hz
  have z3 := weightsEach_mem (P := Tryz.prog) (j := 3) (t := 3) (d := d3) rfl rfl hz
  obtain ⟨cs0, x0, rfl, hx0⟩ := arg_agg rd_dist (hval 0 31 v0 rfl rfl) h0 z0
  obtain ⟨A1, n1, c1, x1, rfl, hx1, hc1⟩ := arg_slice rd_is (hval 1 32 v1 rfl rfl) h1 z1
  obtain ⟨A2, n2, c2, x2, rfl, hx2, hc2⟩ := arg_slice rd_deals (hval 2 40 v2 rfl rfl) h2 z2
  obtain ⟨x3, rfl, wf3⟩ := arg_k (k := .i64) (hval 3 3 v3 rfl rfl) h3
  have bd3 := bounds_i64 wf3
  
  refine (c_HarmlessOthers (w := z W) (show DiR AnyB (z W) cs0 x0 from tDist.keep (w := W) (fun _ _ _ => rfl) hx0) (SlR.keep (w := W) (fun _ _ _ => rfl) hx1) (SlR.keep (w := W) (fun _ _ _ => rfl) hx2)).calls.mono fun e W' ⟨v, he, hv, hx⟩ => ?_
  subst he; subst hv
  exact ⟨_, rfl, law_post laidOut (by kernel_rfl) (by kernel_rfl) Tryz.underlying4 rfl ⟨rfl, rfl, rfl⟩ hW' hx.below⟩

theorem laid_met (os : Os) : laidMet Tryz.prog Rows.harmlessOthersRow.laid ((World.doorLaid Tryz.prog 0 os).forCall (fun _ _ => 0) ⟨#[], #[.agg #[.string ByteArray.empty, .int .i64 0, .int .i64 0, .int .i64 0, .slice none 0 0, .slice none 0 0, .slice none 0 0, .slice none 0 0, .slice none 0 0, .slice none 0 0], .slice none 0 0, .slice none 0 0, .int .i64 0], []⟩).memory :=
  laidMet_of_run' 8 (by kernel_rfl) (by kernel_rfl)
set_option maxRecDepth 100000 in
theorem lifted (os : Os) (started : os.Started) (H : Type) (enc : TypeId × Value → H) (F : Stop.Interp) :
    ReturnsInHanded {} Tryz.checked os 5 .any ((OpenSpec.ofChange Rows.harmlessOthersSpec).preRow enc Tryz.prog Tryz.f5 Rows.harmlessOthersRow.domain false Rows.harmlessOthersRow.laid) (((OpenSpec.ofChange Rows.harmlessOthersSpec).at F).post enc Tryz.prog Tryz.f5 false true false false) := by
  refine returnsInHanded_of_row (C := Tryz.checked) (s := OpenSpec.ofChange Rows.harmlessOthersSpec) own started (by kernel_rfl) Tryz.func5
    (witness_row_at (enc := enc) (C := Tryz.checked) false (World.doorLaid Tryz.prog 0 os) #[.agg #[.string ByteArray.empty, .int .i64 0, .int .i64 0, .int .i64 0, .slice none 0 0, .slice none 0 0, .slice none 0 0, .slice none 0 0, .slice none 0 0, .slice none 0 0], .slice none 0 0, .slice none 0 0, .int .i64 0] rfl (by kernel_rfl) (by kernel_rfl) (by kernel_rfl)
      (OpenSpec.preRow_of_cond (x := ([.agg [.lit (.string []), .lit (.int .i64 0), .agg [.lit (.int .i64 0), .lit (.int .i64 0)], .nil, .nil, .nil, .nil, .nil, .nil], .nil, .nil, .lit (.int .i64 0)], [], [])) 8 (by kernel_rfl) (by kernel_rfl) (fun k hk => by cases hk) (by kernel_rfl) (laid_met os))) ?_
  intro W base args ds gs before hval hW _ _ hz hL _ _
  exact contract H enc W base args ds gs before hval hW hz hL

theorem said : Rows.HarmlessOthersSaid :=
  OpenClaim.holds_of_cond 5 Tryz.f5 rfl rfl rfl rfl rfl rfl rfl ⟨rfl, rfl, rfl, rfl, rfl⟩ rfl rfl rfl rfl rfl (by kernel_rfl) Tryz.func5 (by kernel_rfl)
    (of_decide_eq_true (by kernel_rfl)) (by unfold Func.isWrapper; first | (rw [if_pos (by decide +kernel)]; kernel_rfl) | (rw [if_neg (by decide +kernel)]; exact ⟨rfl, rfl⟩))
    (fun os started H enc _ F => by rw [OpenClaim.pre_eq_preRow]; exact lifted os started H enc F)

end Go.Proofs.YtcpogcdadlcdaaaGreat.harmlessOthers
namespace Go.Proofs.YtcpogcdadlcdaaaGreat
theorem harmlessOthers_holds : Rows.HarmlessOthersSaid := harmlessOthers.said
#print axioms harmlessOthers_holds
end Go.Proofs.YtcpogcdadlcdaaaGreat
