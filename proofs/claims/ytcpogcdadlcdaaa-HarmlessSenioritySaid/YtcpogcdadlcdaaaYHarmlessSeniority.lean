/-
  HarmlessSeniority: seniority travels with the water. No condition.
-/
import Derived.Test.YtcpogcdadlcdaaaM11
namespace Go.Proofs.Ytcpogcdadlcdaaa.harmlessSeniority
open Go Go.Proofs.Ytcpogcdadlcdaaa Go.RowKit Go.ChangeShapes Go.WideShapes Go.ChangeAt

set_option maxRecDepth 100000 in
theorem contract (H : Type) (enc : TypeId × Value → H) (W : World) (base : Nat) (args : Array Value) (ds gs : List (DataW H)) (before : List MemPlace)
    (hval : ∀ (j : Nat) t v, Try.f6.params[j]? = some t → args[j]? = some v → Value.okWide Try.prog W .any base t v)
    (hW : DataW.Whole enc Try.prog Try.f6.params.toList Rows.harmlessSenioritySpec.vars false W args.toList ds gs before)
    (hz : (DataW.weightsEach Try.prog (Try.f6.params.toList ++ (OpenSpec.ofChange Rows.harmlessSenioritySpec).bare.plain.varTypes Try.prog) (ds ++ gs)).all (· ≤ reachBytes) = true)
    (_hL : laidMetH Try.prog Rows.harmlessSeniorityRow.laid W) :
    Calls Try.prog 6 args W fun e W' => ∃ v, e = .returned v ∧ Rows.harmlessSenioritySpec.post enc Try.prog Try.f6 false true false false W args v W' := by
  have hW' := hW
  obtain ⟨p, q, hA0, hV, rfl, hfz, hnd⟩ := hW
  have hA : DataW.TrodAll enc Try.prog W 0 (fun _ => true) true Try.f6.params.toList args.toList ds p := hA0
  rw [Try.params6] at hA hval hz
  obtain ⟨v0, vs0, d0, ds0, p0, q0, hargs, rfl, rfl, h0, r0⟩ := trodAll_cons hA
  obtain ⟨v1, vs1, d1, ds1, p1, q1, rfl, rfl, rfl, h1, r1⟩ := trodAll_cons r0
  obtain ⟨v2, vs2, d2, ds2, p2, q2, rfl, rfl, rfl, h2, r2⟩ := trodAll_cons r1
  obtain ⟨v3, vs3, d3, ds3, p3, q3, rfl, rfl, rfl, h3, r3⟩ := trodAll_cons r2
  obtain ⟨v4, vs4, d4, ds4, p4, q4, rfl, rfl, rfl, h4, r4⟩ := trodAll_cons r3
  obtain ⟨v5, vs5, d5, ds5, p5, q5, rfl, rfl, rfl, h5, r5⟩ := trodAll_cons r4
  obtain ⟨v6, vs6, d6, ds6, p6, q6, rfl, rfl, rfl, h6, r6⟩ := trodAll_cons r5
  obtain ⟨rfl, rfl, rfl⟩ := trodAll_nil r6
  obtain rfl : args = #[v0, v1, v2, v3, v4, v5, v6] := Array.toList_inj.1 hargs
  have z0 := weightsEach_mem (P := Try.prog) (j := 0) (t := 38) (d := d0) rfl rfl hz
  have z1 := weightsEach_mem (P := Try.prog) (j := 1) (t := 22) (d := d1) rfl rfl hz
  have z2 := weightsEach_mem (P := Try.prog) (j := 2) (t := 3) (d := d2) rfl rfl hz
  have z3 := weightsEach_mem (P := Try.prog) (j := 3) (t := 3) (d := d3) rfl rfl hz
  have z4 := weightsEach_mem (P := Try.prog) (j := 4) (t := 3) (d := d4) rfl rfl hz
  have z5 := weightsEach_mem (P := Try.prog) (j := 5) (t := 3) (d := d5) rfl rfl hz
  have z6 := weightsEach_mem (P := Try.prog) (j := 6) (t := 3) (d := d6) rfl rfl hz
  obtain ⟨cs0, x0, rfl, hx0⟩ := arg_agg rd_dist (hval 0 38 v0 rfl rfl) h0 z0
  obtain ⟨A1, n1, c1, x1, rfl, hx1, hc1⟩ := arg_slice rd_claims (hval 1 22 v1 rfl rfl) h1 z1
  obtain ⟨x2, rfl, wf2⟩ := arg_k (k := .i64) (hval 2 3 v2 rfl rfl) h2
  have bd2 := bounds_i64 wf2
  obtain ⟨x3, rfl, wf3⟩ := arg_k (k := .i64) (hval 3 3 v3 rfl rfl) h3
  have bd3 := bounds_i64 wf3
  obtain ⟨x4, rfl, wf4⟩ := arg_k (k := .i64) (hval 4 3 v4 rfl rfl) h4
  have bd4 := bounds_i64 wf4
  obtain ⟨x5, rfl, wf5⟩ := arg_k (k := .i64) (hval 5 3 v5 rfl rfl) h5
  have bd5 := bounds_i64 wf5
  obtain ⟨x6, rfl, wf6⟩ := arg_k (k := .i64) (hval 6 3 v6 rfl rfl) h6
  have bd6 := bounds_i64 wf6
  
  refine (c_HarmlessSeniority (w := z W) (show DiR AnyB (z W) cs0 x0 from tDist.keep (w := W) (fun _ _ _ => rfl) hx0) (SlR.keep (w := W) (fun _ _ _ => rfl) hx1)).calls.mono fun e W' ⟨v, he, hv, hx⟩ => ?_
  subst he; subst hv
  exact ⟨_, rfl, law_post laidOut (by kernel_rfl) (by kernel_rfl) Try.underlying4 rfl ⟨rfl, rfl, rfl⟩ hW' hx.below⟩

theorem laid_met (os : Os) : laidMet Try.prog Rows.harmlessSeniorityRow.laid ((World.doorLaid Try.prog 0 os).forCall (fun _ _ => 0) ⟨#[], #[.agg #[.string ByteArray.empty, .int .i64 0, .int .i64 0, .int .i64 0, .slice none 0 0, .slice none 0 0, .slice none 0 0, .slice none 0 0, .slice none 0 0, .slice none 0 0], .slice none 0 0, .int .i64 0, .int .i64 0, .int .i64 0, .int .i64 0, .int .i64 0], []⟩).memory :=
  laidMet_of_run' 8 (by kernel_rfl) (by kernel_rfl)
set_option maxRecDepth 100000 in
theorem lifted (os : Os) (started : os.Started) (H : Type) (enc : TypeId × Value → H) (F : Stop.Interp) :
    ReturnsInHanded {} Try.checked os 6 .any ((OpenSpec.ofChange Rows.harmlessSenioritySpec).preRow enc Try.prog Try.f6 Rows.harmlessSeniorityRow.domain false Rows.harmlessSeniorityRow.laid) (((OpenSpec.ofChange Rows.harmlessSenioritySpec).at F).post enc Try.prog Try.f6 false true false false) := by
  refine returnsInHanded_of_row (C := Try.checked) (s := OpenSpec.ofChange Rows.harmlessSenioritySpec) own started (by kernel_rfl) Try.func6
    (witness_row_at (enc := enc) (C := Try.checked) false (World.doorLaid Try.prog 0 os) #[.agg #[.string ByteArray.empty, .int .i64 0, .int .i64 0, .int .i64 0, .slice none 0 0, .slice none 0 0, .slice none 0 0, .slice none 0 0, .slice none 0 0, .slice none 0 0], .slice none 0 0, .int .i64 0, .int .i64 0, .int .i64 0, .int .i64 0, .int .i64 0] rfl (by kernel_rfl) (by kernel_rfl) (by kernel_rfl)
      (OpenSpec.preRow_of_cond (x := ([.agg [.lit (.string []), .lit (.int .i64 0), .agg [.lit (.int .i64 0), .lit (.int .i64 0)], .nil, .nil, .nil, .nil, .nil, .nil], .nil, .lit (.int .i64 0), .lit (.int .i64 0), .lit (.int .i64 0), .lit (.int .i64 0), .lit (.int .i64 0)], [], [])) 8 (by kernel_rfl) (by kernel_rfl) (fun k hk => by cases hk) (by kernel_rfl) (laid_met os))) ?_
  intro W base args ds gs before hval hW _ _ hz hL _ _
  exact contract H enc W base args ds gs before hval hW hz hL

theorem said : Rows.HarmlessSenioritySaid :=
  OpenClaim.holds_of_cond 6 Try.f6 rfl rfl rfl rfl rfl rfl rfl ⟨rfl, rfl, rfl, rfl, rfl⟩ rfl rfl rfl rfl rfl (by kernel_rfl) Try.func6 (by kernel_rfl)
    (of_decide_eq_true (by kernel_rfl)) (by unfold Func.isWrapper; first | (rw [if_pos (by decide +kernel)]; kernel_rfl) | (rw [if_neg (by decide +kernel)]; exact ⟨rfl, rfl⟩))
    (fun os started H enc _ F => by rw [OpenClaim.pre_eq_preRow]; exact lifted os started H enc F)

end Go.Proofs.Ytcpogcdadlcdaaa.harmlessSeniority
namespace Go.Proofs.Ytcpogcdadlcdaaa
theorem harmlessSeniority_holds : Rows.HarmlessSenioritySaid := harmlessSeniority.said
#print axioms harmlessSeniority_holds
end Go.Proofs.Ytcpogcdadlcdaaa
