/-
  GarmentPair: two claimants have what the contested garment gives them. No condition.
-/
import Derived.Test.YtclmnhijjhnggaaM6
namespace Go.Proofs.Ytclmnhijjhnggaa.garmentPair
open Go Go.Proofs.Ytclmnhijjhnggaa Go.RowKit Go.ChangeShapes Go.WideShapes Go.ChangeAt

set_option maxRecDepth 100000 in
theorem contract (H : Type) (enc : TypeId × Value → H) (W : World) (base : Nat) (args : Array Value) (ds gs : List (DataW H)) (before : List MemPlace)
    (hval : ∀ (j : Nat) t v, Try.f7.params[j]? = some t → args[j]? = some v → Value.okWide Try.prog W .any base t v)
    (hW : DataW.Whole enc Try.prog Try.f7.params.toList Rows.garmentPairSpec.vars false W args.toList ds gs before)
    (hz : (DataW.weightsEach Try.prog (Try.f7.params.toList ++ (OpenSpec.ofChange Rows.garmentPairSpec).bare.plain.varTypes Try.prog) (ds ++ gs)).all (· ≤ reachBytes) = true)
    (_hL : laidMetH Try.prog Rows.garmentPairRow.laid W) :
    Calls Try.prog 7 args W fun e W' => ∃ v, e = .returned v ∧ Rows.garmentPairSpec.post enc Try.prog Try.f7 false true false false W args v W' := by
  have hW' := hW
  obtain ⟨p, q, hA0, hV, rfl, hfz, hnd⟩ := hW
  have hA : DataW.TrodAll enc Try.prog W 0 (fun _ => true) true Try.f7.params.toList args.toList ds p := hA0
  rw [Try.params7] at hA hval hz
  obtain ⟨v0, vs0, d0, ds0, p0, q0, hargs, rfl, rfl, h0, r0⟩ := trodAll_cons hA
  obtain ⟨v1, vs1, d1, ds1, p1, q1, rfl, rfl, rfl, h1, r1⟩ := trodAll_cons r0
  obtain ⟨v2, vs2, d2, ds2, p2, q2, rfl, rfl, rfl, h2, r2⟩ := trodAll_cons r1
  obtain ⟨v3, vs3, d3, ds3, p3, q3, rfl, rfl, rfl, h3, r3⟩ := trodAll_cons r2
  obtain ⟨rfl, rfl, rfl⟩ := trodAll_nil r3
  obtain rfl : args = #[v0, v1, v2, v3] := Array.toList_inj.1 hargs
  have z0 := weightsEach_mem (P := Try.prog) (j := 0) (t := 48) (d := d0) rfl rfl hz
  have z1 := weightsEach_mem (P := Try.prog) (j := 1) (t := 48) (d := d1) rfl rfl hz
  have z2 := weightsEach_mem (P := Try.prog) (j := 2) (t := 41) (d := d2) rfl rfl hz
  have z3 := weightsEach_mem (P := Try.prog) (j := 3) (t := 42) (d := d3) rfl rfl hz
  obtain ⟨x0, rfl, wf0⟩ := arg_k (k := .u32) (hval 0 48 v0 rfl rfl) h0
  have bd0 := bounds_u32 wf0
  obtain ⟨x1, rfl, wf1⟩ := arg_k (k := .u32) (hval 1 48 v1 rfl rfl) h1
  have bd1 := bounds_u32 wf1
  obtain ⟨x2, rfl, wf2⟩ := arg_k (k := .u16) (hval 2 41 v2 rfl rfl) h2
  have bd2 := bounds_u16 wf2
  obtain ⟨x3, rfl, wf3⟩ := arg_k (k := .i16) (hval 3 42 v3 rfl rfl) h3
  have bd3 := bounds_i16 wf3
  
  refine (c_GarmentPair (w := z W) bd0 bd1 bd2 bd3).calls.mono fun e W' ⟨v, he, hv, hx⟩ => ?_
  subst he; subst hv
  exact ⟨_, rfl, law_post laidOut (by kernel_rfl) (by kernel_rfl) Try.underlying4 rfl ⟨rfl, rfl, rfl⟩ hW' hx.below⟩

theorem laid_met (os : Os) : laidMet Try.prog Rows.garmentPairRow.laid ((World.doorLaid Try.prog 0 os).forCall (fun _ _ => 0) ⟨#[], #[.int .u32 0, .int .u32 0, .int .u16 0, .int .i16 0], []⟩).memory :=
  laidMet_of_run' 8 (by kernel_rfl) (by kernel_rfl)
set_option maxRecDepth 100000 in
theorem lifted (os : Os) (started : os.Started) (H : Type) (enc : TypeId × Value → H) (F : Stop.Interp) :
    ReturnsInHanded {} Try.checked os 7 .any ((OpenSpec.ofChange Rows.garmentPairSpec).preRow enc Try.prog Try.f7 Rows.garmentPairRow.domain false Rows.garmentPairRow.laid) (((OpenSpec.ofChange Rows.garmentPairSpec).at F).post enc Try.prog Try.f7 false true false false) := by
  refine returnsInHanded_of_row (C := Try.checked) (s := OpenSpec.ofChange Rows.garmentPairSpec) own started (by kernel_rfl) Try.func7
    (witness_row_at (enc := enc) (C := Try.checked) false (World.doorLaid Try.prog 0 os) #[.int .u32 0, .int .u32 0, .int .u16 0, .int .i16 0] rfl (by kernel_rfl) (by kernel_rfl) (by kernel_rfl)
      (OpenSpec.preRow_of_cond (x := ([.lit (.int .u32 0), .lit (.int .u32 0), .lit (.int .u16 0), .lit (.int .i16 0)], [], [])) 8 (by kernel_rfl) (by kernel_rfl) (fun k hk => by cases hk) (by kernel_rfl) (laid_met os))) ?_
  intro W base args ds gs before hval hW _ _ hz hL _ _
  exact contract H enc W base args ds gs before hval hW hz hL

theorem said : Rows.GarmentPairSaid :=
  OpenClaim.holds_of_cond 7 Try.f7 rfl rfl rfl rfl rfl rfl rfl ⟨rfl, rfl, rfl, rfl, rfl⟩ rfl rfl rfl rfl rfl (by kernel_rfl) Try.func7 (by kernel_rfl)
    (of_decide_eq_true (by kernel_rfl)) (by unfold Func.isWrapper; first | (rw [if_pos (by decide +kernel)]; kernel_rfl) | (rw [if_neg (by decide +kernel)]; exact ⟨rfl, rfl⟩))
    (fun os started H enc _ F => by rw [OpenClaim.pre_eq_preRow]; exact lifted os started H enc F)

end Go.Proofs.Ytclmnhijjhnggaa.garmentPair
namespace Go.Proofs.Ytclmnhijjhnggaa
theorem garmentPair_holds : Rows.GarmentPairSaid := garmentPair.said
#print axioms garmentPair_holds
end Go.Proofs.Ytclmnhijjhnggaa
