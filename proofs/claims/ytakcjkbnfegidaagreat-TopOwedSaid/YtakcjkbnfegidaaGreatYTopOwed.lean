/-
  TopOwed: each farm takes what the public marks show it for its own claim; each litre that was asked for is taken, paid for or owed. No condition.
-/
import Derived.Test.YtakcjkbnfegidaaGreatPT16
namespace Go.Proofs.YtakcjkbnfegidaaGreat.topOwed
open Go Go.Proofs.YtakcjkbnfegidaaGreat Go.RowKit Go.ChangeShapes Go.WideShapes Go.ChangeAt Go.Proofs.Tryz

set_option maxRecDepth 100000 in
theorem TH (H : Type) (enc : TypeId × Value → H) (W : World) (base : Nat) (args : Array Value) (ds gs : List (DataW H)) (before : List MemPlace)
    (hval : ∀ (j : Nat) t v, Tryz.f3.params[j]? = some t → args[j]? = some v → Value.okWide prog W .any base t v)
    (hW : DataW.Whole enc prog Tryz.f3.params.toList Rows.topOwedSpec.vars false W args.toList ds gs before)
    (hz : (DataW.weightsEach prog (Tryz.f3.params.toList ++ (OpenSpec.ofChange Rows.topOwedSpec).bare.plain.varTypes prog) (ds ++ gs)).all (· ≤ reachBytes) = true)
    (_hL : laidMetH prog Rows.topOwedRow.laid W) :
    Calls prog 3 args W λ e W' => ∃ v, e = .returned v ∧ Rows.topOwedSpec.post enc prog Tryz.f3 false true false false W args v W' := by
  have hW' := hW
  obtain ⟨p, q, hA0, hV, rfl, hfz, hnd⟩ := hW
  have hA : DataW.TrodAll enc prog W 0 (λ _ => true) true Tryz.f3.params.toList args.toList ds p := hA0
  rw [Tryz.params3] at hA hval hz
  obtain ⟨v0, vs0, d0, ds0, p0, q0, hargs, rfl, rfl, h0, r0⟩ := trodAll_cons hA
  obtain ⟨rfl, rfl, rfl⟩ := trodAll_nil r0
  obtain rfl : args = #[v0] := Array.toList_inj.1 hargs
  have z0 := anl (P := prog) (j := 0) (t := 42) (d := d0) rfl rfl hz
  obtain ⟨cs0, x0, rfl, hx0⟩ := arn Pu (hval 0 42 v0 rfl rfl) h0 z0
  
  refine (Ps (w := z W) ((show iu amE (z W) cs0 x0 from anR.di (w := W) (λ _ _ _ => rfl) hx0).ar λ _ h _ => h)).calls.mono λ e W' ⟨v, he, hv, hx⟩ => ?_
  subst he; subst hv
  exact ⟨_, rfl, aqK laidOut (by kernel_rfl) (by kernel_rfl) Tryz.underlying4 rfl ⟨rfl, rfl, rfl⟩ hW' hx.below⟩

theorem TJ (os : Os) : laidMet prog Rows.topOwedRow.laid ((World.doorLaid prog 0 os).forCall (λ _ _ => 0) ⟨#[], #[.agg #[.string ByteArray.empty, .int .i64 0, .int .i64 0, .int .i64 0, .slice none 0 0, .slice none 0 0, .slice none 0 0, .slice none 0 0, .slice none 0 0, .slice none 0 0, .int .i64 0, .slice none 0 0, .slice none 0 0, .slice none 0 0, .slice none 0 0, .slice none 0 0, .slice none 0 0, .slice none 0 0, .slice none 0 0]], []⟩).memory :=
  laidMet_of_run' 8 (by kernel_rfl) (by kernel_rfl)
set_option maxRecDepth 100000 in
theorem lifted (os : Os) (started : os.Started) (H : Type) (enc : TypeId × Value → H) (F : Stop.Interp) :
    ReturnsInHanded {} Tryz.checked os 3 .any ((OpenSpec.ofChange Rows.topOwedSpec).preRow enc prog Tryz.f3 Rows.topOwedRow.domain false Rows.topOwedRow.laid) (((OpenSpec.ofChange Rows.topOwedSpec).at F).post enc prog Tryz.f3 false true false false) := by
  refine returnsInHanded_of_row (C := Tryz.checked) (s := OpenSpec.ofChange Rows.topOwedSpec) own started (by kernel_rfl) func3
    (witness_row_at (enc := enc) (C := Tryz.checked) false (World.doorLaid prog 0 os) #[.agg #[.string ByteArray.empty, .int .i64 0, .int .i64 0, .int .i64 0, .slice none 0 0, .slice none 0 0, .slice none 0 0, .slice none 0 0, .slice none 0 0, .slice none 0 0, .int .i64 0, .slice none 0 0, .slice none 0 0, .slice none 0 0, .slice none 0 0, .slice none 0 0, .slice none 0 0, .slice none 0 0, .slice none 0 0]] rfl (by kernel_rfl) (by kernel_rfl) (by kernel_rfl)
      (OpenSpec.preRow_of_cond (x := ([.agg [.agg [.lit (.string []), .lit (.int .i64 0), .agg [.lit (.int .i64 0), .lit (.int .i64 0)], .nil, .nil, .nil, .nil, .nil, .nil], .lit (.int .i64 0), .nil, .nil, .nil, .nil, .nil, .agg [.nil, .nil, .nil]]], [], [])) 8 (by kernel_rfl) (by kernel_rfl) (λ k hk => by cases hk) (by kernel_rfl) (TJ os))) ?_
  intro W base args ds gs before hval hW _ _ hz hL _ _
  exact TH H enc W base args ds gs before hval hW hz hL

set_option maxRecDepth 100000 in
set_option maxHeartbeats 8000000 in
theorem said : Rows.TopOwedSaid :=
  OpenClaim.holds_of_cond 3 Tryz.f3 rfl rfl rfl rfl rfl rfl rfl ⟨rfl, rfl, rfl, rfl, rfl⟩ rfl rfl rfl rfl rfl (by as_aux_lemma => kernel_rfl) func3 jf
    (att (by kernel_rfl)) (by as_aux_lemma => unfold Func.isWrapper; first | (rw [asp (by decide +kernel)]; kernel_rfl) | (rw [aso (by decide +kernel)]; exact ⟨rfl, rfl⟩))
    (λ os started H enc _ F => by rw [OpenClaim.pre_eq_preRow]; exact lifted os started H enc F)

end Go.Proofs.YtakcjkbnfegidaaGreat.topOwed
namespace Go.Proofs.YtakcjkbnfegidaaGreat
theorem topOwed_holds : Rows.TopOwedSaid := topOwed.said
#print axioms topOwed_holds
end Go.Proofs.YtakcjkbnfegidaaGreat
