/-
  ProbeTruth: every right tree leads a truth among the hypotheses to a rest that has it, at no more than its worst cost, and no measurement separates that rest. No condition of ours; the card ties the two listed tables of math/bits to the program text.
-/
import Derived.Test.YtpmmhcgghldaaaaDoorZb
namespace Go.Proofs.YtpmmhcgghldaaaaDoor.probeTruth
open Go Go.Proofs.YtpmmhcgghldaaaaDoor Go.RowKit Go.ChangeShapes Go.WideShapes Go.ChangeAt

theorem contract (H : Type) (enc : TypeId × Value → H) (W : World) (base : Nat) (args : Array Value) (ds gs : List (DataW H)) (before : List MemPlace)
    (hval : ∀ (j : Nat) t v, Tryd.f6.params[j]? = some t → args[j]? = some v → Value.okWide Tryd.prog W .any base t v)
    (hW : DataW.Whole enc Tryd.prog Tryd.f6.params.toList Rows.probeTruthSpec.vars false W args.toList ds gs before)
    (hz : (DataW.weightsEach Tryd.prog (Tryd.f6.params.toList ++ (OpenSpec.ofChange Rows.probeTruthSpec).bare.plain.varTypes Tryd.prog) (ds ++ gs)).all (· ≤ reachBytes) = true)
    (hL : laidMetH Tryd.prog Rows.probeTruthRow.laid W) :
    Calls Tryd.prog 6 args W fun e W' => ∃ v, e = .returned v ∧ Rows.probeTruthSpec.post enc Tryd.prog Tryd.f6 false true false false W args v W' := by
  have hW' := hW
  obtain ⟨p, q, hA0, hV, rfl, hfz, hnd⟩ := hW
  have hA : DataW.TrodAll enc Tryd.prog W 0 (fun _ => true) true Tryd.f6.params.toList args.toList ds p := hA0
  rw [Tryd.params6] at hA hval hz
  obtain ⟨v0, vs0, d0, ds0, p0, q0, hargs, rfl, rfl, h0, r0⟩ := trodAll_cons hA
  obtain ⟨v1, vs1, d1, ds1, p1, q1, rfl, rfl, rfl, h1, r1⟩ := trodAll_cons r0
  obtain ⟨v2, vs2, d2, ds2, p2, q2, rfl, rfl, rfl, h2, r2⟩ := trodAll_cons r1
  obtain ⟨v3, vs3, d3, ds3, p3, q3, rfl, rfl, rfl, h3, r3⟩ := trodAll_cons r2
  obtain ⟨rfl, rfl, rfl⟩ := trodAll_nil r3
  obtain rfl : args = #[v0, v1, v2, v3] := by cases args; simp_all
  have z0 := weightsEach_mem (P := Tryd.prog) (j := 0) (t := 22) (d := d0) rfl rfl hz
  have z1 := weightsEach_mem (P := Tryd.prog) (j := 1) (t := 23) (d := d1) rfl rfl hz
  have z2 := weightsEach_mem (P := Tryd.prog) (j := 2) (t := 29) (d := d2) rfl rfl hz
  have z3 := weightsEach_mem (P := Tryd.prog) (j := 3) (t := 5) (d := d3) rfl rfl hz
  obtain ⟨A0, n0, c0, x0, rfl, hx0, hc0⟩ := arg_slice rd_ll (hval 0 22 v0 rfl rfl) h0 z0
  obtain ⟨A1, n1, c1, x1, rfl, hx1, hc1⟩ := arg_slice rd_prs (hval 1 23 v1 rfl rfl) h1 z1
  obtain ⟨cs2, x2, f2, rfl, hx2⟩ := arg_tr (hval 2 29 v2 rfl rfl) h2 z2
  obtain ⟨x3, rfl, wf3⟩ := arg_k (k := .u8) (hval 3 5 v3 rfl rfl) h3
  have bd3 := bounds_u8 wf3
  have hT : TabW (z W) := fun j v hv => tabW hL j v hv
  refine (c_ProbeTruth (w := z W) (hx0.keep fun _ _ _ => rfl) (hx1.keep fun _ _ _ => rfl) hT ((tTr f2).keep (w := W) (fun _ _ _ => rfl) hx2) bd3).calls.mono fun e W' ⟨v, he, hv, hx⟩ => ?_
  subst he; subst hv
  exact ⟨_, rfl, law_post laidOut (by kernel_rfl) (by kernel_rfl) Tryd.underlying4 rfl ⟨rfl, rfl, rfl⟩ hW' hx.below⟩

theorem laid_met (os : Os) : laidMet Tryd.prog Rows.probeTruthRow.laid ((World.doorLaid Tryd.prog 19 os).forCall (fun _ _ => 0) ⟨#[], #[.slice none 0 0, .slice none 0 0, .agg #[.int .i64 0, .slice none 0 0, .slice none 0 0], .int .u8 0], []⟩).memory :=
  laidMet_of_run' 8 (by kernel_rfl) (by kernel_rfl)
set_option maxRecDepth 100000 in
theorem lifted (os : Os) (started : os.Started) (H : Type) (enc : TypeId × Value → H) (F : Stop.Interp) :
    ReturnsInHanded {} Tryd.checked os 6 .any ((OpenSpec.ofChange Rows.probeTruthSpec).preRow enc Tryd.prog Tryd.f6 Rows.probeTruthRow.domain false Rows.probeTruthRow.laid) (((OpenSpec.ofChange Rows.probeTruthSpec).at F).post enc Tryd.prog Tryd.f6 false true false false) := by
  refine returnsInHanded_of_row (C := Tryd.checked) (s := OpenSpec.ofChange Rows.probeTruthSpec) own started (by kernel_rfl) Tryd.func6
    (witness_row_at (enc := enc) (C := Tryd.checked) false (World.doorLaid Tryd.prog 19 os) #[.slice none 0 0, .slice none 0 0, .agg #[.int .i64 0, .slice none 0 0, .slice none 0 0], .int .u8 0] rfl (by kernel_rfl) (by kernel_rfl) (by kernel_rfl)
      (OpenSpec.preRow_of_cond (x := ([.nil, .nil, .agg [.lit (.int .i64 0), .nil, .nil], .lit (.int .u8 0)], [], [])) 8 (by kernel_rfl) (by kernel_rfl) (fun k hk => by cases hk) (by kernel_rfl) (laid_met os))) ?_
  intro W base args ds gs before hval hW _ _ hz hL _ _
  exact contract H enc W base args ds gs before hval hW hz hL

theorem said : Rows.ProbeTruthSaid :=
  OpenClaim.holds_of_cond 6 Tryd.f6 rfl rfl rfl rfl rfl rfl rfl ⟨rfl, rfl, rfl, rfl, rfl⟩ rfl rfl rfl rfl rfl (by kernel_rfl) Tryd.func6 (by kernel_rfl)
    (of_decide_eq_true (by kernel_rfl)) (by unfold Func.isWrapper; first | (rw [if_pos (by decide +kernel)]; kernel_rfl) | (rw [if_neg (by decide +kernel)]; exact ⟨rfl, rfl⟩))
    (fun os started H enc _ F => by rw [OpenClaim.pre_eq_preRow]; exact lifted os started H enc F)

theorem plain (f : FuncId) (fn : Func) (hf : Tryd.pinned.checked.prog.funcNamed "acequia/acequialaw50.ProbeTruth" = some f) (hfn : Tryd.pinned.checked.prog.funcs[f]? = some fn) :
    false = Tryd.pinned.checked.prog.looks [] ∧ ∀ (j : Nat) t, fn.params[j]? = some t → Tryd.pinned.checked.prog.wantsStandIn t = false := by
  obtain rfl : f = 6 := Option.some.inj ((show Tryd.prog.funcNamed "acequia/acequialaw50.ProbeTruth" = some 6 by kernel_rfl).symm.trans hf) |>.symm
  obtain rfl : fn = Tryd.f6 := (Option.some.inj (Tryd.func6.symm.trans hfn)).symm
  refine ⟨by kernel_rfl, fun j t ht => ?_⟩
  rw [Tryd.params6] at ht
  have hm : t ∈ [22, 23, 29, 5] := by simpa using Array.mem_of_getElem? ht
  have hall : ([22, 23, 29, 5].all fun u => !Tryd.prog.wantsStandIn u) = true := by kernel_rfl
  exact (show Tryd.prog.wantsStandIn t = false by simpa using List.all_eq_true.1 hall t (by simpa using hm))
end Go.Proofs.YtpmmhcgghldaaaaDoor.probeTruth
namespace Go.Proofs.YtpmmhcgghldaaaaDoor
theorem probeTruth_card : Rows.ProbeTruthCardSaid :=
  Claim7.holds_tied_plain_at .later [] _ _ _ _ probeTruth.said (fun _ h => by cases h) (by kernel_rfl) (fun _ h => by cases h) probeTruth_row_tie rfl ⟨rfl, rfl⟩ (by kernel_rfl) rfl probeTruth.plain (by kernel_rfl)
#print axioms probeTruth_card
end Go.Proofs.YtpmmhcgghldaaaaDoor
