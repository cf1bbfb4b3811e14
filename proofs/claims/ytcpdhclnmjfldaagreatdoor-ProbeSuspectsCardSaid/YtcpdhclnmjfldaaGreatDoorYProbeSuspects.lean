/-
  ProbeSuspects: the best tree for the minimal explanations leads each of them to a rest that has it, at no more than the worst cost. No condition of ours; the card ties the two listed tables of math/bits to the program text.
-/
import Derived.Test.YtcpdhclnmjfldaaGreatDoorM11
namespace Go.Proofs.YtcpdhclnmjfldaaGreatDoor.probeSuspects
open Go Go.Proofs.YtcpdhclnmjfldaaGreatDoor Go.RowKit Go.ChangeShapes Go.WideShapes Go.ChangeAt

set_option maxRecDepth 100000 in
theorem contract (H : Type) (enc : TypeId × Value → H) (W : World) (base : Nat) (args : Array Value) (ds gs : List (DataW H)) (before : List MemPlace)
    (hval : ∀ (j : Nat) t v, Tryz.f3.params[j]? = some t → args[j]? = some v → Value.okWide Tryz.prog W .any base t v)
    (hW : DataW.Whole enc Tryz.prog Tryz.f3.params.toList Rows.probeSuspectsSpec.vars false W args.toList ds gs before)
    (hz : (DataW.weightsEach Tryz.prog (Tryz.f3.params.toList ++ (OpenSpec.ofChange Rows.probeSuspectsSpec).bare.plain.varTypes Tryz.prog) (ds ++ gs)).all (· ≤ reachBytes) = true)
    (hL : laidMetH Tryz.prog Rows.probeSuspectsRow.laid W) :
    Calls Tryz.prog 3 args W fun e W' => ∃ v, e = .returned v ∧ Rows.probeSuspectsSpec.post enc Tryz.prog Tryz.f3 false true false false W args v W' := by
  have hW' := hW
  obtain ⟨p, q, hA0, hV, rfl, hfz, hnd⟩ := hW
  have hA : DataW.TrodAll enc Tryz.prog W 0 (fun _ => true) true Tryz.f3.params.toList args.toList ds p := hA0
  rw [Tryz.params3] at hA hval hz
  obtain ⟨v0, vs0, d0, ds0, p0, q0, hargs, rfl, rfl, h0, r0⟩ := trodAll_cons hA
  obtain ⟨v1, vs1, d1, ds1, p1, q1, rfl, rfl, rfl, h1, r1⟩ := trodAll_cons r0
  obtain ⟨v2, vs2, d2, ds2, p2, q2, rfl, rfl, rfl, h2, r2⟩ := trodAll_cons r1
  obtain ⟨v3, vs3, d3, ds3, p3, q3, rfl, rfl, rfl, h3, r3⟩ := trodAll_cons r2
  obtain ⟨rfl, rfl, rfl⟩ := trodAll_nil r3
  obtain rfl : args = #[v0, v1, v2, v3] := Array.toList_inj.1 hargs
  have z0 := weightsEach_mem (P := Tryz.prog) (j := 0) (t := 31) (d := d0) rfl rfl hz
  have z1 := weightsEach_mem (P := Tryz.prog) (j := 1) (t := 35) (d := d1) rfl rfl hz
  have z2 := weightsEach_mem (P := Tryz.prog) (j := 2) (t := 36) (d := d2) rfl rfl hz
  have z3 := weightsEach_mem (P := Tryz.prog) (j := 3) (t := 5) (d := d3) rfl rfl hz
  obtain ⟨cs0, x0, rfl, hx0⟩ := arg_agg rd_dist (hval 0 31 v0 rfl rfl) h0 z0
  obtain ⟨cs1, x1, rfl, hx1⟩ := arg_agg rd_ev (hval 1 35 v1 rfl rfl) h1 z1
  obtain ⟨A2, n2, c2, x2, rfl, hx2, hc2⟩ := arg_slice rd_prs (hval 2 36 v2 rfl rfl) h2 z2
  obtain ⟨x3, rfl, wf3⟩ := arg_k (k := .u8) (hval 3 5 v3 rfl rfl) h3
  have bd3 := bounds_u8 wf3
  have hT : TabW (z W) := fun j v hv => tabW hL j v hv
  refine (c_ProbeSuspects (w := z W) (show DiR AnyB (z W) cs0 x0 from tDist.keep (w := W) (fun _ _ _ => rfl) hx0) (show EvR AnyB (z W) cs1 x1 from tEvR.keep (w := W) (fun _ _ _ => rfl) hx1) (hx2.keep fun _ _ _ => rfl) hT bd3).calls.mono fun e W' ⟨v, he, hv, hx⟩ => ?_
  subst he; subst hv
  exact ⟨_, rfl, law_post laidOut (by kernel_rfl) (by kernel_rfl) Tryz.underlying4 rfl ⟨rfl, rfl, rfl⟩ hW' hx.below⟩

theorem laid_met (os : Os) : laidMet Tryz.prog Rows.probeSuspectsRow.laid ((World.doorLaid Tryz.prog 19 os).forCall (fun _ _ => 0) ⟨#[], #[.agg #[.string ByteArray.empty, .int .i64 0, .int .i64 0, .int .i64 0, .slice none 0 0, .slice none 0 0, .slice none 0 0, .slice none 0 0, .slice none 0 0, .slice none 0 0], .agg #[.slice none 0 0, .slice none 0 0], .slice none 0 0, .int .u8 0], []⟩).memory :=
  laidMet_of_run' 8 (by kernel_rfl) (by kernel_rfl)
set_option maxRecDepth 100000 in
theorem lifted (os : Os) (started : os.Started) (H : Type) (enc : TypeId × Value → H) (F : Stop.Interp) :
    ReturnsInHanded {} Tryz.checked os 3 .any ((OpenSpec.ofChange Rows.probeSuspectsSpec).preRow enc Tryz.prog Tryz.f3 Rows.probeSuspectsRow.domain false Rows.probeSuspectsRow.laid) (((OpenSpec.ofChange Rows.probeSuspectsSpec).at F).post enc Tryz.prog Tryz.f3 false true false false) := by
  refine returnsInHanded_of_row (C := Tryz.checked) (s := OpenSpec.ofChange Rows.probeSuspectsSpec) own started (by kernel_rfl) Tryz.func3
    (witness_row_at (enc := enc) (C := Tryz.checked) false (World.doorLaid Tryz.prog 19 os) #[.agg #[.string ByteArray.empty, .int .i64 0, .int .i64 0, .int .i64 0, .slice none 0 0, .slice none 0 0, .slice none 0 0, .slice none 0 0, .slice none 0 0, .slice none 0 0], .agg #[.slice none 0 0, .slice none 0 0], .slice none 0 0, .int .u8 0] rfl (by kernel_rfl) (by kernel_rfl) (by kernel_rfl)
      (OpenSpec.preRow_of_cond (x := ([.agg [.lit (.string []), .lit (.int .i64 0), .agg [.lit (.int .i64 0), .lit (.int .i64 0)], .nil, .nil, .nil, .nil, .nil, .nil], .agg [.nil, .nil], .nil, .lit (.int .u8 0)], [], [])) 8 (by kernel_rfl) (by kernel_rfl) (fun k hk => by cases hk) (by kernel_rfl) (laid_met os))) ?_
  intro W base args ds gs before hval hW _ _ hz hL _ _
  exact contract H enc W base args ds gs before hval hW hz hL

theorem said : Rows.ProbeSuspectsSaid :=
  OpenClaim.holds_of_cond 3 Tryz.f3 rfl rfl rfl rfl rfl rfl rfl ⟨rfl, rfl, rfl, rfl, rfl⟩ rfl rfl rfl rfl rfl (by kernel_rfl) Tryz.func3 (by kernel_rfl)
    (of_decide_eq_true (by kernel_rfl)) (by unfold Func.isWrapper; first | (rw [if_pos (by decide +kernel)]; kernel_rfl) | (rw [if_neg (by decide +kernel)]; exact ⟨rfl, rfl⟩))
    (fun os started H enc _ F => by rw [OpenClaim.pre_eq_preRow]; exact lifted os started H enc F)

theorem plain (f : FuncId) (fn : Func) (hf : Tryz.pinned.checked.prog.funcNamed "acequia/acequialaw50.ProbeSuspects" = some f) (hfn : Tryz.pinned.checked.prog.funcs[f]? = some fn) :
    true = Tryz.pinned.checked.prog.looks [] ∧ ∀ (j : Nat) t, fn.params[j]? = some t → Tryz.pinned.checked.prog.wantsStandIn t = false := by
  obtain rfl : f = 3 := Option.some.inj ((show Tryz.prog.funcNamed "acequia/acequialaw50.ProbeSuspects" = some 3 by kernel_rfl).symm.trans hf) |>.symm
  obtain rfl : fn = Tryz.f3 := (Option.some.inj (Tryz.func3.symm.trans hfn)).symm
  refine ⟨by kernel_rfl, fun j t ht => ?_⟩
  rw [Tryz.params3] at ht
  have hm : t ∈ [31, 35, 36, 5] := by simpa using Array.mem_of_getElem? ht
  have hall : ([31, 35, 36, 5].all fun u => !Tryz.prog.wantsStandIn u) = true := by kernel_rfl
  exact (show Tryz.prog.wantsStandIn t = false by simpa using List.all_eq_true.1 hall t (by simpa using hm))
end Go.Proofs.YtcpdhclnmjfldaaGreatDoor.probeSuspects
namespace Go.Proofs.YtcpdhclnmjfldaaGreatDoor
theorem probeSuspects_card : Rows.ProbeSuspectsCardSaid :=
  Claim7.holds_tied_plain_at .later [] _ _ _ _ probeSuspects.said (fun _ h => by cases h) (by kernel_rfl) (fun _ h => by cases h) probeSuspects_row_tie rfl ⟨rfl, rfl⟩ (by kernel_rfl) rfl probeSuspects.plain (by kernel_rfl)
#print axioms probeSuspects_card
end Go.Proofs.YtcpdhclnmjfldaaGreatDoor
