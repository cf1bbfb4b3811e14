/-
  LedgerDiskSpec: Root, Load and Store of the program answer as those of the specification. No condition of ours; the card ties the two listed tables of the digest to the program text.
-/
import Derived.Test.YtehcphboliofaaaGreatDoorPT16
namespace Go.Proofs.YtehcphboliofaaaGreatDoor.ledgerDiskSpec
open Go Go.Proofs.YtehcphboliofaaaGreatDoor Go.RowKit Go.ChangeShapes Go.WideShapes Go.ChangeAt

set_option maxRecDepth 100000 in
theorem contract (H : Type) (enc : TypeId × Value → H) (W : World) (base : Nat) (args : Array Value) (ds gs : List (DataW H)) (before : List MemPlace)
    (hval : ∀ (j : Nat) t v, Tryz.f4.params[j]? = some t → args[j]? = some v → Value.okWide Tryz.prog W .any base t v)
    (hW : DataW.Whole enc Tryz.prog Tryz.f4.params.toList Rows.ledgerDiskSpecSpec.vars false W args.toList ds gs before)
    (hz : (DataW.weightsEach Tryz.prog (Tryz.f4.params.toList ++ (OpenSpec.ofChange Rows.ledgerDiskSpecSpec).bare.plain.varTypes Tryz.prog) (ds ++ gs)).all (· ≤ reachBytes) = true)
    (hL : laidMetH Tryz.prog Rows.ledgerDiskSpecRow.laid W) :
    Calls Tryz.prog 4 args W fun e W' => ∃ v, e = .returned v ∧ Rows.ledgerDiskSpecSpec.post enc Tryz.prog Tryz.f4 false true false false W args v W' := by
  have hW' := hW
  obtain ⟨p, q, hA0, hV, rfl, hfz, hnd⟩ := hW
  have hA : DataW.TrodAll enc Tryz.prog W 0 (fun _ => true) true Tryz.f4.params.toList args.toList ds p := hA0
  rw [Tryz.params4] at hA hval hz
  obtain ⟨v0, vs0, d0, ds0, p0, q0, hargs, rfl, rfl, h0, r0⟩ := trodAll_cons hA
  obtain ⟨v1, vs1, d1, ds1, p1, q1, rfl, rfl, rfl, h1, r1⟩ := trodAll_cons r0
  obtain ⟨rfl, rfl, rfl⟩ := trodAll_nil r1
  obtain rfl : args = #[v0, v1] := Array.toList_inj.1 hargs
  have z0 := weightsEach_mem (P := Tryz.prog) (j := 0) (t := 44) (d := d0) rfl rfl hz
  have z1 := weightsEach_mem (P := Tryz.prog) (j := 1) (t := 24) (d := d1) rfl rfl hz
  obtain ⟨cs0, x0, rfl, hx0⟩ := arg_agg rd_disk (hval 0 44 v0 rfl rfl) h0 z0
  obtain ⟨cs1, x1, rfl, hx1⟩ := arg_agg rd_led (hval 1 24 v1 rfl rfl) h1 z1
  have hT : NumW (z W) := numW hL
  refine (c_LedgerDiskSpec (w := z W) hT (DskR.rd (tDk.keep (w := W) (fun _ _ _ => rfl) hx0)) (LedR.of ((tSl tPost).keep (w := W) (fun _ _ _ => rfl) hx1))).calls.mono fun e W' ⟨v, he, hv, hx⟩ => ?_
  subst he; subst hv
  exact ⟨_, rfl, law_post laidOut (by kernel_rfl) (by kernel_rfl) Tryz.underlying4 rfl ⟨rfl, rfl, rfl⟩ hW' hx.below⟩

theorem laid_met (os : Os) : laidMet Tryz.prog Rows.ledgerDiskSpecRow.laid ((World.doorLaid Tryz.prog 19 os).forCall (fun _ _ => 0) ⟨#[], #[.agg #[.slice none 0 0, .slice none 0 0, .int .i64 0, .bool false], .agg #[.slice none 0 0]], []⟩).memory :=
  laidMet_of_run' 8 (by kernel_rfl) (by kernel_rfl)
set_option maxRecDepth 100000 in
theorem lifted (os : Os) (started : os.Started) (H : Type) (enc : TypeId × Value → H) (F : Stop.Interp) :
    ReturnsInHanded {} Tryz.checked os 4 .any ((OpenSpec.ofChange Rows.ledgerDiskSpecSpec).preRow enc Tryz.prog Tryz.f4 Rows.ledgerDiskSpecRow.domain false Rows.ledgerDiskSpecRow.laid) (((OpenSpec.ofChange Rows.ledgerDiskSpecSpec).at F).post enc Tryz.prog Tryz.f4 false true false false) := by
  refine returnsInHanded_of_row (C := Tryz.checked) (s := OpenSpec.ofChange Rows.ledgerDiskSpecSpec) own started (by kernel_rfl) Tryz.func4
    (witness_row_at (enc := enc) (C := Tryz.checked) false (World.doorLaid Tryz.prog 19 os) #[.agg #[.slice none 0 0, .slice none 0 0, .int .i64 0, .bool false], .agg #[.slice none 0 0]] rfl (by kernel_rfl) (by kernel_rfl) (by kernel_rfl)
      (OpenSpec.preRow_of_cond (x := ([.agg [.nil, .nil, .lit (.int .i64 0), .lit (.bool false)], .agg [.nil]], [], [])) 8 (by kernel_rfl) (by kernel_rfl) (fun k hk => by cases hk) (by kernel_rfl) (laid_met os))) ?_
  intro W base args ds gs before hval hW _ _ hz hL _ _
  exact contract H enc W base args ds gs before hval hW hz hL

theorem said : Rows.LedgerDiskSpecSaid :=
  OpenClaim.holds_of_cond 4 Tryz.f4 rfl rfl rfl rfl rfl rfl rfl ⟨rfl, rfl, rfl, rfl, rfl⟩ rfl rfl rfl rfl rfl (by kernel_rfl) Tryz.func4 (by kernel_rfl)
    (of_decide_eq_true (by kernel_rfl)) (by unfold Func.isWrapper; first | (rw [if_pos (by decide +kernel)]; kernel_rfl) | (rw [if_neg (by decide +kernel)]; exact ⟨rfl, rfl⟩))
    (fun os started H enc _ F => by rw [OpenClaim.pre_eq_preRow]; exact lifted os started H enc F)

theorem plain (f : FuncId) (fn : Func) (hf : Tryz.pinned.checked.prog.funcNamed "acequia/acequialaw56.LedgerDiskSpec" = some f) (hfn : Tryz.pinned.checked.prog.funcs[f]? = some fn) :
    true = Tryz.pinned.checked.prog.looks [] ∧ ∀ (j : Nat) t, fn.params[j]? = some t → Tryz.pinned.checked.prog.wantsStandIn t = false := by
  obtain rfl : f = 4 := Option.some.inj ((show Tryz.prog.funcNamed "acequia/acequialaw56.LedgerDiskSpec" = some 4 by kernel_rfl).symm.trans hf) |>.symm
  obtain rfl : fn = Tryz.f4 := (Option.some.inj (Tryz.func4.symm.trans hfn)).symm
  refine ⟨by kernel_rfl, fun j t ht => ?_⟩
  rw [Tryz.params4] at ht
  have hm : t ∈ [44, 24] := by simpa using Array.mem_of_getElem? ht
  have hall : ([44, 24].all fun u => !Tryz.prog.wantsStandIn u) = true := by kernel_rfl
  exact (show Tryz.prog.wantsStandIn t = false by simpa using List.all_eq_true.1 hall t (by simpa using hm))
end Go.Proofs.YtehcphboliofaaaGreatDoor.ledgerDiskSpec
namespace Go.Proofs.YtehcphboliofaaaGreatDoor
theorem ledgerDiskSpec_card : Rows.LedgerDiskSpecCardSaid :=
  Claim7.holds_tied_plain_at .later [] _ _ _ _ ledgerDiskSpec.said (fun _ h => by cases h) (by kernel_rfl) (fun _ h => by cases h) ledgerDiskSpec_row_tie rfl ⟨rfl, rfl⟩ (by kernel_rfl) rfl ledgerDiskSpec.plain (by kernel_rfl)
#print axioms ledgerDiskSpec_card
end Go.Proofs.YtehcphboliofaaaGreatDoor
