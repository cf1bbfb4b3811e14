/-
  LedgerRun: in the ledger of a run the balances up to an hour are those of the accounts at the next hour, and that of the source is what came in. No condition of ours; the card ties the two listed tables of the digest to the program text.
-/
import Derived.Test.YtehcphboliofaaaGreatDoorPT17
import Derived.Test.YtehcphboliofaaaGreatDoorPT15
namespace Go.Proofs.YtehcphboliofaaaGreatDoor.ledgerRun
open Go Go.Proofs.YtehcphboliofaaaGreatDoor Go.RowKit Go.ChangeShapes Go.WideShapes Go.ChangeAt

set_option maxRecDepth 100000 in
theorem contract (H : Type) (enc : TypeId × Value → H) (W : World) (base : Nat) (args : Array Value) (ds gs : List (DataW H)) (before : List MemPlace)
    (hval : ∀ (j : Nat) t v, Tryz.f9.params[j]? = some t → args[j]? = some v → Value.okWide Tryz.prog W .any base t v)
    (hW : DataW.Whole enc Tryz.prog Tryz.f9.params.toList Rows.ledgerRunSpec.vars false W args.toList ds gs before)
    (hz : (DataW.weightsEach Tryz.prog (Tryz.f9.params.toList ++ (OpenSpec.ofChange Rows.ledgerRunSpec).bare.plain.varTypes Tryz.prog) (ds ++ gs)).all (· ≤ reachBytes) = true)
    (hL : laidMetH Tryz.prog Rows.ledgerRunRow.laid W) :
    Calls Tryz.prog 9 args W fun e W' => ∃ v, e = .returned v ∧ Rows.ledgerRunSpec.post enc Tryz.prog Tryz.f9 false true false false W args v W' := by
  have hW' := hW
  obtain ⟨p, q, hA0, hV, rfl, hfz, hnd⟩ := hW
  have hA : DataW.TrodAll enc Tryz.prog W 0 (fun _ => true) true Tryz.f9.params.toList args.toList ds p := hA0
  rw [Tryz.params9] at hA hval hz
  obtain ⟨v0, vs0, d0, ds0, p0, q0, hargs, rfl, rfl, h0, r0⟩ := trodAll_cons hA
  obtain ⟨v1, vs1, d1, ds1, p1, q1, rfl, rfl, rfl, h1, r1⟩ := trodAll_cons r0
  obtain ⟨v2, vs2, d2, ds2, p2, q2, rfl, rfl, rfl, h2, r2⟩ := trodAll_cons r1
  obtain ⟨rfl, rfl, rfl⟩ := trodAll_nil r2
  obtain rfl : args = #[v0, v1, v2] := Array.toList_inj.1 hargs
  have z0 := weightsEach_mem (P := Tryz.prog) (j := 0) (t := 64) (d := d0) rfl rfl hz
  have z1 := weightsEach_mem (P := Tryz.prog) (j := 1) (t := 68) (d := d1) rfl rfl hz
  have z2 := weightsEach_mem (P := Tryz.prog) (j := 2) (t := 5) (d := d2) rfl rfl hz
  obtain ⟨cs0, x0, rfl, hx0⟩ := arg_agg rd_dist (hval 0 64 v0 rfl rfl) h0 z0
  obtain ⟨cs1, x1, rfl, hx1⟩ := arg_agg rd_run (hval 1 68 v1 rfl rfl) h1 z1
  obtain ⟨x2, rfl, wf2⟩ := arg_k (k := .u8) (hval 2 5 v2 rfl rfl) h2
  have bd2 := bounds_u8 wf2
  have hT : NumW (z W) := numW hL
  refine (c_LedgerRun (w := z W) hT (show DiR AnyB (z W) cs0 x0 from tDist.keep (w := W) (fun _ _ _ => rfl) hx0) (show RuR AnyB (z W) cs1 x1 from tRun.keep (w := W) (fun _ _ _ => rfl) hx1) bd2).calls.mono fun e W' ⟨v, he, hv, hx⟩ => ?_
  subst he; subst hv
  exact ⟨_, rfl, law_post laidOut (by kernel_rfl) (by kernel_rfl) Tryz.underlying4 rfl ⟨rfl, rfl, rfl⟩ hW' hx.below⟩

theorem laid_met (os : Os) : laidMet Tryz.prog Rows.ledgerRunRow.laid ((World.doorLaid Tryz.prog 19 os).forCall (fun _ _ => 0) ⟨#[], #[.agg #[.string ByteArray.empty, .int .i64 0, .int .i64 0, .int .i64 0, .slice none 0 0, .slice none 0 0, .slice none 0 0, .slice none 0 0, .slice none 0 0, .slice none 0 0], .agg #[.slice none 0 0, .slice none 0 0, .slice none 0 0, .slice none 0 0, .slice none 0 0, .slice none 0 0, .slice none 0 0], .int .u8 0], []⟩).memory :=
  laidMet_of_run' 8 (by kernel_rfl) (by kernel_rfl)
set_option maxRecDepth 100000 in
theorem lifted (os : Os) (started : os.Started) (H : Type) (enc : TypeId × Value → H) (F : Stop.Interp) :
    ReturnsInHanded {} Tryz.checked os 9 .any ((OpenSpec.ofChange Rows.ledgerRunSpec).preRow enc Tryz.prog Tryz.f9 Rows.ledgerRunRow.domain false Rows.ledgerRunRow.laid) (((OpenSpec.ofChange Rows.ledgerRunSpec).at F).post enc Tryz.prog Tryz.f9 false true false false) := by
  refine returnsInHanded_of_row (C := Tryz.checked) (s := OpenSpec.ofChange Rows.ledgerRunSpec) own started (by kernel_rfl) Tryz.func9
    (witness_row_at (enc := enc) (C := Tryz.checked) false (World.doorLaid Tryz.prog 19 os) #[.agg #[.string ByteArray.empty, .int .i64 0, .int .i64 0, .int .i64 0, .slice none 0 0, .slice none 0 0, .slice none 0 0, .slice none 0 0, .slice none 0 0, .slice none 0 0], .agg #[.slice none 0 0, .slice none 0 0, .slice none 0 0, .slice none 0 0, .slice none 0 0, .slice none 0 0, .slice none 0 0], .int .u8 0] rfl (by kernel_rfl) (by kernel_rfl) (by kernel_rfl)
      (OpenSpec.preRow_of_cond (x := ([.agg [.lit (.string []), .lit (.int .i64 0), .agg [.lit (.int .i64 0), .lit (.int .i64 0)], .nil, .nil, .nil, .nil, .nil, .nil], .agg [.nil, .nil, .nil, .nil, .nil, .nil, .nil], .lit (.int .u8 0)], [], [])) 8 (by kernel_rfl) (by kernel_rfl) (fun k hk => by cases hk) (by kernel_rfl) (laid_met os))) ?_
  intro W base args ds gs before hval hW _ _ hz hL _ _
  exact contract H enc W base args ds gs before hval hW hz hL

set_option maxHeartbeats 8000000 in
theorem said : Rows.LedgerRunSaid :=
  OpenClaim.holds_of_cond 9 Tryz.f9 rfl rfl rfl rfl rfl rfl rfl ⟨rfl, rfl, rfl, rfl, rfl⟩ rfl rfl rfl rfl rfl (by as_aux_lemma => kernel_rfl) Tryz.func9 (by as_aux_lemma => kernel_rfl)
    (of_decide_eq_true (by kernel_rfl)) (by as_aux_lemma => unfold Func.isWrapper; first | (rw [if_pos (by decide +kernel)]; kernel_rfl) | (rw [if_neg (by decide +kernel)]; exact ⟨rfl, rfl⟩))
    (fun os started H enc _ F => by rw [OpenClaim.pre_eq_preRow]; exact lifted os started H enc F)

theorem plain (f : FuncId) (fn : Func) (hf : Tryz.pinned.checked.prog.funcNamed "acequia/acequialaw56.LedgerRun" = some f) (hfn : Tryz.pinned.checked.prog.funcs[f]? = some fn) :
    true = Tryz.pinned.checked.prog.looks [] ∧ ∀ (j : Nat) t, fn.params[j]? = some t → Tryz.pinned.checked.prog.wantsStandIn t = false := by
  obtain rfl : f = 9 := Option.some.inj ((show Tryz.prog.funcNamed "acequia/acequialaw56.LedgerRun" = some 9 by kernel_rfl).symm.trans hf) |>.symm
  obtain rfl : fn = Tryz.f9 := (Option.some.inj (Tryz.func9.symm.trans hfn)).symm
  refine ⟨by kernel_rfl, fun j t ht => ?_⟩
  rw [Tryz.params9] at ht
  have hm : t ∈ [64, 68, 5] := by simpa using Array.mem_of_getElem? ht
  have hall : ([64, 68, 5].all fun u => !Tryz.prog.wantsStandIn u) = true := by kernel_rfl
  exact (show Tryz.prog.wantsStandIn t = false by simpa using List.all_eq_true.1 hall t (by simpa using hm))
end Go.Proofs.YtehcphboliofaaaGreatDoor.ledgerRun
namespace Go.Proofs.YtehcphboliofaaaGreatDoor
theorem ledgerRun_card : Rows.LedgerRunCardSaid :=
  Claim7.holds_tied_plain_at .later [] _ _ _ _ ledgerRun.said (fun _ h => by cases h) (by kernel_rfl) (fun _ h => by cases h) ledgerRun_row_tie rfl ⟨rfl, rfl⟩ (by kernel_rfl) rfl ledgerRun.plain (by kernel_rfl)
#print axioms ledgerRun_card
end Go.Proofs.YtehcphboliofaaaGreatDoor
