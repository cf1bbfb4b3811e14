/-
  LedgerTorn: what was stored is loaded; a disk that stops at any write while a longer ledger is stored, and tears it, holds after a restart a beginning of this ledger with all postings that were on it before; and then the rest can be stored, if there is room. No condition of ours; the card ties the two listed tables of the digest to the program text.
-/
import Derived.Test.YtehcphboliofaaaGreatDoorPT16
import Derived.Test.YtehcphboliofaaaGreatDoorPT15
namespace Go.Proofs.YtehcphboliofaaaGreatDoor.ledgerTorn
open Go Go.Proofs.YtehcphboliofaaaGreatDoor Go.RowKit Go.ChangeShapes Go.WideShapes Go.ChangeAt

set_option maxRecDepth 100000 in
theorem contract (H : Type) (enc : TypeId × Value → H) (W : World) (base : Nat) (args : Array Value) (ds gs : List (DataW H)) (before : List MemPlace)
    (hval : ∀ (j : Nat) t v, Tryz.f8.params[j]? = some t → args[j]? = some v → Value.okWide Tryz.prog W .any base t v)
    (hW : DataW.Whole enc Tryz.prog Tryz.f8.params.toList Rows.ledgerTornSpec.vars false W args.toList ds gs before)
    (hz : (DataW.weightsEach Tryz.prog (Tryz.f8.params.toList ++ (OpenSpec.ofChange Rows.ledgerTornSpec).bare.plain.varTypes Tryz.prog) (ds ++ gs)).all (· ≤ reachBytes) = true)
    (hL : laidMetH Tryz.prog Rows.ledgerTornRow.laid W) :
    Calls Tryz.prog 8 args W fun e W' => ∃ v, e = .returned v ∧ Rows.ledgerTornSpec.post enc Tryz.prog Tryz.f8 false true false false W args v W' := by
  have hW' := hW
  obtain ⟨p, q, hA0, hV, rfl, hfz, hnd⟩ := hW
  have hA : DataW.TrodAll enc Tryz.prog W 0 (fun _ => true) true Tryz.f8.params.toList args.toList ds p := hA0
  rw [Tryz.params8] at hA hval hz
  obtain ⟨v0, vs0, d0, ds0, p0, q0, hargs, rfl, rfl, h0, r0⟩ := trodAll_cons hA
  obtain ⟨v1, vs1, d1, ds1, p1, q1, rfl, rfl, rfl, h1, r1⟩ := trodAll_cons r0
  obtain ⟨v2, vs2, d2, ds2, p2, q2, rfl, rfl, rfl, h2, r2⟩ := trodAll_cons r1
  obtain ⟨v3, vs3, d3, ds3, p3, q3, rfl, rfl, rfl, h3, r3⟩ := trodAll_cons r2
  obtain ⟨rfl, rfl, rfl⟩ := trodAll_nil r3
  obtain rfl : args = #[v0, v1, v2, v3] := Array.toList_inj.1 hargs
  have z0 := weightsEach_mem (P := Tryz.prog) (j := 0) (t := 24) (d := d0) rfl rfl hz
  have z1 := weightsEach_mem (P := Tryz.prog) (j := 1) (t := 5) (d := d1) rfl rfl hz
  have z2 := weightsEach_mem (P := Tryz.prog) (j := 2) (t := 5) (d := d2) rfl rfl hz
  have z3 := weightsEach_mem (P := Tryz.prog) (j := 3) (t := 5) (d := d3) rfl rfl hz
  obtain ⟨cs0, x0, rfl, hx0⟩ := arg_agg rd_led (hval 0 24 v0 rfl rfl) h0 z0
  obtain ⟨x1, rfl, wf1⟩ := arg_k (k := .u8) (hval 1 5 v1 rfl rfl) h1
  have bd1 := bounds_u8 wf1
  obtain ⟨x2, rfl, wf2⟩ := arg_k (k := .u8) (hval 2 5 v2 rfl rfl) h2
  have bd2 := bounds_u8 wf2
  obtain ⟨x3, rfl, wf3⟩ := arg_k (k := .u8) (hval 3 5 v3 rfl rfl) h3
  have bd3 := bounds_u8 wf3
  have hT : NumW (z W) := numW hL
  refine (c_LedgerTorn (w := z W) hT (LedR.of ((tSl tPost).keep (w := W) (fun _ _ _ => rfl) hx0)) bd1 bd2 bd3).calls.mono fun e W' ⟨v, he, hv, hx⟩ => ?_
  subst he; subst hv
  exact ⟨_, rfl, law_post laidOut (by kernel_rfl) (by kernel_rfl) Tryz.underlying4 rfl ⟨rfl, rfl, rfl⟩ hW' hx.below⟩

theorem laid_met (os : Os) : laidMet Tryz.prog Rows.ledgerTornRow.laid ((World.doorLaid Tryz.prog 19 os).forCall (fun _ _ => 0) ⟨#[], #[.agg #[.slice none 0 0], .int .u8 0, .int .u8 0, .int .u8 0], []⟩).memory :=
  laidMet_of_run' 8 (by kernel_rfl) (by kernel_rfl)
set_option maxRecDepth 100000 in
theorem lifted (os : Os) (started : os.Started) (H : Type) (enc : TypeId × Value → H) (F : Stop.Interp) :
    ReturnsInHanded {} Tryz.checked os 8 .any ((OpenSpec.ofChange Rows.ledgerTornSpec).preRow enc Tryz.prog Tryz.f8 Rows.ledgerTornRow.domain false Rows.ledgerTornRow.laid) (((OpenSpec.ofChange Rows.ledgerTornSpec).at F).post enc Tryz.prog Tryz.f8 false true false false) := by
  refine returnsInHanded_of_row (C := Tryz.checked) (s := OpenSpec.ofChange Rows.ledgerTornSpec) own started (by kernel_rfl) Tryz.func8
    (witness_row_at (enc := enc) (C := Tryz.checked) false (World.doorLaid Tryz.prog 19 os) #[.agg #[.slice none 0 0], .int .u8 0, .int .u8 0, .int .u8 0] rfl (by kernel_rfl) (by kernel_rfl) (by kernel_rfl)
      (OpenSpec.preRow_of_cond (x := ([.agg [.nil], .lit (.int .u8 0), .lit (.int .u8 0), .lit (.int .u8 0)], [], [])) 8 (by kernel_rfl) (by kernel_rfl) (fun k hk => by cases hk) (by kernel_rfl) (laid_met os))) ?_
  intro W base args ds gs before hval hW _ _ hz hL _ _
  exact contract H enc W base args ds gs before hval hW hz hL

theorem said : Rows.LedgerTornSaid :=
  OpenClaim.holds_of_cond 8 Tryz.f8 rfl rfl rfl rfl rfl rfl rfl ⟨rfl, rfl, rfl, rfl, rfl⟩ rfl rfl rfl rfl rfl (by kernel_rfl) Tryz.func8 (by kernel_rfl)
    (of_decide_eq_true (by kernel_rfl)) (by unfold Func.isWrapper; first | (rw [if_pos (by decide +kernel)]; kernel_rfl) | (rw [if_neg (by decide +kernel)]; exact ⟨rfl, rfl⟩))
    (fun os started H enc _ F => by rw [OpenClaim.pre_eq_preRow]; exact lifted os started H enc F)

theorem plain (f : FuncId) (fn : Func) (hf : Tryz.pinned.checked.prog.funcNamed "acequia/acequialaw56.LedgerTorn" = some f) (hfn : Tryz.pinned.checked.prog.funcs[f]? = some fn) :
    true = Tryz.pinned.checked.prog.looks [] ∧ ∀ (j : Nat) t, fn.params[j]? = some t → Tryz.pinned.checked.prog.wantsStandIn t = false := by
  obtain rfl : f = 8 := Option.some.inj ((show Tryz.prog.funcNamed "acequia/acequialaw56.LedgerTorn" = some 8 by kernel_rfl).symm.trans hf) |>.symm
  obtain rfl : fn = Tryz.f8 := (Option.some.inj (Tryz.func8.symm.trans hfn)).symm
  refine ⟨by kernel_rfl, fun j t ht => ?_⟩
  rw [Tryz.params8] at ht
  have hm : t ∈ [24, 5] := by simpa using Array.mem_of_getElem? ht
  have hall : ([24, 5].all fun u => !Tryz.prog.wantsStandIn u) = true := by kernel_rfl
  exact (show Tryz.prog.wantsStandIn t = false by simpa using List.all_eq_true.1 hall t (by simpa using hm))
end Go.Proofs.YtehcphboliofaaaGreatDoor.ledgerTorn
namespace Go.Proofs.YtehcphboliofaaaGreatDoor
theorem ledgerTorn_card : Rows.LedgerTornCardSaid :=
  Claim7.holds_tied_plain_at .later [] _ _ _ _ ledgerTorn.said (fun _ h => by cases h) (by kernel_rfl) (fun _ h => by cases h) ledgerTorn_row_tie rfl ⟨rfl, rfl⟩ (by kernel_rfl) rfl ledgerTorn.plain (by kernel_rfl)
#print axioms ledgerTorn_card
end Go.Proofs.YtehcphboliofaaaGreatDoor
