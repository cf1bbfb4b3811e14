/- Own layer, part c: V is monotone, leaves alone the slots that the code does not write, and is sound; a function's contract out of V. Nothing of the program stands here. -/
import Derived.Test.YtpmmhcgghldaaaaDoorVb
namespace Go.Proofs.YtpmmhcgghldaaaaDoor
open Go

section
variable {P : Program}

theorem PureS.mono {s : Sem Next} {K K' : Value → Prop} (h : PureS P s K) (hk : ∀ v, K v → K' v) : PureS P s K' := let ⟨v, hv, k⟩ := h; ⟨v, hv, hk _ k⟩
theorem CmpP.mono {p : Prop} [Decidable p] {K K' : Value → Prop} (h : CmpP p K) (hk : ∀ v, K v → K' v) : CmpP p K' := .of ⟨fun e => hk _ (h.both.1 e), fun e => hk _ (h.both.2 e)⟩
theorem ArP.mono {k : IntKind} {n : Int} {K K' : Value → Prop} (h : ArP k n K) (hk : ∀ v, K v → K' v) : ArP k n K' := by rw [ArP_eq] at h ⊢; exact hk _ h

theorem VInt_mono {op : BinOp} {t : TypeId} {xo yo : Operand} {k : IntKind} {a b : Int} {K K' : Value → Prop} (hk : ∀ v, K v → K' v) (h : VInt P op t xo yo k a b K) : VInt P op t xo yo k a b K' := by
  cases op <;> simp only [VInt] at h ⊢
  case add => exact h.mono hk
  case sub => exact h.mono hk
  case mul => exact h.mono hk
  case quo => rw [QuoP_eq] at h ⊢; exact ⟨h.1, hk _ h.2⟩
  case rem => rw [RemP_eq] at h ⊢; exact ⟨h.1, hk _ h.2⟩
  case and => rw [BitP_eq] at h ⊢; exact hk _ h
  case or => rw [BitP_eq] at h ⊢; exact hk _ h
  case xor => rw [BitP_eq] at h ⊢; exact hk _ h
  case andNot => rw [BitP_eq] at h ⊢; exact hk _ h
  case shl => rw [BinP_eq] at h ⊢; exact h.mono hk
  case shr => rw [BinP_eq] at h ⊢; exact h.mono hk
  all_goals exact h.mono hk
theorem VBin_mono {op : BinOp} {t : TypeId} {xo yo : Operand} {x y : Value} {K K' : Value → Prop} (hk : ∀ v, K v → K' v) (h : VBin P op t xo yo x y K) : VBin P op t xo yo x y K' := by
  unfold VBin at *
  split at h
  · split at h
    · rw [ShlP_eq] at h ⊢; exact ⟨h.1, hk _ h.2⟩
    · rw [ShrP_eq] at h ⊢; exact ⟨h.1, hk _ h.2⟩
    · rename_i k a k' b _ _ _
      cases hh : Nat.beq (kno k) (kno k') with
      | false => rw [hh] at h; exact h.elim
      | true => rw [hh] at h; exact VInt_mono hk h
  · rw [BinP_eq] at h ⊢; exact h.mono hk
theorem VPure_mono {o : Oper} {F : Fr} {K K' : Value → Prop} (hk : ∀ v, K v → K' v) (h : VPure P o F K) : VPure P o F K' := by
  unfold VPure at *
  split at h
  case h_1 => exact hk _ h
  case h_2 => exact hk _ h
  case h_3 => split at h <;> first | exact hk _ h | exact h
  case h_4 => exact VBin_mono hk h
  case h_5 =>
    split at h
    · exact hk _ h
    · exact hk _ h
    · exact h.mono hk
    · rw [PureP_eq] at h ⊢; exact h.mono hk
  case h_6 => rw [ConvP_eq] at h ⊢; exact h.mono hk
  case h_7 => rw [FldAP_eq] at h ⊢; exact h.mono hk
  case h_8 => rw [FldVP_eq] at h ⊢; exact h.mono hk
  case h_9 => rw [IdxAP_eq] at h ⊢; exact h.mono hk
  case h_10 => rw [IdxVP_eq] at h ⊢; exact h.mono hk
  case h_11 => rw [SlcP_eq] at h ⊢; exact h.mono hk
  case h_12 =>
    split at h
    · split at h
      · exact hk _ h
      · exact h
    · exact h
  case h_13 =>
    split at h
    · exact hk _ h
    · exact hk _ h
    · rw [PureP_eq] at h ⊢; exact h.mono hk
  case h_14 => exact hk _ h
  case h_15 => rw [BldP_eq] at h ⊢; exact h.mono hk
  case h_16 =>
    split at h
    · split at h
      · rw [LenP_eq] at h ⊢; exact h.mono hk
      · rw [PureP_eq] at h ⊢; exact h.mono hk
    · rename_i k x k' y _ _
      cases hh : Nat.beq (kno k) (kno k') with
      | false => rw [hh] at h; exact h.elim
      | true => rw [hh] at h; exact hk _ h
    · rename_i k x k' y _ _
      cases hh : Nat.beq (kno k) (kno k') with
      | false => rw [hh] at h; exact h.elim
      | true => rw [hh] at h; exact hk _ h
    · rw [PureP_eq] at h ⊢; exact h.mono hk
  case h_17 => rw [PureP_eq] at h ⊢; exact h.mono hk

theorem exK {α : Type} {A : α → Prop} {K K' : α → Prop} (hk : ∀ v, K v → K' v) (h : ∃ v, A v ∧ K v) : ∃ v, A v ∧ K' v := let ⟨v, a, k⟩ := h; ⟨v, a, hk _ k⟩

theorem VCall_mono {o : Oper} {c : Call} {F : Fr} {K K' : VK} {w : World} (hk : ∀ v w', K v w' → K' v w') (h : VCall P o c F K w) : VCall P o c F K' w := by
  unfold VCall at *
  split at h
  · split at h
    · rw [CallP_eq] at h ⊢; exact h.mono hk
    · rw [YieldP_eq] at h ⊢; exact h.mono hk
    · rw [OthP_eq] at h ⊢; exact h.mono hk
  · split at h
    · split at h
      · rw [LenG_eq] at h ⊢; exact exK (fun v => hk v w) h
      · rw [OthP_eq] at h ⊢; exact h.mono hk
    · exact VPure_mono (fun v => hk v w) h
    · exact VPure_mono (fun v => hk v w) h
    · exact VPure_mono (fun v => hk v w) h
    · rw [BuiP_eq] at h ⊢; exact h.mono hk
  · rw [OthP_eq] at h ⊢; exact h.mono hk
theorem VOp_mono {o : Oper} {F : Fr} {K K' : VK} {w : World} (hk : ∀ v w', K v w' → K' v w') (h : VOp P o F K w) : VOp P o F K' w := by
  unfold VOp at *
  split at h
  case h_1 => rw [LoadG_eq] at h ⊢; exact exK (fun v => hk v w) h
  case h_2 => rw [LookG_eq] at h ⊢; exact exK (fun v => hk v w) h
  case h_3 => rw [StoreP_eq] at h ⊢; exact h.mono hk
  case h_4 => rw [AllocP_eq] at h ⊢; exact h.mono hk
  case h_5 => rw [BoxP_eq] at h ⊢; exact h.mono hk
  case h_6 => rw [BSlcP_eq] at h ⊢; exact h.mono hk
  case h_7 => rw [MMapP_eq] at h ⊢; exact h.mono hk
  case h_8 => rw [MSlcP_eq] at h ⊢; exact h.mono hk
  case h_9 => rw [MUpdP_eq] at h ⊢; exact h.mono hk
  case h_10 => rw [MUpdP_eq] at h ⊢; exact h.mono hk
  case h_11 => rw [MEntP_eq] at h ⊢; exact h.mono hk
  case h_12 => rw [EStoP_eq] at h ⊢; exact h.mono hk
  case h_13 => exact VCall_mono hk h
  all_goals first | exact VPure_mono (fun v => hk v w) h | (rw [OthP_eq] at h ⊢; exact h.mono hk)
theorem VQuiet_mono {S : World → Prop} {o : Oper} {F : Fr} {K K' : Value → Prop} (hk : ∀ v, K v → K' v) (h : VQuiet P S o F K) : VQuiet P S o F K' := by
  unfold VQuiet at *
  split at h
  case h_1 => rw [LoadG_eq] at h ⊢; exact exK hk h
  case h_2 => rw [LookG_eq] at h ⊢; exact exK hk h
  case h_3 =>
    split at h
    · split at h
      · rw [CallQ_eq] at h ⊢; exact exK hk h
      · exact h
    · split at h
      · split at h
        · rw [LenG_eq] at h ⊢; exact exK hk h
        · exact h
      · exact VPure_mono hk h
    · exact VPure_mono hk h
  all_goals exact VPure_mono hk h
/-- The frames that a guard hands on: the very frame that came. -/
theorem upd_self {F : Fr} {d : Nat} {v : Value} (h : F d = v) : upd F d v = F := funext fun j => by
  show (bif Nat.beq j d then v else F j) = F j
  cases hb : Nat.beq j d with
  | true => rw [Nat.eq_of_beq_eq_true hb, h]; rfl
  | false => rfl
theorem VGuard_mono {ops : List Oper} {o : Oper} {F : Fr} {A B A' B' : Prop} (ha : A → A') (hb : B → B') (h : VGuard ops o F A B) : VGuard ops o F A' B' := by
  unfold VGuard at *
  split at h
  · exact ha h
  · split at h
    · split at h
      · split at h
        · exact ha h
        · exact hb h
      · split at h
        · exact hb h
        · exact ha h
      · exact hb h
    · exact hb h
theorem StrP.mono {S : World → Prop} {w : World} {C C' : (World → Prop) → Prop} (hc : ∀ S, C S → C' S) (h : StrP S w C) : StrP S w C' := by
  rw [StrP_eq] at h ⊢; obtain ⟨S', h1, h2, h3⟩ := h; exact ⟨S', h1, h2, hc _ h3⟩

/-! ### what is written -/
def memN (j : Nat) : List Nat → Bool
  | [] => false
  | x :: r => bif Nat.beq j x then true else memN j r
theorem memN_mem {j : Nat} : ∀ {l : List Nat}, j ∈ l → memN j l = true
  | x :: r, h => by
    unfold memN
    cases hb : Nat.beq j x with
    | true => rfl
    | false =>
      rcases List.mem_cons.1 h with rfl | h
      · have := Nat.beq_refl j; rw [this] at hb; cases hb
      · exact memN_mem h
def wr (ops : List Oper) : List Nat := ops.filterMap (·.dst)
def writes : Code → List Nat
  | .seq a b | .cond _ a b => writes a ++ writes b
  | .block _ c | .loop c | .scope c => writes c
  | .region _ ops _ => wr ops.toList
  | _ => []
def Off (l : List Nat) (F F' : Fr) : Prop := ∀ j, memN j l = false → F' j = F j
theorem Off.refl (l : List Nat) (F : Fr) : Off l F F := fun _ _ => rfl
theorem Off.sub {l l' : List Nat} {F F' : Fr} (h : Off l F F') (hs : ∀ j, j ∈ l → j ∈ l') : Off l' F F' := fun j hj => h j (by
  cases hm : memN j l with
  | false => rfl
  | true =>
    have : j ∈ l := by
      clear h hj hs
      induction l with
      | nil => cases hm
      | cons x r ih =>
        unfold memN at hm
        cases hb : Nat.beq j x with
        | true => exact List.mem_cons.2 (.inl (Nat.eq_of_beq_eq_true hb))
        | false => rw [hb] at hm; exact List.mem_cons_of_mem _ (ih hm)
    rw [memN_mem (hs j this)] at hj; cases hj)
theorem Off.trans {l : List Nat} {F G H : Fr} (h : Off l F G) (k : Off l G H) : Off l F H := fun j hj => (k j hj).trans (h j hj)
theorem Off.upd {l : List Nat} {F G : Fr} (h : Off l F G) {d : Option Nat} (hd : ∀ j, d = some j → j ∈ l) (v : Value) : Off l F (updO G d v) := fun j hj => by
  cases d with
  | none => exact h j hj
  | some d =>
    show (bif Nat.beq j d then v else G j) = F j
    cases hb : Nat.beq j d with
    | true =>
      have := Nat.eq_of_beq_eq_true hb
      subst this
      rw [memN_mem (hd j rfl)] at hj; cases hj
    | false => exact h j hj

theorem VOps_mf {ops : List Oper} {l : List Nat} {K K' : Fr → World → Prop} : ∀ (os : List Oper) (F F0 : Fr) (w : World), Off l F0 F → (∀ o ∈ os, ∀ j, o.dst = some j → j ∈ l) →
    (∀ F' w', Off l F0 F' → K F' w' → K' F' w') → VOps P ops K os F w → VOps P ops K' os F w
  | [], F, F0, w, hf, _, hk, h => hk _ _ hf h
  | o :: os, F, F0, w, hf, ho, hk, h => by
    have hd := ho o List.mem_cons_self
    have hr : ∀ o' ∈ os, ∀ j, o'.dst = some j → j ∈ l := fun o' h' => ho o' (List.mem_cons_of_mem _ h')
    exact VGuard_mono (fun h => VOp_mono (fun v w' h => by rw [fv_eq] at h ⊢; exact VOps_mf os _ F0 w' (hf.upd hd v) hr hk h) h) (fun h => VOps_mf os _ F0 w (hf.upd hd undef) hr hk h) h

theorem VPlan_mf {ops : List Oper} {l : List Nat} {K K' : Fr → World → Prop} (ho : ∀ o ∈ ops, ∀ j, o.dst = some j → j ∈ l) : ∀ (p : Plan) (S : World → Prop) (F F0 : Fr) (w : World), Off l F0 F →
    (∀ F' w', Off l F0 F' → K F' w' → K' F' w') → VPlan P ops K p S F w → VPlan P ops K' p S F w
  | .done, S, F, F0, w, hf, hk, h => hk _ _ hf h
  | .take i p, S, F, F0, w, hf, hk, h => by
    rw [VPlan_take] at h ⊢
    split at h
    · rename_i o hi
      have hd := ho o (List.mem_of_getElem? hi)
      exact VGuard_mono (fun h => VQuiet_mono (fun v h => by rw [fv_eq] at h ⊢; exact VPlan_mf ho p S _ F0 w (hf.upd hd v) hk h) h) (fun h => VPlan_mf ho p S _ F0 w (hf.upd hd undef) hk h) h
    · exact h
  | .eff i p, S, F, F0, w, hf, hk, h => by
    rw [VPlan_eff] at h ⊢
    split at h
    · rename_i o hi
      have hd := ho o (List.mem_of_getElem? hi)
      exact VGuard_mono (fun h => VOp_mono (fun v w' h => by rw [fv_eq] at h ⊢; exact StrP.mono (fun S' h => VPlan_mf ho p S' _ F0 w' (hf.upd hd v) hk h) h) h)
        (fun h => StrP.mono (fun S' h => VPlan_mf ho p S' _ F0 w (hf.upd hd undef) hk h) h) h
    · exact h
  | .alt i p q, S, F, F0, w, hf, hk, h => by
    rw [VPlan_alt] at h ⊢
    refine ⟨?_, VPlan_mf ho q S F F0 w hf hk h.2⟩
    have h := h.1
    split at h
    · rename_i o hi
      have hd := ho o (List.mem_of_getElem? hi)
      exact VGuard_mono (fun h => VOp_mono (fun v w' h => by rw [fv_eq] at h ⊢; exact StrP.mono (fun S' h => VPlan_mf ho p S' _ F0 w' (hf.upd hd v) hk h) h) h)
        (fun h => StrP.mono (fun S' h => VPlan_mf ho p S' _ F0 w (hf.upd hd undef) hk h) h) h
    · exact h

  | .bar p, S, F, F0, w, hf, hk, h => by
    rw [VPlan_bar] at h ⊢
    obtain ⟨S', h1, h2⟩ := h
    exact ⟨S', h1, VPlan_mf ho p S' F F0 w hf hk h2⟩

theorem wr_mem {ops : List Oper} : ∀ o ∈ ops, ∀ j, o.dst = some j → j ∈ wr ops := fun o ho _ hj => List.mem_filterMap.2 ⟨o, ho, hj⟩

theorem bothT {a b : Bool} (h : (a && b) = true) : a = true ∧ b = true := by simpa using h

theorem V_mf : ∀ (c : Code) (K K' : KK) (F : Fr) (ds : List Deferred) (w : World), 
    (∀ e F' ds' w', Off (writes c) F F' → (noRange c = true → ds' = ds) → K e F' ds' w' → K' e F' ds' w') → V P c K F ds w → V P c K' F ds w
  | .skip, K, K', F, ds, w, hk, h => hk _ _ _ _ (.refl _ _) (fun _ => rfl) h
  | .label _, K, K', F, ds, w, hk, h => hk _ _ _ _ (.refl _ _) (fun _ => rfl) h
  | .exit _, K, K', F, ds, w, hk, h => hk _ _ _ _ (.refl _ _) (fun _ => rfl) h
  | .ret, K, K', F, ds, w, hk, h => hk _ _ _ _ (.refl _ _) (fun _ => rfl) h
  | .seq a b, K, K', F, ds, w, hk, h => by
    refine V_mf a _ _ F ds w (fun e F' ds' w' hf hd h => ?_) h
    have hsub : Off (writes (.seq a b)) F F' := hf.sub fun _ hj => List.mem_append_left _ hj
    cases e with
    | normal =>
      refine V_mf b _ _ F' ds' w' (fun e F'' ds'' w'' hf' hd' h => ?_) h
      exact hk _ _ _ _ (hsub.trans (hf'.sub fun _ hj => List.mem_append_right _ hj)) (fun hn => by
        have : noRange a = true ∧ noRange b = true := by simpa [noRange] using hn
        rw [hd' this.2, hd this.1]) h
    | _ =>
      refine hk _ _ _ _ hsub (fun hn => hd ?_) h
      have : noRange a = true ∧ noRange b = true := by simpa [noRange] using hn
      exact this.1
  | .cond c a b, K, K', F, ds, w, hk, h => by
    rw [V_cond] at h ⊢
    split at h
    · exact V_mf a _ _ F ds w (fun e F' ds' w' hf hd h => hk _ _ _ _ (hf.sub fun _ hj => List.mem_append_left _ hj) (fun hn => hd (bothT hn).1) h) h
    · exact V_mf b _ _ F ds w (fun e F' ds' w' hf hd h => hk _ _ _ _ (hf.sub fun _ hj => List.mem_append_right _ hj) (fun hn => hd (bothT hn).2) h) h
    · exact h
  | .block id c, K, K', F, ds, w, hk, h => by
    refine V_mf c _ _ F ds w (fun e F' ds' w' hf hd h => ?_) h
    cases e with
    | exit i =>
      cases hb : Nat.beq i id with
      | true => simp only [hb, cond_true] at h ⊢; exact hk _ _ _ _ hf hd h
      | false => simp only [hb, cond_false] at h ⊢; exact hk _ _ _ _ hf hd h
    | _ => exact hk _ _ _ _ hf hd h
  | .region _ ops false, K, K', F, ds, w, hk, h => VOps_mf ops.toList F F w (.refl _ _) wr_mem (fun F' w' hf h => hk _ _ _ _ hf (fun _ => rfl) h) h
  | .region _ ops true, K, K', F, ds, w, hk, h => by
    rw [V_draw, DrawH_eq] at h ⊢
    obtain ⟨hm, p, B, S, h1, h2, h3⟩ := h
    exact ⟨hm, p, B, S, h1, h2, VPlan_mf wr_mem p S F F w (.refl _ _) (fun F' w' hf h => hk _ _ _ _ hf (fun _ => rfl) h) h3⟩
  | .loop c, K, K', F, ds, w, hk, h => by
    rw [V_loop, LoopH_eq] at h ⊢
    obtain ⟨I, ⟨n0, h0⟩, hs⟩ := h
    refine ⟨fun n F' ds' w' => I n F' ds' w' ∧ Off (writes c) F F' ∧ (noRange c = true → ds' = ds), ⟨n0, h0, .refl _ _, fun _ => rfl⟩, fun n1 F1 ds1 w1 ⟨hi, hf1, hd1⟩ => ?_⟩
    refine V_mf c _ _ F1 ds1 w1 (fun e F' ds' w' hf hd h => ?_) (hs n1 F1 ds1 w1 hi)
    cases e with
    | normal =>
      obtain ⟨m, hm, h⟩ := h
      exact ⟨m, hm, h, hf1.trans hf, fun hn => (hd hn).trans (hd1 hn)⟩
    | _ => exact hk _ _ _ _ (hf1.trans hf) (fun hn => (hd hn).trans (hd1 hn)) h
  | .rangeFunc g ps as b, K, K', F, ds, w, hk, h => by
    rw [V_range, RangeH_eq] at h ⊢
    intro a w0 hw hf hd hwf
    exact wpIn_mono (h a w0 hw hf hd hwf) fun e a' w' ⟨h1, h2⟩ => ⟨h1, hk _ _ _ _ (.refl _ _) (fun hn => by cases hn) h2⟩
  | .scope _, _, _, _, _, _, _, h => h.elim
  | .goto _, _, _, _, _, _, _, h => h.elim
  | .refuse _, _, _, _, _, _, _, h => h.elim
end
end Go.Proofs.YtpmmhcgghldaaaaDoor
