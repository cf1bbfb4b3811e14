/- Parts of the proof: Vd Ve Vf Vg Vh. -/
import Derived.Test.YtehcphboliofaaaGreatDoorPT1
import Derived.Below
import Derived.OwnWalk
import Derived.ArgAppend
import Derived.Carry
import Derived.Maps.AppendAt
namespace Go.Proofs.YtehcphboliofaaaGreatDoor
open Go
section
variable {P : Program} {n : Nat}
theorem Agr.eval {a : Act} {F : Fr} {ds : List Deferred} (h : Agr n a F ds) : a.eval = ev F := funext fun x => by
  cases x with
  | tmp t => exact h.2.1 t
  | _ => rfl
theorem Agr.put {a : Act} {F : Fr} {ds : List Deferred} (h : Agr n a F ds) {d : Option Nat} (hd : ∀ j, d = some j → j < n) (v : Value) : Agr n (a.put d v) (updO F d v) ds := by
  obtain ⟨h1, h2, h3⟩ := h
  cases d with
  | none => exact ⟨h1, h2, h3⟩
  | some d =>
    have hlt := hd d rfl; refine ⟨by simpa [Act.put] using h1, fun t => ?_, h3⟩; show (a.tmps.setIfInBounds d v).getD t undef = (bif Nat.beq t d then v else F t)
    cases hb : Nat.beq t d with
    | true =>
      obtain rfl := Nat.eq_of_beq_eq_true hb; simp [h1, hlt]
    | false =>
      have hne : d ≠ t := fun e => by subst e; rw [Nat.beq_refl] at hb; cases hb
      rw [← h2 t]; simp [Array.getElem?_setIfInBounds_ne hne]
theorem yielded_eq {a : Act} {F : Fr} {ds : List Deferred} (h : Agr n a F ds) (ops : Array Oper) (j : Nat) :
    yielded ops a.tmps j = match (ops.toList[j]?).bind (·.dst) with | some d => (match F d with | .bool b => some b | _ => none) | none => none := by
  unfold yielded; rw [Array.getElem?_toList]
  cases hd : (ops[j]?).bind (·.dst) with
  | none => rfl
  | some d =>
    have h2 := h.2.1 d; simp only [Option.bind_some]
    cases ht : a.tmps[d]? with
    | none =>
      rw [Array.getD_eq_getD_getElem?, ht] at h2; rw [← h2]; rfl
    | some v =>
      rw [Array.getD_eq_getD_getElem?, ht] at h2; have h2 : v = F d := h2; subst h2
      cases F d <;> rfl
theorem VGuard_sound {ops : Array Oper} {o : Oper} {a : Act} {F : Fr} {ds : List Deferred} {A B : Prop} (hg : Agr n a F ds) (h : VGuard ops.toList o F A B) :
    if Region.wanted o (yielded ops a.tmps) = true then A else B := by
  unfold VGuard at h; unfold Region.wanted
  split at h
  · rename_i hn; simp only [hn, if_true]; exact h
  · rename_i j want hs; simp only [hs, yielded_eq hg]
    split at h
    · rename_i d hd; simp only [hd]
      split at h
      · rename_i hk; simp only [hk]
        cases want with
        | true => simpa using h
        | false => simpa using h
      · rename_i hk; simp only [hk]
        cases want with
        | true => simpa using h
        | false => simpa using h
      · rename_i hno1 hno2
        have : (match F d with | .bool b => some b | _ => none) = none := by
          cases hF : F d with
          | bool b => cases b <;> first | exact (hno1 hF).elim | exact (hno2 hF).elim
          | _ => rfl
        rw [this]; simpa using h
    · rename_i hno; simp only [hno]
      simpa using h
theorem wfL_spec {ops : List Oper} (h : wfL n ops = true) : ∀ o ∈ ops, ∀ j, o.dst = some j → j < n := fun o ho j hj => by
  have := List.all_eq_true.1 h o ho
  rw [hj] at this
  simpa using this
def KQ (n : Nat) (K : KK) : Exit → Act → World → Prop := fun e a' w' => ∃ F', Agr n a' F' a'.defers ∧ K e F' a'.defers (z w')
theorem VOps_sound {ops : Array Oper} {K : KK} {ds : List Deferred} {r : Option Nat} {F0 : Fr} (hwf : ∀ o ∈ ops.toList, ∀ j, o.dst = some j → j < n) : ∀ (os : List Oper) (F : Fr) (w0 : World) (a : Act), (∀ o ∈ os, o ∈ ops.toList) →
    Agr n a F ds → Off (wr ops.toList) F0 F → VOps P ops.toList (fun F' w' => K .normal F' ds w') (fun ch w' => ∀ F', Off (wr ops.toList) F0 F' → K (.panic ch) F' ds w') os F (z w0) → wpListIn (Fw r) 0 P ops (KQ n K) os a w0
  | [], F, w0, a, _, hg, _, h => ⟨F, by obtain ⟨h1, h2, h3⟩ := hg; subst h3; exact ⟨⟨h1, h2, rfl⟩, h⟩⟩
  | o :: os, F, w0, a, hs, hg, hoff, h => by
    have hu : ∀ v, Off (wr ops.toList) F0 (updO F o.dst v) := fun v => hoff.upd (fun j hj => wr_mem o (hs o List.mem_cons_self) j hj) v
    have hd := hwf o (hs o List.mem_cons_self)
    have hr : ∀ o' ∈ os, o' ∈ ops.toList := fun o' h' => hs o' (List.mem_cons_of_mem _ h')
    have h := VGuard_sound hg h
    show if _ then _ else _
    split
    · rename_i hw
      rw [if_pos hw] at h
      have h1 := VOp_sound h
      rw [← hg.eval] at h1
      refine Oper.wpIn_mono (fun a' w' hh => hh) (upon_wp (K := fun a' w' => ∀ w1, z w1 = w' → wpListIn (Fw r) 0 P ops (KQ n K) os a' w1) (fun ch w' hx => ⟨F, by obtain ⟨g1, g2, g3⟩ := hg; subst g3; exact ⟨⟨g1, g2, rfl⟩, hx F hoff⟩⟩) (h1.mono fun v w' hv w1 e => ?_)) |> fun hh => Oper.wpIn_mono (fun a' w' hh => hh w' rfl) hh
      subst e
      rw [fv_eq] at hv
      exact VOps_sound hwf os _ w1 _ hr (hg.put hd v) (hu v) hv
    · rename_i hw
      rw [if_neg hw] at h
      exact ⟨fun _ _ => trivial, VOps_sound hwf os _ w0 _ hr (hg.put hd undef) (hu undef) h⟩
theorem preds_spec {ops : Array Oper} {b i : Nat} {o : Oper} (hb : ops[b]? = some o) (h : (preds ops b).testBit i = true) : ∃ e ∈ o.after, Region.binds .any e = true ∧ e.on = i := by
  unfold preds at h; rw [hb] at h
  have key : ∀ l : List Edge, (l.foldr (fun e m => bif Region.binds .any e then Nat.lor m (Nat.shiftLeft 1 e.on) else m) 0).testBit i = true → ∃ e ∈ l, Region.binds .any e = true ∧ e.on = i := by
    intro l
    induction l with
    | nil => intro h; simp at h
    | cons e r ih =>
      intro h; rw [List.foldr_cons] at h
      cases hbe : Region.binds .any e with
      | false => rw [hbe] at h; obtain ⟨x, hx, h2⟩ := ih h; exact ⟨x, List.mem_cons_of_mem _ hx, h2⟩
      | true =>
        rw [hbe] at h; have h : ((r.foldr (fun e m => bif Region.binds .any e then Nat.lor m (Nat.shiftLeft 1 e.on) else m) 0) ||| (1 <<< e.on)).testBit i = true := h; rw [Nat.testBit_or, Bool.or_eq_true, Nat.one_shiftLeft, Nat.testBit_two_pow, decide_eq_true_iff] at h; rcases h with h | h
        · obtain ⟨x, hx, h2⟩ := ih h; exact ⟨x, List.mem_cons_of_mem _ hx, h2⟩
        · exact ⟨e, List.mem_cons_self, hbe, h⟩
  obtain ⟨e, he, h2⟩ := key _ h; exact ⟨e, by simpa using he, h2⟩
theorem preds_listed {ops : Array Oper} {b : Nat} {l : Array Bool} (h : ∀ o, ops[b]? = some o → ∀ e ∈ o.after, Region.binds .any e = true → l.getD e.on false = true) : ∀ i, (preds ops b).testBit i = true → l.getD i false = true := fun i hi => by
  cases ho : ops[b]? with
  | none => unfold preds at hi; rw [ho] at hi; simp at hi
  | some o => obtain ⟨e, he, h1, h2⟩ := preds_spec ho hi; rw [← h2]; exact h o ho e he h1
theorem ancs_listed {ops : Array Oper} {l : Array Bool} (hc : Cl .any ops l) : ∀ (n m : Nat), (∀ i, m.testBit i = true → l.getD i false = true) → ∀ i, (ancs ops n m).testBit i = true → l.getD i false = true
  | 0, m, h, i, hi => h i hi
  | n + 1, m, h, i, hi => by
    refine ancs_listed hc n _ (fun k hk => ?_) i hi
    have hk : (m ||| predsOf ops m (List.range ops.size)).testBit k = true := hk
    rw [Nat.testBit_or, Bool.or_eq_true] at hk
    rcases hk with hk | hk
    · exact h k hk
    · have key : ∀ ks : List Nat, (predsOf ops m ks).testBit k = true → l.getD k false = true := by
        intro ks
        induction ks with
        | nil => intro h; simp [predsOf] at h
        | cons x r ih =>
          intro hx
          unfold predsOf at hx
          cases hm : Nat.testBit m x with
          | false => rw [hm] at hx; exact ih hx
          | true =>
            rw [hm] at hx
            have hx : (preds ops x ||| predsOf ops m r).testBit k = true := hx
            rw [Nat.testBit_or, Bool.or_eq_true] at hx
            rcases hx with hx | hx
            · exact preds_listed (fun o ho e he hb => hc x o ho (h x hm) e he hb) k hx
            · exact ih hx
      exact key _ hk
theorem hasEdge_spec {ops : Array Oper} {b i : Nat} (h : hasEdge ops b i = true) (l : Array Bool) (hc : Cl .any ops l) (hb : b ∈ Region.ready .any ops l) : l.getD i false = true := by
  unfold hasEdge at h; refine ancs_listed hc 8 _ (preds_listed fun o ho e he hbe => ?_) i h; obtain ⟨_, o', ho', hall⟩ := mem_ready.1 hb; rw [ho] at ho'; injection ho' with ho'; subst ho'; exact hall e he hbe
theorem VPlan_sound {ops : Array Oper} {K : Fr → World → Prop} {X : XK} {ds : List Deferred} (hwf : ∀ o ∈ ops.toList, ∀ j, o.dst = some j → j < n) (hsel : Region.noSelect ops = true) : ∀ (p : Plan) (B : List Nat) (l : Array Bool) (S : World → Prop) (F : Fr) (w : World) (a : Act) (fuel : Nat),
    p.len ≤ fuel → Cl .any ops l → S w → Agr n a F ds → VPlan P ops.toList K X p S F w →
    (planOk ops true B p l = true → anyZ P .any ops (fun a' w' => ∃ F', Agr n a' F' ds ∧ K F' w') X B S fuel l a w) ∧
    (planOk ops false B p l = true → ∀ i ∈ p.idx, i ∈ Region.ready .any ops l → opZ P ops X i (fun a' w' => (hasB B (l.setIfInBounds i true) = false → S w') ∧ anyZ P .any ops (fun a' w' => ∃ F', Agr n a' F' ds ∧ K F' w') X B S (fuel - 1) (l.setIfInBounds i true) a' w') a w)
  | .done, B, l, S, F, w, a, fuel, hl, hCl, hS, hg, h => ⟨fun hk => anyZ_done (by simpa [planOk] using hk) ⟨F, hg, h⟩ fuel, fun hk => by simp [planOk] at hk⟩
  | .take i p, B, l, S, F, w, a, fuel, hl, hCl, hS, hg, h => ⟨fun hk => by
      simp only [planOk, Bool.true_and, Bool.and_eq_true] at hk
      obtain ⟨⟨⟨hr, hf⟩, hcase⟩, hp⟩ := hk
      have hCl' := hCl.set (i := i) (by simpa using hr)
      rw [Bool.or_eq_true, Bool.and_eq_true, Bool.and_eq_true] at hcase
      rw [VPlan_take] at h
      split at h
      · rename_i o hi
        have ho : ops[i]? = some o := by simpa using hi
        have hd := hwf o (List.mem_of_getElem? hi)
        have h := VGuard_sound hg h
        obtain ⟨fuel, rfl⟩ : ∃ f, fuel = f + 1 := ⟨fuel - 1, by simp [Plan.len] at hl; omega⟩
        have hl' : p.len ≤ fuel := by simp [Plan.len] at hl; omega
        rcases hcase with ⟨hpu, hniB⟩ | ⟨hnB, hall⟩
        · have hpo : pureOp o = true := by unfold pureAt at hpu; rw [ho] at hpu; exact hpu
          have hiB : i ∉ B := fun hm => by
            have : B.any (Nat.beq i) = true := List.any_eq_true.2 ⟨i, hm, Nat.beq_refl i⟩
            rw [this] at hniB; cases hniB
          by_cases hw : Region.wanted o (yielded ops a.tmps) = true
          · rw [if_pos hw] at h
            obtain ⟨v, hv, hk⟩ := VQuiet_pure hpo h
            rw [fv_eq] at hk
            rw [← hg.eval] at hv
            exact anyZ_takeP ho hsel hf hr hiB (.inl ⟨hw, hv⟩) hS ((VPlan_sound hwf hsel p B _ S _ w _ fuel hl' hCl' hS (hg.put hd v) hk).1 hp)
          · rw [if_neg hw] at h
            exact anyZ_takeP ho hsel hf hr hiB (.inr ⟨by simpa using hw, rfl⟩) hS ((VPlan_sound hwf hsel p B _ S _ w _ fuel hl' hCl' hS (hg.put hd undef) h).1 hp)
        · have hiB : ∀ b ∈ B, ∀ l, Cl .any ops l → b ∈ Region.ready .any ops l → l.getD i false = true := fun b hb l hc hbr => hasEdge_spec (List.all_eq_true.1 hall b hb) l hc hbr
          have hnB : hasB B l = false := by simpa using hnB
          by_cases hw : Region.wanted o (yielded ops a.tmps) = true
          · rw [if_pos hw] at h
            obtain ⟨v, hv, hk⟩ := VQuiet_sound h
            rw [fv_eq] at hk
            rw [← hg.eval] at hv
            exact anyZ_take ho hsel hf hr hiB hnB hCl (.inl ⟨hw, hv⟩) hS ((VPlan_sound hwf hsel p B _ S _ w _ fuel hl' hCl' hS (hg.put hd v) hk).1 hp)
          · rw [if_neg hw] at h
            exact anyZ_take ho hsel hf hr hiB hnB hCl (.inr ⟨by simpa using hw, rfl⟩) hS ((VPlan_sound hwf hsel p B _ S _ w _ fuel hl' hCl' hS (hg.put hd undef) h).1 hp)
      · exact h.elim, fun hk => by simp [planOk] at hk⟩
  | .eff i p, B, l, S, F, w, a, fuel, hl, hCl, hS, hg, h => by
      have hone : i ∈ Region.ready .any ops l → planOk ops true B p (l.setIfInBounds i true) = true → opZ P ops X i (fun a' w' => (hasB B (l.setIfInBounds i true) = false → S w') ∧ anyZ P .any ops (fun a' w' => ∃ F', Agr n a' F' ds ∧ K F' w') X B S (fuel - 1) (l.setIfInBounds i true) a' w') a w := fun hir hp => by
        rw [VPlan_eff] at h
        split at h
        · rename_i o hi
          have ho : ops[i]? = some o := by simpa using hi
          have hd := hwf o (List.mem_of_getElem? hi)
          have h := VGuard_sound hg h
          have hl' : p.len ≤ fuel - 1 := by simp [Plan.len] at hl; omega
          have fin : ∀ v w', StrP S w' (fun S' => VPlan P ops.toList K X p S' (updO F o.dst v) w') → (hasB B (l.setIfInBounds i true) = false → S w') ∧ anyZ P .any ops (fun a' w' => ∃ F', Agr n a' F' ds ∧ K F' w') X B S (fuel - 1) (l.setIfInBounds i true) (a.put o.dst v) w' := fun v w' hv => by
            rw [StrP_eq] at hv
            obtain ⟨S', h1, h2, h3⟩ := hv
            exact ⟨fun _ => h2 _ h1, anyZ_weak h2 _ _ _ _ ((VPlan_sound hwf hsel p B _ S' _ w' _ (fuel - 1) hl' (hCl.set hir) h1 (hg.put hd v) h3).1 hp)⟩
          unfold opZ
          simp only [ho]
          split
          · rename_i hw
            rw [if_pos hw] at h
            have h1 := VOp_sound h
            rw [← hg.eval] at h1
            exact h1.mono fun v w' hv => fin v w' (by rw [fv_eq] at hv; exact hv)
          · rename_i hw
            rw [if_neg hw] at h
            exact fin undef w h
        · exact h.elim
      refine ⟨fun hk => ?_, fun hk i' hi' hir' => ?_⟩
      · simp only [planOk, Bool.not_true, Bool.false_or, Bool.and_eq_true, beq_iff_eq] at hk
        obtain ⟨fuel, rfl⟩ : ∃ f, fuel = f + 1 := ⟨fuel - 1, by simp [Plan.len] at hl; omega⟩
        refine anyZ_all hk.1 (by simp) fun j hj => ?_
        obtain rfl : j = i := by simpa using hj
        exact hone (by rw [hk.1]; exact List.mem_cons_self) hk.2
      · simp only [planOk, Bool.not_false, Bool.true_or, Bool.true_and] at hk
        obtain rfl : i' = i := by simpa [Plan.idx] using hi'
        exact hone hir' hk
  | .alt i p q, B, l, S, F, w, a, fuel, hl, hCl, hS, hg, h => by
      rw [VPlan_alt] at h
      obtain ⟨h, hq⟩ := h
      have hlp : p.len + 1 ≤ fuel := by simp [Plan.len] at hl; omega
      have hlq : q.len ≤ fuel := by simp [Plan.len] at hl; omega
      have hone : i ∈ Region.ready .any ops l → planOk ops true B p (l.setIfInBounds i true) = true → opZ P ops X i (fun a' w' => (hasB B (l.setIfInBounds i true) = false → S w') ∧ anyZ P .any ops (fun a' w' => ∃ F', Agr n a' F' ds ∧ K F' w') X B S (fuel - 1) (l.setIfInBounds i true) a' w') a w := fun hir hp => by
        split at h
        · rename_i o hi
          have ho : ops[i]? = some o := by simpa using hi
          have hd := hwf o (List.mem_of_getElem? hi)
          have h := VGuard_sound hg h
          have hl' : p.len ≤ fuel - 1 := by omega
          have fin : ∀ v w', StrP S w' (fun S' => VPlan P ops.toList K X p S' (updO F o.dst v) w') → (hasB B (l.setIfInBounds i true) = false → S w') ∧ anyZ P .any ops (fun a' w' => ∃ F', Agr n a' F' ds ∧ K F' w') X B S (fuel - 1) (l.setIfInBounds i true) (a.put o.dst v) w' := fun v w' hv => by
            rw [StrP_eq] at hv
            obtain ⟨S', h1, h2, h3⟩ := hv
            exact ⟨fun _ => h2 _ h1, anyZ_weak h2 _ _ _ _ ((VPlan_sound hwf hsel p B _ S' _ w' _ (fuel - 1) hl' (hCl.set hir) h1 (hg.put hd v) h3).1 hp)⟩
          unfold opZ
          simp only [ho]
          split
          · rename_i hw
            rw [if_pos hw] at h
            have h1 := VOp_sound h
            rw [← hg.eval] at h1
            exact h1.mono fun v w' hv => fin v w' (by rw [fv_eq] at hv; exact hv)
          · rename_i hw
            rw [if_neg hw] at h
            exact fin undef w h
        · exact h.elim
      have hrest := (VPlan_sound hwf hsel q B l S F w a fuel hlq hCl hS hg hq).2
      refine ⟨fun hk => ?_, fun hk i' hi' hir' => ?_⟩
      · simp only [planOk, Bool.not_true, Bool.false_or, Bool.and_eq_true, beq_iff_eq] at hk
        obtain ⟨⟨h1, h2⟩, h3⟩ := hk
        obtain ⟨fuel, rfl⟩ : ∃ f, fuel = f + 1 := ⟨fuel - 1, by omega⟩
        refine anyZ_all h1 (by simp) fun j hj => ?_
        rcases List.mem_cons.1 hj with rfl | hj
        · exact hone (by rw [h1]; exact List.mem_cons_self) h2
        · exact hrest h3 j hj (by rw [h1]; exact List.mem_cons_of_mem _ hj)
      · simp only [planOk, Bool.not_false, Bool.true_or, Bool.true_and, Bool.and_eq_true] at hk
        rcases List.mem_cons.1 hi' with rfl | hj
        · exact hone hir' hk.1
        · exact hrest hk.2 i' hj hir'
  | .bar p, B, l, S, F, w, a, fuel, hl, hCl, hS, hg, h => ⟨fun hk => by
      simp only [planOk, Bool.true_and, Bool.and_eq_true] at hk
      obtain ⟨hall, hp⟩ := hk
      rw [VPlan_bar] at h
      obtain ⟨S', h1, h2⟩ := h
      refine anyZ_bar fuel l a w (fun i hi => ?_) ((VPlan_sound hwf hsel p [] l S' F w a fuel hl hCl h1 hg h2).1 hp)
      have hlt : i < l.size := by
        rcases Nat.lt_or_ge i l.size with h' | h'
        · exact h'
        · simp [Array.getElem?_eq_none h'] at hi
      have := List.all_eq_true.1 hall i (List.mem_range.2 hlt)
      rw [hi, Bool.false_or, List.any_eq_true] at this
      obtain ⟨x, hx, hxe⟩ := this
      rw [Nat.eq_of_beq_eq_true hxe]; exact hx, fun hk => by simp [planOk] at hk⟩
theorem exists_least {p : Nat → Prop} : ∀ n, p n → ∃ m, p m ∧ ∀ k, p k → m ≤ k := by
  intro n
  induction n using Nat.strongRecOn with
  | _ n ih =>
    intro hn
    by_cases h : ∃ k, k < n ∧ p k
    · obtain ⟨k, hk, hp⟩ := h; exact ih k hk hp
    · exact ⟨n, hn, fun k hk => Nat.le_of_not_lt fun hlt => h ⟨k, hlt, hk⟩⟩
open Classical in
noncomputable def leastN (p : Nat → Prop) : Nat := if h : ∃ n, p n then Classical.choose (exists_least h.choose h.choose_spec) else 0
theorem leastN_spec {p : Nat → Prop} (h : ∃ n, p n) : p (leastN p) := by
  unfold leastN; rw [dif_pos h]; exact (Classical.choose_spec (exists_least h.choose h.choose_spec)).1
theorem leastN_le {p : Nat → Prop} {n : Nat} (h : p n) : leastN p ≤ n := by
  have hx : ∃ n, p n := ⟨n, h⟩; unfold leastN; rw [dif_pos hx]; exact (Classical.choose_spec (exists_least hx.choose hx.choose_spec)).2 n h
theorem V_sound : ∀ (c : Code), wfC n c = true → ∀ (K : KK) (F : Fr) (ds : List Deferred) (w0 : World) (r : Option Nat) (a : Act), (r = none ∨ noRange c = true) → Agr n a F ds → V P c K F ds (z w0) → c.wpIn (Fw r) 0 P (KQ n K) a w0
  | .skip, _, K, F, ds, w0, r, a, hr, hg, h => wpIn_skip ⟨F, by obtain ⟨h1, h2, rfl⟩ := hg; exact ⟨⟨h1, h2, rfl⟩, h⟩⟩
  | .label _, _, K, F, ds, w0, r, a, hr, hg, h => wpIn_label ⟨F, by obtain ⟨h1, h2, rfl⟩ := hg; exact ⟨⟨h1, h2, rfl⟩, h⟩⟩
  | .exit _, _, K, F, ds, w0, r, a, hr, hg, h => wpIn_exit ⟨F, by obtain ⟨h1, h2, rfl⟩ := hg; exact ⟨⟨h1, h2, rfl⟩, h⟩⟩
  | .ret, _, K, F, ds, w0, r, a, hr, hg, h => wpIn_ret ⟨F, by obtain ⟨h1, h2, rfl⟩ := hg; exact ⟨⟨h1, h2, rfl⟩, h⟩⟩
  | .seq x y, hwf, K, F, ds, w0, r, a, hr, hg, h => by
    obtain ⟨hx, hy⟩ := bothT hwf
    refine wpIn_seq (wpIn_mono (V_sound x hx _ F ds w0 r a (hr.imp id fun h => (bothT h).1) hg h) fun e a' w' hq => ?_)
    obtain ⟨F', hg', hk⟩ := hq
    cases e with
    | normal => exact V_sound y hy K F' _ w' r a' (hr.imp id fun h => (bothT h).2) hg' hk
    | _ => exact ⟨F', hg', hk⟩
  | .cond c x y, hwf, K, F, ds, w0, r, a, hr, hg, h => by
    obtain ⟨hx, hy⟩ := bothT hwf
    rw [V_cond] at h
    split at h
    · rename_i ht
      exact wpIn_cond_split (t := true) (by rw [hg.eval]; exact ht) (fun e => V_sound x hx K F ds w0 r a (hr.imp id fun h => (bothT h).1) hg h) (fun e => by cases e)
    · rename_i ht
      exact wpIn_cond_split (t := false) (by rw [hg.eval]; exact ht) (fun e => by cases e) (fun e => V_sound y hy K F ds w0 r a (hr.imp id fun h => (bothT h).2) hg h)
    · exact h.elim
  | .block id c, hwf, K, F, ds, w0, r, a, hr, hg, h => by
    refine wpIn_block (wpIn_mono (V_sound c hwf _ F ds w0 r a hr hg h) fun e a' w' hq => ?_)
    obtain ⟨F', hg', hk⟩ := hq
    cases e with
    | exit i =>
      show if i = id then _ else _
      split
      · rename_i hi
        subst hi
        simp only [Nat.beq_refl, cond_true] at hk
        exact ⟨F', hg', hk⟩
      · rename_i hi
        have : Nat.beq i id = false := by
          cases hb : Nat.beq i id with
          | true => exact absurd (Nat.eq_of_beq_eq_true hb) hi
          | false => rfl
        simp only [this, cond_false] at hk
        exact ⟨F', hg', hk⟩
    | _ => exact ⟨F', hg', hk⟩
  | .region _ ops false, hwf, K, F, ds, w0, r, a, hr, hg, h => wpIn_region_list (VOps_sound (wfL_spec hwf) ops.toList F w0 a (fun _ ho => ho) hg (.refl _ _) h)
  | .region _ ops true, hwf, K, F, ds, w0, r, a, hr, hg, h => by
    rw [V_draw, DrawH_eq] at h
    obtain ⟨hm, p, B, S, hok, hS, hp⟩ := h
    unfold drawOk at hok
    obtain ⟨⟨h1, h2⟩, h3⟩ : (Region.noSelect ops = true ∧ planOk ops true B p (Array.replicate ops.size false) = true) ∧ Nat.ble p.len ops.size = true := by
      have := bothT hok; exact ⟨bothT this.1, this.2⟩
    refine wp_region_any (Inv := fun a' => ∃ F', Agr n a' F' ds ∧ Off (wr ops.toList) F F') (Q := fun a' w' => ∃ F', Agr n a' F' ds ∧ K .normal F' ds w') hm (fun a' o v ho ⟨F', g, hoff⟩ => ⟨updO F' o.dst v, g.put (wfL_spec hwf o ho) v, hoff.upd (fun j hj => wr_mem o ho j hj) v⟩) (fun a' w' hq => ?_) (fun ch a' w' ⟨F', ⟨i1, i2, i3⟩, hoff⟩ hx => ⟨F', by subst i3; exact ⟨⟨i1, i2, rfl⟩, hx F' hoff⟩⟩) ⟨F, hg, .refl _ _⟩ ((VPlan_sound (wfL_spec hwf) h1 p B _ S F _ a _ (Nat.le_of_ble_eq_true h3) (Cl.start _) hS hg hp).1 h2)
    obtain ⟨F', ⟨g1, g2, g3⟩, hk⟩ := hq
    subst g3
    exact ⟨F', ⟨g1, g2, rfl⟩, hk⟩
  | .loop c, hwf, K, F, ds, w0, r, a, hr, hg, h => by
    rw [V_loop, LoopH_eq] at h
    obtain ⟨I, ⟨n0, h0⟩, hs⟩ := h
    let J : Act → World → Nat → Prop := fun a' w' m => ∃ F' ds', Agr n a' F' ds' ∧ I m F' ds' (z w')
    refine wpIn_loop (fun a' w' => ∃ m, J a' w' m) (fun a' w' => leastN (J a' w')) ⟨n0, F, ds, hg, h0⟩ fun a1 w1 hex => ?_
    obtain ⟨F1, ds1, hg1, hi⟩ := leastN_spec hex
    refine wpIn_mono (V_sound c hwf _ F1 ds1 w1 r a1 hr hg1 (hs _ F1 ds1 (z w1) hi)) fun e a' w' hq => ?_
    obtain ⟨F', hg', hk⟩ := hq
    cases e with
    | normal =>
      obtain ⟨m, hm, hi'⟩ := hk
      exact ⟨⟨m, F', _, hg', hi'⟩, Nat.lt_of_le_of_lt (leastN_le ⟨F', _, hg', hi'⟩) hm⟩
    | _ => exact ⟨F', hg', hk⟩
  | .rangeFunc g ps as b, hwf, K, F, ds, w0, r, a, hr, hg, h => by
    rw [V_range, RangeH_eq] at h
    obtain rfl := hr.resolve_right (by simp [noRange])
    refine wpIn_mono (h a w0 rfl hg.2.1 hg.2.2 (by rw [hg.1]; exact hwf)) fun e a' w' ⟨h1, h2⟩ => ⟨F, ⟨by rw [h1]; exact hg.1, by rw [h1]; exact hg.2.1, rfl⟩, h2⟩
  | .scope _, _, _, _, _, _, _, _, _, _, h => h.elim
  | .goto _, _, _, _, _, _, _, _, _, _, h => h.elim
  | .refuse _, _, _, _, _, _, _, _, _, _, h => h.elim
def Holds (P : Program) (t : TypeId) (ad : Addr) (w : World) (v : Value) : Prop := ∀ w0, z w0 = w → (loadVar t ad).run P w0 = .ok v w0
structure ResLP (P : Program) (t : TypeId) (x : Value) (w : World) (K : Value → Prop) : Prop where
  of_ ::
  un_ : ∃ ad v, x = .pointer (some ad) ∧ Holds P t ad w v ∧ K v
theorem ResLP_eq {P : Program} {t : TypeId} {x : Value} {w : World} {K : Value → Prop} : ResLP P t x w K = (∃ ad v, x = .pointer (some ad) ∧ Holds P t ad w v ∧ K v) := propext ⟨fun h => h.un_, fun h => ⟨h⟩⟩
def VRes (P : Program) (F : Fr) (w : World) : List ResultVar → List Value → (List Value → Prop) → Prop
  | [], acc, K => K acc.reverse
  | .tmp t :: r, acc, K => VRes P F w r (F t :: acc) K
  | .cell t ty :: r, acc, K => ResLP P ty (F t) w (fun v => VRes P F w r (v :: acc) K)
def resV : List Value → Value
  | [v] => v
  | vs => .tuple vs.toArray
def shutMarks : List Deferred → World → Option World
  | [], w => some w
  | d :: ds, w => match d.target with
    | .collected r => match w.heap[r]? with
      | some (.deferred (some [])) => shutMarks ds { w with heap := w.heap.setIfInBounds r (.deferred none) }
      | _ => none
    | _ => none
structure RetP (P : Program) (rs : List ResultVar) (F : Fr) (ds : List Deferred) (R : VK) (w : World) : Prop where
  of_ ::
  un_ :
  ∃ w', shutMarks ds w = some w' ∧ VRes P F w' rs [] (fun vs => R (resV vs) w')
theorem RetP_eq {P : Program} {rs : List ResultVar} {F : Fr} {ds : List Deferred} {R : VK} {w : World} : RetP P rs F ds R w = (∃ w', shutMarks ds w = some w' ∧ VRes P F w' rs [] (fun vs => R (resV vs) w')) := propext ⟨fun h => h.un_, fun h => ⟨h⟩⟩
def Kend (P : Program) (rs : List ResultVar) (R : VK) : KK := fun e F ds w => match e with
  | .normal | .ret => RetP P rs F ds R w
  | _ => False
def KendX (P : Program) (rs : List ResultVar) (R : VK) (X : XK) : KK := fun e F ds w => match e with
  | .normal | .ret => RetP P rs F ds R w
  | .panic ch => ds = [] ∧ X ch w
  | _ => False
def init : List Value → Fr
  | [] => fun _ => undef
  | v :: r => fun j => match j with | 0 => v | j + 1 => init r j
theorem init_getD : ∀ (l : List Value) (j : Nat), init l j = l.getD j undef
  | [], j => by simp [init]
  | v :: r, 0 => rfl
  | v :: r, j + 1 => by simpa [init] using init_getD r j
theorem run_takeD {r : Nat} {w : World} (h : w.heap[r]? = some (.deferred (some []))) : (Instr.takeDeferred r).run P w = .ok [] { w with heap := w.heap.setIfInBounds r (.deferred none) } := by
  simp [Instr.takeDeferred, getObj, setObj, Sem.run, h, Bind.bind, Sem.bind]
def resItem (tmps : Array Value) : ResultVar → Sem Value
  | .tmp t => pure (tmps.getD t undef)
  | .cell ad t => do loadVar t (← asAddr (tmps.getD ad undef))
theorem VRes_sound {a : Act} {F : Fr} (hF : ∀ t, a.tmps.getD t undef = F t) {w0 : World} : ∀ (rs : List ResultVar) (acc : List Value) (K : List Value → Prop), VRes P F (z w0) rs acc K →
    ∃ vs, (rs.mapM (resItem a.tmps)).run P w0 = .ok vs w0 ∧ K (acc.reverse ++ vs)
  | [], acc, K, h => ⟨[], rfl, by simpa [VRes] using h⟩
  | .tmp t :: r, acc, K, h => by
    obtain ⟨vs, hr, hk⟩ := VRes_sound hF r _ K h
    refine ⟨F t :: vs, ?_, by simpa using hk⟩
    simp only [List.mapM_cons, Sem.run_bind, resItem, Sem.run_pure, Result.andThen_ok, hr]
    rw [hF]
  | .cell t ty :: r, acc, K, h => by
    unfold VRes at h; rw [ResLP_eq] at h
    obtain ⟨ad, v, hx, hv, hk⟩ := h
    obtain ⟨vs, hr, hk⟩ := VRes_sound hF r _ K hk
    refine ⟨v :: vs, ?_, by simpa using hk⟩
    have h1 := hv w0 rfl
    have h2 : (asAddr (a.tmps.getD t undef)).run P w0 = .ok ad w0 := by rw [hF, hx]; rfl
    simp only [List.mapM_cons, Sem.run_bind, resItem, h2, Sem.run_pure, Result.andThen_ok, h1, hr]
theorem results_run {fn : Func} {a : Act} {vs : List Value} {w0 : World} (h : (fn.results.toList.mapM (resItem a.tmps)).run P w0 = .ok vs w0) :
    (results fn a.tmps).run P w0 = .ok (resV vs) w0 := by
  have e : results fn a.tmps = (do let vs ← fn.results.mapM (resItem a.tmps); pure (if h : vs.size = 1 then vs[0] else .tuple vs)) := by
    unfold results
    congr 1
  rw [e, Sem.run_bind, Array.mapM_eq_mapM_toList, Sem.run_map, h]; simp only [Result.andThen_ok]
  cases vs with
  | nil => rfl
  | cons v r => cases r <;> rfl
theorem leaves_soundG {fn : Func} {a : Act} {R : VK} {R2 : Ending → World → Prop} {F : Fr} (hR : ∀ v w, R v (z w) → R2 (.returned v) w) (hF : ∀ t, a.tmps.getD t undef = F t) : ∀ (ds : List Deferred) (w0 w' : World), shutMarks ds (z w0) = some w' →
    VRes P F w' fn.results.toList [] (fun vs => R (resV vs) w') → LeavesInM Fence.wide 0 P fn a.tmps R2 ds .returning w0
  | [], w0, w', hs, h => by
    have e : w' = z w0 := by simpa [shutMarks] using hs.symm
    subst e
    obtain ⟨vs, hr, hk⟩ := VRes_sound hF fn.results.toList [] _ h
    exact ⟨resV vs, results_run hr, hR _ _ (by simpa using hk)⟩
  | d :: ds, w0, w', hs, h => by
    unfold shutMarks at hs
    split at hs
    · rename_i r ht
      split at hs
      · rename_i hb
        refine ⟨by simp, .inl ⟨r, _, ht, run_takeD hb, ?_⟩⟩
        exact leaves_soundG hR hF ds _ w' hs h
      · cases hs
    · cases hs
def body (f : Func) : Code := match f.body with | some c => c | none => .skip
def fnOk (fn : Func) (k : Nat) : Bool := wfC fn.ntmps (body fn) && fn.body.isSome && Nat.ble k fn.ntmps
def CallX (P : Program) (f : FuncId) (args : Array Value) (w : World) (R : VK) (X : XK) : Prop :=
  ∀ w0, z w0 = w → CallsIn Fence.wide 0 P f args w0 (fun e w' => match e with | .returned v => R v (z w') | .panicked ch => X ch (z w') | .outgrown => False)
theorem CallZ.x {f : FuncId} {args : Array Value} {w : World} {R : VK} {X : XK} (h : CallZ P f args w R) : CallX P f args w R X :=
  fun w0 hw => (h w0 hw).mono fun _ _ ⟨v, he, hv⟩ => by subst he; exact hv
theorem CallX.mono {f : FuncId} {args : Array Value} {w : World} {R R' : VK} {X X' : XK} (h : CallX P f args w R X) (hr : ∀ v w', R v w' → R' v w') (hx : ∀ ch w', X ch w' → X' ch w') : CallX P f args w R' X' :=
  fun w0 hw => (h w0 hw).mono fun e _ he => by
    cases e with
    | returned v => exact hr _ _ he
    | panicked ch => exact hx _ _ he
    | outgrown => exact he
theorem fn_rule {f : FuncId} {fn : Func} {args : List Value} {w : World} {R : VK} (hf : P.funcs[f]? = some fn) (hok : fnOk fn args.length = true)
    (h : V P (body fn) (Kend P fn.results.toList R) (init args) [] w) : CallZ P f args.toArray w R := by
  unfold fnOk at hok
  obtain ⟨⟨hwf, hs⟩, hle⟩ : (wfC fn.ntmps (body fn) = true ∧ fn.body.isSome = true) ∧ Nat.ble args.length fn.ntmps = true := by
    have := bothT hok; exact ⟨bothT this.1, this.2⟩
  have hle := Nat.le_of_ble_eq_true hle; obtain ⟨c, hc⟩ := Option.isSome_iff_exists.1 hs
  have hb : body fn = c := by simp [body, hc]
  rw [hb] at h hwf; intro w0 hw; subst hw
  have hg : Agr fn.ntmps { tmps := args.toArray ++ Array.replicate (fn.ntmps - args.toArray.size) undef, defers := [] } (init args) [] := by
    refine ⟨by simp; omega, fun t => ?_, rfl⟩; rw [init_getD]; simp only [Array.getD_eq_getD_getElem?, List.getD_eq_getElem?_getD]
    by_cases ht : t < args.length
    · rw [Array.getElem?_append_left (by simpa using ht)]; simp
    · rw [Array.getElem?_append_right (by simp; omega), List.getElem?_eq_none (by omega)]; simp only [List.size_toArray, Array.getElem?_replicate]
      split <;> rfl
  refine callsIn_of_wp_marks (F := Fence.wide) hf hc trivial (wpIn_mono (V_sound (r := none) c hwf _ _ [] w0 _ (.inl rfl) hg h) fun e a' w' hq => ?_); obtain ⟨F', hg', hk⟩ := hq
  cases e with
  | normal =>
    unfold Kend at hk; rw [RetP_eq] at hk; obtain ⟨w2, h1, h2⟩ := hk; exact leaves_soundG (R := R) (fun v _ h => ⟨v, rfl, h⟩) hg'.2.1 _ _ _ h1 h2
  | ret =>
    unfold Kend at hk; rw [RetP_eq] at hk; obtain ⟨w2, h1, h2⟩ := hk; exact leaves_soundG (R := R) (fun v _ h => ⟨v, rfl, h⟩) hg'.2.1 _ _ _ h1 h2
  | _ => exact hk.elim
theorem fn_ruleX {f : FuncId} {fn : Func} {args : List Value} {w : World} {R : VK} {X : XK} (hf : P.funcs[f]? = some fn) (hok : fnOk fn args.length = true)
    (h : V P (body fn) (KendX P fn.results.toList R X) (init args) [] w) : CallX P f args.toArray w R X := by
  unfold fnOk at hok
  obtain ⟨⟨hwf, hs⟩, hle⟩ : (wfC fn.ntmps (body fn) = true ∧ fn.body.isSome = true) ∧ Nat.ble args.length fn.ntmps = true := by
    have := bothT hok; exact ⟨bothT this.1, this.2⟩
  have hle := Nat.le_of_ble_eq_true hle; obtain ⟨c, hc⟩ := Option.isSome_iff_exists.1 hs
  have hb : body fn = c := by simp [body, hc]
  rw [hb] at h hwf; intro w0 hw; subst hw
  have hg : Agr fn.ntmps { tmps := args.toArray ++ Array.replicate (fn.ntmps - args.toArray.size) undef, defers := [] } (init args) [] := by
    refine ⟨by simp; omega, fun t => ?_, rfl⟩; rw [init_getD]; simp only [Array.getD_eq_getD_getElem?, List.getD_eq_getElem?_getD]
    by_cases ht : t < args.length
    · rw [Array.getElem?_append_left (by simpa using ht)]; simp
    · rw [Array.getElem?_append_right (by simp; omega), List.getElem?_eq_none (by omega)]; simp only [List.size_toArray, Array.getElem?_replicate]
      split <;> rfl
  refine callsIn_of_wp_marks (F := Fence.wide) hf hc trivial (wpIn_mono (V_sound (r := none) c hwf _ _ [] w0 _ (.inl rfl) hg h) fun e a' w' hq => ?_); obtain ⟨F', hg', hk⟩ := hq
  cases e with
  | normal =>
    unfold KendX at hk; rw [RetP_eq] at hk; obtain ⟨w2, h1, h2⟩ := hk; exact leaves_soundG (R := R) (fun _ _ h => h) hg'.2.1 _ _ _ h1 h2
  | ret =>
    unfold KendX at hk; rw [RetP_eq] at hk; obtain ⟨w2, h1, h2⟩ := hk; exact leaves_soundG (R := R) (fun _ _ h => h) hg'.2.1 _ _ _ h1 h2
  | panic ch =>
    obtain ⟨hd, hx⟩ := hk; show LeavesInM Fence.wide 0 P fn a'.tmps _ a'.defers (.panicking ch) w'; rw [hd]; exact hx
  | _ => exact hk.elim
def Has (F : Fr) : List (Nat × Value) → Prop
  | [] => True
  | p :: r => F p.1 = p.2 ∧ Has F r
def mix (W : List Nat) (F G : Fr) : Fr := fun j => bif memN j W then G j else F j
def upds : List (Nat × Value) → Fr → Fr
  | [], F => F
  | p :: r, F => upd (upds r F) p.1 p.2
theorem upds_has {F : Fr} : ∀ {l : List (Nat × Value)}, Has F l → upds l F = F
  | [], _ => rfl
  | p :: r, ⟨h1, h2⟩ => by
    unfold upds
    rw [upds_has h2]
    funext j
    show (bif Nat.beq j p.1 then p.2 else F j) = F j
    cases hb : Nat.beq j p.1 with
    | true => rw [Nat.eq_of_beq_eq_true hb, h1]; rfl
    | false => rfl
structure NextP {σ : Type} (enc : σ → List (Nat × Value)) (I : σ → World → Prop) (μ : σ → World → Nat) (m : Nat) (F : Fr) (w : World) : Prop where
  of_ ::
  un_ : ∃ s, Has F (enc s) ∧ I s w ∧ μ s w < m
theorem NextP_eq {σ : Type} {enc : σ → List (Nat × Value)} {I : σ → World → Prop} {μ : σ → World → Nat} {m : Nat} {F : Fr} {w : World} : NextP enc I μ m F w = (∃ s, Has F (enc s) ∧ I s w ∧ μ s w < m) := propext ⟨fun h => h.un_, fun h => ⟨h⟩⟩
theorem next {σ : Type} {enc : σ → List (Nat × Value)} {I : σ → World → Prop} {μ : σ → World → Nat} {m : Nat} {F : Fr} {w : World} (s : σ) (h : Has F (enc s)) (hi : I s w) (hm : μ s w < m) : NextP enc I μ m F w := by
  rw [NextP_eq]; exact ⟨s, h, hi, hm⟩
theorem loop_rule {c : Code} {K : KK} {F0 : Fr} {ds : List Deferred} {w0 : World} {σ : Type} (enc : σ → List (Nat × Value)) (I : σ → World → Prop) (μ : σ → World → Nat)
    (s0 : σ) (h0 : Has F0 (enc s0)) (hI : I s0 w0) (hr : noRange c = true := by rfl)
    (step : ∀ (G : Fr) (s : σ) (w : World), I s w →
      V P c (fun e F' _ w' => match e with | .normal => NextP enc I μ (μ s w) F' w' | e => K e F' ds w') (upds (enc s) (mix (writes c) F0 G)) ds w) :
    LoopH c (V P c) K F0 ds w0 := by
  rw [LoopH_eq]; refine ⟨fun n F ds' w => ds' = ds ∧ Off (writes c) F0 F ∧ ∃ s, Has F (enc s) ∧ I s w ∧ μ s w = n, ⟨_, rfl, .refl _ _, s0, h0, hI, rfl⟩, ?_⟩; rintro n F ds' w ⟨rfl, hf, s, hs, hi, rfl⟩
  have hm : mix (writes c) F0 F = F := funext fun j => by
    show (bif memN j (writes c) then F j else F0 j) = F j
    cases hb : memN j (writes c) with
    | true => rfl
    | false => exact (hf j hb).symm
  have h1 := step F s w hi; rw [hm, upds_has hs] at h1; refine V_mf c _ _ F ds' w (fun e F' ds'' w' hf' hd h => ?_) h1
  cases e with
  | normal =>
    have h : NextP enc I μ (μ s w) F' w' := h; rw [NextP_eq] at h; obtain ⟨s', a1, a2, a3⟩ := h; exact ⟨_, a3, hd hr, hf.trans (hf' (fun _ e => by cases e)), s', a1, a2, rfl⟩
  | _ =>
    rw [hd hr]; exact h
structure Next2P {α β : Type} (enc : α → β → List (Nat × Value)) (I : α → β → World → Prop) (μ : α → β → World → Nat) (m : Nat) (F : Fr) (w : World) : Prop where
  of_ ::
  un_ : ∃ (a : α) (b : β), Has F (enc a b) ∧ I a b w ∧ μ a b w < m
theorem Next2P_eq {α β : Type} {enc : α → β → List (Nat × Value)} {I : α → β → World → Prop} {μ : α → β → World → Nat} {m : Nat} {F : Fr} {w : World} : Next2P enc I μ m F w = (∃ (a : α) (b : β), Has F (enc a b) ∧ I a b w ∧ μ a b w < m) := propext ⟨fun h => h.un_, fun h => ⟨h⟩⟩
theorem next2 {α β : Type} {enc : α → β → List (Nat × Value)} {I : α → β → World → Prop} {μ : α → β → World → Nat} {m : Nat} {F : Fr} {w : World} (a : α) (b : β) (h : Has F (enc a b)) (hi : I a b w) (hm : μ a b w < m) : Next2P enc I μ m F w := by
  rw [Next2P_eq]; exact ⟨a, b, h, hi, hm⟩
theorem loop2 {c : Code} {K : KK} {F0 : Fr} {ds : List Deferred} {w0 : World} {α β : Type} (enc : α → β → List (Nat × Value)) (I : α → β → World → Prop) (μ : α → β → World → Nat)
    (a0 : α) (b0 : β) (h0 : Has F0 (enc a0 b0)) (hI : I a0 b0 w0) (hr : noRange c = true := by rfl)
    (step : ∀ (G : Fr) (a : α) (b : β) (w : World), I a b w → V P c (fun e F' _ w' => match e with | .normal => Next2P enc I μ (μ a b w) F' w' | e => K e F' ds w') (upds (enc a b) (mix (writes c) F0 G)) ds w) :
    LoopH c (V P c) K F0 ds w0 := by
  refine loop_rule (fun s : α × β => enc s.1 s.2) (fun s => I s.1 s.2) (fun s => μ s.1 s.2) (a0, b0) h0 hI hr fun G s w hi => V_mf c _ _ _ ds w (fun e F' ds' w' _ _ h => ?_) (step G s.1 s.2 w hi)
  cases e with
  | normal =>
    have h : Next2P enc I μ (μ s.1 s.2 w) F' w' := h; rw [Next2P_eq] at h; obtain ⟨a, b, h1, h2, h3⟩ := h; exact next (μ := fun s : α × β => μ s.1 s.2) (a, b) h1 h2 h3
  | _ => exact h
structure Next3P {α β γ : Type} (enc : α → β → γ → List (Nat × Value)) (I : α → β → γ → World → Prop) (μ : α → β → γ → World → Nat) (m : Nat) (F : Fr) (w : World) : Prop where
  of_ ::
  un_ : ∃ (a : α) (b : β) (x : γ), Has F (enc a b x) ∧ I a b x w ∧ μ a b x w < m
theorem Next3P_eq {α β γ : Type} {enc : α → β → γ → List (Nat × Value)} {I : α → β → γ → World → Prop} {μ : α → β → γ → World → Nat} {m : Nat} {F : Fr} {w : World} : Next3P enc I μ m F w = (∃ (a : α) (b : β) (x : γ), Has F (enc a b x) ∧ I a b x w ∧ μ a b x w < m) := propext ⟨fun h => h.un_, fun h => ⟨h⟩⟩
theorem next3 {α β γ : Type} {enc : α → β → γ → List (Nat × Value)} {I : α → β → γ → World → Prop} {μ : α → β → γ → World → Nat} {m : Nat} {F : Fr} {w : World} (a : α) (b : β) (x : γ) (h : Has F (enc a b x)) (hi : I a b x w) (hm : μ a b x w < m) : Next3P enc I μ m F w := by
  rw [Next3P_eq]; exact ⟨a, b, x, h, hi, hm⟩
theorem loop3 {c : Code} {K : KK} {F0 : Fr} {ds : List Deferred} {w0 : World} {α β γ : Type} (enc : α → β → γ → List (Nat × Value)) (I : α → β → γ → World → Prop) (μ : α → β → γ → World → Nat)
    (a0 : α) (b0 : β) (x0 : γ) (h0 : Has F0 (enc a0 b0 x0)) (hI : I a0 b0 x0 w0) (hr : noRange c = true := by rfl)
    (step : ∀ (G : Fr) (a : α) (b : β) (x : γ) (w : World), I a b x w → V P c (fun e F' _ w' => match e with | .normal => Next3P enc I μ (μ a b x w) F' w' | e => K e F' ds w') (upds (enc a b x) (mix (writes c) F0 G)) ds w) :
    LoopH c (V P c) K F0 ds w0 := by
  refine loop_rule (fun s : α × β × γ => enc s.1 s.2.1 s.2.2) (fun s => I s.1 s.2.1 s.2.2) (fun s => μ s.1 s.2.1 s.2.2) (a0, b0, x0) h0 hI hr fun G s w hi => V_mf c _ _ _ ds w (fun e F' ds' w' _ _ h => ?_) (step G s.1 s.2.1 s.2.2 w hi)
  cases e with
  | normal =>
    have h : Next3P enc I μ (μ s.1 s.2.1 s.2.2 w) F' w' := h; rw [Next3P_eq] at h; obtain ⟨a, b, x, h1, h2, h3⟩ := h; exact next (μ := fun s : α × β × γ => μ s.1 s.2.1 s.2.2) (a, b, x) h1 h2 h3
  | _ => exact h
structure Next4P {α β γ δ : Type} (enc : α → β → γ → δ → List (Nat × Value)) (I : α → β → γ → δ → World → Prop) (μ : α → β → γ → δ → World → Nat) (m : Nat) (F : Fr) (w : World) : Prop where
  of_ ::
  un_ : ∃ (a : α) (b : β) (x : γ) (y : δ), Has F (enc a b x y) ∧ I a b x y w ∧ μ a b x y w < m
theorem Next4P_eq {α β γ δ : Type} {enc : α → β → γ → δ → List (Nat × Value)} {I : α → β → γ → δ → World → Prop} {μ : α → β → γ → δ → World → Nat} {m : Nat} {F : Fr} {w : World} : Next4P enc I μ m F w = (∃ (a : α) (b : β) (x : γ) (y : δ), Has F (enc a b x y) ∧ I a b x y w ∧ μ a b x y w < m) := propext ⟨fun h => h.un_, fun h => ⟨h⟩⟩
theorem next4 {α β γ δ : Type} {enc : α → β → γ → δ → List (Nat × Value)} {I : α → β → γ → δ → World → Prop} {μ : α → β → γ → δ → World → Nat} {m : Nat} {F : Fr} {w : World} (a : α) (b : β) (x : γ) (y : δ) (h : Has F (enc a b x y)) (hi : I a b x y w) (hm : μ a b x y w < m) : Next4P enc I μ m F w := by
  rw [Next4P_eq]; exact ⟨a, b, x, y, h, hi, hm⟩
theorem loop4 {c : Code} {K : KK} {F0 : Fr} {ds : List Deferred} {w0 : World} {α β γ δ : Type} (enc : α → β → γ → δ → List (Nat × Value)) (I : α → β → γ → δ → World → Prop) (μ : α → β → γ → δ → World → Nat)
    (a0 : α) (b0 : β) (x0 : γ) (y0 : δ) (h0 : Has F0 (enc a0 b0 x0 y0)) (hI : I a0 b0 x0 y0 w0) (hr : noRange c = true := by rfl)
    (step : ∀ (G : Fr) (a : α) (b : β) (x : γ) (y : δ) (w : World), I a b x y w → V P c (fun e F' _ w' => match e with | .normal => Next4P enc I μ (μ a b x y w) F' w' | e => K e F' ds w') (upds (enc a b x y) (mix (writes c) F0 G)) ds w) :
    LoopH c (V P c) K F0 ds w0 := by
  refine loop_rule (fun s : α × β × γ × δ => enc s.1 s.2.1 s.2.2.1 s.2.2.2) (fun s => I s.1 s.2.1 s.2.2.1 s.2.2.2) (fun s => μ s.1 s.2.1 s.2.2.1 s.2.2.2) (a0, b0, x0, y0) h0 hI hr fun G s w hi => V_mf c _ _ _ ds w (fun e F' ds' w' _ _ h => ?_) (step G s.1 s.2.1 s.2.2.1 s.2.2.2 w hi)
  cases e with
  | normal =>
    have h : Next4P enc I μ (μ s.1 s.2.1 s.2.2.1 s.2.2.2 w) F' w' := h; rw [Next4P_eq] at h; obtain ⟨a, b, x, y, h1, h2, h3⟩ := h; exact next (μ := fun s : α × β × γ × δ => μ s.1 s.2.1 s.2.2.1 s.2.2.2) (a, b, x, y) h1 h2 h3
  | _ => exact h
end
end Go.Proofs.YtehcphboliofaaaGreatDoor
namespace Go.Proofs.YtehcphboliofaaaGreatDoor
open Go Go.RowKit
abbrev ad (b o : Nat) : Addr := ⟨b, o, none⟩
theorem add_ad (b o n : Nat) : (ad b o).add n = ad b (o + n) := by
  unfold Addr.add; split
  · rename_i h; subst h; rfl
  · rfl
structure Kept (D : Nat → Prop) (w w' : World) : Prop where
  os : w'.os = w.os
  tape : w'.tape = w.tape
  output : w'.output = w.output
  size : w.heap.size ≤ w'.heap.size
  blk : ∀ i, i < w.heap.size → D i → w'.heap[i]? = w.heap[i]?
abbrev Ext (w w' : World) : Prop := Kept (fun _ => True) w w'
theorem Kept.refl (D : Nat → Prop) (w : World) : Kept D w w := ⟨rfl, rfl, rfl, Nat.le_refl _, fun _ _ _ => rfl⟩
theorem Kept.weak {D D' : Nat → Prop} {w w' : World} (h : Kept D w w') (hd : ∀ i, i < w.heap.size → D' i → D i) : Kept D' w w' := ⟨h.os, h.tape, h.output, h.size, fun i hi hD => h.blk i hi (hd i hi hD)⟩
theorem Kept.trans {D : Nat → Prop} {a b c : World} (h : Kept D a b) (k : Kept D b c) : Kept D a c :=
  ⟨k.os.trans h.os, k.tape.trans h.tape, k.output.trans h.output, Nat.le_trans h.size k.size, fun i hi hD => (k.blk i (Nat.lt_of_lt_of_le hi h.size) hD).trans (h.blk i hi hD)⟩
theorem Kept.then {D D' : Nat → Prop} {a b c : World} (h : Kept D a b) (k : Kept D' b c) (hd : ∀ i, i < a.heap.size → D i → D' i) : Kept D a c :=
  ⟨k.os.trans h.os, k.tape.trans h.tape, k.output.trans h.output, Nat.le_trans h.size k.size, fun i hi hD => (k.blk i (Nat.lt_of_lt_of_le hi h.size) (hd i hi hD)).trans (h.blk i hi hD)⟩
theorem Kept.ext {D : Nat → Prop} {a b c : World} (h : Kept D a b) (k : Ext b c) : Kept D a c := h.then k fun _ _ _ => trivial
theorem Ext.any {D : Nat → Prop} {a b : World} (h : Ext a b) : Kept D a b := h.weak fun _ _ _ => trivial
theorem Kept.alloc (D : Nat → Prop) (w : World) (o : Obj) : Kept D w (w.alloc o) := ⟨rfl, rfl, rfl, by simp, fun i hi _ => Below.heap_alloc w o i hi⟩
theorem Kept.setCell (w : World) (a : Addr) (v : Value) : Kept (fun b => b ≠ a.block) w (w.setCell a v) :=
  ⟨rfl, rfl, rfl, by simp [World.setCell], fun i _ hD => Below.heap_setCell w a v i hD⟩
theorem Kept.cell {D : Nat → Prop} {w w' : World} (h : Kept D w w') {a : Addr} {v : Value} (hc : w.cell? a = some v) (hD : D a.block) : w'.cell? a = some v := by
  have hlt := World.block_lt_of_cell? w a hc; rw [World.cell?_of_block (h.blk a.block hlt hD)]; exact hc
def Blk (w : World) (g : Nat) (t : TypeId) (cs : List Value) : Prop := w.heap[g]? = some (.cells cs.toArray t (0, 0))
theorem Blk.lt {w : World} {g : Nat} {t : TypeId} {cs : List Value} (h : Blk w g t cs) : g < w.heap.size := (Array.getElem?_eq_some_iff.1 h).1
theorem Blk.cell {w : World} {g : Nat} {t : TypeId} {cs : List Value} (h : Blk w g t cs) {i : Nat} {v : Value} (hv : cs[i]? = some v) : w.cell? (ad g i) = some v := by
  unfold Blk at h; simp [World.cell?, h, hv]
theorem Blk.frozen {w : World} {g : Nat} {t : TypeId} {cs : List Value} (h : Blk w g t cs) (i : Nat) : w.frozen? (ad g i) = false := by
  unfold Blk at h; simp [World.frozen?, h]
theorem Blk.new (w : World) (t : TypeId) (cs : List Value) : Blk (w.alloc (.cells cs.toArray t)) w.heap.size t cs := by
  unfold Blk World.alloc; simp
theorem Blk.kept {D : Nat → Prop} {w w' : World} {g : Nat} {t : TypeId} {cs : List Value} (h : Blk w g t cs) (k : Kept D w w') (hD : D g) : Blk w' g t cs := (k.blk g h.lt hD).trans h
theorem Blk.ext {w w' : World} {g : Nat} {t : TypeId} {cs : List Value} (h : Blk w g t cs) (k : Ext w w') : Blk w' g t cs := h.kept k trivial
theorem Blk.set {w : World} {g : Nat} {t : TypeId} {cs : List Value} (h : Blk w g t cs) (i : Nat) (v : Value) : Blk (w.setCell (ad g i) v) g t (cs.set i v) := by
  unfold Blk at *; simp [World.setCell, Array.getElem?_modify, h]
theorem Blk.uniq {w : World} {g : Nat} {t t' : TypeId} {cs cs' : List Value} (h : Blk w g t cs) (h' : Blk w g t' cs') : t = t' ∧ cs = cs' := by
  unfold Blk at *; rw [h] at h'; injection h' with h'; injection h' with h1 h2; exact ⟨h2, by simpa using h1⟩
def oneCell (P : Program) (t : TypeId) : Bool := match P.underlying t with | some (.struct _) | some (.array _ _) | none => false | _ => true
class CellTy (P : Program) (t : TypeId) : Prop where h : oneCell P t = true
def aggSize (P : Program) (t : TypeId) : Option Nat := match P.underlying t with | some (.struct _) | some (.array _ _) => (P.info? t).map (·.size) | _ => none
class AggTy (P : Program) (t : TypeId) (n : outParam Nat) : Prop where h : aggSize P t = some n
def sliceOf (P : Program) (t : TypeId) : Option (TypeId × Nat) := match P.underlying t with | some (.slice e) => (P.info? e).map fun i => (e, i.size) | _ => none
class SliceTy (P : Program) (t : TypeId) (e : outParam TypeId) (sz : outParam Nat) : Prop where h : sliceOf P t = some (e, sz)
def fldOff (P : Program) (s : TypeId) (f : Nat) : Option (TypeId × Nat) := match P.underlying s with
  | some (.struct fs) => match fs[f]? with | some fd => (match P.info? fd.type with | some i => if i.size = 0 then none else some (fd.type, fd.offset) | none => none) | none => none
  | _ => none
class FldTy (P : Program) (s : TypeId) (f : Nat) (t : outParam TypeId) (o : outParam Nat) : Prop where h : fldOff P s f = some (t, o)
def zeroOf (P : Program) (t : TypeId) : Option Value := (P.info? t).bind (·.zero)
class ZeroTy (P : Program) (t : TypeId) (zv : outParam Value) : Prop where h : zeroOf P t = some zv
def bytesOf (P : Program) (t : TypeId) : Option Nat := (P.info? t).map (·.bytes)
class BytesTy (P : Program) (t : TypeId) (n : outParam Nat) : Prop where h : bytesOf P t = some n
def intOf (P : Program) (t : TypeId) : Option IntKind := match P.underlying t with | some (.int k) => some k | _ => none
class IntTy (P : Program) (t : TypeId) (k : outParam IntKind) : Prop where h : intOf P t = some k
def isStr (P : Program) (t : TypeId) : Bool := match P.underlying t with | some .string => true | _ => false
class StrTy (P : Program) (t : TypeId) : Prop where h : isStr P t = true
class Enters (P : Program) (f : FuncId) : Prop where h : ∀ args w, (callFunc f args).run P w = .ok (.enter f args) w
theorem Enters.of {P : Program} {f : FuncId} {fn : Func} (hf : P.funcs[f]? = some fn) (hname : (fn.name == "runtime.NumGoroutine") = false) (hb : fn.body.isSome = true) : Enters P f :=
  ⟨fun args w => by
    have h1 : fn.name ≠ "runtime.NumGoroutine" := by simpa using hname
    obtain ⟨c, hc⟩ := Option.isSome_iff_exists.1 hb
    simp [callFunc, hf, h1, hc]⟩
section
variable {P : Program} {X : XK}
theorem CellTy.und {t : TypeId} (h : CellTy P t) : ∃ d, P.underlying t = some d ∧ (match d with | .struct _ | .array _ _ => true | _ => false) = false := by
  have := h.h; unfold oneCell at this
  cases hd : P.underlying t with
  | none => rw [hd] at this; cases this
  | some d => refine ⟨d, rfl, ?_⟩; rw [hd] at this; cases d <;> first | rfl | cases this
theorem run_isAgg_cell {t : TypeId} (h : CellTy P t) (w : World) : (isAgg t).run P w = .ok false w := by
  obtain ⟨d, hd, he⟩ := h.und; unfold isAgg; rw [Sem.run_bind, run_underlying hd]
  cases d <;> first | rfl | cases he
theorem aggSize_spec {t : TypeId} {n : Nat} (h : aggSize P t = some n) : (∃ d, P.underlying t = some d ∧ (match d with | .struct _ | .array _ _ => true | _ => false) = true) ∧ ∃ i, P.info? t = some i ∧ i.size = n := by
  unfold aggSize at h
  split at h
  · rename_i fs hd; exact ⟨⟨_, hd, rfl⟩, by cases hi : P.info? t <;> simp_all⟩
  · rename_i l e hd; exact ⟨⟨_, hd, rfl⟩, by cases hi : P.info? t <;> simp_all⟩
  · cases h
theorem run_isAgg_agg {t : TypeId} {n : Nat} (h : aggSize P t = some n) (w : World) : (isAgg t).run P w = .ok true w := by
  obtain ⟨⟨d, hd, he⟩, _⟩ := aggSize_spec h; unfold isAgg; rw [Sem.run_bind, run_underlying hd]
  cases d <;> first | rfl | cases he
theorem run_sizeOf {t : TypeId} {i : TypeInfo} (h : P.info? t = some i) (w : World) : (sizeOf t).run P w = .ok i.size w := by
  simp [sizeOf, typeInfo, h]
def CellsAt (w : World) (b o : Nat) (cs : List Value) : Prop := ∀ j v, cs[j]? = some v → w.cell? (ad b (o + j)) = some v
theorem CellsAt.kept {D : Nat → Prop} {w w' : World} {b o : Nat} {cs : List Value} (h : CellsAt w b o cs) (k : Kept D w w') (hD : D b) : CellsAt w' b o cs := fun j v hv => k.cell (h j v hv) hD
theorem CellsAt.app {w : World} {b o : Nat} {xs ys : List Value} (h : CellsAt w b o (xs ++ ys)) : CellsAt w b o xs ∧ CellsAt w b (o + xs.length) ys :=
  ⟨fun j v hv => h j v (by rw [List.getElem?_append_left (by have := (List.getElem?_eq_some_iff.1 hv).1; exact this)]; exact hv),
   fun j v hv => by have := h (xs.length + j) v (by rw [List.getElem?_append_right (by omega)]; simpa using hv); rwa [← Nat.add_assoc] at this⟩
theorem run_loadCells {w : World} {b : Nat} : ∀ (cs : List Value) (o i : Nat) (acc : Array Value), (∀ j v, cs[j]? = some v → w.cell? (ad b (o + (i + j))) = some v) →
    (loadCellsFrom (ad b o) i cs.length acc).run P w = .ok (acc ++ cs.toArray) w
  | [], o, i, acc, _ => by simp [loadCellsFrom]
  | c :: cs, o, i, acc, h => by
    have h0 := h 0 c rfl
    have ih := run_loadCells cs o (i + 1) (acc.push c) (fun j v hv => by have := h (j + 1) v hv; rwa [show i + (j + 1) = i + 1 + j from by omega] at this)
    simp only [List.length_cons, loadCellsFrom, Sem.run_bind, run_load, add_ad]
    rw [show o + i = o + (i + 0) from rfl, h0]
    simp only [Result.andThen_ok, ih]
    simp
theorem holds_cell {t : TypeId} [h : CellTy P t] {w : World} {a : Addr} {v : Value} (hc : w.cell? a = some v) : Holds P t a w v := fun w0 hw => by
  subst hw
  have hc : w0.cell? a = some v := hc
  unfold loadVar
  rw [Sem.run_bind, run_isAgg_cell h]
  simp [hc]
theorem holds_agg {t : TypeId} {n : Nat} [h : AggTy P t n] {w : World} {b o : Nat} {cs : List Value} (hc : CellsAt w b o cs) (hn : cs.length = n) : Holds P t (ad b o) w (.agg cs.toArray) := fun w0 hw => by
  subst hw
  obtain ⟨_, i, hi, hs⟩ := aggSize_spec h.h
  unfold loadVar
  rw [Sem.run_bind, run_isAgg_agg h.h]
  simp only [Result.andThen_ok, if_true, Sem.run_bind, run_sizeOf hi, hs]
  have := run_loadCells (P := P) (w := w0) (b := b) cs o 0 #[] (fun j v hv => by have := hc j v hv; simpa using this)
  unfold loadCells
  rw [← hn, this]
  simp
theorem load_of {S : World → Prop} {t : TypeId} {a : Addr} {v : Value} {K : Value → Prop} (h : ∀ w, S w → Holds P t a w v) (k : K v) : LoadG P S t (.pointer (some a)) K := by
  rw [LoadG_eq]; refine ⟨v, fun w hw w0 e => ?_, k⟩; have := h w hw w0 e; rw [run_vS, show (Instr.loadAt t (.pointer (some a))).run P w0 = (loadVar t a).run P w0 from rfl, this]; exact ⟨rfl, e⟩
theorem ld {t : TypeId} [CellTy P t] {w : World} {a : Addr} (v : Value) {K : Value → Prop} (hc : w.cell? a = some v) (k : K v) : LoadG P (fun u => u = w) t (.pointer (some a)) K :=
  load_of (fun u e => by subst e; exact holds_cell hc) k
theorem ldS {S : World → Prop} {t : TypeId} [CellTy P t] {a : Addr} (v : Value) {K : Value → Prop} (hc : ∀ u, S u → u.cell? a = some v) (k : K v) : LoadG P S t (.pointer (some a)) K :=
  load_of (fun u hu => holds_cell (hc u hu)) k
theorem ldA {t : TypeId} {n : Nat} [AggTy P t n] {w : World} {b o : Nat} (cs : List Value) {K : Value → Prop} (hc : CellsAt w b o cs) (hn : cs.length = n) (k : K (.agg cs.toArray)) : LoadG P (fun u => u = w) t (.pointer (some (ad b o))) K :=
  load_of (fun u e => by subst e; exact holds_agg hc hn) k
theorem ldAS {S : World → Prop} {t : TypeId} {n : Nat} [AggTy P t n] {b o : Nat} (cs : List Value) {K : Value → Prop} (hc : ∀ u, S u → CellsAt u b o cs) (hn : cs.length = n) (k : K (.agg cs.toArray)) : LoadG P S t (.pointer (some (ad b o))) K :=
  load_of (fun u hu => holds_agg (hc u hu) hn) k
theorem cD {p : Prop} [Decidable p] {K : Value → Prop} (h1 : p → K (.bool true)) (h2 : ¬ p → K (.bool false)) : CmpP p K := .of ⟨h1, h2⟩
theorem cE {x y : Int} {K : Value → Prop} (h1 : x = y → K (.bool true)) (h2 : x ≠ y → K (.bool false)) : CmpP (x = y) K := .of ⟨h1, h2⟩
theorem cN {x y : Int} {K : Value → Prop} (h1 : x ≠ y → K (.bool true)) (h2 : x = y → K (.bool false)) : CmpP (x ≠ y) K := .of ⟨h1, fun h => h2 (by omega)⟩
theorem cB {p : Prop} [Decidable p] {K : Value → Prop} (b : Bool) (hb : b = decide p) (k : K (.bool b)) : CmpP p K := .of ⟨fun h => by rw [decide_eq_true h] at hb; subst hb; exact k, fun h => by rw [decide_eq_false h] at hb; subst hb; exact k⟩
theorem arI {n : Int} {K : Value → Prop} (h : -9223372036854775808 ≤ n ∧ n ≤ 9223372036854775807) (k : K (.int .i64 n)) : ArP .i64 n K := by
  rw [ArP_eq]; have : IntKind.i64.wrap n = n := IntWalk.i64_in n h; rw [this]; exact k
theorem arW {kd : IntKind} {n : Int} {K : Value → Prop} (k : K (.int kd (kd.wrap n))) : ArP kd n K := by rw [ArP_eq]; exact k
theorem bitR {op : BinOp} {kd : IntKind} {a b : Int} {K : Value → Prop} (c : Int) (h : bits op kd a b = c) (k : K (.int kd c)) : BitP op kd a b K := by rw [BitP_eq]; rw [h]; exact k
theorem quoI {a b : Int} {K : Value → Prop} (hb : 0 < b) (ha : 0 ≤ a) (hm : a ≤ 9223372036854775807) (k : K (.int .i64 (a / b))) : QuoP .i64 a b K := by
  rw [QuoP_eq]; refine ⟨by omega, ?_⟩; rw [Int.tdiv_eq_ediv_of_nonneg ha]; have h1 : 0 ≤ a / b := Int.ediv_nonneg ha (by omega); have h2 : a / b ≤ a := Int.ediv_le_self b ha; rw [IntWalk.i64_in (a / b) ⟨by omega, by omega⟩]; exact k
theorem remI {kd : IntKind} {a b : Int} {K : Value → Prop} (hb : 0 < b) (ha : 0 ≤ a) (k : K (.int kd (a % b))) : RemP kd a b K := by
  rw [RemP_eq]; exact ⟨by omega, by rw [Int.tmod_eq_emod_of_nonneg ha]; exact k⟩
theorem conv {s t : TypeId} {k0 k : IntKind} {n : Int} {K : Value → Prop} [h0 : IntTy P s k0] [h : IntTy P t k] (kk : K (.int k (k.wrap n))) : ConvP P s t (.int k0 n) K := by
  rw [ConvP_eq]
  have hs : P.underlying s = some (.int k0) := by
    have := h0.h; unfold intOf at this; split at this <;> simp_all
  have ht : P.underlying t = some (.int k) := by
    have := h.h; unfold intOf at this; split at this <;> simp_all
  refine pure_vval (fun w => ?_) kk; simp [convert, run_underlying hs, run_underlying ht, Conv.intToInt]
theorem sliceOf_spec {t e : TypeId} {sz : Nat} (h : sliceOf P t = some (e, sz)) : P.underlying t = some (.slice e) ∧ ∃ i, P.info? e = some i ∧ i.size = sz := by
  unfold sliceOf at h
  split at h
  · rename_i e' he
    cases hi : P.info? e' with
    | none => rw [hi] at h; cases h
    | some i => rw [hi] at h; simp at h; obtain ⟨rfl, rfl⟩ := h; exact ⟨he, i, hi, rfl⟩
  · cases h
theorem idx {t e : TypeId} {sz : Nat} [h : SliceTy P t e sz] {b o n c : Nat} {kd : IntKind} {i : Int} {K : Value → Prop} (k : Nat) (hi : i = k) (hk : k < n) (kk : K (.pointer (some (ad b (o + k * sz))))) :
    IdxAP P t (.slice (some (ad b o)) n c) (.int kd i) K := by
  rw [IdxAP_eq]; obtain ⟨hu, inf, hinf, hs⟩ := sliceOf_spec h.h; subst hi; refine pure_vval (fun w => ?_) kk
  have hc : (0 : Int) ≤ (k : Int) ∧ (k : Int) < (n : Int) := by omega
  simp [Instr.indexAt, asIntOf, run_underlying hu, run_sizeOf hinf, hs, add_ad, hk]
theorem fldOff_spec {s : TypeId} {f : Nat} {t : TypeId} {o : Nat} (h : fldOff P s f = some (t, o)) : ∃ fs fd, P.underlying s = some (.struct fs) ∧ fs[f]? = some fd ∧ fd.type = t ∧ fd.offset = o ∧ ∃ i, P.info? t = some i ∧ i.size ≠ 0 := by
  unfold fldOff at h
  split at h
  · rename_i fs hs
    split at h
    · rename_i fd hf
      split at h
      · rename_i i hi
        split at h
        · cases h
        · rename_i hz; simp at h; obtain ⟨rfl, rfl⟩ := h; exact ⟨fs, fd, hs, hf, rfl, rfl, i, hi, hz⟩
      · cases h
    · cases h
  · cases h
theorem fldA {s t : TypeId} {f o : Nat} [h : FldTy P s f t o] {b q : Nat} {K : Value → Prop} (kk : K (.pointer (some (ad b (q + o))))) : FldAP P s (.pointer (some (ad b q))) f K := by
  rw [FldAP_eq]; obtain ⟨fs, fd, hs, hf, rfl, rfl, i, hi, hz⟩ := fldOff_spec h.h; refine pure_vval (fun w => ?_) kk; simp [Instr.fieldAt, run_underlying hs, hf, Instr.sureAddr, fieldPlace, run_sizeOf hi, hz, add_ad]
theorem len {t e : TypeId} {sz : Nat} [h : SliceTy P t e sz] {A : Option Addr} {n c : Nat} {K : Value → Prop} (kk : K (.int .i64 n)) : LenP P t (.slice A n c) K := by
  rw [LenP_eq]; obtain ⟨hu, _⟩ := sliceOf_spec h.h; refine pure_vval (fun w => ?_) kk; simp [Builtin.len_, run_underlying hu, goInt]
theorem lenS {t : TypeId} [h : StrTy P t] {s : ByteArray} {K : Value → Prop} (kk : K (.int .i64 s.size)) : LenP P t (.string s) K := by
  rw [LenP_eq]
  have hu : P.underlying t = some .string := by have := h.h; unfold isStr at this; split at this <;> simp_all
  refine pure_vval (fun w => ?_) kk; simp [Builtin.len_, run_underlying hu, goInt]
theorem call_ofX {f : FuncId} [h : Enters P f] {args : Array Value} {w : World} {K R : VK} {X' : XK} (c : CallX P f args w R X') (k : ∀ v w', R v w' → K v w') (kx : ∀ ch w', X' ch w' → X ch w') : CallP P f args K X w := by
  rw [CallP_eq]; intro w0 hw; rw [h.h]; exact (c.mono k kx) w0 hw
theorem call_of {f : FuncId} [h : Enters P f] {args : Array Value} {w : World} {K R : VK} (c : CallZ P f args w R) (k : ∀ v w', R v w' → K v w') : CallP P f args K X w := call_ofX (X' := X) c.x k fun _ _ h => h
theorem callQ {S : World → Prop} {f : FuncId} [h : Enters P f] {args : Array Value} {v : Value} {K : Value → Prop} (c : ∀ w, S w → CallZ P f args w (fun u w' => u = v ∧ w' = w)) (k : K v) : CallQ P S f args K := by
  rw [CallQ_eq]; refine ⟨v, fun w hw w0 e => ?_, k⟩; rw [h.h]; exact c w hw w0 e
theorem ret {rs : List ResultVar} {F : Fr} {R : VK} {w : World} (h : VRes P F w rs [] (fun vs => R (resV vs) w)) : RetP P rs F [] R w := by rw [RetP_eq]; exact ⟨w, rfl, h⟩
theorem ret1 {t : Nat} {F : Fr} {R : VK} {w : World} (v : Value) (hv : F t = v) (h : R v w) : RetP P [.tmp t] F [] R w := by rw [RetP_eq]; exact ⟨w, rfl, by subst hv; exact h⟩
theorem ret0 {F : Fr} {R : VK} {w : World} (h : R (.tuple #[]) w) : RetP P [] F [] R w := by rw [RetP_eq]; exact ⟨w, rfl, h⟩
theorem ret2 {t u : Nat} {F : Fr} {R : VK} {w : World} (v v' : Value) (hv : F t = v) (hv' : F u = v') (h : R (.tuple #[v, v']) w) : RetP P [.tmp t, .tmp u] F [] R w := by
  rw [RetP_eq]; exact ⟨w, rfl, by subst hv; subst hv'; exact h⟩
theorem resL {t : TypeId} {a : Addr} {w : World} (v : Value) {K : Value → Prop} (h : Holds P t a w v) (k : K v) : ResLP P t (.pointer (some a)) w K := by rw [ResLP_eq]; exact ⟨a, v, rfl, h, k⟩
theorem drawQ {ops : Array Oper} {K : Fr → World → Prop} {F : Fr} {w : World} (hm : P.follows .mixedOrders = true) (hok : drawOk ops [] (seqPlan ops.toList.length 0) = true)
    (h : VPlan P ops.toList K X (seqPlan ops.toList.length 0) (fun u => u = w) F w) : DrawH P ops K X F w := by rw [DrawH_eq]; exact ⟨hm, _, _, fun u => u = w, hok, rfl, h⟩
theorem drawX (os es : List Nat) {ops : Array Oper} {K : Fr → World → Prop} {F : Fr} {w : World} (hm : P.follows .mixedOrders = true) (hok : drawOk ops [] (ordPlan es os) = true)
    (h : VPlan P ops.toList K X (ordPlan es os) (fun u => Ext w u) F w) : DrawH P ops K X F w := by rw [DrawH_eq]; exact ⟨hm, _, _, _, hok, Kept.refl _ _, h⟩
theorem drawP (p : Plan) (B : List Nat) (S : World → Prop) {ops : Array Oper} {K : Fr → World → Prop} {F : Fr} {w : World} (hm : P.follows .mixedOrders = true) (hok : drawOk ops B p = true) (hS : S w)
    (h : VPlan P ops.toList K X p S F w) : DrawH P ops K X F w := by rw [DrawH_eq]; exact ⟨hm, p, B, S, hok, hS, h⟩
theorem barS {w : World} {C : (World → Prop) → Prop} (S : World → Prop) (h : S w) (c : C S) : BarP w C := ⟨S, h, c⟩
theorem draw_then {ops : Array Oper} {K K' : Fr → World → Prop} {F : Fr} {w : World} (h : DrawH P ops K' X F w) (k : ∀ F' w', Off (wr ops.toList) F F' → K' F' w' → K F' w') : DrawH P ops K X F w := by
  rw [DrawH_eq] at h ⊢; obtain ⟨hm, p, B, S, h1, h2, h3⟩ := h; exact ⟨hm, p, B, S, h1, h2, VPlan_mf wr_mem p S F F w (.refl _ _) k (fun _ _ h => h) h3⟩
theorem ldX {t : TypeId} [CellTy P t] {w0 w : World} {a : Addr} (v : Value) {K : Value → Prop} (hc : w.cell? a = some v) (hx : Ext w w0 := by exact Kept.refl _ _) (k : K v) : LoadG P (fun u => Ext w0 u) t (.pointer (some a)) K :=
  ldS v (fun _ hu => (hx.ext hu).cell hc trivial) k
theorem strS {S : World → Prop} {w : World} {C : (World → Prop) → Prop} (h : S w) (c : C S) : StrP S w C := by rw [StrP_eq]; exact ⟨S, h, fun _ h => h, c⟩
theorem strT {S : World → Prop} {w : World} {C : (World → Prop) → Prop} (S' : World → Prop) (h : S' w) (hs : ∀ u, S' u → S u) (c : C S') : StrP S w C := by rw [StrP_eq]; exact ⟨S', h, hs, c⟩
end
structure Ty (α : Type) where
  sz : Nat
  rep : (Nat → Prop) → World → List Value → α → Prop
  len : ∀ {D w cs x}, rep D w cs x → cs.length = sz
  keep : ∀ {D w w' cs x}, (∀ b, b < w.heap.size → D b → w'.heap[b]? = w.heap[b]?) → rep D w cs x → rep D w' cs x
  more : ∀ {D D' w cs x}, (∀ b, b < w.heap.size → D b → D' b) → rep D w cs x → rep D' w cs x
def I64 (x : Int) : Prop := -9223372036854775808 ≤ x ∧ x ≤ 9223372036854775807
def tInt : Ty Int where
  sz := 1
  rep _ _ cs x := cs = [.int .i64 x] ∧ I64 x
  len h := by rw [h.1]; rfl
  keep _ h := h
  more _ h := h
def tBool : Ty Bool where
  sz := 1
  rep _ _ cs x := cs = [.bool x]
  len h := by rw [h]; rfl
  keep _ h := h
  more _ h := h
def tPair {α β : Type} (a : Ty α) (b : Ty β) : Ty (α × β) where
  sz := a.sz + b.sz
  rep D w cs p := ∃ c1 c2, cs = c1 ++ c2 ∧ a.rep D w c1 p.1 ∧ b.rep D w c2 p.2
  len := fun ⟨c1, c2, h, h1, h2⟩ => by rw [h, List.length_append, a.len h1, b.len h2]
  keep hk := fun ⟨c1, c2, h, h1, h2⟩ => ⟨c1, c2, h, a.keep hk h1, b.keep hk h2⟩
  more hB := fun ⟨c1, c2, h, h1, h2⟩ => ⟨c1, c2, h, a.more hB h1, b.more hB h2⟩
def tMap {α β : Type} (a : Ty α) (f : β → α) : Ty β where
  sz := a.sz
  rep D w cs x := a.rep D w cs (f x)
  len h := a.len h
  keep hk h := a.keep hk h
  more hB h := a.more hB h
theorem lt_of_cell {w : World} {b o : Nat} {v : Value} (h : w.cell? (ad b o) = some v) : b < w.heap.size := World.block_lt_of_cell? w (ad b o) h
theorem cellsAt_same {w w' : World} {b o : Nat} {cs : List Value} (h : b < w.heap.size → w'.heap[b]? = w.heap[b]?) (hc : CellsAt w b o cs) : CellsAt w' b o cs := fun j v hv => by
  have h1 := hc j v hv
  rw [World.cell?_of_block (a := ad b (o + j)) (h (lt_of_cell h1))]; exact h1
def SlR {α : Type} (a : Ty α) (D : Nat → Prop) (w : World) (A : Option Addr) (n : Nat) (xs : List α) : Prop :=
  n = xs.length ∧ n ≤ 140737488355328 ∧ ∀ k x, xs[k]? = some x → ∃ b o cs, A = some (ad b o) ∧ D b ∧ CellsAt w b (o + k * a.sz) cs ∧ a.rep D w cs x
section
variable {α : Type} {a : Ty α} {D : Nat → Prop} {w : World} {A : Option Addr} {n : Nat} {xs : List α}
theorem SlR.keep {w' : World} (hk : ∀ b, b < w.heap.size → D b → w'.heap[b]? = w.heap[b]?) (h : SlR a D w A n xs) : SlR a D w' A n xs :=
  ⟨h.1, h.2.1, fun k x hx => let ⟨b, o, cs, h1, h2, h3, h4⟩ := h.2.2 k x hx; ⟨b, o, cs, h1, h2, cellsAt_same (fun hb => hk b hb h2) h3, a.keep hk h4⟩⟩
theorem SlR.len (h : SlR a D w A n xs) : xs.length = n := h.1.symm
theorem SlR.le (h : SlR a D w A n xs) : n ≤ 140737488355328 := h.2.1
theorem SlR.at_ (h : SlR a D w A n xs) {k : Nat} (hk : k < n) :
    ∃ b o cs x, A = some (ad b o) ∧ xs[k]? = some x ∧ xs.drop k = x :: xs.drop (k + 1) ∧ D b ∧ CellsAt w b (o + k * a.sz) cs ∧ a.rep D w cs x := by
  obtain ⟨hl, _, h⟩ := h
  have hk' : k < xs.length := by omega
  have hx : xs[k]? = some xs[k] := List.getElem?_eq_getElem hk'; obtain ⟨b, o, cs, h1, h2, h3, h4⟩ := h k _ hx; exact ⟨b, o, cs, xs[k], h1, hx, List.drop_eq_getElem_cons hk', h2, h3, h4⟩
theorem SlR.nil : SlR a D w A 0 ([] : List α) := ⟨rfl, by omega, fun k x hx => by simp at hx⟩
end
theorem SlR.more {α : Type} {a : Ty α} {D D' : Nat → Prop} {w : World} {A : Option Addr} {n : Nat} {xs : List α} (hsz : 0 < a.sz) (hB : ∀ b, b < w.heap.size → D b → D' b) (h : SlR a D w A n xs) : SlR a D' w A n xs :=
  ⟨h.1, h.2.1, fun k x hx => by
    obtain ⟨b, o, cs, h1, h2, h3, h4⟩ := h.2.2 k x hx
    have hl := a.len h4
    have h0 : cs[0]? = some (cs[0]'(by omega)) := List.getElem?_eq_getElem (by omega)
    exact ⟨b, o, cs, h1, hB b (lt_of_cell (h3 0 _ h0)) h2, h3, a.more hB h4⟩⟩
def tSl {α : Type} (a : Ty α) (hsz : 0 < a.sz := by decide) : Ty (List α) where
  sz := 1
  rep D w cs xs := ∃ A n c, cs = [.slice A n c] ∧ SlR a D w A n xs ∧ n ≤ c
  len := fun ⟨_, _, _, h, _⟩ => by rw [h]; rfl
  keep hk := fun ⟨A, n, c, h, h1, h2⟩ => ⟨A, n, c, h, h1.keep hk, h2⟩
  more hB := fun ⟨A, n, c, h, h1, h2⟩ => ⟨A, n, c, h, h1.more hsz hB, h2⟩
section
variable {α : Type} {a : Ty α} {D : Nat → Prop} {w : World}
theorem SlR.kept {D' : Nat → Prop} {w' : World} {A : Option Addr} {n : Nat} {xs : List α} (h : SlR a D w A n xs) (k : Kept D' w w') (hd : ∀ b, b < w.heap.size → D b → D' b) : SlR a D w' A n xs :=
  h.keep fun b hb hD => k.blk b hb (hd b hb hD)
theorem SlR.ext {w' : World} {A : Option Addr} {n : Nat} {xs : List α} (h : SlR a D w A n xs) (k : Ext w w') : SlR a D w' A n xs := h.kept k fun _ _ _ => trivial
theorem Ty.kept (a : Ty α) {D' : Nat → Prop} {w' : World} {cs : List Value} {x : α} (h : a.rep D w cs x) (k : Kept D' w w') (hd : ∀ b, b < w.heap.size → D b → D' b) : a.rep D w' cs x :=
  a.keep (fun b hb hD => k.blk b hb (hd b hb hD)) h
theorem Ty.ext (a : Ty α) {w' : World} {cs : List Value} {x : α} (h : a.rep D w cs x) (k : Ext w w') : a.rep D w' cs x := a.kept h k fun _ _ _ => trivial
def FlatR (a : Ty α) (D : Nat → Prop) (w : World) : List α → List Value → Prop
  | [], cs => cs = []
  | x :: xs, cs => ∃ c r, cs = c ++ r ∧ a.rep D w c x ∧ FlatR a D w xs r
theorem FlatR.len : ∀ {xs : List α} {cs : List Value}, FlatR a D w xs cs → cs.length = xs.length * a.sz
  | [], _, h => by rw [h]; simp
  | x :: xs, _, ⟨c, r, h, h1, h2⟩ => by rw [h, List.length_append, a.len h1, h2.len, List.length_cons, Nat.add_mul]; omega
theorem FlatR.app : ∀ {xs ys : List α} {cs ds : List Value}, FlatR a D w xs cs → FlatR a D w ys ds → FlatR a D w (xs ++ ys) (cs ++ ds)
  | [], _, _, _, h, k => by rw [h]; exact k
  | x :: xs, _, _, _, ⟨c, r, h, h1, h2⟩, k => ⟨c, _, by rw [h, List.append_assoc], h1, h2.app k⟩
theorem FlatR.one {x : α} {c : List Value} (h : a.rep D w c x) : FlatR a D w [x] c := ⟨c, [], by simp, h, rfl⟩
theorem FlatR.keep {w' : World} (hk : ∀ b, b < w.heap.size → D b → w'.heap[b]? = w.heap[b]?) : ∀ {xs : List α} {cs : List Value}, FlatR a D w xs cs → FlatR a D w' xs cs
  | [], _, h => h
  | _ :: _, _, ⟨c, r, h, h1, h2⟩ => ⟨c, r, h, a.keep hk h1, h2.keep hk⟩
theorem FlatR.more {D' : Nat → Prop} (hk : ∀ b, b < w.heap.size → D b → D' b) : ∀ {xs : List α} {cs : List Value}, FlatR a D w xs cs → FlatR a D' w xs cs
  | [], _, h => h
  | _ :: _, _, ⟨c, r, h, h1, h2⟩ => ⟨c, r, h, a.more hk h1, h2.more hk⟩
theorem FlatR.at_ : ∀ {xs : List α} {cs : List Value}, FlatR a D w xs cs → ∀ {k : Nat} {x : α}, xs[k]? = some x → ∃ c, a.rep D w c x ∧ ∀ j v, c[j]? = some v → cs[k * a.sz + j]? = some v
  | [], _, _, _, _, hx => by simp at hx
  | y :: xs, _, ⟨c, r, h, h1, h2⟩, 0, x, hx => by
    simp at hx; subst hx
    refine ⟨c, h1, fun j v hv => ?_⟩
    subst h
    rw [Nat.zero_mul, Nat.zero_add, List.getElem?_append_left (List.getElem?_eq_some_iff.1 hv).1]; exact hv
  | y :: xs, _, ⟨c, r, h, h1, h2⟩, k + 1, x, hx => by
    obtain ⟨c', h3, h4⟩ := h2.at_ (k := k) (by simpa using hx)
    refine ⟨c', h3, fun j v hv => ?_⟩
    subst h
    have hl := a.len h1
    rw [List.getElem?_append_right (by rw [hl, Nat.add_mul]; omega), hl]
    have := h4 j v hv
    rwa [show (k + 1) * a.sz + j - a.sz = k * a.sz + j from by rw [Nat.add_mul]; omega]
theorem flat_ints : ∀ {xs : List Int}, (∀ x ∈ xs, I64 x) → FlatR tInt D w xs (xs.map (.int .i64))
  | [], _ => rfl
  | x :: xs, h => ⟨[.int .i64 x], xs.map (.int .i64), rfl, ⟨rfl, h x List.mem_cons_self⟩, flat_ints fun y hy => h y (List.mem_cons_of_mem _ hy)⟩
theorem SlR.of_cells {b o n : Nat} {xs : List α} {cs : List Value} (hn : n = xs.length) (hle : n ≤ 140737488355328) (hD : D b) (hc : CellsAt w b o cs) (hf : FlatR a D w xs cs) : SlR a D w (some (ad b o)) n xs :=
  ⟨hn, hle, fun k x hx => by
    obtain ⟨c, h1, h2⟩ := hf.at_ hx
    exact ⟨b, o, c, rfl, hD, fun j v hv => by have := hc _ _ (h2 j v hv); rwa [← Nat.add_assoc] at this, h1⟩⟩
theorem SlR.cells {b o n : Nat} {xs : List α} (h : SlR a D w (some (ad b o)) n xs) : ∃ cs, FlatR a D w xs cs ∧ CellsAt w b o cs := by
  obtain ⟨hn, hle, h⟩ := h; clear hn hle n
  induction xs generalizing o with
  | nil => exact ⟨[], rfl, fun j v hv => by simp at hv⟩
  | cons x xs ih =>
    obtain ⟨b', o', c, e, _, hc, hr⟩ := h 0 x rfl; simp only [Option.some.injEq, Addr.mk.injEq] at e; obtain ⟨rfl, rfl, _⟩ := e
    obtain ⟨r, hf, hcr⟩ := ih (o := o + a.sz) (fun k y hy => by
      obtain ⟨b2, o2, c2, e2, hD2, hc2, hr2⟩ := h (k + 1) y hy
      simp only [Option.some.injEq, Addr.mk.injEq] at e2
      obtain ⟨rfl, rfl, _⟩ := e2
      exact ⟨b, o + a.sz, c2, rfl, hD2, by rwa [show o + (k + 1) * a.sz = o + a.sz + k * a.sz from by rw [Nat.add_mul]; omega] at hc2, hr2⟩)
    refine ⟨c ++ r, ⟨c, r, rfl, hr, hf⟩, fun j v hv => ?_⟩; have hl := a.len hr
    by_cases hj : j < c.length
    · rw [List.getElem?_append_left hj] at hv; have := hc j v hv; simpa using this
    · rw [List.getElem?_append_right (by omega)] at hv; have := hcr _ v hv
      rwa [show o + a.sz + (j - c.length) = o + j from by omega] at this
end
theorem drop_end {α : Type} {xs : List α} {k : Nat} (h : xs.length ≤ k) : xs.drop k = [] := List.drop_eq_nil_of_le h
def mapOf (P : Program) (t : TypeId) : Option (TypeId × TypeId) := match P.underlying t with | some (.map k e) => some (k, e) | _ => none
class MapTy (P : Program) (t : TypeId) (k e : outParam TypeId) : Prop where h : mapOf P t = some (k, e)
def arrOf (P : Program) (t : TypeId) : Option (Nat × TypeId × Nat) := match P.underlying t with | some (.array n e) => (P.info? e).map fun i => (n, e, i.size) | _ => none
class ArrTy (P : Program) (t : TypeId) (n : outParam Nat) (e : outParam TypeId) (sz : outParam Nat) : Prop where h : arrOf P t = some (n, e, sz)
def isBoo (P : Program) (t : TypeId) : Bool := match P.underlying t with | some .bool => true | _ => false
class BoolTy (P : Program) (t : TypeId) : Prop where h : isBoo P t = true
def cellsL : Value → List Value
  | .agg cs => cs.toList
  | v => [v]
theorem cellsL_eq (v : Value) : v.cells = (cellsL v).toArray := by cases v <;> simp [Value.cells, cellsL]
def stoOk (P : Program) (t : TypeId) : Bool := oneCell P t && (match P.info? t with | some i => i.size == 1 | none => false)
class StoTy (P : Program) (t : TypeId) : Prop where h : stoOk P t = true
section
variable {P : Program} {X : XK}
theorem zeroOf_spec {t : TypeId} {zv : Value} (h : zeroOf P t = some zv) : ∃ i, P.info? t = some i ∧ i.zero = some zv := by
  unfold zeroOf at h; cases hi : P.info? t with
  | none => rw [hi] at h; cases h
  | some i => rw [hi] at h; exact ⟨i, rfl, h⟩
theorem run_zeroValue' {t : TypeId} {zv : Value} (h : zeroOf P t = some zv) (w : World) : (zeroValue t).run P w = .ok zv w := by
  obtain ⟨i, hi, hz⟩ := zeroOf_spec h; simp [zeroValue, typeInfo, hi, hz]
def NewB (w : World) (e : TypeId) (cs : List Value) (g : Nat) (w' : World) : Prop := g = w.heap.size ∧ w' = w.alloc (.cells cs.toArray e)
theorem NewB.blk {w w' : World} {e : TypeId} {cs : List Value} {g : Nat} (h : NewB w e cs g w') : Blk w' g e cs := by obtain ⟨rfl, rfl⟩ := h; exact Blk.new w e cs
theorem NewB.ext {w w' : World} {e : TypeId} {cs : List Value} {g : Nat} (h : NewB w e cs g w') : Ext w w' := by obtain ⟨rfl, rfl⟩ := h; exact Kept.alloc _ w _
theorem NewB.size {w w' : World} {e : TypeId} {cs : List Value} {g : Nat} (h : NewB w e cs g w') : w'.heap.size = w.heap.size + 1 := by obtain ⟨rfl, rfl⟩ := h; simp
theorem NewB.at_ {w w' : World} {e : TypeId} {cs : List Value} {g : Nat} (h : NewB w e cs g w') : g = w.heap.size := h.1
theorem alloc {e : TypeId} {zv : Value} [h : ZeroTy P e zv] {w : World} {K : VK} (kk : ∀ g w', NewB w e (cellsL zv) g w' → K (.pointer (some (ad g 0))) w') : AllocP P e K w := by
  rw [AllocP_eq]; intro w0 hw; subst hw; rw [run_vS]; simp only [Instr.alloc, Sem.run_bind, run_zeroValue' h.h, Result.andThen_ok, newVar, newRow, run_newObj, cellsL_eq]; exact kk _ _ ⟨rfl, rfl⟩
theorem box {e : TypeId} {v : Value} {w : World} {K : VK} (kk : ∀ g w', NewB w e (cellsL v) g w' → K (.pointer (some (ad g 0))) w') : BoxP P e v K w := by
  rw [BoxP_eq]; intro w0 hw; subst hw; rw [run_vS]; simp only [Instr.box, Sem.run_bind, Result.andThen_ok, newVar, newRow, run_newObj, cellsL_eq]; exact kk _ _ ⟨rfl, rfl⟩
theorem mmap {t : TypeId} {w : World} {K : VK} (kk : ∀ g w', g = w.heap.size → w' = w.alloc (.map #[] 0) → K (.map (some g)) w') : MMapP P t none K w := by
  rw [MMapP_eq]; intro w0 hw; subst hw; rw [run_vS, run_makeMap]; exact kk _ _ rfl rfl
theorem splice_mid (xs ys c old : List Value) (hl : old.length = c.length) : ((c.zipIdx).foldl (fun (cs : Array Value) (p : Value × Nat) => cs.setIfInBounds (xs.length + p.2) p.1) (xs ++ old ++ ys).toArray) = (xs ++ c ++ ys).toArray := by
  have key : ∀ (c old : List Value) (pre : List Value) (k : Nat), old.length = c.length → pre.length = xs.length + k →
      ((c.zipIdx k).foldl (fun (cs : Array Value) (p : Value × Nat) => cs.setIfInBounds (xs.length + p.2) p.1) (pre ++ old ++ ys).toArray) = (pre ++ c ++ ys).toArray := by
    intro c
    induction c with
    | nil => intro old pre k h1 h2; have : old = [] := List.eq_nil_of_length_eq_zero (by simpa using h1); subst this; simp
    | cons v c ih =>
      intro old pre k h1 h2
      cases old with
      | nil => simp at h1
      | cons o old =>
        simp only [List.zipIdx_cons, List.foldl_cons]
        have e : ((pre ++ o :: old ++ ys).toArray.setIfInBounds (xs.length + k) v) = ((pre ++ [v]) ++ old ++ ys).toArray := by
          simp only [List.setIfInBounds_toArray]; rw [← h2]; simp
        rw [e, ih old (pre ++ [v]) (k + 1) (by simpa using h1) (by simp; omega)]; simp
  exact key c old xs 0 hl (by simp)
theorem fill_seq {sz : Nat} : ∀ (vs : List Value) (k : Nat) (pre old : List Value), (∀ v ∈ vs, (cellsL v).length = sz) → pre.length = k * sz → old.length = vs.length * sz →
    Instr.fill (fun i => some (i * sz, sz)) (pre ++ old).toArray ((vs.zipIdx k).map fun p => (p.2, p.1)) = some (pre ++ vs.flatMap cellsL).toArray
  | [], k, pre, old, _, _, ho => by have : old = [] := List.eq_nil_of_length_eq_zero (by simpa using ho); subst this; simp [Instr.fill]
  | v :: vs, k, pre, old, h, hp, ho => by
    have hv := h v List.mem_cons_self
    have hr : ∀ u ∈ vs, (cellsL u).length = sz := fun u hu => h u (List.mem_cons_of_mem _ hu)
    have hlen : old.length = sz + vs.length * sz := by rw [ho, List.length_cons, Nat.add_mul]; omega
    simp only [List.zipIdx_cons, List.map_cons, Instr.fill, cellsL_eq v, List.size_toArray, hv]
    rw [if_neg (by simp; omega)]
    have e1 : (pre ++ old) = pre ++ old.take sz ++ old.drop sz := by rw [List.append_assoc, List.take_append_drop]
    have e2 : (List.foldl (fun (cs : Array Value) (p : Value × Nat) => cs.setIfInBounds (k * sz + p.2) p.1) (pre ++ old).toArray (cellsL v).zipIdx) = (pre ++ cellsL v ++ old.drop sz).toArray := by
      rw [e1, ← hp]
      exact splice_mid pre (old.drop sz) (cellsL v) (old.take sz) (by rw [List.length_take, hv]; omega)
    have e3 : ((cellsL v).toArray.zipIdx.foldl (fun (cs : Array Value) (x : Value × Nat) => match x with | (c, j) => cs.setIfInBounds (k * sz + j) c) (pre ++ old).toArray) = (pre ++ cellsL v ++ old.drop sz).toArray := by
      rw [← e2, ← Array.foldl_toList]
      simp
    rw [e3, fill_seq vs (k + 1) (pre ++ cellsL v) (old.drop sz) hr (by rw [List.length_append, hp, hv, Nat.add_mul]; omega) (by rw [List.length_drop]; omega)]
    simp
theorem run_buildSlice_seq {t e : TypeId} {sz : Nat} {zv : Value} (h : sliceOf P t = some (e, sz)) (hz : zeroOf P e = some zv) (hzs : (cellsL zv).length = sz) (vs : List Value) (hv : ∀ v ∈ vs, (cellsL v).length = sz) (hbig : vs.length * sz ≤ 16777216) (w : World) :
    (Instr.buildSlice t vs.length ((vs.zipIdx 0).map fun p => (p.2, p.1)).toArray).run P w = .ok (.slice (some ⟨w.heap.size, 0, none⟩) vs.length vs.length) (w.alloc (.cells (vs.flatMap cellsL).toArray e)) := by
  obtain ⟨hu, i, hi, hs⟩ := sliceOf_spec h; subst hs
  have hfill : ∀ z0 : List Value, z0.length = vs.length * i.size → Instr.fill (fun j => some (j * i.size, i.size)) z0.toArray ((vs.zipIdx 0).map fun p => (p.2, p.1)) = some (vs.flatMap cellsL).toArray := fun z0 hl => by
    have := fill_seq (sz := i.size) vs 0 [] z0 hv (by simp) hl
    simpa using this
  have hb : ¬ (vs.length * i.size > 2 ^ 24) := by omega
  unfold Instr.buildSlice; have er : Array.range 0 = #[] := rfl; simp only [Sem.run_bind, run_underlying hu, Result.andThen_ok, run_sizeOf hi, hb, if_false]
  by_cases h0 : vs.length * i.size = 0
  · have := hfill [] (by simpa using h0.symm); simp [h0, er, this, newRow]
  · have := hfill ((Array.range (vs.length * i.size)).map (fun j => zv.cells[j % zv.cells.size]!)).toList (by simp); simp only [Array.toArray_toList] at this; simp only [h0, if_false, Sem.run_bind, run_zeroValue' hz, Sem.run_pure, Result.andThen_ok, this]; simp [newRow]
theorem bslc {t e : TypeId} {sz : Nat} {zv : Value} [h : SliceTy P t e sz] [hz : ZeroTy P e zv] (vs : List Value) {n : Nat} {ps : Array (Nat × Value)} {w : World} {K : VK}
    (hp : ps = ((vs.zipIdx 0).map fun p => (p.2, p.1)).toArray) (hn : n = vs.length) (hv : ∀ v ∈ vs, (cellsL v).length = sz) (hzs : (cellsL zv).length = sz) (hbig : vs.length * sz ≤ 16777216)
    (kk : ∀ g w', NewB w e (vs.flatMap cellsL) g w' → K (.slice (some (ad g 0)) n n) w') : BSlcP P t n ps K w := by
  rw [BSlcP_eq]; intro w0 hw; subst hw; subst hp; subst hn; rw [run_vS, run_buildSlice_seq h.h hz.h hzs vs hv hbig]; exact kk _ _ ⟨rfl, rfl⟩
theorem stoOk_spec {t : TypeId} (h : stoOk P t = true) : CellTy P t ∧ ∃ i, P.info? t = some i ∧ i.size = 1 := by
  unfold stoOk at h; obtain ⟨h1, h2⟩ := bothT h; refine ⟨⟨h1⟩, ?_⟩
  cases hi : P.info? t with
  | none => rw [hi] at h2; cases h2
  | some i => rw [hi] at h2; exact ⟨i, rfl, by simpa using h2⟩
theorem st {t e : TypeId} [h : StoTy P t] {g i : Nat} {v : Value} {cs : List Value} {w : World} {K : VK} (hb : Blk w g e cs) (hi : i < cs.length) (hv : v.oneCell' = true)
    (kk : ∀ w', Blk w' g e (cs.set i v) → Kept (fun b => b ≠ g) w w' → w'.heap.size = w.heap.size → K undef w') : StoreP P t (.pointer (some (ad g i))) v K w := by
  rw [StoreP_eq]; intro w0 hw; subst hw; obtain ⟨hc, inf, hinf, hs⟩ := stoOk_spec h.h; have hcell : w0.cell? (ad g i) = some cs[i] := hb.cell (List.getElem?_eq_getElem hi); have hfr : w0.frozen? (ad g i) = false := hb.frozen i
  have hcv : v.cells = #[v] := by cases v <;> first | rfl | cases hv
  have hrun : (uS (Instr.storeAt t (.pointer (some (ad g i))) v)).run P w0 = .ok .skip (w0.setCell (ad g i) v) := by
    have h1 : (store (ad g i) v .plain).run P w0 = .ok () (w0.setCell (ad g i) v) := by rw [run_store P w0 (ad g i) v .plain hv, hcell]; simp [hfr]
    have h2 : (ad g i).add 0 = ad g i := rfl; simp only [uS, Instr.storeAt, Instr.sureAddr, storeVar, Sem.run_bind, Sem.run_pure, Result.andThen_ok, run_sizeOf hinf, hs, hcv]; simp [storeCells, h2, h1]
  rw [hrun]; exact kk (z (w0.setCell (ad g i) v)) (Blk.set hb i v) (Kept.setCell (z w0) (ad g i) v) (by simp [World.setCell])
theorem run_storeCells' {g : Nat} {e : TypeId} : ∀ (vs : List Value) (o i : Nat) (cs : List Value) (w : World), Blk w g e cs → o + i + vs.length ≤ cs.length → (∀ v ∈ vs, v.oneCell' = true) →
    ∃ w', (storeCells (ad g o) vs i).run P w = .ok () w' ∧ Blk w' g e (cs.take (o + i) ++ vs ++ cs.drop (o + i + vs.length)) ∧ Kept (fun b => b ≠ g) w w' ∧ w'.heap.size = w.heap.size
  | [], o, i, cs, w, hb, hl, _ => ⟨w, rfl, by simpa using hb, .refl _ _, rfl⟩
  | v :: vs, o, i, cs, w, hb, hl, hv => by
    have hi : o + i < cs.length := by simp at hl; omega
    have hv1 := hv v List.mem_cons_self
    have hcell : w.cell? (ad g (o + i)) = some cs[o + i] := hb.cell (List.getElem?_eq_getElem hi)
    have hfr : w.frozen? (ad g (o + i)) = false := hb.frozen _
    have h1 : (store ((ad g o).add i) v .plain).run P w = .ok () (w.setCell (ad g (o + i)) v) := by rw [add_ad, run_store P w _ v .plain hv1, hcell]; simp [hfr]
    obtain ⟨w', hr, hb', hk, hz⟩ := run_storeCells' vs o (i + 1) (cs.set (o + i) v) (w.setCell (ad g (o + i)) v) (hb.set _ _) (by simp at hl ⊢; omega) (fun u hu => hv u (List.mem_cons_of_mem _ hu))
    refine ⟨w', ?_, ?_, (Kept.setCell w (ad g (o + i)) v).trans hk, by rw [hz]; simp [World.setCell]⟩
    · simp only [storeCells, Sem.run_bind, h1, Result.andThen_ok]; exact hr
    · have e1 : (cs.set (o + i) v).take (o + (i + 1)) = cs.take (o + i) ++ [v] := by
        rw [← Nat.add_assoc, List.take_succ_eq_append_getElem (by simpa using hi), List.take_set_of_le (Nat.le_refl _)]
        simp
      have e2 : (cs.set (o + i) v).drop (o + (i + 1) + vs.length) = cs.drop (o + i + (v :: vs).length) := by
        rw [List.drop_set_of_lt (by omega)]
        congr 1; simp; omega
      rw [e1, e2] at hb'
      simpa using hb'
theorem stA {t e : TypeId} {n : Nat} [h : AggTy P t n] {g i : Nat} {vs cs : List Value} {w : World} {K : VK} (hb : Blk w g e cs) (hn : vs.length = n) (hi : i + vs.length ≤ cs.length) (hv : ∀ v ∈ vs, v.oneCell' = true)
    (kk : ∀ w', Blk w' g e (cs.take i ++ vs ++ cs.drop (i + vs.length)) → Kept (fun b => b ≠ g) w w' → w'.heap.size = w.heap.size → K undef w') : StoreP P t (.pointer (some (ad g i))) (.agg vs.toArray) K w := by
  rw [StoreP_eq]; intro w0 hw; subst hw; obtain ⟨_, inf, hinf, hs⟩ := aggSize_spec h.h; obtain ⟨w', hr, hb', hk, hz⟩ := run_storeCells' (P := P) vs i 0 cs w0 hb (by simpa using hi) hv
  have hrun : (uS (Instr.storeAt t (.pointer (some (ad g i))) (.agg vs.toArray))).run P w0 = .ok .skip w' := by
    simp only [uS, Instr.storeAt, Instr.sureAddr, storeVar, Sem.run_bind, Sem.run_pure, Result.andThen_ok, run_sizeOf hinf, hs, Value.cells]; simp [hn, hr]
  rw [hrun]; exact kk (z w') hb' ⟨hk.os, hk.tape, hk.output, hk.size, hk.blk⟩ hz
abbrev Own (w : World) (v : Value) (e : TypeId) (sz n : Nat) (xs : List Value) : Prop := w.ownsRow 0 e sz v n xs
theorem Own.nil (w : World) (e : TypeId) (sz : Nat) : Own w (.slice none 0 0) e sz 0 [] := ⟨by simp, .inl ⟨rfl, rfl⟩⟩
theorem Own.blk {w : World} {e : TypeId} {sz g n cap : Nat} {xs : List Value} (h : Own w (.slice (some (ad g 0)) n cap) e sz n xs) : ∃ rest, Blk w g e (xs ++ rest) ∧ (xs ++ rest).length = cap * sz ∧ n ≤ cap := by
  obtain ⟨hl, h⟩ := h; rcases h with ⟨h, _⟩ | ⟨g', cap', cur, hv, _, hb, h1, h2, h3, h4⟩
  · cases h
  · injection hv with ha _ hc; injection ha with ha; injection ha with ha; subst ha; subst hc; refine ⟨cur.toList.drop (n * sz), ?_, ?_, h1⟩
    · unfold Blk; rw [← h4, List.take_append_drop, Array.toArray_toList]; exact hb
    · rw [← h4, List.take_append_drop]; simpa using h3
theorem Own.of_blk {w : World} {e : TypeId} {sz g n cap : Nat} {xs rest : List Value} (hb : Blk w g e (xs ++ rest)) (hl : xs.length = n * sz) (hc : (xs ++ rest).length = cap * sz) (hn : n ≤ cap) (hcap : cap ≤ maxLen) : Own w (.slice (some (ad g 0)) n cap) e sz n xs :=
  ⟨hl, .inr ⟨g, cap, (xs ++ rest).toArray, rfl, Nat.zero_le _, hb, hn, hcap, by simpa using hc, by simp [← hl]⟩⟩
theorem Own.form {w : World} {v : Value} {e : TypeId} {sz n : Nat} {xs : List Value} (h : Own w v e sz n xs) : (v = .slice none 0 0 ∧ n = 0) ∨ ∃ g cap, v = .slice (some (ad g 0)) n cap ∧ n ≤ cap := by
  rcases h.2 with h | ⟨g, cap, _, h1, _, _, h2, _⟩
  · exact .inl h
  · exact .inr ⟨g, cap, h1, h2⟩
theorem Own.kept {D : Nat → Prop} {w w' : World} {v : Value} {e : TypeId} {sz n : Nat} {xs : List Value} (h : Own w v e sz n xs) (k : Kept D w w') (hD : ∀ g, v.ownBlock = some g → D g) : Own w' v e sz n xs := by
  obtain ⟨hl, h⟩ := h; refine ⟨hl, ?_⟩; rcases h with h | ⟨g, cap, cur, h1, h2, h3, h4⟩
  · exact .inl h
  · subst h1; exact .inr ⟨g, cap, cur, rfl, h2, (k.blk g (Array.getElem?_eq_some_iff.1 h3).1 (hD g rfl)).trans h3, h4⟩
theorem Own.ext {w w' : World} {v : Value} {e : TypeId} {sz n : Nat} {xs : List Value} (h : Own w v e sz n xs) (k : Ext w w') : Own w' v e sz n xs := h.kept k fun _ _ => trivial
theorem Own.lt {w : World} {v : Value} {e : TypeId} {sz n g : Nat} {xs : List Value} (h : Own w v e sz n xs) (hg : v.ownBlock = some g) : g < w.heap.size := by
  rcases h.2 with ⟨rfl, _⟩ | ⟨g', cap, cur, rfl, _, h3, _⟩
  · cases hg
  · injection hg with hg; subst hg; exact (Array.getElem?_eq_some_iff.1 h3).1
theorem Own.len {w : World} {v : Value} {e : TypeId} {sz n : Nat} {xs : List Value} (h : Own w v e sz n xs) : xs.length = n * sz := h.1
def Src (w : World) (A : Option Addr) (m sz : Nat) (news : List Value) : Prop := news.length = m * sz ∧ (0 < m → ∃ b o, A = some (ad b o) ∧ CellsAt w b o news)
structure Appd (w : World) (v : Value) (w' : World) (v' : Value) (e : TypeId) (sz n : Nat) (xs : List Value) : Prop where
  own : Own w' v' e sz n xs
  kept : Kept (fun b => v.ownBlock ≠ some b) w w'
  at_ : v'.ownBlock = v.ownBlock ∨ v'.ownBlock = some w.heap.size
theorem run_append_nil {t e : TypeId} {i : TypeInfo} {ty : TypeId} (hu : P.underlying t = some (.slice e)) (hi : P.info? e = some i) {w : World} {v : Value} {sz n : Nat} {xs : List Value} (h : Own w v e sz n xs) (A : Option Addr) (c : Nat) :
    ∃ v', (Builtin.append_ #[t, t] ty #[v, .slice A 0 c]).run P w = .ok v w ∧ v' = v := by
  refine ⟨v, ?_, rfl⟩; rcases h.2 with ⟨rfl, rfl⟩ | ⟨g, cap, cur, rfl, _, _, hnc, _⟩
  · cases A <;> simp [Builtin.append_, run_underlying hu, run_sizeOf hi, Builtin.lenOf, Builtin.firstCells, loadCells, loadCellsFrom]
  · cases A <;> simp [Builtin.append_, run_underlying hu, run_sizeOf hi, Builtin.lenOf, Builtin.firstCells, hnc, storeCells, loadCells, loadCellsFrom]
theorem app {t e : TypeId} {sz by_ : Nat} {zv : Value} [h : SliceTy P t e sz] [hz : ZeroTy P e zv] [hby : BytesTy P e by_] {ty : TypeId} {cst : Array Bool} {v : Value} {n m c : Nat} {A : Option Addr} {xs news : List Value} {w : World} {K : VK}
    (hown : Own w v e sz n xs) (hs : Src w A m sz news) (h1 : ∀ u ∈ news, u.oneCell' = true) (hzs : (cellsL zv).length = sz) (hpos : 0 < sz) (hb : (n + m) * by_ ≤ 140737488355328) (h63 : n + m ≤ 9223372036854775807)
    (kk : ∀ v' w', Appd w v w' v' e sz (n + m) (xs ++ news) → K v' w') : BuiP P .append #[t, t] ty cst #[v, .slice A m c] K X w := by
  rw [BuiP_eq]; intro w0 hw; subst hw; obtain ⟨hu, i, hi, hsz⟩ := sliceOf_spec h.h; obtain ⟨i', hi', hzz⟩ := zeroOf_spec hz.h; rw [hi] at hi'; cases hi'
  have hbb : i.bytes = by_ := by have := hby.h; unfold bytesOf at this; rw [hi] at this; simpa using this
  have hrun : ∃ v' w', (Builtin.append_ #[t, t] ty #[v, .slice A m c]).run P w0 = .ok v' w' ∧ Appd (z w0) v (z w') v' e sz (n + m) (xs ++ news) := by
    have hown0 : w0.ownsRow 0 e sz v n xs := hown; rcases Nat.eq_zero_or_pos m with hm | hm
    · subst hm; obtain ⟨v', hr, e'⟩ := run_append_nil (ty := ty) hu hi hown0 A c; have : news = [] := List.eq_nil_of_length_eq_zero (by simpa using hs.1); subst this; exact ⟨v, w0, hr, by simpa using hown, .refl _ _, .inl rfl⟩
    · obtain ⟨b, o, rfl, hc⟩ := hs.2 hm
      obtain ⟨v', w', hr, ho, hg, _, hat⟩ := run_append_own_at (P := P) (w := w0) 0 t ty e i zv sz by_ hu hi hzz hsz hbb (by rw [cellsL_eq]; simpa using hzs) hpos v n xs hown0 (ad b o) m c news hs.1
        (fun j u hju => by rw [add_ad]; exact hc j u hju) h1 (by unfold maxLen; omega) hb (Nat.zero_le _)
      exact ⟨v', w', hr, ho, ⟨hg.os, hg.tape, hg.output, hg.size, fun k hk hD => hg.block k hk (fun e => hD e.symm)⟩, hat⟩
  obtain ⟨v', w', hr, ha⟩ := hrun; rw [show builtin .append #[t, t] ty cst #[v, .slice A m c] = vS (Builtin.append_ #[t, t] ty #[v, .slice A m c]) from rfl, run_vS, hr]; exact kk v' (z w') ha
theorem mslc {t e : TypeId} {sz by_ : Nat} {zv : Value} [h : SliceTy P t e sz] [hz : ZeroTy P e zv] [hby : BytesTy P e by_] {k1 k2 : IntKind} (n : Nat) {i j : Int} {w : World} {K : VK} (hi : i = n) (hj : j = n) (hb : by_ * n ≤ 140737488355328) (hn : n ≤ 9223372036854775807) (hzs : (cellsL zv).length = sz) (hpos : 0 < sz)
    (kk : ∀ g w', NewB w e ((List.replicate n (cellsL zv)).flatten) g w' → K (.slice (some (ad g 0)) n n) w') : MSlcP P t (.int k1 i) (.int k2 j) K w := by
  rw [MSlcP_eq]; intro w0 hw; subst hw; subst hi; subst hj; obtain ⟨hu, inf, hinf, hsz⟩ := sliceOf_spec h.h; obtain ⟨i', hi', hzz⟩ := zeroOf_spec hz.h; rw [hinf] at hi'; cases hi'
  have hbb : inf.bytes = by_ := by have := hby.h; unfold bytesOf at this; rw [hinf] at this; simpa using this
  have hbytes : (inf.bytes : Int) * (n : Int) ≤ 281474976710656 := by
    rw [hbb]; have : ((by_ * n : Nat) : Int) ≤ 140737488355328 := by omega
    rw [Int.natCast_mul] at this; omega
  have hr := run_make (P := P) w0 t e inf zv hu hinf hzz k1 k2 n n (by omega) (Int.le_refl _) hbytes (by omega); rw [run_vS, hr]
  have hcells : madeCells zv.cells ((n : Int).toNat * inf.size) = ((List.replicate n (cellsL zv)).flatten).toArray := by
    rw [hsz, Int.toNat_natCast, cellsL_eq]; apply Array.ext
    · simp [madeCells, hzs]
    · intro k h1 h2
      have hk : k < n * sz := by simpa [madeCells] using h1
      simp only [madeCells, Array.getElem_map, Array.getElem_range, List.getElem_toArray, List.size_toArray, hzs]
      have key : ∀ (n k : Nat) (l : List Value), l.length = sz → k < n * sz → (List.replicate n l).flatten[k]? = l[k % sz]? := by
        intro n
        induction n with
        | zero => intro k l _ hk; omega
        | succ n ih =>
          intro k l hl hk; rw [List.replicate_succ, List.flatten_cons]
          by_cases hlt : k < sz
          · rw [List.getElem?_append_left (by omega), Nat.mod_eq_of_lt hlt]
          · rw [List.getElem?_append_right (by omega), hl, ih (k - sz) l hl (by have : (n + 1) * sz = n * sz + sz := Nat.succ_mul n sz; omega), show k % sz = (k - sz) % sz from Nat.mod_eq_sub_mod (by omega)]
      have hm : k % sz < (cellsL zv).length := by rw [hzs]; exact Nat.mod_lt _ hpos
      have e1 := key n k (cellsL zv) hzs hk; rw [List.getElem?_eq_getElem (by simp [hzs]; exact hk), List.getElem?_eq_getElem hm] at e1; simp only [Option.some.injEq] at e1; rw [e1]; simp [hm]
  rw [hcells]; exact kk _ _ ⟨rfl, rfl⟩
section
variable {α : Type} {a : Ty α} {D : Nat → Prop} {w : World}
theorem Own.src {e : TypeId} {sz n cap : Nat} {A : Option Addr} {xs : List Value} (h : Own w (.slice A n cap) e sz n xs) : Src w A n sz xs := by
  refine ⟨h.1, fun hn => ?_⟩; rcases h.form with ⟨_, h0⟩ | ⟨g, cap', hv, _⟩
  · omega
  · injection hv with hv _ hc; subst hv; subst hc; obtain ⟨rest, hb, _, _⟩ := h.blk; exact ⟨g, 0, rfl, fun j _ hv => hb.cell (by rw [Nat.zero_add, List.getElem?_append_left (List.getElem?_eq_some_iff.1 hv).1]; exact hv)⟩
theorem Own.rd {A : Option Addr} {n cap : Nat} {e : TypeId} {cs : List Value} {xs : List α} (h : Own w (.slice A n cap) e a.sz n cs) (hf : FlatR a D w xs cs) (hn : n = xs.length) (hle : n ≤ 140737488355328) (hD : ∀ g, A = some (ad g 0) → D g) : SlR a D w A n xs := by
  rcases h.form with ⟨hv, h0⟩ | ⟨g, cap', hv, _⟩
  · subst h0; have : xs = [] := List.eq_nil_of_length_eq_zero hn.symm; subst this; exact .nil
  · injection hv with hv _ hc; subst hv; subst hc
    obtain ⟨b, o, hA, hc⟩ | hn0 : (∃ b o, some (ad g 0) = some (ad b o) ∧ CellsAt w b o cs) ∨ n = 0 := by
      rcases Nat.eq_zero_or_pos n with h0 | h0
      · exact .inr h0
      · exact .inl (h.src.2 h0)
    · simp only [Option.some.injEq, Addr.mk.injEq] at hA; obtain ⟨rfl, rfl, _⟩ := hA; exact .of_cells hn hle (hD _ rfl) hc hf
    · subst hn0; have : xs = [] := List.eq_nil_of_length_eq_zero hn.symm; subst this; exact .nil
end
end
end Go.Proofs.YtehcphboliofaaaGreatDoor
