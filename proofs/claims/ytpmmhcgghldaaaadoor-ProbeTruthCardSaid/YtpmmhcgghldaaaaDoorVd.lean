/- Own layer, part d: V is sound; a function's contract out of V; the rule for a loop. Nothing of the program stands here. -/
import Derived.Test.YtpmmhcgghldaaaaDoorVc
namespace Go.Proofs.YtpmmhcgghldaaaaDoor
open Go

section
variable {P : Program} {n : Nat}

theorem Agr.eval {a : Act} {F : Fr} {ds : List Deferred} (h : Agr n a F ds) : a.eval = ev F := funext fun x => by
  cases x with
  | tmp t => exact h.2.1 t
  | _ => rfl
theorem Agr.put {a : Act} {F : Fr} {ds : List Deferred} (h : Agr n a F ds) {d : Option Nat} (hd : ∀ j, d = some j → j < n) (v : Value) : Agr n (a.put d v) (updO F d v) ds := by
  obtain ⟨h1, h2, h3⟩ := h
  cases d with
  | none => exact ⟨h1, h2, h3⟩
  | some d =>
    have hlt := hd d rfl
    refine ⟨by simpa [Act.put] using h1, fun t => ?_, h3⟩
    show (a.tmps.setIfInBounds d v).getD t undef = (bif Nat.beq t d then v else F t)
    cases hb : Nat.beq t d with
    | true =>
      obtain rfl := Nat.eq_of_beq_eq_true hb
      simp [h1, hlt]
    | false =>
      have hne : d ≠ t := fun e => by subst e; rw [Nat.beq_refl] at hb; cases hb
      rw [← h2 t]
      simp [Array.getElem?_setIfInBounds_ne hne]

theorem yielded_eq {a : Act} {F : Fr} {ds : List Deferred} (h : Agr n a F ds) (ops : Array Oper) (j : Nat) :
    yielded ops a.tmps j = match (ops.toList[j]?).bind (·.dst) with | some d => (match F d with | .bool b => some b | _ => none) | none => none := by
  unfold yielded
  rw [Array.getElem?_toList]
  cases hd : (ops[j]?).bind (·.dst) with
  | none => rfl
  | some d =>
    have h2 := h.2.1 d
    simp only [Option.bind_some]
    cases ht : a.tmps[d]? with
    | none =>
      rw [Array.getD_eq_getD_getElem?, ht] at h2
      rw [← h2]; rfl
    | some v =>
      rw [Array.getD_eq_getD_getElem?, ht] at h2
      have h2 : v = F d := h2
      subst h2
      cases F d <;> rfl

theorem VGuard_sound {ops : Array Oper} {o : Oper} {a : Act} {F : Fr} {ds : List Deferred} {A B : Prop} (hg : Agr n a F ds) (h : VGuard ops.toList o F A B) :
    if Region.wanted o (yielded ops a.tmps) = true then A else B := by
  unfold VGuard at h
  unfold Region.wanted
  split at h
  · rename_i hn; simp only [hn, if_true]; exact h
  · rename_i j want hs
    simp only [hs, yielded_eq hg]
    split at h
    · rename_i d hd
      simp only [hd]
      split at h
      · rename_i hk
        simp only [hk]
        cases want with
        | true => simpa using h
        | false => simpa using h
      · rename_i hk
        simp only [hk]
        cases want with
        | true => simpa using h
        | false => simpa using h
      · rename_i hno1 hno2
        have : (match F d with | .bool b => some b | _ => none) = none := by
          cases hF : F d with
          | bool b => cases b <;> first | exact (hno1 hF).elim | exact (hno2 hF).elim
          | _ => rfl
        rw [this]; simpa using h
    · rename_i hno
      simp only [hno]
      simpa using h

theorem wfL_spec {ops : List Oper} (h : wfL n ops = true) : ∀ o ∈ ops, ∀ j, o.dst = some j → j < n := fun o ho j hj => by
  have := List.all_eq_true.1 h o ho
  rw [hj] at this
  simpa using this
def KQ (n : Nat) (K : KK) : Exit → Act → World → Prop := fun e a' w' => ∃ F', Agr n a' F' a'.defers ∧ K e F' a'.defers (z w')

theorem VOps_sound {ops : Array Oper} {K : KK} {ds : List Deferred} {r : Option Nat} (hwf : ∀ o ∈ ops.toList, ∀ j, o.dst = some j → j < n) : ∀ (os : List Oper) (F : Fr) (w0 : World) (a : Act), (∀ o ∈ os, o ∈ ops.toList) →
    Agr n a F ds → VOps P ops.toList (fun F' w' => K .normal F' ds w') os F (z w0) → wpListIn (Fw r) 0 P ops (KQ n K) os a w0
  | [], F, w0, a, _, hg, h => ⟨F, by obtain ⟨h1, h2, h3⟩ := hg; subst h3; exact ⟨⟨h1, h2, rfl⟩, h⟩⟩
  | o :: os, F, w0, a, hs, hg, h => by
    have hd := hwf o (hs o List.mem_cons_self)
    have hr : ∀ o' ∈ os, o' ∈ ops.toList := fun o' h' => hs o' (List.mem_cons_of_mem _ h')
    have h := VGuard_sound hg h
    show if _ then _ else _
    split
    · rename_i hw
      rw [if_pos hw] at h
      have h1 := VOp_sound h
      rw [← hg.eval] at h1
      refine Oper.wpIn_mono (fun a' w' hh => hh) (upon_wp (K := fun a' w' => ∀ w1, z w1 = w' → wpListIn (Fw r) 0 P ops (KQ n K) os a' w1) (h1.mono fun v w' hv w1 e => ?_)) |> fun hh => Oper.wpIn_mono (fun a' w' hh => hh w' rfl) hh
      subst e
      rw [fv_eq] at hv
      exact VOps_sound hwf os _ w1 _ hr (hg.put hd v) hv
    · rename_i hw
      rw [if_neg hw] at h
      exact ⟨fun _ _ => trivial, VOps_sound hwf os _ w0 _ hr (hg.put hd undef) h⟩

theorem preds_spec {ops : Array Oper} {b i : Nat} {o : Oper} (hb : ops[b]? = some o) (h : (preds ops b).testBit i = true) : ∃ e ∈ o.after, Region.binds .any e = true ∧ e.on = i := by
  unfold preds at h
  rw [hb] at h
  have key : ∀ l : List Edge, (l.foldr (fun e m => bif Region.binds .any e then Nat.lor m (Nat.shiftLeft 1 e.on) else m) 0).testBit i = true → ∃ e ∈ l, Region.binds .any e = true ∧ e.on = i := by
    intro l
    induction l with
    | nil => intro h; simp at h
    | cons e r ih =>
      intro h
      rw [List.foldr_cons] at h
      cases hbe : Region.binds .any e with
      | false => rw [hbe] at h; obtain ⟨x, hx, h2⟩ := ih h; exact ⟨x, List.mem_cons_of_mem _ hx, h2⟩
      | true =>
        rw [hbe] at h
        have h : ((r.foldr (fun e m => bif Region.binds .any e then Nat.lor m (Nat.shiftLeft 1 e.on) else m) 0) ||| (1 <<< e.on)).testBit i = true := h
        rw [Nat.testBit_or, Bool.or_eq_true, Nat.one_shiftLeft, Nat.testBit_two_pow, decide_eq_true_iff] at h
        rcases h with h | h
        · obtain ⟨x, hx, h2⟩ := ih h; exact ⟨x, List.mem_cons_of_mem _ hx, h2⟩
        · exact ⟨e, List.mem_cons_self, hbe, h⟩
  obtain ⟨e, he, h2⟩ := key _ h
  exact ⟨e, by simpa using he, h2⟩
theorem preds_listed {ops : Array Oper} {b : Nat} {l : Array Bool} (h : ∀ o, ops[b]? = some o → ∀ e ∈ o.after, Region.binds .any e = true → l.getD e.on false = true) : ∀ i, (preds ops b).testBit i = true → l.getD i false = true := fun i hi => by
  cases ho : ops[b]? with
  | none => unfold preds at hi; rw [ho] at hi; simp at hi
  | some o => obtain ⟨e, he, h1, h2⟩ := preds_spec ho hi; rw [← h2]; exact h o ho e he h1
theorem ancs_listed {ops : Array Oper} {l : Array Bool} (hc : Cl .any ops l) : ∀ (n m : Nat), (∀ i, m.testBit i = true → l.getD i false = true) → ∀ i, (ancs ops n m).testBit i = true → l.getD i false = true
  | 0, m, h, i, hi => h i hi
  | n + 1, m, h, i, hi => by
    refine ancs_listed hc n _ (fun k hk => ?_) i hi
    have hk : (m ||| predsOf ops m (List.range ops.size)).testBit k = true := hk
    rw [Nat.testBit_or, Bool.or_eq_true] at hk
    rcases hk with hk | hk
    · exact h k hk
    · have key : ∀ ks : List Nat, (predsOf ops m ks).testBit k = true → l.getD k false = true := by
        intro ks
        induction ks with
        | nil => intro h; simp [predsOf] at h
        | cons x r ih =>
          intro hx
          unfold predsOf at hx
          cases hm : Nat.testBit m x with
          | false => rw [hm] at hx; exact ih hx
          | true =>
            rw [hm] at hx
            have hx : (preds ops x ||| predsOf ops m r).testBit k = true := hx
            rw [Nat.testBit_or, Bool.or_eq_true] at hx
            rcases hx with hx | hx
            · exact preds_listed (fun o ho e he hb => hc x o ho (h x hm) e he hb) k hx
            · exact ih hx
      exact key _ hk
theorem hasEdge_spec {ops : Array Oper} {b i : Nat} (h : hasEdge ops b i = true) (l : Array Bool) (hc : Cl .any ops l) (hb : b ∈ Region.ready .any ops l) : l.getD i false = true := by
  unfold hasEdge at h
  refine ancs_listed hc 8 _ (preds_listed fun o ho e he hbe => ?_) i h
  obtain ⟨_, o', ho', hall⟩ := mem_ready.1 hb
  rw [ho] at ho'; injection ho' with ho'; subst ho'
  exact hall e he hbe
theorem VPlan_sound {ops : Array Oper} {K : Fr → World → Prop} {ds : List Deferred} (hwf : ∀ o ∈ ops.toList, ∀ j, o.dst = some j → j < n) (hsel : Region.noSelect ops = true) : ∀ (p : Plan) (B : List Nat) (l : Array Bool) (S : World → Prop) (F : Fr) (w : World) (a : Act) (fuel : Nat),
    p.len ≤ fuel → Cl .any ops l → S w → Agr n a F ds → VPlan P ops.toList K p S F w →
    (planOk ops true B p l = true → anyZ P .any ops (fun a' w' => ∃ F', Agr n a' F' ds ∧ K F' w') B S fuel l a w) ∧
    (planOk ops false B p l = true → ∀ i ∈ p.idx, i ∈ Region.ready .any ops l → opZ P ops i (fun a' w' => (hasB B (l.setIfInBounds i true) = false → S w') ∧ anyZ P .any ops (fun a' w' => ∃ F', Agr n a' F' ds ∧ K F' w') B S (fuel - 1) (l.setIfInBounds i true) a' w') a w)
  | .done, B, l, S, F, w, a, fuel, hl, hCl, hS, hg, h => ⟨fun hk => anyZ_done (by simpa [planOk] using hk) ⟨F, hg, h⟩ fuel, fun hk => by simp [planOk] at hk⟩
  | .take i p, B, l, S, F, w, a, fuel, hl, hCl, hS, hg, h => ⟨fun hk => by
      simp only [planOk, Bool.true_and, Bool.and_eq_true] at hk
      obtain ⟨⟨⟨hr, hf⟩, hcase⟩, hp⟩ := hk
      have hCl' := hCl.set (i := i) (by simpa using hr)
      rw [Bool.or_eq_true, Bool.and_eq_true, Bool.and_eq_true] at hcase
      rw [VPlan_take] at h
      split at h
      · rename_i o hi
        have ho : ops[i]? = some o := by simpa using hi
        have hd := hwf o (List.mem_of_getElem? hi)
        have h := VGuard_sound hg h
        obtain ⟨fuel, rfl⟩ : ∃ f, fuel = f + 1 := ⟨fuel - 1, by simp [Plan.len] at hl; omega⟩
        have hl' : p.len ≤ fuel := by simp [Plan.len] at hl; omega
        rcases hcase with ⟨hpu, hniB⟩ | ⟨hnB, hall⟩
        · have hpo : pureOp o = true := by unfold pureAt at hpu; rw [ho] at hpu; exact hpu
          have hiB : i ∉ B := fun hm => by
            have : B.any (Nat.beq i) = true := List.any_eq_true.2 ⟨i, hm, Nat.beq_refl i⟩
            rw [this] at hniB; cases hniB
          by_cases hw : Region.wanted o (yielded ops a.tmps) = true
          · rw [if_pos hw] at h
            obtain ⟨v, hv, hk⟩ := VQuiet_pure hpo h
            rw [fv_eq] at hk
            rw [← hg.eval] at hv
            exact anyZ_takeP ho hsel hf hr hiB (.inl ⟨hw, hv⟩) hS ((VPlan_sound hwf hsel p B _ S _ w _ fuel hl' hCl' hS (hg.put hd v) hk).1 hp)
          · rw [if_neg hw] at h
            exact anyZ_takeP ho hsel hf hr hiB (.inr ⟨by simpa using hw, rfl⟩) hS ((VPlan_sound hwf hsel p B _ S _ w _ fuel hl' hCl' hS (hg.put hd undef) h).1 hp)
        · have hiB : ∀ b ∈ B, ∀ l, Cl .any ops l → b ∈ Region.ready .any ops l → l.getD i false = true := fun b hb l hc hbr => hasEdge_spec (List.all_eq_true.1 hall b hb) l hc hbr
          have hnB : hasB B l = false := by simpa using hnB
          by_cases hw : Region.wanted o (yielded ops a.tmps) = true
          · rw [if_pos hw] at h
            obtain ⟨v, hv, hk⟩ := VQuiet_sound h
            rw [fv_eq] at hk
            rw [← hg.eval] at hv
            exact anyZ_take ho hsel hf hr hiB hnB hCl (.inl ⟨hw, hv⟩) hS ((VPlan_sound hwf hsel p B _ S _ w _ fuel hl' hCl' hS (hg.put hd v) hk).1 hp)
          · rw [if_neg hw] at h
            exact anyZ_take ho hsel hf hr hiB hnB hCl (.inr ⟨by simpa using hw, rfl⟩) hS ((VPlan_sound hwf hsel p B _ S _ w _ fuel hl' hCl' hS (hg.put hd undef) h).1 hp)
      · exact h.elim, fun hk => by simp [planOk] at hk⟩
  | .eff i p, B, l, S, F, w, a, fuel, hl, hCl, hS, hg, h => by
      have hone : i ∈ Region.ready .any ops l → planOk ops true B p (l.setIfInBounds i true) = true → opZ P ops i (fun a' w' => (hasB B (l.setIfInBounds i true) = false → S w') ∧ anyZ P .any ops (fun a' w' => ∃ F', Agr n a' F' ds ∧ K F' w') B S (fuel - 1) (l.setIfInBounds i true) a' w') a w := fun hir hp => by
        rw [VPlan_eff] at h
        split at h
        · rename_i o hi
          have ho : ops[i]? = some o := by simpa using hi
          have hd := hwf o (List.mem_of_getElem? hi)
          have h := VGuard_sound hg h
          have hl' : p.len ≤ fuel - 1 := by simp [Plan.len] at hl; omega
          have fin : ∀ v w', StrP S w' (fun S' => VPlan P ops.toList K p S' (updO F o.dst v) w') → (hasB B (l.setIfInBounds i true) = false → S w') ∧ anyZ P .any ops (fun a' w' => ∃ F', Agr n a' F' ds ∧ K F' w') B S (fuel - 1) (l.setIfInBounds i true) (a.put o.dst v) w' := fun v w' hv => by
            rw [StrP_eq] at hv
            obtain ⟨S', h1, h2, h3⟩ := hv
            exact ⟨fun _ => h2 _ h1, anyZ_weak h2 _ _ _ _ ((VPlan_sound hwf hsel p B _ S' _ w' _ (fuel - 1) hl' (hCl.set hir) h1 (hg.put hd v) h3).1 hp)⟩
          unfold opZ
          simp only [ho]
          split
          · rename_i hw
            rw [if_pos hw] at h
            have h1 := VOp_sound h
            rw [← hg.eval] at h1
            exact h1.mono fun v w' hv => fin v w' (by rw [fv_eq] at hv; exact hv)
          · rename_i hw
            rw [if_neg hw] at h
            exact fin undef w h
        · exact h.elim
      refine ⟨fun hk => ?_, fun hk i' hi' hir' => ?_⟩
      · simp only [planOk, Bool.not_true, Bool.false_or, Bool.and_eq_true, beq_iff_eq] at hk
        obtain ⟨fuel, rfl⟩ : ∃ f, fuel = f + 1 := ⟨fuel - 1, by simp [Plan.len] at hl; omega⟩
        refine anyZ_all hk.1 (by simp) fun j hj => ?_
        obtain rfl : j = i := by simpa using hj
        exact hone (by rw [hk.1]; exact List.mem_cons_self) hk.2
      · simp only [planOk, Bool.not_false, Bool.true_or, Bool.true_and] at hk
        obtain rfl : i' = i := by simpa [Plan.idx] using hi'
        exact hone hir' hk
  | .alt i p q, B, l, S, F, w, a, fuel, hl, hCl, hS, hg, h => by
      rw [VPlan_alt] at h
      obtain ⟨h, hq⟩ := h
      have hlp : p.len + 1 ≤ fuel := by simp [Plan.len] at hl; omega
      have hlq : q.len ≤ fuel := by simp [Plan.len] at hl; omega
      have hone : i ∈ Region.ready .any ops l → planOk ops true B p (l.setIfInBounds i true) = true → opZ P ops i (fun a' w' => (hasB B (l.setIfInBounds i true) = false → S w') ∧ anyZ P .any ops (fun a' w' => ∃ F', Agr n a' F' ds ∧ K F' w') B S (fuel - 1) (l.setIfInBounds i true) a' w') a w := fun hir hp => by
        split at h
        · rename_i o hi
          have ho : ops[i]? = some o := by simpa using hi
          have hd := hwf o (List.mem_of_getElem? hi)
          have h := VGuard_sound hg h
          have hl' : p.len ≤ fuel - 1 := by omega
          have fin : ∀ v w', StrP S w' (fun S' => VPlan P ops.toList K p S' (updO F o.dst v) w') → (hasB B (l.setIfInBounds i true) = false → S w') ∧ anyZ P .any ops (fun a' w' => ∃ F', Agr n a' F' ds ∧ K F' w') B S (fuel - 1) (l.setIfInBounds i true) (a.put o.dst v) w' := fun v w' hv => by
            rw [StrP_eq] at hv
            obtain ⟨S', h1, h2, h3⟩ := hv
            exact ⟨fun _ => h2 _ h1, anyZ_weak h2 _ _ _ _ ((VPlan_sound hwf hsel p B _ S' _ w' _ (fuel - 1) hl' (hCl.set hir) h1 (hg.put hd v) h3).1 hp)⟩
          unfold opZ
          simp only [ho]
          split
          · rename_i hw
            rw [if_pos hw] at h
            have h1 := VOp_sound h
            rw [← hg.eval] at h1
            exact h1.mono fun v w' hv => fin v w' (by rw [fv_eq] at hv; exact hv)
          · rename_i hw
            rw [if_neg hw] at h
            exact fin undef w h
        · exact h.elim
      have hrest := (VPlan_sound hwf hsel q B l S F w a fuel hlq hCl hS hg hq).2
      refine ⟨fun hk => ?_, fun hk i' hi' hir' => ?_⟩
      · simp only [planOk, Bool.not_true, Bool.false_or, Bool.and_eq_true, beq_iff_eq] at hk
        obtain ⟨⟨h1, h2⟩, h3⟩ := hk
        obtain ⟨fuel, rfl⟩ : ∃ f, fuel = f + 1 := ⟨fuel - 1, by omega⟩
        refine anyZ_all h1 (by simp) fun j hj => ?_
        rcases List.mem_cons.1 hj with rfl | hj
        · exact hone (by rw [h1]; exact List.mem_cons_self) h2
        · exact hrest h3 j hj (by rw [h1]; exact List.mem_cons_of_mem _ hj)
      · simp only [planOk, Bool.not_false, Bool.true_or, Bool.true_and, Bool.and_eq_true] at hk
        rcases List.mem_cons.1 hi' with rfl | hj
        · exact hone hir' hk.1
        · exact hrest hk.2 i' hj hir'
  | .bar p, B, l, S, F, w, a, fuel, hl, hCl, hS, hg, h => ⟨fun hk => by
      simp only [planOk, Bool.true_and, Bool.and_eq_true] at hk
      obtain ⟨hall, hp⟩ := hk
      rw [VPlan_bar] at h
      obtain ⟨S', h1, h2⟩ := h
      refine anyZ_bar fuel l a w (fun i hi => ?_) ((VPlan_sound hwf hsel p [] l S' F w a fuel hl hCl h1 hg h2).1 hp)
      have hlt : i < l.size := by
        rcases Nat.lt_or_ge i l.size with h' | h'
        · exact h'
        · simp [Array.getElem?_eq_none h'] at hi
      have := List.all_eq_true.1 hall i (List.mem_range.2 hlt)
      rw [hi, Bool.false_or, List.any_eq_true] at this
      obtain ⟨x, hx, hxe⟩ := this
      rw [Nat.eq_of_beq_eq_true hxe]; exact hx, fun hk => by simp [planOk] at hk⟩

theorem exists_least {p : Nat → Prop} : ∀ n, p n → ∃ m, p m ∧ ∀ k, p k → m ≤ k := by
  intro n
  induction n using Nat.strongRecOn with
  | _ n ih =>
    intro hn
    by_cases h : ∃ k, k < n ∧ p k
    · obtain ⟨k, hk, hp⟩ := h; exact ih k hk hp
    · exact ⟨n, hn, fun k hk => Nat.le_of_not_lt fun hlt => h ⟨k, hlt, hk⟩⟩
open Classical in
noncomputable def leastN (p : Nat → Prop) : Nat := if h : ∃ n, p n then Classical.choose (exists_least h.choose h.choose_spec) else 0
theorem leastN_spec {p : Nat → Prop} (h : ∃ n, p n) : p (leastN p) := by
  unfold leastN; rw [dif_pos h]; exact (Classical.choose_spec (exists_least h.choose h.choose_spec)).1
theorem leastN_le {p : Nat → Prop} {n : Nat} (h : p n) : leastN p ≤ n := by
  have hx : ∃ n, p n := ⟨n, h⟩
  unfold leastN; rw [dif_pos hx]; exact (Classical.choose_spec (exists_least hx.choose hx.choose_spec)).2 n h

theorem V_sound : ∀ (c : Code), wfC n c = true → ∀ (K : KK) (F : Fr) (ds : List Deferred) (w0 : World) (r : Option Nat) (a : Act), (r = none ∨ noRange c = true) → Agr n a F ds → V P c K F ds (z w0) → c.wpIn (Fw r) 0 P (KQ n K) a w0
  | .skip, _, K, F, ds, w0, r, a, hr, hg, h => wpIn_skip ⟨F, by obtain ⟨h1, h2, rfl⟩ := hg; exact ⟨⟨h1, h2, rfl⟩, h⟩⟩
  | .label _, _, K, F, ds, w0, r, a, hr, hg, h => wpIn_label ⟨F, by obtain ⟨h1, h2, rfl⟩ := hg; exact ⟨⟨h1, h2, rfl⟩, h⟩⟩
  | .exit _, _, K, F, ds, w0, r, a, hr, hg, h => wpIn_exit ⟨F, by obtain ⟨h1, h2, rfl⟩ := hg; exact ⟨⟨h1, h2, rfl⟩, h⟩⟩
  | .ret, _, K, F, ds, w0, r, a, hr, hg, h => wpIn_ret ⟨F, by obtain ⟨h1, h2, rfl⟩ := hg; exact ⟨⟨h1, h2, rfl⟩, h⟩⟩
  | .seq x y, hwf, K, F, ds, w0, r, a, hr, hg, h => by
    obtain ⟨hx, hy⟩ := bothT hwf
    refine wpIn_seq (wpIn_mono (V_sound x hx _ F ds w0 r a (hr.imp id fun h => (bothT h).1) hg h) fun e a' w' hq => ?_)
    obtain ⟨F', hg', hk⟩ := hq
    cases e with
    | normal => exact V_sound y hy K F' _ w' r a' (hr.imp id fun h => (bothT h).2) hg' hk
    | _ => exact ⟨F', hg', hk⟩
  | .cond c x y, hwf, K, F, ds, w0, r, a, hr, hg, h => by
    obtain ⟨hx, hy⟩ := bothT hwf
    rw [V_cond] at h
    split at h
    · rename_i ht
      exact wpIn_cond_split (t := true) (by rw [hg.eval]; exact ht) (fun e => V_sound x hx K F ds w0 r a (hr.imp id fun h => (bothT h).1) hg h) (fun e => by cases e)
    · rename_i ht
      exact wpIn_cond_split (t := false) (by rw [hg.eval]; exact ht) (fun e => by cases e) (fun e => V_sound y hy K F ds w0 r a (hr.imp id fun h => (bothT h).2) hg h)
    · exact h.elim
  | .block id c, hwf, K, F, ds, w0, r, a, hr, hg, h => by
    refine wpIn_block (wpIn_mono (V_sound c hwf _ F ds w0 r a hr hg h) fun e a' w' hq => ?_)
    obtain ⟨F', hg', hk⟩ := hq
    cases e with
    | exit i =>
      show if i = id then _ else _
      split
      · rename_i hi
        subst hi
        simp only [Nat.beq_refl, cond_true] at hk
        exact ⟨F', hg', hk⟩
      · rename_i hi
        have : Nat.beq i id = false := by
          cases hb : Nat.beq i id with
          | true => exact absurd (Nat.eq_of_beq_eq_true hb) hi
          | false => rfl
        simp only [this, cond_false] at hk
        exact ⟨F', hg', hk⟩
    | _ => exact ⟨F', hg', hk⟩
  | .region _ ops false, hwf, K, F, ds, w0, r, a, hr, hg, h => wpIn_region_list (VOps_sound (wfL_spec hwf) ops.toList F w0 a (fun _ ho => ho) hg h)
  | .region _ ops true, hwf, K, F, ds, w0, r, a, hr, hg, h => by
    rw [V_draw, DrawH_eq] at h
    obtain ⟨hm, p, B, S, hok, hS, hp⟩ := h
    unfold drawOk at hok
    obtain ⟨⟨h1, h2⟩, h3⟩ : (Region.noSelect ops = true ∧ planOk ops true B p (Array.replicate ops.size false) = true) ∧ Nat.ble p.len ops.size = true := by
      have := bothT hok; exact ⟨bothT this.1, this.2⟩
    refine wp_region_any (Q := fun a' w' => ∃ F', Agr n a' F' ds ∧ K .normal F' ds w') hm (fun a' w' hq => ?_) ((VPlan_sound (wfL_spec hwf) h1 p B _ S F _ a _ (Nat.le_of_ble_eq_true h3) (Cl.start _) hS hg hp).1 h2)
    obtain ⟨F', ⟨g1, g2, g3⟩, hk⟩ := hq
    subst g3
    exact ⟨F', ⟨g1, g2, rfl⟩, hk⟩
  | .loop c, hwf, K, F, ds, w0, r, a, hr, hg, h => by
    rw [V_loop, LoopH_eq] at h
    obtain ⟨I, ⟨n0, h0⟩, hs⟩ := h
    let J : Act → World → Nat → Prop := fun a' w' m => ∃ F' ds', Agr n a' F' ds' ∧ I m F' ds' (z w')
    refine wpIn_loop (fun a' w' => ∃ m, J a' w' m) (fun a' w' => leastN (J a' w')) ⟨n0, F, ds, hg, h0⟩ fun a1 w1 hex => ?_
    obtain ⟨F1, ds1, hg1, hi⟩ := leastN_spec hex
    refine wpIn_mono (V_sound c hwf _ F1 ds1 w1 r a1 hr hg1 (hs _ F1 ds1 (z w1) hi)) fun e a' w' hq => ?_
    obtain ⟨F', hg', hk⟩ := hq
    cases e with
    | normal =>
      obtain ⟨m, hm, hi'⟩ := hk
      exact ⟨⟨m, F', _, hg', hi'⟩, Nat.lt_of_le_of_lt (leastN_le ⟨F', _, hg', hi'⟩) hm⟩
    | _ => exact ⟨F', hg', hk⟩
  | .rangeFunc g ps as b, hwf, K, F, ds, w0, r, a, hr, hg, h => by
    rw [V_range, RangeH_eq] at h
    obtain rfl := hr.resolve_right (by simp [noRange])
    refine wpIn_mono (h a w0 rfl hg.2.1 hg.2.2 (by rw [hg.1]; exact hwf)) fun e a' w' ⟨h1, h2⟩ => ⟨F, ⟨by rw [h1]; exact hg.1, by rw [h1]; exact hg.2.1, rfl⟩, h2⟩
  | .scope _, _, _, _, _, _, _, _, _, _, h => h.elim
  | .goto _, _, _, _, _, _, _, _, _, _, h => h.elim
  | .refuse _, _, _, _, _, _, _, _, _, _, h => h.elim

/-! ### a function -/
/-- The variable at 'ad' of type t holds v. -/
def Holds (P : Program) (t : TypeId) (ad : Addr) (w : World) (v : Value) : Prop := ∀ w0, z w0 = w → (loadVar t ad).run P w0 = .ok v w0
structure ResLP (P : Program) (t : TypeId) (x : Value) (w : World) (K : Value → Prop) : Prop where
  of_ ::
  un_ : ∃ ad v, x = .pointer (some ad) ∧ Holds P t ad w v ∧ K v
theorem ResLP_eq {P : Program} {t : TypeId} {x : Value} {w : World} {K : Value → Prop} : ResLP P t x w K = (∃ ad v, x = .pointer (some ad) ∧ Holds P t ad w v ∧ K v) := propext ⟨fun h => h.un_, fun h => ⟨h⟩⟩
def VRes (P : Program) (F : Fr) (w : World) : List ResultVar → List Value → (List Value → Prop) → Prop
  | [], acc, K => K acc.reverse
  | .tmp t :: r, acc, K => VRes P F w r (F t :: acc) K
  | .cell t ty :: r, acc, K => ResLP P ty (F t) w (fun v => VRes P F w r (v :: acc) K)
def resV : List Value → Value
  | [v] => v
  | vs => .tuple vs.toArray
/-- The world once the marks of the ranges over functions have been taken. -/
def shutMarks : List Deferred → World → Option World
  | [], w => some w
  | d :: ds, w => match d.target with
    | .collected r => match w.heap[r]? with
      | some (.deferred (some [])) => shutMarks ds { w with heap := w.heap.setIfInBounds r (.deferred none) }
      | _ => none
    | _ => none
structure RetP (P : Program) (rs : List ResultVar) (F : Fr) (ds : List Deferred) (R : VK) (w : World) : Prop where
  of_ ::
  un_ :
  ∃ w', shutMarks ds w = some w' ∧ VRes P F w' rs [] (fun vs => R (resV vs) w')
theorem RetP_eq {P : Program} {rs : List ResultVar} {F : Fr} {ds : List Deferred} {R : VK} {w : World} : RetP P rs F ds R w = (∃ w', shutMarks ds w = some w' ∧ VRes P F w' rs [] (fun vs => R (resV vs) w')) := propext ⟨fun h => h.un_, fun h => ⟨h⟩⟩
def Kend (P : Program) (rs : List ResultVar) (R : VK) : KK := fun e F ds w => match e with
  | .normal | .ret => RetP P rs F ds R w
  | _ => False
def init : List Value → Fr
  | [] => fun _ => undef
  | v :: r => fun j => match j with | 0 => v | j + 1 => init r j
theorem init_getD : ∀ (l : List Value) (j : Nat), init l j = l.getD j undef
  | [], j => by simp [init]
  | v :: r, 0 => rfl
  | v :: r, j + 1 => by simpa [init] using init_getD r j

theorem run_takeD {r : Nat} {w : World} (h : w.heap[r]? = some (.deferred (some []))) : (Instr.takeDeferred r).run P w = .ok [] { w with heap := w.heap.setIfInBounds r (.deferred none) } := by
  simp [Instr.takeDeferred, getObj, setObj, Sem.run, h, Bind.bind, Sem.bind]

def resItem (tmps : Array Value) : ResultVar → Sem Value
  | .tmp t => pure (tmps.getD t undef)
  | .cell ad t => do loadVar t (← asAddr (tmps.getD ad undef))

theorem VRes_sound {a : Act} {F : Fr} (hF : ∀ t, a.tmps.getD t undef = F t) {w0 : World} : ∀ (rs : List ResultVar) (acc : List Value) (K : List Value → Prop), VRes P F (z w0) rs acc K →
    ∃ vs, (rs.mapM (resItem a.tmps)).run P w0 = .ok vs w0 ∧ K (acc.reverse ++ vs)
  | [], acc, K, h => ⟨[], rfl, by simpa [VRes] using h⟩
  | .tmp t :: r, acc, K, h => by
    obtain ⟨vs, hr, hk⟩ := VRes_sound hF r _ K h
    refine ⟨F t :: vs, ?_, by simpa using hk⟩
    simp only [List.mapM_cons, Sem.run_bind, resItem, Sem.run_pure, Result.andThen_ok, hr]
    rw [hF]
  | .cell t ty :: r, acc, K, h => by
    unfold VRes at h; rw [ResLP_eq] at h
    obtain ⟨ad, v, hx, hv, hk⟩ := h
    obtain ⟨vs, hr, hk⟩ := VRes_sound hF r _ K hk
    refine ⟨v :: vs, ?_, by simpa using hk⟩
    have h1 := hv w0 rfl
    have h2 : (asAddr (a.tmps.getD t undef)).run P w0 = .ok ad w0 := by rw [hF, hx]; rfl
    simp only [List.mapM_cons, Sem.run_bind, resItem, h2, Sem.run_pure, Result.andThen_ok, h1, hr]

theorem results_run {fn : Func} {a : Act} {vs : List Value} {w0 : World} (h : (fn.results.toList.mapM (resItem a.tmps)).run P w0 = .ok vs w0) :
    (results fn a.tmps).run P w0 = .ok (resV vs) w0 := by
  have e : results fn a.tmps = (do let vs ← fn.results.mapM (resItem a.tmps); pure (if h : vs.size = 1 then vs[0] else .tuple vs)) := by
    unfold results
    congr 1
  rw [e, Sem.run_bind, Array.mapM_eq_mapM_toList, Sem.run_map, h]
  simp only [Result.andThen_ok]
  cases vs with
  | nil => rfl
  | cons v r => cases r <;> rfl

theorem leaves_sound {fn : Func} {a : Act} {R : VK} {F : Fr} (hF : ∀ t, a.tmps.getD t undef = F t) : ∀ (ds : List Deferred) (w0 w' : World), shutMarks ds (z w0) = some w' →
    VRes P F w' fn.results.toList [] (fun vs => R (resV vs) w') → LeavesInM Fence.wide 0 P fn a.tmps (fun e w1 => ∃ v, e = .returned v ∧ R v (z w1)) ds .returning w0
  | [], w0, w', hs, h => by
    have e : w' = z w0 := by simpa [shutMarks] using hs.symm
    subst e
    obtain ⟨vs, hr, hk⟩ := VRes_sound hF fn.results.toList [] _ h
    exact ⟨resV vs, results_run hr, resV vs, rfl, by simpa using hk⟩
  | d :: ds, w0, w', hs, h => by
    unfold shutMarks at hs
    split at hs
    · rename_i r ht
      split at hs
      · rename_i hb
        refine ⟨by simp, .inl ⟨r, _, ht, run_takeD hb, ?_⟩⟩
        exact leaves_sound hF ds _ w' hs h
      · cases hs
    · cases hs

def body (f : Func) : Code := match f.body with | some c => c | none => .skip
def fnOk (fn : Func) (k : Nat) : Bool := wfC fn.ntmps (body fn) && fn.body.isSome && Nat.ble k fn.ntmps

/-- A FUNCTION's CONTRACT: what V asks of its body. -/
theorem fn_rule {f : FuncId} {fn : Func} {args : List Value} {w : World} {R : VK} (hf : P.funcs[f]? = some fn) (hok : fnOk fn args.length = true)
    (h : V P (body fn) (Kend P fn.results.toList R) (init args) [] w) : CallZ P f args.toArray w R := by
  unfold fnOk at hok
  obtain ⟨⟨hwf, hs⟩, hle⟩ : (wfC fn.ntmps (body fn) = true ∧ fn.body.isSome = true) ∧ Nat.ble args.length fn.ntmps = true := by
    have := bothT hok; exact ⟨bothT this.1, this.2⟩
  have hle := Nat.le_of_ble_eq_true hle
  obtain ⟨c, hc⟩ := Option.isSome_iff_exists.1 hs
  have hb : body fn = c := by simp [body, hc]
  rw [hb] at h hwf
  intro w0 hw
  subst hw
  have hg : Agr fn.ntmps { tmps := args.toArray ++ Array.replicate (fn.ntmps - args.toArray.size) undef, defers := [] } (init args) [] := by
    refine ⟨by simp; omega, fun t => ?_, rfl⟩
    rw [init_getD]
    simp only [Array.getD_eq_getD_getElem?, List.getD_eq_getElem?_getD]
    by_cases ht : t < args.length
    · rw [Array.getElem?_append_left (by simpa using ht)]
      simp
    · rw [Array.getElem?_append_right (by simp; omega), List.getElem?_eq_none (by omega)]
      simp only [List.size_toArray, Array.getElem?_replicate]
      split <;> rfl
  refine callsIn_of_wp_marks (F := Fence.wide) hf hc trivial (wpIn_mono (V_sound (r := none) c hwf _ _ [] w0 _ (.inl rfl) hg h) fun e a' w' hq => ?_)
  obtain ⟨F', hg', hk⟩ := hq
  cases e with
  | normal =>
    unfold Kend at hk; rw [RetP_eq] at hk
    obtain ⟨w2, h1, h2⟩ := hk
    exact leaves_sound hg'.2.1 _ _ _ h1 h2
  | ret =>
    unfold Kend at hk; rw [RetP_eq] at hk
    obtain ⟨w2, h1, h2⟩ := hk
    exact leaves_sound hg'.2.1 _ _ _ h1 h2
  | _ => exact hk.elim

/-! ### a loop -/
def Has (F : Fr) : List (Nat × Value) → Prop
  | [] => True
  | p :: r => F p.1 = p.2 ∧ Has F r
def mix (W : List Nat) (F G : Fr) : Fr := fun j => bif memN j W then G j else F j
def upds : List (Nat × Value) → Fr → Fr
  | [], F => F
  | p :: r, F => upd (upds r F) p.1 p.2
theorem upds_has {F : Fr} : ∀ {l : List (Nat × Value)}, Has F l → upds l F = F
  | [], _ => rfl
  | p :: r, ⟨h1, h2⟩ => by
    unfold upds
    rw [upds_has h2]
    funext j
    show (bif Nat.beq j p.1 then p.2 else F j) = F j
    cases hb : Nat.beq j p.1 with
    | true => rw [Nat.eq_of_beq_eq_true hb, h1]; rfl
    | false => rfl
/-- The end of a round: the next state. -/
structure NextP {σ : Type} (enc : σ → List (Nat × Value)) (I : σ → World → Prop) (μ : σ → World → Nat) (m : Nat) (F : Fr) (w : World) : Prop where
  of_ ::
  un_ : ∃ s, Has F (enc s) ∧ I s w ∧ μ s w < m
theorem NextP_eq {σ : Type} {enc : σ → List (Nat × Value)} {I : σ → World → Prop} {μ : σ → World → Nat} {m : Nat} {F : Fr} {w : World} : NextP enc I μ m F w = (∃ s, Has F (enc s) ∧ I s w ∧ μ s w < m) := propext ⟨fun h => h.un_, fun h => ⟨h⟩⟩
theorem next {σ : Type} {enc : σ → List (Nat × Value)} {I : σ → World → Prop} {μ : σ → World → Nat} {m : Nat} {F : Fr} {w : World} (s : σ) (h : Has F (enc s)) (hi : I s w) (hm : μ s w < m) : NextP enc I μ m F w := by
  rw [NextP_eq]; exact ⟨s, h, hi, hm⟩

theorem loop_rule {c : Code} {K : KK} {F0 : Fr} {ds : List Deferred} {w0 : World} {σ : Type} (enc : σ → List (Nat × Value)) (I : σ → World → Prop) (μ : σ → World → Nat)
    (s0 : σ) (h0 : Has F0 (enc s0)) (hI : I s0 w0) (hr : noRange c = true := by rfl)
    (step : ∀ (G : Fr) (s : σ) (w : World), I s w →
      V P c (fun e F' _ w' => match e with | .normal => NextP enc I μ (μ s w) F' w' | e => K e F' ds w') (upds (enc s) (mix (writes c) F0 G)) ds w) :
    LoopH c (V P c) K F0 ds w0 := by
  rw [LoopH_eq]
  refine ⟨fun n F ds' w => ds' = ds ∧ Off (writes c) F0 F ∧ ∃ s, Has F (enc s) ∧ I s w ∧ μ s w = n, ⟨_, rfl, .refl _ _, s0, h0, hI, rfl⟩, ?_⟩
  rintro n F ds' w ⟨rfl, hf, s, hs, hi, rfl⟩
  have hm : mix (writes c) F0 F = F := funext fun j => by
    show (bif memN j (writes c) then F j else F0 j) = F j
    cases hb : memN j (writes c) with
    | true => rfl
    | false => exact (hf j hb).symm
  have h1 := step F s w hi
  rw [hm, upds_has hs] at h1
  refine V_mf c _ _ F ds' w (fun e F' ds'' w' hf' hd h => ?_) h1
  cases e with
  | normal =>
    have h : NextP enc I μ (μ s w) F' w' := h
    rw [NextP_eq] at h
    obtain ⟨s', a1, a2, a3⟩ := h
    exact ⟨_, a3, hd hr, hf.trans hf', s', a1, a2, rfl⟩
  | _ =>
    rw [hd hr]; exact h
/-! The same with states of two, three, four parts. -/
structure Next2P {α β : Type} (enc : α → β → List (Nat × Value)) (I : α → β → World → Prop) (μ : α → β → World → Nat) (m : Nat) (F : Fr) (w : World) : Prop where
  of_ ::
  un_ : ∃ (a : α) (b : β), Has F (enc a b) ∧ I a b w ∧ μ a b w < m
theorem Next2P_eq {α β : Type} {enc : α → β → List (Nat × Value)} {I : α → β → World → Prop} {μ : α → β → World → Nat} {m : Nat} {F : Fr} {w : World} : Next2P enc I μ m F w = (∃ (a : α) (b : β), Has F (enc a b) ∧ I a b w ∧ μ a b w < m) := propext ⟨fun h => h.un_, fun h => ⟨h⟩⟩
theorem next2 {α β : Type} {enc : α → β → List (Nat × Value)} {I : α → β → World → Prop} {μ : α → β → World → Nat} {m : Nat} {F : Fr} {w : World} (a : α) (b : β) (h : Has F (enc a b)) (hi : I a b w) (hm : μ a b w < m) : Next2P enc I μ m F w := by
  rw [Next2P_eq]; exact ⟨a, b, h, hi, hm⟩
theorem loop2 {c : Code} {K : KK} {F0 : Fr} {ds : List Deferred} {w0 : World} {α β : Type} (enc : α → β → List (Nat × Value)) (I : α → β → World → Prop) (μ : α → β → World → Nat)
    (a0 : α) (b0 : β) (h0 : Has F0 (enc a0 b0)) (hI : I a0 b0 w0) (hr : noRange c = true := by rfl)
    (step : ∀ (G : Fr) (a : α) (b : β) (w : World), I a b w → V P c (fun e F' _ w' => match e with | .normal => Next2P enc I μ (μ a b w) F' w' | e => K e F' ds w') (upds (enc a b) (mix (writes c) F0 G)) ds w) :
    LoopH c (V P c) K F0 ds w0 := by
  refine loop_rule (fun s : α × β => enc s.1 s.2) (fun s => I s.1 s.2) (fun s => μ s.1 s.2) (a0, b0) h0 hI hr fun G s w hi => V_mf c _ _ _ ds w (fun e F' ds' w' _ _ h => ?_) (step G s.1 s.2 w hi)
  cases e with
  | normal =>
    have h : Next2P enc I μ (μ s.1 s.2 w) F' w' := h
    rw [Next2P_eq] at h
    obtain ⟨a, b, h1, h2, h3⟩ := h
    exact next (μ := fun s : α × β => μ s.1 s.2) (a, b) h1 h2 h3
  | _ => exact h
structure Next3P {α β γ : Type} (enc : α → β → γ → List (Nat × Value)) (I : α → β → γ → World → Prop) (μ : α → β → γ → World → Nat) (m : Nat) (F : Fr) (w : World) : Prop where
  of_ ::
  un_ : ∃ (a : α) (b : β) (x : γ), Has F (enc a b x) ∧ I a b x w ∧ μ a b x w < m
theorem Next3P_eq {α β γ : Type} {enc : α → β → γ → List (Nat × Value)} {I : α → β → γ → World → Prop} {μ : α → β → γ → World → Nat} {m : Nat} {F : Fr} {w : World} : Next3P enc I μ m F w = (∃ (a : α) (b : β) (x : γ), Has F (enc a b x) ∧ I a b x w ∧ μ a b x w < m) := propext ⟨fun h => h.un_, fun h => ⟨h⟩⟩
theorem next3 {α β γ : Type} {enc : α → β → γ → List (Nat × Value)} {I : α → β → γ → World → Prop} {μ : α → β → γ → World → Nat} {m : Nat} {F : Fr} {w : World} (a : α) (b : β) (x : γ) (h : Has F (enc a b x)) (hi : I a b x w) (hm : μ a b x w < m) : Next3P enc I μ m F w := by
  rw [Next3P_eq]; exact ⟨a, b, x, h, hi, hm⟩
theorem loop3 {c : Code} {K : KK} {F0 : Fr} {ds : List Deferred} {w0 : World} {α β γ : Type} (enc : α → β → γ → List (Nat × Value)) (I : α → β → γ → World → Prop) (μ : α → β → γ → World → Nat)
    (a0 : α) (b0 : β) (x0 : γ) (h0 : Has F0 (enc a0 b0 x0)) (hI : I a0 b0 x0 w0) (hr : noRange c = true := by rfl)
    (step : ∀ (G : Fr) (a : α) (b : β) (x : γ) (w : World), I a b x w → V P c (fun e F' _ w' => match e with | .normal => Next3P enc I μ (μ a b x w) F' w' | e => K e F' ds w') (upds (enc a b x) (mix (writes c) F0 G)) ds w) :
    LoopH c (V P c) K F0 ds w0 := by
  refine loop_rule (fun s : α × β × γ => enc s.1 s.2.1 s.2.2) (fun s => I s.1 s.2.1 s.2.2) (fun s => μ s.1 s.2.1 s.2.2) (a0, b0, x0) h0 hI hr fun G s w hi => V_mf c _ _ _ ds w (fun e F' ds' w' _ _ h => ?_) (step G s.1 s.2.1 s.2.2 w hi)
  cases e with
  | normal =>
    have h : Next3P enc I μ (μ s.1 s.2.1 s.2.2 w) F' w' := h
    rw [Next3P_eq] at h
    obtain ⟨a, b, x, h1, h2, h3⟩ := h
    exact next (μ := fun s : α × β × γ => μ s.1 s.2.1 s.2.2) (a, b, x) h1 h2 h3
  | _ => exact h
structure Next4P {α β γ δ : Type} (enc : α → β → γ → δ → List (Nat × Value)) (I : α → β → γ → δ → World → Prop) (μ : α → β → γ → δ → World → Nat) (m : Nat) (F : Fr) (w : World) : Prop where
  of_ ::
  un_ : ∃ (a : α) (b : β) (x : γ) (y : δ), Has F (enc a b x y) ∧ I a b x y w ∧ μ a b x y w < m
theorem Next4P_eq {α β γ δ : Type} {enc : α → β → γ → δ → List (Nat × Value)} {I : α → β → γ → δ → World → Prop} {μ : α → β → γ → δ → World → Nat} {m : Nat} {F : Fr} {w : World} : Next4P enc I μ m F w = (∃ (a : α) (b : β) (x : γ) (y : δ), Has F (enc a b x y) ∧ I a b x y w ∧ μ a b x y w < m) := propext ⟨fun h => h.un_, fun h => ⟨h⟩⟩
theorem next4 {α β γ δ : Type} {enc : α → β → γ → δ → List (Nat × Value)} {I : α → β → γ → δ → World → Prop} {μ : α → β → γ → δ → World → Nat} {m : Nat} {F : Fr} {w : World} (a : α) (b : β) (x : γ) (y : δ) (h : Has F (enc a b x y)) (hi : I a b x y w) (hm : μ a b x y w < m) : Next4P enc I μ m F w := by
  rw [Next4P_eq]; exact ⟨a, b, x, y, h, hi, hm⟩
theorem loop4 {c : Code} {K : KK} {F0 : Fr} {ds : List Deferred} {w0 : World} {α β γ δ : Type} (enc : α → β → γ → δ → List (Nat × Value)) (I : α → β → γ → δ → World → Prop) (μ : α → β → γ → δ → World → Nat)
    (a0 : α) (b0 : β) (x0 : γ) (y0 : δ) (h0 : Has F0 (enc a0 b0 x0 y0)) (hI : I a0 b0 x0 y0 w0) (hr : noRange c = true := by rfl)
    (step : ∀ (G : Fr) (a : α) (b : β) (x : γ) (y : δ) (w : World), I a b x y w → V P c (fun e F' _ w' => match e with | .normal => Next4P enc I μ (μ a b x y w) F' w' | e => K e F' ds w') (upds (enc a b x y) (mix (writes c) F0 G)) ds w) :
    LoopH c (V P c) K F0 ds w0 := by
  refine loop_rule (fun s : α × β × γ × δ => enc s.1 s.2.1 s.2.2.1 s.2.2.2) (fun s => I s.1 s.2.1 s.2.2.1 s.2.2.2) (fun s => μ s.1 s.2.1 s.2.2.1 s.2.2.2) (a0, b0, x0, y0) h0 hI hr fun G s w hi => V_mf c _ _ _ ds w (fun e F' ds' w' _ _ h => ?_) (step G s.1 s.2.1 s.2.2.1 s.2.2.2 w hi)
  cases e with
  | normal =>
    have h : Next4P enc I μ (μ s.1 s.2.1 s.2.2.1 s.2.2.2 w) F' w' := h
    rw [Next4P_eq] at h
    obtain ⟨a, b, x, y, h1, h2, h3⟩ := h
    exact next (μ := fun s : α × β × γ × δ => μ s.1 s.2.1 s.2.2.1 s.2.2.2) (a, b, x, y) h1 h2 h3
  | _ => exact h
end
end Go.Proofs.YtpmmhcgghldaaaaDoor
