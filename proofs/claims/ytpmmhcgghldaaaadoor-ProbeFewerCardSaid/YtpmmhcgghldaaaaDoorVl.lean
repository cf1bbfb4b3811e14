/- Own layer, part l: ranges over functions. Nothing of the program stands here. -/
import Derived.Test.YtpmmhcgghldaaaaDoorVk
import Derived.RangeFuncRecord
namespace Go.Proofs.YtpmmhcgghldaaaaDoor
open Go Go.RowKit

section
variable {P : Program}
def LoopAt (w : World) (l : Nat) (r : Loop) : Prop := w.heap[l]? = some (.loop r)
def updZ : Fr → List (Nat × Value) → Fr
  | F, [] => F
  | F, p :: r => updZ (upd F p.1 p.2) r
theorem fold_frame : ∀ (l : List (Nat × Value)) (tmps : Array Value) (F : Fr), (∀ t, tmps.getD t undef = F t) → (∀ p ∈ l, p.1 < tmps.size) →
    (l.foldl (fun (t : Array Value) (p : Nat × Value) => t.setIfInBounds p.1 p.2) tmps).size = tmps.size ∧ ∀ t, (l.foldl (fun (t : Array Value) (p : Nat × Value) => t.setIfInBounds p.1 p.2) tmps).getD t undef = updZ F l t
  | [], tmps, F, h, _ => ⟨rfl, h⟩
  | p :: l, tmps, F, h, hb => by
    have h1 : ∀ t, (tmps.setIfInBounds p.1 p.2).getD t undef = upd F p.1 p.2 t := fun t => by
      show _ = (bif Nat.beq t p.1 then p.2 else F t)
      cases hbq : Nat.beq t p.1 with
      | true => obtain rfl := Nat.eq_of_beq_eq_true hbq; simp [hb p List.mem_cons_self]
      | false =>
        have hne : p.1 ≠ t := fun e => by rw [← e, Nat.beq_refl] at hbq; cases hbq
        rw [← h t]; simp [Array.getElem?_setIfInBounds_ne hne]
    obtain ⟨h2, h3⟩ := fold_frame l (tmps.setIfInBounds p.1 p.2) (upd F p.1 p.2) h1 (fun q hq => by simpa using hb q (List.mem_cons_of_mem _ hq))
    exact ⟨by rw [List.foldl_cons, h2]; simp, fun t => by rw [List.foldl_cons, h3]; rfl⟩

/-- The end of a round. -/
structure RoundE (l : Nat) (K : VK) (e : Exit) (w : World) : Prop where
  of_ ::
  un_ : ∃ r, LoopAt w l r ∧ match e with
    | .normal => K (.bool true) (w.putObj l (.loop { r with state := .ready, pending := none }))
    | .ret => K (.bool false) (w.putObj l (.loop { r with state := .done, pending := some .ret }))
    | .exit id => K (.bool false) (w.putObj l (.loop { r with state := .done, pending := some (.exit id) }))
    | _ => False
theorem roundN {l : Nat} {K : VK} {w : World} (r : Loop) (h : LoopAt w l r) (k : K (.bool true) (w.putObj l (.loop { r with state := .ready, pending := none }))) : RoundE l K .normal w := ⟨r, h, k⟩
theorem roundR {l : Nat} {K : VK} {w : World} (r : Loop) (h : LoopAt w l r) (k : K (.bool false) (w.putObj l (.loop { r with state := .done, pending := some .ret }))) : RoundE l K .ret w := ⟨r, h, k⟩
theorem roundX {l id : Nat} {K : VK} {w : World} (r : Loop) (h : LoopAt w l r) (k : K (.bool false) (w.putObj l (.loop { r with state := .done, pending := some (.exit id) }))) : RoundE l K (.exit id) w := ⟨r, h, k⟩
def Kround (l : Nat) (K : VK) : KK := fun e _ _ w => RoundE l K e w
/-- Between the assignment to the loop's variables and its body. -/
structure MidP (P : Program) (l : Nat) (r : Loop) (K : VK) (F : Fr) (ds : List Deferred) (w : World) : Prop where
  of_ ::
  un_ : LoopAt w l r ∧ V P r.body (Kround l K) F ds (w.putObj l (.loop { r with state := .busy }))
def Kmid (P : Program) (l : Nat) (r : Loop) (K : VK) : KK := fun e F ds w => match e with | .normal => MidP P l r K F ds w | _ => False
theorem mid {l : Nat} {r : Loop} {K : VK} {F : Fr} {ds : List Deferred} {w : World} (h : LoopAt w l r) (k : V P r.body (Kround l K) F ds (w.putObj l (.loop { r with state := .busy }))) : MidP P l r K F ds w := ⟨h, k⟩

/-- A call of yield: one round. -/
theorem yield_rule {l : Nat} {r : Loop} {g : Operand} {args : List Value} {K : VK} {w : World} {F : Fr} (hl : LoopAt w l r) (hr : r.state = .ready) (hsz : args.length = r.params.toList.length) (hF : ∀ t, r.tmps.getD t undef = F t)
    (hwf : wfC r.tmps.size (.rangeFunc g r.params r.assign r.body) = true)
    (h : V P r.assign (Kmid P l r K) (updZ F (r.params.toList.zip args)) [] w) : YieldP P l args.toArray K w := by
  rw [YieldP_eq]
  intro w0 hw
  subst hw
  have hl0 : w0.heap[l]? = some (.loop r) := hl
  obtain ⟨⟨hw1, hw2⟩, hps⟩ : ((wfC r.tmps.size r.assign && wfC r.tmps.size r.body) = true ∧ (noRange r.assign && noRange r.body) = true) ∧ (r.params.toList.all fun t => Nat.blt t r.tmps.size) = true := by
    have := bothT hwf; exact ⟨bothT this.1, this.2⟩
  obtain ⟨hwa, hwb⟩ := bothT hw1
  obtain ⟨hna, hnb⟩ := bothT hw2
  rw [run_yield hl0 (by simpa using hsz)]
  show RoundIn Fence.wide 0 P l r.fn _ r.assign r.body w0 _
  have hfold : ((r.params.zip args.toArray).foldl (fun tmps (t, a) => tmps.setIfInBounds t a) r.tmps) = (r.params.toList.zip args).foldl (fun (t : Array Value) (p : Nat × Value) => t.setIfInBounds p.1 p.2) r.tmps := by
    rw [← Array.foldl_toList, Array.toList_zip]
  have hlt : ∀ p ∈ r.params.toList.zip args, p.1 < r.tmps.size := fun p hp => by
    have := List.all_eq_true.1 hps p.1 (List.of_mem_zip hp).1
    simpa using this
  obtain ⟨f1, f2⟩ := fold_frame (r.params.toList.zip args) r.tmps F hF hlt
  rw [hfold]
  refine roundIn_of_wpIn (F := Fence.wide) trivial (wpIn_mono (V_sound (n := r.tmps.size) r.assign hwa (Kmid P l r K) _ [] w0 (some l) _ (.inr hna) ⟨f1, f2, rfl⟩ h) fun e a' w' hq => ?_)
  obtain ⟨F', hg', hk⟩ := hq
  cases e with
  | normal =>
    obtain ⟨⟨hl1, hbody⟩⟩ := hk
    have hl1 : w'.heap[l]? = some (.loop r) := hl1
    refine ⟨_, run_beginRound hl1 hr, ?_⟩
    refine wpIn_mono (V_sound (n := r.tmps.size) r.body hwb (Kround l K) F' _ (w'.putObj l (.loop { r with state := .busy })) (some l) a' (.inr hnb) hg' hbody) fun e a2 w2 hq2 => ?_
    obtain ⟨F2, _, ⟨⟨r2, hl2, hk2⟩⟩⟩ := hq2
    have hl2 : w2.heap[l]? = some (.loop r2) := hl2
    cases e with
    | normal => exact ⟨_, _, run_endRound none hl2, _, rfl, hk2⟩
    | ret => exact ⟨_, _, run_endRound (some .ret) hl2, _, rfl, hk2⟩
    | exit id => exact ⟨_, _, run_endRound (some (.exit id)) hl2, _, rfl, hk2⟩
    | _ => exact hk2.elim
  | _ => exact hk.elim

/-- Behind the loop. -/
def RangeE (K : KK) (F : Fr) (ds : List Deferred) (pending : Option Code) (w : World) : Prop := match pending with
  | none => K .normal F ds w
  | some .ret => K .ret F ds w
  | some (.exit id) => K (.exit id) F ds w
  | some _ => False
abbrev markD (w : World) : Deferred := { target := .collected w.heap.size, args := #[] }
abbrev loopR (w : World) (fn : FuncId) (tmps : Array Value) (ps : Array Tmp) (assign body : Code) : Loop := { state := .ready, pending := none, fn, tmps, params := ps, assign, body, defers := w.heap.size }

theorem range {g : Operand} {ps : Array Tmp} {assign body : Code} {K : KK} {F : Fr} {ds : List Deferred} {w : World} {gf : FuncId} {lb : Array Value} [he : Enters P gf] (hg : ev F g = .func (.func gf) #[] lb)
    (h : ∀ (fn : FuncId) (tmps : Array Value) (w1 : World) (R : Loop), R = loopR w fn tmps ps assign body → (∀ t, tmps.getD t undef = F t) → wfC tmps.size (.rangeFunc g ps assign body) = true → Ext w w1 → w1.heap.size = w.heap.size + 2 → w1.heap[w.heap.size]? = some (.deferred (some [])) →
      LoopAt w1 (w.heap.size + 1) R →
      CallZ P gf (#[.func (.yield (w.heap.size + 1)) #[] #[]] ++ lb) w1 (fun _ w2 => ∃ r, LoopAt w2 (w.heap.size + 1) r ∧ r.state ≠ .busy ∧ RangeE K F (markD w :: ds) r.pending (w2.putObj (w.heap.size + 1) (.loop { r with state := .exhausted })))) :
    RangeH P (.rangeFunc g ps assign body) K F ds w := by
  rw [RangeH_eq]
  intro a w0 hw hF hd hwf
  subst hw; subst hd
  refine wpIn_rangeFunc (F := Fw none) (fun fn hfn => ?_)
  have hev : a.eval = ev F := funext fun x => by
    cases x with
    | tmp t => exact hF t
    | _ => rfl
  have hga : a.eval g = .func (.func gf) #[] lb := by rw [hev]; exact hg
  obtain ⟨W1, hW1⟩ : ∃ W1, W1 = (w0.alloc (.deferred (some []))).alloc (.loop (loopR w0 fn a.tmps ps assign body)) := ⟨_, rfl⟩
  have hent := run_enterLoop_outer (P := P) (w := w0) fn a.tmps ps assign body
  rw [← hW1] at hent
  refine ⟨w0.heap.size + 1, [{ target := .collected w0.heap.size, args := #[] }], W1, { target := .fn (.func gf) lb, args := #[.func (.yield (w0.heap.size + 1)) #[] #[]] }, W1, gf, #[.func (.yield (w0.heap.size + 1)) #[] #[]] ++ lb, W1, hent, ?_, fun _ _ => trivial, ?_, fun hh => (by cases hh), ?_⟩
  · simp only [resolve, hga]
    simp [go_sem]
  · simp [invoke, go_sem, he.h]
  · have h1 := h fn a.tmps (z W1) _ rfl hF hwf (by rw [hW1]; exact (Kept.alloc _ (z w0) _).trans (Kept.alloc _ _ _)) (by rw [hW1]; simp) (by
      rw [hW1]
      show ((w0.alloc (.deferred (some []))).alloc (.loop (loopR w0 fn a.tmps ps assign body))).heap[w0.heap.size]? = _
      rw [Below.heap_alloc _ _ _ (by simp)]
      exact World.alloc_heap_new w0 _) (by
      have := World.alloc_heap_new (w0.alloc (.deferred (some []))) (.loop (loopR w0 fn a.tmps ps assign body))
      rw [World.size_alloc, ← hW1] at this
      exact this)
    refine (h1 _ rfl).mono ?_
    rintro e w3 ⟨v, rfl, r, hl, hb, hE⟩
    have hl : w3.heap[w0.heap.size + 1]? = some (.loop r) := hl
    refine ⟨r.pending, _, run_endLoop hl hb, ?_⟩
    cases hp : r.pending with
    | none => rw [hp] at hE; exact ⟨rfl, hE⟩
    | some c =>
      rw [hp] at hE
      cases c with
      | ret => exact wpIn_ret ⟨rfl, hE⟩
      | exit id => exact wpIn_exit ⟨rfl, hE⟩
      | _ => exact hE.elim

/-- The return of a function that has ranged over a function. -/
theorem retM {rs : List ResultVar} {F : Fr} {R : VK} {D : Nat} {w : World} (hD : w.heap[D]? = some (.deferred (some []))) (h : VRes P F (w.putObj D (.deferred none)) rs [] (fun vs => R (resV vs) (w.putObj D (.deferred none)))) : RetP P rs F [{ target := .collected D, args := #[] }] R w := by
  rw [RetP_eq]
  refine ⟨_, ?_, h⟩
  simp only [shutMarks, hD]
  rfl
/-- A block is turned that is no cells. -/
theorem Kept.putObj (w : World) (l : Nat) (o : Obj) : Kept (fun b => b ≠ l) w (w.putObj l o) := ⟨rfl, rfl, rfl, by simp, fun i _ hD => World.putObj_heap_other hD⟩
theorem LoopAt.kept {D : Nat → Prop} {w w' : World} {l : Nat} {r : Loop} (h : LoopAt w l r) (k : Kept D w w') (hD : D l) : LoopAt w' l r := (k.blk l (Array.getElem?_eq_some_iff.1 h).1 hD).trans h
theorem LoopAt.put {w : World} {l : Nat} {r : Loop} (h : LoopAt w l r) (r' : Loop) : LoopAt (w.putObj l (.loop r')) l r' := World.putObj_heap_same (Array.getElem?_eq_some_iff.1 h).1
theorem LoopAt.lt {w : World} {l : Nat} {r : Loop} (h : LoopAt w l r) : l < w.heap.size := (Array.getElem?_eq_some_iff.1 h).1
/-! The same, with a name for the world that comes. -/
theorem mid' {l : Nat} {r : Loop} {K : VK} {F : Fr} {ds : List Deferred} {w : World} (h : LoopAt w l r) (k : ∀ w', Kept (fun b => b ≠ l) w w' → w'.heap.size = w.heap.size → LoopAt w' l { r with state := .busy } → V P r.body (Kround l K) F ds w') : MidP P l r K F ds w :=
  mid h (k _ (Kept.putObj _ _ _) (by simp) (h.put _))
theorem roundN' {l : Nat} {K : VK} {w : World} (r : Loop) (h : LoopAt w l r) (k : ∀ w', Kept (fun b => b ≠ l) w w' → LoopAt w' l { r with state := .ready, pending := none } → K (.bool true) w') : RoundE l K .normal w := roundN r h (k _ (Kept.putObj _ _ _) (h.put _))
theorem roundR' {l : Nat} {K : VK} {w : World} (r : Loop) (h : LoopAt w l r) (k : ∀ w', Kept (fun b => b ≠ l) w w' → LoopAt w' l { r with state := .done, pending := some .ret } → K (.bool false) w') : RoundE l K .ret w := roundR r h (k _ (Kept.putObj _ _ _) (h.put _))
theorem roundX' {l id : Nat} {K : VK} {w : World} (r : Loop) (h : LoopAt w l r) (k : ∀ w', Kept (fun b => b ≠ l) w w' → LoopAt w' l { r with state := .done, pending := some (.exit id) } → K (.bool false) w') : RoundE l K (.exit id) w := roundX r h (k _ (Kept.putObj _ _ _) (h.put _))
/-- The loop has come to its end. -/
theorem range_end {K : KK} {F : Fr} {ds : List Deferred} {l : Nat} {w : World} (r : Loop) (h : LoopAt w l r) (hs : r.state ≠ .busy) (k : ∀ w', Kept (fun b => b ≠ l) w w' → RangeE K F ds r.pending w') :
    ∃ r, LoopAt w l r ∧ r.state ≠ .busy ∧ RangeE K F ds r.pending (w.putObj l (.loop { r with state := .exhausted })) := ⟨r, h, hs, k _ (Kept.putObj _ _ _)⟩
end
end Go.Proofs.YtpmmhcgghldaaaaDoor
