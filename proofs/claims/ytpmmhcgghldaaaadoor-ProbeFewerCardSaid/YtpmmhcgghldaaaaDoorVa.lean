/- Own layer, part a: what one operation, one call, one region does, said of worlds taken at no draws. Nothing of the program stands here. -/
import Derived.OrdersIn
import Derived.RangeFuncLeaves
import Derived.WalkKit
namespace Go.Proofs.YtpmmhcgghldaaaaDoor
open Go

/-- A world with the count of draws struck. -/
def z (w : World) : World := { w with drawn := 0 }
theorem z_z (w : World) : z (z w) = z w := rfl
@[simp] theorem z_heap (w : World) : (z w).heap = w.heap := rfl
@[simp] theorem z_cell (w : World) (a : Addr) : (z w).cell? a = w.cell? a := rfl
@[simp] theorem z_frozen (w : World) (a : Addr) : (z w).frozen? a = w.frozen? a := rfl
/-- A world that is so already. -/
def Zd (w : World) : Prop := z w = w

/-- The fence that lets everything in, for a frame of a function or of a round. -/
abbrev Fw (r : Option Nat) : Fence := { Fence.wide with round := r }
theorem Fw_fn (r : Option Nat) (f : FuncId) : (Fw r).fn f := trivial
theorem Fw_room (r : Option Nat) (n : Nat) : (Fw r).room n := fun _ h => by cases h

abbrev VK := Value → World → Prop

/-- A call, from whatever count of draws: it returns, and R holds. -/
def CallZ (P : Program) (f : FuncId) (args : Array Value) (w : World) (R : VK) : Prop :=
  ∀ w0, z w0 = w → CallsIn Fence.wide 0 P f args w0 (fun e w' => ∃ v, e = .returned v ∧ R v (z w'))
def RowZ (P : Program) (row : String) (args : Array Value) (w0 : World) (R : VK) : Prop :=
  RowsIn Fence.wide 0 P row args w0 (fun v w' => R v (z w'))
def RoundZ (P : Program) (l : Nat) (f : FuncId) (tmps : Array Value) (assign body : Code) (w0 : World) (R : VK) : Prop :=
  RoundIn Fence.wide 0 P l f tmps assign body w0 (fun e w' => ∃ v, e = .returned v ∧ R v (z w'))

theorem CallZ.mono {P : Program} {f : FuncId} {args : Array Value} {w : World} {R R' : VK} (h : CallZ P f args w R) (hr : ∀ v w', R v w' → R' v w') : CallZ P f args w R' :=
  fun w0 hw => (h w0 hw).mono fun _ _ ⟨v, he, hv⟩ => ⟨v, he, hr _ _ hv⟩

/-- What an operation's run comes to. -/
def uponZ (P : Program) (K : VK) : Result Next → Prop
  | .ok (.value v) w' => K v (z w')
  | .ok .skip w' => K undef (z w')
  | .ok (.enter f args) w' => CallsIn Fence.wide 0 P f args w' (fun e w'' => ∃ v, e = .returned v ∧ K v (z w''))
  | .ok (.row row args) w' => RowZ P row args w' K
  | .ok (.round l f tmps assign body) w' => RoundZ P l f tmps assign body w' K
  | _ => False

def OpS (P : Program) (s : Sem Next) (K : VK) (w : World) : Prop := ∀ w0, z w0 = w → uponZ P K (s.run P w0)

theorem uponZ_mono {P : Program} {K K' : VK} (h : ∀ v w, K v w → K' v w) : ∀ r, uponZ P K r → uponZ P K' r
  | .ok (.value _) _, hh => h _ _ hh
  | .ok .skip _, hh => h _ _ hh
  | .ok (.enter _ _) _, hh => CallsIn.mono hh fun _ _ ⟨v, he, hv⟩ => ⟨v, he, h _ _ hv⟩
  | .ok (.row _ _) _, hh => RowsIn.mono hh fun _ _ hv => h _ _ hv
  | .ok (.round _ _ _ _ _) _, hh => RoundIn.mono hh fun _ _ ⟨v, he, hv⟩ => ⟨v, he, h _ _ hv⟩
  | .ok (.defer _) _, hh | .ok .recover _, hh | .ok (.spawn _) _, hh | .ok (.comm _ _ _) _, hh | .ok .numGoroutine _, hh | .ok .collect _, hh
  | .ok (.watch _) _, hh | .ok (.newcoro _ _) _, hh | .ok (.coroswitch _ _) _, hh | .ok (.sleep _) _, hh | .ok (.timer _) _, hh | .ok (.alone _ _) _, hh
  | .ok (.callThen _ _ _ _) _, hh | .ok (.stack _ _) _, hh | .halt _ _, hh => hh.elim
theorem OpS.mono {P : Program} {s : Sem Next} {K K' : VK} {w : World} (hh : OpS P s K w) (h : ∀ v w, K v w → K' v w) : OpS P s K' w :=
  fun w0 hw => uponZ_mono h _ (hh w0 hw)

/-- Pure work: one value in whatever world. -/
def PureS (P : Program) (s : Sem Next) (K : Value → Prop) : Prop := ∃ v, (∀ w, s.run P w = .ok (.value v) w) ∧ K v
theorem PureS.op {P : Program} {s : Sem Next} {K : VK} {w : World} (h : PureS P s (fun v => K v w)) : OpS P s K w := by
  obtain ⟨v, hv, hk⟩ := h
  intro w0 hw; rw [hv]; subst hw; exact hk

/-! ### an operation in a frame -/
section
variable {P : Program} {r : Option Nat} {Q : Exit → Act → World → Prop}

theorem upon_wp {o : Oper} {a : Act} {K : Act → World → Prop} {w0 : World} (h : OpS P (execOp a.eval o) (fun v w' => K (a.put o.dst v) w') (z w0)) :
    o.wpIn (Fw r) 0 P a w0 (fun a' w' => K a' (z w')) Q := by
  refine ⟨fun f _ => trivial, ?_⟩
  have h := h w0 rfl
  have hs : (o.semAt (Fw r).round a.eval).run P w0 = (execOp a.eval o).run P w0 := by
    cases r with
    | none => rfl
    | some l =>
      by_cases hd : ∃ c, o.op = .defer c
      · obtain ⟨c, hc⟩ := hd
        exfalso
        unfold execOp at h; rw [hc] at h
        simp only [Sem.run_bind] at h
        cases hr : (resolve a.eval c o.type).run P w0 <;> rw [hr] at h <;> exact h
      · rw [show (Fw (some l)).round = some l from rfl, Oper.semAt_some l _ _ (fun c hc => hd ⟨c, hc⟩)]
  rw [hs]
  generalize (execOp a.eval o).run P w0 = res at h
  cases res with
  | halt x w' => exact h.elim
  | ok x w' =>
    cases x <;> simp only [uponZ] at h <;> simp only [Oper.uponIn]
    case value v => exact h
    case skip => exact h
    case enter f args => exact ⟨fun hh => (by cases hh), CallsIn.mono h fun e w'' ⟨v, he, hv⟩ => by subst he; exact hv⟩
    case row row args => exact ⟨fun hh => (by cases hh), RowsIn.mono h fun v w'' hv => hv⟩
    case round l f tmps assign body => exact ⟨fun hh => (by cases hh), RoundIn.mono h fun e w'' ⟨v, he, hv⟩ => by subst he; exact hv⟩
end

/-! ### a region that draws its order -/
section
variable {P : Program} {ops : Array Oper} {Q : Act → World → Prop} {S : World → Prop} {md : Region.Mode}

def opZ (P : Program) (ops : Array Oper) (i : Nat) (K : Act → World → Prop) (a : Act) (w : World) : Prop :=
  match ops[i]? with
  | none => K a w
  | some o => if Region.wanted o (yielded ops a.tmps) then OpS P (execOp a.eval o) (fun v w' => K (a.put o.dst v) w') w else K (a.put o.dst undef) w

theorem opZ_mono {i : Nat} {a : Act} {w : World} {K K' : Act → World → Prop} (h : ∀ a w, K a w → K' a w) (hh : opZ P ops i K a w) : opZ P ops i K' a w := by
  unfold opZ at *
  split
  · exact h _ _ (by simpa [*] using hh)
  · rename_i o ho
    simp only [ho] at hh
    split
    · rename_i hw; simp only [hw, if_true] at hh; exact hh.mono fun _ _ => h _ _
    · rename_i hw; simp only [hw] at hh; exact h _ _ hh

/-- Whether an operation of B has been run. (B: what stands behind a barrier.) -/
def hasB (B : List Nat) (l : Array Bool) : Bool := B.any fun b => l.getD b false
def anyZ (P : Program) (md : Region.Mode) (ops : Array Oper) (Q : Act → World → Prop) (B : List Nat) (S : World → Prop) : Nat → Array Bool → Act → World → Prop
  | 0, listed, a, w => Region.ready md ops listed = [] ∧ Q a w
  | fuel + 1, listed, a, w =>
    (Region.ready md ops listed = [] → Q a w) ∧
    ∀ i ∈ Region.ready md ops listed, opZ P ops i (fun a' w' => (hasB B (listed.setIfInBounds i true) = false → S w') ∧ anyZ P md ops Q B S fuel (listed.setIfInBounds i true) a' w') a w

theorem anyZ_weak {B : List Nat} {S' : World → Prop} (hs : ∀ w, S' w → S w) : ∀ (fuel : Nat) (listed : Array Bool) (a : Act) (w : World), anyZ P md ops Q B S' fuel listed a w → anyZ P md ops Q B S fuel listed a w
  | 0, _, _, _, h => h
  | fuel + 1, _, _, _, h => ⟨h.1, fun i hi => opZ_mono (fun a' w' h' => ⟨fun hb => hs _ (h'.1 hb), anyZ_weak hs fuel _ a' w' h'.2⟩) (h.2 i hi)⟩
theorem ready_unlisted {listed : Array Bool} {i : Nat} (h : i ∈ Region.ready md ops listed) : listed.getD i true = false := (mem_ready.1 h).1
theorem hasB_mem {B : List Nat} {l : Array Bool} {b : Nat} (hb : b ∈ B) (h : l.getD b false = true) : hasB B l = true := List.any_eq_true.2 ⟨b, hb, h⟩
theorem hasB_set {B : List Nat} {l : Array Bool} {i : Nat} (hi : i ∉ B) : hasB B (l.setIfInBounds i true) = hasB B l := by
  unfold hasB
  have key : ∀ B' : List Nat, i ∉ B' → (B'.any fun b => (l.setIfInBounds i true).getD b false) = B'.any fun b => l.getD b false := by
    intro B'
    induction B' with
    | nil => intro _; rfl
    | cons b r ih =>
      intro h
      rw [List.any_cons, List.any_cons, ih (fun h' => h (List.mem_cons_of_mem _ h')), getD_set_ne false (fun e => h (by rw [e]; exact List.mem_cons_self))]
  exact key B hi
/-- What has been run has what it waits for behind it. -/
def Cl (md : Region.Mode) (ops : Array Oper) (l : Array Bool) : Prop := ∀ k ok, ops[k]? = some ok → l.getD k false = true → ∀ e ∈ ok.after, Region.binds md e = true → l.getD e.on false = true
theorem getD_set_true {l : Array Bool} {i k : Nat} (h : l.getD k false = true) : (l.setIfInBounds i true).getD k false = true := by
  by_cases e : i = k
  · subst e
    rcases Nat.lt_or_ge i l.size with h' | h'
    · simp [h']
    · simp [Array.getElem?_eq_none h'] at h
  · rw [getD_set_ne false e]; exact h
theorem Cl.set {l : Array Bool} {i : Nat} (h : Cl md ops l) (hi : i ∈ Region.ready md ops l) : Cl md ops (l.setIfInBounds i true) := by
  intro k ok hk hl e he hb
  obtain ⟨_, oi, hoi, hall⟩ := mem_ready.1 hi
  by_cases e1 : i = k
  · subst e1
    rw [hoi] at hk; injection hk with hk; subst hk
    exact getD_set_true (hall e he hb)
  · rw [getD_set_ne false e1] at hl
    exact getD_set_true (h k ok hk hl e he hb)
theorem Cl.start (n : Nat) : Cl md ops (Array.replicate n false) := by
  intro k ok _ hl
  exfalso
  rcases Nat.lt_or_ge k n with h' | h'
  · simp [h'] at hl
  · rw [Array.getD_eq_getD_getElem?, Array.getElem?_eq_none (by simpa using h')] at hl; cases hl
/-- Behind a barrier another condition holds. -/
theorem anyZ_bar {B : List Nat} {S' : World → Prop} : ∀ (fuel : Nat) (listed : Array Bool) (a : Act) (w : World), (∀ i, listed.getD i true = false → i ∈ B) → anyZ P md ops Q [] S' fuel listed a w → anyZ P md ops Q B S fuel listed a w
  | 0, _, _, _, _, h => h
  | fuel + 1, listed, _, _, hu, h => ⟨h.1, fun i hi => opZ_mono (fun a' w' h' => ⟨fun hb => (by
      have hl := ready_unlisted hi
      have hlt : i < listed.size := by
        rcases Nat.lt_or_ge i listed.size with h' | h'
        · exact h'
        · simp [Array.getElem?_eq_none h'] at hl
      have := hasB_mem (l := listed.setIfInBounds i true) (hu i hl) (by simp [hlt])
      rw [this] at hb; cases hb), anyZ_bar fuel _ a' w' (fun k hk => by
        by_cases e : i = k
        · subst e; exact hu i (ready_unlisted hi)
        · rw [getD_set_ne true e] at hk; exact hu k hk) h'.2⟩) (h.2 i hi)⟩

theorem wpAnyIn_of_anyZ {B : List Nat} {r : Option Nat} {Q' : Exit → Act → World → Prop} (hQ : ∀ a w, Q a (z w) → Q' .normal a w) : ∀ (fuel : Nat) (listed : Array Bool) (a : Act) (w0 : World),
    anyZ P md ops Q B S fuel listed a (z w0) → wpAnyIn (Fw r) 0 P md ops Q' fuel listed a w0
  | 0, _, _, _, h => ⟨h.1, hQ _ _ h.2⟩
  | fuel + 1, listed, a, w0, h => ⟨fun h0 => hQ _ _ (h.1 h0), fun i hi => by
      have h2 := h.2 i hi
      unfold opZ at h2
      unfold wpOpIn
      cases ho : ops[i]? with
      | none => simp only [ho] at h2 ⊢; exact wpAnyIn_of_anyZ hQ fuel _ a w0 h2.2
      | some o =>
        simp only [ho] at h2 ⊢
        split
        · rename_i hw
          simp only [hw, if_true] at h2
          have h3 := upon_wp (r := r) (Q := Q') (K := fun a' w' => (hasB B (listed.setIfInBounds i true) = false → S w') ∧ anyZ P md ops Q B S fuel (listed.setIfInBounds i true) a' w') h2
          exact Oper.wpIn_mono (fun a' w' h' => wpAnyIn_of_anyZ hQ fuel _ a' w' h'.2) h3
        · rename_i hw
          simp only [hw] at h2
          exact ⟨fun _ _ => trivial, wpAnyIn_of_anyZ hQ fuel _ _ w0 h2.2⟩⟩

theorem wp_region_any {B : List Nat} {r : Option Nat} {id : Nat} {Q' : Exit → Act → World → Prop} {a : Act} {w0 : World} (hm : P.follows .mixedOrders = true) (hQ : ∀ a w, Q a (z w) → Q' .normal a w)
    (h : anyZ P .any ops Q B S ops.size (Array.replicate ops.size false) a (z w0)) : (Code.region id ops true).wpIn (Fw r) 0 P Q' a w0 :=
  wpIn_region_any hm (wpAnyIn_of_anyZ hQ _ _ _ _ h)

/-- Quiet in S: one value, in every world of S, and that world again. -/
def YieldsZ (P : Program) (ops : Array Oper) (S : World → Prop) (o : Oper) (v : Value) (a : Act) : Prop :=
  (Region.wanted o (yielded ops a.tmps) = true ∧ ∀ w, S w → OpS P (execOp a.eval o) (fun u w' => u = v ∧ w' = w) w) ∨
  (Region.wanted o (yielded ops a.tmps) = false ∧ v = undef)

theorem YieldsZ.opZ {i : Nat} {o : Oper} {v : Value} {a : Act} (hi : ops[i]? = some o) (hy : YieldsZ P ops S o v a)
    {K : Act → World → Prop} {w : World} (hS : S w) (h : K (a.put o.dst v) w) : opZ P ops i K a w := by
  unfold Proofs.YtpmmhcgghldaaaaDoor.opZ
  simp only [hi]
  rcases hy with ⟨hw, hv⟩ | ⟨hw, rfl⟩
  · simp only [hw, if_true]; exact (hv w hS).mono fun u w' ⟨e1, e2⟩ => by subst e1; subst e2; exact h
  · simp only [hw, Bool.false_eq_true, if_false]; exact h
theorem YieldsZ.of_same {o : Oper} {v : Value} {a a' : Act} (hy : YieldsZ P ops S o v a) (he : execOp a'.eval o = execOp a.eval o)
    (hw : Region.wanted o (yielded ops a'.tmps) = Region.wanted o (yielded ops a.tmps)) : YieldsZ P ops S o v a' := by
  unfold YieldsZ at *
  rw [he, hw]
  exact hy
theorem opZ_put {j : Nat} {oi oj : Oper} {v : Value} (hj : ops[j]? = some oj) (hap : oi.apart ops oj = true)
    (hsi : ∀ cs b, oi.op ≠ .select cs b) (hsj : ∀ cs b, oj.op ≠ .select cs b) {K : Act → World → Prop} {a : Act} {w : World}
    (hy : YieldsZ P ops S oi v a) (h : opZ P ops j K (a.put oi.dst v) w) :
    opZ P ops j (fun a' w' => YieldsZ P ops S oi v a' ∧ K (a'.put oi.dst v) w') a w := by
  obtain ⟨h1, h2, h3⟩ := Oper.apart_spec hap
  have keep : ∀ (a : Act), YieldsZ P ops S oi v a → ∀ u, YieldsZ P ops S oi v (a.put oj.dst u) := fun a hy u =>
    hy.of_same (execOp_put oi hsi a oj.dst u h3) (wanted_put oi a oj.dst u h3)
  unfold opZ at *
  simp only [hj] at *
  rw [wanted_put oj a oi.dst v h1] at h
  split
  · rename_i hw
    simp only [hw, if_true] at h
    rw [execOp_put oj hsj a oi.dst v h1] at h
    exact h.mono fun u w' hu => ⟨keep a hy u, by rw [← Act.put_comm a v u h2]; exact hu⟩
  · rename_i hw
    simp only [hw] at h
    exact ⟨keep a hy _, by rw [← Act.put_comm a v undef h2]; exact h⟩

theorem anyZ_first {B : List Nat} {i : Nat} {oi : Oper} {v : Value} (hi : ops[i]? = some oi) (hsel : ∀ (j : Nat) (o : Oper) cs b, ops[j]? = some o → o.op ≠ .select cs b)
    (hiB : ∀ b ∈ B, ∀ l, Cl md ops l → b ∈ Region.ready md ops l → l.getD i false = true) :
    ∀ (fuel : Nat) (listed : Array Bool) (a : Act) (w : World),
      (∀ j oj, ops[j]? = some oj → j ≠ i → listed.getD j true = false → (∀ e ∈ oj.after, Region.binds md e = true → e.on ≠ i) → oi.apart ops oj = true) →
      Cl md ops listed → i ∈ Region.ready md ops listed → hasB B listed = false → YieldsZ P ops S oi v a → S w →
      anyZ P md ops Q B S fuel (listed.setIfInBounds i true) (a.put oi.dst v) w → anyZ P md ops Q B S (fuel + 1) listed a w := by
  have notB : ∀ (listed : Array Bool) (j : Nat), Cl md ops listed → i ∈ Region.ready md ops listed → j ∈ Region.ready md ops listed → j ∉ B := fun listed j hc hr hj hjB => by
    have h1 := hiB j hjB listed hc hj
    have h0 := ready_unlisted hr
    rcases Nat.lt_or_ge i listed.size with h' | h'
    · simp [h'] at h0 h1; rw [h0] at h1; cases h1
    · simp [Array.getElem?_eq_none h'] at h1
  intro fuel
  induction fuel with
  | zero =>
    intro listed a w _ _ hr _ hy hS H
    refine ⟨fun h => (by rw [h] at hr; cases hr), fun j hj => ?_⟩
    by_cases hji : j = i
    · subst hji; exact hy.opZ hi hS ⟨fun _ => hS, H⟩
    · have := ready_mono hj hji
      rw [H.1] at this
      cases this
  | succ fuel ih =>
    intro listed a w hfree hCl hr hB hy hS H
    refine ⟨fun h => (by rw [h] at hr; cases hr), fun j hj => ?_⟩
    by_cases hji : j = i
    · subst hji; exact hy.opZ hi hS ⟨fun _ => hS, H⟩
    · have h1 := H.2 j (ready_mono hj hji)
      have hjB := notB listed j hCl hr hj
      have hiB' := notB listed i hCl hr hr
      have hb1 : hasB B (listed.setIfInBounds j true) = false := by rw [hasB_set hjB]; exact hB
      have hb2 : hasB B ((listed.setIfInBounds i true).setIfInBounds j true) = false := by rw [hasB_set hjB, hasB_set hiB']; exact hB
      obtain ⟨hjun, oj, hoj, hall⟩ := mem_ready.1 hj
      have hnot : ∀ e ∈ oj.after, Region.binds md e = true → e.on ≠ i := fun e he hb heq => by
        have h1 := hall e he hb
        have h0 := (mem_ready.1 hr).1
        rw [heq] at h1
        rcases Nat.lt_or_ge i listed.size with h' | h'
        · simp [h'] at h0 h1; rw [h0] at h1; cases h1
        · simp [Array.getElem?_eq_none h'] at h1
      have h2 := opZ_put hoj (hfree j oj hoj hji hjun hnot) (fun cs b => hsel i oi cs b hi) (fun cs b => hsel j oj cs b hoj) hy h1
      have hfree' : ∀ k ok, ops[k]? = some ok → k ≠ i → (listed.setIfInBounds j true).getD k true = false →
          (∀ e ∈ ok.after, Region.binds md e = true → e.on ≠ i) → oi.apart ops ok = true := fun k ok hk hki hun hno => by
        refine hfree k ok hk hki ?_ hno
        by_cases hjk : j = k
        · subst hjk; exact hjun
        · rw [getD_set_ne true hjk] at hun; exact hun
      refine opZ_mono (fun a' w' h3 => ⟨fun _ => h3.2.1 hb2, ih (listed.setIfInBounds j true) a' w' hfree' (hCl.set hj) (ready_mono hr (Ne.symm hji)) hb1 h3.1 (h3.2.1 hb2) ?_⟩) h2
      rw [Array.setIfInBounds_comm _ _ hji]
      exact h3.2.2

/-- .. of an operation that asks nothing of the world. -/
theorem anyZ_firstP {B : List Nat} {i : Nat} {oi : Oper} {v : Value} (hi : ops[i]? = some oi) (hsel : ∀ (j : Nat) (o : Oper) cs b, ops[j]? = some o → o.op ≠ .select cs b) (hiB : i ∉ B) :
    ∀ (fuel : Nat) (listed : Array Bool) (a : Act) (w : World),
      (∀ j oj, ops[j]? = some oj → j ≠ i → listed.getD j true = false → (∀ e ∈ oj.after, Region.binds md e = true → e.on ≠ i) → oi.apart ops oj = true) →
      i ∈ Region.ready md ops listed → YieldsZ P ops (fun _ => True) oi v a → (hasB B listed = false → S w) →
      anyZ P md ops Q B S fuel (listed.setIfInBounds i true) (a.put oi.dst v) w → anyZ P md ops Q B S (fuel + 1) listed a w := by
  intro fuel
  induction fuel with
  | zero =>
    intro listed a w _ hr hy hS H
    refine ⟨fun h => (by rw [h] at hr; cases hr), fun j hj => ?_⟩
    by_cases hji : j = i
    · subst hji; exact hy.opZ hi trivial ⟨fun hb => hS (by rw [hasB_set hiB] at hb; exact hb), H⟩
    · have := ready_mono hj hji
      rw [H.1] at this
      cases this
  | succ fuel ih =>
    intro listed a w hfree hr hy hS H
    refine ⟨fun h => (by rw [h] at hr; cases hr), fun j hj => ?_⟩
    by_cases hji : j = i
    · subst hji; exact hy.opZ hi trivial ⟨fun hb => hS (by rw [hasB_set hiB] at hb; exact hb), H⟩
    · have h1 := H.2 j (ready_mono hj hji)
      obtain ⟨hjun, oj, hoj, hall⟩ := mem_ready.1 hj
      have hnot : ∀ e ∈ oj.after, Region.binds md e = true → e.on ≠ i := fun e he hb heq => by
        have h1 := hall e he hb
        have h0 := (mem_ready.1 hr).1
        rw [heq] at h1
        rcases Nat.lt_or_ge i listed.size with h' | h'
        · simp [h'] at h0 h1; rw [h0] at h1; cases h1
        · simp [Array.getElem?_eq_none h'] at h1
      have h2 := opZ_put hoj (hfree j oj hoj hji hjun hnot) (fun cs b => hsel i oi cs b hi) (fun cs b => hsel j oj cs b hoj) hy h1
      have hfree' : ∀ k ok, ops[k]? = some ok → k ≠ i → (listed.setIfInBounds j true).getD k true = false →
          (∀ e ∈ ok.after, Region.binds md e = true → e.on ≠ i) → oi.apart ops ok = true := fun k ok hk hki hun hno => by
        refine hfree k ok hk hki ?_ hno
        by_cases hjk : j = k
        · subst hjk; exact hjun
        · rw [getD_set_ne true hjk] at hun; exact hun
      have hbe : hasB B (listed.setIfInBounds j true) = false → hasB B ((listed.setIfInBounds i true).setIfInBounds j true) = false := fun hb => by
        rw [Array.setIfInBounds_comm _ _ (fun e => hji e.symm), hasB_set hiB]; exact hb
      refine opZ_mono (fun a' w' h3 => ⟨fun hb => h3.2.1 (hbe hb), ih (listed.setIfInBounds j true) a' w' hfree' (ready_mono hr (Ne.symm hji)) h3.1 (fun hb => h3.2.1 (hbe hb)) ?_⟩) h2
      rw [Array.setIfInBounds_comm _ _ hji]
      exact h3.2.2
theorem anyZ_takeP {B : List Nat} {i : Nat} {oi : Oper} {v : Value} {fuel : Nat} {listed : Array Bool} {a : Act} {w : World} (hi : ops[i]? = some oi)
    (hs : Region.noSelect ops = true) (hf : Region.free md ops listed i = true) (hr : (Region.ready md ops listed).contains i = true) (hiB : i ∉ B)
    (hy : YieldsZ P ops (fun _ => True) oi v a) (hS : S w)
    (h : anyZ P md ops Q B S fuel (listed.setIfInBounds i true) (a.put oi.dst v) w) : anyZ P md ops Q B S (fuel + 1) listed a w :=
  anyZ_firstP hi (Region.noSelect_spec hs) hiB fuel listed a w (Region.free_spec hi hf) (by simpa using hr) hy (fun _ => hS) h
theorem anyZ_take {B : List Nat} {i : Nat} {oi : Oper} {v : Value} {fuel : Nat} {listed : Array Bool} {a : Act} {w : World} (hi : ops[i]? = some oi)
    (hs : Region.noSelect ops = true) (hf : Region.free md ops listed i = true) (hr : (Region.ready md ops listed).contains i = true)
    (hiB : ∀ b ∈ B, ∀ l, Cl md ops l → b ∈ Region.ready md ops l → l.getD i false = true) (hB : hasB B listed = false) (hCl : Cl md ops listed)
    (hy : YieldsZ P ops S oi v a) (hS : S w)
    (h : anyZ P md ops Q B S fuel (listed.setIfInBounds i true) (a.put oi.dst v) w) : anyZ P md ops Q B S (fuel + 1) listed a w :=
  anyZ_first hi (Region.noSelect_spec hs) hiB fuel listed a w (Region.free_spec hi hf) hCl (by simpa using hr) hB hy hS h
theorem anyZ_all {B : List Nat} {rs : List Nat} {fuel : Nat} {listed : Array Bool} {a : Act} {w : World} (hr : Region.ready md ops listed = rs) (hne : rs ≠ [])
    (h : ∀ i ∈ rs, opZ P ops i (fun a' w' => (hasB B (listed.setIfInBounds i true) = false → S w') ∧ anyZ P md ops Q B S fuel (listed.setIfInBounds i true) a' w') a w) : anyZ P md ops Q B S (fuel + 1) listed a w :=
  ⟨fun h0 => absurd (hr ▸ h0) hne, hr ▸ h⟩
theorem anyZ_done {B : List Nat} {listed : Array Bool} {a : Act} {w : World} (hr : Region.ready md ops listed = []) (h : Q a w) : ∀ fuel, anyZ P md ops Q B S fuel listed a w
  | 0 => ⟨hr, h⟩
  | _ + 1 => ⟨fun _ => h, by rw [hr]; simp⟩
end
end Go.Proofs.YtpmmhcgghldaaaaDoor
