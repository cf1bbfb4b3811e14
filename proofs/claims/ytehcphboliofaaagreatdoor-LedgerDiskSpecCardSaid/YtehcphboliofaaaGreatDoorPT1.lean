/- Parts of the proof: Va Vb Vc. -/
import Derived.OrdersIn
import Derived.RangeFuncLeaves
import Derived.WalkKit
namespace Go.Proofs.YtehcphboliofaaaGreatDoor
open Go
def z (w : World) : World := { w with drawn := 0 }
@[simp] theorem z_heap (w : World) : (z w).heap = w.heap := rfl
@[simp] theorem z_cell (w : World) (a : Addr) : (z w).cell? a = w.cell? a := rfl
@[simp] theorem z_frozen (w : World) (a : Addr) : (z w).frozen? a = w.frozen? a := rfl
abbrev Fw (r : Option Nat) : Fence := { Fence.wide with round := r }
abbrev VK := Value → World → Prop
def CallZ (P : Program) (f : FuncId) (args : Array Value) (w : World) (R : VK) : Prop :=
  ∀ w0, z w0 = w → CallsIn Fence.wide 0 P f args w0 (fun e w' => ∃ v, e = .returned v ∧ R v (z w'))
def RowZ (P : Program) (row : String) (args : Array Value) (w0 : World) (R : VK) : Prop :=
  RowsIn Fence.wide 0 P row args w0 (fun v w' => R v (z w'))
def RoundZ (P : Program) (l : Nat) (f : FuncId) (tmps : Array Value) (assign body : Code) (w0 : World) (R : VK) : Prop :=
  RoundIn Fence.wide 0 P l f tmps assign body w0 (fun e w' => ∃ v, e = .returned v ∧ R v (z w'))
theorem CallZ.mono {P : Program} {f : FuncId} {args : Array Value} {w : World} {R R' : VK} (h : CallZ P f args w R) (hr : ∀ v w', R v w' → R' v w') : CallZ P f args w R' :=
  fun w0 hw => (h w0 hw).mono fun _ _ ⟨v, he, hv⟩ => ⟨v, he, hr _ _ hv⟩
def uponZ (P : Program) (K : VK) : Result Next → Prop
  | .ok (.value v) w' => K v (z w')
  | .ok .skip w' => K undef (z w')
  | .ok (.enter f args) w' => CallsIn Fence.wide 0 P f args w' (fun e w'' => ∃ v, e = .returned v ∧ K v (z w''))
  | .ok (.row row args) w' => RowZ P row args w' K
  | .ok (.round l f tmps assign body) w' => RoundZ P l f tmps assign body w' K
  | _ => False
def OpS (P : Program) (s : Sem Next) (K : VK) (w : World) : Prop := ∀ w0, z w0 = w → uponZ P K (s.run P w0)
theorem uponZ_mono {P : Program} {K K' : VK} (h : ∀ v w, K v w → K' v w) : ∀ r, uponZ P K r → uponZ P K' r
  | .ok (.value _) _, hh => h _ _ hh
  | .ok .skip _, hh => h _ _ hh
  | .ok (.enter _ _) _, hh => CallsIn.mono hh fun _ _ ⟨v, he, hv⟩ => ⟨v, he, h _ _ hv⟩
  | .ok (.row _ _) _, hh => RowsIn.mono hh fun _ _ hv => h _ _ hv
  | .ok (.round _ _ _ _ _) _, hh => RoundIn.mono hh fun _ _ ⟨v, he, hv⟩ => ⟨v, he, h _ _ hv⟩
  | .ok (.defer _) _, hh | .ok .recover _, hh | .ok (.spawn _) _, hh | .ok (.comm _ _ _) _, hh | .ok .numGoroutine _, hh | .ok .collect _, hh
  | .ok (.watch _) _, hh | .ok (.newcoro _ _) _, hh | .ok (.coroswitch _ _) _, hh | .ok (.sleep _) _, hh | .ok (.timer _) _, hh | .ok (.alone _ _) _, hh
  | .ok (.callThen _ _ _ _) _, hh | .ok (.stack _ _) _, hh | .halt _ _, hh => hh.elim
theorem OpS.mono {P : Program} {s : Sem Next} {K K' : VK} {w : World} (hh : OpS P s K w) (h : ∀ v w, K v w → K' v w) : OpS P s K' w :=
  fun w0 hw => uponZ_mono h _ (hh w0 hw)
def PureS (P : Program) (s : Sem Next) (K : Value → Prop) : Prop := ∃ v, (∀ w, s.run P w = .ok (.value v) w) ∧ K v
theorem PureS.op {P : Program} {s : Sem Next} {K : VK} {w : World} (h : PureS P s (fun v => K v w)) : OpS P s K w := by
  obtain ⟨v, hv, hk⟩ := h; intro w0 hw; rw [hv]; subst hw; exact hk
abbrev XK := List PanicEntry → World → Prop
def uponX (P : Program) (K : VK) (X : XK) : Result Next → Prop
  | .ok (.value v) w' => K v (z w')
  | .ok .skip w' => K undef (z w')
  | .ok (.enter f args) w' => CallsIn Fence.wide 0 P f args w' (fun e w'' => match e with | .returned v => K v (z w'') | .panicked ch => X ch (z w'') | .outgrown => False)
  | .ok (.row row args) w' => RowZ P row args w' K
  | .ok (.round l f tmps assign body) w' => RoundZ P l f tmps assign body w' K
  | .halt (.panic v) w' => X [{ v, recovered := false }] (z w')
  | _ => False
def OpX (P : Program) (s : Sem Next) (K : VK) (X : XK) (w : World) : Prop := ∀ w0, z w0 = w → uponX P K X (s.run P w0)
theorem uponX_of {P : Program} {K : VK} {X : XK} : ∀ r, uponZ P K r → uponX P K X r
  | .ok (.value _) _, hh => hh
  | .ok .skip _, hh => hh
  | .ok (.enter _ _) _, hh => CallsIn.mono hh fun _ _ ⟨v, he, hv⟩ => by subst he; exact hv
  | .ok (.row _ _) _, hh => hh
  | .ok (.round _ _ _ _ _) _, hh => hh
  | .ok (.defer _) _, hh | .ok .recover _, hh | .ok (.spawn _) _, hh | .ok (.comm _ _ _) _, hh | .ok .numGoroutine _, hh | .ok .collect _, hh
  | .ok (.watch _) _, hh | .ok (.newcoro _ _) _, hh | .ok (.coroswitch _ _) _, hh | .ok (.sleep _) _, hh | .ok (.timer _) _, hh | .ok (.alone _ _) _, hh
  | .ok (.callThen _ _ _ _) _, hh | .ok (.stack _ _) _, hh | .halt _ _, hh => hh.elim
theorem OpS.x {P : Program} {s : Sem Next} {K : VK} {X : XK} {w : World} (h : OpS P s K w) : OpX P s K X w := fun w0 hw => uponX_of _ (h w0 hw)
theorem uponX_mono {P : Program} {K K' : VK} {X X' : XK} (h : ∀ v w, K v w → K' v w) (hx : ∀ ch w, X ch w → X' ch w) : ∀ r, uponX P K X r → uponX P K' X' r
  | .ok (.value _) _, hh => h _ _ hh
  | .ok .skip _, hh => h _ _ hh
  | .ok (.enter _ _) _, hh => CallsIn.mono hh fun e _ he => by
    cases e with
    | returned v => exact h _ _ he
    | panicked ch => exact hx _ _ he
    | outgrown => exact he
  | .ok (.row _ _) _, hh => RowsIn.mono hh fun _ _ hv => h _ _ hv
  | .ok (.round _ _ _ _ _) _, hh => RoundIn.mono hh fun _ _ ⟨v, he, hv⟩ => ⟨v, he, h _ _ hv⟩
  | .halt (.panic _) _, hh => hx _ _ hh
  | .ok (.defer _) _, hh | .ok .recover _, hh | .ok (.spawn _) _, hh | .ok (.comm _ _ _) _, hh | .ok .numGoroutine _, hh | .ok .collect _, hh
  | .ok (.watch _) _, hh | .ok (.newcoro _ _) _, hh | .ok (.coroswitch _ _) _, hh | .ok (.sleep _) _, hh | .ok (.timer _) _, hh | .ok (.alone _ _) _, hh
  | .ok (.callThen _ _ _ _) _, hh | .ok (.stack _ _) _, hh => hh.elim
  | .halt x w, hh => by
    cases x with
    | panic v => exact hx _ _ hh
    | _ => exact hh.elim
theorem OpX.mono' {P : Program} {s : Sem Next} {K K' : VK} {X X' : XK} {w : World} (hh : OpX P s K X w) (h : ∀ v w, K v w → K' v w) (hx : ∀ ch w, X ch w → X' ch w) : OpX P s K' X' w :=
  fun w0 hw => uponX_mono h hx _ (hh w0 hw)
theorem OpX.mono {P : Program} {s : Sem Next} {K K' : VK} {X : XK} {w : World} (hh : OpX P s K X w) (h : ∀ v w, K v w → K' v w) : OpX P s K' X w := hh.mono' h fun _ _ h => h
section
variable {P : Program} {r : Option Nat} {Q : Exit → Act → World → Prop}
theorem upon_wp {o : Oper} {a : Act} {K : Act → World → Prop} {X : XK} {w0 : World} (hX : ∀ ch w', X ch (z w') → Q (.panic ch) a w') (h : OpX P (execOp a.eval o) (fun v w' => K (a.put o.dst v) w') X (z w0)) :
    o.wpIn (Fw r) 0 P a w0 (fun a' w' => K a' (z w')) Q := by
  refine ⟨fun f _ => trivial, ?_⟩; have h := h w0 rfl
  have hs : (o.semAt (Fw r).round a.eval).run P w0 = (execOp a.eval o).run P w0 := by
    cases r with
    | none => rfl
    | some l =>
      by_cases hd : ∃ c, o.op = .defer c
      · obtain ⟨c, hc⟩ := hd; unfold Oper.semAt; unfold execOp at h ⊢; rw [hc] at h ⊢; simp only [Sem.run_bind] at h ⊢
        cases hr : (resolve a.eval c o.type).run P w0 with
        | ok v w => rw [hr] at h; exact h.elim
        | halt x w => rfl
      · rw [show (Fw (some l)).round = some l from rfl, Oper.semAt_some l _ _ (fun c hc => hd ⟨c, hc⟩)]
  rw [hs]
  generalize (execOp a.eval o).run P w0 = res at h
  cases res with
  | halt x w' =>
    cases x with
    | panic v => exact hX _ _ h
    | _ => exact h.elim
  | ok x w' =>
    cases x <;> simp only [uponX] at h <;> simp only [Oper.uponIn]
    case value v => exact h
    case skip => exact h
    case enter f args => exact ⟨fun hh => (by cases hh), CallsIn.mono h fun e w'' he => by
      cases e with
      | returned v => exact he
      | panicked ch => exact hX _ _ he
      | outgrown => exact he.elim⟩
    case row row args => exact ⟨fun hh => (by cases hh), RowsIn.mono h fun v w'' hv => hv⟩
    case round l f tmps assign body => exact ⟨fun hh => (by cases hh), RoundIn.mono h fun e w'' ⟨v, he, hv⟩ => by subst he; exact hv⟩
end
section
variable {P : Program} {ops : Array Oper} {Q : Act → World → Prop} {X : XK} {S : World → Prop} {md : Region.Mode}
def opZ (P : Program) (ops : Array Oper) (X : XK) (i : Nat) (K : Act → World → Prop) (a : Act) (w : World) : Prop :=
  match ops[i]? with
  | none => K a w
  | some o => if Region.wanted o (yielded ops a.tmps) then OpX P (execOp a.eval o) (fun v w' => K (a.put o.dst v) w') X w else K (a.put o.dst undef) w
theorem opZ_mono {i : Nat} {a : Act} {w : World} {K K' : Act → World → Prop} (h : ∀ a w, K a w → K' a w) (hh : opZ P ops X i K a w) : opZ P ops X i K' a w := by
  unfold opZ at *
  split
  · exact h _ _ (by simpa [*] using hh)
  · rename_i o ho; simp only [ho] at hh
    split
    · rename_i hw; simp only [hw, if_true] at hh; exact hh.mono fun _ _ => h _ _
    · rename_i hw; simp only [hw] at hh; exact h _ _ hh
def hasB (B : List Nat) (l : Array Bool) : Bool := B.any fun b => l.getD b false
def anyZ (P : Program) (md : Region.Mode) (ops : Array Oper) (Q : Act → World → Prop) (X : XK) (B : List Nat) (S : World → Prop) : Nat → Array Bool → Act → World → Prop
  | 0, listed, a, w => Region.ready md ops listed = [] ∧ Q a w
  | fuel + 1, listed, a, w =>
    (Region.ready md ops listed = [] → Q a w) ∧
    ∀ i ∈ Region.ready md ops listed, opZ P ops X i (fun a' w' => (hasB B (listed.setIfInBounds i true) = false → S w') ∧ anyZ P md ops Q X B S fuel (listed.setIfInBounds i true) a' w') a w
theorem anyZ_weak {B : List Nat} {S' : World → Prop} (hs : ∀ w, S' w → S w) : ∀ (fuel : Nat) (listed : Array Bool) (a : Act) (w : World), anyZ P md ops Q X B S' fuel listed a w → anyZ P md ops Q X B S fuel listed a w
  | 0, _, _, _, h => h
  | fuel + 1, _, _, _, h => ⟨h.1, fun i hi => opZ_mono (fun a' w' h' => ⟨fun hb => hs _ (h'.1 hb), anyZ_weak hs fuel _ a' w' h'.2⟩) (h.2 i hi)⟩
theorem ready_unlisted {listed : Array Bool} {i : Nat} (h : i ∈ Region.ready md ops listed) : listed.getD i true = false := (mem_ready.1 h).1
theorem hasB_mem {B : List Nat} {l : Array Bool} {b : Nat} (hb : b ∈ B) (h : l.getD b false = true) : hasB B l = true := List.any_eq_true.2 ⟨b, hb, h⟩
theorem hasB_set {B : List Nat} {l : Array Bool} {i : Nat} (hi : i ∉ B) : hasB B (l.setIfInBounds i true) = hasB B l := by
  unfold hasB
  have key : ∀ B' : List Nat, i ∉ B' → (B'.any fun b => (l.setIfInBounds i true).getD b false) = B'.any fun b => l.getD b false := by
    intro B'
    induction B' with
    | nil => intro _; rfl
    | cons b r ih =>
      intro h; rw [List.any_cons, List.any_cons, ih (fun h' => h (List.mem_cons_of_mem _ h')), getD_set_ne false (fun e => h (by rw [e]; exact List.mem_cons_self))]
  exact key B hi
def Cl (md : Region.Mode) (ops : Array Oper) (l : Array Bool) : Prop := ∀ k ok, ops[k]? = some ok → l.getD k false = true → ∀ e ∈ ok.after, Region.binds md e = true → l.getD e.on false = true
theorem getD_set_true {l : Array Bool} {i k : Nat} (h : l.getD k false = true) : (l.setIfInBounds i true).getD k false = true := by
  by_cases e : i = k
  · subst e; rcases Nat.lt_or_ge i l.size with h' | h'
    · simp [h']
    · simp [Array.getElem?_eq_none h'] at h
  · rw [getD_set_ne false e]; exact h
theorem Cl.set {l : Array Bool} {i : Nat} (h : Cl md ops l) (hi : i ∈ Region.ready md ops l) : Cl md ops (l.setIfInBounds i true) := by
  intro k ok hk hl e he hb; obtain ⟨_, oi, hoi, hall⟩ := mem_ready.1 hi
  by_cases e1 : i = k
  · subst e1; rw [hoi] at hk; injection hk with hk; subst hk; exact getD_set_true (hall e he hb)
  · rw [getD_set_ne false e1] at hl; exact getD_set_true (h k ok hk hl e he hb)
theorem Cl.start (n : Nat) : Cl md ops (Array.replicate n false) := by
  intro k ok _ hl; exfalso; rcases Nat.lt_or_ge k n with h' | h'
  · simp [h'] at hl
  · rw [Array.getD_eq_getD_getElem?, Array.getElem?_eq_none (by simpa using h')] at hl; cases hl
theorem anyZ_bar {B : List Nat} {S' : World → Prop} : ∀ (fuel : Nat) (listed : Array Bool) (a : Act) (w : World), (∀ i, listed.getD i true = false → i ∈ B) → anyZ P md ops Q X [] S' fuel listed a w → anyZ P md ops Q X B S fuel listed a w
  | 0, _, _, _, _, h => h
  | fuel + 1, listed, _, _, hu, h => ⟨h.1, fun i hi => opZ_mono (fun a' w' h' => ⟨fun hb => (by
      have hl := ready_unlisted hi
      have hlt : i < listed.size := by
        rcases Nat.lt_or_ge i listed.size with h' | h'
        · exact h'
        · simp [Array.getElem?_eq_none h'] at hl
      have := hasB_mem (l := listed.setIfInBounds i true) (hu i hl) (by simp [hlt])
      rw [this] at hb; cases hb), anyZ_bar fuel _ a' w' (fun k hk => by
        by_cases e : i = k
        · subst e; exact hu i (ready_unlisted hi)
        · rw [getD_set_ne true e] at hk; exact hu k hk) h'.2⟩) (h.2 i hi)⟩
theorem wpAnyIn_of_anyZ {B : List Nat} {r : Option Nat} {Q' : Exit → Act → World → Prop} {Inv : Act → Prop} (hI : ∀ a (o : Oper) v, o ∈ ops.toList → Inv a → Inv (a.put o.dst v)) (hQ : ∀ a w, Q a (z w) → Q' .normal a w) (hX : ∀ ch a w, Inv a → X ch (z w) → Q' (.panic ch) a w) : ∀ (fuel : Nat) (listed : Array Bool) (a : Act) (w0 : World),
    Inv a → anyZ P md ops Q X B S fuel listed a (z w0) → wpAnyIn (Fw r) 0 P md ops Q' fuel listed a w0
  | 0, _, _, _, _, h => ⟨h.1, hQ _ _ h.2⟩
  | fuel + 1, listed, a, w0, ha, h => ⟨fun h0 => hQ _ _ (h.1 h0), fun i hi => by
      have h2 := h.2 i hi
      unfold opZ at h2
      unfold wpOpIn
      cases ho : ops[i]? with
      | none => simp only [ho] at h2 ⊢; exact wpAnyIn_of_anyZ hI hQ hX fuel _ a w0 ha h2.2
      | some o =>
        simp only [ho] at h2 ⊢
        split
        · rename_i hw
          simp only [hw, if_true] at h2
          have h3 := upon_wp (r := r) (Q := Q') (K := fun a' w' => Inv a' ∧ anyZ P md ops Q X B S fuel (listed.setIfInBounds i true) a' w') (fun ch w' hx => hX ch a w' ha hx) (h2.mono fun v w' h' => ⟨hI a o v (List.mem_of_getElem? (by simpa using ho)) ha, h'.2⟩)
          exact Oper.wpIn_mono (fun a' w' h' => wpAnyIn_of_anyZ hI hQ hX fuel _ a' w' h'.1 h'.2) h3
        · rename_i hw
          simp only [hw] at h2
          exact ⟨fun _ _ => trivial, wpAnyIn_of_anyZ hI hQ hX fuel _ _ w0 (hI a o undef (List.mem_of_getElem? (by simpa using ho)) ha) h2.2⟩⟩
theorem wp_region_any {B : List Nat} {r : Option Nat} {id : Nat} {Q' : Exit → Act → World → Prop} {Inv : Act → Prop} {a : Act} {w0 : World} (hm : P.follows .mixedOrders = true) (hI : ∀ a (o : Oper) v, o ∈ ops.toList → Inv a → Inv (a.put o.dst v)) (hQ : ∀ a w, Q a (z w) → Q' .normal a w) (hX : ∀ ch a w, Inv a → X ch (z w) → Q' (.panic ch) a w) (ha : Inv a)
    (h : anyZ P .any ops Q X B S ops.size (Array.replicate ops.size false) a (z w0)) : (Code.region id ops true).wpIn (Fw r) 0 P Q' a w0 :=
  wpIn_region_any hm (wpAnyIn_of_anyZ hI hQ hX _ _ _ _ ha h)
def YieldsZ (P : Program) (ops : Array Oper) (S : World → Prop) (o : Oper) (v : Value) (a : Act) : Prop :=
  (Region.wanted o (yielded ops a.tmps) = true ∧ ∀ w, S w → OpS P (execOp a.eval o) (fun u w' => u = v ∧ w' = w) w) ∨
  (Region.wanted o (yielded ops a.tmps) = false ∧ v = undef)
theorem YieldsZ.opZ {i : Nat} {o : Oper} {v : Value} {a : Act} (hi : ops[i]? = some o) (hy : YieldsZ P ops S o v a)
    {K : Act → World → Prop} {w : World} (hS : S w) (h : K (a.put o.dst v) w) : opZ P ops X i K a w := by
  unfold Proofs.YtehcphboliofaaaGreatDoor.opZ; simp only [hi]; rcases hy with ⟨hw, hv⟩ | ⟨hw, rfl⟩
  · simp only [hw, if_true]; exact ((hv w hS).mono fun u w' ⟨e1, e2⟩ => (by subst e1; subst e2; exact h : K (a.put o.dst u) w')).x
  · simp only [hw, Bool.false_eq_true, if_false]; exact h
theorem YieldsZ.of_same {o : Oper} {v : Value} {a a' : Act} (hy : YieldsZ P ops S o v a) (he : execOp a'.eval o = execOp a.eval o)
    (hw : Region.wanted o (yielded ops a'.tmps) = Region.wanted o (yielded ops a.tmps)) : YieldsZ P ops S o v a' := by
  unfold YieldsZ at *; rw [he, hw]; exact hy
theorem opZ_put {j : Nat} {oi oj : Oper} {v : Value} (hj : ops[j]? = some oj) (hap : oi.apart ops oj = true)
    (hsi : ∀ cs b, oi.op ≠ .select cs b) (hsj : ∀ cs b, oj.op ≠ .select cs b) {K : Act → World → Prop} {a : Act} {w : World}
    (hy : YieldsZ P ops S oi v a) (h : opZ P ops X j K (a.put oi.dst v) w) :
    opZ P ops X j (fun a' w' => YieldsZ P ops S oi v a' ∧ K (a'.put oi.dst v) w') a w := by
  obtain ⟨h1, h2, h3⟩ := Oper.apart_spec hap
  have keep : ∀ (a : Act), YieldsZ P ops S oi v a → ∀ u, YieldsZ P ops S oi v (a.put oj.dst u) := fun a hy u =>
    hy.of_same (execOp_put oi hsi a oj.dst u h3) (wanted_put oi a oj.dst u h3)
  unfold opZ at *; simp only [hj] at *; rw [wanted_put oj a oi.dst v h1] at h
  split
  · rename_i hw; simp only [hw, if_true] at h; rw [execOp_put oj hsj a oi.dst v h1] at h; exact h.mono fun u w' hu => ⟨keep a hy u, by rw [← Act.put_comm a v u h2]; exact hu⟩
  · rename_i hw; simp only [hw] at h; exact ⟨keep a hy _, by rw [← Act.put_comm a v undef h2]; exact h⟩
theorem anyZ_first {B : List Nat} {i : Nat} {oi : Oper} {v : Value} (hi : ops[i]? = some oi) (hsel : ∀ (j : Nat) (o : Oper) cs b, ops[j]? = some o → o.op ≠ .select cs b)
    (hiB : ∀ b ∈ B, ∀ l, Cl md ops l → b ∈ Region.ready md ops l → l.getD i false = true) :
    ∀ (fuel : Nat) (listed : Array Bool) (a : Act) (w : World),
      (∀ j oj, ops[j]? = some oj → j ≠ i → listed.getD j true = false → (∀ e ∈ oj.after, Region.binds md e = true → e.on ≠ i) → oi.apart ops oj = true) →
      Cl md ops listed → i ∈ Region.ready md ops listed → hasB B listed = false → YieldsZ P ops S oi v a → S w →
      anyZ P md ops Q X B S fuel (listed.setIfInBounds i true) (a.put oi.dst v) w → anyZ P md ops Q X B S (fuel + 1) listed a w := by
  have notB : ∀ (listed : Array Bool) (j : Nat), Cl md ops listed → i ∈ Region.ready md ops listed → j ∈ Region.ready md ops listed → j ∉ B := fun listed j hc hr hj hjB => by
    have h1 := hiB j hjB listed hc hj; have h0 := ready_unlisted hr; rcases Nat.lt_or_ge i listed.size with h' | h'
    · simp [h'] at h0 h1; rw [h0] at h1; cases h1
    · simp [Array.getElem?_eq_none h'] at h1
  intro fuel
  induction fuel with
  | zero =>
    intro listed a w _ _ hr _ hy hS H; refine ⟨fun h => (by rw [h] at hr; cases hr), fun j hj => ?_⟩
    by_cases hji : j = i
    · subst hji; exact hy.opZ hi hS ⟨fun _ => hS, H⟩
    · have := ready_mono hj hji; rw [H.1] at this
      cases this
  | succ fuel ih =>
    intro listed a w hfree hCl hr hB hy hS H; refine ⟨fun h => (by rw [h] at hr; cases hr), fun j hj => ?_⟩
    by_cases hji : j = i
    · subst hji; exact hy.opZ hi hS ⟨fun _ => hS, H⟩
    · have h1 := H.2 j (ready_mono hj hji); have hjB := notB listed j hCl hr hj; have hiB' := notB listed i hCl hr hr
      have hb1 : hasB B (listed.setIfInBounds j true) = false := by rw [hasB_set hjB]; exact hB
      have hb2 : hasB B ((listed.setIfInBounds i true).setIfInBounds j true) = false := by rw [hasB_set hjB, hasB_set hiB']; exact hB
      obtain ⟨hjun, oj, hoj, hall⟩ := mem_ready.1 hj
      have hnot : ∀ e ∈ oj.after, Region.binds md e = true → e.on ≠ i := fun e he hb heq => by
        have h1 := hall e he hb; have h0 := (mem_ready.1 hr).1; rw [heq] at h1; rcases Nat.lt_or_ge i listed.size with h' | h'
        · simp [h'] at h0 h1; rw [h0] at h1; cases h1
        · simp [Array.getElem?_eq_none h'] at h1
      have h2 := opZ_put hoj (hfree j oj hoj hji hjun hnot) (fun cs b => hsel i oi cs b hi) (fun cs b => hsel j oj cs b hoj) hy h1
      have hfree' : ∀ k ok, ops[k]? = some ok → k ≠ i → (listed.setIfInBounds j true).getD k true = false →
          (∀ e ∈ ok.after, Region.binds md e = true → e.on ≠ i) → oi.apart ops ok = true := fun k ok hk hki hun hno => by
        refine hfree k ok hk hki ?_ hno
        by_cases hjk : j = k
        · subst hjk; exact hjun
        · rw [getD_set_ne true hjk] at hun; exact hun
      refine opZ_mono (fun a' w' h3 => ⟨fun _ => h3.2.1 hb2, ih (listed.setIfInBounds j true) a' w' hfree' (hCl.set hj) (ready_mono hr (Ne.symm hji)) hb1 h3.1 (h3.2.1 hb2) ?_⟩) h2; rw [Array.setIfInBounds_comm _ _ hji]; exact h3.2.2
theorem anyZ_firstP {B : List Nat} {i : Nat} {oi : Oper} {v : Value} (hi : ops[i]? = some oi) (hsel : ∀ (j : Nat) (o : Oper) cs b, ops[j]? = some o → o.op ≠ .select cs b) (hiB : i ∉ B) :
    ∀ (fuel : Nat) (listed : Array Bool) (a : Act) (w : World),
      (∀ j oj, ops[j]? = some oj → j ≠ i → listed.getD j true = false → (∀ e ∈ oj.after, Region.binds md e = true → e.on ≠ i) → oi.apart ops oj = true) →
      i ∈ Region.ready md ops listed → YieldsZ P ops (fun _ => True) oi v a → (hasB B listed = false → S w) →
      anyZ P md ops Q X B S fuel (listed.setIfInBounds i true) (a.put oi.dst v) w → anyZ P md ops Q X B S (fuel + 1) listed a w := by
  intro fuel
  induction fuel with
  | zero =>
    intro listed a w _ hr hy hS H; refine ⟨fun h => (by rw [h] at hr; cases hr), fun j hj => ?_⟩
    by_cases hji : j = i
    · subst hji; exact hy.opZ hi trivial ⟨fun hb => hS (by rw [hasB_set hiB] at hb; exact hb), H⟩
    · have := ready_mono hj hji; rw [H.1] at this
      cases this
  | succ fuel ih =>
    intro listed a w hfree hr hy hS H; refine ⟨fun h => (by rw [h] at hr; cases hr), fun j hj => ?_⟩
    by_cases hji : j = i
    · subst hji; exact hy.opZ hi trivial ⟨fun hb => hS (by rw [hasB_set hiB] at hb; exact hb), H⟩
    · have h1 := H.2 j (ready_mono hj hji); obtain ⟨hjun, oj, hoj, hall⟩ := mem_ready.1 hj
      have hnot : ∀ e ∈ oj.after, Region.binds md e = true → e.on ≠ i := fun e he hb heq => by
        have h1 := hall e he hb; have h0 := (mem_ready.1 hr).1; rw [heq] at h1; rcases Nat.lt_or_ge i listed.size with h' | h'
        · simp [h'] at h0 h1; rw [h0] at h1; cases h1
        · simp [Array.getElem?_eq_none h'] at h1
      have h2 := opZ_put hoj (hfree j oj hoj hji hjun hnot) (fun cs b => hsel i oi cs b hi) (fun cs b => hsel j oj cs b hoj) hy h1
      have hfree' : ∀ k ok, ops[k]? = some ok → k ≠ i → (listed.setIfInBounds j true).getD k true = false →
          (∀ e ∈ ok.after, Region.binds md e = true → e.on ≠ i) → oi.apart ops ok = true := fun k ok hk hki hun hno => by
        refine hfree k ok hk hki ?_ hno
        by_cases hjk : j = k
        · subst hjk; exact hjun
        · rw [getD_set_ne true hjk] at hun; exact hun
      have hbe : hasB B (listed.setIfInBounds j true) = false → hasB B ((listed.setIfInBounds i true).setIfInBounds j true) = false := fun hb => by
        rw [Array.setIfInBounds_comm _ _ (fun e => hji e.symm), hasB_set hiB]; exact hb
      refine opZ_mono (fun a' w' h3 => ⟨fun hb => h3.2.1 (hbe hb), ih (listed.setIfInBounds j true) a' w' hfree' (ready_mono hr (Ne.symm hji)) h3.1 (fun hb => h3.2.1 (hbe hb)) ?_⟩) h2; rw [Array.setIfInBounds_comm _ _ hji]; exact h3.2.2
theorem anyZ_takeP {B : List Nat} {i : Nat} {oi : Oper} {v : Value} {fuel : Nat} {listed : Array Bool} {a : Act} {w : World} (hi : ops[i]? = some oi)
    (hs : Region.noSelect ops = true) (hf : Region.free md ops listed i = true) (hr : (Region.ready md ops listed).contains i = true) (hiB : i ∉ B)
    (hy : YieldsZ P ops (fun _ => True) oi v a) (hS : S w)
    (h : anyZ P md ops Q X B S fuel (listed.setIfInBounds i true) (a.put oi.dst v) w) : anyZ P md ops Q X B S (fuel + 1) listed a w :=
  anyZ_firstP hi (Region.noSelect_spec hs) hiB fuel listed a w (Region.free_spec hi hf) (by simpa using hr) hy (fun _ => hS) h
theorem anyZ_take {B : List Nat} {i : Nat} {oi : Oper} {v : Value} {fuel : Nat} {listed : Array Bool} {a : Act} {w : World} (hi : ops[i]? = some oi)
    (hs : Region.noSelect ops = true) (hf : Region.free md ops listed i = true) (hr : (Region.ready md ops listed).contains i = true)
    (hiB : ∀ b ∈ B, ∀ l, Cl md ops l → b ∈ Region.ready md ops l → l.getD i false = true) (hB : hasB B listed = false) (hCl : Cl md ops listed)
    (hy : YieldsZ P ops S oi v a) (hS : S w)
    (h : anyZ P md ops Q X B S fuel (listed.setIfInBounds i true) (a.put oi.dst v) w) : anyZ P md ops Q X B S (fuel + 1) listed a w :=
  anyZ_first hi (Region.noSelect_spec hs) hiB fuel listed a w (Region.free_spec hi hf) hCl (by simpa using hr) hB hy hS h
theorem anyZ_all {B : List Nat} {rs : List Nat} {fuel : Nat} {listed : Array Bool} {a : Act} {w : World} (hr : Region.ready md ops listed = rs) (hne : rs ≠ [])
    (h : ∀ i ∈ rs, opZ P ops X i (fun a' w' => (hasB B (listed.setIfInBounds i true) = false → S w') ∧ anyZ P md ops Q X B S fuel (listed.setIfInBounds i true) a' w') a w) : anyZ P md ops Q X B S (fuel + 1) listed a w :=
  ⟨fun h0 => absurd (hr ▸ h0) hne, hr ▸ h⟩
theorem anyZ_done {B : List Nat} {listed : Array Bool} {a : Act} {w : World} (hr : Region.ready md ops listed = []) (h : Q a w) : ∀ fuel, anyZ P md ops Q X B S fuel listed a w
  | 0 => ⟨hr, h⟩
  | _ + 1 => ⟨fun _ => h, by rw [hr]; simp⟩
end
abbrev Fr := Nat → Value
abbrev KK := Exit → Fr → List Deferred → World → Prop
def upd (F : Fr) (d : Nat) (v : Value) : Fr := fun j => bif Nat.beq j d then v else F j
def updO (F : Fr) (d : Option Nat) (v : Value) : Fr := match d with | some d => upd F d v | none => F
def ev (F : Fr) : Operand → Value
  | .tmp t => F t
  | .const v => v
  | .global g => .pointer (some ⟨g, 0, none⟩)
  | .func f => .func (.func f) #[] #[]
def kno : IntKind → Nat
  | .i8 => 0 | .i16 => 1 | .i32 => 2 | .i64 => 3 | .u8 => 4 | .u16 => 5 | .u32 => 6 | .u64 => 7
theorem kno_inj {j k : IntKind} (h : Nat.beq (kno j) (kno k) = true) : j = k := by cases j <;> cases k <;> first | rfl | cases h
def vS (s : Sem Value) : Sem Next := do pure (.value (← s))
def uS (s : Sem Unit) : Sem Next := do s; pure .skip
structure CmpP (p : Prop) [Decidable p] (K : Value → Prop) : Prop where
  of_ ::
  un_ : (p → K (.bool true)) ∧ (¬ p → K (.bool false))
theorem CmpP_eq {p : Prop} [Decidable p] {K : Value → Prop} : CmpP p K = ((p → K (.bool true)) ∧ (¬ p → K (.bool false))) := propext ⟨fun h => h.un_, fun h => ⟨h⟩⟩
theorem CmpP.both {p : Prop} [Decidable p] {K : Value → Prop} (h : CmpP p K) : (p → K (.bool true)) ∧ (¬ p → K (.bool false)) := by rw [CmpP_eq] at h; exact h
theorem CmpP.of {p : Prop} [Decidable p] {K : Value → Prop} (h : (p → K (.bool true)) ∧ (¬ p → K (.bool false))) : CmpP p K := by rw [CmpP_eq]; exact h
theorem CmpP.val {p : Prop} [Decidable p] {K : Value → Prop} (h : CmpP p K) : K (.bool (decide p)) := by
  by_cases hp : p
  · rw [decide_eq_true hp]; exact h.both.1 hp
  · rw [decide_eq_false hp]; exact h.both.2 hp
structure PureP (P : Program) (s : Sem Next) (K : Value → Prop) : Prop where
  of_ ::
  un_ : PureS P s K
theorem PureP_eq {P : Program} {s : Sem Next} {K : Value → Prop} : PureP P s K = (PureS P s K) := propext ⟨fun h => h.un_, fun h => ⟨h⟩⟩
structure ArP (k : IntKind) (n : Int) (K : Value → Prop) : Prop where
  of_ ::
  un_ : K (.int k (k.wrap n))
theorem ArP_eq {k : IntKind} {n : Int} {K : Value → Prop} : ArP k n K = (K (.int k (k.wrap n))) := propext ⟨fun h => h.un_, fun h => ⟨h⟩⟩
structure BitP (op : BinOp) (k : IntKind) (a b : Int) (K : Value → Prop) : Prop where
  of_ ::
  un_ : K (.int k (bits op k a b))
theorem BitP_eq {op : BinOp} {k : IntKind} {a b : Int} {K : Value → Prop} : BitP op k a b K = (K (.int k (bits op k a b))) := propext ⟨fun h => h.un_, fun h => ⟨h⟩⟩
structure QuoP (k : IntKind) (a b : Int) (K : Value → Prop) : Prop where
  of_ ::
  un_ : b ≠ 0 ∧ K (.int k (k.wrap (a.tdiv b)))
theorem QuoP_eq {k : IntKind} {a b : Int} {K : Value → Prop} : QuoP k a b K = (b ≠ 0 ∧ K (.int k (k.wrap (a.tdiv b)))) := propext ⟨fun h => h.un_, fun h => ⟨h⟩⟩
structure RemP (k : IntKind) (a b : Int) (K : Value → Prop) : Prop where
  of_ ::
  un_ : b ≠ 0 ∧ K (.int k (a.tmod b))
theorem RemP_eq {k : IntKind} {a b : Int} {K : Value → Prop} : RemP k a b K = (b ≠ 0 ∧ K (.int k (a.tmod b))) := propext ⟨fun h => h.un_, fun h => ⟨h⟩⟩
structure ShlP (k : IntKind) (a b : Int) (K : Value → Prop) : Prop where
  of_ ::
  un_ : 0 ≤ b ∧ K (.int k (k.wrap (a * 2 ^ (min b.toNat k.bits))))
theorem ShlP_eq {k : IntKind} {a b : Int} {K : Value → Prop} : ShlP k a b K = (0 ≤ b ∧ K (.int k (k.wrap (a * 2 ^ (min b.toNat k.bits))))) := propext ⟨fun h => h.un_, fun h => ⟨h⟩⟩
structure ShrP (k : IntKind) (a b : Int) (K : Value → Prop) : Prop where
  of_ ::
  un_ : 0 ≤ b ∧ K (.int k (a.fdiv (2 ^ (min b.toNat k.bits))))
theorem ShrP_eq {k : IntKind} {a b : Int} {K : Value → Prop} : ShrP k a b K = (0 ≤ b ∧ K (.int k (a.fdiv (2 ^ (min b.toNat k.bits))))) := propext ⟨fun h => h.un_, fun h => ⟨h⟩⟩
structure BinP (P : Program) (op : BinOp) (t : TypeId) (xo yo : Operand) (x y : Value) (K : Value → Prop) : Prop where
  of_ ::
  un_ : PureS P (vS (do eqGuard op t xo yo x y; binOp op t x y)) K
theorem BinP_eq {P : Program} {op : BinOp} {t : TypeId} {xo yo : Operand} {x y : Value} {K : Value → Prop} : BinP P op t xo yo x y K = (PureS P (vS (do eqGuard op t xo yo x y; binOp op t x y)) K) := propext ⟨fun h => h.un_, fun h => ⟨h⟩⟩
structure ConvP (P : Program) (src dst : TypeId) (x : Value) (K : Value → Prop) : Prop where
  of_ ::
  un_ : PureS P (vS (convert src dst x)) K
theorem ConvP_eq {P : Program} {src dst : TypeId} {x : Value} {K : Value → Prop} : ConvP P src dst x K = (PureS P (vS (convert src dst x)) K) := propext ⟨fun h => h.un_, fun h => ⟨h⟩⟩
structure FldAP (P : Program) (s : TypeId) (x : Value) (f : Nat) (K : Value → Prop) : Prop where
  of_ ::
  un_ : PureS P (vS (Instr.fieldAt s x f)) K
theorem FldAP_eq {P : Program} {s : TypeId} {x : Value} {f : Nat} {K : Value → Prop} : FldAP P s x f K = (PureS P (vS (Instr.fieldAt s x f)) K) := propext ⟨fun h => h.un_, fun h => ⟨h⟩⟩
structure FldVP (P : Program) (t : TypeId) (x : Value) (f : Nat) (K : Value → Prop) : Prop where
  of_ ::
  un_ : PureS P (vS (Instr.field t x f)) K
theorem FldVP_eq {P : Program} {t : TypeId} {x : Value} {f : Nat} {K : Value → Prop} : FldVP P t x f K = (PureS P (vS (Instr.field t x f)) K) := propext ⟨fun h => h.un_, fun h => ⟨h⟩⟩
structure IdxAP (P : Program) (t : TypeId) (x i : Value) (K : Value → Prop) : Prop where
  of_ ::
  un_ : PureS P (vS (Instr.indexAt t x i)) K
theorem IdxAP_eq {P : Program} {t : TypeId} {x i : Value} {K : Value → Prop} : IdxAP P t x i K = (PureS P (vS (Instr.indexAt t x i)) K) := propext ⟨fun h => h.un_, fun h => ⟨h⟩⟩
structure IdxVP (P : Program) (t : TypeId) (x i : Value) (K : Value → Prop) : Prop where
  of_ ::
  un_ : PureS P (vS (Instr.index t x i)) K
theorem IdxVP_eq {P : Program} {t : TypeId} {x i : Value} {K : Value → Prop} : IdxVP P t x i K = (PureS P (vS (Instr.index t x i)) K) := propext ⟨fun h => h.un_, fun h => ⟨h⟩⟩
structure SlcP (P : Program) (t : TypeId) (x : Value) (lo hi mx : Option Value) (K : Value → Prop) : Prop where
  of_ ::
  un_ : PureS P (vS (Instr.sliceAt t x lo hi mx)) K
theorem SlcP_eq {P : Program} {t : TypeId} {x : Value} {lo hi mx : Option Value} {K : Value → Prop} : SlcP P t x lo hi mx K = (PureS P (vS (Instr.sliceAt t x lo hi mx)) K) := propext ⟨fun h => h.un_, fun h => ⟨h⟩⟩
structure LenP (P : Program) (t : TypeId) (x : Value) (K : Value → Prop) : Prop where
  of_ ::
  un_ : PureS P (vS (Builtin.len_ #[t] 0 #[x])) K
theorem LenP_eq {P : Program} {t : TypeId} {x : Value} {K : Value → Prop} : LenP P t x K = (PureS P (vS (Builtin.len_ #[t] 0 #[x])) K) := propext ⟨fun h => h.un_, fun h => ⟨h⟩⟩
structure BldP (P : Program) (t : TypeId) (ps : Array (Nat × Value)) (K : Value → Prop) : Prop where
  of_ ::
  un_ : PureS P (vS (Instr.build t ps)) K
theorem BldP_eq {P : Program} {t : TypeId} {ps : Array (Nat × Value)} {K : Value → Prop} : BldP P t ps K = (PureS P (vS (Instr.build t ps)) K) := propext ⟨fun h => h.un_, fun h => ⟨h⟩⟩
structure LoadG (P : Program) (S : World → Prop) (t : TypeId) (x : Value) (K : Value → Prop) : Prop where
  of_ ::
  un_ : ∃ v, (∀ w, S w → OpS P (vS (Instr.loadAt t x)) (fun u w' => u = v ∧ w' = w) w) ∧ K v
theorem LoadG_eq {P : Program} {S : World → Prop} {t : TypeId} {x : Value} {K : Value → Prop} : LoadG P S t x K = (∃ v, (∀ w, S w → OpS P (vS (Instr.loadAt t x)) (fun u w' => u = v ∧ w' = w) w) ∧ K v) := propext ⟨fun h => h.un_, fun h => ⟨h⟩⟩
structure LookG (P : Program) (S : World → Prop) (t : TypeId) (x i : Value) (ok : Bool) (K : Value → Prop) : Prop where
  of_ ::
  un_ : ∃ v, (∀ w, S w → OpS P (vS (Instr.lookup t x i ok)) (fun u w' => u = v ∧ w' = w) w) ∧ K v
theorem LookG_eq {P : Program} {S : World → Prop} {t : TypeId} {x i : Value} {ok : Bool} {K : Value → Prop} : LookG P S t x i ok K = (∃ v, (∀ w, S w → OpS P (vS (Instr.lookup t x i ok)) (fun u w' => u = v ∧ w' = w) w) ∧ K v) := propext ⟨fun h => h.un_, fun h => ⟨h⟩⟩
structure LenG (P : Program) (S : World → Prop) (t : TypeId) (x : Value) (K : Value → Prop) : Prop where
  of_ ::
  un_ : ∃ v, (∀ w, S w → OpS P (vS (Builtin.len_ #[t] 0 #[x])) (fun u w' => u = v ∧ w' = w) w) ∧ K v
theorem LenG_eq {P : Program} {S : World → Prop} {t : TypeId} {x : Value} {K : Value → Prop} : LenG P S t x K = (∃ v, (∀ w, S w → OpS P (vS (Builtin.len_ #[t] 0 #[x])) (fun u w' => u = v ∧ w' = w) w) ∧ K v) := propext ⟨fun h => h.un_, fun h => ⟨h⟩⟩
structure CallQ (P : Program) (S : World → Prop) (f : FuncId) (args : Array Value) (K : Value → Prop) : Prop where
  of_ ::
  un_ : ∃ v, (∀ w, S w → OpS P (callFunc f args) (fun u w' => u = v ∧ w' = w) w) ∧ K v
theorem CallQ_eq {P : Program} {S : World → Prop} {f : FuncId} {args : Array Value} {K : Value → Prop} : CallQ P S f args K = (∃ v, (∀ w, S w → OpS P (callFunc f args) (fun u w' => u = v ∧ w' = w) w) ∧ K v) := propext ⟨fun h => h.un_, fun h => ⟨h⟩⟩
structure StoreP (P : Program) (t : TypeId) (a v : Value) (K : VK) (w : World) : Prop where
  of_ ::
  un_ : OpS P (uS (Instr.storeAt t a v)) K w
theorem StoreP_eq {P : Program} {t : TypeId} {a v : Value} {K : VK} {w : World} : StoreP P t a v K w = (OpS P (uS (Instr.storeAt t a v)) K w) := propext ⟨fun h => h.un_, fun h => ⟨h⟩⟩
structure AllocP (P : Program) (e : TypeId) (K : VK) (w : World) : Prop where
  of_ ::
  un_ : OpS P (vS (Instr.alloc e true (.tuple #[]))) K w
theorem AllocP_eq {P : Program} {e : TypeId} {K : VK} {w : World} : AllocP P e K w = (OpS P (vS (Instr.alloc e true (.tuple #[]))) K w) := propext ⟨fun h => h.un_, fun h => ⟨h⟩⟩
structure BoxP (P : Program) (e : TypeId) (v : Value) (K : VK) (w : World) : Prop where
  of_ ::
  un_ : OpS P (vS (Instr.box e v)) K w
theorem BoxP_eq {P : Program} {e : TypeId} {v : Value} {K : VK} {w : World} : BoxP P e v K w = (OpS P (vS (Instr.box e v)) K w) := propext ⟨fun h => h.un_, fun h => ⟨h⟩⟩
structure BSlcP (P : Program) (t : TypeId) (n : Nat) (ps : Array (Nat × Value)) (K : VK) (w : World) : Prop where
  of_ ::
  un_ : OpS P (vS (Instr.buildSlice t n ps)) K w
theorem BSlcP_eq {P : Program} {t : TypeId} {n : Nat} {ps : Array (Nat × Value)} {K : VK} {w : World} : BSlcP P t n ps K w = (OpS P (vS (Instr.buildSlice t n ps)) K w) := propext ⟨fun h => h.un_, fun h => ⟨h⟩⟩
structure MMapP (P : Program) (t : TypeId) (r : Option Value) (K : VK) (w : World) : Prop where
  of_ ::
  un_ : OpS P (vS (Instr.makeMap t r)) K w
theorem MMapP_eq {P : Program} {t : TypeId} {r : Option Value} {K : VK} {w : World} : MMapP P t r K w = (OpS P (vS (Instr.makeMap t r)) K w) := propext ⟨fun h => h.un_, fun h => ⟨h⟩⟩
structure MSlcP (P : Program) (t : TypeId) (l c : Value) (K : VK) (w : World) : Prop where
  of_ ::
  un_ : OpS P (vS (Instr.makeSlice t l c)) K w
theorem MSlcP_eq {P : Program} {t : TypeId} {l c : Value} {K : VK} {w : World} : MSlcP P t l c K w = (OpS P (vS (Instr.makeSlice t l c)) K w) := propext ⟨fun h => h.un_, fun h => ⟨h⟩⟩
structure MUpdP (P : Program) (t : TypeId) (m k x : Value) (K : VK) (w : World) : Prop where
  of_ ::
  un_ : OpS P (uS (Instr.mapUpdate t m k x)) K w
theorem MUpdP_eq {P : Program} {t : TypeId} {m k x : Value} {K : VK} {w : World} : MUpdP P t m k x K w = (OpS P (uS (Instr.mapUpdate t m k x)) K w) := propext ⟨fun h => h.un_, fun h => ⟨h⟩⟩
structure MEntP (P : Program) (t : TypeId) (m k : Value) (K : VK) (w : World) : Prop where
  of_ ::
  un_ : OpS P (vS (Instr.mapEntry t m k)) K w
theorem MEntP_eq {P : Program} {t : TypeId} {m k : Value} {K : VK} {w : World} : MEntP P t m k K w = (OpS P (vS (Instr.mapEntry t m k)) K w) := propext ⟨fun h => h.un_, fun h => ⟨h⟩⟩
structure EStoP (P : Program) (t : TypeId) (m s x : Value) (K : VK) (w : World) : Prop where
  of_ ::
  un_ : OpS P (uS (Instr.entryStore t m s x)) K w
theorem EStoP_eq {P : Program} {t : TypeId} {m s x : Value} {K : VK} {w : World} : EStoP P t m s x K w = (OpS P (uS (Instr.entryStore t m s x)) K w) := propext ⟨fun h => h.un_, fun h => ⟨h⟩⟩
structure CallP (P : Program) (f : FuncId) (args : Array Value) (K : VK) (X : XK) (w : World) : Prop where
  of_ ::
  un_ : OpX P (callFunc f args) K X w
theorem CallP_eq {P : Program} {f : FuncId} {args : Array Value} {K : VK} {X : XK} {w : World} : CallP P f args K X w = (OpX P (callFunc f args) K X w) := propext ⟨fun h => h.un_, fun h => ⟨h⟩⟩
structure YieldP (P : Program) (l : Nat) (args : Array Value) (K : VK) (w : World) : Prop where
  of_ ::
  un_ : OpS P (Instr.yield l args) K w
theorem YieldP_eq {P : Program} {l : Nat} {args : Array Value} {K : VK} {w : World} : YieldP P l args K w = (OpS P (Instr.yield l args) K w) := propext ⟨fun h => h.un_, fun h => ⟨h⟩⟩
structure BuiP (P : Program) (b : Builtin) (ts : Array TypeId) (ty : TypeId) (cs : Array Bool) (args : Array Value) (K : VK) (X : XK) (w : World) : Prop where
  of_ ::
  un_ : OpX P (builtin b ts ty cs args) K X w
theorem BuiP_eq {P : Program} {b : Builtin} {ts : Array TypeId} {ty : TypeId} {cs : Array Bool} {args : Array Value} {K : VK} {X : XK} {w : World} : BuiP P b ts ty cs args K X w = (OpX P (builtin b ts ty cs args) K X w) := propext ⟨fun h => h.un_, fun h => ⟨h⟩⟩
structure OthP (P : Program) (s : Sem Next) (K : VK) (X : XK) (w : World) : Prop where
  of_ ::
  un_ : OpX P s K X w
theorem OthP_eq {P : Program} {s : Sem Next} {K : VK} {X : XK} {w : World} : OthP P s K X w = (OpX P s K X w) := propext ⟨fun h => h.un_, fun h => ⟨h⟩⟩
structure StrP (S : World → Prop) (w : World) (C : (World → Prop) → Prop) : Prop where
  of_ ::
  un_ : ∃ S' : World → Prop, S' w ∧ (∀ u, S' u → S u) ∧ C S'
theorem StrP_eq {S : World → Prop} {w : World} {C : (World → Prop) → Prop} : StrP S w C = (∃ S' : World → Prop, S' w ∧ (∀ u, S' u → S u) ∧ C S') := propext ⟨fun h => h.un_, fun h => ⟨h⟩⟩
structure BarP (w : World) (C : (World → Prop) → Prop) : Prop where
  of_ ::
  un_ : ∃ S' : World → Prop, S' w ∧ C S'
def VInt (P : Program) (op : BinOp) (t : TypeId) (xo yo : Operand) (k : IntKind) (a b : Int) (K : Value → Prop) : Prop :=
  match op with
  | .add => ArP k (a + b) K
  | .sub => ArP k (a - b) K
  | .mul => ArP k (a * b) K
  | .eql => CmpP (a = b) K
  | .neq => CmpP (a ≠ b) K
  | .lss => CmpP (a < b) K
  | .leq => CmpP (a ≤ b) K
  | .gtr => CmpP (a > b) K
  | .geq => CmpP (a ≥ b) K
  | .quo => QuoP k a b K
  | .rem => RemP k a b K
  | .and => BitP .and k a b K
  | .or => BitP .or k a b K
  | .xor => BitP .xor k a b K
  | .andNot => BitP .andNot k a b K
  | .shl | .shr => BinP P op t xo yo (.int k a) (.int k b) K
def VBin (P : Program) (op : BinOp) (t : TypeId) (xo yo : Operand) (x y : Value) (K : Value → Prop) : Prop :=
  match x, y with
  | .int k a, .int k' b =>
    match op with
    | .shl => ShlP k a b K
    | .shr => ShrP k a b K
    | op => bif Nat.beq (kno k) (kno k') then VInt P op t xo yo k a b K else False
  | x, y => BinP P op t xo yo x y K
def VPure (P : Program) (o : Oper) (F : Fr) (K : Value → Prop) : Prop :=
  match o.op with
  | .move x | .assign x => K (ev F x)
  | .pick c a b => match ev F c with | .bool true => K (ev F a) | .bool false => K (ev F b) | _ => False
  | .binOp op t x y _ => VBin P op t x y (ev F x) (ev F y) K
  | .unOp op _ x => match op, ev F x with
    | .not, .bool true => K (.bool false)
    | .not, .bool false => K (.bool true)
    | .neg, .int k n => ArP k (0 - n) K
    | op, x => PureP P (vS (Op.unary op x)) K
  | .convert s d x => ConvP P s d (ev F x) K
  | .fieldAddr s x f => FldAP P s (ev F x) f K
  | .field t x f => FldVP P t (ev F x) f K
  | .indexAddr t x i => IdxAP P t (ev F x) (ev F i) K
  | .index t x i => IdxVP P t (ev F x) (ev F i) K
  | .slice t x lo hi mx => SlcP P t (ev F x) (lo.map (ev F)) (hi.map (ev F)) (mx.map (ev F)) K
  | .extract t i => match ev F t with
    | .tuple vs => match vs.toList[i]? with | some v => K v | none => False
    | _ => False
  | .nilCheck x => match ev F x with
    | .pointer (some a) => K (.pointer (some a))
    | .func (.func f) pre caps => K (.func (.func f) pre caps)
    | _ => PureP P (execOp (ev F) o) K
  | .makeFunc fn first captured => K (.func fn (first.toList.map (ev F)).toArray (captured.toList.map (ev F)).toArray)
  | .build t ps => BldP P t (ps.toList.map fun p => (p.1, ev F p.2)).toArray K
  | .call c => match c.callee, c.args.toList.map (ev F) with
    | .builtin .len, [x] => (match c.argTypes.toList with | t :: _ => LenP P t x K | [] => PureP P (execOp (ev F) o) K)
    | .builtin .max, [.int k x, .int k' y] => bif Nat.beq (kno k) (kno k') then K (.int k (max x y)) else False
    | .builtin .min, [.int k x, .int k' y] => bif Nat.beq (kno k) (kno k') then K (.int k (min x y)) else False
    | _, _ => PureP P (execOp (ev F) o) K
  | _ => PureP P (execOp (ev F) o) K
def VCall (P : Program) (o : Oper) (c : Call) (F : Fr) (K : VK) (X : XK) (w : World) : Prop :=
  match c.callee with
  | .value f => match ev F f with
    | .func (.func k) pre caps => CallP P k (pre.toList ++ c.args.toList.map (ev F) ++ caps.toList).toArray K X w
    | .func (.yield l) pre _ => YieldP P l (pre.toList ++ c.args.toList.map (ev F)).toArray K w
    | _ => OthP P (execOp (ev F) o) K X w
  | .builtin b => match b, c.args.toList.map (ev F) with
    | .len, [.map m] => (match c.argTypes.toList with | t :: _ => LenG P (fun u => u = w) t (.map m) (fun v => K v w) | [] => OthP P (execOp (ev F) o) K X w)
    | .len, _ | .max, _ | .min, _ => VPure P o F (fun v => K v w)
    | b, args => BuiP P b c.argTypes o.type (c.args.map fun | .const _ => true | _ => false) args.toArray K X w
  | _ => OthP P (execOp (ev F) o) K X w
def VCvt (P : Program) (o : Oper) (x : Value) (F : Fr) (K : VK) (X : XK) (w : World) : Prop :=
  match x with
  | .slice _ _ _ => OthP P (execOp (ev F) o) K X w
  | .string _ => OthP P (execOp (ev F) o) K X w
  | _ => VPure P o F (fun v => K v w)
def VOp (P : Program) (o : Oper) (F : Fr) (K : VK) (X : XK) (w : World) : Prop :=
  match o.op with
  | .load t x => LoadG P (fun u => u = w) t (ev F x) (fun v => K v w)
  | .lookup t x i ok => LookG P (fun u => u = w) t (ev F x) (ev F i) ok (fun v => K v w)
  | .store t a x => StoreP P t (ev F a) (ev F x) K w
  | .alloc e => AllocP P e K w
  | .box e x => BoxP P e (ev F x) K w
  | .buildSlice t n ps => BSlcP P t n (ps.toList.map fun p => (p.1, ev F p.2)).toArray K w
  | .makeMap t r => MMapP P t (r.map (ev F)) K w
  | .makeSlice t l c => MSlcP P t (ev F l) (ev F c) K w
  | .mapUpdate t m k x | .insert t m k x => MUpdP P t (ev F m) (ev F k) (ev F x) K w
  | .mapEntry t m k => MEntP P t (ev F m) (ev F k) K w
  | .entryStore t m s x => EStoP P t (ev F m) (ev F s) (ev F x) K w
  | .call c => VCall P o c F K X w
  | .convert _ _ x => VCvt P o (ev F x) F K X w
  | .move _ | .assign _ | .pick .. | .binOp .. | .unOp .. | .fieldAddr .. | .field .. | .indexAddr .. | .index .. | .slice .. | .extract .. | .nilCheck _ | .makeFunc .. | .build .. =>
    VPure P o F (fun v => K v w)
  | _ => OthP P (execOp (ev F) o) K X w
def VQuiet (P : Program) (S : World → Prop) (o : Oper) (F : Fr) (K : Value → Prop) : Prop :=
  match o.op with
  | .load t x => LoadG P S t (ev F x) K
  | .lookup t x i ok => LookG P S t (ev F x) (ev F i) ok K
  | .call c => match c.callee with
    | .value f => match ev F f with
      | .func (.func k) pre caps => CallQ P S k (pre.toList ++ c.args.toList.map (ev F) ++ caps.toList).toArray K
      | _ => False
    | .builtin .len => match c.args.toList.map (ev F) with
      | [.map m] => (match c.argTypes.toList with | t :: _ => LenG P S t (.map m) K | [] => False)
      | _ => VPure P o F K
    | _ => VPure P o F K
  | _ => VPure P o F K
def fv (v : Value) (K : Value → Prop) : Prop :=
  match v with
  | .bool b => K (.bool b)
  | .int k n => K (.int k n)
  | .float k n => K (.float k n)
  | .complex k a b => K (.complex k a b)
  | .string s => K (.string s)
  | .pointer a => K (.pointer a)
  | .slice a n c => K (.slice a n c)
  | .map r => K (.map r)
  | .chan r => K (.chan r)
  | .func f a b => K (.func f a b)
  | .nilFunc => K .nilFunc
  | .iface t v => K (.iface t v)
  | .nilIface => K .nilIface
  | .agg cs => K (.agg cs)
  | .tuple vs => K (.tuple vs)
theorem fv_eq (v : Value) (K : Value → Prop) : fv v K = K v := by cases v <;> rfl
def VGuard (ops : List Oper) (o : Oper) (F : Fr) (A B : Prop) : Prop :=
  match o.guard with
  | none => A
  | some (j, want) => match (ops[j]?).bind (·.dst) with
    | some d => match F d with
      | .bool true => (match want with | true => A | false => B)
      | .bool false => (match want with | true => B | false => A)
      | _ => B
    | none => B
def VOps (P : Program) (ops : List Oper) (K : Fr → World → Prop) (X : XK) (os : List Oper) : Fr → World → Prop :=
  List.rec (motive := fun _ => Fr → World → Prop) (fun F w => K F w)
    (fun o _ ih F w => VGuard ops o F (VOp P o F (fun v w => fv v fun v => ih (updO F o.dst v) w) X w) (ih (updO F o.dst undef) w)) os
inductive Plan where
  | done
  | take (i : Nat) (p : Plan)
  | eff (i : Nat) (p : Plan)
  | alt (i : Nat) (p q : Plan)
  | bar (p : Plan)
def VPlan (P : Program) (ops : List Oper) (K : Fr → World → Prop) (X : XK) (p : Plan) : (World → Prop) → Fr → World → Prop :=
  Plan.rec (motive := fun _ => (World → Prop) → Fr → World → Prop) (fun _ F w => K F w)
    (fun i _ ih S F w => match ops[i]? with
      | some o => VGuard ops o F (VQuiet P S o F (fun v => fv v fun v => ih S (updO F o.dst v) w)) (ih S (updO F o.dst undef) w)
      | none => False)
    (fun i _ ih S F w => match ops[i]? with
      | some o => VGuard ops o F (VOp P o F (fun v w' => fv v fun v => StrP S w' (fun S' => ih S' (updO F o.dst v) w')) X w) (StrP S w (fun S' => ih S' (updO F o.dst undef) w))
      | none => False)
    (fun i _ _ ihp ihq S F w => (match ops[i]? with
      | some o => VGuard ops o F (VOp P o F (fun v w' => fv v fun v => StrP S w' (fun S' => ihp S' (updO F o.dst v) w')) X w) (StrP S w (fun S' => ihp S' (updO F o.dst undef) w))
      | none => False) ∧ ihq S F w)
    (fun _ ih _ F w => BarP w (fun S' => ih S' F w)) p
section
variable {P : Program} {ops : List Oper} {K : Fr → World → Prop} {X : XK} {i : Nat} {p q : Plan} {S : World → Prop} {F : Fr} {w : World}
theorem VPlan_take : VPlan P ops K X (.take i p) S F w = (match ops[i]? with
    | some o => VGuard ops o F (VQuiet P S o F (fun v => fv v fun v => VPlan P ops K X p S (updO F o.dst v) w)) (VPlan P ops K X p S (updO F o.dst undef) w)
    | none => False) := rfl
theorem VPlan_eff : VPlan P ops K X (.eff i p) S F w = (match ops[i]? with
    | some o => VGuard ops o F (VOp P o F (fun v w' => fv v fun v => StrP S w' (fun S' => VPlan P ops K X p S' (updO F o.dst v) w')) X w) (StrP S w (fun S' => VPlan P ops K X p S' (updO F o.dst undef) w))
    | none => False) := rfl
theorem VPlan_alt : VPlan P ops K X (.alt i p q) S F w = ((match ops[i]? with
    | some o => VGuard ops o F (VOp P o F (fun v w' => fv v fun v => StrP S w' (fun S' => VPlan P ops K X p S' (updO F o.dst v) w')) X w) (StrP S w (fun S' => VPlan P ops K X p S' (updO F o.dst undef) w))
    | none => False) ∧ VPlan P ops K X q S F w) := rfl
theorem VPlan_bar : VPlan P ops K X (.bar p) S F w = BarP w (fun S' => VPlan P ops K X p S' F w) := rfl
end
noncomputable def seqPlan (n i : Nat) : Plan := Nat.rec (motive := fun _ => Nat → Plan) (fun _ => .done) (fun _ ih i => .take i (ih (i + 1))) n i
noncomputable def ordPlan (es is : List Nat) : Plan := List.rec (motive := fun _ => Plan) .done (fun i _ ih => bif es.any (Nat.beq i) then .eff i ih else .take i ih) is
def Plan.idx : Plan → List Nat
  | .eff i _ => [i]
  | .alt i _ q => i :: q.idx
  | _ => []
def Plan.len : Plan → Nat
  | .done => 0
  | .take _ p | .eff _ p => p.len + 1
  | .alt _ p q => max (p.len + 1) q.len
  | .bar p => p.len
def preds (ops : Array Oper) (b : Nat) : Nat := match ops[b]? with | some o => o.after.toList.foldr (fun e m => bif Region.binds .any e then Nat.lor m (Nat.shiftLeft 1 e.on) else m) 0 | none => 0
def predsOf (ops : Array Oper) (m : Nat) : List Nat → Nat
  | [] => 0
  | k :: r => bif Nat.testBit m k then Nat.lor (preds ops k) (predsOf ops m r) else predsOf ops m r
def ancs (ops : Array Oper) : Nat → Nat → Nat
  | 0, m => m
  | n + 1, m => ancs ops n (Nat.lor m (predsOf ops m (List.range ops.size)))
def hasEdge (ops : Array Oper) (b i : Nat) : Bool := Nat.testBit (ancs ops 8 (preds ops b)) i
def pureOp (o : Oper) : Bool := match o.op with | .load .. | .lookup .. => false | .call c => (match c.callee with | .builtin .max | .builtin .min => true | _ => false) | _ => true
def pureAt (ops : Array Oper) (i : Nat) : Bool := match ops[i]? with | some o => pureOp o | none => false
def planOk (ops : Array Oper) : Bool → List Nat → Plan → Array Bool → Bool
  | top, _, .done, l => top && (Region.ready .any ops l).isEmpty
  | top, B, .take i p, l => top && ((Region.ready .any ops l).contains i && Region.free .any ops l i) && ((pureAt ops i && !(B.any (Nat.beq i))) || (!hasB B l && B.all fun b => hasEdge ops b i)) && planOk ops true B p (l.setIfInBounds i true)
  | top, B, .eff i p, l => (!top || Region.ready .any ops l == [i]) && planOk ops true B p (l.setIfInBounds i true)
  | top, B, .alt i p q, l => (!top || Region.ready .any ops l == i :: q.idx) && planOk ops true B p (l.setIfInBounds i true) && planOk ops false B q l
  | top, B, .bar p, l => top && ((List.range l.size).all fun j => l.getD j true || B.any (Nat.beq j)) && planOk ops true [] p l
def drawOk (ops : Array Oper) (B : List Nat) (p : Plan) : Bool := Region.noSelect ops && planOk ops true B p (Array.replicate ops.size false) && Nat.ble p.len ops.size
structure DrawH (P : Program) (ops : Array Oper) (K : Fr → World → Prop) (X : XK) (F : Fr) (w : World) : Prop where
  of_ ::
  un_ :
  P.follows .mixedOrders = true ∧ ∃ (p : Plan) (B : List Nat) (S : World → Prop), drawOk ops B p = true ∧ S w ∧ VPlan P ops.toList K X p S F w
theorem DrawH_eq {P : Program} {ops : Array Oper} {K : Fr → World → Prop} {X : XK} {F : Fr} {w : World} : DrawH P ops K X F w = (P.follows .mixedOrders = true ∧ ∃ (p : Plan) (B : List Nat) (S : World → Prop), drawOk ops B p = true ∧ S w ∧ VPlan P ops.toList K X p S F w) := propext ⟨fun h => h.un_, fun h => ⟨h⟩⟩
structure LoopH (c : Code) (body : KK → Fr → List Deferred → World → Prop) (K : KK) (F : Fr) (ds : List Deferred) (w : World) : Prop where
  of_ ::
  un_ :
  ∃ (I : Nat → Fr → List Deferred → World → Prop), (∃ n, I n F ds w) ∧
    ∀ n F ds w, I n F ds w → body (fun e F' ds' w' => match e with | .normal => ∃ m, m < n ∧ I m F' ds' w' | e => K e F' ds' w') F ds w
theorem LoopH_eq {c : Code} {body : KK → Fr → List Deferred → World → Prop} {K : KK} {F : Fr} {ds : List Deferred} {w : World} : LoopH c body K F ds w = (∃ (I : Nat → Fr → List Deferred → World → Prop), (∃ n, I n F ds w) ∧
    ∀ n F ds w, I n F ds w → body (fun e F' ds' w' => match e with | .normal => ∃ m, m < n ∧ I m F' ds' w' | e => K e F' ds' w') F ds w) := propext ⟨fun h => h.un_, fun h => ⟨h⟩⟩
def Agr (n : Nat) (a : Act) (F : Fr) (ds : List Deferred) : Prop := a.tmps.size = n ∧ (∀ t, a.tmps.getD t undef = F t) ∧ a.defers = ds
def wfL (n : Nat) (ops : List Oper) : Bool := ops.all fun o => match o.dst with | some d => Nat.blt d n | none => true
def noRange : Code → Bool
  | .seq a b | .cond _ a b => noRange a && noRange b
  | .block _ c | .loop c | .scope c => noRange c
  | .rangeFunc .. => false
  | _ => true
def wfC (n : Nat) : Code → Bool
  | .seq a b | .cond _ a b => wfC n a && wfC n b
  | .block _ c | .loop c | .scope c => wfC n c
  | .region _ ops _ => wfL n ops.toList
  | .rangeFunc _ ps a b => ((wfC n a && wfC n b) && (noRange a && noRange b)) && ps.toList.all fun t => Nat.blt t n
  | _ => true
structure RangeH (P : Program) (c : Code) (K : KK) (F : Fr) (ds : List Deferred) (w : World) : Prop where
  of_ ::
  un_ : ∀ (a : Act) (w0 : World), z w0 = w → (∀ t, a.tmps.getD t undef = F t) → a.defers = ds → wfC a.tmps.size c = true →
    c.wpIn (Fw none) 0 P (fun e a' w' => a'.tmps = a.tmps ∧ K e F a'.defers (z w')) a w0
theorem RangeH_eq {P : Program} {c : Code} {K : KK} {F : Fr} {ds : List Deferred} {w : World} : RangeH P c K F ds w = (∀ (a : Act) (w0 : World), z w0 = w → (∀ t, a.tmps.getD t undef = F t) → a.defers = ds → wfC a.tmps.size c = true →
    c.wpIn (Fw none) 0 P (fun e a' w' => a'.tmps = a.tmps ∧ K e F a'.defers (z w')) a w0) := propext ⟨fun h => h.un_, fun h => ⟨h⟩⟩
def memN (j : Nat) : List Nat → Bool
  | [] => false
  | x :: r => bif Nat.beq j x then true else memN j r
def wr (ops : List Oper) : List Nat := ops.filterMap (·.dst)
def Off (l : List Nat) (F F' : Fr) : Prop := ∀ j, memN j l = false → F' j = F j
def V (P : Program) (c : Code) : KK → Fr → List Deferred → World → Prop :=
  Code.rec (motive := fun _ => KK → Fr → List Deferred → World → Prop)
    (fun K F ds w => K .normal F ds w)
    (fun _ ops draw K F ds w => match draw with
      | false => VOps P ops.toList (fun F' w' => K .normal F' ds w') (fun ch w' => ∀ F', Off (wr ops.toList) F F' → K (.panic ch) F' ds w') ops.toList F w
      | true => DrawH P ops (fun F' w' => K .normal F' ds w') (fun ch w' => ∀ F', Off (wr ops.toList) F F' → K (.panic ch) F' ds w') F w)
    (fun _ _ iha ihb K F ds w => iha (fun e => match e with | .normal => ihb K | e => K e) F ds w)
    (fun c _ _ iha ihb K F ds w => match ev F c with | .bool true => iha K F ds w | .bool false => ihb K F ds w | _ => False)
    (fun id _ ih K F ds w => ih (fun e => match e with | .exit i => bif Nat.beq i id then K .normal else K (.exit i) | e => K e) F ds w)
    (fun c ih K F ds w => LoopH c ih K F ds w)
    (fun g ps assign body _ _ K F ds w => RangeH P (.rangeFunc g ps assign body) K F ds w)
    (fun id K F ds w => K (.exit id) F ds w)
    (fun _ _ _ _ _ _ => False)
    (fun _ K F ds w => K .normal F ds w)
    (fun _ _ _ _ _ => False)
    (fun K F ds w => K .ret F ds w)
    (fun _ _ _ _ _ => False) c
section
variable {P : Program} {K : KK} {F : Fr} {ds : List Deferred} {w : World} {a b c : Code} {id : Nat} {ops : Array Oper}
theorem V_cond {x : Operand} : V P (.cond x a b) K F ds w = (match ev F x with | .bool true => V P a K F ds w | .bool false => V P b K F ds w | _ => False) := rfl
theorem V_draw : V P (.region id ops true) K F ds w = DrawH P ops (fun F' w' => K .normal F' ds w') (fun ch w' => ∀ F', Off (wr ops.toList) F F' → K (.panic ch) F' ds w') F w := rfl
theorem V_loop : V P (.loop c) K F ds w = LoopH c (V P c) K F ds w := rfl
theorem V_range {g : Operand} {ps : Array Tmp} : V P (.rangeFunc g ps a b) K F ds w = RangeH P (.rangeFunc g ps a b) K F ds w := rfl
end
section
variable {P : Program}
theorem run_vS (s : Sem Value) (w : World) : (vS s).run P w = (s.run P w).andThen (fun v w' => .ok (.value v) w') := by
  simp [vS]
theorem pure_val {x : Value} {K : Value → Prop} (h : K x) : PureS P (pure (.value x)) K := ⟨x, fun _ => rfl, h⟩
theorem pure_vval {x : Value} {K : Value → Prop} {s : Sem Value} (hs : ∀ w, s.run P w = .ok x w) (h : K x) : PureS P (vS s) K :=
  ⟨x, fun w => by rw [run_vS, hs]; rfl, h⟩
theorem beq_dec (a b : Int) : (a == b) = decide (a = b) := by cases h : (a == b) <;> simp_all
theorem VInt_sound {op : BinOp} {t : TypeId} {xo yo : Operand} {k : IntKind} {a b : Int} {K : Value → Prop} (hns : op ≠ .shl ∧ op ≠ .shr) (h : VInt P op t xo yo k a b K) :
    PureS P (vS (do eqGuard op t xo yo (.int k a) (.int k b); binOp op t (.int k a) (.int k b))) K := by
  have g : ∀ op w, (eqGuard op t xo yo (.int k a) (.int k b)).run P w = .ok () w := by
    intro op w; unfold eqGuard; cases op <;> rfl
  have hb : ∀ (v : Value), (∀ w, (binOp op t (.int k a) (.int k b)).run P w = .ok v w) → K v → PureS P (vS (do eqGuard op t xo yo (.int k a) (.int k b); binOp op t (.int k a) (.int k b))) K := by
    intro v hv hk; exact pure_vval (fun w => by rw [Sem.run_bind, g]; exact hv w) hk
  cases op <;> simp only [VInt] at h
  case shl => exact absurd rfl hns.1
  case shr => exact absurd rfl hns.2
  case add => rw [ArP_eq] at h; exact hb _ (fun w => by simp [binOp, Op.intArith]) h
  case sub => rw [ArP_eq] at h; exact hb _ (fun w => by simp [binOp, Op.intArith]) h
  case mul => rw [ArP_eq] at h; exact hb _ (fun w => by simp [binOp, Op.intArith]) h
  case quo => rw [QuoP_eq] at h; exact hb _ (fun w => by simp [binOp, Op.intDiv, h.1]) h.2
  case rem => rw [RemP_eq] at h; exact hb _ (fun w => by simp [binOp, Op.intDiv, h.1]) h.2
  case and => rw [BitP_eq] at h; exact hb _ (fun w => by simp [binOp, Op.intBits, bits]) h
  case or => rw [BitP_eq] at h; exact hb _ (fun w => by simp [binOp, Op.intBits, bits]) h
  case xor => rw [BitP_eq] at h; exact hb _ (fun w => by simp [binOp, Op.intBits, bits]) h
  case andNot => rw [BitP_eq] at h; exact hb _ (fun w => by simp [binOp, Op.intBits, bits]) h
  all_goals (replace h := CmpP.val h)
  case eql => exact hb _ (fun w => by rw [← beq_dec]; simp [binOp, Op.intCmp]) h
  case neq => exact hb _ (fun w => by rw [show decide (a ≠ b) = (a != b) from by rw [bne, beq_dec]; simp]; simp [binOp, Op.intCmp]) h
  all_goals exact hb _ (fun w => by simp [binOp, Op.intCmp]) h
theorem VBin_sound {op : BinOp} {t : TypeId} {xo yo : Operand} {x y : Value} {K : Value → Prop} (h : VBin P op t xo yo x y K) :
    PureS P (vS (do eqGuard op t xo yo x y; binOp op t x y)) K := by
  have g : ∀ op k a k' b w, (eqGuard op t xo yo (.int k a) (.int k' b)).run P w = .ok () w := by
    intro op k a k' b w; unfold eqGuard; cases op <;> rfl
  unfold VBin at h
  split at h
  · rename_i k a k' b
    split at h
    · rw [ShlP_eq] at h; exact pure_vval (fun w => by rw [Sem.run_bind, g]; simp [binOp, Op.shift, Int.not_lt.2 h.1]) h.2
    · rw [ShrP_eq] at h; exact pure_vval (fun w => by rw [Sem.run_bind, g]; simp [binOp, Op.shift, Int.not_lt.2 h.1]) h.2
    · rename_i hs hr
      cases hk : Nat.beq (kno k) (kno k') with
      | false => rw [hk] at h; exact h.elim
      | true => rw [hk] at h; obtain rfl := kno_inj hk; exact VInt_sound ⟨hs, hr⟩ h
  · rw [BinP_eq] at h; exact h
theorem list_map_array (F : Fr) (xs : Array Operand) : (xs.toList.map (ev F)).toArray = xs.map (ev F) := by rw [← Array.toList_map]
theorem parts_map (F : Fr) (ps : Array (Nat × Operand)) : (ps.toList.map fun p => (p.1, ev F p.2)).toArray = ps.map fun (i, x) => (i, ev F x) := by rw [← Array.toList_map]
theorem args_list {F : Fr} {c : Call} {l : List Value} (h : c.args.toList.map (ev F) = l) : c.args.map (ev F) = l.toArray := by
  rw [← h, list_map_array]
theorem exec_builtin (F : Fr) (o : Oper) (c : Call) (b : Builtin) (hop : o.op = .call c) (hc : c.callee = .builtin b) :
    execOp (ev F) o = builtin b c.argTypes o.type (c.args.map fun | .const _ => true | _ => false) (c.args.map (ev F)) := by
  unfold execOp; rw [hop]; simp only [resolve, hc]; rfl
theorem getL {ts : Array TypeId} {t : TypeId} {r : List TypeId} (h : ts.toList = t :: r) (ty : TypeId) (x : Value) : Builtin.len_ ts ty #[x] = Builtin.len_ #[t] 0 #[x] := by
  obtain ⟨l⟩ := ts; simp only at h; subst h
  rfl
theorem VPure_sound {o : Oper} {F : Fr} {K : Value → Prop} (h : VPure P o F K) : PureS P (execOp (ev F) o) K := by
  unfold VPure at h
  split at h
  case h_1 x he => unfold execOp; rw [he]; exact pure_val h
  case h_2 x he => unfold execOp; rw [he]; exact pure_val h
  case h_3 c a b he =>
    split at h
    · rename_i hc; unfold execOp; rw [he]; simp only [hc]; exact ⟨ev F a, fun w => rfl, h⟩
    · rename_i hc; unfold execOp; rw [he]; simp only [hc]; exact ⟨ev F b, fun w => rfl, h⟩
    · exact h.elim
  case h_4 op t x y yt he => unfold execOp; rw [he]; exact VBin_sound h
  case h_5 op t x he =>
    unfold execOp; rw [he]; dsimp only
    split at h
    · rename_i hx; rw [hx]; exact pure_vval (fun _ => rfl) h
    · rename_i hx; rw [hx]; exact pure_vval (fun _ => rfl) h
    · rename_i k n hx; rw [hx]; rw [ArP_eq] at h; exact pure_vval (fun _ => rfl) h
    · rw [PureP_eq] at h; exact h
  case h_6 s d x he => unfold execOp; rw [he]; rw [ConvP_eq] at h; exact h
  case h_7 s x f he => unfold execOp; rw [he]; rw [FldAP_eq] at h; exact h
  case h_8 t x f he => unfold execOp; rw [he]; rw [FldVP_eq] at h; exact h
  case h_9 t x i he => unfold execOp; rw [he]; rw [IdxAP_eq] at h; exact h
  case h_10 t x i he => unfold execOp; rw [he]; rw [IdxVP_eq] at h; exact h
  case h_11 t x lo hi mx he => unfold execOp; rw [he]; rw [SlcP_eq] at h; exact h
  case h_12 t i he =>
    split at h
    · rename_i vs hv
      split at h
      · rename_i v hi; unfold execOp; rw [he]; dsimp only; rw [hv]; refine pure_vval (fun w => ?_) h
        have : vs[i]? = some v := by simpa using hi
        simp [Instr.extract, this]
      · exact h.elim
    · exact h.elim
  case h_13 x he =>
    split at h
    · rename_i a hx; unfold execOp; rw [he]; dsimp only; rw [hx]; exact pure_val h
    · rename_i f pre caps hx; unfold execOp; rw [he]; dsimp only; rw [hx]; exact pure_val h
    · rw [PureP_eq] at h; exact h
  case h_14 fn first cap he =>
    unfold execOp; rw [he]; rw [list_map_array, list_map_array] at h; exact pure_vval (fun _ => rfl) h
  case h_15 t ps he =>
    unfold execOp; rw [he]; rw [BldP_eq] at h; rw [parts_map] at h; exact h
  case h_16 c he =>
    split at h
    · rename_i x hc hargs
      split at h
      · rename_i t ts ht; rw [exec_builtin F o c _ he hc, args_list hargs]; rw [LenP_eq] at h; show PureS P (vS (Builtin.len_ c.argTypes o.type #[x])) K; rw [getL ht]; exact h
      · rw [PureP_eq] at h; exact h
    · rename_i k x k' y hc hargs
      cases hk : Nat.beq (kno k) (kno k') with
      | false => rw [hk] at h; exact h.elim
      | true =>
        rw [hk] at h; obtain rfl := kno_inj hk; rw [exec_builtin F o c _ he hc, args_list hargs]
        have e : (max x y : Int) = if y > x then y else x := by split <;> omega
        have h : K (.int k (max x y)) := h; rw [e] at h; exact pure_vval (s := Builtin.max_ c.argTypes o.type #[.int k x, .int k y]) (fun w => rfl) h
    · rename_i k x k' y hc hargs
      cases hk : Nat.beq (kno k) (kno k') with
      | false => rw [hk] at h; exact h.elim
      | true =>
        rw [hk] at h; obtain rfl := kno_inj hk; rw [exec_builtin F o c _ he hc, args_list hargs]
        have e : (min x y : Int) = if y < x then y else x := by split <;> omega
        have h : K (.int k (min x y)) := h; rw [e] at h; exact pure_vval (s := Builtin.min_ c.argTypes o.type #[.int k x, .int k y]) (fun w => rfl) h
    · rw [PureP_eq] at h; exact h
  case h_17 => rw [PureP_eq] at h; exact h
theorem loadG_op {s : Sem Value} {K : VK} {w : World} (h : ∃ v, (∀ w', w' = w → OpS P (vS s) (fun u w'' => u = v ∧ w'' = w') w') ∧ K v w) : OpS P (vS s) K w := by
  obtain ⟨v, hv, hk⟩ := h
  exact (hv w rfl).mono fun u w' ⟨e1, e2⟩ => by subst e1; subst e2; exact hk
theorem exec_value (F : Fr) (o : Oper) (c : Call) (f : Operand) (fn : Fn) (pre caps : Array Value) (hop : o.op = .call c) (hc : c.callee = .value f) (hf : ev F f = .func fn pre caps) :
    execOp (ev F) o = invoke (.fn fn caps) (pre ++ c.args.map (ev F)) := by
  unfold execOp; rw [hop]; simp only [resolve, hc, hf, Deferred.ofValue]; rfl
theorem arr3 (F : Fr) (pre caps : Array Value) (c : Call) : (pre.toList ++ c.args.toList.map (ev F) ++ caps.toList).toArray = (pre ++ c.args.map (ev F)) ++ caps := by
  rw [← list_map_array]; simp
theorem arr2 (F : Fr) (pre : Array Value) (c : Call) : (pre.toList ++ c.args.toList.map (ev F)).toArray = pre ++ c.args.map (ev F) := by
  rw [← list_map_array]; simp
theorem VCall_sound {o : Oper} {c : Call} {F : Fr} {K : VK} {X : XK} {w : World} (hop : o.op = .call c) (h : VCall P o c F K X w) : OpX P (execOp (ev F) o) K X w := by
  unfold VCall at h
  split at h
  · rename_i f hc
    split at h
    · rename_i k pre caps hf; rw [exec_value F o c f _ _ _ hop hc hf]; rw [CallP_eq] at h; rw [arr3] at h; exact h
    · rename_i l pre caps hf; rw [exec_value F o c f _ _ _ hop hc hf]; rw [YieldP_eq] at h; rw [arr2] at h; exact h.x
    · rw [OthP_eq] at h; exact h
  · rename_i b hc
    split at h
    · rename_i m hargs
      split at h
      · rename_i t r ht; rw [exec_builtin F o c _ hop hc, args_list hargs]; rw [LenG_eq] at h
        have hx : OpS P (vS (Builtin.len_ c.argTypes o.type #[.map m])) K w := by rw [getL ht]; exact loadG_op h
        exact hx.x
      · rw [OthP_eq] at h; exact h
    · exact (VPure_sound h).op.x
    · exact (VPure_sound h).op.x
    · exact (VPure_sound h).op.x
    · rename_i b' args' hh1 hh2; rw [exec_builtin F o c _ hop hc]; rw [BuiP_eq] at h; rw [list_map_array] at h; exact h
  · rw [OthP_eq] at h; exact h
theorem VOp_sound {o : Oper} {F : Fr} {K : VK} {X : XK} {w : World} (h : VOp P o F K X w) : OpX P (execOp (ev F) o) K X w := by
  unfold VOp at h
  split at h
  case h_1 t x he => unfold execOp; rw [he]; rw [LoadG_eq] at h; exact (loadG_op h).x
  case h_2 t x i ok he => unfold execOp; rw [he]; rw [LookG_eq] at h; exact (loadG_op h).x
  case h_3 t a x he => unfold execOp; rw [he]; rw [StoreP_eq] at h; exact h.x
  case h_4 e he => unfold execOp; rw [he]; rw [AllocP_eq] at h; exact h.x
  case h_5 e x he => unfold execOp; rw [he]; rw [BoxP_eq] at h; exact h.x
  case h_6 t n ps he => unfold execOp; rw [he]; rw [BSlcP_eq] at h; rw [parts_map] at h; exact h.x
  case h_7 t r he => unfold execOp; rw [he]; rw [MMapP_eq] at h; exact h.x
  case h_8 t l c he => unfold execOp; rw [he]; rw [MSlcP_eq] at h; exact h.x
  case h_9 t m k x he => unfold execOp; rw [he]; rw [MUpdP_eq] at h; exact h.x
  case h_10 t m k x he => unfold execOp; rw [he]; rw [MUpdP_eq] at h; exact h.x
  case h_11 t m k he => unfold execOp; rw [he]; rw [MEntP_eq] at h; exact h.x
  case h_12 t m k x he => unfold execOp; rw [he]; rw [EStoP_eq] at h; exact h.x
  case h_13 c he => exact VCall_sound he h
  case h_14 s d x he =>
    unfold VCvt at h
    split at h
    · rw [OthP_eq] at h; exact h
    · rw [OthP_eq] at h; exact h
    · exact (VPure_sound h).op.x
  all_goals first | exact (VPure_sound h).op.x | (rw [OthP_eq] at h; exact h)
theorem pureS_quiet {s : Sem Next} {S : World → Prop} {K : Value → Prop} (h : PureS P s K) : ∃ v, (∀ w, S w → OpS P s (fun u w' => u = v ∧ w' = w) w) ∧ K v := by
  obtain ⟨v, hv, hk⟩ := h; exact ⟨v, fun w _ w0 hw => by rw [hv]; exact ⟨rfl, hw⟩, hk⟩
theorem VQuiet_sound {S : World → Prop} {o : Oper} {F : Fr} {K : Value → Prop} (h : VQuiet P S o F K) :
    ∃ v, (∀ w, S w → OpS P (execOp (ev F) o) (fun u w' => u = v ∧ w' = w) w) ∧ K v := by
  unfold VQuiet at h
  split at h
  case h_1 t x he => rw [LoadG_eq] at h; obtain ⟨v, hv, hk⟩ := h; refine ⟨v, fun w hw => ?_, hk⟩; unfold execOp; rw [he]; exact hv w hw
  case h_2 t x i ok he => rw [LookG_eq] at h; obtain ⟨v, hv, hk⟩ := h; refine ⟨v, fun w hw => ?_, hk⟩; unfold execOp; rw [he]; exact hv w hw
  case h_3 c he =>
    split at h
    · rename_i f hc
      split at h
      · rename_i k pre caps hf; rw [CallQ_eq] at h; obtain ⟨v, hv, hk⟩ := h; refine ⟨v, fun w hw => ?_, hk⟩; rw [exec_value F o c f _ _ _ he hc hf]; have := hv w hw; rw [arr3] at this; exact this
      · exact h.elim
    · rename_i hc
      split at h
      · rename_i m hargs
        split at h
        · rename_i t r ht; rw [LenG_eq] at h; obtain ⟨v, hv, hk⟩ := h; refine ⟨v, fun w hw => ?_, hk⟩; rw [exec_builtin F o c _ he hc, args_list hargs]; show OpS P (vS (Builtin.len_ c.argTypes o.type #[.map m])) _ w; rw [getL ht]; exact hv w hw
        · exact h.elim
      · exact pureS_quiet (VPure_sound h)
    · exact pureS_quiet (VPure_sound h)
  all_goals exact pureS_quiet (VPure_sound h)
theorem VQuiet_pure {S : World → Prop} {o : Oper} {F : Fr} {K : Value → Prop} (ho : pureOp o = true) (h : VQuiet P S o F K) :
    ∃ v, (∀ w, True → OpS P (execOp (ev F) o) (fun u w' => u = v ∧ w' = w) w) ∧ K v := by
  unfold VQuiet at h; unfold pureOp at ho
  split at h
  case h_1 t x he => rw [he] at ho; cases ho
  case h_2 t x i ok he => rw [he] at ho; cases ho
  case h_3 c he =>
    rw [he] at ho
    split at h
    · rename_i f hc; simp only [hc] at ho; cases ho
    · rename_i hc; simp only [hc] at ho; cases ho
    · exact pureS_quiet (S := fun _ => True) (VPure_sound h)
  all_goals exact pureS_quiet (S := fun _ => True) (VPure_sound h)
end
section
variable {P : Program}
theorem PureS.mono {s : Sem Next} {K K' : Value → Prop} (h : PureS P s K) (hk : ∀ v, K v → K' v) : PureS P s K' := let ⟨v, hv, k⟩ := h; ⟨v, hv, hk _ k⟩
theorem CmpP.mono {p : Prop} [Decidable p] {K K' : Value → Prop} (h : CmpP p K) (hk : ∀ v, K v → K' v) : CmpP p K' := .of ⟨fun e => hk _ (h.both.1 e), fun e => hk _ (h.both.2 e)⟩
theorem ArP.mono {k : IntKind} {n : Int} {K K' : Value → Prop} (h : ArP k n K) (hk : ∀ v, K v → K' v) : ArP k n K' := by rw [ArP_eq] at h ⊢; exact hk _ h
theorem VInt_mono {op : BinOp} {t : TypeId} {xo yo : Operand} {k : IntKind} {a b : Int} {K K' : Value → Prop} (hk : ∀ v, K v → K' v) (h : VInt P op t xo yo k a b K) : VInt P op t xo yo k a b K' := by
  cases op <;> simp only [VInt] at h ⊢
  case add => exact h.mono hk
  case sub => exact h.mono hk
  case mul => exact h.mono hk
  case quo => rw [QuoP_eq] at h ⊢; exact ⟨h.1, hk _ h.2⟩
  case rem => rw [RemP_eq] at h ⊢; exact ⟨h.1, hk _ h.2⟩
  case and => rw [BitP_eq] at h ⊢; exact hk _ h
  case or => rw [BitP_eq] at h ⊢; exact hk _ h
  case xor => rw [BitP_eq] at h ⊢; exact hk _ h
  case andNot => rw [BitP_eq] at h ⊢; exact hk _ h
  case shl => rw [BinP_eq] at h ⊢; exact h.mono hk
  case shr => rw [BinP_eq] at h ⊢; exact h.mono hk
  all_goals exact h.mono hk
theorem VBin_mono {op : BinOp} {t : TypeId} {xo yo : Operand} {x y : Value} {K K' : Value → Prop} (hk : ∀ v, K v → K' v) (h : VBin P op t xo yo x y K) : VBin P op t xo yo x y K' := by
  unfold VBin at *
  split at h
  · split at h
    · rw [ShlP_eq] at h ⊢; exact ⟨h.1, hk _ h.2⟩
    · rw [ShrP_eq] at h ⊢; exact ⟨h.1, hk _ h.2⟩
    · rename_i k a k' b _ _ _
      cases hh : Nat.beq (kno k) (kno k') with
      | false => rw [hh] at h; exact h.elim
      | true => rw [hh] at h; exact VInt_mono hk h
  · rw [BinP_eq] at h ⊢; exact h.mono hk
theorem VPure_mono {o : Oper} {F : Fr} {K K' : Value → Prop} (hk : ∀ v, K v → K' v) (h : VPure P o F K) : VPure P o F K' := by
  unfold VPure at *
  split at h
  case h_1 => exact hk _ h
  case h_2 => exact hk _ h
  case h_3 => split at h <;> first | exact hk _ h | exact h
  case h_4 => exact VBin_mono hk h
  case h_5 =>
    split at h
    · exact hk _ h
    · exact hk _ h
    · exact h.mono hk
    · rw [PureP_eq] at h ⊢; exact h.mono hk
  case h_6 => rw [ConvP_eq] at h ⊢; exact h.mono hk
  case h_7 => rw [FldAP_eq] at h ⊢; exact h.mono hk
  case h_8 => rw [FldVP_eq] at h ⊢; exact h.mono hk
  case h_9 => rw [IdxAP_eq] at h ⊢; exact h.mono hk
  case h_10 => rw [IdxVP_eq] at h ⊢; exact h.mono hk
  case h_11 => rw [SlcP_eq] at h ⊢; exact h.mono hk
  case h_12 =>
    split at h
    · split at h
      · exact hk _ h
      · exact h
    · exact h
  case h_13 =>
    split at h
    · exact hk _ h
    · exact hk _ h
    · rw [PureP_eq] at h ⊢; exact h.mono hk
  case h_14 => exact hk _ h
  case h_15 => rw [BldP_eq] at h ⊢; exact h.mono hk
  case h_16 =>
    split at h
    · split at h
      · rw [LenP_eq] at h ⊢; exact h.mono hk
      · rw [PureP_eq] at h ⊢; exact h.mono hk
    · rename_i k x k' y _ _
      cases hh : Nat.beq (kno k) (kno k') with
      | false => rw [hh] at h; exact h.elim
      | true => rw [hh] at h; exact hk _ h
    · rename_i k x k' y _ _
      cases hh : Nat.beq (kno k) (kno k') with
      | false => rw [hh] at h; exact h.elim
      | true => rw [hh] at h; exact hk _ h
    · rw [PureP_eq] at h ⊢; exact h.mono hk
  case h_17 => rw [PureP_eq] at h ⊢; exact h.mono hk
theorem exK {α : Type} {A : α → Prop} {K K' : α → Prop} (hk : ∀ v, K v → K' v) (h : ∃ v, A v ∧ K v) : ∃ v, A v ∧ K' v := let ⟨v, a, k⟩ := h; ⟨v, a, hk _ k⟩
theorem VCall_mono {o : Oper} {c : Call} {F : Fr} {K K' : VK} {X X' : XK} {w : World} (hk : ∀ v w', K v w' → K' v w') (hx : ∀ ch w', X ch w' → X' ch w') (h : VCall P o c F K X w) : VCall P o c F K' X' w := by
  unfold VCall at *
  split at h
  · split at h
    · rw [CallP_eq] at h ⊢; exact h.mono' hk hx
    · rw [YieldP_eq] at h ⊢; exact h.mono hk
    · rw [OthP_eq] at h ⊢; exact h.mono' hk hx
  · split at h
    · split at h
      · rw [LenG_eq] at h ⊢; exact exK (fun v => hk v w) h
      · rw [OthP_eq] at h ⊢; exact h.mono' hk hx
    · exact VPure_mono (fun v => hk v w) h
    · exact VPure_mono (fun v => hk v w) h
    · exact VPure_mono (fun v => hk v w) h
    · rw [BuiP_eq] at h ⊢; exact h.mono' hk hx
  · rw [OthP_eq] at h ⊢; exact h.mono' hk hx
theorem VOp_mono {o : Oper} {F : Fr} {K K' : VK} {X X' : XK} {w : World} (hk : ∀ v w', K v w' → K' v w') (hx : ∀ ch w', X ch w' → X' ch w') (h : VOp P o F K X w) : VOp P o F K' X' w := by
  unfold VOp at *
  split at h
  case h_1 => rw [LoadG_eq] at h ⊢; exact exK (fun v => hk v w) h
  case h_2 => rw [LookG_eq] at h ⊢; exact exK (fun v => hk v w) h
  case h_3 => rw [StoreP_eq] at h ⊢; exact h.mono hk
  case h_4 => rw [AllocP_eq] at h ⊢; exact h.mono hk
  case h_5 => rw [BoxP_eq] at h ⊢; exact h.mono hk
  case h_6 => rw [BSlcP_eq] at h ⊢; exact h.mono hk
  case h_7 => rw [MMapP_eq] at h ⊢; exact h.mono hk
  case h_8 => rw [MSlcP_eq] at h ⊢; exact h.mono hk
  case h_9 => rw [MUpdP_eq] at h ⊢; exact h.mono hk
  case h_10 => rw [MUpdP_eq] at h ⊢; exact h.mono hk
  case h_11 => rw [MEntP_eq] at h ⊢; exact h.mono hk
  case h_12 => rw [EStoP_eq] at h ⊢; exact h.mono hk
  case h_13 => exact VCall_mono hk hx h
  case h_14 =>
    unfold VCvt at *
    split at h
    · rw [OthP_eq] at h ⊢; exact h.mono' hk hx
    · rw [OthP_eq] at h ⊢; exact h.mono' hk hx
    · exact VPure_mono (fun v => hk v w) h
  all_goals first | exact VPure_mono (fun v => hk v w) h | (rw [OthP_eq] at h ⊢; exact h.mono' hk hx)
theorem VQuiet_mono {S : World → Prop} {o : Oper} {F : Fr} {K K' : Value → Prop} (hk : ∀ v, K v → K' v) (h : VQuiet P S o F K) : VQuiet P S o F K' := by
  unfold VQuiet at *
  split at h
  case h_1 => rw [LoadG_eq] at h ⊢; exact exK hk h
  case h_2 => rw [LookG_eq] at h ⊢; exact exK hk h
  case h_3 =>
    split at h
    · split at h
      · rw [CallQ_eq] at h ⊢; exact exK hk h
      · exact h
    · split at h
      · split at h
        · rw [LenG_eq] at h ⊢; exact exK hk h
        · exact h
      · exact VPure_mono hk h
    · exact VPure_mono hk h
  all_goals exact VPure_mono hk h
theorem VGuard_mono {ops : List Oper} {o : Oper} {F : Fr} {A B A' B' : Prop} (ha : A → A') (hb : B → B') (h : VGuard ops o F A B) : VGuard ops o F A' B' := by
  unfold VGuard at *
  split at h
  · exact ha h
  · split at h
    · split at h
      · split at h
        · exact ha h
        · exact hb h
      · split at h
        · exact hb h
        · exact ha h
      · exact hb h
    · exact hb h
theorem StrP.mono {S : World → Prop} {w : World} {C C' : (World → Prop) → Prop} (hc : ∀ S, C S → C' S) (h : StrP S w C) : StrP S w C' := by
  rw [StrP_eq] at h ⊢; obtain ⟨S', h1, h2, h3⟩ := h; exact ⟨S', h1, h2, hc _ h3⟩
theorem memN_mem {j : Nat} : ∀ {l : List Nat}, j ∈ l → memN j l = true
  | x :: r, h => by
    unfold memN
    cases hb : Nat.beq j x with
    | true => rfl
    | false =>
      rcases List.mem_cons.1 h with rfl | h
      · have := Nat.beq_refl j; rw [this] at hb; cases hb
      · exact memN_mem h
def writes : Code → List Nat
  | .seq a b | .cond _ a b => writes a ++ writes b
  | .block _ c | .loop c | .scope c => writes c
  | .region _ ops _ => wr ops.toList
  | _ => []
theorem Off.refl (l : List Nat) (F : Fr) : Off l F F := fun _ _ => rfl
theorem Off.sub {l l' : List Nat} {F F' : Fr} (h : Off l F F') (hs : ∀ j, j ∈ l → j ∈ l') : Off l' F F' := fun j hj => h j (by
  cases hm : memN j l with
  | false => rfl
  | true =>
    have : j ∈ l := by
      clear h hj hs
      induction l with
      | nil => cases hm
      | cons x r ih =>
        unfold memN at hm
        cases hb : Nat.beq j x with
        | true => exact List.mem_cons.2 (.inl (Nat.eq_of_beq_eq_true hb))
        | false => rw [hb] at hm; exact List.mem_cons_of_mem _ (ih hm)
    rw [memN_mem (hs j this)] at hj; cases hj)
theorem Off.trans {l : List Nat} {F G H : Fr} (h : Off l F G) (k : Off l G H) : Off l F H := fun j hj => (k j hj).trans (h j hj)
theorem Off.upd {l : List Nat} {F G : Fr} (h : Off l F G) {d : Option Nat} (hd : ∀ j, d = some j → j ∈ l) (v : Value) : Off l F (updO G d v) := fun j hj => by
  cases d with
  | none => exact h j hj
  | some d =>
    show (bif Nat.beq j d then v else G j) = F j
    cases hb : Nat.beq j d with
    | true =>
      have := Nat.eq_of_beq_eq_true hb
      subst this
      rw [memN_mem (hd j rfl)] at hj; cases hj
    | false => exact h j hj
theorem VOps_mf {ops : List Oper} {l : List Nat} {K K' : Fr → World → Prop} {X X' : XK} : ∀ (os : List Oper) (F F0 : Fr) (w : World), Off l F0 F → (∀ o ∈ os, ∀ j, o.dst = some j → j ∈ l) →
    (∀ F' w', Off l F0 F' → K F' w' → K' F' w') → (∀ ch w', X ch w' → X' ch w') → VOps P ops K X os F w → VOps P ops K' X' os F w
  | [], F, F0, w, hf, _, hk, hx, h => hk _ _ hf h
  | o :: os, F, F0, w, hf, ho, hk, hx, h => by
    have hd := ho o List.mem_cons_self
    have hr : ∀ o' ∈ os, ∀ j, o'.dst = some j → j ∈ l := fun o' h' => ho o' (List.mem_cons_of_mem _ h')
    exact VGuard_mono (fun h => VOp_mono (fun v w' h => by rw [fv_eq] at h ⊢; exact VOps_mf os _ F0 w' (hf.upd hd v) hr hk hx h) hx h) (fun h => VOps_mf os _ F0 w (hf.upd hd undef) hr hk hx h) h
theorem VPlan_mf {ops : List Oper} {l : List Nat} {K K' : Fr → World → Prop} {X X' : XK} (ho : ∀ o ∈ ops, ∀ j, o.dst = some j → j ∈ l) : ∀ (p : Plan) (S : World → Prop) (F F0 : Fr) (w : World), Off l F0 F →
    (∀ F' w', Off l F0 F' → K F' w' → K' F' w') → (∀ ch w', X ch w' → X' ch w') → VPlan P ops K X p S F w → VPlan P ops K' X' p S F w
  | .done, S, F, F0, w, hf, hk, hx, h => hk _ _ hf h
  | .take i p, S, F, F0, w, hf, hk, hx, h => by
    rw [VPlan_take] at h ⊢
    split at h
    · rename_i o hi
      have hd := ho o (List.mem_of_getElem? hi)
      exact VGuard_mono (fun h => VQuiet_mono (fun v h => by rw [fv_eq] at h ⊢; exact VPlan_mf ho p S _ F0 w (hf.upd hd v) hk hx h) h) (fun h => VPlan_mf ho p S _ F0 w (hf.upd hd undef) hk hx h) h
    · exact h
  | .eff i p, S, F, F0, w, hf, hk, hx, h => by
    rw [VPlan_eff] at h ⊢
    split at h
    · rename_i o hi
      have hd := ho o (List.mem_of_getElem? hi)
      exact VGuard_mono (fun h => VOp_mono (fun v w' h => by rw [fv_eq] at h ⊢; exact StrP.mono (fun S' h => VPlan_mf ho p S' _ F0 w' (hf.upd hd v) hk hx h) h) hx h)
        (fun h => StrP.mono (fun S' h => VPlan_mf ho p S' _ F0 w (hf.upd hd undef) hk hx h) h) h
    · exact h
  | .alt i p q, S, F, F0, w, hf, hk, hx, h => by
    rw [VPlan_alt] at h ⊢
    refine ⟨?_, VPlan_mf ho q S F F0 w hf hk hx h.2⟩
    have h := h.1
    split at h
    · rename_i o hi
      have hd := ho o (List.mem_of_getElem? hi)
      exact VGuard_mono (fun h => VOp_mono (fun v w' h => by rw [fv_eq] at h ⊢; exact StrP.mono (fun S' h => VPlan_mf ho p S' _ F0 w' (hf.upd hd v) hk hx h) h) hx h)
        (fun h => StrP.mono (fun S' h => VPlan_mf ho p S' _ F0 w (hf.upd hd undef) hk hx h) h) h
    · exact h

  | .bar p, S, F, F0, w, hf, hk, hx, h => by
    rw [VPlan_bar] at h ⊢
    obtain ⟨S', h1, h2⟩ := h
    exact ⟨S', h1, VPlan_mf ho p S' F F0 w hf hk hx h2⟩
theorem wr_mem {ops : List Oper} : ∀ o ∈ ops, ∀ j, o.dst = some j → j ∈ wr ops := fun o ho _ hj => List.mem_filterMap.2 ⟨o, ho, hj⟩
theorem bothT {a b : Bool} (h : (a && b) = true) : a = true ∧ b = true := by simpa using h
theorem V_mf : ∀ (c : Code) (K K' : KK) (F : Fr) (ds : List Deferred) (w : World), 
    (∀ e F' ds' w', ((∀ ch, e ≠ .panic ch) → Off (writes c) F F') → (noRange c = true → ds' = ds) → K e F' ds' w' → K' e F' ds' w') → V P c K F ds w → V P c K' F ds w
  | .skip, K, K', F, ds, w, hk, h => hk _ _ _ _ (fun _ => .refl _ _) (fun _ => rfl) h
  | .label _, K, K', F, ds, w, hk, h => hk _ _ _ _ (fun _ => .refl _ _) (fun _ => rfl) h
  | .exit _, K, K', F, ds, w, hk, h => hk _ _ _ _ (fun _ => .refl _ _) (fun _ => rfl) h
  | .ret, K, K', F, ds, w, hk, h => hk _ _ _ _ (fun _ => .refl _ _) (fun _ => rfl) h
  | .seq a b, K, K', F, ds, w, hk, h => by
    refine V_mf a _ _ F ds w (fun e F' ds' w' hf hd h => ?_) h
    have hsub : (∀ ch, e ≠ .panic ch) → Off (writes (.seq a b)) F F' := fun hne => (hf hne).sub fun _ hj => List.mem_append_left _ hj
    cases e with
    | normal =>
      refine V_mf b _ _ F' ds' w' (fun e F'' ds'' w'' hf' hd' h => ?_) h
      exact hk _ _ _ _ (fun hne => (hsub (fun _ e => by cases e)).trans ((hf' hne).sub fun _ hj => List.mem_append_right _ hj)) (fun hn => by
        have : noRange a = true ∧ noRange b = true := by simpa [noRange] using hn
        rw [hd' this.2, hd this.1]) h
    | _ =>
      refine hk _ _ _ _ hsub (fun hn => hd ?_) h
      have : noRange a = true ∧ noRange b = true := by simpa [noRange] using hn
      exact this.1
  | .cond c a b, K, K', F, ds, w, hk, h => by
    rw [V_cond] at h ⊢
    split at h
    · exact V_mf a _ _ F ds w (fun e F' ds' w' hf hd h => hk _ _ _ _ (fun hne => (hf hne).sub fun _ hj => List.mem_append_left _ hj) (fun hn => hd (bothT hn).1) h) h
    · exact V_mf b _ _ F ds w (fun e F' ds' w' hf hd h => hk _ _ _ _ (fun hne => (hf hne).sub fun _ hj => List.mem_append_right _ hj) (fun hn => hd (bothT hn).2) h) h
    · exact h
  | .block id c, K, K', F, ds, w, hk, h => by
    refine V_mf c _ _ F ds w (fun e F' ds' w' hf hd h => ?_) h
    cases e with
    | exit i =>
      cases hb : Nat.beq i id with
      | true => simp only [hb, cond_true] at h ⊢; exact hk _ _ _ _ (fun _ => hf (fun _ e => by cases e)) hd h
      | false => simp only [hb, cond_false] at h ⊢; exact hk _ _ _ _ (fun _ => hf (fun _ e => by cases e)) hd h
    | _ => exact hk _ _ _ _ hf hd h
  | .region _ ops false, K, K', F, ds, w, hk, h => VOps_mf ops.toList F F w (.refl _ _) wr_mem (fun F' w' hf h => hk _ _ _ _ (fun _ => hf) (fun _ => rfl) h) (fun ch w' h F' hf => hk _ _ _ _ (fun hne => absurd rfl (hne ch)) (fun _ => rfl) (h F' hf)) h
  | .region _ ops true, K, K', F, ds, w, hk, h => by
    rw [V_draw, DrawH_eq] at h ⊢
    obtain ⟨hm, p, B, S, h1, h2, h3⟩ := h
    exact ⟨hm, p, B, S, h1, h2, VPlan_mf wr_mem p S F F w (.refl _ _) (fun F' w' hf h => hk _ _ _ _ (fun _ => hf) (fun _ => rfl) h) (fun ch w' h F' hf => hk _ _ _ _ (fun hne => absurd rfl (hne ch)) (fun _ => rfl) (h F' hf)) h3⟩
  | .loop c, K, K', F, ds, w, hk, h => by
    rw [V_loop, LoopH_eq] at h ⊢
    obtain ⟨I, ⟨n0, h0⟩, hs⟩ := h
    refine ⟨fun n F' ds' w' => I n F' ds' w' ∧ Off (writes c) F F' ∧ (noRange c = true → ds' = ds), ⟨n0, h0, .refl _ _, fun _ => rfl⟩, fun n1 F1 ds1 w1 ⟨hi, hf1, hd1⟩ => ?_⟩
    refine V_mf c _ _ F1 ds1 w1 (fun e F' ds' w' hf hd h => ?_) (hs n1 F1 ds1 w1 hi)
    cases e with
    | normal =>
      obtain ⟨m, hm, h⟩ := h
      exact ⟨m, hm, h, hf1.trans (hf (fun _ e => by cases e)), fun hn => (hd hn).trans (hd1 hn)⟩
    | _ => exact hk _ _ _ _ (fun hne => hf1.trans (hf hne)) (fun hn => (hd hn).trans (hd1 hn)) h
  | .rangeFunc g ps as b, K, K', F, ds, w, hk, h => by
    rw [V_range, RangeH_eq] at h ⊢
    intro a w0 hw hf hd hwf
    exact wpIn_mono (h a w0 hw hf hd hwf) fun e a' w' ⟨h1, h2⟩ => ⟨h1, hk _ _ _ _ (fun _ => .refl _ _) (fun hn => by cases hn) h2⟩
  | .scope _, _, _, _, _, _, _, h => h.elim
  | .goto _, _, _, _, _, _, _, h => h.elim
  | .refuse _, _, _, _, _, _, _, h => h.elim
end
end Go.Proofs.YtehcphboliofaaaGreatDoor
