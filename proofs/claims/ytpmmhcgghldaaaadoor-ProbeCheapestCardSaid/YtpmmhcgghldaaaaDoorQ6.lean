/- Contracts of the program: reading hypotheses and measurements. -/
import Derived.Test.YtpmmhcgghldaaaaDoorQ5
import Derived.Test.YtpmmhcgghldaaaaDoorPs
namespace Go.Proofs.YtpmmhcgghldaaaaDoor
open Go Go.RowKit

def pdOf (l : List (List Int)) (p : List Pr) : PD := { truths := l.map mask, shown := p.map fun x => shownM (l.map mask) (mask x.2), costs := p.map (·.1), sets := p.map fun x => mask x.2 }
/-- A slice of the call's own is no block of another type. -/
theorem OwnF.ne {w0 w : World} {A : Option Addr} {n c : Nat} {e t : TypeId} {sz b : Nat} {cs cs' : List Value} (h : OwnF w0 w A n c e sz cs) (hb : Blk w b t cs') (hne : e ≠ t) : ∀ x, A = some (ad x 0) → x ≠ b := fun x hx e' => by
  subst e'
  rcases h.form with ⟨hA, _⟩ | ⟨g, hA, _⟩
  · rw [hA] at hx; cases hx
  · have hown := h.own
    rw [hx] at hown
    obtain ⟨rest, hbl, _⟩ := hown.blk
    exact hne (hbl.uniq hb).1
theorem OwnF.neMap {w0 w : World} {A : Option Addr} {n c : Nat} {e : TypeId} {sz g : Nat} {cs : List Value} {f : Int → Option Value} (h : OwnF w0 w A n c e sz cs) (hm : MapFn .i64 w g f) : ∀ x, A = some (ad x 0) → x ≠ g := fun x hx e' => by
  subst e'
  have hown := h.own
  rw [hx] at hown
  obtain ⟨rest, hbl, _⟩ := hown.blk
  obtain ⟨L, cl, hL, _⟩ := hm
  unfold Blk at hbl
  rw [hbl] at hL; cases hL

/-- The plan while it is read: four lists of the call's own. -/
structure RdInv (w0 w : World) (b g : Nat) (xs0 xs1 : List Nat) (xs2 : List Int) (xs3 : List Nat) (h : PH) : Prop where
  ext : Ext w0 w
  blk : Blk w b 70 (h.cells g)
  map : MapFn .i64 w g (fun _ => none)
  nb : w0.heap.size ≤ b
  ng : w0.heap.size ≤ g
  o0 : OwnF w0 w h.A0 h.n0 h.c0 3 1 (xs0.map nv)
  o1 : OwnF w0 w h.A1 h.n1 h.c1 3 1 (xs1.map nv)
  o2 : OwnF w0 w h.A2 h.n2 h.c2 3 1 (xs2.map fun v => .int .i64 v)
  o3 : OwnF w0 w h.A3 h.n3 h.c3 3 1 (xs3.map nv)
  d01 : ∀ x, h.A0 = some (ad x 0) → h.A1 ≠ some (ad x 0)
  d02 : ∀ x, h.A0 = some (ad x 0) → h.A2 ≠ some (ad x 0)
  d03 : ∀ x, h.A0 = some (ad x 0) → h.A3 ≠ some (ad x 0)
  d12 : ∀ x, h.A1 = some (ad x 0) → h.A2 ≠ some (ad x 0)
  d13 : ∀ x, h.A1 = some (ad x 0) → h.A3 ≠ some (ad x 0)
  d23 : ∀ x, h.A2 = some (ad x 0) → h.A3 ≠ some (ad x 0)
theorem RdInv.then {w0 w w' : World} {b g : Nat} {xs0 xs1 : List Nat} {xs2 : List Int} {xs3 : List Nat} {h : PH} (i : RdInv w0 w b g xs0 xs1 xs2 xs3 h) (k : Ext w w') : RdInv w0 w' b g xs0 xs1 xs2 xs3 h :=
  ⟨i.ext.trans k, i.blk.ext k, i.map.kept k trivial, i.nb, i.ng, i.o0.then k, i.o1.then k, i.o2.then k, i.o3.then k, i.d01, i.d02, i.d03, i.d12, i.d13, i.d23⟩
theorem RdInv.ne {w0 w : World} {b g : Nat} {xs0 xs1 : List Nat} {xs2 : List Int} {xs3 : List Nat} {h : PH} (i : RdInv w0 w b g xs0 xs1 xs2 xs3 h) : b ≠ g := fun e => by
  obtain ⟨L, cl, hL, _⟩ := i.map
  have := i.blk; unfold Blk at this; rw [e] at this; rw [this] at hL; cases hL
theorem RdInv.plan {w0 w : World} {b g : Nat} {xs0 xs1 : List Nat} {xs2 : List Int} {xs3 : List Nat} {h : PH} (i : RdInv w0 w b g xs0 xs1 xs2 xs3 h) (h0 : ∀ x ∈ xs0, x < 4096) (h1 : ∀ x ∈ xs1, x < 4096) (h2 : ∀ x ∈ xs2, I64 x) (h3 : ∀ x ∈ xs3, x < 4096)
    (l0 : xs0.length ≤ 12) (l1 : xs1.length ≤ 12) (l2 : xs2.length ≤ 12) (l3 : xs3.length ≤ 12) : PlanAt w b g h { truths := xs0, shown := xs1, costs := xs2, sets := xs3 } := by
  have cut : ∀ {xs : List Nat} {A : Option Addr} {n c : Nat} (o : OwnF w0 w A n c 3 1 (xs.map nv)), (∀ x ∈ xs, x < 4096) → xs.length ≤ 12 → SlR tNat (fun x => x ≠ g) w A n xs := fun o hx hl =>
    Own.rd (a := tNat) (e := 3) o.own (flat_nats fun x hx' => by have := hx x hx'; omega) (by have := o.cnt; omega) (by have := o.cnt; omega) (fun x hx => o.neMap i.map x hx)
  have n2 : h.n2 = xs2.length := by have := i.o2.own.len; simpa using this.symm
  exact ⟨i.blk, i.ne, cut i.o0 h0 l0, cut i.o1 h1 l1, Own.rd (a := tInt) (e := 3) i.o2.own (flat_ints h2) n2 (by omega) (fun x hx => i.o2.neMap i.map x hx), cut i.o3 h3 l3⟩

theorem mask_zero {x : List Int} (hs : setOk x = true) (h : mask x = 0) : x = [] := by
  obtain ⟨L, rfl, _, _⟩ := set_nats hs (by omega)
  cases L with
  | nil => rfl
  | cons i r =>
    have := mask_bit (i :: r) i
    rw [h, Nat.zero_testBit] at this
    simp at this
/-- What is said of a region that draws, if it is of the world alone. -/
theorem draw_world {P : Program} {ops : Array Oper} {K : Fr → World → Prop} {F : Fr} {w : World} (K' : World → Prop) (h : DrawH P ops (fun _ w' => K' w') F w) (k : ∀ G w', K' w' → K (mix (wr ops.toList) F G) w') : DrawH P ops K F w :=
  draw_then h fun F' w' hoff hk => by
    have e : mix (wr ops.toList) F F' = F' := funext fun j => by
      show (bif memN j (wr ops.toList) then F' j else F j) = F' j
      cases hb : memN j (wr ops.toList) with
      | true => rfl
      | false => exact (hoff j hb).symm
    rw [← e]; exact k F' w' hk

/-! The one region of read with three appends: whatever the order. -/
noncomputable def rdEnd : Plan := .bar (ordPlan [27, 30, 33] [25, 26, 27, 28, 29, 30, 31, 32, 33])
noncomputable def rdTree : Plan := (.alt 8 (.alt 9 (.alt 15 (.alt 16 (.eff 23 (.eff 24 rdEnd)) (.eff 23 (.eff 16 (.eff 24 rdEnd)))) (.eff 23 (.eff 15 (.eff 16 (.eff 24 rdEnd))))) (.alt 15 (.alt 9 (.alt 16 (.eff 23 (.eff 24 rdEnd)) (.eff 23 (.eff 16 (.eff 24 rdEnd)))) (.eff 23 (.eff 9 (.eff 16 (.eff 24 rdEnd))))) (.eff 23 (.alt 9 (.eff 15 (.eff 16 (.eff 24 rdEnd))) (.eff 15 (.eff 9 (.eff 16 (.eff 24 rdEnd)))))))) (.alt 15 (.alt 8 (.alt 9 (.alt 16 (.eff 23 (.eff 24 rdEnd)) (.eff 23 (.eff 16 (.eff 24 rdEnd)))) (.eff 23 (.eff 9 (.eff 16 (.eff 24 rdEnd))))) (.eff 23 (.eff 8 (.eff 9 (.eff 16 (.eff 24 rdEnd)))))) (.eff 23 (.alt 8 (.alt 9 (.eff 15 (.eff 16 (.eff 24 rdEnd))) (.eff 15 (.eff 9 (.eff 16 (.eff 24 rdEnd))))) (.eff 15 (.eff 8 (.eff 9 (.eff 16 (.eff 24 rdEnd)))))))))
noncomputable def takesP (p : Plan) (is : List Nat) : Plan := List.rec (motive := fun _ => Plan) p (fun i _ ih => .take i ih) is
structure RS (w0 : World) (b g b11 : Nat) (xs0 : List Nat) (hc pc : List Value) (A0 : Option Addr) (n0 c0 : Nat) (w : World) (A1 : Option Addr) (n1 c1 : Nat) (ys1 : List Value) (A2 : Option Addr) (n2 c2 : Nat) (ys2 : List Value) (A3 : Option Addr) (n3 c3 : Nat) (ys3 : List Value) (L : List (Nat × Value)) : Prop where
  ext : Ext w0 w
  blk : Blk w b 70 hc
  pb : Blk w b11 47 pc
  map : MapFn .i64 w g (fun _ => none)
  nb : w0.heap.size ≤ b
  ng : w0.heap.size ≤ g
  o0 : OwnF w0 w A0 n0 c0 3 1 (xs0.map nv)
  o1 : OwnF w0 w A1 n1 c1 3 1 ys1
  o2 : OwnF w0 w A2 n2 c2 3 1 ys2
  o3 : OwnF w0 w A3 n3 c3 3 1 ys3
  d01 : ∀ x, A0 = some (ad x 0) → A1 ≠ some (ad x 0)
  d02 : ∀ x, A0 = some (ad x 0) → A2 ≠ some (ad x 0)
  d03 : ∀ x, A0 = some (ad x 0) → A3 ≠ some (ad x 0)
  d12 : ∀ x, A1 = some (ad x 0) → A2 ≠ some (ad x 0)
  d13 : ∀ x, A1 = some (ad x 0) → A3 ≠ some (ad x 0)
  d23 : ∀ x, A2 = some (ad x 0) → A3 ≠ some (ad x 0)
  lt : ∀ q ∈ L, Blk w q.1 3 [q.2] ∧ A1 ≠ some (ad q.1 0) ∧ A2 ≠ some (ad q.1 0) ∧ A3 ≠ some (ad q.1 0)
theorem OwnF.lt {w0 w : World} {A : Option Addr} {n c : Nat} {e : TypeId} {sz : Nat} {cs : List Value} (o : OwnF w0 w A n c e sz cs) : ∀ x, A = some (ad x 0) → x < w.heap.size := fun x hx => by
  rcases o.form with ⟨hA, _⟩ | ⟨g, hA, _, h2, _⟩
  · rw [hA] at hx; cases hx
  · rw [hA] at hx; simp only [Option.some.injEq, Addr.mk.injEq] at hx; omega
section
variable {w0 w : World} {b g b11 : Nat} {xs0 : List Nat} {hc pc : List Value} {A0 A1 A2 A3 : Option Addr} {n0 c0 n1 c1 n2 c2 n3 c3 : Nat} {ys1 ys2 ys3 : List Value} {L : List (Nat × Value)}
theorem RS.stepLit (hS : RS w0 b g b11 xs0 hc pc A0 n0 c0 w A1 n1 c1 ys1 A2 n2 c2 ys2 A3 n3 c3 ys3 L) {i : Int} {K : VK}
    (k : ∀ g' w', RS w0 b g b11 xs0 hc pc A0 n0 c0 w' A1 n1 c1 ys1 A2 n2 c2 ys2 A3 n3 c3 ys3 ((g', .int .i64 i) :: L) → Kept (fun x => x = b ∨ x = b11) w w' → K (.slice (some (ad g' 0)) 1 1) w') : BSlcP Tryd.prog 26 1 #[(0, .int .i64 i)] K w := by
  refine lit [.int .i64 i] (fun g' w' hb => ?_)
  have x := hb.ext
  have e := hb.at_
  refine k g' w' ⟨hS.ext.trans x, hS.blk.ext x, hS.pb.ext x, hS.map.kept x trivial, hS.nb, hS.ng, hS.o0.then x, hS.o1.then x, hS.o2.then x, hS.o3.then x, hS.d01, hS.d02, hS.d03, hS.d12, hS.d13, hS.d23, fun q hq => ?_⟩ x.any
  rcases List.mem_cons.1 hq with rfl | hq
  · exact ⟨hb.blk, fun h => by have := hS.o1.lt _ h; simp at this; omega, fun h => by have := hS.o2.lt _ h; simp at this; omega, fun h => by have := hS.o3.lt _ h; simp at this; omega⟩
  · obtain ⟨q1, q2⟩ := hS.lt q hq
    exact ⟨q1.ext x, q2⟩
/-- An append to one of the lists. -/
theorem RS.step1 (hS : RS w0 b g b11 xs0 hc pc A0 n0 c0 w A1 n1 c1 ys1 A2 n2 c2 ys2 A3 n3 c3 ys3 L) {gl : Nat} {i : Int} {ty : TypeId} {cst : Array Bool} {K : VK} (hm : (gl, Value.int .i64 i) ∈ L) (hn : n1 ≤ 1000)
    (k : ∀ A' c' w', RS w0 b g b11 xs0 hc pc A0 n0 c0 w' A' (n1 + 1) c' (ys1 ++ [.int .i64 i]) A2 n2 c2 ys2 A3 n3 c3 ys3 L → Kept (fun x => x = b ∨ x = b11) w w' → K (.slice A' (n1 + 1) c') w') : BuiP Tryd.prog .append #[26, 26] ty cst #[.slice A1 n1 c1, .slice (some (ad gl 0)) 1 1] K w := by
  obtain ⟨hl, -⟩ := hS.lt _ hm
  refine appF hS.o1 (B := some (ad gl 0)) (news := [.int .i64 i]) ⟨rfl, fun _ => ⟨gl, 0, rfl, .blk hl⟩⟩ (by omega) (fun A' c' w' o k' hA => ?_)
  have nB := hS.o1.ne hS.blk (by decide)
  have nP := hS.o1.ne hS.pb (by decide)
  have fr : ∀ {A : Option Addr}, (∀ x, A = some (ad x 0) → x < w.heap.size) → (∀ x, A1 = some (ad x 0) → A ≠ some (ad x 0)) → ∀ x, A' = some (ad x 0) → A ≠ some (ad x 0) := fun hlt hd x hx e => by
    rcases hA with h1 | h1 | h1
    · exact hd x (h1 ▸ hx) e
    · rw [h1] at hx; cases hx
    · rw [h1] at hx; simp only [Option.some.injEq, Addr.mk.injEq] at hx; have := hlt x e; omega
  refine k A' c' w' ⟨o.ext, hS.blk.kept k' (fun e => nB b e rfl), hS.pb.kept k' (fun e => nP b11 e rfl), hS.map.kept k' (fun e => hS.o1.neMap hS.map g e rfl), hS.nb, hS.ng,
    hS.o0.thenK k' (fun x hx e => hS.d01 x hx e) o.ext, o, hS.o2.thenK k' (fun x hx e => hS.d12 x e hx) o.ext, hS.o3.thenK k' (fun x hx e => hS.d13 x e hx) o.ext,
    fun x hx e => fr hS.o0.lt (fun y hy e' => hS.d01 y e' hy) x e hx, hS.d02, hS.d03, fr hS.o2.lt hS.d12, fr hS.o3.lt hS.d13, hS.d23, fun q hq => ?_⟩ (k'.weak fun x _ hx e => by rcases hx with rfl | rfl; exact nB _ e rfl; exact nP _ e rfl)
  obtain ⟨q1, q2, q3, q4⟩ := hS.lt q hq
  refine ⟨q1.kept k' q2, fun e => ?_, q3, q4⟩
  rcases hA with h1 | h1 | h1
  · exact q2 (h1 ▸ e)
  · rw [h1] at e; cases e
  · rw [h1] at e; simp only [Option.some.injEq, Addr.mk.injEq] at e; have := q1.lt; omega
/-- The lists change places. -/
theorem RS.swap12 (hS : RS w0 b g b11 xs0 hc pc A0 n0 c0 w A1 n1 c1 ys1 A2 n2 c2 ys2 A3 n3 c3 ys3 L) : RS w0 b g b11 xs0 hc pc A0 n0 c0 w A2 n2 c2 ys2 A1 n1 c1 ys1 A3 n3 c3 ys3 L :=
  ⟨hS.ext, hS.blk, hS.pb, hS.map, hS.nb, hS.ng, hS.o0, hS.o2, hS.o1, hS.o3, hS.d02, hS.d01, hS.d03, fun x h e => hS.d12 x e h, hS.d23, hS.d13, fun q hq => let ⟨a, b, c, d⟩ := hS.lt q hq; ⟨a, c, b, d⟩⟩
theorem RS.swap13 (hS : RS w0 b g b11 xs0 hc pc A0 n0 c0 w A1 n1 c1 ys1 A2 n2 c2 ys2 A3 n3 c3 ys3 L) : RS w0 b g b11 xs0 hc pc A0 n0 c0 w A3 n3 c3 ys3 A2 n2 c2 ys2 A1 n1 c1 ys1 L :=
  ⟨hS.ext, hS.blk, hS.pb, hS.map, hS.nb, hS.ng, hS.o0, hS.o3, hS.o2, hS.o1, hS.d03, hS.d02, hS.d01, fun x h e => hS.d23 x e h, fun x h e => hS.d13 x e h, fun x h e => hS.d12 x e h, fun q hq => let ⟨a, b, c, d⟩ := hS.lt q hq; ⟨a, d, c, b⟩⟩
theorem RS.step2 (hS : RS w0 b g b11 xs0 hc pc A0 n0 c0 w A1 n1 c1 ys1 A2 n2 c2 ys2 A3 n3 c3 ys3 L) {gl : Nat} {i : Int} {ty : TypeId} {cst : Array Bool} {K : VK} (hm : (gl, Value.int .i64 i) ∈ L) (hn : n2 ≤ 1000)
    (k : ∀ A' c' w', RS w0 b g b11 xs0 hc pc A0 n0 c0 w' A1 n1 c1 ys1 A' (n2 + 1) c' (ys2 ++ [.int .i64 i]) A3 n3 c3 ys3 L → Kept (fun x => x = b ∨ x = b11) w w' → K (.slice A' (n2 + 1) c') w') : BuiP Tryd.prog .append #[26, 26] ty cst #[.slice A2 n2 c2, .slice (some (ad gl 0)) 1 1] K w :=
  hS.swap12.step1 hm hn fun A' c' w' h kk => k A' c' w' h.swap12 kk
theorem RS.step3 (hS : RS w0 b g b11 xs0 hc pc A0 n0 c0 w A1 n1 c1 ys1 A2 n2 c2 ys2 A3 n3 c3 ys3 L) {gl : Nat} {i : Int} {ty : TypeId} {cst : Array Bool} {K : VK} (hm : (gl, Value.int .i64 i) ∈ L) (hn : n3 ≤ 1000)
    (k : ∀ A' c' w', RS w0 b g b11 xs0 hc pc A0 n0 c0 w' A1 n1 c1 ys1 A2 n2 c2 ys2 A' (n3 + 1) c' (ys3 ++ [.int .i64 i]) L → Kept (fun x => x = b ∨ x = b11) w w' → K (.slice A' (n3 + 1) c') w') : BuiP Tryd.prog .append #[26, 26] ty cst #[.slice A3 n3 c3, .slice (some (ad gl 0)) 1 1] K w :=
  hS.swap13.step1 hm hn fun A' c' w' h kk => k A' c' w' h.swap13 kk
theorem RS.fin {w' : World} {xs1 xs3 : List Nat} {xs2 : List Int} {h : PH} (hS : RS w0 b g b11 xs0 (h.cells g) pc h.A0 h.n0 h.c0 w A1 n1 c1 ys1 A2 n2 c2 ys2 A3 n3 c3 ys3 L) (e1 : ys1 = xs1.map nv) (e2 : ys2 = xs2.map fun v => .int .i64 v) (e3 : ys3 = xs3.map nv)
    (hb : Blk w' b 70 [.slice h.A0 h.n0 h.c0, .slice A1 n1 c1, .slice A2 n2 c2, .slice A3 n3 c3, .map (some g)]) (k : Kept (fun x => x ≠ b) w w') : ∃ h', RdInv w0 w' b g xs0 xs1 xs2 xs3 h' := by
  subst e1; subst e2; subst e3
  have ex : Ext w0 w' := hS.ext.then k (fun x hx _ e => by have := hS.nb; omega)
  have ng : b ≠ g := fun e => by
    obtain ⟨Lm, cl, hL, _⟩ := hS.map
    have := hS.blk; unfold Blk at this; rw [e] at this; rw [this] at hL; cases hL
  exact ⟨{ A0 := h.A0, n0 := h.n0, c0 := h.c0, A1 := A1, n1 := n1, c1 := c1, A2 := A2, n2 := n2, c2 := c2, A3 := A3, n3 := n3, c3 := c3 },
    ex, hb, hS.map.kept k (fun e => ng e.symm), hS.nb, hS.ng, hS.o0.thenK k (hS.o0.ne hS.blk (by decide)) ex, hS.o1.thenK k (hS.o1.ne hS.blk (by decide)) ex, hS.o2.thenK k (hS.o2.ne hS.blk (by decide)) ex, hS.o3.thenK k (hS.o3.ne hS.blk (by decide)) ex,
    hS.d01, hS.d02, hS.d03, hS.d12, hS.d13, hS.d23⟩
end

section
variable {D : Nat → Prop} {w : World} {A A' : Option Addr} {n m c d : Nat}
theorem c_setT {xs : List Int} (ha : SlR tInt D w A n xs) (hs : setOk xs = true) : CallZ Tryd.prog 37 #[.slice A n c] w (fun v w' => v = .tuple #[.int .i64 ((mask xs : Nat) : Int), .bool true] ∧ w' = w) :=
  (c_set ha).mono fun v w' ⟨h1, h2⟩ => ⟨by rw [h1, hs]; rfl, h2⟩
theorem c_setF {xs : List Int} (ha : SlR tInt D w A n xs) (hs : setOk xs = false) : CallZ Tryd.prog 37 #[.slice A n c] w (fun v w' => v = .tuple #[.int .i64 0, .bool false] ∧ w' = w) :=
  (c_set ha).mono fun v w' ⟨h1, h2⟩ => ⟨by rw [h1, hs]; rfl, h2⟩
theorem RdInv.put0 {w0 w w1 w2 : World} {b g : Nat} {xs0 xs1 ys : List Nat} {xs2 : List Int} {xs3 : List Nat} {h : PH} {A' : Option Addr} {n' c' : Nat} (i : RdInv w0 w b g xs0 xs1 xs2 xs3 h)
    (o : OwnF w0 w1 A' n' c' 3 1 (ys.map nv)) (k1 : Kept (fun x => h.A0 ≠ some (ad x 0)) w w1) (hA : A' = h.A0 ∨ A' = none ∨ A' = some (ad w.heap.size 0))
    (hb : Blk w2 b 70 ((h.cells g).set 0 (.slice A' n' c'))) (k2 : Kept (fun x => x ≠ b) w1 w2) : RdInv w0 w2 b g ys xs1 xs2 xs3 { h with A0 := A', n0 := n', c0 := c' } := by
  have hlt : ∀ {A n c cs}, OwnF w0 w A n c 3 1 cs → ∀ x, A = some (ad x 0) → x < w.heap.size := fun o x hx => by
    rcases o.form with ⟨hA, _⟩ | ⟨g, hA, _, h2, _⟩
    · rw [hA] at hx; cases hx
    · rw [hA] at hx; simp only [Option.some.injEq, Addr.mk.injEq] at hx; omega
  have hgl := i.map.lt
  have hb1 : Blk w1 b 70 (h.cells g) := i.blk.kept k1 (fun e => i.o0.ne i.blk (by decide) b e rfl)
  have ex2 : Ext w0 w2 := o.ext.then k2 (fun x hx _ e => by have := i.nb; omega)
  have mv : ∀ {A n c cs}, OwnF w0 w A n c 3 1 cs → (∀ x, h.A0 = some (ad x 0) → A ≠ some (ad x 0)) → OwnF w0 w2 A n c 3 1 cs := fun q hd =>
    (q.thenK k1 (fun x hx e => hd x e hx) o.ext).thenK k2 (fun x hx => (q.thenK k1 (fun x hx e => hd x e hx) o.ext).ne hb1 (by decide) x hx) ex2
  have fresh : ∀ {A n c cs}, OwnF w0 w A n c 3 1 cs → (∀ x, h.A0 = some (ad x 0) → A ≠ some (ad x 0)) → ∀ x, A' = some (ad x 0) → A ≠ some (ad x 0) := fun q hd x hx e => by
    rcases hA with h1 | h1 | h1
    · exact hd x (h1 ▸ hx) e
    · rw [h1] at hx; cases hx
    · rw [h1] at hx; simp only [Option.some.injEq, Addr.mk.injEq] at hx; have := hlt q x e; omega
  exact ⟨ex2, hb, (i.map.kept k1 (fun e => i.o0.neMap i.map g e rfl)).kept k2 (fun e => i.ne e.symm), i.nb, i.ng, o.thenK k2 (fun x hx => o.ne hb1 (by decide) x hx) ex2, mv i.o1 i.d01, mv i.o2 i.d02, mv i.o3 i.d03,
    fresh i.o1 i.d01, fresh i.o2 i.d02, fresh i.o3 i.d03, i.d12, i.d13, i.d23⟩

theorem c_read {l : List (List Int)} {p : List Pr} (hl : SlR tInts D w A n l) (hp : SlR tPr D w A' m p) :
    CallZ Tryd.prog 25 #[.slice A n c, .slice A' m d] w (fun v w' => Ext w w' ∧ ((checkL l p ≠ 0 ∧ v = .tuple #[.pointer none, .int .i64 (checkL l p)]) ∨
      (checkL l p = 0 ∧ ∃ b g h, v = .tuple #[ptr b, .int .i64 0] ∧ w.heap.size ≤ b ∧ w.heap.size ≤ g ∧ PlanAt w' b g h (pdOf l p) ∧ MapFn .i64 w' g (fun _ => none) ∧ SlR tInt (fun x => w.heap.size ≤ x) w' h.A2 h.n2 (pdOf l p).costs ∧ SlR tNat (fun x => w.heap.size ≤ x) w' h.A3 h.n3 (pdOf l p).sets))) := by
  have hll := hl.1
  have hpl := hp.1
  refine fn_rule (args := [.slice A n c, .slice A' m d]) Tryd.func25 (by kernel_rfl) ?_
  refine len ?_
  refine cD (fun h1 => ?_) (fun h1 => ?_)
  · have e : checkL l p = 2 := by unfold checkL; rw [if_pos (by omega)]
    exact ret2 (.pointer none) (.int .i64 2) rfl rfl ⟨.refl _ _, .inl ⟨by rw [e]; decide, by rw [e]⟩⟩
  refine len ?_
  refine cD (fun h2 => ?_) (fun h2 => ?_)
  · have e : checkL l p = 2 := by unfold checkL; rw [if_pos (by omega)]
    exact ret2 (.pointer none) (.int .i64 2) rfl rfl ⟨.refl _ _, .inl ⟨by rw [e]; decide, by rw [e]⟩⟩
  have hck : checkL l p = if hypsOk l && p.all probeOk then 0 else 500 := by unfold checkL; rw [if_neg (by omega)]
  refine mmap (fun g w1 hg hw1 => ?_)
  refine bld [.slice none 0 0, .slice none 0 0, .slice none 0 0, .slice none 0 0, .map (some g)] (by kernel_rfl) ?_
  refine box (fun b w2 hb => ?_)
  have x1 : Ext w w1 := by rw [hw1]; exact Kept.alloc _ _ _
  have sz1 : w1.heap.size = w.heap.size + 1 := by rw [hw1]; simp
  have m1 : MapFn .i64 w1 g (fun _ => none) := by rw [hw1, hg]; exact MapFn.new _ _
  have x2 := x1.trans hb.ext
  have nd : ∀ x, (none : Option Addr) = some (ad x 0) → (none : Option Addr) ≠ some (ad x 0) := fun _ h => nomatch h
  have hinv : RdInv w w2 b g [] [] [] [] { A0 := none, n0 := 0, c0 := 0, A1 := none, n1 := 0, c1 := 0, A2 := none, n2 := 0, c2 := 0, A3 := none, n3 := 0, c3 := 0 } :=
    ⟨x2, hb.blk, m1.kept hb.ext trivial, by rw [hb.at_]; omega, by omega, .nil x2, .nil x2, .nil x2, .nil x2, nd, nd, nd, nd, nd, nd⟩
  have bad : ∀ w', Ext w w' → (hypsOk l && p.all probeOk) = false → (Ext w w' ∧ ((checkL l p ≠ 0 ∧ (Value.tuple #[.pointer none, .int .i64 500]) = .tuple #[.pointer none, .int .i64 (checkL l p)]) ∨
      (checkL l p = 0 ∧ ∃ b g h, (Value.tuple #[.pointer none, .int .i64 500]) = .tuple #[ptr b, .int .i64 0] ∧ w.heap.size ≤ b ∧ w.heap.size ≤ g ∧ PlanAt w' b g h (pdOf l p) ∧ MapFn .i64 w' g (fun _ => none) ∧ SlR tInt (fun x => w.heap.size ≤ x) w' h.A2 h.n2 (pdOf l p).costs ∧ SlR tNat (fun x => w.heap.size ≤ x) w' h.A3 h.n3 (pdOf l p).sets))) := fun w' hx hf =>
    ⟨hx, .inl ⟨by rw [hck, hf]; decide, by rw [hck, hf]; rfl⟩⟩
  refine len ?_
  refine loop_rule (fun k : Nat => [(30, .int .i64 k), (4, ptr b)]) (fun k w' => k ≤ n ∧ hypsOk l = hypsFrom (l.take k) (l.drop k) ∧ (∀ y ∈ l.take k, setOk y = true) ∧ ∃ h, RdInv w w' b g ((l.take k).map mask) [] [] [] h) (fun k _ => n - k) 0 ⟨rfl, rfl, trivial⟩
    ⟨by omega, rfl, fun y hy => by simp at hy, _, hinv⟩ rfl ?_
  rintro G k w3 ⟨hk, he, hall, h, inv⟩
  have hx3 := inv.ext
  refine cD (fun hlt => ?_) (fun hge => ?_)
  · have hlt : k < n := by omega
    obtain ⟨b', o', cs, x, rfl, hx, hdx, -, hc, Ax, nx, cx, rfl, hxs, -⟩ := (hl.ext hx3).at_ hlt
    rw [hdx] at he
    have hh : hypsOk l = (setOk x && !((l.take k).any (fun y => x == y)) && hypsFrom (l.take k ++ [x]) (l.drop (k + 1))) := he
    refine idx k rfl hlt ?_
    refine ld _ (hc 0 _ rfl) ?_
    cases hs : setOk x with
    | false =>
      rw [hs] at hh
      refine call_of (c_setF hxs hs) ?_
      rintro _ w3 ⟨rfl, rfl⟩
      exact ret2 (.pointer none) (.int .i64 500) rfl rfl (bad _ hx3 (by rw [hh]; rfl))
    | true =>
      rw [hs, any_mask hs hall] at hh
      refine call_of (c_setT hxs hs) ?_
      rintro _ w3 ⟨rfl, rfl⟩
      refine fldA ?_
      refine ld (.slice h.A0 h.n0 h.c0) (inv.blk.cell rfl) ?_
      have hlk : ((l.take k).map mask).length ≤ 12 := by rw [List.length_map, List.length_take]; omega
      have hm12 : ∀ y ∈ (l.take k).map mask, y < 4096 := fun y hy => by
        obtain ⟨z, hz, rfl⟩ := List.mem_map.1 hy
        exact mask_lt (hall z hz)
      have htr : SlR tNat All w3 h.A0 h.n0 ((l.take k).map mask) := inv.o0.nats (fun y hy => by have := hm12 y hy; omega) (by have := inv.o0.cnt; omega) (fun _ _ => trivial)
      refine callB (c_Contains (v := ((mask x : Nat) : Int)) htr.nats) (fun h3 => ?_) (fun h3 => ?_)
      · have h3 : (ofNats ((l.take k).map mask)).contains ((mask x : Nat) : Int) = true := h3
        rw [h3] at hh
        exact ret2 (.pointer none) (.int .i64 500) rfl rfl (bad _ hx3 (by rw [hh]; rfl))
      · have h3 : (ofNats ((l.take k).map mask)).contains ((mask x : Nat) : Int) = false := h3
        rw [h3] at hh
        refine fldA ?_
        refine ld (.slice h.A0 h.n0 h.c0) (inv.blk.cell rfl) ?_
        refine lit [.int .i64 ((mask x : Nat) : Int)] (fun g4 w4 h4 => ?_)
        have inv4 := inv.then h4.ext
        have hcnt := inv4.o0.cnt
        refine appF inv4.o0 (h4.src (sz := 1) rfl) (by omega) (fun A'' c'' w5 o5 k5 hA5 => ?_)
        refine fldA ?_
        have hb5 : Blk w5 b 70 (h.cells g) := inv4.blk.kept k5 (fun e => inv4.o0.ne inv4.blk (by decide) b e rfl)
        refine st hb5 (Nat.le_of_ble_eq_true rfl) rfl (fun w6 hb6 k6 hz6 => ?_)
        have hmp : (l.take (k + 1)).map mask = (l.take k).map mask ++ [mask x] := by rw [take_succ' hx, List.map_append]; rfl
        have inv6 := inv4.put0 (ys := (l.take (k + 1)).map mask) (by rw [hmp, List.map_append]; exact o5) k5 hA5 hb6 k6
        refine arI (by omega) ?_
        refine next (k + 1) ⟨rfl, rfl, trivial⟩ ⟨by omega, by rw [hh, take_succ' hx]; rfl, fun y hy => ?_, _, inv6⟩ (by omega)
        rw [take_succ' hx] at hy
        rcases List.mem_append.1 hy with hy | hy
        · exact hall y hy
        · simp at hy; subst hy; exact hs
  · have hkn : k = n := by omega
    subst hkn
    rw [drop_end (by rw [hl.len]; omega)] at he
    have he : hypsOk l = true := he
    rw [List.take_of_length_le (by omega)] at inv hall
    rw [he, Bool.true_and] at hck bad
    have hml : ∀ y ∈ l.map mask, y < 4096 := fun y hy => by
      obtain ⟨z, hz, rfl⟩ := List.mem_map.1 hy
      exact mask_lt (hall z hz)
    have hll12 : (l.map mask).length ≤ 12 := by rw [List.length_map]; omega
    refine len ?_
    refine loop_rule (fun j : Nat => [(62, .int .i64 j), (4, ptr b)]) (fun j w' => j ≤ m ∧ p.all probeOk = (p.drop j).all probeOk ∧ (∀ x ∈ p.take j, probeOk x = true) ∧
      ∃ h, RdInv w w' b g (l.map mask) ((p.take j).map fun x => shownM (l.map mask) (mask x.2)) ((p.take j).map (·.1)) ((p.take j).map fun x => mask x.2) h) (fun j _ => m - j) 0 ⟨rfl, rfl, trivial⟩
      ⟨by omega, rfl, fun y hy => by simp at hy, _, inv⟩ rfl ?_
    clear inv hx3 h w3
    rintro G j w3 ⟨hj, hpe, hpa, h, inv⟩
    have hx3 := inv.ext
    refine cD (fun hlt => ?_) (fun hge => ?_)
    · have hlt : j < m := by omega
      obtain ⟨b', o', cs, x, rfl, hx, hdx, -, hc, hr⟩ := (hp.ext hx3).at_ hlt
      rw [hdx, List.all_cons] at hpe
      obtain ⟨Ax, nx, cx, rfl, hxi, hxs, -⟩ := pr_open hr
      refine idx j rfl hlt ?_
      refine ldA [.int .i64 x.1, .slice Ax nx cx] hc rfl ?_
      refine alloc (fun b11 w4 h4 => ?_)
      refine stA (vs := [.int .i64 x.1, .slice Ax nx cx]) h4.blk rfl (Nat.le_of_ble_eq_true rfl) (by simp [Value.oneCell']) (fun w5 hb5 k5 hz5 => ?_)
      have hb5 : Blk w5 b11 47 [.int .i64 x.1, .slice Ax nx cx] := hb5
      have e4 := h4.at_
      have x35 : Ext w3 w5 := h4.ext.then k5 (fun b hb _ e => by omega)
      have inv5 := inv.then x35
      have hx5 := inv5.ext
      have bad5 : probeOk x = false → _ := fun hf => bad w5 hx5 (by rw [hpe, hf]; rfl)
      refine fldA ?_
      refine ld _ (hb5.cell rfl) ?_
      cases hs : setOk x.2 with
      | false =>
        refine call_of (c_setF (hxs.ext x35) hs) ?_
        rintro _ w5 ⟨rfl, rfl⟩
        exact ret2 (.pointer none) (.int .i64 500) rfl rfl (bad5 (by unfold probeOk; rw [hs, Bool.and_false]))
      | true =>
        refine call_of (c_setT (hxs.ext x35) hs) ?_
        rintro _ w5 ⟨rfl, rfl⟩
        have hms := mask_lt hs
        have hpo : probeOk x = (decide (1 ≤ x.1) && decide (x.1 ≤ 1048576) && !x.2.isEmpty) := by unfold probeOk; rw [hs, Bool.and_true]
        generalize hmm : mask x.2 = mm at *
        refine cE (fun h3 => ?_) (fun h3 => ?_)
        · have : x.2 = [] := mask_zero hs (by omega)
          exact ret2 (.pointer none) (.int .i64 500) rfl rfl (bad5 (by rw [hpo, this]; simp))
        have hne : x.2.isEmpty = false := by
          cases hx2 : x.2 with
          | nil => exfalso; apply h3; rw [← hmm, hx2]; rfl
          | cons _ _ => rfl
        refine fldA ?_
        refine ld _ (hb5.cell rfl) ?_
        refine cD (fun h4 => ?_) (fun h4 => ?_)
        · exact ret2 (.pointer none) (.int .i64 500) rfl rfl (bad5 (by rw [hpo, decide_eq_false (by omega)]; rfl))
        refine fldA ?_
        refine ld _ (hb5.cell rfl) ?_
        refine cD (fun h5 => ?_) (fun h5 => ?_)
        · exact ret2 (.pointer none) (.int .i64 500) rfl rfl (bad5 (by rw [hpo, decide_eq_false (show ¬ x.1 ≤ 1048576 by omega), Bool.and_false]; rfl))
        have hpx : probeOk x = true := by rw [hpo, hne, decide_eq_true (show (1 : Int) ≤ x.1 by omega), decide_eq_true (show x.1 ≤ 1048576 by omega)]; rfl
        rw [hpx, Bool.true_and] at hpe
        have htr : SlR tNat All w5 h.A0 h.n0 (l.map mask) := inv5.o0.nats (fun y hy => by have := hml y hy; omega) (by have := inv5.o0.cnt; omega) (fun _ _ => trivial)
        have hn0 := htr.1
        refine fldA ?_
        refine ld (.slice h.A0 h.n0 h.c0) (inv5.blk.cell rfl) ?_
        refine len ?_
        refine loop2 (fun (i acc : Nat) => [(93, .int .i64 i), (14, .int .i64 acc)]) (fun i acc w' => i ≤ h.n0 ∧ w5 = w' ∧ acc < 4096 ∧ shownM (l.map mask) mm = shownFrom mm i acc ((l.map mask).drop i)) (fun i _ _ => h.n0 - i) 0 0 ⟨rfl, rfl, trivial⟩ ⟨by omega, rfl, by omega, rfl⟩ rfl ?_
        rintro G2 i acc _ ⟨hi, rfl, hacc, hsh⟩
        refine cD (fun hlt2 => ?_) (fun hge2 => ?_)
        · have hlt2 : i < h.n0 := by omega
          obtain ⟨bt, ot, ct, t, hA0, ht, hdt, -, hct, hrt⟩ := htr.at_ hlt2
          obtain ⟨rfl, -⟩ := tNat_rep hrt
          have ht12 := hml t (List.mem_of_getElem? ht)
          rw [hdt, shownFrom] at hsh
          rw [hA0]
          refine idx i rfl hlt2 ?_
          refine ld _ (hct 0 _ rfl) ?_
          refine andV (fun q hq => ?_)
          rw [← hq] at hsh
          have hi12 : i < 12 := by omega
          refine cN (fun h6 => ?_) (fun h6 => ?_)
          · rw [if_pos (by omega)] at hsh
            refine shl1 (fun z hz _ => ?_)
            rw [Int.toNat_natCast] at hz
            have hz12 : z < 4096 := by
              rw [hz]
              have : 2 ^ i ≤ 2 ^ 11 := Nat.pow_le_pow_right (by omega) (by omega)
              omega
            rw [← hz] at hsh
            refine orV (fun y hy => ?_)
            rw [← hy] at hsh
            refine arI (by omega) ?_
            exact next2 (i + 1) y ⟨rfl, rfl, trivial⟩ ⟨by omega, rfl, by rw [hy]; exact or_lt hacc hz12, hsh⟩ (by omega)
          · rw [if_neg (by omega)] at hsh
            refine arI (by omega) ?_
            exact next2 (i + 1) acc ⟨rfl, rfl, trivial⟩ ⟨by omega, rfl, hacc, hsh⟩ (by omega)
        · rw [drop_end (by omega)] at hsh
          have hsh : shownM (l.map mask) mm = acc := hsh
          refine draw_world (fun w' => ∃ h', RdInv w w' b g (l.map mask) ((p.take (j + 1)).map fun x => shownM (l.map mask) (mask x.2)) ((p.take (j + 1)).map (·.1)) ((p.take (j + 1)).map fun x => mask x.2) h') ?_ ?_
          · have hS5 : RS w b g b11 (l.map mask) (h.cells g) [.int .i64 x.1, .slice Ax nx cx] h.A0 h.n0 h.c0 w5 h.A1 h.n1 h.c1 _ h.A2 h.n2 h.c2 _ h.A3 h.n3 h.c3 _ [] :=
              ⟨inv5.ext, inv5.blk, hb5, inv5.map, inv5.nb, inv5.ng, inv5.o0, inv5.o1, inv5.o2, inv5.o3, inv5.d01, inv5.d02, inv5.d03, inv5.d12, inv5.d13, inv5.d23, fun _ hq => nomatch hq⟩
            have hn1 : h.n1 ≤ 1000 := by have := inv5.o1.cnt; rw [List.length_map, List.length_take] at this; omega
            have hn3 : h.n3 ≤ 1000 := by have := inv5.o3.cnt; rw [List.length_map, List.length_take] at this; omega
            have hn2 : h.n2 ≤ 1000 := by have := inv5.o2.own.len; rw [List.length_map, List.length_map, List.length_take] at this; omega
            have hbne : b ≠ b11 := fun e => by
              have := (inv5.blk.uniq (e ▸ hb5)).1
              exact absurd this (by decide)
            have f1 : ((p.take j).map fun x => shownM (l.map mask) (mask x.2)).map nv ++ [.int .i64 (acc : Int)] = ((p.take (j + 1)).map fun x => shownM (l.map mask) (mask x.2)).map nv := by
              rw [take_succ' hx, List.map_append, List.map_append, ← hsh, ← hmm]; rfl
            have f2 : (((p.take j).map (·.1)).map fun v => Value.int .i64 v) ++ [.int .i64 x.1] = ((p.take (j + 1)).map (·.1)).map fun v => Value.int .i64 v := by
              rw [take_succ' hx, List.map_append, List.map_append]; rfl
            have f3 : ((p.take j).map fun x => mask x.2).map nv ++ [.int .i64 (mm : Int)] = ((p.take (j + 1)).map fun x => mask x.2).map nv := by
              rw [take_succ' hx, List.map_append, List.map_append, ← hmm]; rfl
            clear inv inv5 bad5 bad hinv
            refine drawP (takesP rdTree [0, 1, 2, 3, 4, 5, 6, 7, 10, 11, 12, 13, 14, 17, 18, 19, 20, 21, 22]) [25, 26, 27, 28, 29, 30, 31, 32, 33] (fun u => Kept (fun x => x = b ∨ x = b11) w5 u) mx (by kernel_rfl) (.refl _ _) ?_
            refine fldA ?_
            refine ldK (.slice h.A3 h.n3 h.c3) (hS5.blk.cell rfl) (.inl rfl) (.refl _ _) ?_
            refine fldA ?_
            refine ldK (.slice h.A1 h.n1 h.c1) (hS5.blk.cell rfl) (.inl rfl) (.refl _ _) ?_
            refine fldA ?_
            refine ldK (.slice h.A2 h.n2 h.c2) (hS5.blk.cell rfl) (.inl rfl) (.refl _ _) ?_
            refine fldA ?_
            refine ldK (.int .i64 x.1) (hb5.cell rfl) (.inr rfl) (.refl _ _) ?_
            repeat' (first
              | refine RS.stepLit (by assumption) (fun _ _ _ hk => strK hk ?_)
              | refine RS.step1 (by assumption) (by first | exact List.mem_cons_self | exact List.mem_cons_of_mem _ List.mem_cons_self | exact List.mem_cons_of_mem _ (List.mem_cons_of_mem _ List.mem_cons_self)) (by omega) (fun _ _ _ _ hk => strK hk ?_)
              | refine RS.step2 (by assumption) (by first | exact List.mem_cons_self | exact List.mem_cons_of_mem _ List.mem_cons_self | exact List.mem_cons_of_mem _ (List.mem_cons_of_mem _ List.mem_cons_self)) (by omega) (fun _ _ _ _ hk => strK hk ?_)
              | refine RS.step3 (by assumption) (by first | exact List.mem_cons_self | exact List.mem_cons_of_mem _ List.mem_cons_self | exact List.mem_cons_of_mem _ (List.mem_cons_of_mem _ List.mem_cons_self)) (by omega) (fun _ _ _ _ hk => strK hk ?_)
              | refine And.intro ?_ ?_)
            all_goals (
              refine barS (fun _ => True) trivial ?_
              refine fldA ?_
              refine st (RS.blk (by assumption)) (Nat.le_of_ble_eq_true rfl) rfl (fun w7 hb7 k7 hz7 => ?_)
              refine strS trivial ?_
              refine fldA ?_
              refine st hb7 (Nat.le_of_ble_eq_true rfl) rfl (fun w8 hb8 k8 hz8 => ?_)
              refine strS trivial ?_
              refine fldA ?_
              refine st hb8 (Nat.le_of_ble_eq_true rfl) rfl (fun w9 hb9 k9 hz9 => ?_)
              refine strS trivial ?_
              exact RS.fin (by assumption) f1 f2 f3 hb9 ((k7.trans k8).trans k9))
          · rintro G3 w6 ⟨h', inv6⟩
            refine arI (by omega) ?_
            refine next (j + 1) ⟨rfl, rfl, trivial⟩ ⟨by omega, hpe, fun y hy => ?_, h', inv6⟩ (by omega)
            rw [take_succ' hx] at hy
            rcases List.mem_append.1 hy with hy | hy
            · exact hpa y hy
            · simp at hy; subst hy; exact hpx
    · rw [drop_end (by rw [hp.len]; omega)] at hpe
      have hpe : p.all probeOk = true := hpe
      rw [List.take_of_length_le (by omega)] at inv
      rw [hpe] at hck
      refine ret2 (ptr b) (.int .i64 0) rfl rfl ⟨hx3, .inr ⟨hck, b, g, h, rfl, inv.nb, inv.ng, ?_, inv.map, inv.o2.ints (fun y hy => ?_) (by have := inv.o2.own.len; rw [List.length_map, List.length_map] at this; omega) (fun _ h => h), inv.o3.nats (fun y hy => ?_) (by have := inv.o3.cnt; rw [List.length_map] at this; omega) (fun _ h => h)⟩⟩
      · refine inv.plan hml (fun y hy => ?_) (fun y hy => ?_) (fun y hy => ?_) hll12 (by rw [List.length_map]; omega) (by rw [List.length_map]; omega) (by rw [List.length_map]; omega)
        · obtain ⟨z, hz, rfl⟩ := List.mem_map.1 hy
          exact shownM_lt hll12
        · obtain ⟨z, hz, rfl⟩ := List.mem_map.1 hy
          have := prOk_of hpe z hz
          constructor <;> omega
        · obtain ⟨z, hz, rfl⟩ := List.mem_map.1 hy
          have := List.all_eq_true.1 hpe z hz
          unfold probeOk at this
          simp at this
          exact mask_lt this.2
      · obtain ⟨z, hz, rfl⟩ := List.mem_map.1 hy
        have := prOk_of hpe z hz
        constructor <;> omega
      · obtain ⟨z, hz, rfl⟩ := List.mem_map.1 hy
        have := List.all_eq_true.1 hpe z hz
        unfold probeOk at this
        simp at this
        have := mask_lt this.2
        omega
end
end Go.Proofs.YtpmmhcgghldaaaaDoor
