/- Own layer, part f: how data read in memory. Nothing of the program stands here. -/
import Derived.Test.YtpmmhcgghldaaaaDoorVe
namespace Go.Proofs.YtpmmhcgghldaaaaDoor
open Go Go.RowKit

/-- How a value of a Lean type lies in cells; D: the blocks that it may take. -/
structure Ty (α : Type) where
  sz : Nat
  rep : (Nat → Prop) → World → List Value → α → Prop
  len : ∀ {D w cs x}, rep D w cs x → cs.length = sz
  keep : ∀ {D w w' cs x}, (∀ b, b < w.heap.size → D b → w'.heap[b]? = w.heap[b]?) → rep D w cs x → rep D w' cs x
  more : ∀ {D D' w cs x}, (∀ b, b < w.heap.size → D b → D' b) → rep D w cs x → rep D' w cs x

def I64 (x : Int) : Prop := -9223372036854775808 ≤ x ∧ x ≤ 9223372036854775807
def tInt : Ty Int where
  sz := 1
  rep _ _ cs x := cs = [.int .i64 x] ∧ I64 x
  len h := by rw [h.1]; rfl
  keep _ h := h
  more _ h := h
def tBool : Ty Bool where
  sz := 1
  rep _ _ cs x := cs = [.bool x]
  len h := by rw [h]; rfl
  keep _ h := h
  more _ h := h
def tPair {α β : Type} (a : Ty α) (b : Ty β) : Ty (α × β) where
  sz := a.sz + b.sz
  rep D w cs p := ∃ c1 c2, cs = c1 ++ c2 ∧ a.rep D w c1 p.1 ∧ b.rep D w c2 p.2
  len := fun ⟨c1, c2, h, h1, h2⟩ => by rw [h, List.length_append, a.len h1, b.len h2]
  keep hk := fun ⟨c1, c2, h, h1, h2⟩ => ⟨c1, c2, h, a.keep hk h1, b.keep hk h2⟩
  more hB := fun ⟨c1, c2, h, h1, h2⟩ => ⟨c1, c2, h, a.more hB h1, b.more hB h2⟩
def tMap {α β : Type} (a : Ty α) (f : β → α) : Ty β where
  sz := a.sz
  rep D w cs x := a.rep D w cs (f x)
  len h := a.len h
  keep hk h := a.keep hk h
  more hB h := a.more hB h

theorem lt_of_cell {w : World} {b o : Nat} {v : Value} (h : w.cell? (ad b o) = some v) : b < w.heap.size := World.block_lt_of_cell? w (ad b o) h
theorem cellsAt_same {w w' : World} {b o : Nat} {cs : List Value} (h : b < w.heap.size → w'.heap[b]? = w.heap[b]?) (hc : CellsAt w b o cs) : CellsAt w' b o cs := fun j v hv => by
  have h1 := hc j v hv
  rw [World.cell?_of_block (a := ad b (o + j)) (h (lt_of_cell h1))]; exact h1
/-- A slice's elements. -/
def SlR {α : Type} (a : Ty α) (D : Nat → Prop) (w : World) (A : Option Addr) (n : Nat) (xs : List α) : Prop :=
  n = xs.length ∧ n ≤ 140737488355328 ∧ ∀ k x, xs[k]? = some x → ∃ b o cs, A = some (ad b o) ∧ D b ∧ CellsAt w b (o + k * a.sz) cs ∧ a.rep D w cs x
section
variable {α : Type} {a : Ty α} {D : Nat → Prop} {w : World} {A : Option Addr} {n : Nat} {xs : List α}
theorem SlR.keep {w' : World} (hk : ∀ b, b < w.heap.size → D b → w'.heap[b]? = w.heap[b]?) (h : SlR a D w A n xs) : SlR a D w' A n xs :=
  ⟨h.1, h.2.1, fun k x hx => let ⟨b, o, cs, h1, h2, h3, h4⟩ := h.2.2 k x hx; ⟨b, o, cs, h1, h2, cellsAt_same (fun hb => hk b hb h2) h3, a.keep hk h4⟩⟩
theorem SlR.len (h : SlR a D w A n xs) : xs.length = n := h.1.symm
theorem SlR.le (h : SlR a D w A n xs) : n ≤ 140737488355328 := h.2.1
theorem SlR.at_ (h : SlR a D w A n xs) {k : Nat} (hk : k < n) :
    ∃ b o cs x, A = some (ad b o) ∧ xs[k]? = some x ∧ xs.drop k = x :: xs.drop (k + 1) ∧ D b ∧ CellsAt w b (o + k * a.sz) cs ∧ a.rep D w cs x := by
  obtain ⟨hl, _, h⟩ := h
  have hk' : k < xs.length := by omega
  have hx : xs[k]? = some xs[k] := List.getElem?_eq_getElem hk'
  obtain ⟨b, o, cs, h1, h2, h3, h4⟩ := h k _ hx
  exact ⟨b, o, cs, xs[k], h1, hx, List.drop_eq_getElem_cons hk', h2, h3, h4⟩
theorem SlR.nil : SlR a D w A 0 ([] : List α) := ⟨rfl, by omega, fun k x hx => by simp at hx⟩
end
/-- Every type of this file has a cell, so that a slice's element that is there lies in a block that is there. -/
theorem SlR.more {α : Type} {a : Ty α} {D D' : Nat → Prop} {w : World} {A : Option Addr} {n : Nat} {xs : List α} (hsz : 0 < a.sz) (hB : ∀ b, b < w.heap.size → D b → D' b) (h : SlR a D w A n xs) : SlR a D' w A n xs :=
  ⟨h.1, h.2.1, fun k x hx => by
    obtain ⟨b, o, cs, h1, h2, h3, h4⟩ := h.2.2 k x hx
    have hl := a.len h4
    have h0 : cs[0]? = some (cs[0]'(by omega)) := List.getElem?_eq_getElem (by omega)
    exact ⟨b, o, cs, h1, hB b (lt_of_cell (h3 0 _ h0)) h2, h3, a.more hB h4⟩⟩
def tSl {α : Type} (a : Ty α) (hsz : 0 < a.sz := by decide) : Ty (List α) where
  sz := 1
  rep D w cs xs := ∃ A n c, cs = [.slice A n c] ∧ SlR a D w A n xs ∧ n ≤ c
  len := fun ⟨_, _, _, h, _⟩ => by rw [h]; rfl
  keep hk := fun ⟨A, n, c, h, h1, h2⟩ => ⟨A, n, c, h, h1.keep hk, h2⟩
  more hB := fun ⟨A, n, c, h, h1, h2⟩ => ⟨A, n, c, h, h1.more hsz hB, h2⟩

section
variable {α : Type} {a : Ty α} {D : Nat → Prop} {w : World}
theorem SlR.kept {D' : Nat → Prop} {w' : World} {A : Option Addr} {n : Nat} {xs : List α} (h : SlR a D w A n xs) (k : Kept D' w w') (hd : ∀ b, b < w.heap.size → D b → D' b) : SlR a D w' A n xs :=
  h.keep fun b hb hD => k.blk b hb (hd b hb hD)
theorem SlR.ext {w' : World} {A : Option Addr} {n : Nat} {xs : List α} (h : SlR a D w A n xs) (k : Ext w w') : SlR a D w' A n xs := h.kept k fun _ _ _ => trivial
theorem Ty.kept (a : Ty α) {D' : Nat → Prop} {w' : World} {cs : List Value} {x : α} (h : a.rep D w cs x) (k : Kept D' w w') (hd : ∀ b, b < w.heap.size → D b → D' b) : a.rep D w' cs x :=
  a.keep (fun b hb hD => k.blk b hb (hd b hb hD)) h
theorem Ty.ext (a : Ty α) {w' : World} {cs : List Value} {x : α} (h : a.rep D w cs x) (k : Ext w w') : a.rep D w' cs x := a.kept h k fun _ _ _ => trivial

/-- Cells in a row that read as a list. -/
def FlatR (a : Ty α) (D : Nat → Prop) (w : World) : List α → List Value → Prop
  | [], cs => cs = []
  | x :: xs, cs => ∃ c r, cs = c ++ r ∧ a.rep D w c x ∧ FlatR a D w xs r
theorem FlatR.len : ∀ {xs : List α} {cs : List Value}, FlatR a D w xs cs → cs.length = xs.length * a.sz
  | [], _, h => by rw [h]; simp
  | x :: xs, _, ⟨c, r, h, h1, h2⟩ => by rw [h, List.length_append, a.len h1, h2.len, List.length_cons, Nat.add_mul]; omega
theorem FlatR.app : ∀ {xs ys : List α} {cs ds : List Value}, FlatR a D w xs cs → FlatR a D w ys ds → FlatR a D w (xs ++ ys) (cs ++ ds)
  | [], _, _, _, h, k => by rw [h]; exact k
  | x :: xs, _, _, _, ⟨c, r, h, h1, h2⟩, k => ⟨c, _, by rw [h, List.append_assoc], h1, h2.app k⟩
theorem FlatR.one {x : α} {c : List Value} (h : a.rep D w c x) : FlatR a D w [x] c := ⟨c, [], by simp, h, rfl⟩
theorem FlatR.keep {w' : World} (hk : ∀ b, b < w.heap.size → D b → w'.heap[b]? = w.heap[b]?) : ∀ {xs : List α} {cs : List Value}, FlatR a D w xs cs → FlatR a D w' xs cs
  | [], _, h => h
  | _ :: _, _, ⟨c, r, h, h1, h2⟩ => ⟨c, r, h, a.keep hk h1, h2.keep hk⟩
theorem FlatR.more {D' : Nat → Prop} (hk : ∀ b, b < w.heap.size → D b → D' b) : ∀ {xs : List α} {cs : List Value}, FlatR a D w xs cs → FlatR a D' w xs cs
  | [], _, h => h
  | _ :: _, _, ⟨c, r, h, h1, h2⟩ => ⟨c, r, h, a.more hk h1, h2.more hk⟩
theorem FlatR.at_ : ∀ {xs : List α} {cs : List Value}, FlatR a D w xs cs → ∀ {k : Nat} {x : α}, xs[k]? = some x → ∃ c, a.rep D w c x ∧ ∀ j v, c[j]? = some v → cs[k * a.sz + j]? = some v
  | [], _, _, _, _, hx => by simp at hx
  | y :: xs, _, ⟨c, r, h, h1, h2⟩, 0, x, hx => by
    simp at hx; subst hx
    refine ⟨c, h1, fun j v hv => ?_⟩
    subst h
    rw [Nat.zero_mul, Nat.zero_add, List.getElem?_append_left (List.getElem?_eq_some_iff.1 hv).1]; exact hv
  | y :: xs, _, ⟨c, r, h, h1, h2⟩, k + 1, x, hx => by
    obtain ⟨c', h3, h4⟩ := h2.at_ (k := k) (by simpa using hx)
    refine ⟨c', h3, fun j v hv => ?_⟩
    subst h
    have hl := a.len h1
    rw [List.getElem?_append_right (by rw [hl, Nat.add_mul]; omega), hl]
    have := h4 j v hv
    rwa [show (k + 1) * a.sz + j - a.sz = k * a.sz + j from by rw [Nat.add_mul]; omega]
theorem flat_ints : ∀ {xs : List Int}, (∀ x ∈ xs, I64 x) → FlatR tInt D w xs (xs.map (.int .i64))
  | [], _ => rfl
  | x :: xs, h => ⟨[.int .i64 x], xs.map (.int .i64), rfl, ⟨rfl, h x List.mem_cons_self⟩, flat_ints fun y hy => h y (List.mem_cons_of_mem _ hy)⟩
/-- Cells in a row, under a slice's head. -/
theorem SlR.of_cells {b o n : Nat} {xs : List α} {cs : List Value} (hn : n = xs.length) (hle : n ≤ 140737488355328) (hD : D b) (hc : CellsAt w b o cs) (hf : FlatR a D w xs cs) : SlR a D w (some (ad b o)) n xs :=
  ⟨hn, hle, fun k x hx => by
    obtain ⟨c, h1, h2⟩ := hf.at_ hx
    exact ⟨b, o, c, rfl, hD, fun j v hv => by have := hc _ _ (h2 j v hv); rwa [← Nat.add_assoc] at this, h1⟩⟩
/-- .. and back: the cells of a slice. -/
theorem SlR.cells {b o n : Nat} {xs : List α} (h : SlR a D w (some (ad b o)) n xs) : ∃ cs, FlatR a D w xs cs ∧ CellsAt w b o cs := by
  obtain ⟨hn, hle, h⟩ := h
  clear hn hle n
  induction xs generalizing o with
  | nil => exact ⟨[], rfl, fun j v hv => by simp at hv⟩
  | cons x xs ih =>
    obtain ⟨b', o', c, e, _, hc, hr⟩ := h 0 x rfl
    simp only [Option.some.injEq, Addr.mk.injEq] at e
    obtain ⟨rfl, rfl, _⟩ := e
    obtain ⟨r, hf, hcr⟩ := ih (o := o + a.sz) (fun k y hy => by
      obtain ⟨b2, o2, c2, e2, hD2, hc2, hr2⟩ := h (k + 1) y hy
      simp only [Option.some.injEq, Addr.mk.injEq] at e2
      obtain ⟨rfl, rfl, _⟩ := e2
      exact ⟨b, o + a.sz, c2, rfl, hD2, by rwa [show o + (k + 1) * a.sz = o + a.sz + k * a.sz from by rw [Nat.add_mul]; omega] at hc2, hr2⟩)
    refine ⟨c ++ r, ⟨c, r, rfl, hr, hf⟩, fun j v hv => ?_⟩
    have hl := a.len hr
    by_cases hj : j < c.length
    · rw [List.getElem?_append_left hj] at hv
      have := hc j v hv; simpa using this
    · rw [List.getElem?_append_right (by omega)] at hv
      have := hcr _ v hv
      rwa [show o + a.sz + (j - c.length) = o + j from by omega] at this
end

theorem drop_end {α : Type} {xs : List α} {k : Nat} (h : xs.length ≤ k) : xs.drop k = [] := List.drop_eq_nil_of_le h
end Go.Proofs.YtpmmhcgghldaaaaDoor
