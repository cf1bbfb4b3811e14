/- Search trees as data. -/
import Derived.Test.YtpmmhcgghldaaaaDoorVj
namespace Go.Proofs.YtpmmhcgghldaaaaDoor
open Go Go.RowKit

inductive Tr where
  | mk (probe : Int) (rest : List Int) (kids : List Tr)
def Tr.probe : Tr → Int | .mk p _ _ => p
def Tr.rest : Tr → List Int | .mk _ r _ => r
def Tr.kids : Tr → List Tr | .mk _ _ k => k
theorem Tr.eta (t : Tr) : Tr.mk t.probe t.rest t.kids = t := by cases t; rfl

/-- A tree nested less than d deep, as it lies in three cells. -/
def tTr' : Nat → {a : Ty Tr // a.sz = 3}
  | 0 => ⟨{ sz := 3, rep := fun _ _ _ _ => False, len := fun h => h.elim, keep := fun _ h => h, more := fun _ h => h }, rfl⟩
  | d + 1 => ⟨tMap (tPair tInt (tPair (tSl tInt) (tSl (tTr' d).1 (by rw [(tTr' d).2]; decide)))) (fun t => (t.probe, t.rest, t.kids)), rfl⟩
def tTr (d : Nat) : Ty Tr := (tTr' d).1
theorem tTr_sz (d : Nat) : (tTr d).sz = 3 := (tTr' d).2
theorem tr_open {d : Nat} {D : Nat → Prop} {w : World} {cs : List Value} {t : Tr} (h : (tTr (d + 1)).rep D w cs t) :
    ∃ A n c A' n' c', cs = [.int .i64 t.probe, .slice A n c, .slice A' n' c'] ∧ I64 t.probe ∧ SlR tInt D w A n t.rest ∧ n ≤ c ∧ SlR (tTr d) D w A' n' t.kids ∧ n' ≤ c' := by
  obtain ⟨c1, c2, rfl, ⟨rfl, h1⟩, c3, c4, rfl, ⟨A, n, c, rfl, h2, h3⟩, A', n', c', rfl, h4, h5⟩ := h
  exact ⟨A, n, c, A', n', c', rfl, h1, h2, h3, h4, h5⟩
theorem tr_mk {d : Nat} {D : Nat → Prop} {w : World} {t : Tr} {A A' : Option Addr} {n c n' c' : Nat} (h1 : I64 t.probe) (h2 : SlR tInt D w A n t.rest) (h3 : n ≤ c) (h4 : SlR (tTr d) D w A' n' t.kids) (h5 : n' ≤ c') :
    (tTr (d + 1)).rep D w [.int .i64 t.probe, .slice A n c, .slice A' n' c'] t :=
  ⟨[.int .i64 t.probe], [.slice A n c, .slice A' n' c'], rfl, ⟨rfl, h1⟩, [.slice A n c], [.slice A' n' c'], rfl, ⟨A, n, c, rfl, h2, h3⟩, A', n', c', rfl, h4, h5⟩
theorem tr_pos {d : Nat} {D : Nat → Prop} {w : World} {cs : List Value} {t : Tr} (h : (tTr d).rep D w cs t) : ∃ e, d = e + 1 := by
  cases d with
  | zero => exact h.elim
  | succ d => exact ⟨d, rfl⟩
theorem tr_leaf {d : Nat} {D : Nat → Prop} {w : World} : (tTr (d + 1)).rep D w [.int .i64 0, .slice none 0 0, .slice none 0 0] (.mk 0 [] []) :=
  tr_mk (t := .mk 0 [] []) ⟨by decide, by decide⟩ .nil (Nat.le_refl _) .nil (Nat.le_refl _)
/-- A deeper bound serves too. -/
theorem tr_up : ∀ {d : Nat} {D : Nat → Prop} {w : World} {cs : List Value} {t : Tr}, (tTr d).rep D w cs t → (tTr (d + 1)).rep D w cs t
  | 0, _, _, _, _, h => h.elim
  | d + 1, D, w, cs, t, h => by
    obtain ⟨A, n, c, A', n', c', rfl, h1, h2, h3, h4, h5⟩ := tr_open h
    refine tr_mk h1 h2 h3 ⟨h4.1, h4.2.1, fun k x hx => ?_⟩ h5
    obtain ⟨b, o, cs, e1, e2, e3, e4⟩ := h4.2.2 k x hx
    refine ⟨b, o, cs, e1, e2, ?_, tr_up e4⟩
    rw [tTr_sz] at e3 ⊢; exact e3
end Go.Proofs.YtpmmhcgghldaaaaDoor
