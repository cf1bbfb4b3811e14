/- Parts of the proof: Rq Rs R2 R3 R4 R5 Sp Vp Ab Za Zp. -/
import Derived.Test.YtcpdhclnmjfldaaGreatDoorM10
import Derived.Test.YtcpdhclnmjfldaaGreatDoorM4
import Derived.Test.YtcpdhclnmjfldaaGreatDoorM8
import Derived.Below
import Derived.Carry
import Derived.ChangeSame
import Derived.Test.YtcpdhclnmjfldaaGreatDoorM5
import Derived.ProofKit
import Derived.OpenShut
import Derived.LaidMore
import Derived.Deep.DeepHandedRow
import Derived.Test.YtcpdhclnmjfldaaGreatDoorRows
import Derived.Stop.LaidErr
import Derived.Test.YtcpdhclnmjfldaaGreatDoorCards
import Derived.Test.YtcpdhclnmjfldaaGreatDoorTie
import Derived.Lib.LaidTab

/- The program's way is the reference's: trees, their worth, where they lead to. -/
namespace Go.Proofs.YtcpdhclnmjfldaaGreatDoor

theorem firstFrom_none {α : Type} {f : α → Bool} : ∀ {p : List α} {k : Nat}, (∀ x ∈ p, f x = false) → firstFrom f k p = none
  | [], _, _ => rfl
  | x :: r, k, h => by
    unfold firstFrom
    rw [h x List.mem_cons_self]
    exact firstFrom_none fun y hy => h y (List.mem_cons_of_mem _ hy)
theorem firstFrom_some {α : Type} {f : α → Bool} : ∀ {p : List α} {k j : Nat} {x : α}, p[j]? = some x → f x = true → (∀ i y, i < j → p[i]? = some y → f y = false) → firstFrom f k p = some (k + j, x)
  | [], _, _, _, h, _, _ => by simp at h
  | y :: r, k, 0, x, h, hx, _ => by
    simp at h; subst h
    unfold firstFrom
    rw [hx]; rfl
  | y :: r, k, j + 1, x, h, hx, hn => by
    unfold firstFrom
    rw [hn 0 y (by omega) rfl]
    have := firstFrom_some (k := k + 1) (j := j) (x := x) (by simpa using h) hx (fun i z hi hz => hn (i + 1) z (by omega) (by simpa using hz))
    rw [show k + (j + 1) = k + 1 + j from by omega]
    exact this
theorem mem_ext {s n m : Nat} (hs : s < 2 ^ n) (hnm : n ≤ m) : mem s m = mem s n := by
  induction hnm with
  | refl => rfl
  | step h ih =>
    rename_i m
    have h : n ≤ m := h
    have hb : s.testBit m = false := Nat.testBit_lt_two_pow (Nat.lt_of_lt_of_le hs (Nat.pow_le_pow_right (by omega) h))
    rw [mem_succ, ih, hb]; simp
theorem mem_nil {s n : Nat} (hs : s < 2 ^ n) : (mem s n).length = 0 ↔ s = 0 := by
  constructor
  · intro h; rw [← bitsL_mem hs, bitsL_eq_zero]; exact List.eq_nil_of_length_eq_zero h
  · intro h; rw [List.length_eq_zero_iff, ← bitsL_eq_zero, bitsL_mem hs]; exact h
theorem mem_pos {s n : Nat} (hs : s < 2 ^ n) : 0 < (mem s n).length ↔ s ≠ 0 := by
  have := mem_nil hs; omega

/-- What stands for all that is said of hypotheses and measurements here. -/
structure LP (l : List (List Int)) (p : List Pr) : Prop where
  N : l.length ≤ 12
  m : p.length ≤ 12
  hl : ∀ y ∈ l, setOk y = true
  hp : ∀ x ∈ p, setOk x.2 = true
  ok : prOk p
theorem hyps_all : ∀ {l : List (List Int)} {pre : List (List Int)}, hypsFrom pre l = true → ∀ y ∈ l, setOk y = true
  | [], _, _, _, h => by cases h
  | x :: r, pre, h, y, hy => by
    unfold hypsFrom at h
    simp only [Bool.and_eq_true] at h
    rcases List.mem_cons.1 hy with rfl | hy
    · exact h.1.1
    · exact hyps_all h.2 y hy
theorem LP.of {l : List (List Int)} {p : List Pr} (h : checkL l p = 0) : LP l p := by
  obtain ⟨h1, h2, h3, h4⟩ := checkL_ok h
  refine ⟨h1, h2, hyps_all h3, fun x hx => ?_, prOk_of h4⟩
  have := List.all_eq_true.1 h4 x hx
  unfold probeOk at this
  simp at this
  exact this.2

section
variable {l : List (List Int)} {p : List Pr}
/-- A measurement's mask. -/
abbrev mk_ (l : List (List Int)) (x : Pr) : Nat := shownM (l.map mask) (mask x.2)
abbrev psx (l : List (List Int)) (x : Pr) : Int × Nat := (x.1, mk_ l x)
theorem ps_get (j : Nat) : (pdOf l p).ps[j]? = (p[j]?).map (psx l) := by rw [psOfEq, List.getElem?_map]
theorem ps_len : (pdOf l p).ps.length = p.length := by rw [psOfEq, List.length_map]
theorem and_sub_lt {m S n : Nat} (hS : S < 2 ^ n) : m &&& S < 2 ^ n ∧ S - (m &&& S) < 2 ^ n := by
  have : m &&& S ≤ S := Nat.and_le_right
  omega
theorem parts_lenP (h : LP l p) {S : Nat} (hS : S < 2 ^ l.length) {x : Pr} (hx : x ∈ p) : (mem (mk_ l x &&& S) l.length).length + (mem (S - (mk_ l x &&& S)) l.length).length = (mem S l.length).length := by
  have hsp := part_split (l := l) (x := x) (list := mem S l.length)
  rwa [part_true h.hl (h.hp x hx), part_false hS h.hl (h.hp x hx)] at hsp
theorem any_congr' {α : Type} {f g : α → Bool} : ∀ {p : List α}, (∀ x ∈ p, f x = g x) → p.any f = p.any g
  | [], _ => rfl
  | x :: r, h => by rw [List.any_cons, List.any_cons, h x List.mem_cons_self, any_congr' fun y hy => h y (List.mem_cons_of_mem _ hy)]
theorem rgood_eq (h : LP l p) {S : Nat} (hS : S < 2 ^ l.length) {x : Pr} (hx : setOk x.2 = true) :
    rgood l (fun k => (rtab l p (2 ^ l.length)).getD k 0) (mem S l.length) x = (psep (mk_ l x) S && decide (pval (B (pdOf l p).ps) S (psx l x) = (B (pdOf l p).ps S).1)) := by
  obtain ⟨h1, h2⟩ := and_sub_lt (m := mk_ l x) hS
  unfold rgood
  rw [part_false hS h.hl hx, part_true h.hl hx, bitsL_mem h1, bitsL_mem h2, bitsL_mem hS]
  simp only [tab_eq h.hl h.hp _ (Nat.le_refl _) _ h1, tab_eq h.hl h.hp _ (Nat.le_refl _) _ h2, tab_eq h.hl h.hp _ (Nat.le_refl _) _ hS, mem_pos h1, mem_pos h2]
  have hle : mk_ l x &&& S ≤ S := Nat.and_le_right
  unfold psep pval
  rw [Bool.eq_iff_iff, decide_eq_true_iff, Bool.and_eq_true, decide_eq_true_iff, Int.max_comm]
  simp only [Bool.and_eq_true, Bool.not_eq_true', beq_eq_false_iff_ne, ne_eq]
  constructor
  · rintro ⟨a, b, c⟩; exact ⟨⟨b, fun e => a (by omega)⟩, c⟩
  · rintro ⟨⟨a, b⟩, c⟩; exact ⟨fun e => b (by omega), a, c⟩
/-- The best choice, spelled out. -/
theorem B_cases (l : List (List Int)) (p : List Pr) (S : Nat) :
    (B (pdOf l p).ps S = (0, -1) ∧ ∀ x ∈ p, psep (mk_ l x) S = false) ∨
    (∃ (j : Nat) (x : Pr), p[j]? = some x ∧ B (pdOf l p).ps S = (pval (B (pdOf l p).ps) S (psx l x), (j : Int)) ∧ psep (mk_ l x) S = true ∧
      (∀ (k : Nat) (y : Pr), k < j → p[k]? = some y → psep (mk_ l y) S = true → pval (B (pdOf l p).ps) S (psx l x) < pval (B (pdOf l p).ps) S (psx l y)) ∧
      (∀ y ∈ p, psep (mk_ l y) S = true → pval (B (pdOf l p).ps) S (psx l x) ≤ pval (B (pdOf l p).ps) S (psx l y))) := by
  rcases pfold_first (rec := B (pdOf l p).ps) (S := S) (pdOf l p).ps 0 (0, -1) (.inl (by decide)) with ⟨h1, h2, _⟩ | ⟨j, x, hj, h1, h2, _, h4, h5⟩
  · refine .inl ⟨by rw [B_eq]; exact h1, fun x hx => ?_⟩
    obtain ⟨k, hk⟩ := List.getElem?_of_mem hx
    exact h2 (by decide) (psx l x) (List.mem_of_getElem? (by rw [ps_get, hk]; rfl : (pdOf l p).ps[k]? = some (psx l x)))
  · rw [ps_get] at hj
    cases hx : p[j]? with
    | none => rw [hx] at hj; cases hj
    | some x0 =>
      rw [hx] at hj
      obtain rfl : psx l x0 = x := Option.some.inj hj
      refine .inr ⟨j, x0, hx, by rw [B_eq, h1, Nat.zero_add], h2, fun k y hk hy hs => h4 k (psx l y) hk (by rw [ps_get, hy]; rfl) hs, fun y hy hs => ?_⟩
      obtain ⟨k, hk⟩ := List.getElem?_of_mem hy
      exact h5 k (psx l y) (by rw [ps_get, hk]; rfl) hs
theorem mAt_j {j : Nat} {x : Pr} (h : p[j]? = some x) : mAt (pdOf l p).ps (j : Int) = mk_ l x ∧ cAt (pdOf l p).ps (j : Int) = x.1 := by
  unfold mAt cAt
  rw [Int.toNat_natCast, List.getD_eq_getElem?_getD, ps_get, h]
  exact ⟨rfl, rfl⟩

theorem tree_eq (h : LP l p) : ∀ (f f' S : Nat), S < 2 ^ l.length → S < f → (mem S l.length).length < f' → ptree (pdOf l p).ps f S = rtreeF l p (fun k => (rtab l p (2 ^ l.length)).getD k 0) f' (mem S l.length)
  | 0, _, _, _, h0, _ => absurd h0 (Nat.not_lt_zero _)
  | f + 1, 0, _, _, _, h0 => absurd h0 (Nat.not_lt_zero _)
  | f + 1, f' + 1, S, hS, h1, h2 => by
    have hg : ∀ x ∈ p, _ := fun x hx => rgood_eq h hS (h.hp x hx)
    rcases B_cases l p S with ⟨hB, hn⟩ | ⟨j, x, hj, hB, hs, hlt, hle⟩
    · unfold ptree rtreeF
      rw [hB, if_pos (by decide), firstFrom_none (fun x hx => by rw [hg x hx, hn x hx]; rfl), mem_ext hS h.N]
      rfl
    · have hx := List.mem_of_getElem? hj
      have hff : firstFrom (rgood l (fun k => (rtab l p (2 ^ l.length)).getD k 0) (mem S l.length)) 0 p = some (0 + j, x) :=
        firstFrom_some hj (by rw [hg x hx, hs, hB]; simp) (fun i y hi hy => by
          rw [hg y (List.mem_of_getElem? hy), hB]
          cases hsy : psep (mk_ l y) S with
          | false => rfl
          | true =>
            have := hlt i y hi hy hsy
            rw [decide_eq_false (by show ¬ _ = pval _ S _; omega)]; rfl)
      obtain ⟨p1, p2, p3⟩ := psep_lt hs
      obtain ⟨q1, q2⟩ := and_sub_lt (m := mk_ l x) hS
      have hsp := parts_lenP h hS hx
      have n1 := (mem_pos q1).2 (by omega)
      have n2 := (mem_pos q2).2 (by omega)
      unfold ptree rtreeF
      rw [hff, hB, if_neg (by show ¬ (j : Int) < 0; omega)]
      simp only [Nat.zero_add]
      rw [(mAt_j hj).1, part_true h.hl (h.hp x hx), part_false hS h.hl (h.hp x hx), tree_eq h f f' _ q1 (by omega) (by omega), tree_eq h f f' _ q2 (by omega) (by omega)]

theorem any_psep (h : LP l p) {S : Nat} (hS : S < 2 ^ l.length) : ((pdOf l p).ps.any fun x => psep x.2 S) = (p.any fun x => sepL l x (mem S l.length)) := by
  rw [psOfEq, List.any_map]
  refine any_congr' fun x hx => ?_
  obtain ⟨q1, q2⟩ := and_sub_lt (m := mk_ l x) hS
  have hsp := parts_lenP h hS hx
  have n1 := mem_pos q1
  have n2 := mem_pos q2
  have hle : mk_ l x &&& S ≤ S := Nat.and_le_right
  show psep (mk_ l x) S = sepL l x (mem S l.length)
  unfold sepL psep
  rw [show partL l x (mem S l.length) true = mem (mk_ l x &&& S) l.length from part_true h.hl (h.hp x hx), Bool.eq_iff_iff, decide_eq_true_iff]
  simp only [Bool.and_eq_true, Bool.not_eq_true', beq_eq_false_iff_ne, ne_eq]
  constructor
  · rintro ⟨a, b⟩; exact ⟨n1.2 a, by have := n2.2 (by omega); omega⟩
  · rintro ⟨a, b⟩; exact ⟨n1.1 a, fun e => by have := n2.1 (by omega); omega⟩
theorem prAt_get {i : Int} (h0 : 0 ≤ i) (h1 : i < p.length) : p[i.toNat]? = some (prAt p i) := by
  unfold prAt
  rw [List.getD_eq_getElem?_getD, List.getElem?_eq_getElem (by omega)]; rfl
theorem worth_eq (h : LP l p) : ∀ (d : Nat) (t : Tr) (S : Nat), S < 2 ^ l.length → pworth (pdOf l p).ps d t S = rworthF l p d t (mem S l.length)
  | 0, _, _, _ => rfl
  | d + 1, t, S, hS => by
    unfold pworth rworthF
    rw [any_psep h hS, mem_ext hS h.N, ps_len]
    by_cases hk : t.kids = []
    · rw [if_pos hk, if_pos hk]
    rw [if_neg hk, if_neg hk]
    by_cases h1 : t.rest ≠ [] ∨ t.kids.length ≠ 2 ∨ t.probe < 0 ∨ t.probe ≥ p.length
    · rw [if_pos h1, if_pos h1]
    rw [if_neg h1, if_neg h1]
    have hj := prAt_get (p := p) (i := t.probe) (by omega) (by omega)
    have hx := List.mem_of_getElem? hj
    obtain ⟨e1, e2⟩ := mAt_j (l := l) hj
    rw [show ((t.probe.toNat : Nat) : Int) = t.probe from by omega] at e1 e2
    obtain ⟨q1, q2⟩ := and_sub_lt (m := mk_ l (prAt p t.probe)) hS
    have hle : mk_ l (prAt p t.probe) &&& S ≤ S := Nat.and_le_right
    rw [e1, e2, part_true h.hl (h.hp _ hx), part_false hS h.hl (h.hp _ hx), worth_eq h d _ _ q1, worth_eq h d _ _ q2]
    have c : (mk_ l (prAt p t.probe) &&& S = 0 ∨ mk_ l (prAt p t.probe) &&& S = S) ↔ (mem (S - (mk_ l (prAt p t.probe) &&& S)) l.length = [] ∨ mem (mk_ l (prAt p t.probe) &&& S) l.length = []) := by
      rw [← List.length_eq_zero_iff, ← List.length_eq_zero_iff, mem_nil q1, mem_nil q2]
      omega
    by_cases h2 : mk_ l (prAt p t.probe) &&& S = 0 ∨ mk_ l (prAt p t.probe) &&& S = S
    · rw [if_pos h2, if_pos (c.1 h2)]
    · rw [if_neg h2, if_neg (fun e => h2 (c.2 e))]
theorem follow_eq (h : LP l p) {truth : List Int} (ht : setOk truth = true) : ∀ (d : Nat) (t : Tr) (S : Nat) (c : Int), 0 ≤ pworth (pdOf l p).ps d t S → pfollowF (pdOf l p) (mask truth) d t c = followF p truth d t c
  | 0, _, _, _, _ => rfl
  | d + 1, t, S, c, hw => by
    unfold pfollowF followF
    by_cases hk : t.kids = []
    · rw [if_pos hk, if_pos hk]
    rw [if_neg hk, if_neg hk]
    obtain ⟨_, _, h0, h1, _, _, w1, w2, _⟩ := pworth_inv hw hk
    rw [ps_len] at h1
    have hj := prAt_get (p := p) (i := t.probe) (by omega) (by omega)
    have hx := List.mem_of_getElem? hj
    obtain ⟨e1, e2⟩ := mAt_j (l := l) hj
    rw [show ((t.probe.toNat : Nat) : Int) = t.probe from by omega] at e1 e2
    have e3 : sAt (pdOf l p) t.probe = mask (prAt p t.probe).2 := by
      unfold sAt pdOf
      rw [List.getD_eq_getElem?_getD]
      simp only [List.getElem?_map, hj]; rfl
    rw [e2, e3]
    have hsm := shows_mask (h.hp _ hx) ht
    by_cases hs : showsL (prAt p t.probe).2 truth = true
    · rw [if_pos (hsm.1 hs), if_pos hs]
      exact follow_eq h ht d _ _ _ w2
    · rw [if_neg (fun e => hs (hsm.2 e)), if_neg hs]
      exact follow_eq h ht d _ _ _ w1

theorem full_lt2 (N : Nat) : 2 ^ N - 1 < 2 ^ N := by have := Nat.two_pow_pos N; omega
theorem best_eq (l : List (List Int)) (p : List Pr) : pbestL l p = rbestL l p := by
  unfold pbestL rbestL
  by_cases hc : checkL l p ≠ 0
  · rw [if_pos hc, if_pos hc]
  · rw [if_neg hc, if_neg hc]
    have h : LP l p := .of (by omega)
    have hS := full_lt2 l.length
    rw [tree_eq h (2 ^ l.length) (l.length + 1) _ hS hS (by have := mem_len (2 ^ l.length - 1) l.length; omega), tab_eq h.hl h.hp _ (Nat.le_refl _) _ hS]
    rfl
theorem pworthL_eq (l : List (List Int)) (p : List Pr) (f : Nat) (t : Tr) : pworthL l p f t = rworthL l p f t := by
  unfold pworthL rworthL
  by_cases hc : checkL l p ≠ 0
  · rw [if_pos hc, if_pos hc]
  · rw [if_neg hc, if_neg hc]
    have h : LP l p := .of (by omega)
    rw [worth_eq h f t _ (full_lt2 l.length)]
    rfl
theorem pfollowL_eq (l : List (List Int)) (p : List Pr) (f : Nat) (t : Tr) (truth : List Int) : pfollowL l p f t truth = rfollowL l p f t truth := by
  unfold pfollowL rfollowL
  rw [← pworthL_eq]
  unfold pworthL
  by_cases hc : checkL l p ≠ 0
  · rw [if_pos hc, if_pos hc, if_pos hc]
  · rw [if_neg hc, if_neg hc]
    have h : LP l p := .of (by omega)
    by_cases hw : pworth (pdOf l p).ps f t (2 ^ l.length - 1) < 0
    · simp only [if_pos hw]
      rw [if_pos (Or.inl hw), if_neg (by simp), if_pos (Or.inl trivial)]
    · simp only [if_neg hw]
      by_cases hs : setOk truth = false
      · rw [if_pos (Or.inr hs), if_neg (by simp), if_pos (Or.inr hs)]
      · rw [if_neg (fun e => e.elim hw hs), if_neg (by simp), if_neg (fun e => e.elim (fun e => by cases e) hs), follow_eq h (by simpa using hs) f t (2 ^ l.length - 1) 0 (by omega)]
theorem pnextL_eq (l : List (List Int)) (p : List Pr) : pnextL l p = rnextL l p := by
  unfold pnextL rnextL
  rw [← best_eq]
  unfold pbestL
  by_cases hc : checkL l p ≠ 0
  · rw [if_pos hc, if_pos hc, if_pos (.inl hc)]
  · rw [if_neg hc, if_neg hc]
    have h0 : 0 < 2 ^ l.length := Nat.two_pow_pos _
    obtain ⟨q, hq⟩ : ∃ q, 2 ^ l.length = q + 1 := ⟨2 ^ l.length - 1, by omega⟩
    rw [hq]
    show _ = if (0 : Int) ≠ 0 ∨ (ptree (pdOf l p).ps (q + 1) (q + 1 - 1)).kids = [] then _ else _
    unfold ptree
    by_cases hB : (B (pdOf l p).ps (q + 1 - 1)).2 < 0
    · rw [if_neg (by omega), if_pos hB, if_pos (.inr rfl)]
    · rw [if_pos (by omega), if_neg hB, if_neg (by rintro (e | e); exact e rfl; cases e)]
      rfl
end
end Go.Proofs.YtcpdhclnmjfldaaGreatDoor

/- The laws' plain part: which costs can be reached; nothing lesser. -/
namespace Go.Proofs.YtcpdhclnmjfldaaGreatDoor

/-- With these measurements these hypotheses (in a list) can be told apart as far as it goes, at a worst cost of at most c. -/
inductive Can (p : List Pr) : List (List Int) → Int → Prop where
  | leaf {H : List (List Int)} {c : Int} (h : ∀ x ∈ p, ∀ s ∈ H, ∀ t ∈ H, showsL x.2 s = showsL x.2 t) (hc : 0 ≤ c) : Can p H c
  | node {H : List (List Int)} {c d : Int} (x : Pr) (hx : x ∈ p) (h0 : H.filter (fun s => showsL x.2 s == false) ≠ []) (h1 : H.filter (fun s => showsL x.2 s == true) ≠ [])
      (c0 : Can p (H.filter (fun s => showsL x.2 s == false)) d) (c1 : Can p (H.filter (fun s => showsL x.2 s == true)) d) (hc : x.1 + d ≤ c) : Can p H c
theorem Can.le {p : List Pr} {H : List (List Int)} {c c' : Int} (h : Can p H c) (hc : c ≤ c') : Can p H c' := by
  cases h with
  | leaf h h0 => exact .leaf h (by omega)
  | node x hx h0 h1 c0 c1 hd => exact .node x hx h0 h1 c0 c1 (by omega)
/-- Fewer hypotheses. -/
theorem Can.sub {p : List Pr} (hok : prOk p) {H : List (List Int)} {c : Int} (h : Can p H c) : ∀ {H' : List (List Int)}, H'.Sublist H → Can p H' c := by
  induction h with
  | leaf h hc => exact fun hs => .leaf (fun x hx s h1 t h2 => h x hx s (hs.subset h1) t (hs.subset h2)) hc
  | node x hx h0 h1 c0 c1 hd ih0 ih1 =>
    rename_i H c d
    intro H' hs
    have x1 := (hok x hx).1
    by_cases e0 : H'.filter (fun s => showsL x.2 s == false) = []
    · have : H'.filter (fun s => showsL x.2 s == true) = H' := by
        rw [List.filter_eq_self]
        intro s hs'
        have := (List.filter_eq_nil_iff.1 e0) s hs'
        cases hb : showsL x.2 s <;> simp_all
      exact this ▸ (ih1 (hs.filter _)).le (by omega)
    by_cases e1 : H'.filter (fun s => showsL x.2 s == true) = []
    · have : H'.filter (fun s => showsL x.2 s == false) = H' := by
        rw [List.filter_eq_self]
        intro s hs'
        have := (List.filter_eq_nil_iff.1 e1) s hs'
        cases hb : showsL x.2 s <;> simp_all
      exact this ▸ (ih0 (hs.filter _)).le (by omega)
    exact .node x hx e0 e1 (ih0 (hs.filter _)) (ih1 (hs.filter _)) hd
/-- Cheaper measurements. -/
theorem Can.cheap {p q : List Pr} (h1 : ∀ x ∈ p, ∃ y ∈ q, y.2 = x.2 ∧ y.1 ≤ x.1) (h2 : ∀ y ∈ q, ∃ x ∈ p, y.2 = x.2) {H : List (List Int)} {c : Int} (h : Can p H c) : Can q H c := by
  induction h with
  | leaf h hc =>
    refine .leaf (fun y hy s hs t ht => ?_) hc
    obtain ⟨x, hx, e⟩ := h2 y hy
    rw [e]; exact h x hx s hs t ht
  | node x hx h0 h1' c0 c1 hd ih0 ih1 =>
    obtain ⟨y, hy, e, hle⟩ := h1 x hx
    rw [← e] at h0 h1' ih0 ih1
    exact .node y hy h0 h1' ih0 ih1 (by omega)

section
variable {l : List (List Int)} {p : List Pr}
/-- The hypotheses of a list of indices. -/
def hyp (l : List (List Int)) (i : Nat) : List Int := l.getD i []
theorem part_map (x : Pr) (list : List Nat) (b : Bool) : (partL l x list b).map (hyp l) = (list.map (hyp l)).filter (fun s => showsL x.2 s == b) := by
  unfold partL
  rw [List.filter_map]
  rfl
theorem psep_false (h : LP l p) {S : Nat} (hS : S < 2 ^ l.length) {x : Pr} (hx : x ∈ p) : psep (mk_ l x) S = false ↔ ∀ i ∈ mem S l.length, ∀ j ∈ mem S l.length, shw l x i = shw l x j := by
  obtain ⟨q1, q2⟩ := and_sub_lt (m := mk_ l x) hS
  have e1 : partL l x (mem S l.length) true = mem (mk_ l x &&& S) l.length := part_true h.hl (h.hp x hx)
  have e2 : partL l x (mem S l.length) false = mem (S - (mk_ l x &&& S)) l.length := part_false hS h.hl (h.hp x hx)
  have n1 := mem_nil q1
  have n2 := mem_nil q2
  have hle : mk_ l x &&& S ≤ S := Nat.and_le_right
  rw [← e1, List.length_eq_zero_iff] at n1
  rw [← e2, List.length_eq_zero_iff] at n2
  have key : psep (mk_ l x) S = false ↔ (partL l x (mem S l.length) true = [] ∨ partL l x (mem S l.length) false = []) := by
    rw [n1, n2]
    unfold psep
    by_cases a : mk_ l x &&& S = 0
    · simp [a]
    · by_cases b : mk_ l x &&& S = S
      · simp [b]
      · have : ¬ (S - (mk_ l x &&& S) = 0) := by omega
        simp [a, b, this]
  rw [key]
  unfold partL
  rw [List.filter_eq_nil_iff, List.filter_eq_nil_iff]
  constructor
  · rintro (h' | h') i hi j hj
    · have a := h' i hi; have b := h' j hj; simp at a b; rw [a, b]
    · have a := h' i hi; have b := h' j hj; simp at a b; rw [a, b]
  · intro h'
    by_cases a : ∃ i ∈ mem S l.length, shw l x i = true
    · obtain ⟨i, hi, ht⟩ := a
      right
      intro j hj
      rw [← h' i hi j hj, ht]; decide
    · left
      intro i hi e
      exact a ⟨i, hi, by simpa using e⟩
theorem pval_psx {rec : Nat → Int × Int} {S : Nat} {x : Pr} : pval rec S (psx l x) = x.1 + max (rec (mk_ l x &&& S)).1 (rec (S - (mk_ l x &&& S))).1 := rfl
/-- No tree is cheaper than the program's best. -/
theorem best_le (h : LP l p) {H : List (List Int)} {c : Int} (hc : Can p H c) : ∀ S, S < 2 ^ l.length → (mem S l.length).map (hyp l) = H → (B (pdOf l p).ps S).1 ≤ c := by
  induction hc with
  | leaf hs h0 =>
    rename_i H c
    intro S hS e
    subst e
    rcases B_cases l p S with ⟨hB, _⟩ | ⟨j, x, hj, _, hp, _, _⟩
    · rw [hB]; exact h0
    · have hx := List.mem_of_getElem? hj
      have : psep (mk_ l x) S = false := (psep_false h hS hx).2 fun i hi j hj => hs x hx _ (List.mem_map_of_mem hi) _ (List.mem_map_of_mem hj)
      rw [this] at hp; cases hp
  | node x hx h0 h1 c0 c1 hd ih0 ih1 =>
    rename_i H c d
    intro S hS e
    subst e
    obtain ⟨q1, q2⟩ := and_sub_lt (m := mk_ l x) hS
    have e1 : partL l x (mem S l.length) true = mem (mk_ l x &&& S) l.length := part_true h.hl (h.hp x hx)
    have e2 : partL l x (mem S l.length) false = mem (S - (mk_ l x &&& S)) l.length := part_false hS h.hl (h.hp x hx)
    have i0 := ih0 _ q2 (by rw [← e2, part_map])
    have i1 := ih1 _ q1 (by rw [← e1, part_map])
    replace h0 := (mem_pos q2).1 (List.length_pos_iff.2 fun e => h0 (by rw [← part_map, e2, e]; rfl))
    replace h1 := (mem_pos q1).1 (List.length_pos_iff.2 fun e => h1 (by rw [← part_map, e1, e]; rfl))
    have hp : psep (mk_ l x) S = true := by
      unfold psep
      have : ¬ (mk_ l x &&& S = S) := by omega
      simp [h1, this]
    rcases B_cases l p S with ⟨_, hn⟩ | ⟨j, y, _, hB, _, _, hle⟩
    · rw [hn x hx] at hp; cases hp
    · have := hle x hx hp
      rw [hB]
      rw [pval_psx (l := l) (x := x)] at this
      show pval _ S (psx l y) ≤ c
      omega
/-- The program's best tree reaches its cost. -/
theorem ptree_worth (h : LP l p) : ∀ (f S : Nat), S < 2 ^ l.length → S < f → pworth (pdOf l p).ps f (ptree (pdOf l p).ps f S) S = (B (pdOf l p).ps S).1
  | 0, _, _, h0 => absurd h0 (Nat.not_lt_zero _)
  | f + 1, S, hS, h1 => by
    have hok : psOk (pdOf l p).ps := by
      intro x hx
      rw [psOfEq] at hx
      obtain ⟨y, hy, rfl⟩ := List.mem_map.1 hx
      exact h.ok y hy
    rcases B_cases l p S with ⟨hB, hn⟩ | ⟨j, x, hj, hB, hs, _, _⟩
    · have ht : ptree (pdOf l p).ps (f + 1) S = .mk 0 (ofNats (mem S 12)) [] := by unfold ptree; rw [hB, if_pos (by decide)]
      rw [ht, pworth.eq_2, if_pos (show (Tr.mk 0 (ofNats (mem S 12)) []).kids = [] from rfl), if_neg, hB]
      rintro (e | e | e)
      · obtain ⟨y, hy, e⟩ := List.any_eq_true.1 e
        rw [psOfEq] at hy
        obtain ⟨z, hz, rfl⟩ := List.mem_map.1 hy
        rw [hn z hz] at e; cases e
      · exact e rfl
      · exact e rfl
    · have ht : ptree (pdOf l p).ps (f + 1) S = .mk (j : Int) [] [ptree (pdOf l p).ps f (S - (mk_ l x &&& S)), ptree (pdOf l p).ps f (mk_ l x &&& S)] := by
        rw [ptree, hB, if_neg (by show ¬ (j : Int) < 0; omega)]; simp only; rw [(mAt_j hj).1]
      obtain ⟨p1, p2, p3⟩ := psep_lt hs
      obtain ⟨q1, q2⟩ := and_sub_lt (m := mk_ l x) hS
      have i1 := ptree_worth h f _ q1 (by omega)
      have i2 := ptree_worth h f _ q2 (by omega)
      have b1 := (B_ok hok (mk_ l x &&& S)).1
      have b2 := (B_ok hok (S - (mk_ l x &&& S))).1
      have hjl := (List.getElem?_eq_some_iff.1 hj).1
      rw [ht, pworth.eq_2, if_neg (by intro e; cases e), if_neg (by
        rintro (e | e | e | e)
        · exact e rfl
        · exact e rfl
        · have e : (j : Int) < 0 := e; omega
        · have e : (j : Int) ≥ (pdOf l p).ps.length := e; rw [ps_len] at e; omega)]
      show (if mAt (pdOf l p).ps (j : Int) &&& S = 0 ∨ mAt (pdOf l p).ps (j : Int) &&& S = S then (-1 : Int) else if pworth (pdOf l p).ps f (ptree (pdOf l p).ps f (S - (mk_ l x &&& S))) (S - (mAt (pdOf l p).ps (j : Int) &&& S)) < 0 ∨ pworth (pdOf l p).ps f (ptree (pdOf l p).ps f (mk_ l x &&& S)) (mAt (pdOf l p).ps (j : Int) &&& S) < 0 then -1 else
        cAt (pdOf l p).ps (j : Int) + max (pworth (pdOf l p).ps f (ptree (pdOf l p).ps f (S - (mk_ l x &&& S))) (S - (mAt (pdOf l p).ps (j : Int) &&& S))) (pworth (pdOf l p).ps f (ptree (pdOf l p).ps f (mk_ l x &&& S)) (mAt (pdOf l p).ps (j : Int) &&& S))) = _
      rw [(mAt_j hj).1, (mAt_j hj).2, i1, i2, if_neg (by omega), if_neg (by omega), hB]
      unfold pval
      show x.1 + max _ _ = x.1 + max _ _
      rw [Int.max_comm]
/-- A right tree shows that its worst cost can be reached. -/
theorem worth_can (h : prOk p) : ∀ (d : Nat) (t : Tr) (list : List Nat), 0 ≤ rworthF l p d t list → Can p (list.map (hyp l)) (rworthF l p d t list)
  | 0, _, _, hw => by unfold rworthF at hw; omega
  | d + 1, t, list, hw => by
    rw [rworthF.eq_2] at hw ⊢
    split at hw
    · rename_i hk
      rw [if_pos hk]
      split at hw
      · omega
      rename_i h1
      rw [if_neg h1]
      refine .leaf (fun x hx s hs t ht => ?_) (Int.le_refl _)
      obtain ⟨i, hi, rfl⟩ := List.mem_map.1 hs
      obtain ⟨j, hj, rfl⟩ := List.mem_map.1 ht
      have hsep : sepL l x list = false := by
        cases hb : sepL l x list with
        | false => rfl
        | true => exact absurd (.inl (List.any_eq_true.2 ⟨x, hx, hb⟩)) h1
      unfold sepL at hsep
      rw [decide_eq_false_iff_not] at hsep
      have hsp := part_split (l := l) (x := x) (list := list)
      have hz : (partL l x list true).length = 0 ∨ (partL l x list false).length = 0 := by omega
      show shw l x i = shw l x j
      rcases hz with hz | hz
      · have := List.filter_eq_nil_iff.1 (List.eq_nil_of_length_eq_zero hz)
        have a := this i hi; have b := this j hj; simp at a b; rw [a, b]
      · have := List.filter_eq_nil_iff.1 (List.eq_nil_of_length_eq_zero hz)
        have a := this i hi; have b := this j hj; simp at a b; rw [a, b]
    · rename_i hk
      rw [if_neg hk]
      split at hw
      · omega
      rename_i h1
      rw [if_neg h1]
      split at hw
      · omega
      rename_i h2
      rw [if_neg h2]
      split at hw
      · omega
      rename_i h3
      rw [if_neg h3]
      have hj := prAt_get (p := p) (i := t.probe) (by omega) (by omega)
      have hx := List.mem_of_getElem? hj
      have i0 := worth_can h d (kid t 0) (partL l (prAt p t.probe) list false) (by omega)
      have i1 := worth_can h d (kid t 1) (partL l (prAt p t.probe) list true) (by omega)
      rw [part_map] at i0 i1
      refine .node (prAt p t.probe) hx ?_ ?_ (i0.le (Int.le_max_left _ _)) (i1.le (Int.le_max_right _ _)) (Int.le_refl _)
      · rw [← part_map]; intro e; exact h2 (.inl (List.map_eq_nil_iff.1 e))
      · rw [← part_map]; intro e; exact h2 (.inr (List.map_eq_nil_iff.1 e))
theorem hyp_range : ∀ (l : List (List Int)), (List.range l.length).map (hyp l) = l := fun l => by
  refine List.ext_getElem? fun i => ?_
  rw [List.getElem?_map]
  by_cases hi : i < l.length
  · rw [List.getElem?_range hi, List.getElem?_eq_getElem hi]
    show some (hyp l i) = _
    unfold hyp; rw [List.getD_eq_getElem?_getD, List.getElem?_eq_getElem hi]; rfl
  · rw [List.getElem?_eq_none (by simpa using hi), List.getElem?_eq_none (by omega)]; rfl
theorem full_range (N : Nat) : full N = List.range N := by
  unfold full mem
  rw [List.filter_eq_self]
  intro i hi
  rw [Nat.testBit_two_pow_sub_one]
  simpa using hi
/-- A tree nested less than d deep. -/
def deep : Nat → Tr → Prop
  | 0, _ => False
  | d + 1, t => ∀ k ∈ t.kids, deep d k
theorem kid_mem {t : Tr} {i : Nat} (h : i < t.kids.length) : kid t i ∈ t.kids := by
  unfold kid; rw [List.getD_eq_getElem?_getD, List.getElem?_eq_getElem h]; exact List.getElem_mem h
theorem worth_fuel : ∀ (d e : Nat) (t : Tr) (list : List Nat), deep d t → deep e t → rworthF l p d t list = rworthF l p e t list
  | 0, _, _, _, h, _ => h.elim
  | _ + 1, 0, _, _, _, h => h.elim
  | d + 1, e + 1, t, list, h1, h2 => by
    rw [rworthF.eq_2, rworthF.eq_2]
    by_cases hk : t.kids = []
    · rw [if_pos hk, if_pos hk]
    rw [if_neg hk, if_neg hk]
    by_cases h3 : t.rest ≠ [] ∨ t.kids.length ≠ 2 ∨ t.probe < 0 ∨ t.probe ≥ p.length
    · rw [if_pos h3, if_pos h3]
    rw [if_neg h3, if_neg h3]
    rw [worth_fuel d e (kid t 0) _ (h1 _ (kid_mem (by omega))) (h2 _ (kid_mem (by omega))), worth_fuel d e (kid t 1) _ (h1 _ (kid_mem (by omega))) (h2 _ (kid_mem (by omega)))]
theorem ptree_deep (ps : List (Int × Nat)) : ∀ (f S : Nat), 0 < f → S < f → deep f (ptree ps f S)
  | 0, _, h, _ => absurd h (Nat.lt_irrefl _)
  | f + 1, S, _, hS => by
    rw [ptree]
    split
    · intro k hk; cases hk
    · rename_i hb
      intro k hk
      obtain ⟨x, hx, hs⟩ := B_sep (ps := ps) (S := S) (by omega)
      have e : mAt ps (B ps S).2 = x.2 := by unfold mAt; rw [List.getD_eq_getElem?_getD, hx]; rfl
      rw [e] at hk
      obtain ⟨p1, p2, p3⟩ := psep_lt hs
      rcases List.mem_cons.1 hk with rfl | hk
      · exact ptree_deep ps f _ (by omega) (by omega)
      · rcases List.mem_cons.1 hk with rfl | hk
        · exact ptree_deep ps f _ (by omega) (by omega)
        · cases hk
/-- The first part of the main theorem. -/
theorem best_worth (hc : checkL l p = 0) {f : Nat} (hf : deep f (pbestL l p).1) : rworthF l p f (pbestL l p).1 (List.range l.length) = (pbestL l p).2.1 := by
  have h : LP l p := .of hc
  have h0 : 0 < 2 ^ l.length := Nat.two_pow_pos _
  have hS := full_lt2 l.length
  have hb : pbestL l p = (ptree (pdOf l p).ps (2 ^ l.length) (2 ^ l.length - 1), (B (pdOf l p).ps (2 ^ l.length - 1)).1, 0) := by unfold pbestL; rw [if_neg (by omega)]
  rw [hb] at hf ⊢
  rw [worth_fuel f (2 ^ l.length) _ _ hf (ptree_deep _ _ _ h0 hS), ← full_range]
  show rworthF l p (2 ^ l.length) (ptree (pdOf l p).ps (2 ^ l.length) (2 ^ l.length - 1)) (mem (2 ^ l.length - 1) l.length) = _
  rw [← worth_eq h _ _ _ hS, ptree_worth h _ _ hS hS]
/-- .. and the second. -/
theorem best_least (hc : checkL l p = 0) {c : Int} (h : Can p l c) : (pbestL l p).2.1 ≤ c := by
  have hS := full_lt2 l.length
  have hb : pbestL l p = (ptree (pdOf l p).ps (2 ^ l.length) (2 ^ l.length - 1), (B (pdOf l p).ps (2 ^ l.length - 1)).1, 0) := by unfold pbestL; rw [if_neg (by omega)]
  rw [hb]
  exact best_le (.of hc) h _ hS (by rw [show mem (2 ^ l.length - 1) l.length = full l.length from rfl, full_range, hyp_range])
theorem best_can (hc : checkL l p = 0) : Can p l (pbestL l p).2.1 := by
  have h : LP l p := .of hc
  have h0 : 0 < 2 ^ l.length := Nat.two_pow_pos _
  have hS := full_lt2 l.length
  have hb : pbestL l p = (ptree (pdOf l p).ps (2 ^ l.length) (2 ^ l.length - 1), (B (pdOf l p).ps (2 ^ l.length - 1)).1, 0) := by unfold pbestL; rw [if_neg (by omega)]
  have hw := best_worth hc (f := 2 ^ l.length) (by rw [hb]; exact ptree_deep _ _ _ h0 hS)
  have hB : 0 ≤ (pbestL l p).2.1 := by
    rw [hb]
    exact (B_ok (ps := (pdOf l p).ps) (fun x hx => by
      rw [psOfEq] at hx
      obtain ⟨y, hy, rfl⟩ := List.mem_map.1 hx
      exact h.ok y hy) _).1
  have := worth_can (l := l) h.ok (2 ^ l.length) (pbestL l p).1 (List.range l.length) (by omega)
  rwa [hyp_range, hw] at this
end
end Go.Proofs.YtcpdhclnmjfldaaGreatDoor

/- Contracts: the law's own 'right'. -/
namespace Go.Proofs.YtcpdhclnmjfldaaGreatDoor
open Go Go.RowKit

/-- Some hypotheses of a list differ in what a measurement shows: looked at as the law does. -/
def misL (l : List (List Int)) (list : List Nat) (x : Pr) : Bool := list.any fun i => shw l x i != shw l x (list.getD 0 0)
theorem mis_sep {l : List (List Int)} {list : List Nat} {x : Pr} : misL l list x = sepL l x list := by
  cases list with
  | nil => unfold misL sepL partL; simp
  | cons a r =>
    have hsp := part_split (l := l) (x := x) (list := a :: r)
    unfold misL sepL
    rw [Bool.eq_iff_iff, List.any_eq_true, decide_eq_true_iff]
    show (∃ i ∈ a :: r, (shw l x i != shw l x a) = true) ↔ _
    constructor
    · rintro ⟨i, hi, hne⟩
      have hne : shw l x i ≠ shw l x a := by simpa using hne
      have h1 : ∀ (b : Bool) (j : Nat), j ∈ a :: r → shw l x j = b → 0 < (partL l x (a :: r) b).length := fun b j hj e => List.length_pos_iff.2 (List.ne_nil_of_mem (List.mem_filter.2 ⟨hj, by rw [e]; simp⟩))
      have ha := List.mem_cons_self (a := a) (l := r)
      cases hb : shw l x i with
      | true =>
        have hc : shw l x a = false := by cases hc : shw l x a <;> simp_all
        have := h1 _ _ hi hb; have := h1 _ _ ha hc; omega
      | false =>
        have hc : shw l x a = true := by cases hc : shw l x a <;> simp_all
        have := h1 _ _ hi hb; have := h1 _ _ ha hc; omega
    · rintro ⟨h1, h2⟩
      have h3 : 0 < (partL l x (a :: r) false).length := by omega
      cases hc : shw l x a with
      | true =>
        obtain ⟨i, hi⟩ := List.exists_mem_of_length_pos h3
        obtain ⟨hi, hb⟩ := List.mem_filter.1 hi
        have hb : shw l x i = false := by simpa using hb
        exact ⟨i, hi, by rw [hb]; rfl⟩
      | false =>
        obtain ⟨i, hi⟩ := List.exists_mem_of_length_pos h1
        obtain ⟨hi, hb⟩ := List.mem_filter.1 hi
        have hb : shw l x i = true := by simpa using hb
        exact ⟨i, hi, by rw [hb]; rfl⟩
theorem part_take {l : List (List Int)} {x : Pr} {list : List Nat} {j i : Nat} (b : Bool) (h : list[j]? = some i) : partL l x (list.take (j + 1)) b = partL l x (list.take j) b ++ (if shw l x i = b then [i] else []) := by
  rw [take_succ' h]
  unfold partL
  rw [List.filter_append]
  congr 1
  cases h1 : shw l x i <;> cases b <;> simp [h1]

end Go.Proofs.YtcpdhclnmjfldaaGreatDoor

/- Contracts: the chapter's examples. -/
namespace Go.Proofs.YtcpdhclnmjfldaaGreatDoor
open Go Go.RowKit

theorem rep_deep : ∀ {d : Nat} {D : Nat → Prop} {w : World} {cs : List Value} {t : Tr}, (tTr d).rep D w cs t → deep d t
  | 0, _, _, _, _, h => h.elim
  | d + 1, D, w, cs, t, h => by
    obtain ⟨_, _, _, _, _, _, rfl, _, _, _, hk, _⟩ := tr_open h
    intro k hk'
    obtain ⟨i, hi⟩ := List.getElem?_of_mem hk'
    obtain ⟨_, _, _, _, _, _, hr⟩ := hk.2.2 i k hi
    exact rep_deep hr
abbrev L0 : List (List Int) := [[0], [1], [2]]
abbrev P0 : List Pr := [(5, [0]), (2, [1]), (4, [0, 1])]
abbrev T0p : Tr := .mk 1 [] [.mk 2 [] [.mk 0 [2] [], .mk 0 [0] []], .mk 0 [1] []]
theorem ex_best : pbestL L0 P0 = (T0p, 6, 0) := by kernel_rfl
theorem ex_next : pnextL L0 P0 = (1, true, 0) := by kernel_rfl
theorem ex_best0 : pbestL [] [] = (.mk 0 [] [], 0, 0) := by kernel_rfl
theorem ex_next1 : (pnextL [[0]] P0).2 = (false, 0) := by kernel_rfl
theorem ex_check1 : checkL [[3, 3]] [] = 500 := by kernel_rfl
theorem ex_check2 : checkL [] [(0, [])] = 500 := by kernel_rfl
theorem T0_deep {f : Nat} (h : deep f T0p) : ∃ g, f = g + 3 := by
  rcases f with _ | _ | _ | g
  · exact h.elim
  · exact (h _ List.mem_cons_self).elim
  · exact (h _ List.mem_cons_self _ List.mem_cons_self).elim
  · exact ⟨g, rfl⟩
theorem ex_worth (g : Nat) : pworthL L0 P0 (g + 3) T0p = (6, true, 0) := by
  rw [pworthL_eq]
  have h : rworthF L0 P0 (g + 3) T0p (full 3) = 6 := by kernel_rfl
  unfold rworthL
  rw [if_neg (by decide), show full L0.length = full 3 from rfl, h]; rfl
theorem ex_follow (g : Nat) : pfollowL L0 P0 (g + 3) T0p [2] = ([2], 6, 0) := by
  rw [pfollowL_eq]
  unfold rfollowL
  rw [← pworthL_eq, ex_worth, if_neg (by decide), if_neg (by decide)]
  kernel_rfl
theorem ex_worth0 (g : Nat) : (pworthL [] [] (g + 1) (.mk 0 [0] [])).2 = (false, 0) := by kernel_rfl
theorem pr_mk {D : Nat → Prop} {w : World} {x : Pr} {A : Option Addr} {n c : Nat} (h1 : I64 x.1) (h2 : SlR tInt D w A n x.2) (h3 : n ≤ c) : tPr.rep D w [.int .i64 x.1, .slice A n c] x := ⟨[_], [_], rfl, ⟨rfl, h1⟩, A, n, c, rfl, h2, h3⟩
/-- A tree's cells as a slice's elements. -/
theorem flat_tr2 {d : Nat} {D : Nat → Prop} {w : World} {a b : Tr} {x1 x2 x3 y1 y2 y3 : Value} (ha : (tTr d).rep D w [x1, x2, x3] a) (hb : (tTr d).rep D w [y1, y2, y3] b) : FlatR (tTr d) D w [a, b] [x1, x2, x3, y1, y2, y3] := ⟨[_, _, _], [_, _, _], rfl, ha, [_, _, _], [], rfl, hb, rfl⟩

set_option maxRecDepth 20000 in
theorem c_sane {w : World} (hT : TabW w) : CallZ Tryz.prog 4 #[] w (fun v w' => v = .bool true ∧ Ext w w') := by
  refine fn_rule (args := []) Tryz.func4 (by kernel_rfl) ?_
  refine lit [.int .i64 0] (fun g1 w1 h1 => ?_)
  have q1 := h1.sl (xs := [0]) (D := All) trivial
  refine lit [.int .i64 1] (fun g2 w2 h2 => ?_)
  have q2 := h2.sl (xs := [1]) (D := All) trivial
  refine lit [.int .i64 2] (fun g3 w3 h3 => ?_)
  have q3 := h3.sl (xs := [2]) (D := All) trivial
  refine lit [.slice (some (ad g1 0)) 1 1, .slice (some (ad g2 0)) 1 1, .slice (some (ad g3 0)) 1 1] (fun g4 w4 h4 => ?_)
  have x34 := h4.ext
  have x24 := h3.ext.trans x34
  have x14 := h2.ext.trans x24
  have x04 := h1.ext.trans x14
  have hl : SlR tInts All w4 (some (ad g4 0)) 3 L0 := SlR.of_cells rfl (by decide) trivial (.blk h4.blk)
    ⟨[_], [_, _], rfl, ⟨_, _, _, rfl, q1.ext x14, Nat.le_refl _⟩, [_], [_], rfl, ⟨_, _, _, rfl, q2.ext x24, Nat.le_refl _⟩, [_], [], rfl, ⟨_, _, _, rfl, q3.ext x34, Nat.le_refl _⟩, rfl⟩
  refine lit [.int .i64 0] (fun g5 w5 h5 => ?_)
  have q5 := h5.sl (xs := [0]) (D := All) trivial
  refine bld [.int .i64 5, .slice (some (ad g5 0)) 1 1] (by kernel_rfl) ?_
  refine lit [.int .i64 1] (fun g6 w6 h6 => ?_)
  have q6 := h6.sl (xs := [1]) (D := All) trivial
  refine bld [.int .i64 2, .slice (some (ad g6 0)) 1 1] (by kernel_rfl) ?_
  refine lit [.int .i64 0, .int .i64 1] (fun g7 w7 h7 => ?_)
  have q7 := h7.sl (xs := [0, 1]) (D := All) trivial
  refine bld [.int .i64 4, .slice (some (ad g7 0)) 2 2] (by kernel_rfl) ?_
  refine lit [.agg #[.int .i64 5, .slice (some (ad g5 0)) 1 1], .agg #[.int .i64 2, .slice (some (ad g6 0)) 1 1], .agg #[.int .i64 4, .slice (some (ad g7 0)) 2 2]] (fun g8 w8 h8 => ?_)
  have x78 := h8.ext
  have x68 := h7.ext.trans x78
  have x58 := h6.ext.trans x68
  have x48 := h5.ext.trans x58
  have x08 := x04.trans x48
  have hp : SlR tPr All w8 (some (ad g8 0)) 3 P0 := SlR.of_cells rfl (by decide) trivial (.blk h8.blk)
    ⟨[_, _], [_, _, _, _], rfl, pr_mk (x := (5, [0])) ⟨by decide, by decide⟩ (q5.ext x58) (Nat.le_refl _), [_, _], [_, _], rfl, pr_mk (x := (2, [1])) ⟨by decide, by decide⟩ (q6.ext x68) (Nat.le_refl _), [_, _], [], rfl, pr_mk (x := (4, [0, 1])) ⟨by decide, by decide⟩ (q7.ext x78) (Nat.le_refl _), rfl⟩
  have cB := fun c d => c_Best (c := c) (d := d) (hl.ext x48) hp (hT.ext x08)
  rw [ex_best] at cB
  refine call_of (cB _ _) ?_
  rintro _ w9 ⟨cs, f, rfl, hr, -, hx9⟩
  obtain ⟨g, rfl⟩ := T0_deep (rep_deep hr)
  obtain ⟨A3, n3, c3, A4, n4, c4, rfl, -⟩ := tr_open hr
  refine alloc (fun r3 w10 h10 => ?_)
  refine stA (vs := [_, _, _]) h10.blk rfl (Nat.le_of_ble_eq_true rfl) (by simp [Value.oneCell']) (fun w11 hb11 k11 z11 => ?_)
  have e10 := h10.at_
  have s9 := hx9.size
  have x911 : Ext w9 w11 := h10.ext.then k11 (fun b hb _ e => by omega)
  have x811 := hx9.trans x911
  have hr11 := (tTr (g + 3)).ext hr x911
  have hl11 := hl.ext (x48.trans x811)
  have hp11 := hp.ext x811
  have hT11 := hT.ext (x08.trans x811)
  have cNx := fun c d => c_Next (c := c) (d := d) hl11 hp11
  rw [ex_next] at cNx
  refine call_of (cNx _ _) ?_
  rintro _ w12 ⟨rfl, x12⟩
  refine ldA [_, _, _] (.blk (hb11.ext x12)) rfl ?_
  have cW := fun c d => c_Worth (c := c) (d := d) (hl11.ext x12) (hp11.ext x12) (hT11.ext x12) ((tTr (g + 3)).ext hr11 x12)
  rw [ex_worth] at cW
  refine call_of (cW _ _) ?_
  rintro _ w13 ⟨rfl, x13⟩
  have x1113 := x12.trans x13
  refine ldA [_, _, _] (.blk (hb11.ext x1113)) rfl ?_
  refine lit [.int .i64 2] (fun g14 w14 h14 => ?_)
  have q14 := h14.sl (xs := [2]) (D := All) trivial
  have x1114 := x1113.trans h14.ext
  have cF := fun c d e => c_Follow (c := c) (d := d) (e := e) (hl11.ext x1114) (hp11.ext x1114) (hT11.ext x1114) ((tTr (g + 3)).ext hr11 x1114) q14
  rw [ex_follow] at cF
  refine call_of (cF _ _ _) ?_
  rintro _ w15 ⟨A5, n5, c5, rfl, q15, x15⟩
  have x1115 := x1114.trans x15
  have cB0 := fun A A' c d => c_Best (w := w15) (A := A) (A' := A') (c := c) (d := d) (D := All) (.nil) (.nil) (hT11.ext x1115)
  rw [ex_best0] at cB0
  refine call_of (cB0 _ _ _ _) ?_
  rintro _ w16 ⟨cs0, f0, rfl, hr0, -, x16⟩
  obtain ⟨f0, rfl⟩ := tr_pos hr0
  obtain ⟨A6, n6, c6, A7, n7, c7, rfl, -⟩ := tr_open hr0
  refine alloc (fun r15 w17 h17 => ?_)
  refine stA (vs := [_, _, _]) h17.blk rfl (Nat.le_of_ble_eq_true rfl) (by simp [Value.oneCell']) (fun w18 hb18 k18 z18 => ?_)
  have e17 := h17.at_
  have x1618 : Ext w16 w18 := h17.ext.then k18 (fun b hb _ e => by omega)
  have hr018 := (tTr (f0 + 1)).ext hr0 x1618
  have x1518 := x16.trans x1618
  have x1118 := x1115.trans x1518
  refine slcR 0 1 (hl11.ext x1118) (by decide) rfl rfl (by decide) (by decide) rfl (fun A8 hA8 => ?_)
  have cN1 := fun c d => c_Next (c := c) (d := d) (hA8 All w18 (hl11.ext x1118)) (hp11.ext x1118)
  have en1 : pnextL (([[0], [1], [2]] : List (List Int)).take 1 |>.drop 0) P0 = ((pnextL [[0]] P0).1, false, 0) := Prod.ext rfl ex_next1
  rw [en1] at cN1
  refine call_of (cN1 _ _) ?_
  rintro _ w19 ⟨rfl, x19⟩
  have x1119 := x1118.trans x19
  refine lit [.int .i64 0] (fun g20 w20 h20 => ?_)
  have q20 := h20.sl (xs := [0]) (D := All) trivial
  refine bld [.int .i64 0, .slice (some (ad g20 0)) 1 1, .slice none 0 0] (by kernel_rfl) ?_
  have x1120 := x1119.trans h20.ext
  have cW0 := fun A A' c d => c_Worth (w := w20) (A := A) (A' := A') (c := c) (d := d) (D := All) (.nil) (.nil) (hT11.ext x1120) (tr_mk (d := 0) (t := .mk 0 [0] []) (A' := none) (n' := 0) (c' := 0) ⟨by decide, by decide⟩ q20 (Nat.le_refl 1) .nil (Nat.le_refl 0))
  have ew0 : pworthL [] [] (0 + 1) (.mk 0 [0] []) = ((pworthL [] [] (0 + 1) (.mk 0 [0] [])).1, false, 0) := Prod.ext rfl (ex_worth0 0)
  rw [ew0] at cW0
  refine call_of (cW0 _ _ _ _) ?_
  rintro _ w21 ⟨rfl, x21⟩
  have x1121 := x1120.trans x21
  refine cN (fun h => absurd rfl h) (fun _ => ?_)
  refine cN (fun h => absurd rfl h) (fun _ => ?_)
  refine cN (fun h => absurd rfl h) (fun _ => ?_)
  refine cN (fun h => absurd rfl h) (fun _ => ?_)
  refine cN (fun h => absurd rfl h) (fun _ => ?_)
  refine cN (fun h => absurd rfl h) (fun _ => ?_)
  refine cN (fun h => absurd rfl h) (fun _ => ?_)
  refine lit [.int .i64 3, .int .i64 3] (fun g22 w22 h22 => ?_)
  have q22 := h22.sl (xs := [3, 3]) (D := All) trivial
  refine lit [.slice (some (ad g22 0)) 2 2] (fun g23 w23 h23 => ?_)
  have q23 : SlR tInts All w23 (some (ad g23 0)) 1 [[3, 3]] := SlR.of_cells rfl (by decide) trivial (.blk h23.blk) ⟨[_], [], rfl, ⟨_, _, _, rfl, q22.ext h23.ext, Nat.le_refl _⟩, rfl⟩
  have cC1 := fun A' c d => c_Check (A' := A') (c := c) (d := d) (p := []) q23 .nil
  rw [ex_check1] at cC1
  refine call_of (cC1 _ _ _) ?_
  rintro _ w24 ⟨rfl, x24'⟩
  refine cN (fun h => absurd rfl h) (fun _ => ?_)
  refine bld [.int .i64 0, .slice none 0 0] (by kernel_rfl) ?_
  refine lit [.agg #[.int .i64 0, .slice none 0 0]] (fun g25 w25 h25 => ?_)
  have q25 : SlR tPr All w25 (some (ad g25 0)) 1 [(0, [])] := SlR.of_cells rfl (by decide) trivial (.blk h25.blk) ⟨[_, _], [], rfl, pr_mk (x := (0, [])) ⟨by decide, by decide⟩ .nil (Nat.le_refl _), rfl⟩
  have cC2 := fun A c d => c_Check (A := A) (c := c) (d := d) (l := []) .nil q25
  rw [ex_check2] at cC2
  refine call_of (cC2 _ _ _) ?_
  rintro _ w26 ⟨rfl, x26⟩
  refine cN (fun h => absurd rfl h) (fun _ => ?_)
  have x2126 := ((h22.ext.trans h23.ext).trans (x24'.trans h25.ext)).trans x26
  have x1126 := x1121.trans x2126
  refine lit [.int .i64 2] (fun g27 w27 h27 => ?_)
  have q27 := h27.sl (xs := [2]) (D := All) trivial
  refine bld [.int .i64 0, .slice (some (ad g27 0)) 1 1, .slice none 0 0] (by kernel_rfl) ?_
  refine lit [.int .i64 0] (fun g28 w28 h28 => ?_)
  have q28 := h28.sl (xs := [0]) (D := All) trivial
  refine bld [.int .i64 0, .slice (some (ad g28 0)) 1 1, .slice none 0 0] (by kernel_rfl) ?_
  refine lit [.agg #[.int .i64 0, .slice (some (ad g27 0)) 1 1, .slice none 0 0], .agg #[.int .i64 0, .slice (some (ad g28 0)) 1 1, .slice none 0 0]] (fun g29 w29 h29 => ?_)
  refine bld [.int .i64 2, .slice none 0 0, .slice (some (ad g29 0)) 2 2] (by kernel_rfl) ?_
  refine lit [.int .i64 1] (fun g30 w30 h30 => ?_)
  have q30 := h30.sl (xs := [1]) (D := All) trivial
  refine bld [.int .i64 0, .slice (some (ad g30 0)) 1 1, .slice none 0 0] (by kernel_rfl) ?_
  refine lit [.agg #[.int .i64 2, .slice none 0 0, .slice (some (ad g29 0)) 2 2], .agg #[.int .i64 0, .slice (some (ad g30 0)) 1 1, .slice none 0 0]] (fun g31 w31 h31 => ?_)
  refine bld [.int .i64 1, .slice none 0 0, .slice (some (ad g31 0)) 2 2] (by kernel_rfl) ?_
  have z : I64 0 := ⟨by decide, by decide⟩
  have lf : ∀ {w : World} {g : Nat} {i : Int}, SlR tInt All w (some (ad g 0)) 1 [i] → (tTr 1).rep All w [.int .i64 0, .slice (some (ad g 0)) 1 1, .slice none 0 0] (.mk 0 [i] []) := fun h => tr_mk (d := 0) (t := .mk 0 _ []) z h (Nat.le_refl _) .nil (Nat.le_refl _)
  have k29 : SlR (tTr 1) All w29 (some (ad g29 0)) 2 [.mk 0 [2] [], .mk 0 [0] []] := SlR.of_cells rfl (by decide) trivial (.blk h29.blk) (flat_tr2 (lf (q27.ext (h28.ext.trans h29.ext))) (lf (q28.ext h29.ext)))
  have t2 : (tTr 2).rep All w31 [.int .i64 2, .slice none 0 0, .slice (some (ad g29 0)) 2 2] (.mk 2 [] [.mk 0 [2] [], .mk 0 [0] []]) := tr_mk (d := 1) (t := .mk 2 [] [.mk 0 [2] [], .mk 0 [0] []]) ⟨by decide, by decide⟩ .nil (Nat.le_refl _) (k29.ext (h30.ext.trans h31.ext)) (Nat.le_refl _)
  have k31 : SlR (tTr 2) All w31 (some (ad g31 0)) 2 [.mk 2 [] [.mk 0 [2] [], .mk 0 [0] []], .mk 0 [1] []] := SlR.of_cells rfl (by decide) trivial (.blk h31.blk) (flat_tr2 t2 (tr_up (lf (q30.ext h31.ext))))
  have t3 : (tTr 3).rep All w31 [.int .i64 1, .slice none 0 0, .slice (some (ad g31 0)) 2 2] T0p := tr_mk (d := 2) (t := T0p) ⟨by decide, by decide⟩ .nil (Nat.le_refl _) k31 (Nat.le_refl _)
  refine alloc (fun r32 w32 h32 => ?_)
  refine stA (vs := [_, _, _]) h32.blk rfl (Nat.le_of_ble_eq_true rfl) (by simp [Value.oneCell']) (fun w33 hb33 k33 z33 => ?_)
  have e32 := h32.at_
  have x3133 : Ext w31 w33 := h32.ext.then k33 (fun b hb _ e => by omega)
  have x2631 := ((h27.ext.trans h28.ext).trans (h29.ext.trans h30.ext)).trans h31.ext
  have x1133 := x1126.trans (x2631.trans x3133)
  refine ldA [_, _, _] (.blk (hb11.ext x1133)) rfl ?_
  refine ldA [_, _, _] (.blk hb33) rfl ?_
  have eS : sameF 4 T0p T0p = true := by kernel_rfl
  have cS := c_Same 4 T0p T0p _ _ _ _ _ _ w33 (by decide) ((tTr (g + 3)).ext hr11 x1133) ((tTr 3).ext t3 x3133)
  rw [eS] at cS
  refine call_of cS ?_
  rintro _ w34 ⟨rfl, x34'⟩
  refine cE (fun _ => ?_) (fun h => absurd rfl h)
  refine cE (fun _ => ?_) (fun h => absurd rfl h)
  refine cE (fun _ => ?_) (fun h => absurd rfl h)
  refine lit [.int .i64 2] (fun g35 w35 h35 => ?_)
  have q35 := h35.sl (xs := [2]) (D := All) trivial
  have x1835 : Ext w18 w35 := ((x19.trans h20.ext).trans x21).trans (x2126.trans ((x2631.trans x3133).trans (x34'.trans h35.ext)))
  refine callB (b := true) (c_SameInts (q15.ext (x1518.trans x1835)) q35) (fun _ => ?_) (fun h => by cases h)
  refine cE (fun _ => ?_) (fun h => absurd rfl h)
  refine ldA [_, _, _] (.blk (hb18.ext x1835)) rfl ?_
  refine bld [.int .i64 0, .slice none 0 0, .slice none 0 0] (by kernel_rfl) ?_
  have eS0 : sameF 1 (.mk 0 [] []) (.mk 0 [] []) = true := by kernel_rfl
  have cS0 := c_Same 1 (.mk 0 [] []) (.mk 0 [] []) _ _ _ _ _ _ w35 (by decide) ((tTr (f0 + 1)).ext hr018 x1835) (tr_leaf (d := 0) (D := All) (w := w35))
  rw [eS0] at cS0
  refine call_of cS0 ?_
  rintro _ w36 ⟨rfl, x36⟩
  refine cE (fun _ => ?_) (fun h => absurd rfl h)
  exact ret1 (.bool true) rfl ⟨rfl, ((x08.trans x811).trans x1118).trans (x1835.trans x36)⟩
end Go.Proofs.YtcpdhclnmjfldaaGreatDoor

/- The laws: ProbeSpec, ProbeFollowSpec, ProbeCheapest. -/
namespace Go.Proofs.YtcpdhclnmjfldaaGreatDoor
open Go Go.RowKit

theorem same_refl : ∀ {d k : Nat} {t : Tr}, deep d t → d ≤ k → sameF k t t = true
  | 0, _, _, h, _ => h.elim
  | d + 1, k, t, h, hk => by
    obtain ⟨k, rfl⟩ : ∃ j, k = j + 1 := ⟨k - 1, by omega⟩
    have : sameF (k + 1) t t = (t.probe == t.probe && t.rest == t.rest && (t.kids.length == t.kids.length) && (t.kids.zip t.kids).all fun x => sameF k x.1 x.2) := rfl
    rw [this]
    simp only [beq_self_eq_true, Bool.and_self, Bool.true_and, List.all_eq_true]
    intro x hx
    obtain ⟨i, hi⟩ := List.getElem?_of_mem hx
    rw [List.getElem?_zip_eq_some] at hi
    have e : x.1 = x.2 := Option.some.inj (hi.1.symm.trans hi.2)
    rw [← e]
    exact same_refl (h _ (List.mem_of_getElem? hi.1)) (by omega)
theorem few_len {l : List (List Int)} {p : List Pr} (h : fewL l p = true) : l.length ≤ 8 ∨ 12 < l.length := by
  unfold fewL at h
  simp at h
  omega
theorem best_deep {l : List (List Int)} {p : List Pr} (h : fewL l p = true) (hd : deep (l.length + 1) (rbestL l p).1) : sameF 14 (rbestL l p).1 (rbestL l p).1 = true := by
  by_cases hc : checkL l p = 0
  · have := (checkL_ok hc).1
    exact same_refl hd (by rcases few_len h with h | h <;> omega)
  · have : (rbestL l p).1 = .mk 0 [] [] := by unfold rbestL; rw [if_pos hc]
    rw [this]; exact same_refl (d := 1) (fun k hk => by cases hk) (by decide)

section
variable {D Dt Du : Nat → Prop} {w : World} {A A' A4 : Option Addr} {n m k c d e : Nat}
end
end Go.Proofs.YtcpdhclnmjfldaaGreatDoor

/- The laws: ProbeTruth. -/
namespace Go.Proofs.YtcpdhclnmjfldaaGreatDoor
open Go Go.RowKit

theorem convIp {P : Program} {s t : TypeId} {k0 : IntKind} {n : Int} {K : Value → Prop} [h0 : IntTy P s k0] [h : IntTy P t .i64] (hn : -9223372036854775808 ≤ n ∧ n ≤ 9223372036854775807) (kk : K (.int .i64 n)) : ConvP P s t (.int k0 n) K := by
  refine conv (k := .i64) ?_
  have e : IntKind.i64.wrap n = n := by
    have := arI (K := fun v => v = .int .i64 n) hn rfl
    rw [ArP_eq] at this
    injection this
  rw [e]; exact kk

/-- Where a right tree leads to. -/
theorem follow_right {l : List (List Int)} {p : List Pr} (hok : prOk p) {k : Nat} : ∀ (d : Nat) (t : Tr) (list : List Nat) (c : Int), 0 ≤ rworthF l p d t list → k ∈ list →
    ∃ sub : List Nat, (followF p (hyp l k) d t c).1 = ofNats sub ∧ (∀ i ∈ sub, i ∈ list) ∧ k ∈ sub ∧ (∀ x ∈ p, ∀ i ∈ sub, shw l x i = shw l x k) ∧ c ≤ (followF p (hyp l k) d t c).2 ∧ (followF p (hyp l k) d t c).2 ≤ c + rworthF l p d t list
  | 0, _, _, _, hw, _ => by unfold rworthF at hw; omega
  | d + 1, t, list, c, hw, hk => by
    by_cases hkids : t.kids = []
    · rw [rworthF.eq_2, if_pos hkids] at hw ⊢
      split at hw
      · omega
      rename_i h1
      rw [if_neg h1, followF, if_pos hkids]
      have h1' := not_or.1 h1
      have h2' := not_or.1 h1'.2
      refine ⟨list, Classical.byContradiction h2'.2, fun _ h => h, hk, fun x hx i hi => ?_, by omega, by omega⟩
      have hsep : sepL l x list = false := by
        cases hb : sepL l x list with
        | false => rfl
        | true => exact absurd (List.any_eq_true.2 ⟨x, hx, hb⟩) h1'.1
      rw [← mis_sep] at hsep
      unfold misL at hsep
      rw [List.any_eq_false] at hsep
      have a := hsep i hi; have b := hsep k hk
      simp at a b
      rw [a, b]
    · obtain ⟨h2, h3, h4, h5, h6, w0, w1, he⟩ := rworth_inv hw hkids
      have hx := List.mem_of_getElem? (prAt_get (p := p) h3 h4)
      have h1 := hok _ hx
      rw [he, followF, if_neg hkids]
      have hsh : showsL (prAt p t.probe).2 (hyp l k) = shw l (prAt p t.probe) k := rfl
      by_cases hs : showsL (prAt p t.probe).2 (hyp l k) = true
      · rw [if_pos hs]
        obtain ⟨sub, a1, a2, a3, a4, a5, a6⟩ := follow_right hok d (kid t 1) (partL l (prAt p t.probe) list true) (c + (prAt p t.probe).1) w1 (List.mem_filter.2 ⟨hk, by rw [← hsh, hs]; rfl⟩)
        exact ⟨sub, a1, fun i hi => partL_sub i (a2 i hi), a3, a4, by omega, by omega⟩
      · rw [if_neg hs]
        have hs' : showsL (prAt p t.probe).2 (hyp l k) = false := by simpa using hs
        obtain ⟨sub, a1, a2, a3, a4, a5, a6⟩ := follow_right hok d (kid t 0) (partL l (prAt p t.probe) list false) (c + (prAt p t.probe).1) w0 (List.mem_filter.2 ⟨hk, by rw [← hsh, hs']; rfl⟩)
        exact ⟨sub, a1, fun i hi => partL_sub i (a2 i hi), a3, a4, by omega, by omega⟩
theorem toAll_nats {D : Nat → Prop} {w : World} {A : Option Addr} {n : Nat} {sub : List Nat} (h : SlR tInt D w A n (ofNats sub)) : n = sub.length := by
  have := h.1
  unfold ofNats at this
  rwa [List.length_map] at this

section
variable {D Dt Du : Nat → Prop} {w : World} {A A' A4 : Option Addr} {n m k c d e : Nat}
end
end Go.Proofs.YtcpdhclnmjfldaaGreatDoor

/- Layer 50: the law ProbeSuspects. -/
namespace Go.Proofs.YtcpdhclnmjfldaaGreatDoor
open Go Go.RowKit

theorem setB_from {S : Nat} (hS : S ≤ 12) : ∀ {l : List Int} {last : Int}, setB S last l = true → setFrom last l = true
  | [], _, _ => rfl
  | a :: r, last, h => by
    unfold setB at h
    unfold setFrom
    rw [Bool.and_eq_true, Bool.and_eq_true, decide_eq_true_eq, decide_eq_true_eq] at h
    rw [Bool.and_eq_true, Bool.and_eq_true, decide_eq_true_eq, decide_eq_true_eq, setB_from hS h.2.2]
    exact ⟨⟨h.1, by omega⟩, rfl⟩
theorem hypsFrom_of : ∀ {l pre : List (List Int)}, (∀ x ∈ l, setOk x = true) → (pre ++ l).Nodup → hypsFrom pre l = true
  | [], _, _, _ => rfl
  | x :: r, pre, h, hn => by
    unfold hypsFrom
    have h1 : pre.any (fun y => x == y) = false := by
      rw [Bool.eq_false_iff]
      intro e
      rw [List.any_eq_true] at e
      obtain ⟨y, hy, e⟩ := e
      rw [beq_iff_eq] at e
      subst e
      exact (List.nodup_append.1 hn).2.2 x hy x List.mem_cons_self rfl
    rw [h x List.mem_cons_self, h1, hypsFrom_of (fun y hy => h y (List.mem_cons_of_mem _ hy)) (by rw [List.append_assoc]; exact hn)]
    rfl
theorem min_hyps {d : Dist} {x : Ev} (h : evErr d x = 0) : hypsOk (minSets d x) = true := by
  obtain ⟨-, -, hS⟩ := ev_sizes h
  refine hypsFrom_of (fun y hy => ?_) ?_
  · obtain ⟨n, -, -, rfl⟩ := mem_min.1 hy
    exact setB_from hS members_set
  · rw [List.nil_append]
    unfold minSets minV
    exact (putsS_ok (minL_nodup table_le2)).1.nodup_iff.2 (minL_nodup table_le2)
theorem check_more {l : List (List Int)} {p : List Pr} (hl : l.length ≤ 12) (hh : hypsOk l = true) (h : checkL [] p = 0) : checkL l p = 0 := by
  obtain ⟨-, h2, -, h4⟩ := checkL_ok h
  unfold checkL
  rw [if_neg (by omega), hh, h4]; rfl
section
variable {D Dp : Nat → Prop} {w : World}
set_option maxRecDepth 8000 in
theorem c_ProbeSuspects {csd csx : List Value} {ds : Dist} {x : Ev} {p : List Pr} {A' : Option Addr} {m d : Nat} {q : Int} (hd : DiR D w csd ds) (hx : EvR D w csx x) (hp : SlR tPr Dp w A' m p) (hT : TabW w) (hq : 0 ≤ q ∧ q ≤ 255) :
    CallZ Tryz.prog 3 #[.agg csd.toArray, .agg csx.toArray, .slice A' m d, .int .u8 q] w (fun v w' => v = .bool true ∧ Ext w w') := by
  have hd := hd.more (D' := fun _ => True) fun _ _ _ => trivial
  have hx := hx.more (D' := fun _ => True) fun _ _ _ => trivial
  obtain ⟨A1, n1, c1, A2, n2, c2, A3, n3, c3, A4, n4, c4, A5, n5, c5, A6, n6, c6, rfl, -⟩ := hd.ex
  obtain ⟨W1, m1, e1, S1, m2, e2, rfl, hwv, hsu, -⟩ := hx.ex
  refine fn_rule (args := [.agg #[.string ds.name, iv ds.hours, iv ds.cap, iv ds.start, .slice A1 n1 c1, .slice A2 n2 c2, .slice A3 n3 c3, .slice A4 n4 c4, .slice A5 n5 c5, .slice A6 n6 c6], .agg #[.slice W1 m1 e1, .slice S1 m2 e2], .slice A' m d, .int .u8 q]) Tryz.func3 (by kernel_rfl) ?_
  refine box (fun bd w1 h1 => ?_)
  refine box (fun bx w2 h2 => ?_)
  have x2 := h1.ext.trans h2.ext
  have Bd : Blk w2 bd 31 [.string ds.name, iv ds.hours, iv ds.cap, iv ds.start, .slice A1 n1 c1, .slice A2 n2 c2, .slice A3 n3 c3, .slice A4 n4 c4, .slice A5 n5 c5, .slice A6 n6 c6] := h1.blk.ext h2.ext
  have Bx : Blk w2 bx 35 [.slice W1 m1 e1, .slice S1 m2 e2] := h2.blk
  refine call_of (c_sane (hT.ext x2)) ?_
  rintro _ w3 ⟨rfl, x3⟩
  refine ldA [.string ds.name, iv ds.hours, iv ds.cap, iv ds.start, .slice A1 n1 c1, .slice A2 n2 c2, .slice A3 n3 c3, .slice A4 n4 c4, .slice A5 n5 c5, .slice A6 n6 c6] (.blk (Bd.ext x3)) rfl ?_
  refine ldA [.slice W1 m1 e1, .slice S1 m2 e2] (.blk (Bx.ext x3)) rfl ?_
  refine callSE (c_r48Few ((hd.ext x2).ext x3) ((hx.ext x2).ext x3)) (fun w4 x4 => ?_) (fun w4 x4 => ?_)
  rotate_left
  · exact ret1 (.bool true) rfl ⟨rfl, x2.trans (x3.trans x4)⟩
  have X := x2.trans (x3.trans x4)
  have Bd := Bd.ext (x3.trans x4)
  have Bx := Bx.ext (x3.trans x4)
  refine ldA [.string ds.name, iv ds.hours, iv ds.cap, iv ds.start, .slice A1 n1 c1, .slice A2 n2 c2, .slice A3 n3 c3, .slice A4 n4 c4, .slice A5 n5 c5, .slice A6 n6 c6] (.blk Bd) rfl ?_
  refine ldA [.slice W1 m1 e1, .slice S1 m2 e2] (.blk Bx) rfl ?_
  refine call_of (c_sMinimal (hd.ext X) (hx.ext X)) ?_
  rintro _ w5 ⟨A, n, c, ls, rfl, ol, hls⟩
  have X := X.trans ol.own.ext
  refine cN (fun _ => ?_) (fun q0 => ?_)
  · exact ret1 (.bool true) rfl ⟨rfl, X⟩
  have q0 : evErr ds x = 0 := q0
  have hln : n = (minSets ds x).length := by rw [← hls, List.length_map]; exact ol.len
  refine len ?_
  refine cD (fun _ => ?_) (fun h12 => ?_)
  · exact ret1 (.bool true) rfl ⟨rfl, X⟩
  have h12 : n ≤ 12 := by omega
  have hl := ol.rd (D := fun _ => True) (by omega) (fun _ _ => trivial)
  rw [hls] at hl
  have hl : SlR tInts (fun _ => True) w5 A n (minSets ds x) := hl
  have hhy := min_hyps q0
  have hlen : (minSets ds x).length ≤ 12 := by omega
  generalize minSets ds x = l at hl hhy hlen hln
  clear hls ol
  have hp := (hp.more (D' := fun _ => True) (by decide) fun _ _ _ => trivial).ext X
  have hT := hT.ext X
  refine callB (c_Few hl hp) (fun hf => ?_) (fun _ => ?_)
  rotate_left
  · exact ret1 (.bool true) rfl ⟨rfl, X⟩
  refine call_of (c_Check (D := fun _ => True) (A := none) (n := 0) (l := []) (.nil) hp) ?_
  rintro _ w6 ⟨rfl, x6⟩
  have X := X.trans x6
  refine cN (fun _ => ?_) (fun hc0 => ?_)
  · exact ret1 (.bool true) rfl ⟨rfl, X⟩
  have hc : checkL l p = 0 := check_more hlen hhy hc0
  refine call_of (c_Best (hl.ext x6) (hp.ext x6) (hT.ext x6)) ?_
  rintro _ w7 ⟨cs, f, rfl, hr, -, x7⟩
  obtain ⟨f, rfl⟩ := tr_pos hr
  have hdp := rep_deep hr
  obtain ⟨A5, n5, c5, A6, n6, c6, rfl, -⟩ := tr_open hr
  refine alloc (fun gb w8 h8 => ?_)
  refine stA (vs := [_, _, _]) h8.blk rfl (Nat.le_of_ble_eq_true rfl) (by simp [Value.oneCell']) (fun w9 hb9 k9 z9 => ?_)
  have e8 := h8.at_
  have x79 : Ext w7 w9 := h8.ext.then k9 (fun b hb _ e => by omega)
  have x59 := x6.trans (x7.trans x79)
  have X := X.trans (x7.trans x79)
  have hl := hl.ext x59
  have hp := hp.ext x59
  have hT := hT.ext x59
  have ht := (tTr (f + 1)).ext hr x79
  have hcode : (pbestL l p).2.2 = 0 := by unfold pbestL; rw [if_neg (by omega)]
  have hcan := best_can hc
  have hBn : 0 ≤ (pbestL l p).2.1 := by
    cases hcan with
    | leaf _ h => exact h
    | node x hx _ _ _ _ _ => exact (by
        have : (pbestL l p).2.1 = (B (pdOf l p).ps (2 ^ l.length - 1)).1 := by unfold pbestL; rw [if_neg (by omega)]
        rw [this]; exact (B_ok (pdOk_of hc).psOk _).1)
  have hwor : rworthF l p (f + 1) (pbestL l p).1 (List.range n) = (pbestL l p).2.1 := by rw [hln]; exact best_worth hc hdp
  have hnil : n = 0 → (pbestL l p).2.1 ≤ 0 := fun h0 => by
    have hl0 : l = [] := List.eq_nil_of_length_eq_zero (by omega)
    exact best_least hc (.leaf (fun x hx s hs => by rw [hl0] at hs; cases hs) (Int.le_refl 0))
  obtain ⟨hN, hM, hh, hpo⟩ := checkL_ok hc
  have hok := prOk_of hpo
  have hll := hl.1
  have hpl := hp.1
  rw [hcode]
  generalize (pbestL l p).2.1 = worst at *
  generalize (pbestL l p).1 = t at *
  have hpos : 0 ≤ rworthF l p (f + 1) t (List.range n) := by rw [hwor]; exact hBn
  refine call_of (c_Check hl hp) ?_
  rintro _ w10 ⟨rfl, x10⟩
  rw [hc]
  refine cN (fun h => absurd rfl h) (fun _ => ?_)
  refine cN (fun h => absurd rfl h) (fun _ => ?_)
  refine len ?_
  refine cE (fun h0 => ?_) (fun hn0 => ?_)
  · refine cE (fun _ => ?_) (fun h => absurd (show worst = 0 by have := hnil (by omega); omega) h)
    exact ret1 (.bool true) rfl ⟨rfl, X.trans x10⟩
  have x04 := x10
  have x14 := x10
  have done : ∀ w', Ext w9 w' → (Value.bool true = .bool true ∧ Ext w w') := fun w' x => ⟨rfl, X.trans x⟩
  have hcb : CellsAt w9 gb 0 [.int .i64 t.probe, .slice A5 n5 c5, .slice A6 n6 c6] := .blk hb9
  refine convIp (by omega) ?_
  refine len ?_
  refine remI (by omega) (by omega) ?_
  obtain ⟨k, hk⟩ : ∃ k : Nat, q % (n : Int) = (k : Int) := ⟨(q % (n : Int)).toNat, by have := Int.emod_nonneg q (show (n : Int) ≠ 0 by omega); omega⟩
  have hkn : k < n := by have := Int.emod_lt_of_pos q (show (0 : Int) < n by omega); omega
  rw [hk]
  obtain ⟨bl, ol, _, y, rfl, hy, -, -, hcy, Ay, ny, cy, rfl, hry, -⟩ := (hl.ext x04).at_ hkn
  have hyk : y = hyp l k := by unfold hyp; rw [List.getD_eq_getElem?_getD, hy]; rfl
  subst hyk
  refine drawX [0, 1, 2, 3, 4, 5, 6, 7, 8, 9, 10, 11, 12, 13, 14] [7] mx (by kernel_rfl) ?_
  refine ldAX _ (hcb.kept x14 trivial) rfl (.refl _ _) ?_
  refine idx k rfl hkn ?_
  refine ldX _ (hcy 0 _ rfl) (.refl _ _) ?_
  have hset : setOk (hyp l k) = true := hyps_all hh _ (List.mem_of_getElem? hy)
  have hfull : full l.length = List.range n := by rw [full_range, hll]
  have hfol : pfollowL l p (f + 1) t (hyp l k) = ((followF p (hyp l k) (f + 1) t 0).1, (followF p (hyp l k) (f + 1) t 0).2, 0) := by
    rw [pfollowL_eq]
    unfold rfollowL
    have hw : rworthL l p (f + 1) t = (rworthF l p (f + 1) t (List.range n), true, 0) := by unfold rworthL; rw [hfull, if_neg (by omega), if_neg (by omega)]
    rw [hw, if_neg (by simp), if_neg (by rw [hset]; simp)]
  obtain ⟨sub, a1, a2, a3, a4, a5, a6⟩ := follow_right (l := l) hok (k := k) (f + 1) t (List.range n) 0 hpos (List.mem_range.2 hkn)
  have cF := fun c d e => c_Follow (c := c) (d := d) (e := e) (hl.ext x04) (hp.ext x04) (hT.ext x04) ((tTr (f + 1)).ext ht x04) hry
  rw [hfol] at cF
  refine call_of (cF _ _ _) ?_
  rintro _ w5 ⟨A8, n8, c8, rfl, r8, x5⟩
  refine strS x5 ?_
  have r8 : SlR tInt All w5 A8 n8 (ofNats sub) := a1 ▸ r8
  have hn8 := toAll_nats r8
  have hle8 := r8.le
  refine cN (fun h => absurd rfl h) (fun _ => ?_)
  refine cDF (by show ¬ (followF p (hyp l k) (f + 1) t 0).2 > _; omega) ?_
  refine len ?_
  refine loop2 (fun (j : Nat) (b : Bool) => [(99, .int .i64 j), (18, .bool b)]) (fun j b w' => j ≤ n8 ∧ Ext w5 w' ∧ b = (sub.take j).contains k) (fun j _ _ => n8 - j) 0 false ⟨rfl, rfl, trivial⟩ ⟨by omega, .refl _ _, by simp⟩ rfl ?_
  rintro G j b w6 ⟨hj, x6, hb⟩
  have x06 := (x04.trans x5).trans x6
  have hcy6 := hcy.kept (x5.trans x6) trivial
  have hry6 := hry.ext (x5.trans x6)
  refine cD (fun hlt => ?_) (fun hge => ?_)
  · have hlt : j < n8 := by omega
    obtain ⟨bs, os, _, i, rfl, hi, -, -, hci, rfl, -⟩ := (r8.ext x6).at_ hlt
    obtain ⟨a, ha, rfl⟩ : ∃ a, sub[j]? = some a ∧ (a : Int) = i := by
      unfold ofNats at hi
      rw [List.getElem?_map] at hi
      cases hs : sub[j]? with
      | none => rw [hs] at hi; cases hi
      | some a => rw [hs] at hi; exact ⟨a, rfl, Option.some.inj hi⟩
    have ham := List.mem_of_getElem? ha
    have han : a < n := List.mem_range.1 (a2 a ham)
    refine idx j rfl hlt ?_
    refine ld _ (hci 0 _ rfl) ?_
    refine cDF (by omega) ?_
    refine len ?_
    refine cDF (by omega) ?_
    have htk : (sub.take (j + 1)).contains k = ((sub.take j).contains k || (k == a)) := by rw [take_succ' ha, Bool.eq_iff_iff]; simp
    obtain ⟨bl', ol', _, y', e1, hy', -, -, hcy', Ay', ny', cy', rfl, hry', -⟩ := (hl.ext x06).at_ han
    simp only [Option.some.injEq, Addr.mk.injEq] at e1
    obtain ⟨rfl, rfl, _⟩ := e1
    cases b with
    | true =>
      refine len ?_
      refine loop_rule (fun i : Nat => [(119, .int .i64 i), (18, .bool true)]) (fun i w' => i ≤ m ∧ Ext w6 w') (fun i _ => m - i) 0 ⟨rfl, rfl, trivial⟩ ⟨by omega, .refl _ _⟩ rfl ?_
      rintro G i w7 ⟨hi7, x7⟩
      have x07 := x06.trans x7
      refine cD (fun hlt2 => ?_) (fun hge2 => ?_)
      · have hlt2 : i < m := by omega
        obtain ⟨b, o, cx, x, rfl, hx, -, -, hcx, hrx⟩ := (hp.ext x07).at_ hlt2
        obtain ⟨Ax, nx, cx', rfl, -⟩ := pr_open hrx
        refine idx i rfl hlt2 ?_
        refine ldA _ hcx rfl ?_
        refine alloc (fun g19 w8 h8 => ?_)
        refine stA (vs := [_, _]) h8.blk rfl (Nat.le_of_ble_eq_true rfl) (by simp [Value.oneCell']) (fun w9 hb9 k9 z9 => ?_)
        have e8 := h8.at_
        have x79 : Ext w7 w9 := h8.ext.then k9 (fun b hb _ e => by omega)
        have x69 := x7.trans x79
        refine drawX [0, 1, 2, 3, 4, 6, 7, 8, 9, 10, 5, 11, 12] [5, 11] mx (by kernel_rfl) ?_
        refine ldAX [.int .i64 x.1, .slice Ax nx cx'] (.blk hb9) rfl (.refl _ _) ?_
        refine idx a rfl han ?_
        refine ldX _ (hcy'.kept x69 trivial 0 _ rfl) (.refl _ _) ?_
        refine ldAX [.int .i64 x.1, .slice Ax nx cx'] (.blk hb9) rfl (.refl _ _) ?_
        refine idx k rfl hkn ?_
        refine ldX _ (hcy6.kept x69 trivial 0 _ rfl) (.refl _ _) ?_
        refine call_of (c_shows (cs := [.int .i64 x.1, .slice Ax nx cx']) (tPr.ext hrx x79) (hry'.ext x69)) ?_
        rintro _ w10 ⟨rfl, x10⟩
        refine strS x10 ?_
        refine call_of (c_shows (cs := [.int .i64 x.1, .slice Ax nx cx']) (tPr.ext hrx (x79.trans x10)) (hry6.ext (x69.trans x10))) ?_
        rintro _ w11 ⟨rfl, x11⟩
        refine strS (x10.trans x11) ?_
        have hsame := a4 x (List.mem_of_getElem? hx) a ham
        have hya : y' = hyp l a := by unfold hyp; rw [List.getD_eq_getElem?_getD, hy']; rfl
        refine neB (fun hne => absurd (by rw [hya]; exact hsame) hne) (fun _ => ?_)
        refine arI (by omega) ?_
        exact next (i + 1) ⟨rfl, rfl, trivial⟩ ⟨by omega, x69.trans (x10.trans x11)⟩ (by omega)
      · refine arI (by omega) ?_
        exact next2 (j + 1) true ⟨rfl, rfl, trivial⟩ ⟨by omega, x6.trans x7, by rw [htk, ← hb]; rfl⟩ (by omega)
    | false =>
      refine cB (k == a) (by rw [Bool.eq_iff_iff, beq_iff_eq, decide_eq_true_iff]; omega) ?_
      refine len ?_
      refine loop_rule (fun i : Nat => [(119, .int .i64 i), (18, .bool (k == a))]) (fun i w' => i ≤ m ∧ Ext w6 w') (fun i _ => m - i) 0 ⟨rfl, rfl, trivial⟩ ⟨by omega, .refl _ _⟩ rfl ?_
      rintro G i w7 ⟨hi7, x7⟩
      have x07 := x06.trans x7
      refine cD (fun hlt2 => ?_) (fun hge2 => ?_)
      · have hlt2 : i < m := by omega
        obtain ⟨b, o, cx, x, rfl, hx, -, -, hcx, hrx⟩ := (hp.ext x07).at_ hlt2
        obtain ⟨Ax, nx, cx', rfl, -⟩ := pr_open hrx
        refine idx i rfl hlt2 ?_
        refine ldA _ hcx rfl ?_
        refine alloc (fun g19 w8 h8 => ?_)
        refine stA (vs := [_, _]) h8.blk rfl (Nat.le_of_ble_eq_true rfl) (by simp [Value.oneCell']) (fun w9 hb9 k9 z9 => ?_)
        have e8 := h8.at_
        have x79 : Ext w7 w9 := h8.ext.then k9 (fun b hb _ e => by omega)
        have x69 := x7.trans x79
        refine drawX [0, 1, 2, 3, 4, 6, 7, 8, 9, 10, 5, 11, 12] [5, 11] mx (by kernel_rfl) ?_
        refine ldAX [.int .i64 x.1, .slice Ax nx cx'] (.blk hb9) rfl (.refl _ _) ?_
        refine idx a rfl han ?_
        refine ldX _ (hcy'.kept x69 trivial 0 _ rfl) (.refl _ _) ?_
        refine ldAX [.int .i64 x.1, .slice Ax nx cx'] (.blk hb9) rfl (.refl _ _) ?_
        refine idx k rfl hkn ?_
        refine ldX _ (hcy6.kept x69 trivial 0 _ rfl) (.refl _ _) ?_
        refine call_of (c_shows (cs := [.int .i64 x.1, .slice Ax nx cx']) (tPr.ext hrx x79) (hry'.ext x69)) ?_
        rintro _ w10 ⟨rfl, x10⟩
        refine strS x10 ?_
        refine call_of (c_shows (cs := [.int .i64 x.1, .slice Ax nx cx']) (tPr.ext hrx (x79.trans x10)) (hry6.ext (x69.trans x10))) ?_
        rintro _ w11 ⟨rfl, x11⟩
        refine strS (x10.trans x11) ?_
        have hsame := a4 x (List.mem_of_getElem? hx) a ham
        have hya : y' = hyp l a := by unfold hyp; rw [List.getD_eq_getElem?_getD, hy']; rfl
        refine neB (fun hne => absurd (by rw [hya]; exact hsame) hne) (fun _ => ?_)
        refine arI (by omega) ?_
        exact next (i + 1) ⟨rfl, rfl, trivial⟩ ⟨by omega, x69.trans (x10.trans x11)⟩ (by omega)
      · refine arI (by omega) ?_
        exact next2 (j + 1) (k == a) ⟨rfl, rfl, trivial⟩ ⟨by omega, x6.trans x7, by rw [htk, ← hb]; rfl⟩ (by omega)
  · obtain rfl : j = n8 := by omega
    have : b = true := by rw [hb, List.take_of_length_le (by omega), List.contains_iff_mem]; exact a3
    subst this
    exact ret1 (.bool true) rfl (done _ ((x14.trans x5).trans x6))
end
end Go.Proofs.YtcpdhclnmjfldaaGreatDoor

/- Own layer, part p: from a law's contract to its row's post. Nothing of the program stands here. -/
namespace Go.Proofs.YtcpdhclnmjfldaaGreatDoor
open Go Go.RowKit Go.ChangeShapes Go.WideShapes

section
variable {H : Type} {enc : TypeId × Value → H} {P : Program}
def canRead (P : Program) (ts : List TypeId) : Bool := ts.all fun t => P.readableRec t && decide (t < P.types.size)
theorem trodAll_stays (hl : laidOutB P = true) {W W' : World} {sp : Nat → Bool} : ∀ {ts : List TypeId} {vs : List Value} {ds : List (DataW H)} {ps : List MemPlace}, canRead P ts = true →
    DataW.TrodAll enc P W 0 (fun _ => true) true ts vs ds ps → (∀ p ∈ ps, W.sameAt W' p) → (∀ p ∈ ps, sp p.block = true) → DataW.TrodAll enc P W' 0 sp true ts vs ds ps
  | [], _, _, _, _, h, _, _ => by
    obtain ⟨rfl, rfl, rfl⟩ := trodAll_nil h
    exact trodAll_mk0
  | t :: ts, _, _, _, hc, h, hs, hsp => by
    obtain ⟨v, vs, d, ds, p, q, rfl, rfl, rfl, h1, h2⟩ := trodAll_cons h
    unfold canRead at hc
    rw [List.all_cons, Bool.and_eq_true, Bool.and_eq_true, decide_eq_true_eq] at hc
    exact ⟨p, q, Go.WideElems.Trod_stays hl hc.1.1 hc.1.2 h1 (fun x hx => hs x (List.mem_append_left _ hx)) (fun x hx => hsp x (List.mem_append_left _ hx)),
      trodAll_stays hl hc.2 h2 (fun x hx => hs x (List.mem_append_right _ hx)) (fun x hx => hsp x (List.mem_append_right _ hx)), rfl⟩
/-- A law has answered true, and what was there below is as it was. -/
theorem law_post {f : Func} {s : ChangeSpec} {apart fresh handsOn again : Bool} {W W' : World} {args : Array Value} {tb : TypeId} {ds gs : List (DataW H)} {before : List MemPlace} (hl : laidOutB P = true) (hc : canRead P f.params.toList = true)
    (hr : f.resultTypes = #[tb]) (hb : P.underlying tb = some .bool) (hv : s.vars = []) (hs : (s.fn H ds).results = [.lit (.bool true)] ∧ (s.fn H ds).args = ds ∧ (s.fn H ds).vars = [])
    (hW : DataW.Whole enc P f.params.toList s.vars apart W args.toList ds gs before) (hx : Below W.heap.size W W') : s.post enc P f apart fresh handsOn again W args (.bool true) W' := by
  have hlt : ∀ p ∈ before, p.block < W.heap.size := fun p hp => hW.lt p hp
  have hW' := hW
  obtain ⟨p, q, hA, hV, rfl, hz, hn⟩ := hW
  rw [hv] at hV
  obtain ⟨rfl, rfl⟩ := trodVars_none hV
  simp only [List.append_nil] at hlt hz hn
  have hsame : ∀ x ∈ p, W.sameAt W' x := fun x hx' => hx.same (hlt x hx')
  have hargs : ∀ sp : Nat → Bool, (∀ x ∈ p, sp x.block = true) → DataW.TrodAll enc P W' 0 sp true f.params.toList args.toList ds p := fun sp h => trodAll_stays hl hc hA hsame h
  have hres : ∀ (b : Nat) (sp : Nat → Bool) (hd : Bool), DataW.TrodAll enc P W' b sp hd f.resultTypes.toList ((Value.bool true).resultList f.resultTypes.size) [.lit (.bool true)] [] := fun b sp hd => by
    rw [hr]; exact trodAll_mk1 (shut_bool hb _)
  have hok : ∀ (j : Nat) (t : TypeId) (r : Value), f.resultTypes[j]? = some t → ((Value.bool true).resultList f.resultTypes.size)[j]? = some r → Value.okWide P W' .any 0 t r := by
    intro j t r h1 h2
    rw [hr] at h1 h2
    match j, h1, h2 with
    | 0, h1, h2 =>
      simp [Value.resultList] at h1 h2
      subst h1; subst h2
      exact okWide_bool_mk hb _
    | j + 1, h1, _ => simp at h1
  refine ⟨ds, [], p ++ [], [], p, [], hW', ?_, ?_, ?_, ?_, fun _ => ?_⟩
  · rw [List.append_nil, hs.1]; exact hres _ _ _
  · rw [List.append_nil, hs.2.1]; exact hargs _ fun x hx' => by simpa using hlt x hx'
  · rw [List.append_nil, hs.2.2, hv]; rfl
  · refine World.keptBut_mono (fun x hx' => ⟨hx', ?_⟩) (hx.frame (· ∈ p ++ []))
    right
    simpa using hx'
  · have hall := trodAll_append (hargs (fun _ => true) (fun _ _ => rfl)) (hres 0 (fun _ => true) true)
    refine ⟨hok, [.lit (.bool true)] ++ ds, [], p ++ [], ⟨p, [], hall, by rw [hv]; rfl, rfl, ?_, ?_⟩, ?_⟩
    · intro b off hp
      have hin : MemPlace.cell b off ∈ p := by simpa using hp
      rw [hx.frozen (hlt _ hin)]
      exact hz b off hin
    · intro ha; simpa using hn ha
    · intro x hx' _; exact hx'
end
end Go.Proofs.YtcpdhclnmjfldaaGreatDoor

/- Closing: what a district that is handed in reads as. -/
namespace Go.Proofs.YtcpdhclnmjfldaaGreatDoor
open Go Go.RowKit Go.ChangeShapes Go.WideShapes Go.ChangeAt

theorem own : ownKnob Tryz.prog.godebug = none := by kernel_rfl
theorem laidOut : laidOutB Tryz.prog = true := by kernel_rfl
instance nz1 : NeZero 1 := ⟨by decide⟩
instance nz8 : NeZero 8 := ⟨by decide⟩
instance nz16 : NeZero 16 := ⟨by decide⟩
instance nz24 : NeZero 24 := ⟨by decide⟩
instance nz32 : NeZero 32 := ⟨by decide⟩
instance nz40 : NeZero 40 := ⟨by decide⟩
instance nz48 : NeZero 48 := ⟨by decide⟩
instance nz56 : NeZero 56 := ⟨by decide⟩
instance nz88 : NeZero 88 := ⟨by decide⟩
instance nz104 : NeZero 104 := ⟨by decide⟩

section
variable {P : Program} {α β : Type} {a : Ty α} {b : Ty β}
theorem rdAt {α : Type} (P : Program) (t : TypeId) (a : Ty α) [h : Rd P t a] (n : Nat) : RdN P n t a := h.h n
def tStr : Ty ByteArray := tFl 1 (fun s => [.string s]) fun _ => rfl
theorem rd_str {t : TypeId} (h : P.underlying t = some .string) : Rd P t tStr := ⟨fun n => ⟨fun {H enc W cs x} hx _ => by
  obtain ⟨s, hs, _⟩ := DataW.trod_string h hx
  exact ⟨s, hs⟩⟩⟩
theorem Rd.of {t : TypeId} (f : α → β) (h : Rd P t a) (hf : ∀ W cs y, a.rep AnyB W cs y → b.rep AnyB W cs (f y)) : Rd P t b := ⟨fun n => ⟨fun {H enc W cs x} hx hw => by
  obtain ⟨y, hy⟩ := (h.h n).h hx hw
  exact ⟨f y, hf W cs y hy⟩⟩⟩
theorem rd_arr2 {t e : TypeId} (hu : P.underlying t = some (.array 2 e)) (hc : P.cellsOf t = a.sz + a.sz) (he : P.cellsOf e = a.sz) (hr : Rd P e a) : Rd P t (tPair a a) := ⟨fun n => ⟨fun {H enc W cs x} hx hw => by
  obtain ⟨xs, m, rfl, rfl, hl, hxl, hi⟩ := DataW.trod_array hu hx
  dsimp only at hw
  rw [DataW.weights, hu] at hw
  dsimp only at hw
  have el : ∀ i, i < 2 → ∃ y, a.rep AnyB W ((cs.drop (i * P.cellsOf e)).take (P.cellsOf e)) y := fun i h2 => by
    have h1 := hi i h2
    have h3 : i < xs.length := by omega
    rw [List.getElem?_eq_getElem h3] at h1
    exact (hr.h m).h h1 (weightsAll_mem (List.mem_map_of_mem (List.getElem_mem h3)) hw)
  obtain ⟨y0, h0⟩ := el 0 (by omega)
  obtain ⟨y1, h1⟩ := el 1 (by omega)
  rw [he] at h0 h1
  rw [hc] at hl
  refine ⟨(y0, y1), _, _, ?_, h0, h1⟩
  rw [Nat.zero_mul, List.drop_zero, Nat.one_mul, List.take_of_length_le (l := cs.drop a.sz) (by rw [List.length_drop]; omega), List.take_append_drop]⟩⟩
end

theorem rd_range : Rd Tryz.prog 139 (tPair tInt tInt) := Rd.struct Tryz.underlying139 (by kernel_rfl) fun n => .cons (rdAt Tryz.prog 3 tInt n) rfl (.one (rdAt Tryz.prog 3 tInt n) rfl)
theorem rd_ratio : Rd Tryz.prog 150 (tPair tInt tInt) := Rd.struct Tryz.underlying150 (by kernel_rfl) fun n => .cons (rdAt Tryz.prog 3 tInt n) rfl (.one (rdAt Tryz.prog 3 tInt n) rfl)
theorem rd_tank : Rd Tryz.prog 23 (tPair tInt tInt) := Rd.struct Tryz.underlying23 (by kernel_rfl) fun n => .cons (rdAt Tryz.prog 3 tInt n) rfl (.one (rdAt Tryz.prog 3 tInt n) rfl)
theorem rd_ratios2 : Rd Tryz.prog 151 (tPair (tPair tInt tInt) (tPair tInt tInt)) := rd_arr2 (e := 150) Tryz.underlying151 (by kernel_rfl) (by kernel_rfl) rd_ratio
theorem rd_name : Rd Tryz.prog 9 tStr := rd_str Tryz.underlying9
theorem rd_reach : Rd Tryz.prog 153 tReach := by
  refine Rd.of (fun y : ByteArray × Int × Int × Int × Int × Int × (Int × Int) × (Int × Int) × (Int × Int) => (⟨y.1, y.2.1, y.2.2.1, y.2.2.2.1, y.2.2.2.2.1, y.2.2.2.2.2.1, ⟨y.2.2.2.2.2.2.1.1, y.2.2.2.2.2.2.1.2⟩, ⟨y.2.2.2.2.2.2.2.1.1, y.2.2.2.2.2.2.2.1.2⟩, ⟨y.2.2.2.2.2.2.2.2.1, y.2.2.2.2.2.2.2.2.2⟩⟩ : Reach))
    (Rd.struct Tryz.underlying153 (by kernel_rfl) fun n => .cons (rd_name.h n) rfl (.cons (rdAt Tryz.prog 3 tInt n) rfl (.cons (rdAt Tryz.prog 3 tInt n) rfl (.cons (rdAt Tryz.prog 3 tInt n) rfl (.cons (rdAt Tryz.prog 3 tInt n) rfl (.cons (rdAt Tryz.prog 3 tInt n) rfl (.cons (rd_range.h n) rfl (.one (rd_ratios2.h n) rfl)))))))) ?_
  rintro W cs ⟨s, u, d, c, k, i, ⟨e1, e2⟩, ⟨f1, f2⟩, ⟨g1, g2⟩⟩ ⟨_, _, rfl, rfl, _, _, rfl, ⟨rfl, -⟩, _, _, rfl, ⟨rfl, -⟩, _, _, rfl, ⟨rfl, -⟩, _, _, rfl, ⟨rfl, -⟩, _, _, rfl, ⟨rfl, -⟩, _, _, rfl, ⟨_, _, rfl, ⟨rfl, -⟩, ⟨rfl, -⟩⟩, _, _, rfl, ⟨_, _, rfl, ⟨rfl, -⟩, ⟨rfl, -⟩⟩, ⟨_, _, rfl, ⟨rfl, -⟩, ⟨rfl, -⟩⟩⟩
  rfl
theorem rd_farm : Rd Tryz.prog 172 tFarm := by
  refine Rd.of (fun y : ByteArray × Int × Int × Int => (⟨y.1, y.2.1, y.2.2.1, y.2.2.2⟩ : Farm))
    (Rd.struct Tryz.underlying172 (by kernel_rfl) fun n => .cons (rd_name.h n) rfl (.cons (rdAt Tryz.prog 3 tInt n) rfl (.cons (rdAt Tryz.prog 3 tInt n) rfl (.one (rdAt Tryz.prog 3 tInt n) rfl)))) ?_
  rintro W cs ⟨s, u, d, c⟩ ⟨_, _, rfl, rfl, _, _, rfl, ⟨rfl, -⟩, _, _, rfl, ⟨rfl, -⟩, ⟨rfl, -⟩⟩
  rfl
theorem rd_crop : Rd Tryz.prog 170 tCrop := by
  refine Rd.of (fun y : ByteArray × Int => (⟨y.1, y.2⟩ : Crop))
    (Rd.struct Tryz.underlying170 (by kernel_rfl) fun n => .cons (rd_name.h n) rfl (.one (rdAt Tryz.prog 3 tInt n) rfl)) ?_
  rintro W cs ⟨s, u⟩ ⟨_, _, rfl, rfl, ⟨rfl, -⟩⟩
  rfl
theorem rd_duty : Rd Tryz.prog 177 tDuty := by
  refine Rd.of (fun y : ByteArray × Int × Int × Int => (⟨y.1, y.2.1, y.2.2.1, y.2.2.2⟩ : Duty))
    (Rd.struct Tryz.underlying177 (by kernel_rfl) fun n => .cons (rd_name.h n) rfl (.cons (rdAt Tryz.prog 3 tInt n) rfl (.cons (rdAt Tryz.prog 3 tInt n) rfl (.one (rdAt Tryz.prog 3 tInt n) rfl)))) ?_
  rintro W cs ⟨s, u, d, c⟩ ⟨_, _, rfl, rfl, _, _, rfl, ⟨rfl, -⟩, _, _, rfl, ⟨rfl, -⟩, ⟨rfl, -⟩⟩
  rfl
theorem rd_right : Rd Tryz.prog 174 tRight := by
  refine Rd.of (fun y : ByteArray × Int × Int × Int × Int × Int × Int × Int × Int × Int => (⟨y.1, y.2.1, y.2.2.1, y.2.2.2.1, y.2.2.2.2.1, y.2.2.2.2.2.1, y.2.2.2.2.2.2.1, y.2.2.2.2.2.2.2.1, y.2.2.2.2.2.2.2.2.1, y.2.2.2.2.2.2.2.2.2⟩ : Right))
    (Rd.struct Tryz.underlying174 (by kernel_rfl) fun n => .cons (rd_name.h n) rfl (.cons (rdAt Tryz.prog 3 tInt n) rfl (.cons (rdAt Tryz.prog 3 tInt n) rfl (.cons (rdAt Tryz.prog 3 tInt n) rfl (.cons (rdAt Tryz.prog 3 tInt n) rfl (.cons (rdAt Tryz.prog 3 tInt n) rfl (.cons (rdAt Tryz.prog 3 tInt n) rfl (.cons (rdAt Tryz.prog 3 tInt n) rfl (.cons (rdAt Tryz.prog 3 tInt n) rfl (.one (rdAt Tryz.prog 3 tInt n) rfl)))))))))) ?_
  rintro W cs ⟨s, a, b, c, d, e, f, g, h, i⟩ ⟨_, _, rfl, rfl, _, _, rfl, ⟨rfl, -⟩, _, _, rfl, ⟨rfl, -⟩, _, _, rfl, ⟨rfl, -⟩, _, _, rfl, ⟨rfl, -⟩, _, _, rfl, ⟨rfl, -⟩, _, _, rfl, ⟨rfl, -⟩, _, _, rfl, ⟨rfl, -⟩, _, _, rfl, ⟨rfl, -⟩, ⟨rfl, -⟩⟩
  rfl
theorem rd_well : Rd Tryz.prog 223 tWell := Rd.map (g := fun y : Int × Int × Int × List Int => (⟨y.1, y.2.1, y.2.2.1, y.2.2.2⟩ : Well))
    (Rd.struct Tryz.underlying223 (by kernel_rfl) fun n => .cons (rdAt Tryz.prog 3 tInt n) rfl (.cons (rdAt Tryz.prog 3 tInt n) rfl (.cons (rdAt Tryz.prog 3 tInt n) rfl (.one (rdAt Tryz.prog 45 (tSl tInt) n) rfl)))) fun _ => rfl
instance : Rd Tryz.prog 153 tReach := rd_reach
instance : Rd Tryz.prog 172 tFarm := rd_farm
instance : Rd Tryz.prog 170 tCrop := rd_crop
instance : Rd Tryz.prog 174 tRight := rd_right
instance : Rd Tryz.prog 177 tDuty := rd_duty
instance : Rd Tryz.prog 223 tWell := rd_well
theorem rd_reaches : Rd Tryz.prog 24 (tSl tReach) := inferInstance
theorem rd_farms : Rd Tryz.prog 25 (tSl tFarm) := inferInstance
theorem rd_crops : Rd Tryz.prog 26 (tSl tCrop) := inferInstance
theorem rd_rights : Rd Tryz.prog 27 (tSl tRight) := inferInstance
theorem rd_duties : Rd Tryz.prog 28 (tSl tDuty) := inferInstance
theorem rd_wells : Rd Tryz.prog 29 (tSl tWell) := inferInstance
theorem rd_dist : Rd Tryz.prog 31 tDist := by
  refine Rd.of (fun y : ByteArray × Int × (Int × Int) × List Reach × List Farm × List Crop × List Right × List Duty × List Well => (⟨y.1, y.2.1, y.2.2.1.1, y.2.2.1.2, y.2.2.2.1, y.2.2.2.2.1, y.2.2.2.2.2.1, y.2.2.2.2.2.2.1, y.2.2.2.2.2.2.2.1, y.2.2.2.2.2.2.2.2⟩ : Dist))
    (Rd.struct Tryz.underlying31 (by kernel_rfl) fun n => .cons (rd_name.h n) rfl (.cons (rdAt Tryz.prog 3 tInt n) rfl (.cons (rd_tank.h n) rfl (.cons (rd_reaches.h n) rfl (.cons (rd_farms.h n) rfl (.cons (rd_crops.h n) rfl (.cons (rd_rights.h n) rfl (.cons (rd_duties.h n) rfl (.one (rd_wells.h n) rfl))))))))) ?_
  rintro W cs ⟨s, h, ⟨c, t⟩, l1, l2, l3, l4, l5, l6⟩ ⟨_, _, rfl, rfl, _, _, rfl, ⟨rfl, -⟩, _, _, rfl, ⟨_, _, rfl, ⟨rfl, -⟩, ⟨rfl, -⟩⟩, _, _, rfl, ⟨A1, n1, c1, rfl, h1, -⟩, _, _, rfl, ⟨A2, n2, c2, rfl, h2, -⟩, _, _, rfl, ⟨A3, n3, c3, rfl, h3, -⟩, _, _, rfl, ⟨A4, n4, c4, rfl, h4, -⟩, _, _, rfl, ⟨A5, n5, c5, rfl, h5, -⟩, A6, n6, c6, rfl, h6, -⟩
  exact DiR.of_ ⟨A1, n1, c1, A2, n2, c2, A3, n3, c3, A4, n4, c4, A5, n5, c5, A6, n6, c6, rfl, h1, h2, h3, h4, h5, h6⟩
end Go.Proofs.YtcpdhclnmjfldaaGreatDoor

/- Closing: what evidence and Truths that are handed in read as. -/
namespace Go.Proofs.YtcpdhclnmjfldaaGreatDoor
open Go Go.RowKit Go.ChangeShapes Go.WideShapes Go.ChangeAt

def tEvR : Ty Ev where
  sz := 2
  rep := EvR
  len h := by obtain ⟨_, _, _, _, _, _, rfl, -⟩ := h.ex; rfl
  keep hk h := h.keep hk
  more hk h := h.more hk
theorem rd_is : Rd Tryz.prog 45 (tSl tInt) := inferInstance
theorem rd_rg : Rd Tryz.prog 139 tRg := by
  refine Rd.of (fun y : Int × Int => (⟨y.1, y.2⟩ : Rg)) rd_range ?_
  rintro W cs ⟨s, u⟩ ⟨_, _, rfl, ⟨rfl, -⟩, ⟨rfl, -⟩⟩
  rfl
theorem rd_su : Rd Tryz.prog 110 tSu := by
  refine Rd.of (fun y : Int × Int × Int => (⟨y.1, y.2.1, y.2.2⟩ : Su))
    (Rd.struct Tryz.underlying110 (by kernel_rfl) fun n => .cons (rdAt Tryz.prog 3 tInt n) rfl (.cons (rdAt Tryz.prog 3 tInt n) rfl (.one (rdAt Tryz.prog 3 tInt n) rfl))) ?_
  rintro W cs ⟨s, u, d⟩ ⟨_, _, rfl, ⟨rfl, -⟩, _, _, rfl, ⟨rfl, -⟩, ⟨rfl, -⟩⟩
  rfl
instance : Rd Tryz.prog 139 tRg := rd_rg
instance : Rd Tryz.prog 110 tSu := rd_su
theorem rd_rgs : Rd Tryz.prog 63 (tSl tRg) := inferInstance
theorem rd_wave : Rd Tryz.prog 65 tWv := Rd.map (g := fun y : Int × List Rg × List Rg × List Rg => (⟨y.1, y.2.1, y.2.2.1, y.2.2.2⟩ : Wv))
    (Rd.struct Tryz.underlying65 (by kernel_rfl) fun n => .cons (rdAt Tryz.prog 3 tInt n) rfl (.cons (rd_rgs.h n) rfl (.cons (rd_rgs.h n) rfl (.one (rd_rgs.h n) rfl)))) fun _ => rfl
theorem rd_tru : Rd Tryz.prog 143 tTru := Rd.map (g := fun y : List Int × List Int × List Int × List Int × List Int => (⟨y.1, y.2.1, y.2.2.1, y.2.2.2.1, y.2.2.2.2⟩ : Tru))
    (Rd.struct Tryz.underlying143 (by kernel_rfl) fun n => .cons (rd_is.h n) rfl (.cons (rd_is.h n) rfl (.cons (rd_is.h n) rfl (.cons (rd_is.h n) rfl (.one (rd_is.h n) rfl))))) fun _ => rfl
instance : Rd Tryz.prog 65 tWv := rd_wave
instance : Rd Tryz.prog 143 tTru := rd_tru
theorem rd_waves : Rd Tryz.prog 32 (tSl tWv) := inferInstance
theorem rd_sus : Rd Tryz.prog 33 (tSl tSu) := inferInstance
theorem rd_ev : Rd Tryz.prog 35 tEvR := by
  refine Rd.of (fun y : List Wv × List Su => (⟨y.1, y.2⟩ : Ev))
    (Rd.struct Tryz.underlying35 (by kernel_rfl) fun n => .cons (rd_waves.h n) rfl (.one (rd_sus.h n) rfl)) ?_
  rintro W cs ⟨l1, l2⟩ ⟨_, _, rfl, ⟨A1, n1, c1, rfl, h1, g1⟩, A2, n2, c2, rfl, h2, g2⟩
  exact EvR.of_ ⟨A1, n1, c1, A2, n2, c2, rfl, h1, h2, g1, g2⟩
end Go.Proofs.YtcpdhclnmjfldaaGreatDoor

/- Closing: what measurements that are handed in read as; the table of trailing zeros. -/
namespace Go.Proofs.YtcpdhclnmjfldaaGreatDoor
open Go Go.RowKit Go.ChangeShapes Go.WideShapes Go.ChangeAt

theorem rd_pr : Rd Tryz.prog 54 tPr := Rd.struct Tryz.underlying54 (by kernel_rfl) fun n => .cons (rdAt Tryz.prog 3 tInt n) rfl (.one (rdAt Tryz.prog 45 (tSl tInt) n) rfl)
instance : Rd Tryz.prog 54 tPr := rd_pr
theorem rd_prs : Rd Tryz.prog 36 (tSl tPr) := inferInstance
theorem gTab : Tryz.prog.globalNamed "math/bits.deBruijn64tab" = some 1 := by kernel_rfl
theorem gTabType : (Tryz.prog.globals[1]?).map (·.type) = some 192 := by kernel_rfl
theorem tabW {W : World} (h : laidMetH Tryz.prog [("math/bits.deBruijn32tab", Rows.laid_math_bits_deBruijn32tab), ("math/bits.deBruijn64tab", Rows.laid_math_bits_deBruijn64tab)] W) : TabW W := by
  have h : laidMet Tryz.prog [("math/bits.deBruijn32tab", Rows.laid_math_bits_deBruijn32tab), ("math/bits.deBruijn64tab", Rows.laid_math_bits_deBruijn64tab)] W := h
  have ht := Lib.tabIs_of_head (k := .u8) (zs := tab64.map fun n : Nat => (n : Int)) (rest := []) gTab gTabType Tryz.underlying192 Tryz.underlying5 (by kernel_rfl) (by kernel_rfl) h.tail
  intro j v hv
  rw [List.getElem?_map] at hv
  cases hj : tab64[j]? with
  | none => rw [hj] at hv; cases hv
  | some x =>
    rw [hj] at hv
    obtain rfl : Value.int .u8 (x : Int) = v := Option.some.inj hv
    have hlt := (List.getElem?_eq_some_iff.1 hj).1
    have := ht.cell gTab j (by rw [List.length_map]; exact hlt)
    rw [Nat.zero_add]
    rw [List.getD_eq_getElem?_getD, List.getElem?_map, hj] at this
    exact this
end Go.Proofs.YtcpdhclnmjfldaaGreatDoor
