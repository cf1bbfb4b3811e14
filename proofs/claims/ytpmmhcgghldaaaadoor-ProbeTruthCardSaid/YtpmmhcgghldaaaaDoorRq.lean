/- The program's way is the reference's: trees, their worth, where they lead to. -/
import Derived.Test.YtpmmhcgghldaaaaDoorRp
namespace Go.Proofs.YtpmmhcgghldaaaaDoor

theorem firstFrom_none {α : Type} {f : α → Bool} : ∀ {p : List α} {k : Nat}, (∀ x ∈ p, f x = false) → firstFrom f k p = none
  | [], _, _ => rfl
  | x :: r, k, h => by
    unfold firstFrom
    rw [h x List.mem_cons_self]
    exact firstFrom_none fun y hy => h y (List.mem_cons_of_mem _ hy)
theorem firstFrom_some {α : Type} {f : α → Bool} : ∀ {p : List α} {k j : Nat} {x : α}, p[j]? = some x → f x = true → (∀ i y, i < j → p[i]? = some y → f y = false) → firstFrom f k p = some (k + j, x)
  | [], _, _, _, h, _, _ => by simp at h
  | y :: r, k, 0, x, h, hx, _ => by
    simp at h; subst h
    unfold firstFrom
    rw [hx]; rfl
  | y :: r, k, j + 1, x, h, hx, hn => by
    unfold firstFrom
    rw [hn 0 y (by omega) rfl]
    have := firstFrom_some (k := k + 1) (j := j) (x := x) (by simpa using h) hx (fun i z hi hz => hn (i + 1) z (by omega) (by simpa using hz))
    rw [show k + (j + 1) = k + 1 + j from by omega]
    exact this
theorem mem_ext {s n m : Nat} (hs : s < 2 ^ n) (hnm : n ≤ m) : mem s m = mem s n := by
  induction hnm with
  | refl => rfl
  | step h ih =>
    rename_i m
    have h : n ≤ m := h
    have hb : s.testBit m = false := Nat.testBit_lt_two_pow (Nat.lt_of_lt_of_le hs (Nat.pow_le_pow_right (by omega) h))
    rw [mem_succ, ih, hb]; simp
theorem mem_nil {s n : Nat} (hs : s < 2 ^ n) : (mem s n).length = 0 ↔ s = 0 := by
  constructor
  · intro h; rw [← bitsL_mem hs, bitsL_eq_zero]; exact List.eq_nil_of_length_eq_zero h
  · intro h; rw [List.length_eq_zero_iff, ← bitsL_eq_zero, bitsL_mem hs]; exact h
theorem mem_pos {s n : Nat} (hs : s < 2 ^ n) : 0 < (mem s n).length ↔ s ≠ 0 := by
  have := mem_nil hs; omega

/-- What stands for all that is said of hypotheses and measurements here. -/
structure LP (l : List (List Int)) (p : List Pr) : Prop where
  N : l.length ≤ 12
  m : p.length ≤ 12
  hl : ∀ y ∈ l, setOk y = true
  hp : ∀ x ∈ p, setOk x.2 = true
  ok : prOk p
theorem hyps_all : ∀ {l : List (List Int)} {pre : List (List Int)}, hypsFrom pre l = true → ∀ y ∈ l, setOk y = true
  | [], _, _, _, h => by cases h
  | x :: r, pre, h, y, hy => by
    unfold hypsFrom at h
    simp only [Bool.and_eq_true] at h
    rcases List.mem_cons.1 hy with rfl | hy
    · exact h.1.1
    · exact hyps_all h.2 y hy
theorem LP.of {l : List (List Int)} {p : List Pr} (h : checkL l p = 0) : LP l p := by
  obtain ⟨h1, h2, h3, h4⟩ := checkL_ok h
  refine ⟨h1, h2, hyps_all h3, fun x hx => ?_, prOk_of h4⟩
  have := List.all_eq_true.1 h4 x hx
  unfold probeOk at this
  simp at this
  exact this.2

section
variable {l : List (List Int)} {p : List Pr}
/-- A measurement's mask. -/
abbrev mk_ (l : List (List Int)) (x : Pr) : Nat := shownM (l.map mask) (mask x.2)
abbrev psx (l : List (List Int)) (x : Pr) : Int × Nat := (x.1, mk_ l x)
theorem ps_get (j : Nat) : (pdOf l p).ps[j]? = (p[j]?).map (psx l) := by rw [psOfEq, List.getElem?_map]
theorem ps_len : (pdOf l p).ps.length = p.length := by rw [psOfEq, List.length_map]
theorem and_sub_lt {m S n : Nat} (hS : S < 2 ^ n) : m &&& S < 2 ^ n ∧ S - (m &&& S) < 2 ^ n := by
  have : m &&& S ≤ S := Nat.and_le_right
  omega
theorem parts_len (h : LP l p) {S : Nat} (hS : S < 2 ^ l.length) {x : Pr} (hx : x ∈ p) : (mem (mk_ l x &&& S) l.length).length + (mem (S - (mk_ l x &&& S)) l.length).length = (mem S l.length).length := by
  have hsp := part_split (l := l) (x := x) (list := mem S l.length)
  rwa [part_true h.hl (h.hp x hx), part_false hS h.hl (h.hp x hx)] at hsp
theorem any_congr' {α : Type} {f g : α → Bool} : ∀ {p : List α}, (∀ x ∈ p, f x = g x) → p.any f = p.any g
  | [], _ => rfl
  | x :: r, h => by rw [List.any_cons, List.any_cons, h x List.mem_cons_self, any_congr' fun y hy => h y (List.mem_cons_of_mem _ hy)]
theorem rgood_eq (h : LP l p) {S : Nat} (hS : S < 2 ^ l.length) {x : Pr} (hx : setOk x.2 = true) :
    rgood l (fun k => (rtab l p (2 ^ l.length)).getD k 0) (mem S l.length) x = (psep (mk_ l x) S && decide (pval (B (pdOf l p).ps) S (psx l x) = (B (pdOf l p).ps S).1)) := by
  obtain ⟨h1, h2⟩ := and_sub_lt (m := mk_ l x) hS
  unfold rgood
  rw [part_false hS h.hl hx, part_true h.hl hx, bitsL_mem h1, bitsL_mem h2, bitsL_mem hS]
  simp only [tab_eq h.hl h.hp _ (Nat.le_refl _) _ h1, tab_eq h.hl h.hp _ (Nat.le_refl _) _ h2, tab_eq h.hl h.hp _ (Nat.le_refl _) _ hS, mem_pos h1, mem_pos h2]
  have hle : mk_ l x &&& S ≤ S := Nat.and_le_right
  unfold psep pval
  rw [Bool.eq_iff_iff, decide_eq_true_iff, Bool.and_eq_true, decide_eq_true_iff, Int.max_comm]
  simp only [Bool.and_eq_true, Bool.not_eq_true', beq_eq_false_iff_ne, ne_eq]
  constructor
  · rintro ⟨a, b, c⟩; exact ⟨⟨b, fun e => a (by omega)⟩, c⟩
  · rintro ⟨⟨a, b⟩, c⟩; exact ⟨fun e => b (by omega), a, c⟩
/-- The best choice, spelled out. -/
theorem B_cases (l : List (List Int)) (p : List Pr) (S : Nat) :
    (B (pdOf l p).ps S = (0, -1) ∧ ∀ x ∈ p, psep (mk_ l x) S = false) ∨
    (∃ (j : Nat) (x : Pr), p[j]? = some x ∧ B (pdOf l p).ps S = (pval (B (pdOf l p).ps) S (psx l x), (j : Int)) ∧ psep (mk_ l x) S = true ∧
      (∀ (k : Nat) (y : Pr), k < j → p[k]? = some y → psep (mk_ l y) S = true → pval (B (pdOf l p).ps) S (psx l x) < pval (B (pdOf l p).ps) S (psx l y)) ∧
      (∀ y ∈ p, psep (mk_ l y) S = true → pval (B (pdOf l p).ps) S (psx l x) ≤ pval (B (pdOf l p).ps) S (psx l y))) := by
  rcases pfold_first (rec := B (pdOf l p).ps) (S := S) (pdOf l p).ps 0 (0, -1) (.inl (by decide)) with ⟨h1, h2, _⟩ | ⟨j, x, hj, h1, h2, _, h4, h5⟩
  · refine .inl ⟨by rw [B_eq]; exact h1, fun x hx => ?_⟩
    obtain ⟨k, hk⟩ := List.getElem?_of_mem hx
    exact h2 (by decide) (psx l x) (List.mem_of_getElem? (by rw [ps_get, hk]; rfl : (pdOf l p).ps[k]? = some (psx l x)))
  · rw [ps_get] at hj
    cases hx : p[j]? with
    | none => rw [hx] at hj; cases hj
    | some x0 =>
      rw [hx] at hj
      obtain rfl : psx l x0 = x := Option.some.inj hj
      refine .inr ⟨j, x0, hx, by rw [B_eq, h1, Nat.zero_add], h2, fun k y hk hy hs => h4 k (psx l y) hk (by rw [ps_get, hy]; rfl) hs, fun y hy hs => ?_⟩
      obtain ⟨k, hk⟩ := List.getElem?_of_mem hy
      exact h5 k (psx l y) (by rw [ps_get, hk]; rfl) hs
theorem mAt_j {j : Nat} {x : Pr} (h : p[j]? = some x) : mAt (pdOf l p).ps (j : Int) = mk_ l x ∧ cAt (pdOf l p).ps (j : Int) = x.1 := by
  unfold mAt cAt
  rw [Int.toNat_natCast, List.getD_eq_getElem?_getD, ps_get, h]
  exact ⟨rfl, rfl⟩

theorem tree_eq (h : LP l p) : ∀ (f f' S : Nat), S < 2 ^ l.length → S < f → (mem S l.length).length < f' → ptree (pdOf l p).ps f S = rtreeF l p (fun k => (rtab l p (2 ^ l.length)).getD k 0) f' (mem S l.length)
  | 0, _, _, _, h0, _ => absurd h0 (Nat.not_lt_zero _)
  | f + 1, 0, _, _, _, h0 => absurd h0 (Nat.not_lt_zero _)
  | f + 1, f' + 1, S, hS, h1, h2 => by
    have hg : ∀ x ∈ p, _ := fun x hx => rgood_eq h hS (h.hp x hx)
    rcases B_cases l p S with ⟨hB, hn⟩ | ⟨j, x, hj, hB, hs, hlt, hle⟩
    · unfold ptree rtreeF
      rw [hB, if_pos (by decide), firstFrom_none (fun x hx => by rw [hg x hx, hn x hx]; rfl), mem_ext hS h.N]
      rfl
    · have hx := List.mem_of_getElem? hj
      have hff : firstFrom (rgood l (fun k => (rtab l p (2 ^ l.length)).getD k 0) (mem S l.length)) 0 p = some (0 + j, x) :=
        firstFrom_some hj (by rw [hg x hx, hs, hB]; simp) (fun i y hi hy => by
          rw [hg y (List.mem_of_getElem? hy), hB]
          cases hsy : psep (mk_ l y) S with
          | false => rfl
          | true =>
            have := hlt i y hi hy hsy
            rw [decide_eq_false (by show ¬ _ = pval _ S _; omega)]; rfl)
      obtain ⟨p1, p2, p3⟩ := psep_lt hs
      obtain ⟨q1, q2⟩ := and_sub_lt (m := mk_ l x) hS
      have hsp := parts_len h hS hx
      have n1 := (mem_pos q1).2 (by omega)
      have n2 := (mem_pos q2).2 (by omega)
      unfold ptree rtreeF
      rw [hff, hB, if_neg (by show ¬ (j : Int) < 0; omega)]
      simp only [Nat.zero_add]
      rw [(mAt_j hj).1, part_true h.hl (h.hp x hx), part_false hS h.hl (h.hp x hx), tree_eq h f f' _ q1 (by omega) (by omega), tree_eq h f f' _ q2 (by omega) (by omega)]

theorem any_psep (h : LP l p) {S : Nat} (hS : S < 2 ^ l.length) : ((pdOf l p).ps.any fun x => psep x.2 S) = (p.any fun x => sepL l x (mem S l.length)) := by
  rw [psOfEq, List.any_map]
  refine any_congr' fun x hx => ?_
  obtain ⟨q1, q2⟩ := and_sub_lt (m := mk_ l x) hS
  have hsp := parts_len h hS hx
  have n1 := mem_pos q1
  have n2 := mem_pos q2
  have hle : mk_ l x &&& S ≤ S := Nat.and_le_right
  show psep (mk_ l x) S = sepL l x (mem S l.length)
  unfold sepL psep
  rw [show partL l x (mem S l.length) true = mem (mk_ l x &&& S) l.length from part_true h.hl (h.hp x hx), Bool.eq_iff_iff, decide_eq_true_iff]
  simp only [Bool.and_eq_true, Bool.not_eq_true', beq_eq_false_iff_ne, ne_eq]
  constructor
  · rintro ⟨a, b⟩; exact ⟨n1.2 a, by have := n2.2 (by omega); omega⟩
  · rintro ⟨a, b⟩; exact ⟨n1.1 a, fun e => by have := n2.1 (by omega); omega⟩
theorem prAt_get {i : Int} (h0 : 0 ≤ i) (h1 : i < p.length) : p[i.toNat]? = some (prAt p i) := by
  unfold prAt
  rw [List.getD_eq_getElem?_getD, List.getElem?_eq_getElem (by omega)]; rfl
theorem worth_eq (h : LP l p) : ∀ (d : Nat) (t : Tr) (S : Nat), S < 2 ^ l.length → pworth (pdOf l p).ps d t S = rworthF l p d t (mem S l.length)
  | 0, _, _, _ => rfl
  | d + 1, t, S, hS => by
    unfold pworth rworthF
    rw [any_psep h hS, mem_ext hS h.N, ps_len]
    by_cases hk : t.kids = []
    · rw [if_pos hk, if_pos hk]
    rw [if_neg hk, if_neg hk]
    by_cases h1 : t.rest ≠ [] ∨ t.kids.length ≠ 2 ∨ t.probe < 0 ∨ t.probe ≥ p.length
    · rw [if_pos h1, if_pos h1]
    rw [if_neg h1, if_neg h1]
    have hj := prAt_get (p := p) (i := t.probe) (by omega) (by omega)
    have hx := List.mem_of_getElem? hj
    obtain ⟨e1, e2⟩ := mAt_j (l := l) hj
    rw [show ((t.probe.toNat : Nat) : Int) = t.probe from by omega] at e1 e2
    obtain ⟨q1, q2⟩ := and_sub_lt (m := mk_ l (prAt p t.probe)) hS
    have hle : mk_ l (prAt p t.probe) &&& S ≤ S := Nat.and_le_right
    rw [e1, e2, part_true h.hl (h.hp _ hx), part_false hS h.hl (h.hp _ hx), worth_eq h d _ _ q1, worth_eq h d _ _ q2]
    have c : (mk_ l (prAt p t.probe) &&& S = 0 ∨ mk_ l (prAt p t.probe) &&& S = S) ↔ (mem (S - (mk_ l (prAt p t.probe) &&& S)) l.length = [] ∨ mem (mk_ l (prAt p t.probe) &&& S) l.length = []) := by
      rw [← List.length_eq_zero_iff, ← List.length_eq_zero_iff, mem_nil q1, mem_nil q2]
      omega
    by_cases h2 : mk_ l (prAt p t.probe) &&& S = 0 ∨ mk_ l (prAt p t.probe) &&& S = S
    · rw [if_pos h2, if_pos (c.1 h2)]
    · rw [if_neg h2, if_neg (fun e => h2 (c.2 e))]
theorem follow_eq (h : LP l p) {truth : List Int} (ht : setOk truth = true) : ∀ (d : Nat) (t : Tr) (S : Nat) (c : Int), 0 ≤ pworth (pdOf l p).ps d t S → pfollowF (pdOf l p) (mask truth) d t c = followF p truth d t c
  | 0, _, _, _, _ => rfl
  | d + 1, t, S, c, hw => by
    unfold pfollowF followF
    by_cases hk : t.kids = []
    · rw [if_pos hk, if_pos hk]
    rw [if_neg hk, if_neg hk]
    obtain ⟨_, _, h0, h1, _, _, w1, w2, _⟩ := pworth_inv hw hk
    rw [ps_len] at h1
    have hj := prAt_get (p := p) (i := t.probe) (by omega) (by omega)
    have hx := List.mem_of_getElem? hj
    obtain ⟨e1, e2⟩ := mAt_j (l := l) hj
    rw [show ((t.probe.toNat : Nat) : Int) = t.probe from by omega] at e1 e2
    have e3 : sAt (pdOf l p) t.probe = mask (prAt p t.probe).2 := by
      unfold sAt pdOf
      rw [List.getD_eq_getElem?_getD]
      simp only [List.getElem?_map, hj]; rfl
    rw [e2, e3]
    have hsm := shows_mask (h.hp _ hx) ht
    by_cases hs : showsL (prAt p t.probe).2 truth = true
    · rw [if_pos (hsm.1 hs), if_pos hs]
      exact follow_eq h ht d _ _ _ w2
    · rw [if_neg (fun e => hs (hsm.2 e)), if_neg hs]
      exact follow_eq h ht d _ _ _ w1

theorem full_lt2 (N : Nat) : 2 ^ N - 1 < 2 ^ N := by have := Nat.two_pow_pos N; omega
theorem best_eq (l : List (List Int)) (p : List Pr) : pbestL l p = rbestL l p := by
  unfold pbestL rbestL
  by_cases hc : checkL l p ≠ 0
  · rw [if_pos hc, if_pos hc]
  · rw [if_neg hc, if_neg hc]
    have h : LP l p := .of (by omega)
    have hS := full_lt2 l.length
    rw [tree_eq h (2 ^ l.length) (l.length + 1) _ hS hS (by have := mem_len (2 ^ l.length - 1) l.length; omega), tab_eq h.hl h.hp _ (Nat.le_refl _) _ hS]
    rfl
theorem pworthL_eq (l : List (List Int)) (p : List Pr) (f : Nat) (t : Tr) : pworthL l p f t = rworthL l p f t := by
  unfold pworthL rworthL
  by_cases hc : checkL l p ≠ 0
  · rw [if_pos hc, if_pos hc]
  · rw [if_neg hc, if_neg hc]
    have h : LP l p := .of (by omega)
    rw [worth_eq h f t _ (full_lt2 l.length)]
    rfl
theorem pfollowL_eq (l : List (List Int)) (p : List Pr) (f : Nat) (t : Tr) (truth : List Int) : pfollowL l p f t truth = rfollowL l p f t truth := by
  unfold pfollowL rfollowL
  rw [← pworthL_eq]
  unfold pworthL
  by_cases hc : checkL l p ≠ 0
  · rw [if_pos hc, if_pos hc, if_pos hc]
  · rw [if_neg hc, if_neg hc]
    have h : LP l p := .of (by omega)
    by_cases hw : pworth (pdOf l p).ps f t (2 ^ l.length - 1) < 0
    · simp only [if_pos hw]
      rw [if_pos (Or.inl hw), if_neg (by simp), if_pos (Or.inl trivial)]
    · simp only [if_neg hw]
      by_cases hs : setOk truth = false
      · rw [if_pos (Or.inr hs), if_neg (by simp), if_pos (Or.inr hs)]
      · rw [if_neg (fun e => e.elim hw hs), if_neg (by simp), if_neg (fun e => e.elim (fun e => by cases e) hs), follow_eq h (by simpa using hs) f t (2 ^ l.length - 1) 0 (by omega)]
theorem pnextL_eq (l : List (List Int)) (p : List Pr) : pnextL l p = rnextL l p := by
  unfold pnextL rnextL
  rw [← best_eq]
  unfold pbestL
  by_cases hc : checkL l p ≠ 0
  · rw [if_pos hc, if_pos hc, if_pos (.inl hc)]
  · rw [if_neg hc, if_neg hc]
    have h0 : 0 < 2 ^ l.length := Nat.two_pow_pos _
    obtain ⟨q, hq⟩ : ∃ q, 2 ^ l.length = q + 1 := ⟨2 ^ l.length - 1, by omega⟩
    rw [hq]
    show _ = if (0 : Int) ≠ 0 ∨ (ptree (pdOf l p).ps (q + 1) (q + 1 - 1)).kids = [] then _ else _
    unfold ptree
    by_cases hB : (B (pdOf l p).ps (q + 1 - 1)).2 < 0
    · rw [if_neg (by omega), if_pos hB, if_pos (.inr rfl)]
    · rw [if_pos (by omega), if_neg hB, if_neg (by rintro (e | e); exact e rfl; cases e)]
      rfl
end
end Go.Proofs.YtpmmhcgghldaaaaDoor
