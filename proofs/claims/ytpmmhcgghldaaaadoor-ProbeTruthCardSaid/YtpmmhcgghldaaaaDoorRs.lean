/- The laws' plain part: which costs can be reached; nothing lesser. -/
import Derived.Test.YtpmmhcgghldaaaaDoorRq
namespace Go.Proofs.YtpmmhcgghldaaaaDoor

/-- With these measurements these hypotheses (in a list) can be told apart as far as it goes, at a worst cost of at most c. -/
inductive Can (p : List Pr) : List (List Int) → Int → Prop where
  | leaf {H : List (List Int)} {c : Int} (h : ∀ x ∈ p, ∀ s ∈ H, ∀ t ∈ H, showsL x.2 s = showsL x.2 t) (hc : 0 ≤ c) : Can p H c
  | node {H : List (List Int)} {c d : Int} (x : Pr) (hx : x ∈ p) (h0 : H.filter (fun s => showsL x.2 s == false) ≠ []) (h1 : H.filter (fun s => showsL x.2 s == true) ≠ [])
      (c0 : Can p (H.filter (fun s => showsL x.2 s == false)) d) (c1 : Can p (H.filter (fun s => showsL x.2 s == true)) d) (hc : x.1 + d ≤ c) : Can p H c
theorem Can.le {p : List Pr} {H : List (List Int)} {c c' : Int} (h : Can p H c) (hc : c ≤ c') : Can p H c' := by
  cases h with
  | leaf h h0 => exact .leaf h (by omega)
  | node x hx h0 h1 c0 c1 hd => exact .node x hx h0 h1 c0 c1 (by omega)
/-- Fewer hypotheses. -/
theorem Can.sub {p : List Pr} (hok : prOk p) {H : List (List Int)} {c : Int} (h : Can p H c) : ∀ {H' : List (List Int)}, H'.Sublist H → Can p H' c := by
  induction h with
  | leaf h hc => exact fun hs => .leaf (fun x hx s h1 t h2 => h x hx s (hs.subset h1) t (hs.subset h2)) hc
  | node x hx h0 h1 c0 c1 hd ih0 ih1 =>
    rename_i H c d
    intro H' hs
    have x1 := (hok x hx).1
    by_cases e0 : H'.filter (fun s => showsL x.2 s == false) = []
    · have : H'.filter (fun s => showsL x.2 s == true) = H' := by
        rw [List.filter_eq_self]
        intro s hs'
        have := (List.filter_eq_nil_iff.1 e0) s hs'
        cases hb : showsL x.2 s <;> simp_all
      exact this ▸ (ih1 (hs.filter _)).le (by omega)
    by_cases e1 : H'.filter (fun s => showsL x.2 s == true) = []
    · have : H'.filter (fun s => showsL x.2 s == false) = H' := by
        rw [List.filter_eq_self]
        intro s hs'
        have := (List.filter_eq_nil_iff.1 e1) s hs'
        cases hb : showsL x.2 s <;> simp_all
      exact this ▸ (ih0 (hs.filter _)).le (by omega)
    exact .node x hx e0 e1 (ih0 (hs.filter _)) (ih1 (hs.filter _)) hd
/-- Cheaper measurements. -/
theorem Can.cheap {p q : List Pr} (h1 : ∀ x ∈ p, ∃ y ∈ q, y.2 = x.2 ∧ y.1 ≤ x.1) (h2 : ∀ y ∈ q, ∃ x ∈ p, y.2 = x.2) {H : List (List Int)} {c : Int} (h : Can p H c) : Can q H c := by
  induction h with
  | leaf h hc =>
    refine .leaf (fun y hy s hs t ht => ?_) hc
    obtain ⟨x, hx, e⟩ := h2 y hy
    rw [e]; exact h x hx s hs t ht
  | node x hx h0 h1' c0 c1 hd ih0 ih1 =>
    obtain ⟨y, hy, e, hle⟩ := h1 x hx
    rw [← e] at h0 h1' ih0 ih1
    exact .node y hy h0 h1' ih0 ih1 (by omega)

section
variable {l : List (List Int)} {p : List Pr}
/-- The hypotheses of a list of indices. -/
def hyp (l : List (List Int)) (i : Nat) : List Int := l.getD i []
theorem part_map (x : Pr) (list : List Nat) (b : Bool) : (partL l x list b).map (hyp l) = (list.map (hyp l)).filter (fun s => showsL x.2 s == b) := by
  unfold partL
  rw [List.filter_map]
  rfl
theorem psep_false (h : LP l p) {S : Nat} (hS : S < 2 ^ l.length) {x : Pr} (hx : x ∈ p) : psep (mk_ l x) S = false ↔ ∀ i ∈ mem S l.length, ∀ j ∈ mem S l.length, shw l x i = shw l x j := by
  obtain ⟨q1, q2⟩ := and_sub_lt (m := mk_ l x) hS
  have e1 : partL l x (mem S l.length) true = mem (mk_ l x &&& S) l.length := part_true h.hl (h.hp x hx)
  have e2 : partL l x (mem S l.length) false = mem (S - (mk_ l x &&& S)) l.length := part_false hS h.hl (h.hp x hx)
  have n1 := mem_nil q1
  have n2 := mem_nil q2
  have hle : mk_ l x &&& S ≤ S := Nat.and_le_right
  rw [← e1, List.length_eq_zero_iff] at n1
  rw [← e2, List.length_eq_zero_iff] at n2
  have key : psep (mk_ l x) S = false ↔ (partL l x (mem S l.length) true = [] ∨ partL l x (mem S l.length) false = []) := by
    rw [n1, n2]
    unfold psep
    by_cases a : mk_ l x &&& S = 0
    · simp [a]
    · by_cases b : mk_ l x &&& S = S
      · simp [b]
      · have : ¬ (S - (mk_ l x &&& S) = 0) := by omega
        simp [a, b, this]
  rw [key]
  unfold partL
  rw [List.filter_eq_nil_iff, List.filter_eq_nil_iff]
  constructor
  · rintro (h' | h') i hi j hj
    · have a := h' i hi; have b := h' j hj; simp at a b; rw [a, b]
    · have a := h' i hi; have b := h' j hj; simp at a b; rw [a, b]
  · intro h'
    by_cases a : ∃ i ∈ mem S l.length, shw l x i = true
    · obtain ⟨i, hi, ht⟩ := a
      right
      intro j hj
      rw [← h' i hi j hj, ht]; decide
    · left
      intro i hi e
      exact a ⟨i, hi, by simpa using e⟩
theorem pval_psx {rec : Nat → Int × Int} {S : Nat} {x : Pr} : pval rec S (psx l x) = x.1 + max (rec (mk_ l x &&& S)).1 (rec (S - (mk_ l x &&& S))).1 := rfl
/-- No tree is cheaper than the program's best. -/
theorem best_le (h : LP l p) {H : List (List Int)} {c : Int} (hc : Can p H c) : ∀ S, S < 2 ^ l.length → (mem S l.length).map (hyp l) = H → (B (pdOf l p).ps S).1 ≤ c := by
  induction hc with
  | leaf hs h0 =>
    rename_i H c
    intro S hS e
    subst e
    rcases B_cases l p S with ⟨hB, _⟩ | ⟨j, x, hj, _, hp, _, _⟩
    · rw [hB]; exact h0
    · have hx := List.mem_of_getElem? hj
      have : psep (mk_ l x) S = false := (psep_false h hS hx).2 fun i hi j hj => hs x hx _ (List.mem_map_of_mem hi) _ (List.mem_map_of_mem hj)
      rw [this] at hp; cases hp
  | node x hx h0 h1 c0 c1 hd ih0 ih1 =>
    rename_i H c d
    intro S hS e
    subst e
    obtain ⟨q1, q2⟩ := and_sub_lt (m := mk_ l x) hS
    have e1 : partL l x (mem S l.length) true = mem (mk_ l x &&& S) l.length := part_true h.hl (h.hp x hx)
    have e2 : partL l x (mem S l.length) false = mem (S - (mk_ l x &&& S)) l.length := part_false hS h.hl (h.hp x hx)
    have i0 := ih0 _ q2 (by rw [← e2, part_map])
    have i1 := ih1 _ q1 (by rw [← e1, part_map])
    replace h0 := (mem_pos q2).1 (List.length_pos_iff.2 fun e => h0 (by rw [← part_map, e2, e]; rfl))
    replace h1 := (mem_pos q1).1 (List.length_pos_iff.2 fun e => h1 (by rw [← part_map, e1, e]; rfl))
    have hp : psep (mk_ l x) S = true := by
      unfold psep
      have : ¬ (mk_ l x &&& S = S) := by omega
      simp [h1, this]
    rcases B_cases l p S with ⟨_, hn⟩ | ⟨j, y, _, hB, _, _, hle⟩
    · rw [hn x hx] at hp; cases hp
    · have := hle x hx hp
      rw [hB]
      rw [pval_psx (l := l) (x := x)] at this
      show pval _ S (psx l y) ≤ c
      omega
/-- The program's best tree reaches its cost. -/
theorem ptree_worth (h : LP l p) : ∀ (f S : Nat), S < 2 ^ l.length → S < f → pworth (pdOf l p).ps f (ptree (pdOf l p).ps f S) S = (B (pdOf l p).ps S).1
  | 0, _, _, h0 => absurd h0 (Nat.not_lt_zero _)
  | f + 1, S, hS, h1 => by
    have hok : psOk (pdOf l p).ps := by
      intro x hx
      rw [psOfEq] at hx
      obtain ⟨y, hy, rfl⟩ := List.mem_map.1 hx
      exact h.ok y hy
    rcases B_cases l p S with ⟨hB, hn⟩ | ⟨j, x, hj, hB, hs, _, _⟩
    · have ht : ptree (pdOf l p).ps (f + 1) S = .mk 0 (ofNats (mem S 12)) [] := by unfold ptree; rw [hB, if_pos (by decide)]
      rw [ht, pworth.eq_2, if_pos (show (Tr.mk 0 (ofNats (mem S 12)) []).kids = [] from rfl), if_neg, hB]
      rintro (e | e | e)
      · obtain ⟨y, hy, e⟩ := List.any_eq_true.1 e
        rw [psOfEq] at hy
        obtain ⟨z, hz, rfl⟩ := List.mem_map.1 hy
        rw [hn z hz] at e; cases e
      · exact e rfl
      · exact e rfl
    · have ht : ptree (pdOf l p).ps (f + 1) S = .mk (j : Int) [] [ptree (pdOf l p).ps f (S - (mk_ l x &&& S)), ptree (pdOf l p).ps f (mk_ l x &&& S)] := by
        rw [ptree, hB, if_neg (by show ¬ (j : Int) < 0; omega)]; simp only; rw [(mAt_j hj).1]
      obtain ⟨p1, p2, p3⟩ := psep_lt hs
      obtain ⟨q1, q2⟩ := and_sub_lt (m := mk_ l x) hS
      have i1 := ptree_worth h f _ q1 (by omega)
      have i2 := ptree_worth h f _ q2 (by omega)
      have b1 := (B_ok hok (mk_ l x &&& S)).1
      have b2 := (B_ok hok (S - (mk_ l x &&& S))).1
      have hjl := (List.getElem?_eq_some_iff.1 hj).1
      rw [ht, pworth.eq_2, if_neg (by intro e; cases e), if_neg (by
        rintro (e | e | e | e)
        · exact e rfl
        · exact e rfl
        · have e : (j : Int) < 0 := e; omega
        · have e : (j : Int) ≥ (pdOf l p).ps.length := e; rw [ps_len] at e; omega)]
      show (if mAt (pdOf l p).ps (j : Int) &&& S = 0 ∨ mAt (pdOf l p).ps (j : Int) &&& S = S then (-1 : Int) else if pworth (pdOf l p).ps f (ptree (pdOf l p).ps f (S - (mk_ l x &&& S))) (S - (mAt (pdOf l p).ps (j : Int) &&& S)) < 0 ∨ pworth (pdOf l p).ps f (ptree (pdOf l p).ps f (mk_ l x &&& S)) (mAt (pdOf l p).ps (j : Int) &&& S) < 0 then -1 else
        cAt (pdOf l p).ps (j : Int) + max (pworth (pdOf l p).ps f (ptree (pdOf l p).ps f (S - (mk_ l x &&& S))) (S - (mAt (pdOf l p).ps (j : Int) &&& S))) (pworth (pdOf l p).ps f (ptree (pdOf l p).ps f (mk_ l x &&& S)) (mAt (pdOf l p).ps (j : Int) &&& S))) = _
      rw [(mAt_j hj).1, (mAt_j hj).2, i1, i2, if_neg (by omega), if_neg (by omega), hB]
      unfold pval
      show x.1 + max _ _ = x.1 + max _ _
      rw [Int.max_comm]
/-- A right tree shows that its worst cost can be reached. -/
theorem worth_can (h : prOk p) : ∀ (d : Nat) (t : Tr) (list : List Nat), 0 ≤ rworthF l p d t list → Can p (list.map (hyp l)) (rworthF l p d t list)
  | 0, _, _, hw => by unfold rworthF at hw; omega
  | d + 1, t, list, hw => by
    rw [rworthF.eq_2] at hw ⊢
    split at hw
    · rename_i hk
      rw [if_pos hk]
      split at hw
      · omega
      rename_i h1
      rw [if_neg h1]
      refine .leaf (fun x hx s hs t ht => ?_) (Int.le_refl _)
      obtain ⟨i, hi, rfl⟩ := List.mem_map.1 hs
      obtain ⟨j, hj, rfl⟩ := List.mem_map.1 ht
      have hsep : sepL l x list = false := by
        cases hb : sepL l x list with
        | false => rfl
        | true => exact absurd (.inl (List.any_eq_true.2 ⟨x, hx, hb⟩)) h1
      unfold sepL at hsep
      rw [decide_eq_false_iff_not] at hsep
      have hsp := part_split (l := l) (x := x) (list := list)
      have hz : (partL l x list true).length = 0 ∨ (partL l x list false).length = 0 := by omega
      show shw l x i = shw l x j
      rcases hz with hz | hz
      · have := List.filter_eq_nil_iff.1 (List.eq_nil_of_length_eq_zero hz)
        have a := this i hi; have b := this j hj; simp at a b; rw [a, b]
      · have := List.filter_eq_nil_iff.1 (List.eq_nil_of_length_eq_zero hz)
        have a := this i hi; have b := this j hj; simp at a b; rw [a, b]
    · rename_i hk
      rw [if_neg hk]
      split at hw
      · omega
      rename_i h1
      rw [if_neg h1]
      split at hw
      · omega
      rename_i h2
      rw [if_neg h2]
      split at hw
      · omega
      rename_i h3
      rw [if_neg h3]
      have hj := prAt_get (p := p) (i := t.probe) (by omega) (by omega)
      have hx := List.mem_of_getElem? hj
      have i0 := worth_can h d (kid t 0) (partL l (prAt p t.probe) list false) (by omega)
      have i1 := worth_can h d (kid t 1) (partL l (prAt p t.probe) list true) (by omega)
      rw [part_map] at i0 i1
      refine .node (prAt p t.probe) hx ?_ ?_ (i0.le (Int.le_max_left _ _)) (i1.le (Int.le_max_right _ _)) (Int.le_refl _)
      · rw [← part_map]; intro e; exact h2 (.inl (List.map_eq_nil_iff.1 e))
      · rw [← part_map]; intro e; exact h2 (.inr (List.map_eq_nil_iff.1 e))
theorem hyp_range : ∀ (l : List (List Int)), (List.range l.length).map (hyp l) = l := fun l => by
  refine List.ext_getElem? fun i => ?_
  rw [List.getElem?_map]
  by_cases hi : i < l.length
  · rw [List.getElem?_range hi, List.getElem?_eq_getElem hi]
    show some (hyp l i) = _
    unfold hyp; rw [List.getD_eq_getElem?_getD, List.getElem?_eq_getElem hi]; rfl
  · rw [List.getElem?_eq_none (by simpa using hi), List.getElem?_eq_none (by omega)]; rfl
theorem full_range (N : Nat) : full N = List.range N := by
  unfold full mem
  rw [List.filter_eq_self]
  intro i hi
  rw [Nat.testBit_two_pow_sub_one]
  simpa using hi
/-- A tree nested less than d deep. -/
def deep : Nat → Tr → Prop
  | 0, _ => False
  | d + 1, t => ∀ k ∈ t.kids, deep d k
theorem kid_mem {t : Tr} {i : Nat} (h : i < t.kids.length) : kid t i ∈ t.kids := by
  unfold kid; rw [List.getD_eq_getElem?_getD, List.getElem?_eq_getElem h]; exact List.getElem_mem h
theorem worth_fuel : ∀ (d e : Nat) (t : Tr) (list : List Nat), deep d t → deep e t → rworthF l p d t list = rworthF l p e t list
  | 0, _, _, _, h, _ => h.elim
  | _ + 1, 0, _, _, _, h => h.elim
  | d + 1, e + 1, t, list, h1, h2 => by
    rw [rworthF.eq_2, rworthF.eq_2]
    by_cases hk : t.kids = []
    · rw [if_pos hk, if_pos hk]
    rw [if_neg hk, if_neg hk]
    by_cases h3 : t.rest ≠ [] ∨ t.kids.length ≠ 2 ∨ t.probe < 0 ∨ t.probe ≥ p.length
    · rw [if_pos h3, if_pos h3]
    rw [if_neg h3, if_neg h3]
    rw [worth_fuel d e (kid t 0) _ (h1 _ (kid_mem (by omega))) (h2 _ (kid_mem (by omega))), worth_fuel d e (kid t 1) _ (h1 _ (kid_mem (by omega))) (h2 _ (kid_mem (by omega)))]
theorem ptree_deep (ps : List (Int × Nat)) : ∀ (f S : Nat), 0 < f → S < f → deep f (ptree ps f S)
  | 0, _, h, _ => absurd h (Nat.lt_irrefl _)
  | f + 1, S, _, hS => by
    rw [ptree]
    split
    · intro k hk; cases hk
    · rename_i hb
      intro k hk
      obtain ⟨x, hx, hs⟩ := B_sep (ps := ps) (S := S) (by omega)
      have e : mAt ps (B ps S).2 = x.2 := by unfold mAt; rw [List.getD_eq_getElem?_getD, hx]; rfl
      rw [e] at hk
      obtain ⟨p1, p2, p3⟩ := psep_lt hs
      rcases List.mem_cons.1 hk with rfl | hk
      · exact ptree_deep ps f _ (by omega) (by omega)
      · rcases List.mem_cons.1 hk with rfl | hk
        · exact ptree_deep ps f _ (by omega) (by omega)
        · cases hk
/-- The first part of the main theorem. -/
theorem best_worth (hc : checkL l p = 0) {f : Nat} (hf : deep f (pbestL l p).1) : rworthF l p f (pbestL l p).1 (List.range l.length) = (pbestL l p).2.1 := by
  have h : LP l p := .of hc
  have h0 : 0 < 2 ^ l.length := Nat.two_pow_pos _
  have hS := full_lt2 l.length
  have hb : pbestL l p = (ptree (pdOf l p).ps (2 ^ l.length) (2 ^ l.length - 1), (B (pdOf l p).ps (2 ^ l.length - 1)).1, 0) := by unfold pbestL; rw [if_neg (by omega)]
  rw [hb] at hf ⊢
  rw [worth_fuel f (2 ^ l.length) _ _ hf (ptree_deep _ _ _ h0 hS), ← full_range]
  show rworthF l p (2 ^ l.length) (ptree (pdOf l p).ps (2 ^ l.length) (2 ^ l.length - 1)) (mem (2 ^ l.length - 1) l.length) = _
  rw [← worth_eq h _ _ _ hS, ptree_worth h _ _ hS hS]
/-- .. and the second. -/
theorem best_least (hc : checkL l p = 0) {c : Int} (h : Can p l c) : (pbestL l p).2.1 ≤ c := by
  have hS := full_lt2 l.length
  have hb : pbestL l p = (ptree (pdOf l p).ps (2 ^ l.length) (2 ^ l.length - 1), (B (pdOf l p).ps (2 ^ l.length - 1)).1, 0) := by unfold pbestL; rw [if_neg (by omega)]
  rw [hb]
  exact best_le (.of hc) h _ hS (by rw [show mem (2 ^ l.length - 1) l.length = full l.length from rfl, full_range, hyp_range])
theorem best_can (hc : checkL l p = 0) : Can p l (pbestL l p).2.1 := by
  have h : LP l p := .of hc
  have h0 : 0 < 2 ^ l.length := Nat.two_pow_pos _
  have hS := full_lt2 l.length
  have hb : pbestL l p = (ptree (pdOf l p).ps (2 ^ l.length) (2 ^ l.length - 1), (B (pdOf l p).ps (2 ^ l.length - 1)).1, 0) := by unfold pbestL; rw [if_neg (by omega)]
  have hw := best_worth hc (f := 2 ^ l.length) (by rw [hb]; exact ptree_deep _ _ _ h0 hS)
  have hB : 0 ≤ (pbestL l p).2.1 := by
    rw [hb]
    exact (B_ok (ps := (pdOf l p).ps) (fun x hx => by
      rw [psOfEq] at hx
      obtain ⟨y, hy, rfl⟩ := List.mem_map.1 hx
      exact h.ok y hy) _).1
  have := worth_can (l := l) h.ok (2 ^ l.length) (pbestL l p).1 (List.range l.length) (by omega)
  rwa [hyp_range, hw] at this
end
end Go.Proofs.YtpmmhcgghldaaaaDoor
