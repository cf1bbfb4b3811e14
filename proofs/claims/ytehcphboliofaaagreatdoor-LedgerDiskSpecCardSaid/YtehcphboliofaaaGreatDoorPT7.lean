/- Parts of the proof: La Lb Lc Ld Le Lf Lg. -/
import Derived.Test.YtehcphboliofaaaGreatDoorPT6
import Derived.Test.YtehcphboliofaaaGreatDoorPT4
namespace Go.Proofs.YtehcphboliofaaaGreatDoor
open Go Go.RowKit Classical
section
variable {D : Nat → Prop} {w : World} {l : List Post} {A : Option Addr} {n c : Nat}
set_option maxRecDepth 8000 in
theorem c_r56Check (hs : SlR tPost D w A n l) (hnc : n ≤ c) : CallZ Tryz.prog 19 #[.agg #[.slice A n c]] w (fun v w' => v = iv (ldgErr l) ∧ Ext w w') := by
  have hlen := hs.len; refine fn_rule (args := [.agg #[.slice A n c]]) Tryz.func19 (by kernel_rfl) ?_; refine box (fun b1 w1 h1 => ?_); have B1 : Blk w1 b1 24 [.slice A n c] := h1.blk; have hs1 := hs.ext h1.ext; refine fldA ?_; refine ld (.slice A n c) (B1.cell rfl) ?_; refine len ?_; refine cD (fun g1 => ?_) (fun g1 => ?_)
  · exact ret1 (iv 2) rfl ⟨by unfold ldgErr; rw [if_pos (by omega)], h1.ext⟩
  refine loop_rule (fun k : Nat => [(3, iv (k : Int))]) (fun k u => k ≤ n ∧ LOk (l.take k) ∧ Ext w1 u) (fun k _ => n - k) 0 ⟨rfl, trivial⟩ ⟨by omega, LOk.nil, .refl _ _⟩ rfl ?_; rintro G k u ⟨hk, hok, xu⟩; have hs1 := hs1.ext xu; have B1 := B1.ext xu; have x0 := h1.ext.trans xu; refine fldA ?_; refine ld (.slice A n c) (B1.cell rfl) ?_; refine len ?_; refine cD (fun hlt => ?_) (fun hge => ?_)
  · obtain ⟨b, o, cs, p, rfl, hp, -, -, hc, rfl⟩ := hs1.at_ (k := k) (by omega)
    have htk : l.take (k + 1) = l.take k ++ [p] := by rw [List.take_add_one, hp]; rfl
    refine drawP (.take 0 (.take 1 (.take 2 (.take 3 (.take 4 (.take 5 (.take 6 (.take 7 (.take 8 (.eff 9 (.take 10 .done))))))))))) [] (fun y => Ext u y) mx (by kernel_rfl) (.refl _ _) ?_; refine fldA ?_; refine ldK (.slice (some (ad b o)) n c) (B1.cell rfl) trivial (.refl _ _) ?_; refine slcR 0 k hs1 hnc rfl rfl (by omega) (by omega) rfl (fun A' hA' => ?_); rw [List.drop_zero] at hA'; refine fldA ?_; refine ldK (.slice (some (ad b o)) n c) (B1.cell rfl) trivial (.refl _ _) ?_; refine idx k rfl (by omega) ?_; refine ldAK p.c hc rfl trivial (.refl _ _) ?_; have sl := hA' _ u hs1; rw [Nat.sub_zero] at sl; refine callE (c_r56valid (p := p) sl hok (by omega)) (fun u2 hO x2 => ?_) (fun u2 hO x2 => ?_)
    · refine strS x2 ?_; refine arI (by omega) ?_; exact next (k + 1) ⟨by rw [Int.natCast_add]; rfl, trivial⟩ ⟨by omega, by rw [htk]; exact LOk_snoc.2 ⟨hok, of_decide_eq_true hO⟩, xu.trans x2⟩ (by omega)
    · refine strS x2 ?_; refine ret1 (iv 560) rfl ⟨?_, x0.trans x2⟩; unfold ldgErr; rw [if_neg (by omega), if_neg fun h => of_decide_eq_false hO (h k p hp)]
  · rw [List.take_of_length_le (by omega)] at hok; exact ret1 (iv 0) rfl ⟨by rw [ldgErr_0.2 ⟨by omega, hok⟩], x0⟩
def ledFew (n : Nat) : Bool := decide (n ≤ 40) || (decide (4096 < n) && decide (n ≤ 5000))
theorem c_r56Few (hs : SlR tPost D w A n l) : CallZ Tryz.prog 11 #[.agg #[.slice A n c]] w (fun v w' => v = .bool (ledFew l.length) ∧ Ext w w') := by
  have hlen := hs.len; refine fn_rule (args := [.agg #[.slice A n c]]) Tryz.func11 (by kernel_rfl) ?_; refine box (fun b1 w1 h1 => ?_); have B1 : Blk w1 b1 24 [.slice A n c] := h1.blk; refine fldA ?_; refine ld (.slice A n c) (B1.cell rfl) ?_; refine len ?_; unfold ledFew; refine cD (fun p1 => ?_) (fun p1 => ?_)
  · exact ret1 (.bool true) rfl ⟨by rw [decide_eq_true (show l.length ≤ 40 by omega)]; rfl, h1.ext⟩
  rw [decide_eq_false (show ¬ l.length ≤ 40 by omega), Bool.false_or]; refine fldA ?_; refine ld (.slice A n c) (B1.cell rfl) ?_; refine len ?_; refine cD (fun p2 => ?_) (fun p2 => ?_); rotate_left
  · exact ret1 (.bool false) rfl ⟨by rw [decide_eq_false (show ¬ 4096 < l.length by omega)]; rfl, h1.ext⟩
  rw [decide_eq_true (show 4096 < l.length by omega), Bool.true_and]; refine fldA ?_; refine ld (.slice A n c) (B1.cell rfl) ?_; refine len ?_; refine cD (fun p3 => ?_) (fun p3 => ?_)
  · exact ret1 (.bool true) rfl ⟨by rw [decide_eq_true (show l.length ≤ 5000 by omega)], h1.ext⟩
  · exact ret1 (.bool false) rfl ⟨by rw [decide_eq_false (show ¬ l.length ≤ 5000 by omega)], h1.ext⟩
theorem c_r56Same {ys : List Post} {B : Option Addr} {m d : Nat} (hl : SlR tPost D w A n l) (hm : SlR tPost D w B m ys) : CallZ Tryz.prog 20 #[.agg #[.slice A n c], .agg #[.slice B m d]] w (fun v w' => v = .bool (decide (l = ys)) ∧ Ext w w') := by
  have l1 := hl.len; have l2 := hm.len; have e1 := hl.le; refine fn_rule (args := [.agg #[.slice A n c], .agg #[.slice B m d]]) Tryz.func20 (by kernel_rfl) ?_; refine box (fun b2 w1 h1 => ?_); refine box (fun b3 w2 h2 => ?_); have B2 : Blk w2 b2 24 [.slice A n c] := h1.blk.ext h2.ext; have B3 : Blk w2 b3 24 [.slice B m d] := h2.blk; have x2 := h1.ext.trans h2.ext; have hl := hl.ext x2; have hm := hm.ext x2; refine fldA ?_; refine ld (.slice A n c) (B2.cell rfl) ?_; refine len ?_; refine fldA ?_; refine ld (.slice B m d) (B3.cell rfl) ?_; refine len ?_; refine cN (fun q => ?_) (fun q => ?_)
  · exact ret1 (.bool false) rfl ⟨by rw [decide_eq_false fun h => q (by subst h; omega)], x2⟩
  refine loop_rule (fun k : Nat => [(5, iv (k : Int))]) (fun k u => k ≤ n ∧ w2 = u ∧ ∀ i, i < k → l[i]? = ys[i]?) (fun k _ => n - k) 0 ⟨rfl, trivial⟩ ⟨by omega, rfl, fun i hi => by omega⟩ rfl ?_; rintro G k u ⟨hk, rfl, hs⟩; refine fldA ?_; refine ld (.slice A n c) (B2.cell rfl) ?_; refine len ?_; refine cD (fun hlt => ?_) (fun hge => ?_)
  · have hlt : k < n := by omega
    obtain ⟨b, o, cs, a, rfl, ha, -, -, hc, rfl⟩ := hl.at_ hlt; obtain ⟨b', o', cs', a', rfl, ha', -, -, hc', rfl⟩ := hm.at_ (k := k) (by omega); refine drawP (.take 0 (.take 1 (.take 2 (.take 3 (.take 4 (.take 5 (.take 6 (.take 7 (.take 8 (.take 9 (.take 10 .done))))))))))) [] (fun y => Ext w2 y) mx (by kernel_rfl) (.refl _ _) ?_; refine fldA ?_; refine ldK (.slice (some (ad b o)) n c) (B2.cell rfl) trivial (.refl _ _) ?_; refine idx k rfl hlt ?_; refine ldAK a.c hc rfl trivial (.refl _ _) ?_; refine fldA ?_; refine ldK (.slice (some (ad b' o')) m d) (B3.cell rfl) trivial (.refl _ _) ?_; refine idx k rfl (by omega) ?_; refine ldAK a'.c hc' rfl trivial (.refl _ _) ?_; refine neS ((a.no == a'.no) && ((a.hour == a'.hour) && ((a.sort == a'.sort) && ((a.frm == a'.frm) && ((a.to == a'.to) && ((a.n == a'.n) && true)))))) (by kernel_rfl) (fun g => ?_) (fun g => ?_)
    · refine ret1 (.bool false) rfl ⟨?_, x2⟩; rw [decide_eq_false]; rintro rfl; rw [ha] at ha'; injection ha' with ha'; subst ha'; simp at g
    · refine arI (by omega) ?_; refine next (k + 1) ⟨by rw [Int.natCast_add]; rfl, trivial⟩ ⟨by omega, rfl, fun i hi => ?_⟩ (by omega)
      by_cases e : i = k
      · subst e; rw [ha, ha']; obtain ⟨a1, a2, a3, a4, a5, a6⟩ := a; obtain ⟨c1, c2, c3, c4, c5, c6⟩ := a'; simp only [Bool.and_eq_true, beq_iff_eq, and_true] at g; obtain ⟨g1, g2, g3, g4, g5, g6⟩ := g; subst g1; subst g2; subst g3; subst g4; subst g5; subst g6
        rfl
      · exact hs i (by omega)
  · refine ret1 (.bool true) rfl ⟨?_, x2⟩; rw [decide_eq_true]; apply List.ext_getElem?; intro i
    by_cases hi : i < n
    · exact hs i (by omega)
    · rw [List.getElem?_eq_none (by omega), List.getElem?_eq_none (by omega)]
def tAB : Ty (Int × Int) := tFl 2 (fun p => [iv p.1, iv p.2]) fun _ => rfl
theorem c_r56SamePairs {xs ys : List (Int × Int)} {B : Option Addr} {m d : Nat} (hl : SlR tAB D w A n xs) (hm : SlR tAB D w B m ys) : CallZ Tryz.prog 21 #[.slice A n c, .slice B m d] w (fun v w' => v = .bool (decide (xs = ys)) ∧ w' = w) := by
  have l1 := hl.len; have l2 := hm.len; have e1 := hl.le; refine fn_rule (args := [.slice A n c, .slice B m d]) Tryz.func21 (by kernel_rfl) ?_; refine len ?_; refine len ?_; refine cN (fun q => ?_) (fun q => ?_)
  · exact ret1 (.bool false) rfl ⟨by rw [decide_eq_false fun h => q (by subst h; omega)], rfl⟩
  refine loop_rule (fun k : Nat => [(5, iv (k : Int))]) (fun k u => k ≤ n ∧ w = u ∧ ∀ i, i < k → xs[i]? = ys[i]?) (fun k _ => n - k) 0 ⟨rfl, trivial⟩ ⟨by omega, rfl, fun i hi => by omega⟩ rfl ?_; rintro G k u ⟨hk, rfl, hs⟩; refine len ?_; refine cD (fun hlt => ?_) (fun hge => ?_)
  · have hlt : k < n := by omega
    obtain ⟨b, o, cs, a, rfl, ha, -, -, hc, rfl⟩ := hl.at_ hlt; obtain ⟨b', o', cs', a', rfl, ha', -, -, hc', rfl⟩ := hm.at_ (k := k) (by omega); refine drawP (.take 0 (.take 1 (.take 2 (.take 3 (.take 4 (.take 5 (.take 6 (.take 7 (.take 8 .done))))))))) [] (fun y => Ext w y) mx (by kernel_rfl) (.refl _ _) ?_; refine idx k rfl hlt ?_; refine ldAK [iv a.1, iv a.2] hc rfl trivial (.refl _ _) ?_; refine idx k rfl (by omega) ?_; refine ldAK [iv a'.1, iv a'.2] hc' rfl trivial (.refl _ _) ?_; refine neS ((a.1 == a'.1) && ((a.2 == a'.2) && true)) (by kernel_rfl) (fun g => ?_) (fun g => ?_)
    · refine ret1 (.bool false) rfl ⟨?_, rfl⟩; rw [decide_eq_false]; rintro rfl; rw [ha] at ha'; injection ha' with ha'; subst ha'; simp at g
    · refine arI (by omega) ?_; refine next (k + 1) ⟨by rw [Int.natCast_add]; rfl, trivial⟩ ⟨by omega, rfl, fun i hi => ?_⟩ (by omega)
      by_cases e : i = k
      · subst e; rw [ha, ha']; simp only [Bool.and_eq_true, beq_iff_eq, and_true] at g; rw [Prod.ext g.1 g.2]
      · exact hs i (by omega)
  · refine ret1 (.bool true) rfl ⟨?_, rfl⟩; rw [decide_eq_true]; apply List.ext_getElem?; intro i
    by_cases hi : i < n
    · exact hs i (by omega)
    · rw [List.getElem?_eq_none (by omega), List.getElem?_eq_none (by omega)]
end
noncomputable def balP (l : List Post) (so : Int) (k : Nat) : List (Int × Int) := ((List.range k).map fun a : Nat => ((a : Int), balL l (so, (a : Int)))).filter fun x => decide (x.2 ≠ 0)
theorem balP_succ {l : List Post} {so : Int} {k : Nat} : balP l so (k + 1) = balP l so k ++ if balL l (so, (k : Int)) ≠ 0 then [((k : Int), balL l (so, (k : Int)))] else [] := by
  unfold balP; rw [List.range_succ, List.map_append, List.filter_append]
  by_cases q : balL l (so, (k : Int)) ≠ 0
  · rw [if_pos q, List.map_cons, List.map_nil, List.filter_cons_of_pos (by simpa using q)]; rfl
  · rw [if_neg q, List.map_cons, List.map_nil, List.filter_cons_of_neg (by simpa using q)]; rfl
theorem balP_mem {l : List Post} {so : Int} {k : Nat} {x : Int × Int} : x ∈ balP l so k ↔ (0 ≤ x.1 ∧ x.1 < k) ∧ x.2 = balL l (so, x.1) ∧ x.2 ≠ 0 := by
  unfold balP; rw [List.mem_filter, List.mem_map]; constructor
  · rintro ⟨⟨a, ha, rfl⟩, h⟩; rw [List.mem_range] at ha; exact ⟨⟨by simp only; omega, by simp only; omega⟩, rfl, by simpa using h⟩
  · rintro ⟨⟨h1, h2⟩, h3, h4⟩; obtain ⟨a, n⟩ := x; simp only at h1 h2 h3 h4; refine ⟨⟨a.toNat, List.mem_range.2 (by omega), ?_⟩, by simpa using h4⟩
    have : (a.toNat : Int) = a := by omega
    rw [this, h3]
theorem balP_sort {l : List Post} {so : Int} : ∀ k, (balP l so k).Pairwise fun x y => x.1 < y.1
  | 0 => .nil
  | k + 1 => by
    rw [balP_succ]
    split
    · rw [List.pairwise_append]
      refine ⟨balP_sort k, List.pairwise_singleton _ _, fun x hx y hy => ?_⟩
      rw [List.mem_singleton] at hy
      subst hy
      exact (balP_mem.1 hx).1.2
    · rw [List.append_nil]; exact balP_sort k
theorem pairs_uniq : ∀ {a b : List (Int × Int)}, a.Pairwise (fun x y => x.1 < y.1) → b.Pairwise (fun x y => x.1 < y.1) → (∀ c, c ∈ a ↔ c ∈ b) → a = b
  | [], [], _, _, _ => rfl
  | [], y :: b, _, _, h => by have := (h y).2 List.mem_cons_self; cases this
  | x :: a, [], _, _, h => by have := (h x).1 List.mem_cons_self; cases this
  | x :: a, y :: b, ha, hb, h => by
    rw [List.pairwise_cons] at ha hb
    have e : x = y := by
      rcases List.mem_cons.1 ((h x).1 List.mem_cons_self) with h1 | h1
      · exact h1
      · rcases List.mem_cons.1 ((h y).2 List.mem_cons_self) with h2 | h2
        · exact h2.symm
        · exact absurd (ha.1 y h2) (by have := hb.1 x h1; omega)
    subst e
    rw [pairs_uniq ha.2 hb.2 fun c => ?_]
    have hc := h c
    rw [List.mem_cons, List.mem_cons] at hc
    constructor
    · intro q
      rcases hc.1 (.inr q) with e | q'
      · subst e; exact absurd (ha.1 c q) (Int.lt_irrefl _)
      · exact q'
    · intro q
      rcases hc.2 (.inr q) with e | q'
      · subst e; exact absurd (hb.1 c q) (Int.lt_irrefl _)
      · exact q'
theorem bal_who {l : List Post} {a : Acc} (h : balL l a ≠ 0) : ∃ p ∈ l, p.fa = a ∨ p.ta = a := Classical.byContradiction fun q => h (by
  have : ∀ (s : List Post), (∀ p ∈ s, ¬ (p.fa = a ∨ p.ta = a)) → balL s a = 0 := by
    intro s
    induction s with
    | nil => intro _; rfl
    | cons p s ih =>
      intro hs
      have h1 := hs p List.mem_cons_self
      have ih := ih fun q hq => hs q (List.mem_cons_of_mem _ hq)
      unfold balL at ih ⊢
      rw [List.map_cons, List.sum_cons, ih, posD_not (fun e => h1 (.inl e.symm)) (fun e => h1 (.inr e.symm))]; rfl
  exact this l fun p hp hpa => q ⟨p, hp, hpa⟩)
noncomputable def balsE (l : List Post) (so : Int) : Int := if ldgErr l ≠ 0 then ldgErr l else if gwithin so 1 2 = true then 0 else 1
abbrev ABc (p : Int × Int) : List Value := [iv p.1, iv p.2]
theorem flat_abs {D : Nat → Prop} {w : World} : ∀ {s : List (Int × Int)}, FlatR tAB D w s (s.flatMap ABc)
  | [] => rfl
  | p :: s => ⟨ABc p, s.flatMap ABc, rfl, rfl, flat_abs⟩
def RB (L : List MapEntry) (so : Int) (seen : List Nat) (xs : List Pr2) : Prop := (xs.map Pr2.a).Nodup ∧ ∀ x : Pr2, x ∈ xs ↔ ∃ e ∈ L, e.born ∈ seen ∧ e.key = kvA (so, x.a) ∧ e.val = iv x.n ∧ x.n ≠ 0
theorem RB.nil {L : List MapEntry} {so : Int} : RB L so [] [] := ⟨.nil, fun c => ⟨fun h => (by cases h), fun ⟨_, _, h, _⟩ => (by cases h)⟩⟩
theorem RB.skip {L : List MapEntry} {so : Int} {seen : List Nat} {xs : List Pr2} {c : Nat} {e : MapEntry} {a : Acc} {n : Int} (h : RB L so seen xs) (hb : BornL L c) (he : e ∈ L) (hk : e.key = kvA a) (hv : e.val = iv n) (hn : ¬ (a.1 = so ∧ n ≠ 0)) : RB L so (seen ++ [e.born]) xs := by
  refine ⟨h.1, fun d => (h.2 d).trans ?_⟩; constructor
  · rintro ⟨e', he', h1, h2⟩; exact ⟨e', he', (old_L hb he he').2 (.inl h1), h2⟩
  · rintro ⟨e', he', h1, h2, h3, h4⟩; rcases (old_L hb he he').1 h1 with h1 | rfl
    · exact ⟨e', he', h1, h2, h3, h4⟩
    · rw [hv] at h3; injection h3 with _ h3; rw [hk] at h2; have := kvA_inj h2; exact absurd ⟨by rw [this], by rw [h3]; exact h4⟩ hn
theorem RB.snoc {L : List MapEntry} {so : Int} {seen : List Nat} {xs : List Pr2} {c : Nat} {e : MapEntry} {d : Pr2} (h : RB L so seen xs) (hb : BornL L c) (hu : (L.map (·.key)).Nodup) (he : e ∈ L) (hns : e.born ∉ seen) (hk : e.key = kvA (so, d.a)) (hv : e.val = iv d.n) (hn : d.n ≠ 0) : RB L so (seen ++ [e.born]) (xs ++ [d]) := by
  refine ⟨?_, fun d' => ?_⟩
  · rw [List.map_append, List.nodup_append]; refine ⟨h.1, by simp, fun x hx y hy => ?_⟩; simp only [List.map_cons, List.map_nil, List.mem_singleton] at hy; subst hy; rintro rfl; obtain ⟨d1, hd1, hd2⟩ := List.mem_map.1 hx; obtain ⟨e1, he1, hs1, hk1, -⟩ := (h.2 d1).1 hd1; have := key_injL hu he1 he (by rw [hk1, hk, hd2]); rw [this] at hs1; exact hns hs1
  · rw [List.mem_append, List.mem_singleton]; constructor
    · rintro (h1 | rfl)
      · obtain ⟨e1, he1, hs1, r⟩ := (h.2 d').1 h1; exact ⟨e1, he1, (old_L hb he he1).2 (.inl hs1), r⟩
      · exact ⟨e, he, (old_L hb he he).2 (.inr rfl), hk, hv, hn⟩
    · rintro ⟨e1, he1, hs1, hk1, hv1, hn1⟩; rcases (old_L hb he he1).1 hs1 with hs1 | rfl
      · exact .inl ((h.2 d').2 ⟨e1, he1, hs1, hk1, hv1, hn1⟩)
      · refine .inr ?_; rw [hk] at hk1; rw [hv] at hv1; injection hv1 with _ hv1; have ht := congrArg Prod.snd (kvA_inj hk1); obtain ⟨a1, n1, h1⟩ := d; obtain ⟨a2, n2, h2⟩ := d'; simp only at ht hv1; subst ht; subst hv1
        rfl
section
variable {w : World}
theorem c_sortP20 : CallZ Tryz.prog 46 #[.slice none 0 0, .func (.func 47) #[] #[]] w (fun v w' => v = .tuple #[] ∧ w' = w) := by
  intro w0 hw; subst hw; rw [callsIn_wide]; refine (k_sort0 _ w0).mono ?_; rintro e w' ⟨rfl, rfl⟩; exact ⟨_, rfl, rfl, rfl⟩
end
section
variable {D : Nat → Prop} {w : World} {l : List Post} {A : Option Addr} {n c : Nat}
set_option maxRecDepth 8000 in
set_option maxHeartbeats 2000000 in
theorem c_gBalances {so : Int} (hs : SlR tPost D w A n l) : CallZ Tryz.prog 16 #[.agg #[.slice A n c], iv so] w
    (fun v w' => Ext w w' ∧ ∃ B m c', v = .tuple #[.slice B m c', iv (balsE l so)] ∧ SlR tAB (fun b => w.heap.size ≤ b) w' B m (if balsE l so = 0 then balP l so 4096 else [])) := by
  have hlen := hs.len; refine fn_rule (args := [.agg #[.slice A n c], iv so]) Tryz.func16 (by kernel_rfl) ?_; refine box (fun b2 w1 h1 => ?_); have B2 : Blk w1 b2 24 [.slice A n c] := h1.blk; refine ldA [.slice A n c] (.blk B2) rfl ?_; refine call_of (c_gcheck (hr := 4096) (hs.ext h1.ext)) ?_; rintro _ w2 ⟨x2, o, rfl, hm⟩; have x02 := h1.ext.trans x2; refine cN (fun he => ?_) (fun he => ?_)
  · have hE : balsE l so = ldgErr l := by unfold balsE; rw [if_pos he]
    rw [hE, if_neg he]; exact ret2 (.slice none 0 0) (iv (ldgErr l)) rfl rfl ⟨x02, none, 0, 0, rfl, .nil⟩
  have hE : balsE l so = if gwithin so 1 2 = true then 0 else 1 := by unfold balsE; rw [if_neg (fun h => h he)]
  refine callB (c_gwithin so 1 2) (fun p1 => ?_) (fun p1 => ?_); rotate_left
  · rw [if_neg (by rw [p1]; exact Bool.false_ne_true)] at hE; rw [hE, if_neg (by decide)]; exact ret2 (.slice none 0 0) (iv 1) rfl rfl ⟨x02, none, 0, 0, rfl, .nil⟩
  rw [if_pos p1] at hE; rw [hE, if_pos rfl]; obtain ⟨h4, hok⟩ := ldgErr_0.1 he; have hall : ∀ q ∈ l, P1 q := fun q hq => hok.p1 hq; have hH : ∀ a, balH l a 4096 = balL l a := fun a => balH_all fun q hq => (hall q hq).hour.2; obtain ⟨g, rfl, -, f, ⟨L, cL, EL, hLu, hL⟩, hf⟩ := hm he; have hL : ∀ t, lookP (kvA t) L = (f t).map iv := hL; have hf : ∀ a, (f a).getD 0 = balL l a := fun a => (hf a).trans (hH a)
  have hent : ∀ e ∈ L, ∃ a, e.key = kvA a ∧ e.val = iv (balL l a) := fun e he => by
    obtain ⟨t, ht⟩ := EL.keys e he; have h1 := look_own hLu he; rw [ht, hL] at h1
    cases hg : f t with
    | none => rw [hg] at h1; cases h1
    | some n =>
      rw [hg] at h1; injection h1 with h1; have := hf t; rw [hg] at this; exact ⟨t, ht, by rw [← this]; exact h1.symm⟩
  have hbd : ∀ a, balL l a ≠ 0 → 0 ≤ a.2 ∧ a.2 ≤ 4095 := fun a h => by
    obtain ⟨p, hp, h1⟩ := bal_who h; have := hall p hp; have q1 := this.frm; have q2 := this.to; rcases h1 with rfl | rfl
    · exact q1
    · exact q2
  refine rngM (kv := kvA) (t := 92) rfl EL (fun w3 E3 I3 x23 z23 => ?_); obtain ⟨it, hit⟩ : ∃ it, it = w2.heap.size := ⟨_, rfl⟩; rw [← hit] at I3 ⊢; have s23 := x23.size
  have hxl : ∀ {seen : List Nat} {xs : List Pr2}, RB L so seen xs → xs.length ≤ 4096 := fun {seen xs} h => by
    have h1 := nodup_leL (b := (List.range 4096).map fun i : Nat => (i : Int)) h.1 fun a ha => by
      obtain ⟨x, -, rfl⟩ := List.mem_map.1 ha; have := x.h; exact List.mem_map.2 ⟨x.a.toNat, List.mem_range.2 (by omega), by omega⟩
    rwa [List.length_map, List.length_map, List.length_range] at h1
  refine loop4 (fun (_ : List Nat × List Pr2) (B : Option Addr) (m d : Nat) => [(4, .slice B m d)]) (fun sx B m d u => OwnF w2 u B m d 74 2 (sx.2.flatMap encP2) ∧ m = sx.2.length ∧ IterM u it g cL sx.1 ∧ RB L so sx.1 sx.2) (fun sx _ _ _ _ => (L.filter fun x => !sx.1.contains x.born).length) ([], []) none 0 0 ⟨rfl, trivial⟩ ⟨OwnF.nil x23, rfl, I3, RB.nil⟩ rfl ?_; rintro G ⟨seen, xs⟩ B m d u ⟨own, hm, Iu, hRB⟩; have hm : m = xs.length := hm; have own : OwnF w2 u B m d 74 2 (xs.flatMap encP2) := own; have hxl' := hxl hRB; have zu := own.ext.size; have liu : it < u.heap.size := (Array.getElem?_eq_some_iff.1 Iu).1
  have hBit : ∀ g, B = some (ad g 0) → g ≠ it := by
    rintro g rfl rfl; obtain ⟨rest, Bg, -⟩ := own.own.blk; have h1 : u.heap[g]? = some (.cells _ _ _) := Bg; have h2 : u.heap[g]? = some _ := Iu; rw [h1] at h2
    cases h2
  have xwu : Ext w u := x02.trans own.ext; refine nxtM (kv := kvA) rfl (EL.kept own.ext trivial) Iu (fun hall' => ?_) (fun e he hns u1 Eu1 Iu1 ku1 zu1 => ?_)
  · -- all have come
    have hmem : ∀ x : Int × Int, x ∈ xs.map (fun p => (p.a, p.n)) ↔ x ∈ balP l so 4096 := fun x => by
      rw [balP_mem, List.mem_map]; constructor
      · rintro ⟨p, hp, rfl⟩; obtain ⟨e, he, -, hk, hv, hn⟩ := (hRB.2 p).1 hp; obtain ⟨a, h1, h2⟩ := hent e he; rw [hk] at h1; have h1 := kvA_inj h1; rw [hv, ← h1] at h2; injection h2 with _ h2; have := p.h; exact ⟨⟨this.1, by simp only; omega⟩, h2, hn⟩
      · rintro ⟨-, h2, h3⟩; have hb := hbd (so, x.1) (by rw [← h2]; exact h3); refine ⟨⟨x.1, x.2, hb⟩, (hRB.2 _).2 ?_, rfl⟩; have h1 := hf (so, x.1)
        cases hg : f (so, x.1) with
        | none => rw [hg] at h1; exact absurd (h2.trans h1.symm) h3
        | some n =>
          rw [hg] at h1; have h5 := hL (so, x.1); rw [hg] at h5; obtain ⟨e, he, h6, h7⟩ := look_has h5; exact ⟨e, he, hall' e he, h6, by rw [h7, h2, ← h1]; rfl, h3⟩
    rcases own.form with ⟨rfl, h0, rfl⟩ | ⟨gb, rfl, hg1, hg2, hc1⟩
    · have hx0 : xs = [] := List.eq_nil_of_length_eq_zero (by omega); subst hx0; have hm0 : m = 0 := hm; subst hm0; refine call_of c_sortP20 ?_; rintro _ u2 ⟨rfl, rfl⟩
      have hP : balP l so 4096 = [] := List.eq_nil_iff_forall_not_mem.2 fun x hx => by
        have := (hmem x).2 hx
        cases this
      rw [hP]; exact ret2 (.slice none 0 0) (iv 0) rfl rfl ⟨xwu, none, 0, 0, rfl, .nil⟩
    · obtain ⟨rest, Bg, hBl, -⟩ := own.own.blk; refine call_of (c_sortP2 (s := xs) Bg hm (by omega) hRB.1) ?_; rintro _ u2 ⟨rfl, ys, hp, hpw, Bs, ks⟩
      have hyl : ys.length = m := by rw [hp.length_eq, hm]
      have hP : balP l so 4096 = ys.map fun p => (p.a, p.n) := by
        refine pairs_uniq (balP_sort _) (List.pairwise_map.2 hpw) fun x => ?_; rw [← hmem, List.mem_map, List.mem_map]; exact ⟨fun ⟨p, hp1, e⟩ => ⟨p, hp.mem_iff.2 hp1, e⟩, fun ⟨p, hp1, e⟩ => ⟨p, hp.mem_iff.1 hp1, e⟩⟩
      have hfl : ys.flatMap encP2 = (balP l so 4096).flatMap ABc := by rw [hP, List.flatMap_map]
      have hS : SlR tAB (fun b => w.heap.size ≤ b) u2 (some (ad gb 0)) m (balP l so 4096) := SlR.of_cells (cs := ys.flatMap encP2) (by rw [hP, List.length_map]; exact hyl.symm) (by omega) (by have := x02.size; omega) (fun j v hv => by rw [Nat.zero_add]; exact Bs.cell (by rw [List.getElem?_append_left (List.getElem?_eq_some_iff.1 hv).1]; exact hv)) (by rw [hfl]; exact flat_abs); exact ret2 (.slice (some (ad gb 0)) m d) (iv 0) rfl rfl ⟨xwu.then ks fun b hb _ => by have := x02.size; omega, some (ad gb 0), m, d, rfl, hS⟩
  · obtain ⟨a, hek, hev⟩ := hent e he; refine entM (kv := kvA) rfl Eu1 he Iu1 ?_; rw [hek, hev]; have hlt := left_ltL he hns; obtain ⟨nb, hnb⟩ : ∃ nb, nb = balL l a := ⟨_, rfl⟩; rw [← hnb]; rw [← hnb] at hev; refine alloc (fun b7 u2 q2 => ?_); refine stA (vs := [iv a.1, iv a.2]) q2.blk rfl (Nat.le_of_ble_eq_true rfl) (by simp [Value.oneCell']) (fun u3 B7 k3 zs3 => ?_); have e7 := q2.at_; have B7 : Blk u3 b7 97 [iv a.1, iv a.2] := B7
    have x13 : Ext u1 u3 := q2.ext.then k3 fun b hb _ e => by omega
    have kub : Kept (fun b => b ≠ it) u u3 := ku1.then x13 fun _ _ _ => trivial
    have xy13 : Ext w2 u3 := own.ext.then kub fun b hb _ => by omega
    have own3 : OwnF w2 u3 B m d 74 2 (xs.flatMap encP2) := own.thenK kub (fun g hg => hBit g hg) xy13; have I3 := Iu1.kept x13 trivial; refine fldA ?_; refine ld (iv a.1) (B7.cell rfl) ?_; refine cE (fun q1 => ?_) (fun q1 => ?_)
    · refine cN (fun q2 => ?_) (fun q2 => ?_)
      · refine fldA ?_; refine ld (iv a.2) (B7.cell rfl) ?_; refine bld [iv a.2, iv nb] (by kernel_rfl) ?_; refine lit [.agg [iv a.2, iv nb].toArray] (fun gg u4 hq => ?_); have own4 := own3.then hq.ext; have hbd' := hbd a (by rw [← hnb]; exact q2); refine appF own4 (hq.src (sz := 2) rfl) (by omega) (fun B' e' u5 q5 kk hA => ?_); have hne : B ≠ some (ad it 0) := fun h => hBit it h rfl; refine next4 (seen ++ [e.born], xs ++ [⟨a.2, nb, hbd'⟩]) B' (m + 1) e' ⟨rfl, trivial⟩ ⟨?_, ?_, (I3.kept hq.ext trivial).kept kk hne, ?_⟩ hlt
        · show OwnF w2 u5 B' (m + 1) e' 74 2 ((xs ++ [(⟨a.2, nb, hbd'⟩ : Pr2)]).flatMap encP2); rw [List.flatMap_append]; exact q5
        · show m + 1 = (xs ++ [_]).length; rw [List.length_append, hm]; rfl
        · exact hRB.snoc EL.born hLu he hns (by rw [hek, ← q1]) hev q2
      · exact next4 (seen ++ [e.born], xs) B m d ⟨rfl, trivial⟩ ⟨own3, hm, I3, hRB.skip EL.born he hek hev fun h => absurd q2 h.2⟩ hlt
    · exact next4 (seen ++ [e.born], xs) B m d ⟨rfl, trivial⟩ ⟨own3, hm, I3, hRB.skip EL.born he hek hev fun h => absurd h.1 q1⟩ hlt
end
end Go.Proofs.YtehcphboliofaaaGreatDoor
namespace Go.Proofs.YtehcphboliofaaaGreatDoor
open Go Go.RowKit
def rot (x n : Nat) : Nat := (x <<< (32 - n)) % 4294967296 ||| x >>> n
theorem shr_lt {x n m : Nat} (h : x < m) : x >>> n < m := by
  rw [Nat.shiftRight_eq_div_pow]; exact Nat.lt_of_le_of_lt (Nat.div_le_self _ _) h
theorem rot_lt {x n : Nat} (h : x < 4294967296) : rot x n < 4294967296 := Nat.or_lt_two_pow (n := 32) (Nat.mod_lt _ (by omega)) (shr_lt h)
theorem xor_lt {a b : Nat} (ha : a < 4294967296) (hb : b < 4294967296) : a ^^^ b < 4294967296 := Nat.xor_lt_two_pow (n := 32) ha hb
theorem and_lt {a b : Nat} (ha : a < 4294967296) : a &&& b < 4294967296 := Nat.lt_of_le_of_lt Nat.and_le_left ha
theorem or_lt {a b : Nat} (ha : a < 4294967296) (hb : b < 4294967296) : a ||| b < 4294967296 := Nat.or_lt_two_pow (n := 32) ha hb
def rot3 (x a b c : Nat) : Nat := rot x a ^^^ rot x b ^^^ rot x c
def beB (k n : Nat) : List Nat := (List.range k).map fun i => (n >>> (8 * (k - 1 - i))) % 256
theorem beB_len (k n : Nat) : (beB k n).length = k := by unfold beB; rw [List.length_map, List.length_range]
theorem beB_lt (k n : Nat) : ∀ x ∈ beB k n, x < 256 := fun x hx => by
  obtain ⟨i, -, rfl⟩ := List.mem_map.1 hx
  exact Nat.mod_lt _ (by omega)
theorem beB_at {k n i : Nat} (h : i < k) : (beB k n)[i]? = some ((n >>> (8 * (k - 1 - i))) % 256) := by
  unfold beB; rw [List.getElem?_map, List.getElem?_range h]; rfl
theorem beB_drop {k n i : Nat} (h : i < k) : (beB k n).drop (k - (i + 1)) = ((n >>> (8 * i)) % 256) :: (beB k n).drop (k - i) := by
  have hl := beB_len k n; rw [List.drop_eq_getElem_cons (by omega), show k - (i + 1) + 1 = k - i by omega]
  congr 1
  have := beB_at (n := n) (show k - (i + 1) < k by omega); rw [List.getElem?_eq_getElem (by omega), show k - 1 - (k - (i + 1)) = i by omega] at this; injection this
def wdB (b : List Nat) : Nat := (b.take 4).foldl (fun n c => ((n <<< 8) % 4294967296) ||| c) 0
theorem wd_lt : ∀ (b : List Nat) (n : Nat), n < 4294967296 → (∀ x ∈ b, x < 256) → b.foldl (fun n c => ((n <<< 8) % 4294967296) ||| c) n < 4294967296
  | [], n, h, _ => h
  | x :: b, n, h, hb => wd_lt b _ (or_lt (Nat.mod_lt _ (by omega)) (by have := hb x List.mem_cons_self; omega)) fun y hy => hb y (List.mem_cons_of_mem _ hy)
theorem wdB_lt {b : List Nat} (h : ∀ x ∈ b, x < 256) : wdB b < 4294967296 := wd_lt _ 0 (by omega) fun x hx => h x (List.mem_of_mem_take hx)
abbrev u32s (l : List Nat) : List Value := l.map fun n : Nat => uv32 n
def startL : List Nat := [1779033703, 3144134277, 1013904242, 2773480762, 1359893119, 2600822924, 528734635, 1541459225]
def numsL : List Nat := [1116352408, 1899447441, 3049323471, 3921009573, 961987163, 1508970993, 2453635748, 2870763221, 3624381080, 310598401, 607225278, 1426881987, 1925078388, 2162078206, 2614888103, 3248222580, 3835390401, 4022224774, 264347078, 604807628, 770255983, 1249150122, 1555081692, 1996064986, 2554220882, 2821834349, 2952996808, 3210313671, 3336571891, 3584528711, 113926993, 338241895, 666307205, 773529912, 1294757372, 1396182291, 1695183700, 1986661051, 2177026350, 2456956037, 2730485921, 2820302411, 3259730800, 3345764771, 3516065817, 3600352804, 4094571909, 275423344, 430227734, 506948616, 659060556, 883997877, 958139571, 1322822218, 1537002063, 1747873779, 1955562222, 2024104815, 2227730452, 2361852424, 2428436474, 2756734187, 3204031479, 3329325298]
def NumW (w : World) : Prop := CellsAt w 0 0 (u32s startL) ∧ CellsAt w 1 0 (u32s numsL)
theorem NumW.ext {w w' : World} (h : NumW w) (k : Ext w w') : NumW w' := ⟨CellsAt.kept h.1 k trivial, CellsAt.kept h.2 k trivial⟩
section
variable {D : Nat → Prop} {w : World}
theorem sub64 {K : Value → Prop} {a b : Nat} (h : b ≤ a) (ha : a < 18446744073709551616) (k : K (uv64 (a - b))) : ArP .u64 ((a : Int) - (b : Int)) K := by
  rw [ArP_eq, u64_wrap, show ((a : Int) - (b : Int)) % 18446744073709551616 = ((a - b : Nat) : Int) by omega]; exact k
theorem c_rotL {x : Nat} (n : Nat) (hx : x < 4294967296) (h1 : 1 ≤ n) (h2 : n ≤ 31) {i : Int} (hi : i = -(n : Int)) : CallZ Tryz.prog 237 #[uv32 x, iv i] w (fun v w' => v = uv32 (rot x n) ∧ w' = w) := by
  subst hi; refine fn_rule (args := [uv32 x, iv (-(n : Int))]) Tryz.func237 (by kernel_rfl) ?_; refine conv ?_; rw [u64_wrap, show (-(n : Int)) % 18446744073709551616 = ((18446744073709551616 - n : Nat) : Int) by omega]; refine and64 (b := 31) (by omega) (by omega) ?_
  have e : (18446744073709551616 - n) &&& 31 = 32 - n := by
    rw [show (31 : Nat) = 2 ^ 5 - 1 from rfl, Nat.and_two_pow_sub_one_eq_mod]; omega
  rw [e]; refine shl32 (32 - n) rfl (by omega) ?_; refine sub64 (a := 32) (b := 32 - n) (by omega) (by omega) ?_; refine shr32 n (by omega) (by omega) ?_; refine or32 (Nat.mod_lt _ (by omega)) (shr_lt hx) ?_; exact ret1 (uv32 _) rfl ⟨rfl, rfl⟩
theorem c_drotated {x a b c : Nat} (hx : x < 4294967296) (ha : 1 ≤ a ∧ a ≤ 31) (hb : 1 ≤ b ∧ b ≤ 31) (hc : 1 ≤ c ∧ c ≤ 31) : CallZ Tryz.prog 238 #[uv32 x, iv (a : Int), iv (b : Int), iv (c : Int)] w (fun v w' => v = uv32 (rot3 x a b c) ∧ w' = w) := by
  refine fn_rule (args := [uv32 x, iv (a : Int), iv (b : Int), iv (c : Int)]) Tryz.func238 (by kernel_rfl) ?_; refine arI (n := 0 - (a : Int)) (by omega) ?_; refine call_of (c_rotL a hx ha.1 ha.2 (by omega)) ?_; rintro _ w1 ⟨rfl, rfl⟩; refine arI (n := 0 - (b : Int)) (by omega) ?_; refine call_of (c_rotL b hx hb.1 hb.2 (by omega)) ?_; rintro _ w1 ⟨rfl, rfl⟩; refine xor32 (rot_lt hx) (rot_lt hx) ?_; refine arI (n := 0 - (c : Int)) (by omega) ?_; refine call_of (c_rotL c hx hc.1 hc.2 (by omega)) ?_; rintro _ w1 ⟨rfl, rfl⟩; refine xor32 (xor_lt (rot_lt hx) (rot_lt hx)) (rot_lt hx) ?_; exact ret1 (uv32 _) rfl ⟨rfl, rfl⟩
theorem c_dword {A : Option Addr} {n c : Nat} {b : List Nat} (hs : SlR tU8 D w A n b) (h4 : 4 ≤ n) (hc : n ≤ c) : CallZ Tryz.prog 236 #[.slice A n c] w (fun v w' => v = uv32 (wdB b) ∧ w' = w) := by
  have hlen := hs.len; have hby := hs.u8b; refine fn_rule (args := [.slice A n c]) Tryz.func236 (by kernel_rfl) ?_; refine slcR 0 4 hs hc rfl rfl (by omega) (by omega) rfl (fun A' hA' => ?_)
  have hs' : SlR tU8 D w A' 4 (b.take 4) := by have := hA' D w hs; rwa [List.drop_zero] at this
  refine len ?_; refine loop_rule (fun k : Nat => [(2, uv32 (((b.take 4).take k).foldl (fun n c => ((n <<< 8) % 4294967296) ||| c) 0)), (8, iv (k : Int))]) (fun k u => k ≤ 4 ∧ w = u) (fun k _ => 4 - k) 0 ⟨rfl, rfl, trivial⟩ ⟨by omega, rfl⟩ rfl ?_; rintro G k u ⟨hk, rfl⟩; refine cD (fun hlt => ?_) (fun hge => ?_)
  · obtain ⟨bb, o, cs, x, rfl, hx, -, -, hcc, rfl, hx2⟩ := hs'.at_ (k := k) (by omega); refine idx k rfl (by omega) ?_; refine ld (uv8 x) (hcc 0 _ rfl) ?_
    have htk : (b.take 4).take (k + 1) = (b.take 4).take k ++ [x] := by rw [List.take_add_one, hx]; rfl
    have hf := wd_lt ((b.take 4).take k) 0 (by omega) fun y hy => hby y (List.mem_of_mem_take (List.mem_of_mem_take hy)); obtain ⟨f, hfe⟩ : ∃ f, f = ((b.take 4).take k).foldl (fun n c => ((n <<< 8) % 4294967296) ||| c) 0 := ⟨_, rfl⟩; rw [← hfe] at hf ⊢; refine shl32 8 rfl (by omega) ?_; refine cv32 x rfl ?_; rw [Nat.mod_eq_of_lt (show x < 4294967296 by omega)]; refine or32 (Nat.mod_lt _ (by omega)) (by omega) ?_; refine arI (by omega) ?_; refine next (k + 1) ⟨?_, by rw [Int.natCast_add]; rfl, trivial⟩ ⟨by omega, rfl⟩ (by omega); rw [htk, List.foldl_append, ← hfe]; rfl
  · have e : (b.take 4).take k = b.take 4 := List.take_of_length_le (by rw [List.length_take]; omega); rw [e]; exact ret1 (uv32 _) rfl ⟨rfl, rfl⟩
theorem set_back {α : Type} {X Y : List α} {cs : List α} {i : Nat} {v : α} (h : i < cs.length) : (cs.take (i + 1) ++ X ++ Y).set i v = cs.take i ++ (v :: X) ++ Y := by
  have e : cs.take (i + 1) = cs.take i ++ [cs[i]] := by rw [List.take_add_one, List.getElem?_eq_getElem h]; rfl
  rw [e]
  have hl : (cs.take i).length = i := by rw [List.length_take]; omega
  rw [List.append_assoc, List.append_assoc, List.set_append_right _ _ (by omega), hl, Nat.sub_self]; simp
theorem c_dput {g o n c N : Nat} {t : TypeId} {cs : List Value} (hb : Blk w g t cs) (ho : o + n ≤ cs.length) (hn : n ≤ 8) : CallZ Tryz.prog 199 #[.slice (some (ad g o)) n c, uv64 N] w (fun v w' => v = .tuple #[] ∧ Blk w' g t (cs.take o ++ u8s (beB n N) ++ cs.drop (o + n)) ∧ Kept (fun b => b ≠ g) w w') := by
  have hl := beB_len n N; refine fn_rule (args := [.slice (some (ad g o)) n c, uv64 N]) Tryz.func199 (by kernel_rfl) ?_; refine len ?_; refine loop_rule (fun k : Nat => [(7, iv (k : Int))]) (fun k u => k ≤ n ∧ Blk u g t (cs.take (o + (n - k)) ++ u8s ((beB n N).drop (n - k)) ++ cs.drop (o + n)) ∧ Kept (fun b => b ≠ g) w u) (fun k _ => n - k) 0 ⟨rfl, trivial⟩ ⟨by omega, ?_, .refl _ _⟩ rfl ?_
  · rw [Nat.sub_zero, List.drop_of_length_le (by omega)]
    simpa using hb
  rintro G k u ⟨hk, Bu, ku⟩; refine cD (fun hlt => ?_) (fun hge => ?_)
  · refine len ?_; refine arI (n := (n : Int) - 1) (by omega) ?_; refine arI (n := (n : Int) - 1 - (k : Int)) (by omega) ?_; refine arI (n := 8 * (k : Int)) (by omega) ?_; refine shr64 (8 * k) (by omega) (by omega) ?_; refine cv8 (N >>> (8 * k)) rfl ?_; refine idx (n - 1 - k) (by omega) (by omega) ?_; refine st (v := uv8 ((N >>> (8 * k)) % 256)) Bu ?_ rfl (fun u2 B2 k2 z2 => ?_)
    · rw [Nat.mul_one]; simp only [List.length_append, List.length_take, List.length_map, List.length_drop]; omega
    refine arI (by omega) ?_; refine next (k + 1) ⟨by rw [Int.natCast_add]; rfl, trivial⟩ ⟨by omega, ?_, ku.trans k2⟩ (by omega); rw [Nat.mul_one, show o + (n - k) = o + (n - 1 - k) + 1 by omega, set_back (by omega)] at B2; rw [beB_drop (show k < n by omega), show o + (n - (k + 1)) = o + (n - 1 - k) by omega]; exact B2
  · obtain rfl : k = n := by omega
    rw [Nat.sub_self, List.drop_zero, Nat.add_zero] at Bu; exact ret0 ⟨rfl, Bu, ku⟩
end
def sg0 (x : Nat) : Nat := rot x 7 ^^^ rot x 18 ^^^ x >>> 3
def sg1 (x : Nat) : Nat := rot x 17 ^^^ rot x 19 ^^^ x >>> 10
def wnext (ws : List Nat) (t : Nat) (blk : List Nat) : Nat :=
  if t < 16 then wdB (blk.drop (4 * t)) else ((((ws.getD (t - 16) 0 + sg0 (ws.getD (t - 15) 0)) % 4294967296 + ws.getD (t - 7) 0) % 4294967296) + sg1 (ws.getD (t - 2) 0)) % 4294967296
def schedL (blk : List Nat) : Nat → List Nat
  | 0 => []
  | t + 1 => schedL blk t ++ [wnext (schedL blk t) t blk]
theorem sched_len (blk : List Nat) : ∀ t, (schedL blk t).length = t
  | 0 => rfl
  | t + 1 => by unfold schedL; rw [List.length_append, sched_len blk t]; rfl
theorem sched_lt {blk : List Nat} (h : ∀ x ∈ blk, x < 256) : ∀ t, ∀ x ∈ schedL blk t, x < 4294967296
  | 0, x, hx => by cases hx
  | t + 1, x, hx => by
    unfold schedL at hx
    rcases List.mem_append.1 hx with hx | hx
    · exact sched_lt h t x hx
    · rw [List.mem_singleton] at hx
      subst hx
      unfold wnext
      split
      · exact wdB_lt fun y hy => h y (List.mem_of_mem_drop hy)
      · exact Nat.mod_lt _ (by omega)
theorem getD_lt {l : List Nat} (h : ∀ x ∈ l, x < 4294967296) (i : Nat) : l.getD i 0 < 4294967296 := by
  rw [List.getD_eq_getElem?_getD]
  cases e : l[i]? with
  | none => simp
  | some x => simpa using h x (List.mem_of_getElem? e)
def rndP (v4 v5 v6 v7 k w : Nat) : Nat := ((((v7 + rot3 v4 6 11 25) % 4294967296 + (v6 ^^^ (v4 &&& (v5 ^^^ v6)))) % 4294967296 + k) % 4294967296 + w) % 4294967296
def rndQ (v0 v1 v2 : Nat) : Nat := (rot3 v0 2 13 22 + ((v0 &&& v1) ||| (v2 &&& (v0 ||| v1)))) % 4294967296
def rndV (v : List Nat) (k w : Nat) : List Nat := match v with
  | [v0, v1, v2, v3, v4, v5, v6, v7] => [(rndP v4 v5 v6 v7 k w + rndQ v0 v1 v2) % 4294967296, v0, v1, v2, (v3 + rndP v4 v5 v6 v7 k w) % 4294967296, v4, v5, v6]
  | _ => v
def rnds (s ws : List Nat) : Nat → List Nat
  | 0 => s
  | t + 1 => rndV (rnds s ws t) (numsL.getD t 0) (ws.getD t 0)
def W8 (v : List Nat) : Prop := v.length = 8 ∧ ∀ x ∈ v, x < 4294967296
theorem W8.ex {v : List Nat} (h : W8 v) : ∃ v0 v1 v2 v3 v4 v5 v6 v7, v = [v0, v1, v2, v3, v4, v5, v6, v7] ∧ v0 < 4294967296 ∧ v1 < 4294967296 ∧ v2 < 4294967296 ∧ v3 < 4294967296 ∧ v4 < 4294967296 ∧ v5 < 4294967296 ∧ v6 < 4294967296 ∧ v7 < 4294967296 := by
  obtain ⟨hl, hx⟩ := h
  match v, hl, hx with
  | [v0, v1, v2, v3, v4, v5, v6, v7], _, hx => exact ⟨v0, v1, v2, v3, v4, v5, v6, v7, rfl, hx _ (by simp), hx _ (by simp), hx _ (by simp), hx _ (by simp), hx _ (by simp), hx _ (by simp), hx _ (by simp), hx _ (by simp)⟩
theorem W8.of {v0 v1 v2 v3 v4 v5 v6 v7 : Nat} (h0 : v0 < 4294967296) (h1 : v1 < 4294967296) (h2 : v2 < 4294967296) (h3 : v3 < 4294967296) (h4 : v4 < 4294967296) (h5 : v5 < 4294967296) (h6 : v6 < 4294967296) (h7 : v7 < 4294967296) : W8 [v0, v1, v2, v3, v4, v5, v6, v7] :=
  ⟨rfl, fun x hx => by simp only [List.mem_cons, List.not_mem_nil, or_false] at hx; rcases hx with rfl | rfl | rfl | rfl | rfl | rfl | rfl | rfl <;> assumption⟩
theorem rnds_ok {s ws : List Nat} (h : W8 s) : ∀ t, W8 (rnds s ws t)
  | 0 => h
  | t + 1 => by
    obtain ⟨v0, v1, v2, v3, v4, v5, v6, v7, e, h0, h1, h2, h3, h4, h5, h6, h7⟩ := (rnds_ok h t).ex
    unfold rnds
    rw [e]
    exact .of (Nat.mod_lt _ (by omega)) h0 h1 h2 (Nat.mod_lt _ (by omega)) h4 h5 h6
def absV (s blk : List Nat) : List Nat := List.zipWith (fun a b => (a + b) % 4294967296) s (rnds s (schedL blk 64) 64)
theorem absV_ok {s blk : List Nat} (h : W8 s) : W8 (absV s blk) := by
  have h2 := rnds_ok (ws := schedL blk 64) h 64; refine ⟨by unfold absV; rw [List.length_zipWith, h.1, h2.1]; rfl, fun x hx => ?_⟩; unfold absV at hx; obtain ⟨i, hi⟩ := List.getElem?_of_mem hx; rw [List.getElem?_zipWith] at hi
  split at hi
  · injection hi with hi; rw [← hi]; exact Nat.mod_lt _ (by omega)
  · cases hi
theorem u32s_at {l : List Nat} {i : Nat} (h : i < l.length) : (u32s l)[i]? = some (uv32 (l.getD i 0)) := by
  rw [List.getElem?_map, List.getElem?_eq_getElem h, List.getD_eq_getElem?_getD, List.getElem?_eq_getElem h]
  rfl
theorem u32s_app (a b : List Nat) : u32s (a ++ b) = u32s a ++ u32s b := List.map_append
theorem nums_lt : ∀ x ∈ numsL, x < 4294967296 := by decide
theorem start_ok : W8 startL := ⟨rfl, by decide⟩
section
variable {D : Nat → Prop} {w : World}
theorem set_mid {X Y : List Value} {v z : Value} {k : Nat} (h : k = X.length) : (X ++ z :: Y).set k v = (X ++ [v]) ++ Y := by
  subst h; rw [List.set_append_right _ _ (Nat.le_refl _), Nat.sub_self, List.append_assoc]
  rfl
set_option maxRecDepth 8000 in
set_option maxHeartbeats 4000000 in
theorem c_absorb {bs n c : Nat} {s b : List Nat} {A : Option Addr} (hN : NumW w) (Bs : Blk w bs 278 (u32s s)) (hs8 : W8 s) (hs : SlR tU8 D w A n b) (h64 : 64 ≤ n) (hc : n ≤ c) :
    CallZ Tryz.prog 198 #[ptr bs, .slice A n c] w (fun v w' => v = .tuple #[] ∧ Blk w' bs 278 (u32s (absV s b)) ∧ Kept (fun b => b ≠ bs) w w') := by
  have hs := hs.more (D' := fun _ => True) (by decide) fun _ _ _ => trivial; have hby := hs.u8b; have hlen := hs.len; refine fn_rule (args := [ptr bs, .slice A n c]) Tryz.func198 (by kernel_rfl) ?_; refine alloc (fun b4 w1 h1 => ?_); have e4 := h1.at_; have B4 : Blk w1 b4 308 (u32s (schedL b 0) ++ List.replicate (64 - 0) (uv32 0)) := h1.blk; have hs1 := hs.ext h1.ext; have l4 := B4.lt; have hsl := sched_len b; refine loop_rule (fun k : Nat => [(14, iv (k : Int))]) (fun k u => k ≤ 16 ∧ Blk u b4 308 (u32s (schedL b k) ++ List.replicate (64 - k) (uv32 0)) ∧ Kept (fun b => b ≠ b4) w1 u) (fun k _ => 16 - k) 0 ⟨rfl, trivial⟩ ⟨by omega, B4, .refl _ _⟩ rfl ?_; rintro G k u ⟨hk, Bu, ku⟩; have su := ku.size
  have xu : Ext w u := h1.ext.then ku fun b hb _ e => by omega
  refine cD (fun hlt => ?_) (fun hge => ?_)
  · refine arI (n := 4 * (k : Int)) (by omega) ?_; refine slcR (4 * k) n (hs.ext xu) hc (by show 4 * (k : Int) = ((4 * k : Nat) : Int); omega) rfl (by omega) (by omega) rfl (fun A' hA' => ?_); have sl := hA' _ u (hs.ext xu); rw [List.take_of_length_le (by omega)] at sl; refine call_of (c_dword sl (by omega) (by omega)) ?_; rintro _ u2 ⟨rfl, rfl⟩; refine idxR k rfl (by omega) ?_; refine st (v := uv32 (wdB (b.drop (4 * k)))) Bu ?_ rfl (fun u3 B3 k3 z3 => ?_)
    · rw [List.length_append, List.length_map, hsl, List.length_replicate]; omega
    refine arI (by omega) ?_; refine next (k + 1) ⟨by rw [Int.natCast_add]; rfl, trivial⟩ ⟨by omega, ?_, ku.trans k3⟩ (by omega)
    have e : List.replicate (64 - k) (uv32 0) = uv32 0 :: List.replicate (64 - (k + 1)) (uv32 0) := by rw [show 64 - k = 64 - (k + 1) + 1 by omega]; rfl
    rw [e, set_mid (by rw [List.length_map, hsl]; omega)] at B3; show Blk u3 b4 308 (u32s (schedL b k ++ [wnext (schedL b k) k b]) ++ _); rw [u32s_app, show wnext (schedL b k) k b = wdB (b.drop (4 * k)) from if_pos (by omega)]; exact B3
  obtain rfl : k = 16 := by omega
  refine loop_rule (fun k : Nat => [(6, iv (k : Int))]) (fun k v => (16 ≤ k ∧ k ≤ 64) ∧ Blk v b4 308 (u32s (schedL b k) ++ List.replicate (64 - k) (uv32 0)) ∧ Kept (fun b => b ≠ b4) w1 v) (fun k _ => 64 - k) 16 ⟨rfl, trivial⟩ ⟨by omega, Bu, ku⟩ rfl ?_; rintro G2 k v ⟨⟨hk1, hk2⟩, Bv, kv⟩; have sv := kv.size; refine cD (fun hlt => ?_) (fun hge => ?_)
  · have hlt := sched_lt hby k
    have hat : ∀ i, i < k → (u32s (schedL b k) ++ List.replicate (64 - k) (uv32 0))[i]? = some (uv32 ((schedL b k).getD i 0)) := fun i hi => by
      rw [List.getElem?_append_left (by rw [List.length_map, hsl]; exact hi), u32s_at (by rw [hsl]; exact hi)]
    obtain ⟨x15, h15⟩ : ∃ x, x = (schedL b k).getD (k - 15) 0 := ⟨_, rfl⟩; obtain ⟨x2, h2⟩ : ∃ x, x = (schedL b k).getD (k - 2) 0 := ⟨_, rfl⟩; obtain ⟨x16, h16⟩ : ∃ x, x = (schedL b k).getD (k - 16) 0 := ⟨_, rfl⟩; obtain ⟨x7, h7⟩ : ∃ x, x = (schedL b k).getD (k - 7) 0 := ⟨_, rfl⟩
    have l15 : x15 < 4294967296 := by rw [h15]; exact getD_lt hlt _
    have l2 : x2 < 4294967296 := by rw [h2]; exact getD_lt hlt _
    have l16 : x16 < 4294967296 := by rw [h16]; exact getD_lt hlt _
    have l7 : x7 < 4294967296 := by rw [h7]; exact getD_lt hlt _
    refine drawX [0, 1, 2, 3, 4, 5, 6, 7, 8, 9] [] mx (by kernel_rfl) ?_; refine arI (n := (k : Int) - 15) (by omega) ?_; refine idxR (k - 15) (by omega) (by omega) ?_; refine ldX (uv32 x15) (Bv.cell (by rw [Nat.zero_add, Nat.mul_one, h15]; exact hat _ (by omega))) (.refl _ _) ?_; refine arI (n := (k : Int) - 2) (by omega) ?_; refine idxR (k - 2) (by omega) (by omega) ?_; refine ldX (uv32 x2) (Bv.cell (by rw [Nat.zero_add, Nat.mul_one, h2]; exact hat _ (by omega))) (.refl _ _) ?_; refine drawP (.take 0 (.take 1 (.take 2 (.take 3 (.take 4 (.take 5 (.take 6 (.take 7 (.take 8 (.take 9 (.take 10 (.take 11 (.take 12 (.take 13 (.take 14 (.take 15 (.take 16 (.take 17 (.take 18 (.take 19 (.take 20 (.take 21 (.take 22 (.take 23 (.take 24 (.take 25 (.take 26 (.take 27 (.take 28 (.bar (.eff 29 .done))))))))))))))))))))))))))))))) [29] (fun y => y = v) mx (by kernel_rfl) rfl ?_; refine arI (n := (k : Int) - 16) (by omega) ?_; refine idxR (k - 16) (by omega) (by omega) ?_; refine ldS (uv32 x16) (fun y hy => by subst hy; exact Bv.cell (by rw [Nat.zero_add, Nat.mul_one, h16]; exact hat _ (by omega))) ?_; refine callQ (v := uv32 (rot x15 7)) (fun u _ => c_rotL 7 l15 (by omega) (by omega) rfl) ?_; refine callQ (v := uv32 (rot x15 18)) (fun u _ => c_rotL 18 l15 (by omega) (by omega) rfl) ?_; refine xor32 (rot_lt l15) (rot_lt l15) ?_; refine shr32 3 rfl (by omega) ?_; refine xor32 (xor_lt (rot_lt l15) (rot_lt l15)) (shr_lt l15) ?_; refine add32 ?_; refine arI (n := (k : Int) - 7) (by omega) ?_; refine idxR (k - 7) (by omega) (by omega) ?_; refine ldS (uv32 x7) (fun y hy => by subst hy; exact Bv.cell (by rw [Nat.zero_add, Nat.mul_one, h7]; exact hat _ (by omega))) ?_; refine add32 ?_; refine callQ (v := uv32 (rot x2 17)) (fun u _ => c_rotL 17 l2 (by omega) (by omega) rfl) ?_; refine callQ (v := uv32 (rot x2 19)) (fun u _ => c_rotL 19 l2 (by omega) (by omega) rfl) ?_; refine xor32 (rot_lt l2) (rot_lt l2) ?_; refine shr32 10 rfl (by omega) ?_; refine xor32 (xor_lt (rot_lt l2) (rot_lt l2)) (shr_lt l2) ?_; refine add32 ?_; refine idxR k rfl (by omega) ?_; refine barS (fun _ => True) trivial ?_
    have hli : 0 + k * 1 < (u32s (schedL b k) ++ List.replicate (64 - k) (uv32 0)).length := by rw [List.length_append, List.length_map, hsl, List.length_replicate]; omega
    have hwn : ((((x16 + sg0 x15) % 4294967296 + x7) % 4294967296) + sg1 x2) % 4294967296 = wnext (schedL b k) k b := by unfold wnext; rw [if_neg (by omega), h16, h15, h7, h2]
    refine st Bv hli rfl (fun u3 B3 k3 z3 => ?_); have B3 : Blk u3 b4 308 ((u32s (schedL b k) ++ List.replicate (64 - k) (uv32 0)).set (0 + k * 1) (uv32 (((((x16 + sg0 x15) % 4294967296 + x7) % 4294967296) + sg1 x2) % 4294967296))) := B3; rw [hwn] at B3; refine strS trivial ?_; refine arI (by omega) ?_; refine next (k + 1) ⟨by rw [Int.natCast_add]; rfl, trivial⟩ ⟨by omega, ?_, kv.trans k3⟩ (by omega)
    have e : List.replicate (64 - k) (uv32 0) = uv32 0 :: List.replicate (64 - (k + 1)) (uv32 0) := by rw [show 64 - k = 64 - (k + 1) + 1 by omega]; rfl
    rw [e, set_mid (by rw [List.length_map, hsl]; omega)] at B3; show Blk u3 b4 308 (u32s (schedL b k ++ [wnext (schedL b k) k b]) ++ _); rw [u32s_app]; exact B3
  obtain rfl : k = 64 := by omega
  have B4 : Blk v b4 308 (u32s (schedL b 64)) := by simpa using Bv
  have xv : Ext w v := h1.ext.then kv fun b hb _ e => by omega
  have lbs := Bs.lt; have Bs := Bs.ext xv; have hN := hN.ext xv; have hw64 := sched_lt hby 64; have hl64 := hsl 64; obtain ⟨ws, hws⟩ : ∃ ws, ws = schedL b 64 := ⟨_, rfl⟩; rw [← hws] at B4 hw64 hl64
  have hab : absV s b = List.zipWith (fun a b => (a + b) % 4294967296) s (rnds s ws 64) := by unfold absV; rw [← hws]
  clear hws Bv Bu; obtain ⟨s0, s1, s2, s3, s4, s5, s6, s7, rfl, hs0, hs1', hs2, hs3, hs4, hs5, hs6, hs7⟩ := hs8.ex; have Bs : Blk v bs 278 [uv32 s0, uv32 s1, uv32 s2, uv32 s3, uv32 s4, uv32 s5, uv32 s6, uv32 s7] := Bs; refine ldA [uv32 s0, uv32 s1, uv32 s2, uv32 s3, uv32 s4, uv32 s5, uv32 s6, uv32 s7] (.blk Bs) rfl ?_; refine alloc (fun b9 v1 h9 => ?_); refine stA (vs := [uv32 s0, uv32 s1, uv32 s2, uv32 s3, uv32 s4, uv32 s5, uv32 s6, uv32 s7]) h9.blk rfl (Nat.le_of_ble_eq_true rfl) (by simp [Value.oneCell']) (fun v2 B9 k9 z9 => ?_); have e9 := h9.at_; have B9 : Blk v2 b9 278 (u32s (rnds [s0, s1, s2, s3, s4, s5, s6, s7] ws 0)) := B9
  have xv2 : Ext v v2 := h9.ext.then k9 fun b hb _ e => by omega
  have B4 := B4.ext xv2; have Bs := Bs.ext xv2; have hN := hN.ext xv2; have lb4 := B4.lt; have lbs2 := Bs.lt; have l9 := B9.lt
  have l4v : b4 < v.heap.size := by have := sv; omega
  have lbv : bs < v.heap.size := by have := xv.size; omega
  have lg1 : ∀ t, t < 64 → v2.cell? (ad 1 (0 + t * 1)) = some (uv32 (numsL.getD t 0)) := fun t ht => by
    rw [Nat.mul_one]; exact hN.2 t _ (u32s_at (by show t < 64; exact ht))
  refine loop2 (fun (t : Nat) (_ : List Nat) => [(69, iv (t : Int))]) (fun t r u => t ≤ 64 ∧ r = rnds [s0, s1, s2, s3, s4, s5, s6, s7] ws t ∧ Blk u b9 278 (u32s r) ∧ Kept (fun b => b ≠ b9) v2 u) (fun t _ _ => 64 - t) 0 _ ⟨rfl, trivial⟩ ⟨by omega, rfl, B9, .refl _ _⟩ rfl ?_; rintro G3 t r u ⟨ht, hr, Br, kr⟩
  have hr8 : W8 r := by rw [hr]; exact rnds_ok hs8 t
  have sr := kr.size; refine cD (fun hlt => ?_) (fun hge => ?_)
  · have hgl := (lt_of_cell (lg1 t (by omega)))
    have hng : 1 < v.heap.size := by
      have := lt_of_cell (((NumW.ext ‹NumW w› xv)).2 0 _ rfl); exact this
    obtain ⟨v0, v1', v2', v3, v4, v5, v6, v7, hre, h0, h1', h2, h3, h4, h5, h6, h7⟩ := hr8.ex
    have hst : rnds [s0, s1, s2, s3, s4, s5, s6, s7] ws (t + 1) = rndV r (numsL.getD t 0) (ws.getD t 0) := by rw [hr]; rfl
    subst hre; have Br : Blk u b9 278 [uv32 v0, uv32 v1', uv32 v2', uv32 v3, uv32 v4, uv32 v5, uv32 v6, uv32 v7] := Br; obtain ⟨kt, hkt⟩ : ∃ kt, kt = numsL.getD t 0 := ⟨_, rfl⟩; obtain ⟨wt, hwt⟩ : ∃ wt, wt = ws.getD t 0 := ⟨_, rfl⟩
    have hkl : kt < 4294967296 := by rw [hkt]; exact getD_lt nums_lt _
    have hwl : wt < 4294967296 := by rw [hwt]; exact getD_lt hw64 _
    have hkc : u.cell? (ad 1 (0 + t * 1)) = some (uv32 kt) := by rw [hkt]; exact kr.cell (lg1 t (by omega)) (by show 1 ≠ b9; omega)
    have hwc : u.cell? (ad b4 (0 + t * 1)) = some (uv32 wt) := by
      rw [Nat.mul_one, Nat.zero_add, hwt]; exact (B4.kept kr (by omega)).cell (u32s_at (by omega))
    rw [← hkt, ← hwt] at hst; refine drawX [0, 1, 2, 3, 4, 5, 6, 7, 8, 9, 10, 11, 12, 13, 14, 15, 16, 17, 18, 19, 20, 21, 22, 23, 24, 25, 26] [] mx (by kernel_rfl) ?_; refine idxR 7 rfl (by omega) ?_; refine ldX (uv32 v7) (Br.cell rfl) (.refl _ _) ?_; refine idxR 4 rfl (by omega) ?_; refine ldX (uv32 v4) (Br.cell rfl) (.refl _ _) ?_; refine callQ (v := uv32 (rot3 v4 6 11 25)) (fun u _ => c_drotated (a := 6) (b := 11) (c := 25) h4 (by omega) (by omega) (by omega)) ?_; refine add32 ?_; refine idxR 6 rfl (by omega) ?_; refine ldX (uv32 v6) (Br.cell rfl) (.refl _ _) ?_; refine idxR 4 rfl (by omega) ?_; refine ldX (uv32 v4) (Br.cell rfl) (.refl _ _) ?_; refine idxR 5 rfl (by omega) ?_; refine ldX (uv32 v5) (Br.cell rfl) (.refl _ _) ?_; refine idxR 6 rfl (by omega) ?_; refine ldX (uv32 v6) (Br.cell rfl) (.refl _ _) ?_; refine xor32 h5 h6 ?_; refine and32 h4 (xor_lt h5 h6) ?_; refine xor32 h6 (and_lt h4) ?_; refine add32 ?_; refine idxR t rfl (by omega) ?_; refine ldX (uv32 kt) hkc (.refl _ _) ?_; refine add32 ?_; refine idxR t rfl (by omega) ?_; refine ldX (uv32 wt) hwc (.refl _ _) ?_; refine add32 ?_; obtain ⟨pp, hpp⟩ : ∃ pp, pp = rndP v4 v5 v6 v7 kt wt := ⟨_, rfl⟩; rw [show (((((v7 + rot3 v4 6 11 25) % 4294967296 + (v6 ^^^ (v4 &&& (v5 ^^^ v6)))) % 4294967296 + kt) % 4294967296 + wt) % 4294967296) = pp from hpp.symm]; refine drawX [0, 1, 2, 3, 4, 5, 6, 7, 8, 9, 10, 11, 12, 13, 14, 15, 16, 17, 18] [] mx (by kernel_rfl) ?_; refine idxR 0 rfl (by omega) ?_; refine ldX (uv32 v0) (Br.cell rfl) (.refl _ _) ?_; refine callQ (v := uv32 (rot3 v0 2 13 22)) (fun u _ => c_drotated (a := 2) (b := 13) (c := 22) h0 (by omega) (by omega) (by omega)) ?_; refine idxR 0 rfl (by omega) ?_; refine ldX (uv32 v0) (Br.cell rfl) (.refl _ _) ?_; refine idxR 1 rfl (by omega) ?_; refine ldX (uv32 v1') (Br.cell rfl) (.refl _ _) ?_; refine and32 h0 h1' ?_; refine idxR 2 rfl (by omega) ?_; refine ldX (uv32 v2') (Br.cell rfl) (.refl _ _) ?_; refine idxR 0 rfl (by omega) ?_; refine ldX (uv32 v0) (Br.cell rfl) (.refl _ _) ?_; refine idxR 1 rfl (by omega) ?_; refine ldX (uv32 v1') (Br.cell rfl) (.refl _ _) ?_; refine or32 h0 h1' ?_; refine and32 h2 (or_lt h0 h1') ?_; refine or32 (and_lt h0) (and_lt h2) ?_; refine add32 ?_; obtain ⟨qq, hqq⟩ : ∃ qq, qq = rndQ v0 v1' v2' := ⟨_, rfl⟩; rw [show ((rot3 v0 2 13 22 + ((v0 &&& v1') ||| (v2' &&& (v0 ||| v1')))) % 4294967296) = qq from hqq.symm]; refine drawP (.take 0 (.take 1 (.eff 2 .done))) [] (fun y => Kept (fun b => b ≠ b9) u y) mx (by kernel_rfl) (.refl _ _) ?_; refine slcArr 1 8 rfl rfl (by omega) (by omega) (by omega) ?_; refine slcArr 0 7 rfl rfl (by omega) (by omega) (by omega) ?_; refine cpy (t := 311) (t2 := 311) (o := 1) (n := 7) (m := 7) (news := [uv32 v0, uv32 v1', uv32 v2', uv32 v3, uv32 v4, uv32 v5, uv32 v6]) Br (by show 1 + 7 ≤ 8; omega) ⟨rfl, fun _ => ⟨b9, 0, rfl, fun j x hx => ?_⟩⟩ (fun u1 B1 k1 z1 => ?_)
    · rw [Nat.zero_add]; refine Br.cell ?_; have hj : j < 7 := (List.getElem?_eq_some_iff.1 hx).1; rw [← hx]; exact List.getElem?_append_left (l₁ := [uv32 v0, uv32 v1', uv32 v2', uv32 v3, uv32 v4, uv32 v5, uv32 v6]) (l₂ := [uv32 v7]) hj
    have B1 : Blk u1 b9 278 [uv32 v0, uv32 v0, uv32 v1', uv32 v2', uv32 v3, uv32 v4, uv32 v5, uv32 v6] := B1; refine strS k1 ?_; refine idxR 4 rfl (by omega) ?_; refine ld (uv32 v3) (B1.cell rfl) ?_; refine add32 ?_; refine idxR 4 rfl (by omega) ?_; refine st (v := uv32 ((v3 + pp) % 4294967296)) B1 (by show 4 < 8; omega) rfl (fun u2 B2 k2 z2 => ?_); have B2 : Blk u2 b9 278 [uv32 v0, uv32 v0, uv32 v1', uv32 v2', uv32 ((v3 + pp) % 4294967296), uv32 v4, uv32 v5, uv32 v6] := B2; refine add32 ?_; refine idxR 0 rfl (by omega) ?_; refine st (v := uv32 ((pp + qq) % 4294967296)) B2 (by show 0 < 8; omega) rfl (fun u3 B3 k3 z3 => ?_); refine arI (by omega) ?_; refine next2 (t + 1) (rndV [v0, v1', v2', v3, v4, v5, v6, v7] kt wt) ⟨by rw [Int.natCast_add]; rfl, trivial⟩ ⟨by omega, hst.symm, ?_, ((kr.trans k1).trans k2).trans k3⟩ (by omega); rw [hpp, hqq] at B3; exact B3
  obtain rfl : t = 64 := by omega
  have Bs := Bs.kept kr (show bs ≠ b9 by omega); obtain ⟨S, hS⟩ : ∃ S, S = [s0, s1, s2, s3, s4, s5, s6, s7] := ⟨_, rfl⟩; rw [← hS] at hr hab hs8 ⊢
  have Bs : Blk u bs 278 (u32s S) := by rw [hS]; exact Bs
  have Sl := hs8.1; have rl := hr8.1
  have hR : absV S b = List.zipWith (fun a b => (a + b) % 4294967296) S r := by rw [hab, hr]
  have Rl : (absV S b).length = 8 := (absV_ok hs8).1
  have Rat : ∀ i, i < 8 → (absV S b)[i]? = some ((S.getD i 0 + r.getD i 0) % 4294967296) := fun i hi => by
    rw [hR, List.getElem?_zipWith, List.getElem?_eq_getElem (show i < S.length by omega), List.getElem?_eq_getElem (show i < r.length by omega)]; simp only [List.getD_eq_getElem?_getD, List.getElem?_eq_getElem (show i < S.length by omega), List.getElem?_eq_getElem (show i < r.length by omega), Option.getD_some]
  have lbu := Bs.lt; refine loop_rule (fun k : Nat => [(129, iv (k : Int))]) (fun k y => k ≤ 8 ∧ Blk y bs 278 (u32s ((absV S b).take k ++ S.drop k)) ∧ Kept (fun b => b ≠ bs) u y) (fun k _ => 8 - k) 0 ⟨rfl, trivial⟩ ⟨by omega, Bs, .refl _ _⟩ rfl ?_; rintro G4 k y ⟨hk, By, ky⟩; refine cD (fun hlt => ?_) (fun hge => ?_)
  · have hFl : ((absV S b).take k ++ S.drop k).length = 8 := by rw [List.length_append, List.length_take, List.length_drop]; omega
    have hFk : (u32s ((absV S b).take k ++ S.drop k))[0 + k * 1]? = some (uv32 (S.getD k 0)) := by
      rw [Nat.mul_one, Nat.zero_add, u32s_at (by omega), List.getD_eq_getElem?_getD, List.getElem?_append_right (by rw [List.length_take]; omega), List.length_take, List.getElem?_drop, show k + (k - min k (absV S b).length) = k by omega, ← List.getD_eq_getElem?_getD]
    have hrk : (u32s r)[0 + k * 1]? = some (uv32 (r.getD k 0)) := by rw [Nat.mul_one, Nat.zero_add]; exact u32s_at (by omega)
    have Brk := Br.kept ky (show b9 ≠ bs by omega)
    have hli : 0 + k * 1 < (u32s ((absV S b).take k ++ S.drop k)).length := by rw [List.length_map, hFl]; omega
    refine drawP (.take 0 (.take 1 (.take 2 (.take 3 (.take 4 (.take 5 (.take 6 (.take 7 (.take 8 (.take 9 (.take 10 (.bar (.eff 11 .done))))))))))))) [11] (fun z => z = y) mx (by kernel_rfl) rfl ?_; refine idxR k rfl (by omega) ?_; refine ldS (uv32 (S.getD k 0)) (fun z hz => by subst hz; exact By.cell hFk) ?_; refine idxR k rfl (by omega) ?_; refine ldS (uv32 (r.getD k 0)) (fun z hz => by subst hz; exact Brk.cell hrk) ?_; refine add32 ?_; refine idxR k rfl (by omega) ?_; refine barS (fun _ => True) trivial ?_; refine st By hli rfl (fun y2 B2 k2 z2 => ?_); have B2 : Blk y2 bs 278 ((u32s ((absV S b).take k ++ S.drop k)).set (0 + k * 1) (uv32 ((S.getD k 0 + r.getD k 0) % 4294967296))) := B2; refine strS trivial ?_; refine arI (by omega) ?_; refine next (k + 1) ⟨by rw [Int.natCast_add]; rfl, trivial⟩ ⟨by omega, ?_, ky.trans k2⟩ (by omega)
    have e : (u32s ((absV S b).take k ++ S.drop k)).set (0 + k * 1) (uv32 ((S.getD k 0 + r.getD k 0) % 4294967296)) = u32s ((absV S b).take (k + 1) ++ S.drop (k + 1)) := by
      rw [Nat.mul_one, Nat.zero_add, List.take_add_one, Rat k (by omega), u32s_app, u32s_app, List.drop_eq_getElem_cons (show k < S.length by omega)]
      have hl : (u32s ((absV S b).take k)).length = k := by rw [List.length_map, List.length_take]; omega
      rw [List.set_append_right _ _ (by omega), hl, Nat.sub_self, u32s_app, List.append_assoc]
      rfl
    rw [← e]; exact B2
  · obtain rfl : k = 8 := by omega
    rw [List.take_of_length_le (by omega), List.drop_of_length_le (by omega), List.append_nil] at By; refine ret0 ⟨rfl, By, ?_⟩; have k1 : Kept (fun b => b ≠ bs) w v2 := Ext.any (xv.trans xv2); exact (k1.then kr fun q hq _ e => by have := xv.size; omega).then ky fun q _ h => h
end
def absK (s b : List Nat) : Nat → List Nat
  | 0 => s
  | k + 1 => absV (absK s b k) ((b.drop (64 * k)).take 64)
theorem absK_ok {s b : List Nat} (h : W8 s) : ∀ k, W8 (absK s b k)
  | 0 => h
  | k + 1 => absV_ok (absK_ok h k)
def restL (b : List Nat) : List Nat := b.drop (64 * (b.length / 64))
theorem restL_len (b : List Nat) : (restL b).length = b.length % 64 := by unfold restL; rw [List.length_drop]; omega
def endM (b : List Nat) : Nat := if b.length % 64 ≤ 55 then 64 else 128
def endB (b : List Nat) : List Nat := restL b ++ 128 :: (List.replicate (endM b - 9 - b.length % 64) 0 ++ beB 8 (8 * b.length))
theorem endB_len (b : List Nat) : (endB b).length = endM b := by
  unfold endB; rw [List.length_append, List.length_cons, List.length_append, List.length_replicate, beB_len, restL_len]; unfold endM
  split <;> omega
theorem endB_lt {b : List Nat} (h : ∀ x ∈ b, x < 256) : ∀ x ∈ endB b, x < 256 := fun x hx => by
  unfold endB at hx
  rcases List.mem_append.1 hx with hx | hx
  · exact h x (List.mem_of_mem_drop hx)
  rcases List.mem_cons.1 hx with rfl | hx
  · omega
  rcases List.mem_append.1 hx with hx | hx
  · rw [List.mem_replicate] at hx; omega
  · exact beB_lt _ _ x hx
def shaB (b : List Nat) : List Nat := (absK (absK startL b (b.length / 64)) (endB b) (endM b / 64)).flatMap (beB 4)
theorem flatB_len : ∀ {s : List Nat}, (s.flatMap (beB 4)).length = 4 * s.length
  | [] => rfl
  | x :: s => by rw [List.flatMap_cons, List.length_append, beB_len, flatB_len, List.length_cons]; omega
theorem shaB_len (b : List Nat) : (shaB b).length = 32 := by
  unfold shaB; rw [flatB_len, (absK_ok (absK_ok start_ok _) _).1]
theorem shaB_lt (b : List Nat) : ∀ x ∈ shaB b, x < 256 := fun x hx => by
  obtain ⟨y, -, hx⟩ := List.mem_flatMap.1 hx
  exact beB_lt _ _ x hx
theorem NumW.kept {D : Nat → Prop} {w w' : World} (h : NumW w) (k : Kept D w w') (h1 : D 0) (h2 : D 1) : NumW w' := ⟨CellsAt.kept h.1 k h1, CellsAt.kept h.2 k h2⟩
theorem NumW.lt {w : World} (h : NumW w) : 0 < w.heap.size ∧ 1 < w.heap.size := ⟨lt_of_cell (h.1 0 _ rfl), lt_of_cell (h.2 0 _ rfl)⟩
theorem u8s_app (a b : List Nat) : u8s (a ++ b) = u8s a ++ u8s b := List.map_append
theorem u8s_rep (n x : Nat) : u8s (List.replicate n x) = List.replicate n (uv8 x) := List.map_replicate
theorem mul64 {K : Value → Prop} {a b : Nat} (h : a * b < 18446744073709551616) (k : K (uv64 (a * b))) : ArP .u64 ((a : Int) * (b : Int)) K := by
  rw [ArP_eq, u64_wrap, ← Int.natCast_mul, show (((a * b : Nat) : Int)) % 18446744073709551616 = ((a * b : Nat) : Int) by omega]; exact k
theorem end_cells {b : List Nat} {m M n : Nat} (hrl : (restL b).length = m) (h1 : m + 9 ≤ M) (h2 : M ≤ 128) (hM : endM b = M) (hn : b.length = n) :
    (u8s (restL b ++ [128]) ++ List.replicate (127 - m) (uv8 0)).take (M - 8) ++ u8s (beB 8 (n * 8)) ++ (u8s (restL b ++ [128]) ++ List.replicate (127 - m) (uv8 0)).drop (M - 8 + 8) = u8s (endB b) ++ List.replicate (128 - M) (uv8 0) := by
  have hl : (u8s (restL b ++ [128])).length = m + 1 := by rw [List.length_map, List.length_append, hrl]; rfl
  have hmm : b.length % 64 = m := by rw [← restL_len]; exact hrl
  rw [List.take_append, List.drop_append, List.take_of_length_le (by omega), List.drop_of_length_le (by omega), hl, List.take_replicate, List.drop_replicate]; unfold endB; rw [hM, hmm, hn, show (128 :: (List.replicate (M - 9 - m) 0 ++ beB 8 (8 * n)) : List Nat) = [128] ++ (List.replicate (M - 9 - m) 0 ++ beB 8 (8 * n)) from rfl, show min (M - 8 - (m + 1)) (127 - m) = M - 9 - m by omega, show 127 - m - (M - 8 + 8 - (m + 1)) = 128 - M by omega, Nat.mul_comm n 8]; simp only [u8s_app, u8s_rep, List.append_assoc, List.nil_append]
theorem put_cells {X : List Value} {B : List Value} {k r : Nat} {z : Value} (h1 : X.length = k) : (X ++ List.replicate r z).take k ++ B ++ (X ++ List.replicate r z).drop (k + 4) = X ++ (B ++ List.replicate (r - 4) z) := by
  rw [List.take_append, List.take_of_length_le (by omega), List.drop_append, List.drop_of_length_le (by omega), List.drop_replicate, h1, Nat.sub_self, List.take_zero, List.append_nil, List.nil_append, show r - (k + 4 - k) = r - 4 by omega, List.append_assoc]
section
variable {D : Nat → Prop} {w : World}
set_option maxRecDepth 8000 in
set_option maxHeartbeats 4000000 in
theorem c_dSum {A : Option Addr} {n c : Nat} {b : List Nat} (hN : NumW w) (hs : SlR tU8 D w A n b) (hc : n ≤ c) : CallZ Tryz.prog 134 #[.slice A n c] w (fun v w' => v = .agg (u8s (shaB b)).toArray ∧ Ext w w') := by
  have hs := hs.more (D' := fun b => b < w.heap.size) (by decide) fun b hb _ => hb; have hby := hs.u8b; have hlen := hs.len; have hle := hs.le; have hNl := hN.lt; refine fn_rule (args := [.slice A n c]) Tryz.func134 (by kernel_rfl) ?_; refine alloc (fun b2 w1 h1 => ?_); have e2 := h1.at_; have B2 : Blk w1 b2 47 (List.replicate 32 (uv8 0)) := h1.blk; have hN1 := hN.ext h1.ext; refine ldA (u32s startL) hN1.1 rfl ?_; refine alloc (fun b3 w2 h2 => ?_); refine stA (vs := u32s startL) h2.blk rfl (Nat.le_of_ble_eq_true rfl) (by simp [startL, Value.oneCell']) (fun w3 B3 k3 z3 => ?_); have e3 := h2.at_; have B3 : Blk w3 b3 278 (u32s startL) := B3
  have x13 : Ext w1 w3 := h2.ext.then k3 fun b hb _ e => by omega
  have x3 := h1.ext.trans x13; have B2 := B2.ext x13; have hN := hN1.ext x13; have s13 := x13.size; have s1 := h1.ext.size; have l3 := B3.lt; have l2 := h1.blk.lt; have hs3 := (hs.ext x3).more (D' := fun b => b ≠ b3 ∧ b < w3.heap.size) (by decide) fun b hb h => ⟨by omega, hb⟩; clear h1 h2 k3 z3; refine loop4 (fun (_ : Nat) (A' : Option Addr) (m cm : Nat) => [(5, .slice A' m cm)]) (fun k A' m cm u => 64 * k ≤ n ∧ SlR tU8 (fun b => b ≠ b3 ∧ b < w3.heap.size) u A' m (b.drop (64 * k)) ∧ m ≤ cm ∧ Blk u b3 278 (u32s (absK startL b k)) ∧ Kept (fun b => b ≠ b3) w3 u) (fun k _ _ _ _ => n - 64 * k) 0 A n c ⟨rfl, trivial⟩ ⟨by omega, hs3, hc, B3, .refl _ _⟩ rfl ?_; rintro G k A' m cm u ⟨hk, hsu, hcu, Bu, ku⟩
  have hm : m = n - 64 * k := by have := hsu.1; rw [List.length_drop] at this; omega
  refine len ?_; refine cD (fun hlt => ?_) (fun hge => ?_)
  · refine slcR 0 64 hsu hcu rfl rfl (by omega) (by omega) rfl (fun A2 hA2 => ?_); have sl := hA2 _ u hsu; rw [List.drop_zero] at sl; refine call_of (c_absorb (hN.kept ku (by omega) (by omega)) Bu (absK_ok start_ok k) sl (by omega) (by omega)) ?_; rintro _ u2 ⟨rfl, B2, k2⟩; refine slcR 64 m hsu hcu rfl rfl (by omega) (by omega) rfl (fun A3 hA3 => ?_); have s3 := hA3 _ u2 (hsu.kept k2 fun b _ h => h.1); rw [List.take_of_length_le (by rw [hsu.1]; omega), List.drop_drop] at s3; refine next4 (k + 1) A3 (m - 64) (cm - 64) ⟨rfl, trivial⟩ ⟨by omega, by rw [show 64 * (k + 1) = 64 * k + 64 by omega]; exact s3, by omega, ?_, ku.trans k2⟩ (by omega); have e : absK startL b (k + 1) = absV (absK startL b k) (((b).drop (64 * k)).take 64) := rfl; rw [e]
    have e2 : ((((b).drop (64 * k)).take 64).take 64) = (((b).drop (64 * k)).take 64) := by rw [List.take_take]; rfl
    exact B2
  have hkk : k = n / 64 := by omega
  have hrest : b.drop (64 * k) = restL b := by unfold restL; rw [hkk, hlen]
  rw [hrest] at hsu; have hS8 : W8 (absK startL b k) := absK_ok start_ok k
  have hkd : absK startL b k = absK startL b (b.length / 64) := by rw [hkk, hlen]
  rw [hkd] at Bu hS8; obtain ⟨S, hS⟩ : ∃ S, S = absK startL b (b.length / 64) := ⟨_, rfl⟩; rw [← hS] at Bu hS8
  have hm64 : m < 64 := by omega
  have hmm : m = b.length % 64 := by rw [← restL_len]; exact hsu.1
  have hN := hN.kept ku (show 0 ≠ b3 by omega) (show 1 ≠ b3 by omega); have hB2 := B2.kept ku (show b2 ≠ b3 by omega); have su := ku.size
  have x0u : Ext w u := x3.then ku fun b hb _ e => by omega
  have hrl : (restL b).length = m := hsu.1.symm
  -- the end
  refine mslcC (sz := 1) (by_ := 1) 64 128 rfl (by omega) rfl (by omega) (by omega) rfl (by omega) (fun ge v1 hq => ?_); have ege := hq.at_; have xq := hq.ext; have BE : Blk v1 ge 5 (List.replicate 128 (uv8 0)) := hq.blk; have lge := BE.lt; have hsv := hsu.ext xq; refine cpy (n := 64) (m := m) BE (by simp) hsv.u8src (fun v2 BE2 k2 z2 => ?_) (h1 := u8s_one _)
  have BE2 : Blk v2 ge 5 (u8s (restL b) ++ List.replicate (128 - m) (uv8 0)) := by
    rw [List.take_zero, List.nil_append, List.take_of_length_le (by rw [List.length_map]; omega), Nat.zero_add, Nat.min_eq_left (by omega), List.drop_replicate] at BE2; exact BE2
  refine len ?_; refine idx m rfl (by omega) ?_
  have hli : 0 + m * 1 < (u8s (restL b) ++ List.replicate (128 - m) (uv8 0)).length := by rw [List.length_append, List.length_map, List.length_replicate]; omega
  refine st BE2 hli rfl (fun v3 BE3 k3 z3 => ?_)
  have BE3 : Blk v3 ge 5 (u8s (restL b ++ [128]) ++ List.replicate (127 - m) (uv8 0)) := by
    have e : List.replicate (128 - m) (uv8 0) = uv8 0 :: List.replicate (127 - m) (uv8 0) := by rw [show 128 - m = 127 - m + 1 by omega]; rfl
    rw [Nat.zero_add, Nat.mul_one, e, set_mid (by rw [List.length_map]; omega)] at BE3; rw [u8s_app]; exact BE3
  have k13 : Kept (fun b => b ≠ ge) v1 v3 := k2.trans k3
  have kq3 : Ext u v3 := xq.then k13 fun b hb _ e => by omega
  have Bu3 := Bu.ext kq3; have B23 := hB2.ext kq3; have hN3 := hN.ext kq3; have s3 := kq3.size; have lb3 := Bu.lt; have lb2 := hB2.lt
  have hcap : n * 8 < 18446744073709551616 := by omega
  refine len ?_; refine cD (fun h55 => ?_) (fun h55 => ?_)
  · have hM : endM b = 128 := by unfold endM; rw [if_neg (by omega)]
    refine slcA 0 128 rfl rfl (by omega) (by omega) (by omega) ?_; refine len ?_; refine arI (n := (128 : Int) - 8) (by omega) ?_; refine slcA 120 128 rfl rfl (by omega) (by omega) (by omega) ?_; refine len ?_; refine cv64 n rfl ?_; rw [Nat.mod_eq_of_lt (show n < 18446744073709551616 by omega)]; refine mul64 (a := n) (b := 8) hcap ?_; refine call_of (c_dput (o := 120) (n := 8) (N := n * 8) BE3 (by rw [List.length_append, List.length_map, List.length_append, List.length_replicate, hrl]; show 120 + 8 ≤ m + 1 + (127 - m); omega) (by omega)) ?_; rintro _ v4 ⟨rfl, BE4, k34⟩
    have BE4 : Blk v4 ge 5 (u8s (endB b) ++ List.replicate (128 - 128) (uv8 0)) := by
      rw [end_cells (M := 128) hrl (by omega) (by omega) hM hlen] at BE4; exact BE4
    have kq4 : Ext u v4 := kq3.then k34 fun b hb _ e => by omega
    have Bu4 := Bu.ext kq4; have B24 := hB2.ext kq4; have hN4 := hN.ext kq4; have s4 := kq4.size; have hel := endB_len b; have hE : SlR tU8 (fun b => b ≠ b3 ∧ b < v4.heap.size) v4 (some (ad ge 0)) 128 (endB b) := SlR.of_cells (by rw [hel, hM]) (by omega) ⟨by omega, BE4.lt⟩ (fun j x hx => by rw [Nat.zero_add]; exact BE4.cell (by rw [List.getElem?_append_left (List.getElem?_eq_some_iff.1 hx).1]; exact hx)) (flat_u8s (endB_lt hby)); clear BE BE2 BE3 BE4 hq k2 z2 k3 z3; refine loop4 (fun (_ : Nat) (A' : Option Addr) (m cm : Nat) => [(6, .slice A' m cm)]) (fun k A' m cm u => 64 * k ≤ 128 ∧ SlR tU8 (fun b => b ≠ b3 ∧ b < v4.heap.size) u A' m ((endB b).drop (64 * k)) ∧ m ≤ cm ∧ Blk u b3 278 (u32s (absK S (endB b) k)) ∧ Kept (fun b => b ≠ b3) v4 u) (fun k _ _ _ _ => 128 - 64 * k) 0 (some (ad ge 0)) 128 128 ⟨rfl, trivial⟩ ⟨by omega, hE, by omega, Bu4, .refl _ _⟩ rfl ?_; rintro G2 k A' m cm u ⟨hk, hsu, hcu, Bu, ku⟩
    have hm : m = 128 - 64 * k := by have := hsu.1; rw [List.length_drop, hel, hM] at this; omega
    have hN := hN4; refine len ?_; refine cD (fun hlt => ?_) (fun hge => ?_)
    · refine slcR 0 64 hsu hcu rfl rfl (by omega) (by omega) rfl (fun A2 hA2 => ?_); have sl := hA2 _ u hsu; rw [List.drop_zero] at sl; refine call_of (c_absorb (hN.kept ku (by omega) (by omega)) Bu (absK_ok hS8 k) sl (by omega) (by omega)) ?_; rintro _ u2 ⟨rfl, B2, k2⟩; refine slcR 64 m hsu hcu rfl rfl (by omega) (by omega) rfl (fun A3 hA3 => ?_); have s3 := hA3 _ u2 (hsu.kept k2 fun b _ h => h.1); rw [List.take_of_length_le (by rw [hsu.1]; omega), List.drop_drop] at s3; refine next4 (k + 1) A3 (m - 64) (cm - 64) ⟨rfl, trivial⟩ ⟨by omega, by rw [show 64 * (k + 1) = 64 * k + 64 by omega]; exact s3, by omega, ?_, ku.trans k2⟩ (by omega); have e : absK S (endB b) (k + 1) = absV (absK S (endB b) k) ((((endB b)).drop (64 * k)).take 64) := rfl; rw [e]
      have e2 : (((((endB b)).drop (64 * k)).take 64).take 64) = ((((endB b)).drop (64 * k)).take 64) := by rw [List.take_take]; rfl
      exact B2
    have hkk : k = 128 / 64 := by omega
    have hF8 : W8 (absK S (endB b) k) := absK_ok hS8 k
    have hsha : shaB b = (absK S (endB b) k).flatMap (beB 4) := by unfold shaB; rw [hS, hkk, hM]
    obtain ⟨F, hF⟩ : ∃ F, F = absK S (endB b) k := ⟨_, rfl⟩; rw [← hF] at Bu hF8 hsha; have B2u := B24.kept ku (show b2 ≠ b3 by omega); have su2 := ku.size; have l2u := B2u.lt; refine ldA (u32s F) (.blk Bu) (by rw [List.length_map]; exact hF8.1) ?_; refine loop_rule (fun k : Nat => [(54, iv (k : Int))]) (fun k y => k ≤ 8 ∧ Blk y b2 47 (u8s ((F.take k).flatMap (beB 4)) ++ List.replicate (32 - 4 * k) (uv8 0)) ∧ Kept (fun b => b ≠ b2) u y) (fun k _ => 8 - k) 0 ⟨rfl, trivial⟩ ⟨by omega, B2u, .refl _ _⟩ rfl ?_; rintro G3 k y ⟨hk8, By, ky⟩; have hFl := hF8.1
    have hfl : ((F.take k).flatMap (beB 4)).length = 4 * k := by rw [flatB_len, List.length_take]; omega
    refine cD (fun hlt => ?_) (fun hge => ?_)
    · have hFk := u32s_at (l := F) (i := k) (by omega); have hlt := getD_lt hF8.2 k; refine idxVc k (uv32 (F.getD k 0)) rfl (by omega) (by rw [Nat.mul_one]; exact hFk) ?_; refine arI (n := 4 * (k : Int)) (by omega) ?_; refine arI (n := 4 * (k : Int)) (by omega) ?_; refine arI (n := 4 * (k : Int) + 4) (by omega) ?_; refine slcArr (4 * k) (4 * k + 4) (by show 4 * (k : Int) = ((4 * k : Nat) : Int); omega) (by show 4 * (k : Int) + 4 = ((4 * k + 4 : Nat) : Int); omega) (by omega) (by omega) (by omega) ?_; refine cv64 (F.getD k 0) rfl ?_; rw [Nat.mod_eq_of_lt (show F.getD k 0 < 18446744073709551616 by omega), show 0 + 4 * k * 1 = 4 * k by omega, show 4 * k + 4 - 4 * k = 4 by omega]; refine call_of (c_dput (o := 4 * k) (n := 4) By (by rw [List.length_append, List.length_map, hfl, List.length_replicate]; omega) (by omega)) ?_; rintro _ y2 ⟨rfl, By2, ky2⟩; refine arI (n := (k : Int) + 1) (by omega) ?_; refine next (k + 1) ⟨by rw [Int.natCast_add]; rfl, trivial⟩ ⟨by omega, ?_, ky.trans ky2⟩ (by omega); rw [put_cells (by rw [List.length_map, hfl])] at By2; rw [List.take_add_one, List.getElem?_eq_getElem (show k < F.length by omega), List.flatMap_append, u8s_app, List.append_assoc, show 32 - 4 * (k + 1) = 32 - 4 * k - 4 by omega]
      have e : F.getD k 0 = F[k] := by rw [List.getD_eq_getElem?_getD, List.getElem?_eq_getElem (show k < F.length by omega)]; rfl
      rw [e] at By2
      simpa using By2
    have hk8' : k = 8 := by omega
    subst hk8'; rw [List.take_of_length_le (by omega)] at By
    have By : Blk y b2 47 (u8s (shaB b)) := by rw [hsha]; simpa using By
    have hsl := shaB_len b; refine ldA (u8s (shaB b)) (.blk By) (by rw [List.length_map]; exact hsl) ?_; refine stA (vs := u8s (shaB b)) By (by rw [List.length_map]; exact hsl) (by rw [Nat.zero_add]; exact Nat.le_refl _) (fun v hv => List.all_eq_true.1 (u8s_one _) v hv) (fun y2 By2 ky2 zy2 => ?_)
    have By2 : Blk y2 b2 47 (u8s (shaB b)) := by
      rw [List.take_zero, List.nil_append, Nat.zero_add, List.drop_of_length_le (Nat.le_refl _), List.append_nil] at By2; exact By2
    refine ret ?_; refine resL _ (holds_agg (.blk By2) (by rw [List.length_map]; exact hsl)) ?_; exact ⟨rfl, (((x0u.trans kq4).then ku fun b hb _ e => by omega).then ky fun b hb _ e => by omega).then ky2 fun b hb _ e => by omega⟩
  · have hM : endM b = 64 := by unfold endM; rw [if_pos (by omega)]
    refine len ?_; refine arI (n := (64 : Int) - 8) (by omega) ?_; refine slcA 56 64 rfl rfl (by omega) (by omega) (by omega) ?_; refine len ?_; refine cv64 n rfl ?_; rw [Nat.mod_eq_of_lt (show n < 18446744073709551616 by omega)]; refine mul64 (a := n) (b := 8) hcap ?_; refine call_of (c_dput (o := 56) (n := 8) (N := n * 8) BE3 (by rw [List.length_append, List.length_map, List.length_append, List.length_replicate, hrl]; show 56 + 8 ≤ m + 1 + (127 - m); omega) (by omega)) ?_; rintro _ v4 ⟨rfl, BE4, k34⟩
    have BE4 : Blk v4 ge 5 (u8s (endB b) ++ List.replicate (128 - 64) (uv8 0)) := by
      rw [end_cells (M := 64) hrl (by omega) (by omega) hM hlen] at BE4; exact BE4
    have kq4 : Ext u v4 := kq3.then k34 fun b hb _ e => by omega
    have Bu4 := Bu.ext kq4; have B24 := hB2.ext kq4; have hN4 := hN.ext kq4; have s4 := kq4.size; have hel := endB_len b; have hE : SlR tU8 (fun b => b ≠ b3 ∧ b < v4.heap.size) v4 (some (ad ge 0)) 64 (endB b) := SlR.of_cells (by rw [hel, hM]) (by omega) ⟨by omega, BE4.lt⟩ (fun j x hx => by rw [Nat.zero_add]; exact BE4.cell (by rw [List.getElem?_append_left (List.getElem?_eq_some_iff.1 hx).1]; exact hx)) (flat_u8s (endB_lt hby)); clear BE BE2 BE3 BE4 hq k2 z2 k3 z3; refine loop4 (fun (_ : Nat) (A' : Option Addr) (m cm : Nat) => [(6, .slice A' m cm)]) (fun k A' m cm u => 64 * k ≤ 64 ∧ SlR tU8 (fun b => b ≠ b3 ∧ b < v4.heap.size) u A' m ((endB b).drop (64 * k)) ∧ m ≤ cm ∧ Blk u b3 278 (u32s (absK S (endB b) k)) ∧ Kept (fun b => b ≠ b3) v4 u) (fun k _ _ _ _ => 64 - 64 * k) 0 (some (ad ge 0)) 64 128 ⟨rfl, trivial⟩ ⟨by omega, hE, by omega, Bu4, .refl _ _⟩ rfl ?_; rintro G2 k A' m cm u ⟨hk, hsu, hcu, Bu, ku⟩
    have hm : m = 64 - 64 * k := by have := hsu.1; rw [List.length_drop, hel, hM] at this; omega
    have hN := hN4; refine len ?_; refine cD (fun hlt => ?_) (fun hge => ?_)
    · refine slcR 0 64 hsu hcu rfl rfl (by omega) (by omega) rfl (fun A2 hA2 => ?_); have sl := hA2 _ u hsu; rw [List.drop_zero] at sl; refine call_of (c_absorb (hN.kept ku (by omega) (by omega)) Bu (absK_ok hS8 k) sl (by omega) (by omega)) ?_; rintro _ u2 ⟨rfl, B2, k2⟩; refine slcR 64 m hsu hcu rfl rfl (by omega) (by omega) rfl (fun A3 hA3 => ?_); have s3 := hA3 _ u2 (hsu.kept k2 fun b _ h => h.1); rw [List.take_of_length_le (by rw [hsu.1]; omega), List.drop_drop] at s3; refine next4 (k + 1) A3 (m - 64) (cm - 64) ⟨rfl, trivial⟩ ⟨by omega, by rw [show 64 * (k + 1) = 64 * k + 64 by omega]; exact s3, by omega, ?_, ku.trans k2⟩ (by omega); have e : absK S (endB b) (k + 1) = absV (absK S (endB b) k) ((((endB b)).drop (64 * k)).take 64) := rfl; rw [e]
      have e2 : (((((endB b)).drop (64 * k)).take 64).take 64) = ((((endB b)).drop (64 * k)).take 64) := by rw [List.take_take]; rfl
      exact B2
    have hkk : k = 64 / 64 := by omega
    have hF8 : W8 (absK S (endB b) k) := absK_ok hS8 k
    have hsha : shaB b = (absK S (endB b) k).flatMap (beB 4) := by unfold shaB; rw [hS, hkk, hM]
    obtain ⟨F, hF⟩ : ∃ F, F = absK S (endB b) k := ⟨_, rfl⟩; rw [← hF] at Bu hF8 hsha; have B2u := B24.kept ku (show b2 ≠ b3 by omega); have su2 := ku.size; have l2u := B2u.lt; refine ldA (u32s F) (.blk Bu) (by rw [List.length_map]; exact hF8.1) ?_; refine loop_rule (fun k : Nat => [(54, iv (k : Int))]) (fun k y => k ≤ 8 ∧ Blk y b2 47 (u8s ((F.take k).flatMap (beB 4)) ++ List.replicate (32 - 4 * k) (uv8 0)) ∧ Kept (fun b => b ≠ b2) u y) (fun k _ => 8 - k) 0 ⟨rfl, trivial⟩ ⟨by omega, B2u, .refl _ _⟩ rfl ?_; rintro G3 k y ⟨hk8, By, ky⟩; have hFl := hF8.1
    have hfl : ((F.take k).flatMap (beB 4)).length = 4 * k := by rw [flatB_len, List.length_take]; omega
    refine cD (fun hlt => ?_) (fun hge => ?_)
    · have hFk := u32s_at (l := F) (i := k) (by omega); have hlt := getD_lt hF8.2 k; refine idxVc k (uv32 (F.getD k 0)) rfl (by omega) (by rw [Nat.mul_one]; exact hFk) ?_; refine arI (n := 4 * (k : Int)) (by omega) ?_; refine arI (n := 4 * (k : Int)) (by omega) ?_; refine arI (n := 4 * (k : Int) + 4) (by omega) ?_; refine slcArr (4 * k) (4 * k + 4) (by show 4 * (k : Int) = ((4 * k : Nat) : Int); omega) (by show 4 * (k : Int) + 4 = ((4 * k + 4 : Nat) : Int); omega) (by omega) (by omega) (by omega) ?_; refine cv64 (F.getD k 0) rfl ?_; rw [Nat.mod_eq_of_lt (show F.getD k 0 < 18446744073709551616 by omega), show 0 + 4 * k * 1 = 4 * k by omega, show 4 * k + 4 - 4 * k = 4 by omega]; refine call_of (c_dput (o := 4 * k) (n := 4) By (by rw [List.length_append, List.length_map, hfl, List.length_replicate]; omega) (by omega)) ?_; rintro _ y2 ⟨rfl, By2, ky2⟩; refine arI (n := (k : Int) + 1) (by omega) ?_; refine next (k + 1) ⟨by rw [Int.natCast_add]; rfl, trivial⟩ ⟨by omega, ?_, ky.trans ky2⟩ (by omega); rw [put_cells (by rw [List.length_map, hfl])] at By2; rw [List.take_add_one, List.getElem?_eq_getElem (show k < F.length by omega), List.flatMap_append, u8s_app, List.append_assoc, show 32 - 4 * (k + 1) = 32 - 4 * k - 4 by omega]
      have e : F.getD k 0 = F[k] := by rw [List.getD_eq_getElem?_getD, List.getElem?_eq_getElem (show k < F.length by omega)]; rfl
      rw [e] at By2
      simpa using By2
    have hk8' : k = 8 := by omega
    subst hk8'; rw [List.take_of_length_le (by omega)] at By
    have By : Blk y b2 47 (u8s (shaB b)) := by rw [hsha]; simpa using By
    have hsl := shaB_len b; refine ldA (u8s (shaB b)) (.blk By) (by rw [List.length_map]; exact hsl) ?_; refine stA (vs := u8s (shaB b)) By (by rw [List.length_map]; exact hsl) (by rw [Nat.zero_add]; exact Nat.le_refl _) (fun v hv => List.all_eq_true.1 (u8s_one _) v hv) (fun y2 By2 ky2 zy2 => ?_)
    have By2 : Blk y2 b2 47 (u8s (shaB b)) := by
      rw [List.take_zero, List.nil_append, Nat.zero_add, List.drop_of_length_le (Nat.le_refl _), List.append_nil] at By2; exact By2
    refine ret ?_; refine resL _ (holds_agg (.blk By2) (by rw [List.length_map]; exact hsl)) ?_; exact ⟨rfl, (((x0u.trans kq4).then ku fun b hb _ e => by omega).then ky fun b hb _ e => by omega).then ky2 fun b hb _ e => by omega⟩
end
section
variable {D : Nat → Prop} {w : World}
theorem c_growB (n : Nat) (hn : n ≤ 1000000000) : CallZ Tryz.prog 200 #[.slice none 0 0, iv (n : Int)] w (fun v w' => ∃ A c, v = .slice A 0 c ∧ OwnF w w' A 0 c 5 1 []) := by
  refine fn_rule (args := [.slice none 0 0, iv (n : Int)]) Tryz.func200 (by kernel_rfl) ?_; refine cD (fun h => absurd h (by omega)) (fun _ => ?_); refine capR ?_; refine len ?_; refine arI (n := 0) (by omega) ?_; refine arI (n := (n : Int)) (by omega) ?_; refine cD (fun h0 => ?_) (fun h0 => ?_)
  · refine capR ?_; refine slcNil rfl rfl ?_; refine appZ (sz := 1) (by_ := 1) n rfl (by omega) (by omega) (by omega) rfl (by omega) (fun cc w1 cs hc1 hc2 hcl hb hx => ?_); refine len ?_; refine slcA 0 0 rfl rfl (by omega) (by omega) (by omega) ?_; refine ret1 (.slice (some (ad w.heap.size (0 + 0 * 1))) (0 - 0) (cc - 0)) rfl ⟨some (ad w.heap.size 0), cc, rfl, ?_⟩; exact ⟨Own.of_blk (xs := []) (rest := cs) (by simpa using hb) rfl (by simpa using hcl) (Nat.zero_le _) hc2, hx, fun g hg => by injection hg with hg; injection hg with hg; omega⟩
  · exact ret1 (.slice none 0 0) rfl ⟨none, 0, rfl, .nil (.refl _ _)⟩
def sumLn (l : List (List Nat)) : Nat := (l.map List.length).sum
theorem sumLn_take (l : List (List Nat)) (k : Nat) : sumLn (l.take k) ≤ sumLn l := by
  induction l generalizing k with
  | nil => simp
  | cons a l ih =>
    cases k with
    | zero => simp [sumLn]
    | succ k =>
      have := ih k; unfold sumLn at *; rw [List.take_succ_cons, List.map_cons, List.map_cons, List.sum_cons, List.sum_cons]; omega
theorem sumLn_snoc {l : List (List Nat)} {x : List Nat} : sumLn (l ++ [x]) = sumLn l + x.length := by unfold sumLn; simp
theorem flat_len (l : List (List Nat)) : l.flatten.length = sumLn l := by unfold sumLn; rw [List.length_flatten]
theorem c_concatB {A : Option Addr} {n c : Nat} {l : List (List Nat)} (hs : SlR (tSl tU8) D w A n l) (hl : sumLn l ≤ 1000000000) :
    CallZ Tryz.prog 135 #[.slice A n c] w (fun v w' => ∃ B m c', v = .slice B m c' ∧ OwnF w w' B m c' 5 1 (u8s l.flatten) ∧ m = l.flatten.length) := by
  have hs := hs.more (D' := fun _ => True) (by decide) fun _ _ _ => trivial; have hlen := hs.len; have hle := hs.le; refine fn_rule (args := [.slice A n c]) Tryz.func135 (by kernel_rfl) ?_; refine len ?_; refine loop_rule (fun k : Nat => [(3, iv (sumLn (l.take k) : Int)), (11, iv (k : Int))]) (fun k u => k ≤ n ∧ w = u) (fun k _ => n - k) 0 ⟨rfl, rfl, trivial⟩ ⟨by omega, rfl⟩ rfl ?_; rintro G k u ⟨hk, rfl⟩; have hlk := sumLn_take l k; refine cD (fun hlt => ?_) (fun hge => ?_)
  · obtain ⟨b, o, cs, x, rfl, hx, -, -, hc, A2, n2, c2, rfl, hs2, hc2⟩ := hs.at_ (k := k) (by omega)
    have htk : l.take (k + 1) = l.take k ++ [x] := by rw [List.take_add_one, hx]; rfl
    have hlk1 := sumLn_take l (k + 1); rw [htk, sumLn_snoc] at hlk1; have hx2 := hs2.len; refine idx k rfl (by omega) ?_; refine ld (.slice A2 n2 c2) (hc 0 _ rfl) ?_; refine len ?_; refine arI (n := (sumLn (l.take k) : Int) + (n2 : Int)) (by omega) ?_; refine cD (fun h => absurd h (by omega)) (fun _ => ?_); refine arI (n := (k : Int) + 1) (by omega) ?_; refine next (k + 1) ⟨?_, by rw [Int.natCast_add]; rfl, trivial⟩ ⟨by omega, rfl⟩ (by omega); rw [htk, sumLn_snoc, hx2, Int.natCast_add]; rfl
  rw [List.take_of_length_le (by omega)]; refine call_of (c_growB (sumLn l) hl) ?_; rintro _ w1 ⟨B, cB, rfl, own⟩; refine len ?_; refine loop4 (fun (k : Nat) (B : Option Addr) (m d : Nat) => [(6, .slice B m d), (27, iv (k : Int))]) (fun k B m d u => k ≤ n ∧ OwnF w u B m d 5 1 (u8s (l.take k).flatten) ∧ m = (l.take k).flatten.length) (fun k _ _ _ _ => n - k) 0 B 0 cB ⟨rfl, rfl, trivial⟩ ⟨by omega, own, rfl⟩ rfl ?_; rintro G2 k B m d u ⟨hk, own, hm⟩; have own : OwnF w u B m d 5 1 (u8s (l.take k).flatten) := own; have hm : m = (l.take k).flatten.length := hm; have hlk := sumLn_take l k; rw [flat_len] at hm; refine cD (fun hlt => ?_) (fun hge => ?_)
  · obtain ⟨b, o, cs, x, rfl, hx, -, -, hc, A2, n2, c2, rfl, hs2, hc2⟩ := (hs.ext own.ext).at_ (k := k) (by omega)
    have htk : l.take (k + 1) = l.take k ++ [x] := by rw [List.take_add_one, hx]; rfl
    have hlk1 := sumLn_take l (k + 1); rw [htk, sumLn_snoc] at hlk1; have hx2 := hs2.len; refine idx k rfl (by omega) ?_; refine ld (.slice A2 n2 c2) (hc 0 _ rfl) ?_; refine appF own hs2.u8src (by omega) (fun F e u4 p4 k4 hA => ?_) (h1 := u8s_one x); refine arI (n := (k : Int) + 1) (by omega) ?_; refine next4 (k + 1) F (m + n2) e ⟨rfl, by rw [Int.natCast_add]; rfl, trivial⟩ ⟨by omega, ?_, ?_⟩ (by omega)
    · rw [htk, List.flatten_append, u8s_app]
      simpa using p4
    · rw [htk, flat_len, sumLn_snoc, hm, hx2]
  · have hk' : k = n := by omega
    rw [List.take_of_length_le (by omega)] at own hm; exact ret1 (.slice B m d) rfl ⟨B, m, d, rfl, own, by rw [flat_len]; exact hm⟩
def tagB (t b : List Nat) : List Nat := shaB (shaB t ++ b)
theorem c_dTagged {A : Option Addr} {n c : Nat} {b : List Nat} {tag : ByteArray} (hN : NumW w) (hs : SlR tU8 D w A n b) (hc : n ≤ c) (ht : tag.size ≤ 1000) (hb : n ≤ 100000000) : CallZ Tryz.prog 80 #[.string tag, .slice A n c] w (fun v w' => v = .agg (u8s (tagB (bl tag) b)).toArray ∧ Ext w w') := by
  have hs := hs.more (D' := fun _ => True) (by decide) fun _ _ _ => trivial; have hlen := hs.len; refine fn_rule (args := [.string tag, .slice A n c]) Tryz.func80 (by kernel_rfl) ?_; refine alloc (fun b4 w1 h1 => ?_); have e4 := h1.at_; have hN1 := hN.ext h1.ext; refine cvSB rfl (by omega) (fun w2 cc hsl hcc x2 z2 => ?_); refine call_of (c_dSum (hN1.ext x2) hsl hcc) ?_; rintro _ w3 ⟨rfl, x3⟩; refine alloc (fun b5 w4 h4 => ?_); have e5 := h4.at_; have hsl := shaB_len (bl tag); refine stA (vs := u8s (shaB (bl tag))) h4.blk (by rw [List.length_map]; exact hsl) (by rw [List.length_map, hsl]; exact Nat.le_refl _) (fun v hv => List.all_eq_true.1 (u8s_one _) v hv) (fun w5 B5 k5 z5 => ?_)
  have B5 : Blk w5 b5 47 (u8s (shaB (bl tag))) := by
    have e : ∀ X : List Value, X.length = 32 → X.drop (0 + (u8s (shaB (bl tag))).length) = [] := fun X hX => List.drop_of_length_le (by rw [List.length_map, hsl]; omega); rw [List.take_zero, List.nil_append, e _ rfl, List.append_nil] at B5; exact B5
  have x35 : Ext w3 w5 := h4.ext.then k5 fun b hb _ e => by omega
  have x15 := (x2.trans x3).trans x35; have x05 := h1.ext.trans x15; refine slcArr 0 32 rfl rfl (by omega) (by omega) (by omega) ?_; refine lit [.slice (some (ad b5 0)) 32 32, .slice A n c] (fun g w6 hq => ?_); have sb := hs.ext (x05.trans hq.ext); have s5 : SlR tU8 (fun _ => True) w6 (some (ad b5 0)) 32 (shaB (bl tag)) := SlR.of_cells hsl.symm (by omega) trivial (.blk (B5.ext hq.ext)) (flat_u8s (shaB_lt _)); have sl : SlR (tSl tU8) (fun _ => True) w6 (some (ad g 0)) 2 [shaB (bl tag), b] := SlR.of_cells (cs := [.slice (some (ad b5 0)) 32 32, .slice A n c]) rfl (by omega) trivial (.blk hq.blk) ⟨[.slice (some (ad b5 0)) 32 32], [.slice A n c], rfl, ⟨_, _, _, rfl, s5, Nat.le_refl _⟩, [.slice A n c], [], rfl, ⟨_, _, _, rfl, sb, hc⟩, rfl⟩; refine call_of (c_concatB sl (by unfold sumLn; simp [hsl]; omega)) ?_; rintro _ w7 ⟨B, m, c', rfl, own, hm⟩
  have hfl : [shaB (bl tag), b].flatten = shaB (bl tag) ++ b := by simp
  rw [hfl] at own hm
  have hml : m = 32 + n := by rw [hm, List.length_append, hsl, hlen]
  have x67 := own.ext; have x17 := (x15.trans hq.ext).trans x67
  have sc : SlR tU8 (fun _ => True) w7 B m (shaB (bl tag) ++ b) := own.u8 (fun x hx => by
    rcases List.mem_append.1 hx with hx | hx
    · exact shaB_lt _ x hx
    · exact hs.u8b x hx) (by omega) fun _ _ => trivial
  refine call_of (c_dSum (hN1.ext x17) sc own.le) ?_; rintro _ w8 ⟨rfl, x8⟩; have B4 := h1.blk.ext (x17.trans x8)
  have htl : (u8s (tagB (bl tag) b)).length = 32 := by rw [List.length_map]; exact shaB_len _
  refine stA (vs := u8s (tagB (bl tag) b)) B4 htl (by rw [htl]; exact Nat.le_refl _) (fun v hv => List.all_eq_true.1 (u8s_one _) v hv) (fun w9 B9 k9 z9 => ?_)
  have B9 : Blk w9 b4 47 (u8s (tagB (bl tag) b)) := by
    have e : ∀ X : List Value, X.length = 32 → X.drop (0 + (u8s (tagB (bl tag) b)).length) = [] := fun X hX => List.drop_of_length_le (by rw [htl]; omega); rw [List.take_zero, List.nil_append, e _ rfl, List.append_nil] at B9; exact B9
  refine ret ?_; refine resL _ (holds_agg (.blk B9) htl) ?_; exact ⟨rfl, (h1.ext.trans (x17.trans x8)).then k9 fun b hb _ e => by omega⟩
def noneT : ByteArray := { data := #[110, 111, 110, 101] }
theorem c_mRoot0 {c : Nat} {A : Option Addr} (hN : NumW w) : CallZ Tryz.prog 40 #[.slice A 0 c] w (fun v w' => v = .agg (u8s (tagB (bl noneT) [])).toArray ∧ Ext w w') := by
  refine fn_rule (args := [.slice A 0 c]) Tryz.func40 (by kernel_rfl) ?_; refine alloc (fun b2 w1 h1 => ?_); have e2 := h1.at_; refine len ?_; refine cE (fun _ => ?_) (fun h => absurd rfl h); refine call_of (c_dTagged (D := fun _ => True) (tag := noneT) (b := []) (A := none) (n := 0) (c := 0) (hN.ext h1.ext) .nil (Nat.le_refl _) (by decide) (by omega)) ?_; rintro _ w2 ⟨rfl, x2⟩; have B2 := h1.blk.ext x2
  have htl : (u8s (tagB (bl noneT) [])).length = 32 := by rw [List.length_map]; exact shaB_len _
  refine stA (vs := u8s (tagB (bl noneT) [])) B2 htl (by rw [htl]; exact Nat.le_refl _) (fun v hv => List.all_eq_true.1 (u8s_one _) v hv) (fun w3 B3 k3 z3 => ?_)
  have B3 : Blk w3 b2 47 (u8s (tagB (bl noneT) [])) := by
    have e : ∀ X : List Value, X.length = 32 → X.drop (0 + (u8s (tagB (bl noneT) [])).length) = [] := fun X hX => List.drop_of_length_le (by rw [htl]; omega); rw [List.take_zero, List.nil_append, e _ rfl, List.append_nil] at B3; exact B3
  refine ret ?_; refine resL _ (holds_agg (.blk B3) htl) ?_; exact ⟨rfl, (h1.ext.trans x2).then k3 fun b hb _ e => by omega⟩
end
end Go.Proofs.YtehcphboliofaaaGreatDoor
