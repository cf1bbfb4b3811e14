/- Parts of the proof: Mh Mj Mk Za. -/
import Derived.Test.YtehcphboliofaaaGreatDoorPT15
import Derived.Test.YtehcphboliofaaaGreatDoorPT16
import Derived.Test.YtehcphboliofaaaGreatDoorPT9
import Derived.Test.YtehcphboliofaaaGreatDoorPT7
import Derived.Test.YtehcphboliofaaaGreatDoorRows
import Derived.Stop.LaidErr

/- Layer 56: the reference's Of; LedgerOfSpec. -/
namespace Go.Proofs.YtehcphboliofaaaGreatDoor
open Go Go.RowKit

section
variable {D : Nat → Prop} {w : World}
theorem c_r56number {a : Int × Int} (hb : 0 ≤ a.2 ∧ a.2 ≤ 1000000) : CallZ Tryz.prog 74 #[.agg #[iv a.1, iv a.2]] w (fun v w' => v = iv (numA a) ∧ Ext w w') := by
  refine fn_rule (args := [.agg #[iv a.1, iv a.2]]) Tryz.func74 (by kernel_rfl) ?_
  refine box (fun b1 w1 h1 => ?_)
  have B1 : Blk w1 b1 74 [iv a.1, iv a.2] := h1.blk
  refine idxR 0 rfl (by omega) ?_
  refine ld (iv a.1) (B1.cell rfl) ?_
  refine cE (fun e1 => ?_) (fun e1 => ?_)
  · exact ret1 (iv 1) rfl ⟨by unfold numA firstN; simp [e1], h1.ext⟩
  refine cE (fun e7 => ?_) (fun e7 => ?_)
  · exact ret1 (iv 2) rfl ⟨by unfold numA firstN; simp [e7], h1.ext⟩
  refine cE (fun e2 => ?_) (fun e2 => ?_)
  · refine idxR 1 rfl (by omega) ?_
    refine ld (iv a.2) (B1.cell rfl) ?_
    refine arI (n := 5 * a.2) (by omega) ?_
    refine arI (n := 8 + 5 * a.2) (by omega) ?_
    exact ret1 (iv (8 + 5 * a.2)) rfl ⟨by unfold numA firstN; simp [e2], h1.ext⟩
  refine cE (fun e3 => ?_) (fun e3 => ?_)
  · refine idxR 1 rfl (by omega) ?_
    refine ld (iv a.2) (B1.cell rfl) ?_
    refine arI (n := 5 * a.2) (by omega) ?_
    refine arI (n := 9 + 5 * a.2) (by omega) ?_
    exact ret1 (iv (9 + 5 * a.2)) rfl ⟨by unfold numA firstN; simp [e3], h1.ext⟩
  refine cE (fun e4 => ?_) (fun e4 => ?_)
  · refine idxR 1 rfl (by omega) ?_
    refine ld (iv a.2) (B1.cell rfl) ?_
    refine arI (n := 5 * a.2) (by omega) ?_
    refine arI (n := 10 + 5 * a.2) (by omega) ?_
    exact ret1 (iv (10 + 5 * a.2)) rfl ⟨by unfold numA firstN; simp [e4], h1.ext⟩
  refine cE (fun e6 => ?_) (fun e6 => ?_)
  · refine idxR 1 rfl (by omega) ?_
    refine ld (iv a.2) (B1.cell rfl) ?_
    refine arI (n := 5 * a.2) (by omega) ?_
    refine arI (n := 11 + 5 * a.2) (by omega) ?_
    exact ret1 (iv (11 + 5 * a.2)) rfl ⟨by unfold numA firstN; simp [e6], h1.ext⟩
  refine cE (fun e5 => ?_) (fun e5 => ?_)
  · refine idxR 1 rfl (by omega) ?_
    refine ld (iv a.2) (B1.cell rfl) ?_
    refine arI (n := 1024 + a.2) (by omega) ?_
    exact ret1 (iv (1024 + a.2)) rfl ⟨by unfold numA firstN; simp [e5], h1.ext⟩
  · exact ret1 (iv 0) rfl ⟨by unfold numA firstN; simp [e1, e2, e3, e4, e5, e6, e7], h1.ext⟩
end
end Go.Proofs.YtehcphboliofaaaGreatDoor

/- Law 56: the ledger of a run is right, and its balances are those of the accounts, plainly. -/
namespace Go.Proofs.YtehcphboliofaaaGreatDoor
open Go Go.RowKit

theorem numA_inj {R F : Nat} {a b : Int × Int} (ha : inK R F a) (hb : inK R F b) (hR : R ≤ 64) (h : numA a = numA b) : a = b := by
  have v0 : numA (0, 0) = 0 := by decide
  have v1 : numA (1, 0) = 1 := by decide
  have v7 : numA (7, 0) = 2 := by decide
  have v2 : ∀ i : Int, numA (2, i) = 8 + 5 * i := fun i => by unfold numA firstN; simp
  have v3 : ∀ i : Int, numA (3, i) = 9 + 5 * i := fun i => by unfold numA firstN; simp
  have v4 : ∀ i : Int, numA (4, i) = 10 + 5 * i := fun i => by unfold numA firstN; simp
  have v6 : ∀ i : Int, numA (6, i) = 11 + 5 * i := fun i => by unfold numA firstN; simp
  have v5 : ∀ i : Int, numA (5, i) = 1024 + i := fun i => by unfold numA firstN; simp
  rcases ha with rfl | rfl | rfl | ⟨i, hi, rfl | rfl | rfl | rfl⟩ | ⟨i, hi, rfl⟩ <;>
  rcases hb with rfl | rfl | rfl | ⟨j, hj, rfl | rfl | rfl | rfl⟩ | ⟨j, hj, rfl⟩ <;>
  simp only [v0, v1, v7, v2, v3, v4, v5, v6] at h <;>
  first
  | rfl
  | (exfalso; omega)
  | (have e : i = j := by omega
     subst e; rfl)
theorem numA_b {R F : Nat} {a : Int × Int} (ha : inK R F a) (hR : R ≤ 64) (hF : F ≤ 600) : 0 ≤ numA a ∧ numA a ≤ 4095 := by
  have hb := inK_b ha hR hF
  have hf := firstN_b a.1
  unfold numA
  split
  · omega
  · split <;> omega
theorem numA_0 {R F : Nat} {a : Int × Int} (ha : inK R F a) (h : numA a ≠ 0) : a.1 ≠ 0 := by
  rcases ha with rfl | rfl | rfl | ⟨i, hi, rfl | rfl | rfl | rfl⟩ | ⟨i, hi, rfl⟩
  · exact absurd (by decide) h
  all_goals simp
theorem keys_inK {d : Dist} {key : Int × Int} (h : key ∈ keysL d) : inK d.reaches.length d.farms.length key := by
  obtain ⟨p, hp, i, hi, rfl⟩ := mem_keysL.1 h
  unfold kindsL at hp
  simp only [List.mem_cons, List.not_mem_nil, or_false] at hp
  rcases hp with rfl | rfl | rfl | rfl | rfl | rfl | rfl
  · have : i = 0 := by have hi : i < 1 := hi; omega
    subst this
    exact .inr (.inl rfl)
  · exact .inr (.inr (.inr (.inl ⟨i, hi, .inl rfl⟩)))
  · exact .inr (.inr (.inr (.inl ⟨i, hi, .inr (.inl rfl)⟩)))
  · exact .inr (.inr (.inr (.inl ⟨i, hi, .inr (.inr (.inl rfl))⟩)))
  · exact .inr (.inr (.inr (.inr ⟨i, hi, rfl⟩)))
  · exact .inr (.inr (.inr (.inl ⟨i, hi, .inr (.inr (.inr rfl))⟩)))
  · have : i = 0 := by have hi : i < 1 := hi; omega
    subst this
    exact .inr (.inr (.inl rfl))
/-- What moves do to the balance of an account. -/
theorem foldB {R F h : Nat} {key : Int × Int} (hR : R ≤ 64) (hk : inK R F key) (hr : Int) : ∀ (ms : List Mv) (l : List Post), (∀ m ∈ ms, inK R F m.frm ∧ inK R F m.to) →
    balH (ms.foldl (addM h) l) (1, numA key) hr = balH l (1, numA key) hr + if (h : Int) ≤ hr then inN ms key - outN ms key else 0
  | [], l, _ => by show balH l _ hr = _; split <;> simp [inN, outN, sumL]
  | m :: ms, l, hm => by
    obtain ⟨h1, h2⟩ := hm m List.mem_cons_self
    rw [List.foldl_cons, foldB hR hk hr ms _ fun x hx => hm x (List.mem_cons_of_mem _ hx)]
    unfold addM
    rw [balH_step]
    have ei : inN (m :: ms) key = inN [m] key + inN ms key := inN_app [m] ms key
    have eo : outN (m :: ms) key = outN [m] key + outN ms key := outN_app [m] ms key
    have ep : posD ⟨(l.length : Int), (h : Int), 1, numA m.frm, numA m.to, m.litres⟩ (1, numA key) = inN [m] key - outN [m] key := by
      rw [inN_one, outN_one]
      unfold posD Post.ta Post.fa
      simp only [Prod.mk.injEq, true_and]
      have i1 : numA m.to = numA key ↔ m.to = key := ⟨fun e => numA_inj h2 hk hR e, fun e => by rw [e]⟩
      have i2 : numA m.frm = numA key ↔ m.frm = key := ⟨fun e => numA_inj h1 hk hR e, fun e => by rw [e]⟩
      simp only [i1, i2]
    rw [ep, ei, eo]
    split <;> omega
section
variable {d : Dist} {x : Run} {H : Nat}
theorem movV_eq (hb : bErr d x = 0) {k : Nat} (hk : (k : Int) < d.hours) : movV d x (k : Int) = (movesL d x k).filter nzM := by
  have : hErr d x (k : Int) (d.hours - 1) = 0 := hErr_ok.2 ⟨hb, by omega, by omega⟩
  unfold movV
  rw [if_pos this, Int.toNat_natCast]
theorem oflS_bal (hs : 0 ≤ d.start) {key : Int × Int} (hk : inK d.reaches.length d.farms.length key) (hR : d.reaches.length ≤ 64) {hr : Int} (h0 : 0 ≤ hr) : balH (oflS d) (1, numA key) hr = nowN d x 0 key - if key = (0, 0) then d.start else 0 := by
  have k0 : inK d.reaches.length d.farms.length (0, 0) := .inl rfl
  have k1 : inK d.reaches.length d.farms.length (1, 0) := .inr (.inl rfl)
  have i0 : (0 : Int) = numA key ↔ key = (0, 0) := ⟨fun e => (numA_inj k0 hk hR ((show numA (0, 0) = 0 by decide).trans e)).symm, fun e => by rw [e]; decide⟩
  have i1 : (1 : Int) = numA key ↔ key = (1, 0) := ⟨fun e => (numA_inj k1 hk hR ((show numA (1, 0) = 1 by decide).trans e)).symm, fun e => by rw [e]; decide⟩
  unfold oflS nowN
  split
  · have : balH [(⟨0, 0, 1, 0, 1, d.start⟩ : Post)] (1, numA key) hr = balH [] (1, numA key) hr + if (0 : Int) ≤ hr then posD ⟨0, 0, 1, 0, 1, d.start⟩ (1, numA key) else 0 := balH_step (s := []) (p := ⟨0, 0, 1, 0, 1, d.start⟩)
    rw [this, if_pos h0]
    have e0 : balH [] (1, numA key) hr = 0 := rfl
    rw [e0]
    unfold posD Post.ta Post.fa
    simp only [Prod.mk.injEq, true_and, i0, i1]
    omega
  · have e0 : balH [] (1, numA key) hr = 0 := rfl
    rw [e0]
    have : d.start = 0 := by omega
    rw [this]; simp
/-- The balances up to an hour are those of the accounts. -/
theorem ofl_bal (hb : bErr d x = 0) {key : Int × Int} (hk : inK d.reaches.length d.farms.length key) (hr : Nat) : ∀ k : Nat, (k : Int) ≤ d.hours → balH (oflL d x k) (1, numA key) hr = nowN d x (min k (hr + 1)) key - if key = (0, 0) then d.start else 0 := by
  obtain ⟨⟨ht, hv⟩, -, -⟩ := bErr_ok.1 hb
  obtain ⟨⟨hR, hF⟩, hH1, hH2⟩ := valid_bounds ht hv
  have h0 : 0 < d.reaches.length := (bErr_fm hb).1.nr
  have hs := (headOk_iff.1 (validB_iff.1 hv).1).2.1.1
  intro k
  induction k with
  | zero =>
    intro _
    rw [Nat.zero_min]
    exact oflS_bal hs hk hR (by omega)
  | succ k ih =>
    intro hkH
    rw [oflL_succ, foldB hR hk hr _ _ (mov_inK h0), ih (by omega), movV_eq hb (by omega), nz_in, nz_out]
    by_cases h : (k : Int) ≤ (hr : Int)
    · rw [if_pos h, show min (k + 1) (hr + 1) = k + 1 by omega, show min k (hr + 1) = k by omega, now_step]
      omega
    · rw [if_neg h, show min (k + 1) (hr + 1) = hr + 1 by omega, show min k (hr + 1) = hr + 1 by omega]
      omega
/-- A posting's two accounts differ. -/
theorem mv_ne (hf : Fm d x H) {k : Nat} {m : Mv} (hm : m ∈ movesL d x k) : m.frm ≠ m.to := by
  rcases mv_mem hm with rfl | rfl | rfl | ⟨i, hi, hm⟩
  · show ((0 : Int), (0 : Int)) ≠ (1, 0); decide
  · show ((1 : Int), (0 : Int)) ≠ (7, 0); decide
  · show ((1 : Int), (0 : Int)) ≠ (2, 0); decide
  · have hfr := endL_frm m hm
    rw [hfr]
    unfold endL lossL childL farmL at hm
    simp only [List.mem_append, List.mem_cons, List.not_mem_nil, or_false, List.mem_map, List.mem_filter, List.mem_range] at hm
    rcases hm with ((((rfl | rfl) | ⟨j, hj, rfl⟩) | ⟨j, hj, rfl⟩)) | rfl
    · intro e; injection e with e; omega
    · intro e; injection e with e; omega
    · intro e
      injection e with _ e
      have e : i = j := by omega
      subst e
      have hup := (hf.at_ (reach_at hj.1)).1
      have hju : (rch d i).up = (i : Int) := of_decide_eq_true hj.2
      unfold upOk at hup
      split at hup
      · have := of_decide_eq_true hup; omega
      · rw [inI_iff] at hup; omega
    · intro e; injection e with e; omega
    · intro e; injection e with e; omega
/-- What is known of the postings so far. -/
structure OfS (L : List Post) (k : Int) : Prop where
  ok : LOk L
  bd : ∀ a, balL L a ≤ 1099511627776 + 1073741824 * (L.length : Int)
  hr : ∀ q ∈ L, 0 ≤ q.hour ∧ q.hour ≤ k
  no : ∀ (i : Nat) (q : Post), L[i]? = some q → q.no = (i : Int)
theorem OfS.weak {L : List Post} {k k' : Int} (h : OfS L k) (hk : k ≤ k') : OfS L k' := ⟨h.ok, h.bd, fun q hq => by have := h.hr q hq; omega, h.no⟩
theorem OfS.snoc {L : List Post} {k : Int} {p : Post} (h : OfS L k) (h1 : P1 p) (hno : p.no = (L.length : Int)) (hh : p.hour = k) (hn : p.n ≤ 1073741824) (hl : L.length < 4096) (hb : p.frm ≠ 0 → p.n ≤ balL L p.fa) : OfS (L ++ [p]) k := by
  have hpn := h1.n
  have hph := h1.hour
  refine ⟨LOk_snoc.2 ⟨h.ok, { toP1 := h1, aft := fun q hq => ?_, has := hb, fit := ?_ }⟩, fun a => ?_, fun q hq => ?_, fun i q hq => ?_⟩
  · have hq' : L[L.length - 1]? = some q := by rw [List.getLast?_eq_getElem?] at hq; exact hq
    have h2 := h.no _ _ hq'
    have h3 := (List.getElem?_eq_some_iff.1 hq').1
    have h4 := h.hr q (List.mem_of_getElem? hq')
    omega
  · have := h.bd p.ta
    omega
  · rw [balL_snoc, List.length_append, List.length_singleton]
    have := h.bd a
    have : posD p a ≤ p.n := by have hq : ∀ (P Q : Prop) [Decidable P] [Decidable Q], (if P then p.n else 0) - (if Q then p.n else 0) ≤ p.n := by (intro P Q _ _; split <;> split <;> omega)
                                exact hq _ _
    omega
  · rcases List.mem_append.1 hq with hq | hq
    · exact h.hr q hq
    · rw [List.mem_singleton] at hq
      subst hq
      omega
  · by_cases hi : i < L.length
    · rw [List.getElem?_append_left hi] at hq
      exact h.no i q hq
    · have hl' := (List.getElem?_eq_some_iff.1 hq).1
      rw [List.length_append, List.length_singleton] at hl'
      have hi' : i = L.length := by omega
      subst hi'
      rw [List.getElem?_append_right (Nat.le_refl _), Nat.sub_self] at hq
      injection hq with hq
      subst hq
      exact hno
theorem OfS.balL {L : List Post} {k : Int} (h : OfS L k) (hk : k ≤ 4096) (a : Acc) : Go.Proofs.YtehcphboliofaaaGreatDoor.balL L a = balH L a 4096 := (balH_all fun q hq => by have := h.hr q hq; omega).symm
/-- The ledger of a right run is right, if it is not too long. -/
theorem ofl_ok (hb : bErr d x = 0) : ∀ k : Nat, (k : Int) ≤ d.hours → (oflL d x k).length ≤ 4096 → OfS (oflL d x k) (k : Int) := by
  obtain ⟨⟨ht, hv⟩, -, -⟩ := bErr_ok.1 hb
  obtain ⟨⟨hR, hF⟩, hH1, hH2⟩ := valid_bounds ht hv
  obtain ⟨hf, hRP⟩ := bErr_fm hb
  have h0 : 0 < d.reaches.length := hf.nr
  obtain ⟨-, ⟨hs1, hs2⟩, hs3, -⟩ := headOk_iff.1 (validB_iff.1 hv).1
  have e0 : numA (0, 0) = 0 := by decide
  have e1 : numA (1, 0) = 1 := by decide
  intro k
  induction k with
  | zero =>
    intro _ _
    show OfS (oflS d) 0
    unfold oflS
    split
    · rename_i hpos
      have h1 : P1 ⟨0, 0, 1, 0, 1, d.start⟩ := ⟨⟨Int.le_refl 0, by show (0 : Int) ≤ 1048576; omega⟩, ⟨Int.le_refl 0, by show (0 : Int) ≤ 4096; omega⟩, ⟨Int.le_refl 1, by show (1 : Int) ≤ 2; omega⟩, ⟨by show 1 ≤ d.start; omega, by show d.start ≤ 1099511627776; omega⟩, ⟨Int.le_refl 0, by show (0 : Int) ≤ 4095; omega⟩, ⟨by show (0 : Int) ≤ 1; omega, by show (1 : Int) ≤ 4095; omega⟩, by show (0 : Int) ≠ 1; omega⟩
      refine ⟨(LOk_snoc (l := [])).2 ⟨LOk.nil, { toP1 := h1, aft := (fun q h => by cases h), has := fun h => absurd rfl h, fit := ?_ }⟩, fun a => ?_, fun q hq => ?_, fun i q hq => ?_⟩
      · show (0 : Int) + d.start ≤ 1125899906842624
        omega
      · have : Go.Proofs.YtehcphboliofaaaGreatDoor.balL [(⟨0, 0, 1, 0, 1, d.start⟩ : Post)] a = 0 + posD ⟨0, 0, 1, 0, 1, d.start⟩ a := balL_snoc (l := []) (p := ⟨0, 0, 1, 0, 1, d.start⟩) (a := a)
        rw [this]
        have hq : ∀ (P Q : Prop) [Decidable P] [Decidable Q], (if P then d.start else 0) - (if Q then d.start else 0) ≤ d.start := by intro P Q _ _; split <;> split <;> omega
        have hp : posD ⟨0, 0, 1, 0, 1, d.start⟩ a ≤ d.start := hq _ _
        show _ ≤ (1099511627776 : Int) + 1073741824 * ((1 : Nat) : Int)
        omega
      · rw [List.mem_singleton] at hq
        subst hq
        exact ⟨Int.le_refl _, Int.le_refl _⟩
      · have hl' := (List.getElem?_eq_some_iff.1 hq).1
        rw [List.length_singleton] at hl'
        have hi' : i = 0 := by omega
        subst hi'
        injection hq with hq
        subst hq
        rfl
    · exact ⟨LOk.nil, fun a => by show (0 : Int) ≤ _; omega, (fun q hq => by cases hq), fun i q hq => by simp at hq⟩
  | succ k ih =>
    intro hkH hlen
    have hkH' : k < d.hours.toNat := by omega
    have hmv := movV_eq hb (k := k) (by omega)
    rw [oflL_succ, foldM_len] at hlen
    have hk0 := (ih (by omega) (by omega)).weak (k' := (k : Int)) (by omega)
    have key : ∀ j, j ≤ (movV d x (k : Int)).length → OfS (((movV d x (k : Int)).take j).foldl (addM k) (oflL d x k)) (k : Int) := by
      intro j
      induction j with
      | zero => intro _; exact hk0
      | succ j ihj =>
        intro hj
        have ihj := ihj (by omega)
        obtain ⟨m, hm⟩ : ∃ m, (movV d x (k : Int))[j]? = some m := ⟨_, List.getElem?_eq_getElem (by omega)⟩
        have htk : (movV d x (k : Int)).take (j + 1) = (movV d x (k : Int)).take j ++ [m] := by rw [List.take_add_one, hm]; rfl
        rw [htk, foldM_snoc]
        have hll := foldM_len k ((movV d x (k : Int)).take j) (oflL d x k)
        rw [List.length_take, show min j (movV d x (k : Int)).length = j by omega] at hll
        have hmem := List.mem_of_getElem? hm
        obtain ⟨K1, K2⟩ := mov_inK h0 m hmem
        have hm' := hm
        rw [hmv] at hm' hmem
        obtain ⟨hm1, hm2⟩ := List.mem_filter.1 hmem
        have hlit := hf.okMoves hkH' m hm1
        have hnz : m.litres ≠ 0 := by unfold nzM at hm2; simpa using hm2
        have hb1 := numA_b K1 hR hF
        have hb2 := numA_b K2 hR hF
        have hne : numA m.frm ≠ numA m.to := fun e => mv_ne hf hm1 (numA_inj K1 K2 hR e)
        obtain ⟨L, hL⟩ : ∃ L, L = ((movV d x (k : Int)).take j).foldl (addM k) (oflL d x k) := ⟨_, rfl⟩
        have hbal : ∀ {key : Int × Int}, inK d.reaches.length d.farms.length key → key ≠ (0, 0) → Go.Proofs.YtehcphboliofaaaGreatDoor.balL L (1, numA key) = midN d x k j key := fun {key} hkey hkey0 => by
          rw [hL, ihj.balL (by omega), foldB hR hkey 4096 _ _ (fun y hy => mov_inK h0 y (List.mem_of_mem_take hy)), if_pos (by omega)]
          have := ofl_bal hb hkey 4096 k (by omega)
          have e : balH (oflL d x k) (1, numA key) 4096 = nowN d x k key := by
            rw [show ((4096 : Nat) : Int) = (4096 : Int) from rfl] at this
            rw [this, if_neg hkey0, show min k (4096 + 1) = k by omega]; omega
          rw [e, hmv]
          unfold midN
          omega
        rw [← hL] at ihj hll ⊢
        unfold addM
        refine ihj.snoc ⟨⟨by show (0 : Int) ≤ (L.length : Int); omega, by show (L.length : Int) ≤ 1048576; omega⟩, ⟨by show (0 : Int) ≤ (k : Int); omega, by show (k : Int) ≤ 4096; omega⟩, ⟨by show (1 : Int) ≤ 1; omega, by show (1 : Int) ≤ 2; omega⟩, ⟨by show 1 ≤ m.litres; omega, by show m.litres ≤ 1099511627776; omega⟩, hb1, hb2, hne⟩ rfl rfl (by show m.litres ≤ 1073741824; omega) (by omega) fun hfr => ?_
        have hfr : numA m.frm ≠ 0 := hfr
        have h10 := numA_0 K1 hfr
        have := mid_pos hf hRP hkH' hm' h10
        show m.litres ≤ Go.Proofs.YtehcphboliofaaaGreatDoor.balL L (1, numA m.frm)
        rw [hbal K1 (fun e => h10 (by rw [e]))]
        omega
    have := key _ (Nat.le_refl _)
    rw [List.take_length] at this
    rw [oflL_succ]
    exact this.weak (by omega)
/-- The source has given what came in. -/
theorem now_src : ∀ k, k ≤ H → Fm d x H → nowN d x k (0, 0) = -((x.inflow.take k).sum)
  | 0, _, _ => by unfold nowN; simp
  | k + 1, hk, hf => by
    rw [now_step, now_src k (by omega) hf]
    have h1 := (numB_iff.1 hf.inflow).1
    rw [sum_take (by omega)]
    have hin : inN (movesL d x k) (0, 0) = 0 := inN_no fun m hm e => by
      have := mv_to hf.nr hm
      rw [e] at this
      exact absurd rfl (keysL_pl this).2
    have hout : outN (movesL d x k) (0, 0) = g1 x.inflow k := by
      rw [← src_moves (d := d) (x := x) (k := k)]
      unfold outN srcN
      congr 1
      refine List.filter_congr fun m hm => ?_
      rcases mv_frm hm with ⟨-, rfl⟩ | h | ⟨i, -, h⟩
      · simp
      · rw [h]; decide
      · rw [h]
        rw [decide_eq_false, decide_eq_false]
        · show ¬ (2 : Int) = 0; omega
        · intro e; injection e with e; omega
    rw [hin, hout]
    omega
end
end Go.Proofs.YtehcphboliofaaaGreatDoor

/- Law 56: LedgerRun. -/
namespace Go.Proofs.YtehcphboliofaaaGreatDoor
open Go Go.RowKit Classical

theorem tot_in {d : Dist} {x : Run} {H : Nat} (hf : Fm d x H) : ∀ k, k ≤ H → totA d x k = d.start + (x.inflow.take k).sum
  | 0, _ => by rw [tot_0]; simp
  | k + 1, hk => by
    have h1 := (numB_iff.1 hf.inflow).1
    rw [tot_step hf, tot_in hf k (by omega), sum_take (by omega)]
    omega
section
variable {D : Nat → Prop} {w : World}
theorem c_r56Number {a : Int × Int} (hb : 0 ≤ a.2 ∧ a.2 ≤ 1000000) : CallZ Tryz.prog 38 #[iv a.1, iv a.2] w (fun v w' => v = iv (numA a) ∧ Ext w w') := by
  refine fn_rule (args := [iv a.1, iv a.2]) Tryz.func38 (by kernel_rfl) ?_
  refine bld [iv a.1, iv a.2] (by kernel_rfl) ?_
  refine call_of (c_r56number (a := a) hb) ?_
  rintro _ w1 ⟨rfl, x1⟩
  exact ret1 (iv (numA a)) rfl ⟨rfl, x1⟩
set_option maxRecDepth 8000 in
set_option maxHeartbeats 4000000 in
theorem c_LedgerRun {csd csx : List Value} {d : Dist} {x : Run} {when : Int} (hN : NumW w) (hd : DiR D w csd d) (hx : RuR D w csx x) (hw : 0 ≤ when ∧ when ≤ 255) : CallZ Tryz.prog 9 #[.agg csd.toArray, .agg csx.toArray, .int .u8 when] w (fun v w' => v = .bool true ∧ Ext w w') := by
  obtain ⟨A1, n1, c1, A2, n2, c2, A3, n3, c3, A4, n4, c4, A5, n5, c5, A6, n6, c6, rfl, -⟩ := hd.ex
  obtain ⟨B1, m1, e1, B2, m2, e2, B3, m3, e3, B4, m4, e4, B5, m5, e5, B6, m6, e6, B7, m7, e7, rfl, i1, i2, i3, i4, i5, i6, i7, i8, i9⟩ := hx.ex
  refine fn_rule (args := [.agg #[.string d.name, iv d.hours, iv d.cap, iv d.start, .slice A1 n1 c1, .slice A2 n2 c2, .slice A3 n3 c3, .slice A4 n4 c4, .slice A5 n5 c5, .slice A6 n6 c6], .agg #[.slice B1 m1 e1, .slice B2 m2 e2, .slice B3 m3 e3, .slice B4 m4 e4, .slice B5 m5 e5, .slice B6 m6 e6, .slice B7 m7 e7], .int .u8 when]) Tryz.func9 (by kernel_rfl) ?_
  refine box (fun bd w1 h1 => ?_)
  refine box (fun bx w2 h2 => ?_)
  have Bd : Blk w2 bd 64 [.string d.name, iv d.hours, iv d.cap, iv d.start, .slice A1 n1 c1, .slice A2 n2 c2, .slice A3 n3 c3, .slice A4 n4 c4, .slice A5 n5 c5, .slice A6 n6 c6] := h1.blk.ext h2.ext
  have Bx : Blk w2 bx 68 [.slice B1 m1 e1, .slice B2 m2 e2, .slice B3 m3 e3, .slice B4 m4 e4, .slice B5 m5 e5, .slice B6 m6 e6, .slice B7 m7 e7] := h2.blk
  have x2 := h1.ext.trans h2.ext
  refine call_of (c_lsane (hN.ext x2)) ?_
  rintro _ w3 ⟨rfl, x3⟩
  have x0 := x2.trans x3
  have Bd := Bd.ext x3
  have Bx := Bx.ext x3
  refine ldA [.string d.name, iv d.hours, iv d.cap, iv d.start, .slice A1 n1 c1, .slice A2 n2 c2, .slice A3 n3 c3, .slice A4 n4 c4, .slice A5 n5 c5, .slice A6 n6 c6] (.blk Bd) rfl ?_
  refine ldA [.slice B1 m1 e1, .slice B2 m2 e2, .slice B3 m3 e3, .slice B4 m4 e4, .slice B5 m5 e5, .slice B6 m6 e6, .slice B7 m7 e7] (.blk Bx) rfl ?_
  refine call_of (c_r23Few (hd.ext x0) (hx.ext x0)) ?_
  rintro _ w4 ⟨b, rfl, x4⟩
  have x0 := x0.trans x4
  have Bd := Bd.ext x4
  have Bx := Bx.ext x4
  cases b with
  | false => exact ret1 (.bool true) rfl ⟨rfl, x0⟩
  | true =>
  refine ldA [.string d.name, iv d.hours, iv d.cap, iv d.start, .slice A1 n1 c1, .slice A2 n2 c2, .slice A3 n3 c3, .slice A4 n4 c4, .slice A5 n5 c5, .slice A6 n6 c6] (.blk Bd) rfl ?_
  refine ldA [.slice B1 m1 e1, .slice B2 m2 e2, .slice B3 m3 e3, .slice B4 m4 e4, .slice B5 m5 e5, .slice B6 m6 e6, .slice B7 m7 e7] (.blk Bx) rfl ?_
  refine call_of (c_lOf (hd.ext x0) (hx.ext x0)) ?_
  rintro _ w5 ⟨x5, E1, q1, f1, rfl, sl, -⟩
  refine alloc (fun b7 wa ha => ?_)
  refine stA (vs := [.slice E1 q1 f1]) ha.blk rfl (Nat.le_of_ble_eq_true rfl) (by simp [Value.oneCell']) (fun w6 L7 k6 _ => ?_)
  have L7 : Blk w6 b7 24 [.slice E1 q1 f1] := L7
  have at7 := ha.at_
  have x56 : Ext w5 w6 := ha.ext.then k6 fun i hi _ e => by omega
  have x46 := x5.trans x56
  have x0 := x0.trans x46
  have Bd := Bd.ext x46
  have Bx := Bx.ext x46
  have sl := (sl.more (D' := fun _ => True) (by decide) fun _ _ _ => trivial).ext x56
  refine ldA [.string d.name, iv d.hours, iv d.cap, iv d.start, .slice A1 n1 c1, .slice A2 n2 c2, .slice A3 n3 c3, .slice A4 n4 c4, .slice A5 n5 c5, .slice A6 n6 c6] (.blk Bd) rfl ?_
  refine ldA [.slice B1 m1 e1, .slice B2 m2 e2, .slice B3 m3 e3, .slice B4 m4 e4, .slice B5 m5 e5, .slice B6 m6 e6, .slice B7 m7 e7] (.blk Bx) rfl ?_
  refine call_of (c_bCheck (hd.ext x0) (hx.ext x0)) ?_
  rintro _ w7 ⟨rfl, x7⟩
  have x0 := x0.trans x7
  have Bd := Bd.ext x7
  have Bx := Bx.ext x7
  have L7 := L7.ext x7
  have sl := sl.ext x7
  refine cN (fun hb => ?_) (fun hb => ?_)
  · refine cN (fun _ => ?_) (fun h => ?_)
    · exact ret1 (.bool true) rfl ⟨rfl, x0⟩
    · exact absurd (show bErr d x = 0 by unfold oflE at h; rw [if_pos hb] at h; exact h) hb
  have hb : bErr d x = 0 := hb
  refine cE (fun h2' => ?_) (fun h2' => ?_)
  · refine cN (fun _ => ?_) (fun h => ?_)
    · exact ret1 (.bool true) rfl ⟨rfl, x0⟩
    · exact absurd (h.symm.trans h2') (by decide)
  obtain ⟨H, hHe⟩ : ∃ H, H = d.hours.toNat := ⟨_, rfl⟩
  have hlen : ¬ 4096 < (oflL d x H).length := fun h => h2' (by unfold oflE; rw [if_neg (fun q => q hb), ← hHe, if_pos h])
  have hE : oflE d x = 0 := by unfold oflE; rw [if_neg (fun q => q hb), ← hHe, if_neg hlen]
  have hV : oflV d x = oflL d x H := by unfold oflV; rw [hE, if_pos rfl, hHe]
  rw [hV] at sl
  obtain ⟨hf, hR⟩ := bErr_fm hb
  rw [← hHe] at hf hR
  have hh := bErr_head hb
  have hHi := hf.hours
  have hH1 := hf.h1
  have hH2 := hf.h2
  have hs2 : 0 ≤ d.start ∧ d.start ≤ d.cap := ⟨hh.1, hh.2.1⟩
  have hok := ofl_ok hb H (by omega) (by omega)
  have hG : ldgErr (oflL d x H) = 0 := ldgErr_0.2 ⟨by omega, hok.ok⟩
  rw [hE]
  refine cN (fun h => absurd rfl h) (fun _ => ?_)
  refine ldA [.slice E1 q1 f1] (.blk L7) rfl ?_
  refine call_of (c_gCheck sl) ?_
  rintro _ w8 ⟨rfl, x8⟩
  rw [hG]
  have x0 := x0.trans x8
  have Bd := Bd.ext x8
  have Bx := Bx.ext x8
  have L7 := L7.ext x8
  have sl := sl.ext x8
  refine cN (fun h => absurd rfl h) (fun _ => ?_)
  refine fldA ?_
  refine ld (iv d.hours) (Bd.cell rfl) ?_
  refine cD (fun h => absurd h (by omega)) (fun _ => ?_)
  refine cvI (by omega) ?_
  refine fldA ?_
  refine ld (iv d.hours) (Bd.cell rfl) ?_
  refine remI (by omega) (by omega) ?_
  obtain ⟨hr, hhr⟩ : ∃ hr : Nat, when % d.hours = (hr : Int) := ⟨(when % d.hours).toNat, by have := Int.emod_nonneg when (show d.hours ≠ 0 by omega); omega⟩
  have hrH : hr < H := by have := Int.emod_lt_of_pos when (show (0 : Int) < d.hours by omega); omega
  rw [hhr]
  refine ldA [.string d.name, iv d.hours, iv d.cap, iv d.start, .slice A1 n1 c1, .slice A2 n2 c2, .slice A3 n3 c3, .slice A4 n4 c4, .slice A5 n5 c5, .slice A6 n6 c6] (.blk Bd) rfl ?_
  refine ldA [.slice B1 m1 e1, .slice B2 m2 e2, .slice B3 m3 e3, .slice B4 m4 e4, .slice B5 m5 e5, .slice B6 m6 e6, .slice B7 m7 e7] (.blk Bx) rfl ?_
  refine arI (n := (hr : Int) + 1) (by omega) ?_
  refine call_of (acc_ok (k := hr + 1) (hd.ext x0) (hx.ext x0) hb (by omega) rfl) ?_
  rintro _ w9 ⟨x9, A, n, c, rfl, sa, -⟩
  have x0 := x0.trans x9
  have Bd := Bd.ext x9
  have Bx := Bx.ext x9
  have L7 := L7.ext x9
  have sl := sl.ext x9
  refine cN (fun h => absurd rfl h) (fun _ => ?_)
  refine fldA ?_
  refine fldA ?_
  refine ld (iv d.start) (Bd.cell rfl) ?_
  refine fldA ?_
  refine ld (.slice B1 m1 e1) (Bx.cell rfl) ?_
  refine arI (n := (hr : Int) + 1) (by omega) ?_
  refine fldA ?_
  refine ld (.slice B1 m1 e1) (Bx.cell rfl) ?_
  refine len ?_
  have hni := numB_iff.1 hf.inflow
  have hl1 := i1.len
  refine slcR 0 (hr + 1) (i1.ext x0) i8 rfl (by show min ((hr : Int) + 1) (m1 : Int) = ((hr + 1 : Nat) : Int); omega) (by omega) (by omega) rfl (fun A8 hA8 => ?_)
  have s8 := hA8 _ w9 (i1.ext x0)
  rw [List.drop_zero, Nat.sub_zero] at s8
  rw [Nat.sub_zero]
  have hsb : ∀ k, 0 ≤ (x.inflow.take k).sum ∧ (x.inflow.take k).sum ≤ 4398046511104 := fun k => by
    have := sum_bound (l := x.inflow.take k) fun y hy => hni.2 y (List.mem_of_mem_take hy)
    rw [List.length_take] at this
    omega
  refine len ?_
  refine loop_rule (fun k : Nat => [(13, iv (d.start + (x.inflow.take k).sum)), (86, iv (k : Int))]) (fun k u => k ≤ hr + 1 ∧ w9 = u) (fun k _ => hr + 1 - k) 0 ⟨by rw [List.take_zero]; show iv d.start = iv (d.start + 0); rw [Int.add_zero], rfl, trivial⟩ ⟨by omega, rfl⟩ rfl ?_
  rintro G k u ⟨hk, rfl⟩
  refine cD (fun hlt => ?_) (fun hge => ?_)
  · obtain ⟨bx', o, cs, v, rfl, hv, -, -, hc, ⟨rfl, -⟩⟩ := s8.at_ (k := k) (by omega)
    have hv2 : x.inflow[k]? = some v := by rw [List.getElem?_take] at hv; split at hv; exact hv; cases hv
    have hg : g1 x.inflow k = v := by unfold g1; rw [List.getD_eq_getElem?_getD, hv2]; rfl
    have hst := sum_take (l := x.inflow) (k := k) (by omega)
    rw [hg] at hst
    have b1 := hsb k
    have b2 := hsb (k + 1)
    refine idx k rfl (by omega) ?_
    refine ld (iv v) (hc 0 _ rfl) ?_
    refine arI (n := d.start + (x.inflow.take k).sum + v) (by omega) ?_
    refine arI (n := (k : Int) + 1) (by omega) ?_
    refine next (k + 1) ⟨?_, by rw [Int.natCast_add]; rfl, trivial⟩ ⟨by omega, rfl⟩ (by omega)
    rw [hst, ← Int.add_assoc]
    rfl
  obtain rfl : k = hr + 1 := by omega
  obtain ⟨tot, htot⟩ : ∃ tot, tot = d.start + (x.inflow.take (hr + 1)).sum := ⟨_, rfl⟩
  rw [← htot]
  have htb := hsb (hr + 1)
  obtain ⟨⟨ht', hv'⟩, -, -⟩ := bErr_ok.1 hb
  obtain ⟨⟨hR64, hF600⟩, -, -⟩ := valid_bounds ht' hv'
  have hbal : ∀ key : Int × Int, inK d.reaches.length d.farms.length key → balH (oflL d x H) (1, numA key) hr = nowN d x (hr + 1) key - if key = (0, 0) then d.start else 0 := fun key hk => by
    have := ofl_bal hb hk hr H (by omega)
    rw [show min H (hr + 1) = hr + 1 by omega] at this
    exact this
  have hbe : ∀ key : Int × Int, inK d.reaches.length d.farms.length key → balE (oflL d x H) 1 (numA key) hr = 0 := fun key hk => by
    have := numA_b hk hR64 hF600
    unfold balE
    rw [if_neg (fun q => q hG), if_pos ⟨by decide, gwithin_iff.2 this, gwithin_iff.2 ⟨by omega, by omega⟩⟩]
  have e00 : numA (0, 0) = 0 := by decide
  have hb0 := hbe (0, 0) (.inl rfl)
  have hbv := hbal (0, 0) (.inl rfl)
  rw [e00] at hb0 hbv
  rw [if_pos rfl, now_src (hr + 1) (by omega) hf] at hbv
  refine ldA [.slice E1 q1 f1] (.blk L7) rfl ?_
  refine call_of (c_gBalance (sort := 1) (num := 0) (hr := (hr : Int)) sl) ?_
  rintro _ w10 ⟨rfl, x10⟩
  rw [hb0, if_pos rfl, hbv, show -(x.inflow.take (hr + 1)).sum - d.start = 0 - tot by omega]
  refine cN (fun h => absurd rfl h) (fun _ => ?_)
  refine arI (n := 0 - tot) (by omega) ?_
  refine cN (fun h => absurd rfl h) (fun _ => ?_)
  have sa := sa.ext x10
  have sl := sl.ext x10
  have L7 := L7.ext x10
  have x0 := x0.trans x10
  have hna := sa.len
  rw [accL_keys, List.length_map] at hna
  have hpb := part_bound hf hR hs2 (k := hr + 1) (by omega)
  have htt := tot_in hf (hr + 1) (by omega)
  have hkl := keysL_len (d := d)
  refine len ?_
  refine loop_rule (fun j : Nat => [(18, iv (((keysL d).map (nowN d x (hr + 1))).take j).sum), (110, iv (j : Int))]) (fun j u => j ≤ n ∧ Ext w10 u) (fun j _ => n - j) 0 ⟨rfl, rfl, trivial⟩ ⟨by omega, .refl _ _⟩ rfl ?_
  rintro G2 j u ⟨hj, xu⟩
  refine cD (fun hlt => ?_) (fun hge => ?_)
  · obtain ⟨b', o, cs, a, rfl, haj, -, -, hc, hcs⟩ := (sa.ext xu).at_ (k := j) (by omega)
    have hcs : cs = a.c := hcs
    subst hcs
    rw [accL_keys, List.getElem?_map, Option.map_eq_some_iff] at haj
    obtain ⟨key, hkey, rfl⟩ := haj
    have hkm := List.mem_of_getElem? hkey
    have hK := keys_inK hkm
    have hKb := inK_b hK hR64 hF600
    have hk00 : key ≠ (0, 0) := fun e => (keysL_pl hkm).2 (by rw [e])
    obtain ⟨nv, hnv⟩ : ∃ nv, nv = nowN d x (hr + 1) key := ⟨_, rfl⟩
    have hSj : (((keysL d).map (nowN d x (hr + 1))).take (j + 1)).sum = (((keysL d).map (nowN d x (hr + 1))).take j).sum + nv := by
      rw [List.take_add_one, List.getElem?_map, hkey, List.sum_append, hnv]
      simp
    have p1 := hpb j
    have p2 := hpb (j + 1)
    have hac : (acAt d x (hr + 1) key).c = [iv key.1, iv key.2, iv nv] := by rw [hnv]; rfl
    rw [hac] at hc
    refine idx j rfl (by omega) ?_
    refine ldA [iv key.1, iv key.2, iv nv] hc rfl ?_
    refine alloc (fun t v1 h1'' => ?_)
    refine stA (vs := [iv key.1, iv key.2, iv nv]) h1''.blk rfl (Nat.le_of_ble_eq_true rfl) (by simp [Value.oneCell']) (fun v2 tb k2 _ => ?_)
    have tb : Blk v2 t 86 [iv key.1, iv key.2, iv nv] := tb
    have t1 := h1''.at_
    have xv2 : Ext u v2 := h1''.ext.then k2 fun b hb _ e => by omega
    have x02 := xu.trans xv2
    have L7v := L7.ext x02
    refine drawP (.take 0 (.take 1 (.take 2 (.take 3 (.take 4 (.take 6 (.eff 5 (.eff 7 (.take 8 (.take 9 (.take 10 (.take 11 (.take 12 .done))))))))))))) [] (fun y => Ext v2 y) mx (by kernel_rfl) (.refl _ _) ?_
    refine ldAX [.slice E1 q1 f1] (.blk L7v) rfl (.refl _ _) ?_
    refine fldA ?_
    refine ldX (iv key.1) (tb.cell rfl) (.refl _ _) ?_
    refine fldA ?_
    refine ldX (iv key.2) (tb.cell rfl) (.refl _ _) ?_
    refine call_of (c_r56Number (a := key) (by omega)) ?_
    rintro _ v3 ⟨rfl, xv3⟩
    refine strS xv3 ?_
    refine call_of (c_gBalance (sort := 1) (num := numA key) (hr := (hr : Int)) (sl.ext (x02.trans xv3))) ?_
    rintro _ v4 ⟨rfl, xv4⟩
    rw [hbe key hK, if_pos rfl, hbal key hK, if_neg hk00, ← hnv, Int.sub_zero]
    have x24 := xv3.trans xv4
    refine strS x24 ?_
    refine cN (fun h => absurd rfl h) (fun _ => ?_)
    refine fldA ?_
    refine ld (iv nv) ((tb.ext x24).cell rfl) ?_
    refine cN (fun h => absurd rfl h) (fun _ => ?_)
    refine arI (n := (((keysL d).map (nowN d x (hr + 1))).take j).sum + nv) (by omega) ?_
    refine arI (n := (j : Int) + 1) (by omega) ?_
    refine next (j + 1) ⟨by rw [hSj]; rfl, by rw [Int.natCast_add]; rfl, trivial⟩ ⟨by omega, x02.trans x24⟩ (by omega)
  · have hSn : (((keysL d).map (nowN d x (hr + 1))).take j).sum = tot := by
      rw [List.take_of_length_le (by rw [List.length_map]; omega), htot, ← htt]
      rfl
    refine cE (fun _ => ?_) (fun h => absurd hSn h)
    exact ret1 (.bool true) rfl ⟨rfl, x0.trans xu⟩
end
end Go.Proofs.YtehcphboliofaaaGreatDoor

/- Closing: what a run that is handed in reads as. -/
namespace Go.Proofs.YtehcphboliofaaaGreatDoor
open Go Go.RowKit Go.ChangeShapes Go.WideShapes Go.ChangeAt

theorem rd_ints : Rd Tryz.prog 65 (tSl tInt) := inferInstance
theorem rd_ll : Rd Tryz.prog 66 (tSl (tSl tInt)) := inferInstance
theorem rd_run : Rd Tryz.prog 68 tRun := by
  refine Rd.of (fun y : List Int × List Int × List (List Int) × List (List Int) × List (List Int) × List (List Int) × List (List Int) => (⟨y.1, y.2.1, y.2.2.1, y.2.2.2.1, y.2.2.2.2.1, y.2.2.2.2.2.1, y.2.2.2.2.2.2⟩ : Run))
    (Rd.struct Tryz.underlying68 (by kernel_rfl) fun n => .cons (rd_ints.h n) rfl (.cons (rd_ints.h n) rfl (.cons (rd_ll.h n) rfl (.cons (rd_ll.h n) rfl (.cons (rd_ll.h n) rfl (.cons (rd_ll.h n) rfl (.one (rd_ll.h n) rfl))))))) ?_
  rintro W cs ⟨l1, l2, l3, l4, l5, l6, l7⟩ ⟨_, _, rfl, ⟨A1, n1, c1, rfl, h1, g1⟩, _, _, rfl, ⟨A2, n2, c2, rfl, h2, g2⟩, _, _, rfl, ⟨A3, n3, c3, rfl, h3, -⟩, _, _, rfl, ⟨A4, n4, c4, rfl, h4, -⟩, _, _, rfl, ⟨A5, n5, c5, rfl, h5, -⟩, _, _, rfl, ⟨A6, n6, c6, rfl, h6, -⟩, A7, n7, c7, rfl, h7, -⟩
  exact RuR.of_ ⟨A1, n1, c1, A2, n2, c2, A3, n3, c3, A4, n4, c4, A5, n5, c5, A6, n6, c6, A7, n7, c7, rfl, h1, h2, h3, h4, h5, h6, h7, g1, g2⟩
end Go.Proofs.YtehcphboliofaaaGreatDoor
