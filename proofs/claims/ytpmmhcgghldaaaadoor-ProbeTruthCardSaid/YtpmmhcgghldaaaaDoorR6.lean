/- The laws: ProbeFewer. -/
import Derived.Test.YtpmmhcgghldaaaaDoorR5
namespace Go.Proofs.YtpmmhcgghldaaaaDoor
open Go Go.RowKit

theorem hyps_iff : ∀ (l pre : List (List Int)), hypsFrom pre l = true ↔ (∀ y ∈ l, setOk y = true) ∧ l.Nodup ∧ ∀ y ∈ l, y ∉ pre
  | [], pre => by simp [hypsFrom]
  | x :: r, pre => by
    unfold hypsFrom
    rw [Bool.and_eq_true, Bool.and_eq_true, hyps_iff r (pre ++ [x])]
    constructor
    · rintro ⟨⟨h1, h2⟩, h3, h4, h5⟩
      have hx : x ∉ pre := fun hm => by
        have : pre.any (fun y => x == y) = true := List.any_eq_true.2 ⟨x, hm, by simp⟩
        rw [this] at h2; cases h2
      refine ⟨fun y hy => ?_, List.nodup_cons.2 ⟨fun hm => ?_, h4⟩, fun y hy => ?_⟩
      · rcases List.mem_cons.1 hy with rfl | hy
        · exact h1
        · exact h3 y hy
      · exact h5 x hm (by simp)
      · rcases List.mem_cons.1 hy with rfl | hy
        · exact hx
        · exact fun hm => h5 y hy (by simp [hm])
    · rintro ⟨h1, h2, h3⟩
      obtain ⟨h4, h5⟩ := List.nodup_cons.1 h2
      refine ⟨⟨h1 x List.mem_cons_self, ?_⟩, fun y hy => h1 y (List.mem_cons_of_mem _ hy), h5, fun y hy hm => ?_⟩
      · have : pre.any (fun y => x == y) = false := by
          rw [List.any_eq_false]
          intro y hy e
          have e := eq_of_beq e
          subst e
          exact h3 x List.mem_cons_self hy
        rw [this]; rfl
      · rcases List.mem_append.1 hm with hm | hm
        · exact h3 y (List.mem_cons_of_mem _ hy) hm
        · have : y = x := by simpa using hm
          subst this; exact h4 hy
theorem check_mk {l : List (List Int)} {p : List Pr} (h1 : l.length ≤ 12) (h2 : p.length ≤ 12) (h3 : hypsOk l = true) (h4 : p.all probeOk = true) : checkL l p = 0 := by
  unfold checkL
  rw [if_neg (by omega), h3, h4]; rfl
theorem check_erase {l : List (List Int)} {p : List Pr} (h : checkL l p = 0) (k : Nat) : checkL (l.eraseIdx k) p = 0 := by
  obtain ⟨h1, h2, h3, h4⟩ := checkL_ok h
  have hs := List.eraseIdx_sublist l k
  refine check_mk (Nat.le_trans hs.length_le h1) h2 ?_ h4
  obtain ⟨a1, a2, _⟩ := (hyps_iff l []).1 h3
  exact (hyps_iff _ []).2 ⟨fun y hy => a1 y (hs.subset hy), a2.sublist hs, fun _ _ h => by cases h⟩
theorem best_erase {l : List (List Int)} {p : List Pr} (h : checkL l p = 0) (k : Nat) : (pbestL (l.eraseIdx k) p).2.1 ≤ (pbestL l p).2.1 :=
  best_least (check_erase h k) ((best_can h).sub (LP.of h).ok (List.eraseIdx_sublist l k))
theorem probe_set {p : List Pr} {k : Nat} {x : Pr} {less : Int} (hx : p[k]? = some x) (hp : p.all probeOk = true) (h1 : 1 ≤ less) (h2 : less ≤ x.1) : (p.set k (less, x.2)).all probeOk = true := by
  rw [List.all_eq_true] at hp ⊢
  intro y hy
  rcases List.mem_or_eq_of_mem_set hy with hy | rfl
  · exact hp y hy
  · have := hp x (List.mem_of_getElem? hx)
    unfold probeOk at this ⊢
    simp at this ⊢
    refine ⟨⟨⟨h1, by omega⟩, this.1.2⟩, this.2⟩
theorem check_set {l : List (List Int)} {p : List Pr} {k : Nat} {x : Pr} {less : Int} (h : checkL l p = 0) (hx : p[k]? = some x) (h1 : 1 ≤ less) (h2 : less ≤ x.1) : checkL l (p.set k (less, x.2)) = 0 := by
  obtain ⟨a1, a2, a3, a4⟩ := checkL_ok h
  exact check_mk a1 (by rw [List.length_set]; exact a2) a3 (probe_set hx a4 h1 h2)
theorem best_set {l : List (List Int)} {p : List Pr} {k : Nat} {x : Pr} {less : Int} (h : checkL l p = 0) (hx : p[k]? = some x) (h1 : 1 ≤ less) (h2 : less ≤ x.1) : (pbestL l (p.set k (less, x.2))).2.1 ≤ (pbestL l p).2.1 := by
  have hk := (List.getElem?_eq_some_iff.1 hx).1
  refine best_least (check_set h hx h1 h2) ((best_can h).cheap (fun y hy => ?_) (fun y hy => ?_))
  · obtain ⟨j, hj⟩ := List.getElem?_of_mem hy
    by_cases hjk : k = j
    · subst hjk
      rw [hx] at hj
      obtain rfl := Option.some.inj hj
      exact ⟨(less, x.2), List.mem_of_getElem? (i := k) (by rw [List.getElem?_set_self hk]), rfl, h2⟩
    · exact ⟨y, List.mem_of_getElem? (i := j) (by rw [List.getElem?_set_ne hjk]; exact hj), rfl, Int.le_refl _⟩
  · rcases List.mem_or_eq_of_mem_set hy with hy | rfl
    · exact ⟨y, hy, rfl⟩
    · exact ⟨x, List.mem_of_getElem? hx, rfl⟩
theorem best_code {l : List (List Int)} {p : List Pr} (h : checkL l p = 0) : (pbestL l p).2.2 = 0 := by unfold pbestL; rw [if_neg (by omega)]
theorem best_not {l : List (List Int)} {p : List Pr} (h : (pbestL l p).2.2 ≠ 0) : (pbestL l p).2.1 = 0 := by
  unfold pbestL at h ⊢
  split
  · rfl
  · rename_i hc; rw [if_neg hc] at h; exact absurd rfl h

theorem flat_pr_set {D : Nat → Prop} {w : World} {less : Int} (hless : I64 less) : ∀ {p : List Pr} {cs : List Value} {k : Nat} {x : Pr}, FlatR tPr D w p cs → p[k]? = some x →
    cs[k * 2]? = some (.int .i64 x.1) ∧ FlatR tPr D w (p.set k (less, x.2)) (cs.set (k * 2) (.int .i64 less))
  | [], _, _, _, _, h => by simp at h
  | y :: r, _, 0, x, ⟨c, rest, rfl, hc, hr⟩, h => by
    obtain rfl : y = x := by simpa using h
    obtain ⟨A, n, c', rfl, h1, h2, h3⟩ := pr_open hc
    exact ⟨rfl, [.int .i64 less, .slice A n c'], rest, rfl, pr_mk (x := (less, y.2)) hless h2 h3, hr⟩
  | y :: r, _, k + 1, x, ⟨c, rest, rfl, hc, hr⟩, h => by
    obtain ⟨h1, h2⟩ := flat_pr_set hless hr (k := k) (x := x) (by simpa using h)
    obtain ⟨A, n, c', rfl, _⟩ := pr_open hc
    refine ⟨?_, [.int .i64 y.1, .slice A n c'], rest.set (k * 2) (.int .i64 less), ?_, hc, h2⟩
    · rw [show (k + 1) * 2 = k * 2 + 1 + 1 from by omega]; exact h1
    · rw [show (k + 1) * 2 = k * 2 + 1 + 1 from by omega]; rfl
theorem flat_pr_one {D : Nat → Prop} {w : World} : ∀ {p : List Pr} {cs : List Value}, FlatR tPr D w p cs → (cs.all fun u => u.oneCell') = true
  | [], _, h => by rw [h]; rfl
  | _ :: _, _, ⟨c, rest, rfl, hc, hr⟩ => by
    obtain ⟨A, n, c', rfl, _⟩ := pr_open hc
    rw [List.all_append, flat_pr_one hr]; rfl
theorem flat_ll_one {D : Nat → Prop} {w : World} : ∀ {p : List (List Int)} {cs : List Value}, FlatR tInts D w p cs → (cs.all fun u => u.oneCell') = true
  | [], _, h => by rw [h]; rfl
  | _ :: _, _, ⟨c, rest, rfl, hc, hr⟩ => by
    obtain ⟨A, n, c', rfl, _⟩ := hc
    rw [List.all_append, flat_ll_one hr]; rfl
/-- A slice as an append's source. -/
theorem SlR.src {α : Type} {a : Ty α} {D : Nat → Prop} {w : World} {A : Option Addr} {n : Nat} {xs : List α} (h : SlR a D w A n xs) : ∃ cs, FlatR a D w xs cs ∧ Src w A n a.sz cs := by
  by_cases h0 : n = 0
  · subst h0
    have : xs = [] := List.eq_nil_of_length_eq_zero h.1.symm
    subst this
    exact ⟨[], rfl, by simp, fun h => by omega⟩
  · obtain ⟨b, o, _, _, rfl, _⟩ := h.at_ (k := 0) (by omega)
    obtain ⟨cs, h1, h2⟩ := h.cells
    exact ⟨cs, h1, by rw [h1.len, h.len], fun _ => ⟨b, o, rfl, h2⟩⟩
theorem Src.ext {w w' : World} {A : Option Addr} {m sz : Nat} {cs : List Value} (h : Src w A m sz cs) (x : Ext w w') : Src w' A m sz cs :=
  ⟨h.1, fun hm => let ⟨b, o, e, hc⟩ := h.2 hm; ⟨b, o, e, hc.kept x trivial⟩⟩
theorem FlatR.ext {α : Type} {a : Ty α} {D : Nat → Prop} {w w' : World} {xs : List α} {cs : List Value} (h : FlatR a D w xs cs) (x : Ext w w') : FlatR a D w' xs cs := h.keep fun b hb _ => x.blk b hb trivial
theorem OwnF.ne' {w0 w : World} {A : Option Addr} {n c : Nat} {e t : TypeId} {sz b : Nat} {cs cs' : List Value} (h : OwnF w0 w A n c e sz cs) (hb : Blk w b t cs') (hne : Nat.beq e t = false) : A ≠ some (ad b 0) := fun x => h.ne hb (Nat.ne_of_beq_eq_false hne) _ x rfl

section
variable {D Dt Du : Nat → Prop} {w : World} {A A' A4 : Option Addr} {n m k c d e : Nat}
set_option maxHeartbeats 1000000 in
theorem c_ProbeFewer {l : List (List Int)} {p : List Pr} {q1 q2 less : Int} (hl : SlR tInts D w A n l) (hnc : n ≤ c) (hp : SlR tPr D w A' m p) (hT : TabW w) (hq1 : 0 ≤ q1 ∧ q1 ≤ 255) (hq2 : 0 ≤ q2 ∧ q2 ≤ 255) (hless : I64 less) :
    CallZ Tryd.prog 7 #[.slice A n c, .slice A' m d, .int .u8 q1, .int .u8 q2, .int .i64 less] w (fun v w' => v = .bool true ∧ Ext w w') := by
  have hll := hl.1
  have hpl := hp.1
  have hpA : SlR tPr AnyB w A' m p := hp.more (by decide) (fun _ _ _ => trivial)
  have hlA : SlR tInts AnyB w A n l := hl.more (by decide) (fun _ _ _ => trivial)
  refine fn_rule (args := [.slice A n c, .slice A' m d, .int .u8 q1, .int .u8 q2, .int .i64 less]) Tryd.func7 (by kernel_rfl) ?_
  refine call_of (c_sane hT) ?_
  rintro _ w1 ⟨rfl, x1⟩
  have done : ∀ w', Ext w1 w' → (Value.bool true = .bool true ∧ Ext w w') := fun w' x => ⟨rfl, x1.trans x⟩
  refine callB (c_Few (hl.ext x1) (hp.ext x1)) (fun hf => ?_) (fun _ => ?_)
  · refine call_of (c_Best (hl.ext x1) (hp.ext x1) (hT.ext x1)) ?_
    rintro _ w2 ⟨cs, f, rfl, hr, -, x2⟩
    obtain ⟨f, rfl⟩ := tr_pos hr
    obtain ⟨A3, n3, c3, A4, n4, c4, rfl, -⟩ := tr_open hr
    refine alloc (fun g5 w3 h3 => ?_)
    refine stA (vs := [_, _, _]) h3.blk rfl (Nat.le_of_ble_eq_true rfl) (by simp [Value.oneCell']) (fun wa hb4 k4 z4 => ?_)
    have e3 := h3.at_
    have x24 : Ext w2 wa := h3.ext.then k4 (fun b hb _ e => by omega)
    have x1a := x2.trans x24
    refine cN (fun hne => ?_) (fun heq => ?_)
    · have h0 := best_not hne
      refine cE (fun _ => ?_) (fun h => absurd h0 h)
      exact ret1 (.bool true) rfl (done _ x1a)
    have hc : checkL l p = 0 := by
      apply Classical.byContradiction
      intro h
      have : (pbestL l p).2.2 = checkL l p := by unfold pbestL; rw [if_pos h]
      omega
    obtain ⟨hN, hM, hh, hpo⟩ := checkL_ok hc
    have hok := prOk_of hpo
    have x0a := x1.trans x1a
    refine len ?_
    refine cD (fun hpos => ?_) (fun hzero => ?_)
    · have hpos : 0 < n := by omega
      refine convI (by omega) ?_
      refine len ?_
      refine remI (by omega) (by omega) ?_
      obtain ⟨k, hk⟩ : ∃ k : Nat, q1 % (n : Int) = (k : Int) := ⟨(q1 % (n : Int)).toNat, by have := Int.emod_nonneg q1 (show (n : Int) ≠ 0 by omega); omega⟩
      have hkn : k < n := by have := Int.emod_lt_of_pos q1 (show (0 : Int) < n by omega); omega
      rw [hk]
      have hla := hl.ext x0a
      refine drawP (.take 1 (.take 2 (.take 3 (.take 5 (.take 6 (.take 7 (.take 8 (.take 10 (.alt 0 (.alt 4 (.alt 9 (.alt 11 (.take 12 (.take 13 (.take 14 (.take 15 (.eff 16 (.eff 17 (.take 18 (.take 19 .done)))))))) (.eff 16 (.eff 11 (.take 12 (.take 13 (.take 14 (.take 15 (.eff 17 (.take 18 (.take 19 .done)))))))))) (.eff 16 (.eff 9 (.eff 11 (.take 12 (.take 13 (.take 14 (.take 15 (.eff 17 (.take 18 (.take 19 .done))))))))))) (.eff 16 (.eff 4 (.eff 9 (.eff 11 (.take 12 (.take 13 (.take 14 (.take 15 (.eff 17 (.take 18 (.take 19 .done)))))))))))) (.eff 16 (.eff 0 (.eff 4 (.eff 9 (.eff 11 (.take 12 (.take 13 (.take 14 (.take 15 (.eff 17 (.take 18 (.take 19 .done))))))))))))))))))))) [] (fun _ => True) mx (by kernel_rfl) trivial ?_
      refine slcR 0 k hla hnc rfl rfl (by omega) (by omega) rfl (fun A8 hA8 => ?_)
      refine arN (k + 1) (by omega) (by omega) ?_
      refine slcR (k + 1) n hla hnc rfl rfl (by omega) (by omega) rfl (fun A9 hA9 => ?_)
      obtain ⟨cs1, f1, s1⟩ := (hA8 D wa hla).src
      obtain ⟨cs2, f2, s2⟩ := (hA9 D wa hla).src
      have hone1 := flat_ll_one f1
      have hone2 := flat_ll_one f2
      have he : (l.take k).drop 0 ++ (l.take n).drop (k + 1) = l.eraseIdx k := by rw [List.drop_zero, List.take_of_length_le (by omega : l.length ≤ n), List.eraseIdx_eq_take_drop_succ]
      have hB0 := best_code (check_erase hc k)
      have hBle := best_erase hc k
      have xa : Ext wa wa := .refl _ _
      refine ⟨?_, ?_⟩
      · refine lit [] (fun g0 v1 h0 => ?_)
        have xv1 := xa.trans h0.ext
        have ov1 : OwnF wa v1 (some (ad g0 0)) 0 0 26 1 [] := OwnF.lit (cs := []) xa h0 rfl
        refine strS trivial ?_
        refine ⟨?_, ?_⟩
        · refine appF ov1 (s1.ext xv1) (by omega) (fun A1' c1' v2 ov2 kv2 _ => ?_) (h1 := hone1)
          have xv2 := ov2.ext
          refine strS trivial ?_
          refine ⟨?_, ?_⟩
          · refine appF ov2 (s2.ext xv2) (by omega) (fun A2' c2' v3 ov3 kv3 _ => ?_) (h1 := hone2)
            have xv3 := ov3.ext
            refine strS trivial ?_
            refine ⟨?_, ?_⟩
            · have hrv4 : SlR tInts AnyB v3 _ _ (l.eraseIdx k) := he ▸ Own.rd (a := tInts) (D := AnyB) ov3.own (((f1.more fun _ _ _ => trivial).ext xv3).app ((f2.more fun _ _ _ => trivial).ext xv3)) (by rw [he, List.length_eraseIdx_of_lt (by omega)]; omega) (by omega) (fun _ _ => trivial)
              refine call_of (c_Best hrv4 (hpA.ext (x0a.trans xv3)) (hT.ext (x0a.trans xv3))) ?_
              rintro _ v4 ⟨csb, fb, rfl, hrb, -, yv4⟩
              obtain ⟨fb, rfl⟩ := tr_pos hrb
              obtain ⟨A30, n30, c30, A40, n40, c40, rfl, -⟩ := tr_open hrb
              have xv4 := xv3.trans yv4
              refine strS trivial ?_
              refine alloc (fun g15 v5 h15 => ?_)
              have bv5 : Blk v5 g15 29 [.int .i64 0, .slice none 0 0, .slice none 0 0] := h15.blk
              have e15 : wa.heap.size ≤ g15 := by have := h15.at_; have := (xv4).size; omega
              have xv5 := xv4.trans h15.ext
              refine strS trivial ?_
              refine stA (vs := [_, _, _]) bv5 rfl (Nat.le_of_ble_eq_true rfl) (by simp [Value.oneCell']) (fun wt hb17 k17 z17 => ?_)
              have xt : Ext wa wt := xv5.then k17 (fun b hb _ e => by omega)
              refine strS trivial ?_
              refine cN (fun h => absurd hB0 h) (fun _ => ?_)
              refine cDF (by omega) ?_
              refine len ?_
              refine cE (fun _ => ?_) (fun hm0 => ?_)
              · exact ret1 (.bool true) rfl (done _ (x1a.trans xt))
              have x0t := x1.trans (x1a.trans xt)
              have hpt : SlR tPr (fun b => b < wt.heap.size) wt A' m p := (hp.ext x0t).more (by decide) (fun b hb _ => hb)
              obtain ⟨csp, fp, sp⟩ := hpt.src
              refine lit [] (fun gq wq hbq => ?_)
              have xq := hbq.ext
              refine appF (OwnF.lit (cs := []) (.refl _ wt) hbq rfl) (sp.ext xq) (by omega) (fun Aq cq wr oq _ _ => ?_) (h1 := flat_pr_one fp)
              have hqform := oq.form
              obtain ⟨gr, rfl, hgr, hgr2, _⟩ : ∃ g, Aq = some (ad g 0) ∧ wt.heap.size ≤ g ∧ g < wr.heap.size ∧ 0 + m ≤ cq := by
                rcases hqform with ⟨_, h, _⟩ | h
                · omega
                · exact h
              obtain ⟨rest, hblk, hlenr, _⟩ := oq.own.blk
              have fpr := fp.ext oq.ext
              refine convI (by omega) ?_
              refine len ?_
              refine remI (by omega) (by omega) ?_
              obtain ⟨j, hj⟩ : ∃ j : Nat, q2 % ((0 + m : Nat) : Int) = (j : Int) := ⟨(q2 % ((0 + m : Nat) : Int)).toNat, by have := Int.emod_nonneg q2 (show ((0 + m : Nat) : Int) ≠ 0 by omega); omega⟩
              have hjm : j < m := by have := Int.emod_lt_of_pos q2 (show (0 : Int) < ((0 + m : Nat) : Int) by omega); omega
              rw [hj]
              obtain ⟨x, hx⟩ : ∃ x, p[j]? = some x := ⟨_, List.getElem?_eq_getElem (by omega)⟩
              obtain ⟨hcell, hset⟩ := flat_pr_set hless fpr hx
              have hcsl : csp.length = m * 2 := by have := fpr.len; rw [this, ← hpl]; rfl
              have hcell' : (([] ++ csp) ++ rest)[j * 2]? = some (.int .i64 x.1) := by rw [List.nil_append, List.getElem?_append_left (by omega)]; exact hcell
              refine cD (fun _ => ?_) (fun hl1 => ?_)
              · exact ret1 (.bool true) rfl (done _ ((x1a.trans xt).trans oq.ext))
              refine idx j rfl (by omega) ?_
              refine fldA ?_
              refine ld (.int .i64 x.1) (hblk.cell (by rw [Nat.zero_add, Nat.add_zero]; exact hcell')) ?_
              refine cD (fun _ => ?_) (fun hl2 => ?_)
              · exact ret1 (.bool true) rfl (done _ ((x1a.trans xt).trans oq.ext))
              refine idx j rfl (by omega) ?_
              refine fldA ?_
              refine st hblk (by rw [List.nil_append, List.length_append]; omega) rfl (fun ws hbs ks zs => ?_)
              have xts : Ext wt ws := oq.ext.then ks (fun b hb _ e => by omega)
              have hset' : FlatR tPr AnyB ws (p.set j (less, x.2)) (csp.set (j * 2) (.int .i64 less)) := (hset.keep (fun b hb h => ks.blk b hb (by show b ≠ gr; omega))).more (fun _ _ _ => trivial)
              have hcs : CellsAt ws gr 0 (csp.set (j * 2) (.int .i64 less)) := by
                have h := CellsAt.blk hbs
                rw [List.nil_append, Nat.zero_add, Nat.add_zero, List.set_append_left _ _ (by omega)] at h
                exact h.app.1
              have hq : SlR tPr AnyB ws (some (ad gr 0)) (0 + m) (p.set j (less, x.2)) := SlR.of_cells (by rw [List.length_set]; omega) (by omega) trivial hcs hset'
              refine call_of (c_Best (hlA.ext (x0t.trans xts)) hq (hT.ext (x0t.trans xts))) ?_
              rintro _ wu ⟨csu, fu, rfl, hru, -, xu⟩
              obtain ⟨fu, rfl⟩ := tr_pos hru
              obtain ⟨A31, n31, c31, A41, n41, c41, rfl, -⟩ := tr_open hru
              refine alloc (fun g20 wx h20 => ?_)
              refine stA (vs := [_, _, _]) h20.blk rfl (Nat.le_of_ble_eq_true rfl) (by simp [Value.oneCell']) (fun wy hb20 k20 z20 => ?_)
              have e20 := h20.at_
              have xuy : Ext wu wy := h20.ext.then k20 (fun b hb _ e => by omega)
              have hs0 := best_code (check_set hc hx (by omega) (by omega : less ≤ x.1))
              have hsle := best_set hc hx (by omega) (by omega : less ≤ x.1)
              refine cE (fun _ => ?_) (fun h => absurd hs0 h)
              refine cDT (by omega) ?_
              exact ret1 (.bool true) rfl (done _ ((x1a.trans xt).trans (xts.trans (xu.trans xuy))))
            · refine alloc (fun g15 v4 h15 => ?_)
              have bv4 : Blk v4 g15 29 [.int .i64 0, .slice none 0 0, .slice none 0 0] := h15.blk
              have e15 : wa.heap.size ≤ g15 := by have := h15.at_; have := (xv3).size; omega
              have xv4 := xv3.trans h15.ext
              have ov4 := ov3.then h15.ext
              refine strS trivial ?_
              have hrv5 : SlR tInts AnyB v4 _ _ (l.eraseIdx k) := he ▸ Own.rd (a := tInts) (D := AnyB) ov4.own (((f1.more fun _ _ _ => trivial).ext xv4).app ((f2.more fun _ _ _ => trivial).ext xv4)) (by rw [he, List.length_eraseIdx_of_lt (by omega)]; omega) (by omega) (fun _ _ => trivial)
              refine call_of (c_Best hrv5 (hpA.ext (x0a.trans xv4)) (hT.ext (x0a.trans xv4))) ?_
              rintro _ v5 ⟨csb, fb, rfl, hrb, -, yv5⟩
              obtain ⟨fb, rfl⟩ := tr_pos hrb
              obtain ⟨A30, n30, c30, A40, n40, c40, rfl, -⟩ := tr_open hrb
              have xv5 := xv4.trans yv5
              have bv5 := bv4.ext yv5
              refine strS trivial ?_
              refine stA (vs := [_, _, _]) bv5 rfl (Nat.le_of_ble_eq_true rfl) (by simp [Value.oneCell']) (fun wt hb17 k17 z17 => ?_)
              have xt : Ext wa wt := xv5.then k17 (fun b hb _ e => by omega)
              refine strS trivial ?_
              refine cN (fun h => absurd hB0 h) (fun _ => ?_)
              refine cDF (by omega) ?_
              refine len ?_
              refine cE (fun _ => ?_) (fun hm0 => ?_)
              · exact ret1 (.bool true) rfl (done _ (x1a.trans xt))
              have x0t := x1.trans (x1a.trans xt)
              have hpt : SlR tPr (fun b => b < wt.heap.size) wt A' m p := (hp.ext x0t).more (by decide) (fun b hb _ => hb)
              obtain ⟨csp, fp, sp⟩ := hpt.src
              refine lit [] (fun gq wq hbq => ?_)
              have xq := hbq.ext
              refine appF (OwnF.lit (cs := []) (.refl _ wt) hbq rfl) (sp.ext xq) (by omega) (fun Aq cq wr oq _ _ => ?_) (h1 := flat_pr_one fp)
              have hqform := oq.form
              obtain ⟨gr, rfl, hgr, hgr2, _⟩ : ∃ g, Aq = some (ad g 0) ∧ wt.heap.size ≤ g ∧ g < wr.heap.size ∧ 0 + m ≤ cq := by
                rcases hqform with ⟨_, h, _⟩ | h
                · omega
                · exact h
              obtain ⟨rest, hblk, hlenr, _⟩ := oq.own.blk
              have fpr := fp.ext oq.ext
              refine convI (by omega) ?_
              refine len ?_
              refine remI (by omega) (by omega) ?_
              obtain ⟨j, hj⟩ : ∃ j : Nat, q2 % ((0 + m : Nat) : Int) = (j : Int) := ⟨(q2 % ((0 + m : Nat) : Int)).toNat, by have := Int.emod_nonneg q2 (show ((0 + m : Nat) : Int) ≠ 0 by omega); omega⟩
              have hjm : j < m := by have := Int.emod_lt_of_pos q2 (show (0 : Int) < ((0 + m : Nat) : Int) by omega); omega
              rw [hj]
              obtain ⟨x, hx⟩ : ∃ x, p[j]? = some x := ⟨_, List.getElem?_eq_getElem (by omega)⟩
              obtain ⟨hcell, hset⟩ := flat_pr_set hless fpr hx
              have hcsl : csp.length = m * 2 := by have := fpr.len; rw [this, ← hpl]; rfl
              have hcell' : (([] ++ csp) ++ rest)[j * 2]? = some (.int .i64 x.1) := by rw [List.nil_append, List.getElem?_append_left (by omega)]; exact hcell
              refine cD (fun _ => ?_) (fun hl1 => ?_)
              · exact ret1 (.bool true) rfl (done _ ((x1a.trans xt).trans oq.ext))
              refine idx j rfl (by omega) ?_
              refine fldA ?_
              refine ld (.int .i64 x.1) (hblk.cell (by rw [Nat.zero_add, Nat.add_zero]; exact hcell')) ?_
              refine cD (fun _ => ?_) (fun hl2 => ?_)
              · exact ret1 (.bool true) rfl (done _ ((x1a.trans xt).trans oq.ext))
              refine idx j rfl (by omega) ?_
              refine fldA ?_
              refine st hblk (by rw [List.nil_append, List.length_append]; omega) rfl (fun ws hbs ks zs => ?_)
              have xts : Ext wt ws := oq.ext.then ks (fun b hb _ e => by omega)
              have hset' : FlatR tPr AnyB ws (p.set j (less, x.2)) (csp.set (j * 2) (.int .i64 less)) := (hset.keep (fun b hb h => ks.blk b hb (by show b ≠ gr; omega))).more (fun _ _ _ => trivial)
              have hcs : CellsAt ws gr 0 (csp.set (j * 2) (.int .i64 less)) := by
                have h := CellsAt.blk hbs
                rw [List.nil_append, Nat.zero_add, Nat.add_zero, List.set_append_left _ _ (by omega)] at h
                exact h.app.1
              have hq : SlR tPr AnyB ws (some (ad gr 0)) (0 + m) (p.set j (less, x.2)) := SlR.of_cells (by rw [List.length_set]; omega) (by omega) trivial hcs hset'
              refine call_of (c_Best (hlA.ext (x0t.trans xts)) hq (hT.ext (x0t.trans xts))) ?_
              rintro _ wu ⟨csu, fu, rfl, hru, -, xu⟩
              obtain ⟨fu, rfl⟩ := tr_pos hru
              obtain ⟨A31, n31, c31, A41, n41, c41, rfl, -⟩ := tr_open hru
              refine alloc (fun g20 wx h20 => ?_)
              refine stA (vs := [_, _, _]) h20.blk rfl (Nat.le_of_ble_eq_true rfl) (by simp [Value.oneCell']) (fun wy hb20 k20 z20 => ?_)
              have e20 := h20.at_
              have xuy : Ext wu wy := h20.ext.then k20 (fun b hb _ e => by omega)
              have hs0 := best_code (check_set hc hx (by omega) (by omega : less ≤ x.1))
              have hsle := best_set hc hx (by omega) (by omega : less ≤ x.1)
              refine cE (fun _ => ?_) (fun h => absurd hs0 h)
              refine cDT (by omega) ?_
              exact ret1 (.bool true) rfl (done _ ((x1a.trans xt).trans (xts.trans (xu.trans xuy))))
          · refine alloc (fun g15 v3 h15 => ?_)
            have bv3 : Blk v3 g15 29 [.int .i64 0, .slice none 0 0, .slice none 0 0] := h15.blk
            have e15 : wa.heap.size ≤ g15 := by have := h15.at_; have := (xv2).size; omega
            have xv3 := xv2.trans h15.ext
            have ov3 := ov2.then h15.ext
            refine strS trivial ?_
            refine appF ov3 (s2.ext xv3) (by omega) (fun A2' c2' v4 ov4 kv4 _ => ?_) (h1 := hone2)
            have xv4 := ov4.ext
            have bv4 := bv3.kept kv4 (ov3.ne' bv3 rfl)
            refine strS trivial ?_
            have hrv5 : SlR tInts AnyB v4 _ _ (l.eraseIdx k) := he ▸ Own.rd (a := tInts) (D := AnyB) ov4.own (((f1.more fun _ _ _ => trivial).ext xv4).app ((f2.more fun _ _ _ => trivial).ext xv4)) (by rw [he, List.length_eraseIdx_of_lt (by omega)]; omega) (by omega) (fun _ _ => trivial)
            refine call_of (c_Best hrv5 (hpA.ext (x0a.trans xv4)) (hT.ext (x0a.trans xv4))) ?_
            rintro _ v5 ⟨csb, fb, rfl, hrb, -, yv5⟩
            obtain ⟨fb, rfl⟩ := tr_pos hrb
            obtain ⟨A30, n30, c30, A40, n40, c40, rfl, -⟩ := tr_open hrb
            have xv5 := xv4.trans yv5
            have bv5 := bv4.ext yv5
            refine strS trivial ?_
            refine stA (vs := [_, _, _]) bv5 rfl (Nat.le_of_ble_eq_true rfl) (by simp [Value.oneCell']) (fun wt hb17 k17 z17 => ?_)
            have xt : Ext wa wt := xv5.then k17 (fun b hb _ e => by omega)
            refine strS trivial ?_
            refine cN (fun h => absurd hB0 h) (fun _ => ?_)
            refine cDF (by omega) ?_
            refine len ?_
            refine cE (fun _ => ?_) (fun hm0 => ?_)
            · exact ret1 (.bool true) rfl (done _ (x1a.trans xt))
            have x0t := x1.trans (x1a.trans xt)
            have hpt : SlR tPr (fun b => b < wt.heap.size) wt A' m p := (hp.ext x0t).more (by decide) (fun b hb _ => hb)
            obtain ⟨csp, fp, sp⟩ := hpt.src
            refine lit [] (fun gq wq hbq => ?_)
            have xq := hbq.ext
            refine appF (OwnF.lit (cs := []) (.refl _ wt) hbq rfl) (sp.ext xq) (by omega) (fun Aq cq wr oq _ _ => ?_) (h1 := flat_pr_one fp)
            have hqform := oq.form
            obtain ⟨gr, rfl, hgr, hgr2, _⟩ : ∃ g, Aq = some (ad g 0) ∧ wt.heap.size ≤ g ∧ g < wr.heap.size ∧ 0 + m ≤ cq := by
              rcases hqform with ⟨_, h, _⟩ | h
              · omega
              · exact h
            obtain ⟨rest, hblk, hlenr, _⟩ := oq.own.blk
            have fpr := fp.ext oq.ext
            refine convI (by omega) ?_
            refine len ?_
            refine remI (by omega) (by omega) ?_
            obtain ⟨j, hj⟩ : ∃ j : Nat, q2 % ((0 + m : Nat) : Int) = (j : Int) := ⟨(q2 % ((0 + m : Nat) : Int)).toNat, by have := Int.emod_nonneg q2 (show ((0 + m : Nat) : Int) ≠ 0 by omega); omega⟩
            have hjm : j < m := by have := Int.emod_lt_of_pos q2 (show (0 : Int) < ((0 + m : Nat) : Int) by omega); omega
            rw [hj]
            obtain ⟨x, hx⟩ : ∃ x, p[j]? = some x := ⟨_, List.getElem?_eq_getElem (by omega)⟩
            obtain ⟨hcell, hset⟩ := flat_pr_set hless fpr hx
            have hcsl : csp.length = m * 2 := by have := fpr.len; rw [this, ← hpl]; rfl
            have hcell' : (([] ++ csp) ++ rest)[j * 2]? = some (.int .i64 x.1) := by rw [List.nil_append, List.getElem?_append_left (by omega)]; exact hcell
            refine cD (fun _ => ?_) (fun hl1 => ?_)
            · exact ret1 (.bool true) rfl (done _ ((x1a.trans xt).trans oq.ext))
            refine idx j rfl (by omega) ?_
            refine fldA ?_
            refine ld (.int .i64 x.1) (hblk.cell (by rw [Nat.zero_add, Nat.add_zero]; exact hcell')) ?_
            refine cD (fun _ => ?_) (fun hl2 => ?_)
            · exact ret1 (.bool true) rfl (done _ ((x1a.trans xt).trans oq.ext))
            refine idx j rfl (by omega) ?_
            refine fldA ?_
            refine st hblk (by rw [List.nil_append, List.length_append]; omega) rfl (fun ws hbs ks zs => ?_)
            have xts : Ext wt ws := oq.ext.then ks (fun b hb _ e => by omega)
            have hset' : FlatR tPr AnyB ws (p.set j (less, x.2)) (csp.set (j * 2) (.int .i64 less)) := (hset.keep (fun b hb h => ks.blk b hb (by show b ≠ gr; omega))).more (fun _ _ _ => trivial)
            have hcs : CellsAt ws gr 0 (csp.set (j * 2) (.int .i64 less)) := by
              have h := CellsAt.blk hbs
              rw [List.nil_append, Nat.zero_add, Nat.add_zero, List.set_append_left _ _ (by omega)] at h
              exact h.app.1
            have hq : SlR tPr AnyB ws (some (ad gr 0)) (0 + m) (p.set j (less, x.2)) := SlR.of_cells (by rw [List.length_set]; omega) (by omega) trivial hcs hset'
            refine call_of (c_Best (hlA.ext (x0t.trans xts)) hq (hT.ext (x0t.trans xts))) ?_
            rintro _ wu ⟨csu, fu, rfl, hru, -, xu⟩
            obtain ⟨fu, rfl⟩ := tr_pos hru
            obtain ⟨A31, n31, c31, A41, n41, c41, rfl, -⟩ := tr_open hru
            refine alloc (fun g20 wx h20 => ?_)
            refine stA (vs := [_, _, _]) h20.blk rfl (Nat.le_of_ble_eq_true rfl) (by simp [Value.oneCell']) (fun wy hb20 k20 z20 => ?_)
            have e20 := h20.at_
            have xuy : Ext wu wy := h20.ext.then k20 (fun b hb _ e => by omega)
            have hs0 := best_code (check_set hc hx (by omega) (by omega : less ≤ x.1))
            have hsle := best_set hc hx (by omega) (by omega : less ≤ x.1)
            refine cE (fun _ => ?_) (fun h => absurd hs0 h)
            refine cDT (by omega) ?_
            exact ret1 (.bool true) rfl (done _ ((x1a.trans xt).trans (xts.trans (xu.trans xuy))))
        · refine alloc (fun g15 v2 h15 => ?_)
          have bv2 : Blk v2 g15 29 [.int .i64 0, .slice none 0 0, .slice none 0 0] := h15.blk
          have e15 : wa.heap.size ≤ g15 := by have := h15.at_; have := (xv1).size; omega
          have xv2 := xv1.trans h15.ext
          have ov2 := ov1.then h15.ext
          refine strS trivial ?_
          refine appF ov2 (s1.ext xv2) (by omega) (fun A1' c1' v3 ov3 kv3 _ => ?_) (h1 := hone1)
          have xv3 := ov3.ext
          have bv3 := bv2.kept kv3 (ov2.ne' bv2 rfl)
          refine strS trivial ?_
          refine appF ov3 (s2.ext xv3) (by omega) (fun A2' c2' v4 ov4 kv4 _ => ?_) (h1 := hone2)
          have xv4 := ov4.ext
          have bv4 := bv3.kept kv4 (ov3.ne' bv3 rfl)
          refine strS trivial ?_
          have hrv5 : SlR tInts AnyB v4 _ _ (l.eraseIdx k) := he ▸ Own.rd (a := tInts) (D := AnyB) ov4.own (((f1.more fun _ _ _ => trivial).ext xv4).app ((f2.more fun _ _ _ => trivial).ext xv4)) (by rw [he, List.length_eraseIdx_of_lt (by omega)]; omega) (by omega) (fun _ _ => trivial)
          refine call_of (c_Best hrv5 (hpA.ext (x0a.trans xv4)) (hT.ext (x0a.trans xv4))) ?_
          rintro _ v5 ⟨csb, fb, rfl, hrb, -, yv5⟩
          obtain ⟨fb, rfl⟩ := tr_pos hrb
          obtain ⟨A30, n30, c30, A40, n40, c40, rfl, -⟩ := tr_open hrb
          have xv5 := xv4.trans yv5
          have bv5 := bv4.ext yv5
          refine strS trivial ?_
          refine stA (vs := [_, _, _]) bv5 rfl (Nat.le_of_ble_eq_true rfl) (by simp [Value.oneCell']) (fun wt hb17 k17 z17 => ?_)
          have xt : Ext wa wt := xv5.then k17 (fun b hb _ e => by omega)
          refine strS trivial ?_
          refine cN (fun h => absurd hB0 h) (fun _ => ?_)
          refine cDF (by omega) ?_
          refine len ?_
          refine cE (fun _ => ?_) (fun hm0 => ?_)
          · exact ret1 (.bool true) rfl (done _ (x1a.trans xt))
          have x0t := x1.trans (x1a.trans xt)
          have hpt : SlR tPr (fun b => b < wt.heap.size) wt A' m p := (hp.ext x0t).more (by decide) (fun b hb _ => hb)
          obtain ⟨csp, fp, sp⟩ := hpt.src
          refine lit [] (fun gq wq hbq => ?_)
          have xq := hbq.ext
          refine appF (OwnF.lit (cs := []) (.refl _ wt) hbq rfl) (sp.ext xq) (by omega) (fun Aq cq wr oq _ _ => ?_) (h1 := flat_pr_one fp)
          have hqform := oq.form
          obtain ⟨gr, rfl, hgr, hgr2, _⟩ : ∃ g, Aq = some (ad g 0) ∧ wt.heap.size ≤ g ∧ g < wr.heap.size ∧ 0 + m ≤ cq := by
            rcases hqform with ⟨_, h, _⟩ | h
            · omega
            · exact h
          obtain ⟨rest, hblk, hlenr, _⟩ := oq.own.blk
          have fpr := fp.ext oq.ext
          refine convI (by omega) ?_
          refine len ?_
          refine remI (by omega) (by omega) ?_
          obtain ⟨j, hj⟩ : ∃ j : Nat, q2 % ((0 + m : Nat) : Int) = (j : Int) := ⟨(q2 % ((0 + m : Nat) : Int)).toNat, by have := Int.emod_nonneg q2 (show ((0 + m : Nat) : Int) ≠ 0 by omega); omega⟩
          have hjm : j < m := by have := Int.emod_lt_of_pos q2 (show (0 : Int) < ((0 + m : Nat) : Int) by omega); omega
          rw [hj]
          obtain ⟨x, hx⟩ : ∃ x, p[j]? = some x := ⟨_, List.getElem?_eq_getElem (by omega)⟩
          obtain ⟨hcell, hset⟩ := flat_pr_set hless fpr hx
          have hcsl : csp.length = m * 2 := by have := fpr.len; rw [this, ← hpl]; rfl
          have hcell' : (([] ++ csp) ++ rest)[j * 2]? = some (.int .i64 x.1) := by rw [List.nil_append, List.getElem?_append_left (by omega)]; exact hcell
          refine cD (fun _ => ?_) (fun hl1 => ?_)
          · exact ret1 (.bool true) rfl (done _ ((x1a.trans xt).trans oq.ext))
          refine idx j rfl (by omega) ?_
          refine fldA ?_
          refine ld (.int .i64 x.1) (hblk.cell (by rw [Nat.zero_add, Nat.add_zero]; exact hcell')) ?_
          refine cD (fun _ => ?_) (fun hl2 => ?_)
          · exact ret1 (.bool true) rfl (done _ ((x1a.trans xt).trans oq.ext))
          refine idx j rfl (by omega) ?_
          refine fldA ?_
          refine st hblk (by rw [List.nil_append, List.length_append]; omega) rfl (fun ws hbs ks zs => ?_)
          have xts : Ext wt ws := oq.ext.then ks (fun b hb _ e => by omega)
          have hset' : FlatR tPr AnyB ws (p.set j (less, x.2)) (csp.set (j * 2) (.int .i64 less)) := (hset.keep (fun b hb h => ks.blk b hb (by show b ≠ gr; omega))).more (fun _ _ _ => trivial)
          have hcs : CellsAt ws gr 0 (csp.set (j * 2) (.int .i64 less)) := by
            have h := CellsAt.blk hbs
            rw [List.nil_append, Nat.zero_add, Nat.add_zero, List.set_append_left _ _ (by omega)] at h
            exact h.app.1
          have hq : SlR tPr AnyB ws (some (ad gr 0)) (0 + m) (p.set j (less, x.2)) := SlR.of_cells (by rw [List.length_set]; omega) (by omega) trivial hcs hset'
          refine call_of (c_Best (hlA.ext (x0t.trans xts)) hq (hT.ext (x0t.trans xts))) ?_
          rintro _ wu ⟨csu, fu, rfl, hru, -, xu⟩
          obtain ⟨fu, rfl⟩ := tr_pos hru
          obtain ⟨A31, n31, c31, A41, n41, c41, rfl, -⟩ := tr_open hru
          refine alloc (fun g20 wx h20 => ?_)
          refine stA (vs := [_, _, _]) h20.blk rfl (Nat.le_of_ble_eq_true rfl) (by simp [Value.oneCell']) (fun wy hb20 k20 z20 => ?_)
          have e20 := h20.at_
          have xuy : Ext wu wy := h20.ext.then k20 (fun b hb _ e => by omega)
          have hs0 := best_code (check_set hc hx (by omega) (by omega : less ≤ x.1))
          have hsle := best_set hc hx (by omega) (by omega : less ≤ x.1)
          refine cE (fun _ => ?_) (fun h => absurd hs0 h)
          refine cDT (by omega) ?_
          exact ret1 (.bool true) rfl (done _ ((x1a.trans xt).trans (xts.trans (xu.trans xuy))))
      · refine alloc (fun g15 v1 h15 => ?_)
        have bv1 : Blk v1 g15 29 [.int .i64 0, .slice none 0 0, .slice none 0 0] := h15.blk
        have e15 : wa.heap.size ≤ g15 := by have := h15.at_; have := (xa).size; omega
        have xv1 := xa.trans h15.ext
        refine strS trivial ?_
        refine lit [] (fun g0 v2 h0 => ?_)
        have xv2 := xv1.trans h0.ext
        have ov2 : OwnF wa v2 (some (ad g0 0)) 0 0 26 1 [] := OwnF.lit (cs := []) xv1 h0 rfl
        have bv2 := bv1.ext h0.ext
        refine strS trivial ?_
        refine appF ov2 (s1.ext xv2) (by omega) (fun A1' c1' v3 ov3 kv3 _ => ?_) (h1 := hone1)
        have xv3 := ov3.ext
        have bv3 := bv2.kept kv3 (ov2.ne' bv2 rfl)
        refine strS trivial ?_
        refine appF ov3 (s2.ext xv3) (by omega) (fun A2' c2' v4 ov4 kv4 _ => ?_) (h1 := hone2)
        have xv4 := ov4.ext
        have bv4 := bv3.kept kv4 (ov3.ne' bv3 rfl)
        refine strS trivial ?_
        have hrv5 : SlR tInts AnyB v4 _ _ (l.eraseIdx k) := he ▸ Own.rd (a := tInts) (D := AnyB) ov4.own (((f1.more fun _ _ _ => trivial).ext xv4).app ((f2.more fun _ _ _ => trivial).ext xv4)) (by rw [he, List.length_eraseIdx_of_lt (by omega)]; omega) (by omega) (fun _ _ => trivial)
        refine call_of (c_Best hrv5 (hpA.ext (x0a.trans xv4)) (hT.ext (x0a.trans xv4))) ?_
        rintro _ v5 ⟨csb, fb, rfl, hrb, -, yv5⟩
        obtain ⟨fb, rfl⟩ := tr_pos hrb
        obtain ⟨A30, n30, c30, A40, n40, c40, rfl, -⟩ := tr_open hrb
        have xv5 := xv4.trans yv5
        have bv5 := bv4.ext yv5
        refine strS trivial ?_
        refine stA (vs := [_, _, _]) bv5 rfl (Nat.le_of_ble_eq_true rfl) (by simp [Value.oneCell']) (fun wt hb17 k17 z17 => ?_)
        have xt : Ext wa wt := xv5.then k17 (fun b hb _ e => by omega)
        refine strS trivial ?_
        refine cN (fun h => absurd hB0 h) (fun _ => ?_)
        refine cDF (by omega) ?_
        refine len ?_
        refine cE (fun _ => ?_) (fun hm0 => ?_)
        · exact ret1 (.bool true) rfl (done _ (x1a.trans xt))
        have x0t := x1.trans (x1a.trans xt)
        have hpt : SlR tPr (fun b => b < wt.heap.size) wt A' m p := (hp.ext x0t).more (by decide) (fun b hb _ => hb)
        obtain ⟨csp, fp, sp⟩ := hpt.src
        refine lit [] (fun gq wq hbq => ?_)
        have xq := hbq.ext
        refine appF (OwnF.lit (cs := []) (.refl _ wt) hbq rfl) (sp.ext xq) (by omega) (fun Aq cq wr oq _ _ => ?_) (h1 := flat_pr_one fp)
        have hqform := oq.form
        obtain ⟨gr, rfl, hgr, hgr2, _⟩ : ∃ g, Aq = some (ad g 0) ∧ wt.heap.size ≤ g ∧ g < wr.heap.size ∧ 0 + m ≤ cq := by
          rcases hqform with ⟨_, h, _⟩ | h
          · omega
          · exact h
        obtain ⟨rest, hblk, hlenr, _⟩ := oq.own.blk
        have fpr := fp.ext oq.ext
        refine convI (by omega) ?_
        refine len ?_
        refine remI (by omega) (by omega) ?_
        obtain ⟨j, hj⟩ : ∃ j : Nat, q2 % ((0 + m : Nat) : Int) = (j : Int) := ⟨(q2 % ((0 + m : Nat) : Int)).toNat, by have := Int.emod_nonneg q2 (show ((0 + m : Nat) : Int) ≠ 0 by omega); omega⟩
        have hjm : j < m := by have := Int.emod_lt_of_pos q2 (show (0 : Int) < ((0 + m : Nat) : Int) by omega); omega
        rw [hj]
        obtain ⟨x, hx⟩ : ∃ x, p[j]? = some x := ⟨_, List.getElem?_eq_getElem (by omega)⟩
        obtain ⟨hcell, hset⟩ := flat_pr_set hless fpr hx
        have hcsl : csp.length = m * 2 := by have := fpr.len; rw [this, ← hpl]; rfl
        have hcell' : (([] ++ csp) ++ rest)[j * 2]? = some (.int .i64 x.1) := by rw [List.nil_append, List.getElem?_append_left (by omega)]; exact hcell
        refine cD (fun _ => ?_) (fun hl1 => ?_)
        · exact ret1 (.bool true) rfl (done _ ((x1a.trans xt).trans oq.ext))
        refine idx j rfl (by omega) ?_
        refine fldA ?_
        refine ld (.int .i64 x.1) (hblk.cell (by rw [Nat.zero_add, Nat.add_zero]; exact hcell')) ?_
        refine cD (fun _ => ?_) (fun hl2 => ?_)
        · exact ret1 (.bool true) rfl (done _ ((x1a.trans xt).trans oq.ext))
        refine idx j rfl (by omega) ?_
        refine fldA ?_
        refine st hblk (by rw [List.nil_append, List.length_append]; omega) rfl (fun ws hbs ks zs => ?_)
        have xts : Ext wt ws := oq.ext.then ks (fun b hb _ e => by omega)
        have hset' : FlatR tPr AnyB ws (p.set j (less, x.2)) (csp.set (j * 2) (.int .i64 less)) := (hset.keep (fun b hb h => ks.blk b hb (by show b ≠ gr; omega))).more (fun _ _ _ => trivial)
        have hcs : CellsAt ws gr 0 (csp.set (j * 2) (.int .i64 less)) := by
          have h := CellsAt.blk hbs
          rw [List.nil_append, Nat.zero_add, Nat.add_zero, List.set_append_left _ _ (by omega)] at h
          exact h.app.1
        have hq : SlR tPr AnyB ws (some (ad gr 0)) (0 + m) (p.set j (less, x.2)) := SlR.of_cells (by rw [List.length_set]; omega) (by omega) trivial hcs hset'
        refine call_of (c_Best (hlA.ext (x0t.trans xts)) hq (hT.ext (x0t.trans xts))) ?_
        rintro _ wu ⟨csu, fu, rfl, hru, -, xu⟩
        obtain ⟨fu, rfl⟩ := tr_pos hru
        obtain ⟨A31, n31, c31, A41, n41, c41, rfl, -⟩ := tr_open hru
        refine alloc (fun g20 wx h20 => ?_)
        refine stA (vs := [_, _, _]) h20.blk rfl (Nat.le_of_ble_eq_true rfl) (by simp [Value.oneCell']) (fun wy hb20 k20 z20 => ?_)
        have e20 := h20.at_
        have xuy : Ext wu wy := h20.ext.then k20 (fun b hb _ e => by omega)
        have hs0 := best_code (check_set hc hx (by omega) (by omega : less ≤ x.1))
        have hsle := best_set hc hx (by omega) (by omega : less ≤ x.1)
        refine cE (fun _ => ?_) (fun h => absurd hs0 h)
        refine cDT (by omega) ?_
        exact ret1 (.bool true) rfl (done _ ((x1a.trans xt).trans (xts.trans (xu.trans xuy))))
    · refine len ?_
      refine cE (fun _ => ?_) (fun hm0 => ?_)
      · exact ret1 (.bool true) rfl (done _ x1a)
      have x0t := x1.trans x1a
      have hpt : SlR tPr (fun b => b < wa.heap.size) wa A' m p := (hp.ext x0t).more (by decide) (fun b hb _ => hb)
      obtain ⟨csp, fp, sp⟩ := hpt.src
      refine lit [] (fun gq wq hbq => ?_)
      have xq := hbq.ext
      refine appF (OwnF.lit (cs := []) (.refl _ wa) hbq rfl) (sp.ext xq) (by omega) (fun Aq cq wr oq _ _ => ?_) (h1 := flat_pr_one fp)
      have hqform := oq.form
      obtain ⟨gr, rfl, hgr, hgr2, _⟩ : ∃ g, Aq = some (ad g 0) ∧ wa.heap.size ≤ g ∧ g < wr.heap.size ∧ 0 + m ≤ cq := by
        rcases hqform with ⟨_, h, _⟩ | h
        · omega
        · exact h
      obtain ⟨rest, hblk, hlenr, _⟩ := oq.own.blk
      have fpr := fp.ext oq.ext
      refine convI (by omega) ?_
      refine len ?_
      refine remI (by omega) (by omega) ?_
      obtain ⟨j, hj⟩ : ∃ j : Nat, q2 % ((0 + m : Nat) : Int) = (j : Int) := ⟨(q2 % ((0 + m : Nat) : Int)).toNat, by have := Int.emod_nonneg q2 (show ((0 + m : Nat) : Int) ≠ 0 by omega); omega⟩
      have hjm : j < m := by have := Int.emod_lt_of_pos q2 (show (0 : Int) < ((0 + m : Nat) : Int) by omega); omega
      rw [hj]
      obtain ⟨x, hx⟩ : ∃ x, p[j]? = some x := ⟨_, List.getElem?_eq_getElem (by omega)⟩
      obtain ⟨hcell, hset⟩ := flat_pr_set hless fpr hx
      have hcsl : csp.length = m * 2 := by have := fpr.len; rw [this, ← hpl]; rfl
      have hcell' : (([] ++ csp) ++ rest)[j * 2]? = some (.int .i64 x.1) := by rw [List.nil_append, List.getElem?_append_left (by omega)]; exact hcell
      refine cD (fun _ => ?_) (fun hl1 => ?_)
      · exact ret1 (.bool true) rfl (done _ (x1a.trans oq.ext))
      refine idx j rfl (by omega) ?_
      refine fldA ?_
      refine ld (.int .i64 x.1) (hblk.cell (by rw [Nat.zero_add, Nat.add_zero]; exact hcell')) ?_
      refine cD (fun _ => ?_) (fun hl2 => ?_)
      · exact ret1 (.bool true) rfl (done _ (x1a.trans oq.ext))
      refine idx j rfl (by omega) ?_
      refine fldA ?_
      refine st hblk (by rw [List.nil_append, List.length_append]; omega) rfl (fun ws hbs ks zs => ?_)
      have xts : Ext wa ws := oq.ext.then ks (fun b hb _ e => by omega)
      have hset' : FlatR tPr AnyB ws (p.set j (less, x.2)) (csp.set (j * 2) (.int .i64 less)) := (hset.keep (fun b hb h => ks.blk b hb (by show b ≠ gr; omega))).more (fun _ _ _ => trivial)
      have hcs : CellsAt ws gr 0 (csp.set (j * 2) (.int .i64 less)) := by
        have h := CellsAt.blk hbs
        rw [List.nil_append, Nat.zero_add, Nat.add_zero, List.set_append_left _ _ (by omega)] at h
        exact h.app.1
      have hq : SlR tPr AnyB ws (some (ad gr 0)) (0 + m) (p.set j (less, x.2)) := SlR.of_cells (by rw [List.length_set]; omega) (by omega) trivial hcs hset'
      refine call_of (c_Best (hlA.ext (x0t.trans xts)) hq (hT.ext (x0t.trans xts))) ?_
      rintro _ wu ⟨csu, fu, rfl, hru, -, xu⟩
      obtain ⟨fu, rfl⟩ := tr_pos hru
      obtain ⟨A31, n31, c31, A41, n41, c41, rfl, -⟩ := tr_open hru
      refine alloc (fun g20 wx h20 => ?_)
      refine stA (vs := [_, _, _]) h20.blk rfl (Nat.le_of_ble_eq_true rfl) (by simp [Value.oneCell']) (fun wy hb20 k20 z20 => ?_)
      have e20 := h20.at_
      have xuy : Ext wu wy := h20.ext.then k20 (fun b hb _ e => by omega)
      have hs0 := best_code (check_set hc hx (by omega) (by omega : less ≤ x.1))
      have hsle := best_set hc hx (by omega) (by omega : less ≤ x.1)
      refine cE (fun _ => ?_) (fun h => absurd hs0 h)
      refine cDT (by omega) ?_
      exact ret1 (.bool true) rfl (done _ (x1a.trans (xts.trans (xu.trans xuy))))
  · exact ret1 (.bool true) rfl (done _ (.refl _ _))
end
end Go.Proofs.YtpmmhcgghldaaaaDoor
