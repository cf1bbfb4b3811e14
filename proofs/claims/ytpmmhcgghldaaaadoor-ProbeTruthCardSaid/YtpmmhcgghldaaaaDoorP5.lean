/- Contracts: the costs of all sets of hypotheses. -/
import Derived.Test.YtpmmhcgghldaaaaDoorP4
namespace Go.Proofs.YtpmmhcgghldaaaaDoor
open Go Go.RowKit

theorem rstep_eq {l : List (List Int)} {c : Nat → Int} {set one : Nat} {acc : Int × Bool} {x : Int × List Int} (h : bitsL (partL l x (mem set l.length) true) = one) :
    rstep l c set acc x = if one = 0 ∨ one = set then acc else if acc.2 = false ∨ x.1 + max (c one) (c (set - one)) < acc.1 then (x.1 + max (c one) (c (set - one)), true) else acc := by
  unfold rstep; rw [h]
def tabOk (t : List Int) : Prop := ∀ (k : Nat) (v : Int), t[k]? = some v → 0 ≤ v ∧ v ≤ k * 1048576
def prOk (p : List (Int × List Int)) : Prop := ∀ x ∈ p, 1 ≤ x.1 ∧ x.1 ≤ 1048576

section
variable {D D' : Nat → Prop} {w : World} {A A' A2 : Option Addr} {n m k c d e : Nat}

theorem c_rCosts {l : List (List Int)} {p : List (Int × List Int)} (hl : SlR tInts D w A n l) (hp : SlR tPr D w A' m p) (hN : n ≤ 12) (hm : m ≤ 1000) (hok : prOk p) :
    CallZ Tryd.prog 29 #[.slice A n c, .slice A' m d] w (fun v w' => tabOk (rtab l p (2 ^ n)) ∧ Ext w w' ∧ ∃ A k c, v = .slice A k c ∧ k ≤ c ∧ SlR tInt (fun b => w.heap.size ≤ b) w' A k (rtab l p (2 ^ n))) := by
  have hll := hl.1
  have hpl := hp.1
  have hpow : 2 ^ n ≤ 4096 := show 2 ^ n ≤ 2 ^ 12 from Nat.pow_le_pow_right (by omega) hN
  refine fn_rule (args := [.slice A n c, .slice A' m d]) Tryd.func29 (by kernel_rfl) ?_
  refine lit [] (fun g w1 hb => ?_)
  refine loop4 (fun (s : Nat) (A : Option Addr) (n c : Nat) => [(6, .int .i64 s), (5, .slice A n c)])
    (fun s A' n' c' w' => s ≤ 2 ^ n ∧ n' = s ∧ tabOk (rtab l p s) ∧ OwnF w w' A' n' c' 3 1 ((rtab l p s).map fun v => .int .i64 v)) (fun s _ _ _ _ => 2 ^ n - s) 0 (some (ad g 0)) 0 0 ⟨rfl, rfl, trivial⟩
    ⟨Nat.zero_le _, rfl, fun k v h => by simp [rtab] at h, OwnF.lit (cs := []) (.refl _ _) hb rfl⟩ rfl ?_
  rintro G s A5 n5 c5 w2 ⟨hs, rfl, htab, hown⟩
  refine len ?_
  refine shl1 (fun q hq _ => ?_)
  rw [Int.toNat_natCast] at hq
  rw [← hq] at hs hpow ⊢
  refine cD (fun hlt => ?_) (fun hge => ?_)
  · have hlt : n5 < q := by omega
    have hsl : n5 < 2 ^ l.length := by rw [← hll, ← hq]; exact hlt
    refine len ?_
    refine call_of (c_members (s := n5) (N := n) (by omega) (by omega)) ?_
    rintro _ w3 ⟨hx3, A7, n7, c7, rfl, -, hmem⟩
    have hown3 := hown.then hx3
    have htl := rtab_len l p n5
    have hm7 : n7 ≤ 12 := by have := hmem.1; have := mem_len n5 n; omega
    generalize hcf : (fun k => (rtab l p n5).getD k 0) = cf
    refine loop3 (fun (k : Nat) (best : Int) (f : Bool) => [(10, .int .i64 k), (8, .int .i64 best), (9, .bool f)])
      (fun k best f w' => k ≤ m ∧ Ext w3 w' ∧ rcost l p cf n5 = (p.drop k).foldl (rstep l cf n5) (best, f) ∧ 0 ≤ best ∧ best ≤ n5 * 1048576) (fun k _ _ _ => m - k) 0 0 false ⟨rfl, rfl, rfl, trivial⟩
      ⟨by omega, .refl _ _, rfl, by omega, by omega⟩ rfl ?_
    rintro G k best f w4 ⟨hk, hx4, he, hb0, hb1⟩
    have hw4 := hown3.ext.trans hx4
    refine len ?_
    refine cD (fun hlt2 => ?_) (fun hge2 => ?_)
    · have hlt2 : k < m := by omega
      obtain ⟨b, o, cs, x, rfl, hx, hdx, hbB, hc, hr⟩ := (hp.ext hw4).at_ hlt2
      have hxok := hok x (List.mem_of_getElem? hx)
      rw [hdx, List.foldl_cons] at he
      refine idx k rfl hlt2 ?_
      refine ldA cs hc (tPr.len hr) ?_
      have hmem4 : SlR tNat _ w4 A7 n7 (mem n5 n) := hmem.ext hx4
      refine call_of (c_rPart (som := true) (hl.ext hw4) hr hmem4 (fun i hi => mem_lt hi) (by omega)) ?_
      rintro _ w5 ⟨hx5, A9, n9, c9, rfl, -, hpart⟩
      have hsub : ∀ i ∈ partL l x (mem n5 n) true, i < n := fun i hi => mem_lt (partL_sub i hi)
      have hpl9 : n9 ≤ 12 := by have := hpart.1; have := partL_le (l := l) (x := x) (list := mem n5 n) (som := true); have := hmem.1; omega
      refine call_of (c_bits hpart (fun i hi => by have := hsub i hi; omega) (by omega)) ?_
      rintro _ w6 ⟨rfl, rfl⟩
      have hone : bitsL (partL l x (mem n5 l.length) true) = bitsL (partL l x (mem n5 n) true) := by rw [hll]
      generalize bitsL (partL l x (mem n5 n) true) = one at hone ⊢
      have hle1 := part_bits_le (x := x) hsl
      rw [hone] at hle1
      have hstep := rstep_eq (c := cf) (acc := (best, f)) hone
      refine cE (fun h1 => ?_) (fun h1 => ?_)
      · refine arI (by omega) ?_
        refine next3 (k + 1) best f ⟨rfl, rfl, rfl, trivial⟩ ⟨by omega, hx4.trans hx5, ?_, hb0, hb1⟩ (by omega)
        rw [he, hstep, if_pos (by omega)]
      refine cE (fun h2 => ?_) (fun h2 => ?_)
      · refine arI (by omega) ?_
        refine next3 (k + 1) best f ⟨rfl, rfl, rfl, trivial⟩ ⟨by omega, hx4.trans hx5, ?_, hb0, hb1⟩ (by omega)
        rw [he, hstep, if_pos (by omega)]
      rw [if_neg (by omega)] at hstep
      have hx45 := hx4.trans hx5
      obtain ⟨Ax, nx, cx, rfl, hxi, hxs, -⟩ := pr_open hr
      have hc6 := hc.kept hx5 trivial
      have hcs : SlR tInt (fun _ => True) w6 A5 n5 (rtab l p n5) := (hown3.then hx45).ints (fun v hv => by
        obtain ⟨k, hk⟩ := List.getElem?_of_mem hv
        have := htab k v hk
        have := (List.getElem?_eq_some_iff.1 hk).1
        unfold I64; omega) (by omega) (fun _ _ => trivial)
      obtain ⟨b1, o1, _, v1, rfl, hv1, -, -, hc1, rfl, -⟩ := hcs.at_ (k := one) (by omega)
      obtain ⟨b2, o2, _, v2, e2, hv2, -, -, hc2, rfl, -⟩ := hcs.at_ (k := n5 - one) (by omega)
      simp only [Option.some.injEq, Addr.mk.injEq] at e2
      obtain ⟨rfl, rfl, _⟩ := e2
      have hcf1 : cf one = v1 := by rw [← hcf]; simp [hv1]
      have hcf2 : cf (n5 - one) = v2 := by rw [← hcf]; simp [hv2]
      rw [hcf1, hcf2] at hstep
      have ht1 := htab _ _ hv1
      have ht2 := htab _ _ hv2
      refine drawQ mx (by kernel_rfl) ?_
      refine idx k rfl hlt2 ?_
      refine fldA ?_
      refine ld _ (hc6 0 _ rfl) ?_
      refine idx one rfl (by omega) ?_
      refine ld _ (hc1 0 _ rfl) ?_
      refine arI (by omega) ?_
      refine idx (n5 - one) (by omega) (by omega) ?_
      refine ld _ (hc2 0 _ rfl) ?_
      refine arI (by omega) ?_
      have hnb : 0 ≤ x.1 + max v1 v2 ∧ x.1 + max v1 v2 ≤ n5 * 1048576 := by omega
      cases f with
      | false =>
        refine arI (by omega) ?_
        refine next3 (k + 1) (x.1 + max v1 v2) true ⟨rfl, rfl, rfl, trivial⟩ ⟨by omega, hx45, ?_, hnb.1, hnb.2⟩ (by omega)
        rw [he, hstep, if_pos (.inl rfl)]
      | true =>
        refine cD (fun h3 => ?_) (fun h3 => ?_)
        · refine arI (by omega) ?_
          refine next3 (k + 1) (x.1 + max v1 v2) true ⟨rfl, rfl, rfl, trivial⟩ ⟨by omega, hx45, ?_, hnb.1, hnb.2⟩ (by omega)
          rw [he, hstep, if_pos (.inr h3)]
        · refine arI (by omega) ?_
          refine next3 (k + 1) best true ⟨rfl, rfl, rfl, trivial⟩ ⟨by omega, hx45, ?_, hb0, hb1⟩ (by omega)
          rw [he, hstep, if_neg (by rintro (h | h); cases h; exact h3 h)]
    · refine lit [.int .i64 best] (fun g6 w6 hb6 => ?_)
      refine appF ((hown3.then hx4).then hb6.ext) (hb6.src (sz := 1) rfl) (by omega) (fun A' c' w7 ho7 _ _ => ?_)
      refine arI (by omega) ?_
      have hfin : (rcost l p cf n5).1 = best := by rw [he, drop_end (by rw [hp.len]; omega)]; rfl
      have hnew : rtab l p (n5 + 1) = rtab l p n5 ++ [best] := by rw [rtab, hcf, hfin]
      refine next4 (n5 + 1) A' (n5 + 1) c' ⟨rfl, rfl, trivial⟩ ⟨by omega, rfl, ?_, ?_⟩ (by omega)
      · rw [hnew]
        intro k v hkv
        by_cases hlt3 : k < n5
        · rw [List.getElem?_append_left (by omega)] at hkv; exact htab k v hkv
        · rw [List.getElem?_append_right (by omega)] at hkv
          have : k = n5 := by
            have := (List.getElem?_eq_some_iff.1 hkv).1; simp at this; omega
          subst this
          simp [htl] at hkv; subst hkv; exact ⟨hb0, hb1⟩
      · rw [hnew, List.map_append]; exact ho7
  · have hq2 : n5 = q := by omega
    subst hq2
    refine ret1 (.slice A5 n5 c5) rfl ⟨htab, hown.ext, A5, n5, c5, rfl, hown.le, ?_⟩
    refine hown.ints (fun v hv => ?_) (by omega) (fun _ h => h)
    obtain ⟨k, hk⟩ := List.getElem?_of_mem hv
    have := htab k v hk
    have := (List.getElem?_eq_some_iff.1 hk).1
    have htl := rtab_len l p n5
    unfold I64; omega
end
end Go.Proofs.YtpmmhcgghldaaaaDoor
