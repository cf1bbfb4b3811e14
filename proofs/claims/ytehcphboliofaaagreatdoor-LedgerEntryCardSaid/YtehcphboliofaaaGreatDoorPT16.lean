/- Parts of the proof: Ml Mm. -/
import Derived.Test.YtehcphboliofaaaGreatDoorPT15
import Derived.Test.YtehcphboliofaaaGreatDoorPT8

/- Law 56: what LedgerEntry says, plainly. -/
namespace Go.Proofs.YtehcphboliofaaaGreatDoor
open Go Go.RowKit Classical

/-- The accounts that have come of a map's entries. -/
def RX (L : List MapEntry) (seen : List Nat) (xs : List Int) : Prop := xs.Nodup ∧ ∀ a, a ∈ xs ↔ ∃ e ∈ L, e.born ∈ seen ∧ e.key = kvI a
theorem RX.nil {L : List MapEntry} : RX L [] [] := ⟨.nil, fun a => ⟨fun h => (by cases h), fun ⟨_, _, h, _⟩ => (by cases h)⟩⟩
theorem RX.snoc {L : List MapEntry} {seen : List Nat} {xs : List Int} {c : Nat} {e : MapEntry} {a : Int} (h : RX L seen xs) (hb : BornL L c) (hu : (L.map (·.key)).Nodup) (he : e ∈ L) (hns : e.born ∉ seen) (hk : e.key = kvI a) : RX L (seen ++ [e.born]) (xs ++ [a]) := by
  refine ⟨?_, fun b => ?_⟩
  · rw [List.nodup_append]
    refine ⟨h.1, by simp, fun x hx y hy => ?_⟩
    rw [List.mem_singleton] at hy
    subst hy
    rintro rfl
    obtain ⟨e1, he1, hs1, hk1⟩ := (h.2 x).1 hx
    have := key_injL hu he1 he (by rw [hk1, hk])
    subst this
    exact hns hs1
  · rw [List.mem_append, List.mem_singleton]
    constructor
    · rintro (hb' | rfl)
      · obtain ⟨e1, he1, hs1, hk1⟩ := (h.2 b).1 hb'
        exact ⟨e1, he1, List.mem_append_left _ hs1, hk1⟩
      · exact ⟨e, he, by simp, hk⟩
    · rintro ⟨e1, he1, hs1, hk1⟩
      rcases (old_L hb he he1).1 hs1 with h1 | rfl
      · exact .inl ((h.2 b).2 ⟨e1, he1, h1, hk1⟩)
      · rw [hk] at hk1
        injection hk1 with _ hk1
        exact .inr hk1.symm
/-- The accounts of a ledger. -/
def accM (l : List Post) (a : Int) : Prop := ∃ p ∈ l, p.frm = a ∨ p.to = a
noncomputable def accF (l : List Post) (a : Int) : Option Value := if accM l a then some (.bool true) else none
theorem accF_nil : accF [] = fun _ => none := funext fun a => by unfold accF; rw [if_neg]; rintro ⟨p, hp, -⟩; cases hp
theorem accF_snoc {l : List Post} {p : Post} : pset (pset (accF l) p.frm (.bool true)) p.to (.bool true) = accF (l ++ [p]) := funext fun a => by
  unfold pset accF
  have e : accM (l ++ [p]) a ↔ accM l a ∨ (p.frm = a ∨ p.to = a) := by
    unfold accM
    constructor
    · rintro ⟨q, hq, h⟩
      rcases List.mem_append.1 hq with hq | hq
      · exact .inl ⟨q, hq, h⟩
      · rw [List.mem_singleton] at hq; subst hq; exact .inr h
    · rintro (⟨q, hq, h⟩ | h)
      · exact ⟨q, List.mem_append_left _ hq, h⟩
      · exact ⟨p, by simp, h⟩
  by_cases h1 : a = p.to
  · rw [if_pos h1, if_pos (e.2 (.inr (.inr h1.symm)))]
  · rw [if_neg h1]
    by_cases h2 : a = p.frm
    · rw [if_pos h2, if_pos (e.2 (.inr (.inl h2.symm)))]
    · rw [if_neg h2]
      by_cases h3 : accM l a
      · rw [if_pos h3, if_pos (e.2 (.inl h3))]
      · rw [if_neg h3, if_neg (fun q => by rcases e.1 q with q | q | q; exact h3 q; exact h2 q.symm; exact h1 q.symm)]
theorem sum_oneI (t v : Int) : ∀ {l : List Int}, l.Nodup → (l.map fun k => if t = k then v else 0).sum = if t ∈ l then v else 0
  | [], _ => by simp
  | a :: l, h => by
    rw [List.nodup_cons] at h
    rw [List.map_cons, List.sum_cons, sum_oneI t v h.2]
    by_cases e : t = a
    · subst e
      rw [if_pos rfl, if_neg h.1, if_pos List.mem_cons_self]; omega
    · rw [if_neg e]
      by_cases q : t ∈ l
      · rw [if_pos q, if_pos (List.mem_cons_of_mem _ q)]; omega
      · rw [if_neg q, if_neg (fun r => by rcases List.mem_cons.1 r with r | r; exact e r; exact q r)]; omega
theorem sum_0I : ∀ xs : List Int, (xs.map fun _ => (0 : Int)).sum = 0
  | [] => rfl
  | a :: xs => by rw [List.map_cons, List.sum_cons, sum_0I xs]; rfl
/-- All balances of a sort add up to nothing. -/
theorem bal_zero {xs : List Int} (hn : xs.Nodup) (so : Int) : ∀ {l : List Post}, (∀ p ∈ l, p.frm ∈ xs ∧ p.to ∈ xs) → (xs.map fun a => balL l (so, a)).sum = 0
  | [], _ => by
    exact sum_0I xs
  | p :: l, h => by
    have ih := bal_zero hn so (l := l) fun q hq => h q (List.mem_cons_of_mem _ hq)
    obtain ⟨h1, h2⟩ := h p List.mem_cons_self
    have hadd : ∀ (f g : Int → Int) (ys : List Int), (ys.map fun a => f a + g a).sum = (ys.map f).sum + (ys.map g).sum := fun f g ys => by
      induction ys with
      | nil => rfl
      | cons a ys ih => rw [List.map_cons, List.sum_cons, ih, List.map_cons, List.sum_cons, List.map_cons, List.sum_cons]; omega
    have hsub : ∀ (f g : Int → Int) (ys : List Int), (ys.map fun a => f a - g a).sum = (ys.map f).sum - (ys.map g).sum := fun f g ys => by
      induction ys with
      | nil => rfl
      | cons a ys ih => rw [List.map_cons, List.sum_cons, ih, List.map_cons, List.sum_cons, List.map_cons, List.sum_cons]; omega
    have e : (fun a => balL (p :: l) (so, a)) = fun a => posD p (so, a) + balL l (so, a) := funext fun a => by unfold balL; rw [List.map_cons, List.sum_cons]
    rw [e, hadd, ih]
    by_cases hs : p.sort = so
    · have e2 : (fun a => posD p (so, a)) = fun a => (if p.to = a then p.n else 0) - (if p.frm = a then p.n else 0) := funext fun a => by
        unfold posD Post.ta Post.fa
        simp only [Prod.mk.injEq, hs, true_and]
      rw [e2, hsub, sum_oneI _ _ hn, sum_oneI _ _ hn, if_pos h1, if_pos h2]
      omega
    · have e2 : (fun a => posD p (so, a)) = fun a => (fun _ => (0 : Int)) a - (fun _ => (0 : Int)) a := funext fun a => by
        unfold posD Post.ta Post.fa
        simp only [Prod.mk.injEq, hs, false_and, if_false]
      rw [e2, hsub]
      omega
/-- .. and they are as many as Balances says. -/
theorem bal_many {l : List Post} {xs : List Int} (hn : xs.Nodup) (h1 : ∀ p ∈ l, P1 p) (hm : ∀ a, a ∈ xs ↔ accM l a) (so : Int) : (xs.filter fun a => decide (balL l (so, a) ≠ 0)).length = (balP l so 4096).length := by
  have hnf : (xs.filter fun a => decide (balL l (so, a) ≠ 0)).Nodup := hn.filter _
  have hnp : ((balP l so 4096).map (·.1)).Nodup := by
    have := balP_sort (l := l) (so := so) 4096
    have h2 : ((balP l so 4096).map (·.1)).Pairwise (· < ·) := List.pairwise_map.2 this
    exact h2.imp fun h e => by omega
  have hmem : ∀ a, a ∈ (xs.filter fun a => decide (balL l (so, a) ≠ 0)) ↔ a ∈ (balP l so 4096).map (·.1) := fun a => by
    rw [List.mem_filter, decide_eq_true_eq, List.mem_map]
    constructor
    · rintro ⟨ha, hb⟩
      obtain ⟨p, hp, h⟩ := (hm a).1 ha
      have q := h1 p hp
      have hr : 0 ≤ a ∧ a ≤ 4095 := by
        rcases h with rfl | rfl
        · exact q.frm
        · exact q.to
      exact ⟨(a, balL l (so, a)), balP_mem.2 ⟨⟨hr.1, by show a < ((4096 : Nat) : Int); omega⟩, rfl, hb⟩, rfl⟩
    · rintro ⟨x, hx, rfl⟩
      obtain ⟨-, h2, h3⟩ := balP_mem.1 hx
      rw [h2] at h3
      obtain ⟨p, hp, h⟩ := bal_who h3
      refine ⟨(hm _).2 ⟨p, hp, ?_⟩, h3⟩
      rcases h with h | h
      · left; have := congrArg Prod.snd h; exact this
      · right; have := congrArg Prod.snd h; exact this
  have a1 := nodup_leL hnf fun a ha => (hmem a).1 ha
  have a2 := nodup_leL hnp fun a ha => (hmem a).2 ha
  rw [List.length_map] at a1 a2
  omega
end Go.Proofs.YtehcphboliofaaaGreatDoor

/- Law 56: LedgerEntry. -/
namespace Go.Proofs.YtehcphboliofaaaGreatDoor
open Go Go.RowKit Classical

/-- What the map 'end' says of some pairs. -/
noncomputable def endV (l : List Post) (so : Int) (ps : List (Int × Int)) (a : Int) : Int := if a ∈ ps.map (·.1) then balL l (so, a) else 0
theorem sum_bI {f : Int → Int} {B : Int} : ∀ {xs : List Int}, (∀ a ∈ xs, -B ≤ f a ∧ f a ≤ B) → -(B * (xs.length : Int)) ≤ (xs.map f).sum ∧ (xs.map f).sum ≤ B * (xs.length : Int)
  | [], _ => by simp
  | a :: xs, h => by
    have h1 := h a List.mem_cons_self
    have h2 := sum_bI (xs := xs) fun b hb => h b (List.mem_cons_of_mem _ hb)
    rw [List.map_cons, List.sum_cons, List.length_cons, Int.natCast_add, Int.mul_add]
    have : B * ((1 : Nat) : Int) = B := Int.mul_one B
    omega
section
variable {D : Nat → Prop} {w : World} {l : List Post} {csl : List Value}
set_option maxRecDepth 8000 in
set_option maxHeartbeats 4000000 in
theorem c_LedgerEntry {hour : Int} (hN : NumW w) (hl : LedR D w csl l) (hh : 0 ≤ hour ∧ hour ≤ 65535) : CallZ Tryz.prog 6 #[.agg csl.toArray, .int .u16 hour] w (fun v w' => v = .bool true ∧ Ext w w') := by
  obtain ⟨A, n, c, rfl, hs, hnc⟩ := hl
  have hs := hs.more (D' := fun b => b < w.heap.size) (by decide) fun b hb _ => hb
  refine fn_rule (args := [.agg #[.slice A n c], .int .u16 hour]) Tryz.func6 (by kernel_rfl) ?_
  refine box (fun b2 w1 h1 => ?_)
  have L2 : Blk w1 b2 24 [.slice A n c] := h1.blk
  have at2 := h1.at_
  refine call_of (c_lsane (hN.ext h1.ext)) ?_
  rintro _ w3 ⟨rfl, x3⟩
  have x0 := h1.ext.trans x3
  have L2 := L2.ext x3
  refine ldA [.slice A n c] (.blk L2) rfl ?_
  refine callE (c_r56Few (hs.ext x0)) (fun w4 hfew x4 => ?_) (fun w4 _ x4 => ?_)
  rotate_left
  · exact ret1 (.bool true) rfl ⟨rfl, x0.trans x4⟩
  have x0 := x0.trans x4
  have L2 := L2.ext x4
  refine ldA [.slice A n c] (.blk L2) rfl ?_
  refine call_of (c_gCheck (hs.ext x0)) ?_
  rintro _ w5 ⟨rfl, x5⟩
  have x0 := x0.trans x5
  have L2 := L2.ext x5
  refine cN (fun _ => ?_) (fun hE => ?_)
  · exact ret1 (.bool true) rfl ⟨rfl, x0⟩
  have hE : ldgErr l = 0 := hE
  obtain ⟨h4096, hok⟩ := ldgErr_0.1 hE
  have h40 : l.length ≤ 40 := by
    unfold ledFew at hfew
    simp only [Bool.or_eq_true, Bool.and_eq_true, decide_eq_true_eq] at hfew
    omega
  have hln := hs.len
  refine mmap (fun g w6 hg hw6 => ?_)
  have x56 : Ext w5 w6 := by rw [hw6]; exact Kept.alloc _ _ _
  have M6 : MapU kvI w6 g (accF []) := by rw [hg, hw6, accF_nil]; exact MapU.new kvI w5
  have s56 := x56.size
  have lg6 := M6.g.lt
  clear hw6
  have x06 := x0.trans x56
  have L2 := L2.ext x56
  have s0 := x0.size
  have lL2 := L2.lt
  have hb2g : b2 ≠ g := by have := h1.ext.size; have := x3.size; have := x4.size; have := x5.size; have := h1.blk.lt; omega
  refine fldA ?_
  refine ld (.slice A n c) (L2.cell rfl) ?_
  refine len ?_
  refine loop_rule (fun k : Nat => [(36, iv (k : Int))]) (fun k u => k ≤ n ∧ Kept (fun b => b ≠ g) w6 u ∧ MapU kvI u g (accF (l.take k))) (fun k _ => n - k) 0 ⟨rfl, trivial⟩ ⟨by omega, .refl _ _, by rw [List.take_zero]; exact M6⟩ rfl ?_
  rintro G k u ⟨hk, ku, Mu⟩
  refine cD (fun hlt => ?_) (fun hge => ?_)
  · obtain ⟨bx, o, cs, p, rfl, hx, -, -, hc, hcs⟩ := ((hs.ext x06).kept ku fun b _ h => by omega).at_ (k := k) (by omega)
    have hcs : cs = p.c := hcs
    subst hcs
    refine idx k rfl (by omega) ?_
    refine ldA p.c hc rfl ?_
    refine alloc (fun b7 u1 h7 => ?_)
    refine stA (vs := p.c) h7.blk rfl (Nat.le_of_ble_eq_true rfl) (by simp [Value.oneCell']) (fun u2 B7 k7 _ => ?_)
    have B7 : Blk u2 b7 26 p.c := B7
    have at7 := h7.at_
    have su := ku.size
    have xu2 : Ext u u2 := h7.ext.then k7 fun i hi _ e => by omega
    have hb7 : b7 ≠ g := by omega
    refine drawP (.take 0 (.take 1 (.take 2 (.take 3 (.take 4 (.take 5 (.eff 6 (.bar (.eff 7 .done))))))))) [7] (fun y => Kept (fun b => b ≠ g) u2 y) mx (by kernel_rfl) (.refl _ _) ?_
    refine fldA ?_
    refine ldK (iv p.frm) (B7.cell rfl) hb7 (.refl _ _) ?_
    refine fldA ?_
    refine ldK (iv p.to) (B7.cell rfl) hb7 (.refl _ _) ?_
    refine mupdU (kv := kvI) (v := .bool true) p.frm (Mu.kept xu2 trivial) (fun u3 M3 q3 _ => ?_)
    refine strS q3 ?_
    refine barS (fun _ => True) trivial ?_
    refine mupdU (kv := kvI) (v := .bool true) p.to M3 (fun u4 M4 q4 _ => ?_)
    refine strS trivial ?_
    refine arI (n := (k : Int) + 1) (by omega) ?_
    rw [accF_snoc] at M4
    refine next (k + 1) ⟨by rw [Int.natCast_add]; rfl, trivial⟩ ⟨by omega, (ku.ext xu2).trans (q3.trans q4), ?_⟩ (by omega)
    rw [List.take_add_one, hx]
    exact M4
  rw [List.take_of_length_le (by omega)] at Mu
  obtain ⟨L, cL, EL, hU, hL⟩ := Mu
  have x0u : Ext w u := x06.then ku fun i hi _ => by omega
  have L2 := L2.kept ku hb2g
  have hsu : SlR tPost (fun b => b < w.heap.size) u A n l := (hs.ext x06).keep fun b hb h => ku.blk b hb (by omega)
  have hacc : ∀ a, accM l a ↔ ∃ e ∈ L, e.key = kvI a := fun a => by
    have h1 := hL a
    unfold accF at h1
    constructor
    · intro h
      rw [if_pos h] at h1
      obtain ⟨e, he, hk, -⟩ := look_has h1
      exact ⟨e, he, hk⟩
    · rintro ⟨e, he, hk⟩
      by_cases h : accM l a
      · exact h
      · rw [if_neg h] at h1
        have h2 := look_own hU he
        rw [hk] at h2
        rw [h1] at h2
        cases h2
  have hall : ∀ q ∈ l, P1 q := fun q hq => hok.p1 hq
  have hr0 : 0 ≤ hour % 4097 ∧ hour % 4097 ≤ 4096 := by omega
  obtain ⟨hr, hhr⟩ : ∃ hr, hr = hour % 4097 := ⟨_, rfl⟩
  rw [← hhr] at hr0
  have hrange : ∀ a, accM l a → 0 ≤ a ∧ a ≤ 4095 := fun a ⟨p, hp, h⟩ => by
    rcases h with rfl | rfl
    · exact (hall p hp).frm
    · exact (hall p hp).to
  have hH : ∀ a, balH l a 4096 = balL l a := fun a => balH_all fun q hq => (hall q hq).hour.2
  obtain ⟨kh, hkh1, hkh2, -⟩ := filter_take hok.hours hr
  have hBH : ∀ a : Acc, balH l a hr = balL (l.take kh) a := fun a => by unfold balH; rw [hkh2]
  have hbb : ∀ a : Acc, (-43980465111040 ≤ balH l a hr ∧ balH l a hr ≤ 1125899906842624) ∧ (a.2 ≠ 0 → 0 ≤ balH l a hr) := fun a => by
    have h1 := bal_b (hok.take kh) a
    have h2 : (l.take kh).length ≤ 40 := by rw [List.length_take]; omega
    rw [hBH]
    refine ⟨⟨by omega, h1.2.1⟩, h1.2.2⟩
  have hbE : ∀ (so a h : Int), (so = 1 ∨ so = 2) → 0 ≤ a ∧ a ≤ 4095 → 0 ≤ h ∧ h ≤ 4096 → balE l so a h = 0 := fun so a h hso ha hh => by
    unfold balE
    rw [if_neg (fun q => q hE), if_pos ⟨gwithin_iff.2 (by omega), gwithin_iff.2 ha, gwithin_iff.2 hh⟩]
  have su0 := ku.size
  have lgu := EL.g.lt
  refine lit [iv 1, iv 2] (fun q u1 hq => ?_)
  have Q1 : Blk u1 q 3 ([1, 2].map iv) := hq.blk
  have L2 := L2.ext hq.ext
  have EL := EL.kept hq.ext trivial
  have hsu := hsu.ext hq.ext
  have x0u := x0u.trans hq.ext
  refine len ?_
  refine loop_rule (fun i : Nat => [(49, iv (i : Int))]) (fun i v => i ≤ 2 ∧ Ext u1 v) (fun i _ => 2 - i) 0 ⟨rfl, trivial⟩ ⟨by omega, .refl _ _⟩ rfl ?_
  rintro G2 i v ⟨hi, xv⟩
  refine cD (fun hlt2 => ?_) (fun hge2 => ?_)
  rotate_left
  · exact ret1 (.bool true) rfl ⟨rfl, x0u.trans xv⟩
  obtain ⟨so, hso⟩ : ∃ so, ([1, 2] : List Int)[i]? = some so := ⟨_, List.getElem?_eq_getElem (show i < 2 by omega)⟩
  have hso12 : so = 1 ∨ so = 2 := by
    have := List.mem_of_getElem? hso
    simpa using this
  have hc2 : v.cell? (ad q (0 + i * 1)) = some (iv so) := by
    rw [Nat.zero_add, Nat.mul_one]
    exact (Q1.ext xv).cell (by rw [List.getElem?_map, hso]; rfl)
  refine idx i rfl (by show i < 2; omega) ?_
  refine ld (iv so) hc2 ?_
  refine mmap (fun ge v1 hge1 hv1 => ?_)
  have xv1 : Ext v v1 := by rw [hv1]; exact Kept.alloc _ _ _
  have E1 : MapG kvI v1 ge (fun _ => none) := by rw [hge1, hv1]; exact MapG.new kvI v
  clear hv1
  have lE1 := E1.lt
  have sv1 := xv1.size
  have sv := xv.size
  have xb := xv.trans xv1
  refine ldA [.slice A n c] (.blk (L2.ext xb)) rfl ?_
  refine call_of (c_gBalances (so := so) (hsu.ext xb)) ?_
  rintro _ v2 ⟨x12, C, m, cm, rfl, sC⟩
  have hsE : balsE l so = 0 := by unfold balsE; rw [if_neg (fun q => q hE), if_pos (gwithin_iff.2 (by omega))]
  rw [hsE, if_pos rfl] at sC
  rw [hsE]
  have s12 := x12.size
  have sC := sC.more (D' := fun b => b ≠ ge) (by decide) fun b _ h => by omega
  have hm := sC.len
  have hml := balP_len (l := l) (so := so) 4096
  have E2 := E1.kept x12 trivial
  have xb2 := xb.trans x12
  refine cN (fun h => absurd rfl h) (fun _ => ?_)
  refine len ?_
  refine loop_rule (fun j : Nat => [(64, iv (j : Int))]) (fun j y => j ≤ m ∧ Kept (fun b => b ≠ ge) v2 y ∧ ∃ fe, MapG kvI y ge fe ∧ ∀ a, (fe a).getD (iv 0) = iv (endV l so ((balP l so 4096).take j) a)) (fun j _ => m - j) 0 ⟨rfl, trivial⟩ ⟨by omega, .refl _ _, _, E2, fun a => by unfold endV; rw [List.take_zero, List.map_nil, if_neg (by simp)]; rfl⟩ rfl ?_
  rintro G3 j y ⟨hj, ky, fe, Ey, hfe⟩
  have sy := ky.size
  refine cD (fun hlt3 => ?_) (fun hge3 => ?_)
  · obtain ⟨bx, o, cs, x, hC, hx, -, hbx, hc, hcs⟩ := (sC.kept ky fun b _ h => h).at_ (k := j) (by omega)
    subst hC
    have hcs : cs = [iv x.1, iv x.2] := hcs
    subst hcs
    have hxm := balP_mem.1 (List.mem_of_getElem? hx)
    have hxn : x.2 ≠ 0 := hxm.2.2
    refine idx j rfl (by omega) ?_
    refine ldA [iv x.1, iv x.2] hc rfl ?_
    refine alloc (fun b16 y1 h16 => ?_)
    refine stA (vs := [iv x.1, iv x.2]) h16.blk rfl (Nat.le_of_ble_eq_true rfl) (by simp [Value.oneCell']) (fun y2 B16 k16 _ => ?_)
    have B16 : Blk y2 b16 74 [iv x.1, iv x.2] := B16
    have at16 := h16.at_
    have xy2 : Ext y y2 := h16.ext.then k16 fun i hi _ e => by omega
    have hb16 : b16 ≠ ge := by omega
    have hsnoc : ∀ a, endV l so ((balP l so 4096).take (j + 1)) a = if a = x.1 then x.2 else endV l so ((balP l so 4096).take j) a := fun a => by
      unfold endV
      rw [List.take_add_one, hx, List.map_append]
      by_cases h : a = x.1
      · rw [if_pos h, if_pos (by rw [h]; simp), h, hxm.2.1]
      · rw [if_neg h]
        by_cases h2 : a ∈ ((balP l so 4096).take j).map (·.1)
        · rw [if_pos h2, if_pos (List.mem_append_left _ h2)]
        · rw [if_neg h2, if_neg (fun q => by
            rcases List.mem_append.1 q with q | q
            · exact h2 q
            · simp at q; exact h q)]
    refine drawP (.take 0 (.take 1 (.take 2 (.take 3 (.take 4 (.take 5 (.take 6 (.take 7 (.take 8 (.take 9 (.take 10 (.take 11 (.take 12 (.take 13 (.take 14 (.take 15 (.take 16 (.take 17 .done)))))))))))))))))) [] (fun z => z = y2) mx (by kernel_rfl) rfl ?_
    refine cD (fun hj0 => ?_) (fun hj0 => ?_)
    · obtain ⟨bx', o', cs', x', hC', hx', -, -, hc', hcs'⟩ := (sC.kept ky fun b _ h => h).at_ (k := j - 1) (by omega)
      injection hC' with hC'
      injection hC' with e1 e2
      subst e1
      subst e2
      have hcs' : cs' = [iv x'.1, iv x'.2] := hcs'
      subst hcs'
      have hlt' : x'.1 < x.1 := by
        have hp := List.pairwise_iff_getElem.1 (balP_sort (l := l) (so := so) 4096) (j - 1) j (List.getElem?_eq_some_iff.1 hx').1 (List.getElem?_eq_some_iff.1 hx).1 (by omega)
        rw [(List.getElem?_eq_some_iff.1 hx').2, (List.getElem?_eq_some_iff.1 hx).2] at hp
        exact hp
      refine idxR 0 rfl (by omega) ?_
      refine ld (iv x.1) (B16.cell rfl) ?_
      refine arI (n := (j : Int) - 1) (by omega) ?_
      refine idx (j - 1) (by omega) (by omega) ?_
      refine idxR 0 rfl (by omega) ?_
      refine ld (iv x'.1) ((hc'.kept xy2 trivial) 0 _ rfl) ?_
      refine cD (fun h => absurd h (by omega)) (fun _ => ?_)
      refine idxR 1 rfl (by omega) ?_
      refine ld (iv x.2) (B16.cell rfl) ?_
      refine cE (fun h => absurd h hxn) (fun _ => ?_)
      refine idxR 0 rfl (by omega) ?_
      refine ld (iv x.1) (B16.cell rfl) ?_
      refine idxR 1 rfl (by omega) ?_
      refine ld (iv x.2) (B16.cell rfl) ?_
      refine mupdG (kv := kvI) (v := iv x.2) x.1 (Ey.kept xy2 trivial) (fun y3 M3 q3 _ => ?_)
      refine arI (n := (j : Int) + 1) (by omega) ?_
      refine next (j + 1) ⟨by rw [Int.natCast_add]; rfl, trivial⟩ ⟨by omega, (ky.ext xy2).trans q3, _, M3, fun a => ?_⟩ (by omega)
      rw [hsnoc]
      unfold pset
      by_cases h : a = x.1
      · rw [if_pos h, if_pos h]; rfl
      · rw [if_neg h, if_neg h]; exact hfe a
    · refine idxR 1 rfl (by omega) ?_
      refine ld (iv x.2) (B16.cell rfl) ?_
      refine cE (fun h => absurd h hxn) (fun _ => ?_)
      refine idxR 0 rfl (by omega) ?_
      refine ld (iv x.1) (B16.cell rfl) ?_
      refine idxR 1 rfl (by omega) ?_
      refine ld (iv x.2) (B16.cell rfl) ?_
      refine mupdG (kv := kvI) (v := iv x.2) x.1 (Ey.kept xy2 trivial) (fun y3 M3 q3 _ => ?_)
      refine arI (n := (j : Int) + 1) (by omega) ?_
      refine next (j + 1) ⟨by rw [Int.natCast_add]; rfl, trivial⟩ ⟨by omega, (ky.ext xy2).trans q3, _, M3, fun a => ?_⟩ (by omega)
      rw [hsnoc]
      unfold pset
      by_cases h : a = x.1
      · rw [if_pos h, if_pos h]; rfl
      · rw [if_neg h, if_neg h]; exact hfe a
  have hjm : j = m := by omega
  have hend : ∀ a, 0 ≤ a ∧ a ≤ 4095 → endV l so (balP l so 4096) a = balL l (so, a) := fun a ha => by
    unfold endV
    by_cases h : balL l (so, a) = 0
    · split
      · rfl
      · exact h.symm
    · rw [if_pos (List.mem_map.2 ⟨(a, balL l (so, a)), balP_mem.2 ⟨⟨ha.1, by show a < ((4096 : Nat) : Int); omega⟩, rfl, h⟩, rfl⟩)]
  rw [List.take_of_length_le (by omega)] at hfe
  have xuy : Ext u1 y := xb2.then ky fun b hb _ => by omega
  have EL := EL.kept xuy trivial
  have L2 := L2.ext xuy
  have hsy := hsu.ext xuy
  have su1 := hq.ext.size
  have syy := xuy.size
  have lL2' := L2.lt
  refine rngM (kv := kvI) (t := 72) rfl EL (fun y1 E3 I3 x13 z13 => ?_)
  obtain ⟨it, hit⟩ : ∃ it, it = y.heap.size := ⟨_, rfl⟩
  rw [← hit] at I3 ⊢
  have hgit : g ≠ it := by omega
  have hget : ge ≠ it := by have := Ey.lt; omega
  have hb2t : b2 ≠ it := by omega
  have s0u := x0u.size
  refine loop_rule (fun sx : List Nat × List Int => [(10, iv (sx.2.map fun a => balH l (so, a) hr).sum), (11, iv ((sx.2.filter fun a => decide (balL l (so, a) ≠ 0)).length : Int))]) (fun sx z => Kept (fun b => b ≠ it) y1 z ∧ IterM z it g cL sx.1 ∧ RX L sx.1 sx.2) (fun sx _ => (L.filter fun x => !sx.1.contains x.born).length) ([], []) ⟨rfl, rfl, trivial⟩ ⟨.refl _ _, I3, RX.nil⟩ rfl ?_
  rintro G4 ⟨seen, xs⟩ z ⟨kz, Iz, hRX⟩
  have Iz : IterM z it g cL seen := Iz
  have hRX : RX L seen xs := hRX
  have hxacc : ∀ a ∈ xs, accM l a := fun a ha => by
    obtain ⟨e, he, -, hk⟩ := (hRX.2 a).1 ha
    exact (hacc a).2 ⟨e, he, hk⟩
  have hxl : xs.length ≤ 4096 := by
    have h1 := nodup_leL (b := (List.range 4096).map fun i : Nat => (i : Int)) hRX.1 fun a ha => by
      have := hrange a (hxacc a ha)
      exact List.mem_map.2 ⟨a.toNat, List.mem_range.2 (by omega), by omega⟩
    rwa [List.length_map, List.length_range] at h1
  have hsb := sum_bI (f := fun a => balH l (so, a) hr) (B := 1125899906842624) (xs := xs) fun a _ => by have := (hbb (so, a)).1; omega
  have hfl : (xs.filter fun a => decide (balL l (so, a) ≠ 0)).length ≤ 4096 := Nat.le_trans (List.length_filter_le _ _) hxl
  refine nxtM (kv := kvI) rfl (E3.kept kz hgit) Iz (fun hall' => ?_) (fun e he hns z1 Ez1 Iz1 kz1 _ => ?_)
  · have hcov : ∀ a, a ∈ xs ↔ accM l a := fun a => ⟨hxacc a, fun h => by
      obtain ⟨e, he, hk⟩ := (hacc a).1 h
      exact (hRX.2 a).2 ⟨e, he, hall' e he, hk⟩⟩
    have hS : (xs.map fun a => balH l (so, a) hr).sum = 0 := by
      have e : (fun a => balH l (so, a) hr) = fun a => balL (l.take kh) (so, a) := funext fun a => hBH _
      rw [e]
      exact bal_zero hRX.1 so fun p hp => ⟨(hcov _).2 ⟨p, List.mem_of_mem_take hp, .inl rfl⟩, (hcov _).2 ⟨p, List.mem_of_mem_take hp, .inr rfl⟩⟩
    have hM := bal_many hRX.1 hall hcov so
    refine cN (fun h => absurd hS h) (fun _ => ?_)
    refine len ?_
    refine cN (fun h => absurd (show ((xs.filter fun a => decide (balL l (so, a) ≠ 0)).length : Int) = (m : Int) by omega) h) (fun _ => ?_)
    refine arI (n := (i : Int) + 1) (by omega) ?_
    exact next (i + 1) ⟨by rw [Int.natCast_add]; rfl, trivial⟩ ⟨by omega, (xuy.trans x13).then kz fun b hb _ e => by omega⟩ (by omega)
  · obtain ⟨a, hek⟩ := EL.keys e he
    have hltm := left_ltL he hns
    have ha := hrange a ((hacc a).2 ⟨e, he, hek⟩)
    refine entM (kv := kvI) rfl Ez1 he Iz1 ?_
    rw [hek]
    have kzz := kz.trans kz1
    have L2z := (L2.ext x13).kept kzz hb2t
    have hsz := (hsy.ext x13).kept kzz fun b _ h => by omega
    refine ldA [.slice A n c] (.blk L2z) rfl ?_
    refine cvI (by omega) ?_
    refine remI (by omega) (by omega) ?_
    rw [← hhr]
    refine call_of (c_gBalance (sort := so) (num := a) (hr := hr) hsz) ?_
    rintro _ z2 ⟨rfl, xz2⟩
    rw [hbE so a hr hso12 ha hr0, if_pos rfl]
    refine ldA [.slice A n c] (.blk (L2z.ext xz2)) rfl ?_
    refine call_of (c_gBalance (sort := so) (num := a) (hr := 4096) (hsz.ext xz2)) ?_
    rintro _ z3 ⟨rfl, xz3⟩
    rw [hbE so a 4096 hso12 ha (by omega), if_pos rfl, hH]
    have hb1 := hbb (so, a)
    obtain ⟨bh, hbh⟩ : ∃ bh, bh = balH l (so, a) hr := ⟨_, rfl⟩
    obtain ⟨bl, hbl⟩ : ∃ bl, bl = balL l (so, a) := ⟨_, rfl⟩
    rw [← hbh, ← hbl]
    rw [← hbh] at hb1
    have hpos : a ≠ 0 → 0 ≤ bh := hb1.2
    have hb1 := hb1.1
    have xzz := xz2.trans xz3
    have kuF := kzz.ext xzz
    have IF := Iz1.kept xzz trivial
    have Mf := (Ey.kept x13 trivial).kept kuF hget
    have hlook : (fe a).getD (iv 0) = iv bl := by rw [hfe, hend a ha, hbl]
    refine cN (fun h => absurd rfl h) (fun _ => ?_)
    refine cN (fun h => absurd rfl h) (fun _ => ?_)
    refine cD (fun hneg => ?_) (fun hneg => ?_)
    · refine cN (fun h => absurd (hpos h) (by omega)) (fun _ => ?_)
      refine lookG1 (kv := kvI) a (iv bl) (fun t ht => by subst ht; exact ⟨fe, Mf, hlook⟩) ?_
      refine cN (fun h => absurd rfl h) (fun _ => ?_)
      refine arI (n := (xs.map fun a => balH l (so, a) hr).sum + bh) (by omega) ?_
      refine cN (fun hne => ?_) (fun heq => ?_)
      · refine arI (n := ((xs.filter fun a => decide (balL l (so, a) ≠ 0)).length : Int) + 1) (by omega) ?_
        refine next (seen ++ [e.born], xs ++ [a]) ⟨?_, ?_, trivial⟩ ⟨kuF, IF, hRX.snoc EL.born hU he hns hek⟩ hltm
        · show iv ((xs.map fun a => balH l (so, a) hr).sum + bh) = iv ((xs ++ [a]).map fun a => balH l (so, a) hr).sum
          rw [List.map_append, List.sum_append, List.map_singleton, List.sum_singleton, ← hbh]
        · show iv (((xs.filter fun a => decide (balL l (so, a) ≠ 0)).length : Int) + 1) = iv (((xs ++ [a]).filter fun a => decide (balL l (so, a) ≠ 0)).length : Int)
          rw [List.filter_append, List.length_append, List.filter_cons_of_pos (by rw [← hbl]; exact decide_eq_true hne), List.filter_nil]
          rfl
      · refine next (seen ++ [e.born], xs ++ [a]) ⟨?_, ?_, trivial⟩ ⟨kuF, IF, hRX.snoc EL.born hU he hns hek⟩ hltm
        · show iv ((xs.map fun a => balH l (so, a) hr).sum + bh) = iv ((xs ++ [a]).map fun a => balH l (so, a) hr).sum
          rw [List.map_append, List.sum_append, List.map_singleton, List.sum_singleton, ← hbh]
        · show iv ((xs.filter fun a => decide (balL l (so, a) ≠ 0)).length : Int) = iv (((xs ++ [a]).filter fun a => decide (balL l (so, a) ≠ 0)).length : Int)
          rw [List.filter_append, List.length_append, List.filter_cons_of_neg (by rw [← hbl]; intro q; exact (of_decide_eq_true q) heq), List.filter_nil]
          rfl
    · refine lookG1 (kv := kvI) a (iv bl) (fun t ht => by subst ht; exact ⟨fe, Mf, hlook⟩) ?_
      refine cN (fun h => absurd rfl h) (fun _ => ?_)
      refine arI (n := (xs.map fun a => balH l (so, a) hr).sum + bh) (by omega) ?_
      refine cN (fun hne => ?_) (fun heq => ?_)
      · refine arI (n := ((xs.filter fun a => decide (balL l (so, a) ≠ 0)).length : Int) + 1) (by omega) ?_
        refine next (seen ++ [e.born], xs ++ [a]) ⟨?_, ?_, trivial⟩ ⟨kuF, IF, hRX.snoc EL.born hU he hns hek⟩ hltm
        · show iv ((xs.map fun a => balH l (so, a) hr).sum + bh) = iv ((xs ++ [a]).map fun a => balH l (so, a) hr).sum
          rw [List.map_append, List.sum_append, List.map_singleton, List.sum_singleton, ← hbh]
        · show iv (((xs.filter fun a => decide (balL l (so, a) ≠ 0)).length : Int) + 1) = iv (((xs ++ [a]).filter fun a => decide (balL l (so, a) ≠ 0)).length : Int)
          rw [List.filter_append, List.length_append, List.filter_cons_of_pos (by rw [← hbl]; exact decide_eq_true hne), List.filter_nil]
          rfl
      · refine next (seen ++ [e.born], xs ++ [a]) ⟨?_, ?_, trivial⟩ ⟨kuF, IF, hRX.snoc EL.born hU he hns hek⟩ hltm
        · show iv ((xs.map fun a => balH l (so, a) hr).sum + bh) = iv ((xs ++ [a]).map fun a => balH l (so, a) hr).sum
          rw [List.map_append, List.sum_append, List.map_singleton, List.sum_singleton, ← hbh]
        · show iv ((xs.filter fun a => decide (balL l (so, a) ≠ 0)).length : Int) = iv (((xs ++ [a]).filter fun a => decide (balL l (so, a) ≠ 0)).length : Int)
          rw [List.filter_append, List.length_append, List.filter_cons_of_neg (by rw [← hbl]; intro q; exact (of_decide_eq_true q) heq), List.filter_nil]
          rfl
end
end Go.Proofs.YtehcphboliofaaaGreatDoor
