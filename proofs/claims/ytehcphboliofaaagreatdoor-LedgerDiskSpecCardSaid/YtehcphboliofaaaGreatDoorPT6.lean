/- Parts of the proof: L4 L5 Lk Ls Lz L6 L7 L8 L9. -/
import Derived.Test.YtehcphboliofaaaGreatDoorPT5
import Derived.WalkKit
import Derived.LoopTactic
import Derived.RegionTactic
import Derived.Deep.RegionWith
import Derived.StillTailTactics
import Derived.Deep.Draws
import Derived.Sort.Grow
import Derived.Shelf.SlSortCmp.QuietGrown
import Derived.Laws.Rows
import Derived.Test.YtehcphboliofaaaGreatDoorProg
import Derived.Test.YtehcphboliofaaaGreatDoorPT2
import Derived.Shelf.SlSortCmp.WholeK
import Derived.Shelf.Lay
import Derived.Ground.SlsfProg
import Derived.Ground.NamesProg
import Derived.Laws.Cover3
import Derived.Test.YtehcphboliofaaaGreatDoorPT3
namespace Go.Proofs.YtehcphboliofaaaGreatDoor
open Go Go.RowKit Classical
def lastP (l : List Post) : Post := l.getLast?.getD ⟨-1, 0, 0, 0, 0, 0⟩
theorem lastP_snoc {l : List Post} {p : Post} : lastP (l ++ [p]) = p := by unfold lastP; simp
theorem aft_iff {l : List Post} {p : Post} (h : LOk l) : (∀ q, l.getLast? = some q → q.no < p.no ∧ q.hour ≤ p.hour) ∧ 0 ≤ p.no ∧ 0 ≤ p.hour ↔ (lastP l).no < p.no ∧ (lastP l).hour ≤ p.hour := by
  unfold lastP; rcases List.eq_nil_or_concat l with rfl | ⟨t, y, rfl⟩
  · simp only [List.getLast?_nil, Option.getD_none]; constructor
    · rintro ⟨-, h1, h2⟩; omega
    · intro h1; exact ⟨fun q hq => (by cases hq), by omega, by omega⟩
  · rw [List.concat_eq_append] at h ⊢; have hy := h.p1 (p := y) (by simp); have h1 := hy.no; have h2 := hy.hour; simp only [List.getLast?_append, List.getLast?_singleton, Option.some_or, Option.getD_some]; constructor
    · rintro ⟨h3, -⟩; exact h3 y rfl
    · intro h3; exact ⟨fun q hq => by injection hq with hq; rw [← hq]; exact h3, by omega, by omega⟩
section
variable {w : World}
theorem c_gwithin (n lo hi : Int) : CallZ Tryz.prog 43 #[iv n, iv lo, iv hi] w (fun v w' => v = .bool (gwithin n lo hi) ∧ w' = w) := by
  refine fn_rule (args := [iv n, iv lo, iv hi]) Tryz.func43 (by kernel_rfl) ?_; refine cD (fun h1 => ?_) (fun h1 => ?_)
  · refine cD (fun h2 => ?_) (fun h2 => ?_)
    · exact ret1 (.bool true) rfl ⟨by rw [gwithin_iff.2 ⟨h1, h2⟩], rfl⟩
    · exact ret1 (.bool false) rfl ⟨by rw [Bool.eq_false_iff.2 fun h => h2 (gwithin_iff.1 h).2], rfl⟩
  · exact ret1 (.bool false) rfl ⟨by rw [Bool.eq_false_iff.2 fun h => h1 (gwithin_iff.1 h).1], rfl⟩
theorem c_gvalid {A : Option Addr} {n c : Nat} : CallZ Tryz.prog 57 #[.slice A n c] w (fun v w' => ∃ b, v = .func (.func 96) #[] #[ptr b] ∧ Ext w w' ∧ Blk w' b 22 [.slice A n c] ∧ w.heap.size ≤ b) := by
  refine fn_rule (args := [.slice A n c]) Tryz.func57 (by kernel_rfl) ?_; refine box (fun b w1 h1 => ?_); have e1 := h1.at_; exact ret1 (.func (.func 96) #[] #[ptr b]) rfl ⟨b, rfl, h1.ext, h1.blk, by omega⟩
end
theorem YieldP.mono {P : Program} {lb : Nat} {args : Array Value} {K K' : VK} {w : World} (h : YieldP P lb args K w) (hk : ∀ v w', K v w' → K' v w') : YieldP P lb args K' w := by
  rw [YieldP_eq] at h ⊢; exact h.mono hk
theorem posD_not {p : Post} {a : Acc} (h1 : a ≠ p.fa) (h2 : a ≠ p.ta) : posD p a = 0 := by
  unfold posD; rw [if_neg (fun h => h2 h.symm), if_neg (fun h => h1 h.symm)]; rfl
theorem bal_set {l : List Post} {p : Post} (hne : p.frm ≠ p.to) : accSet (accSet (balL l) p.fa (balL l p.fa - p.n)) p.ta (balL l p.ta + p.n) = balL (l ++ [p]) := by
  funext a
  have hn : ¬ p.fa = p.ta := fun h => hne (congrArg Prod.snd h); rw [balL_snoc]; unfold accSet posD
  by_cases q : a = p.ta
  · rw [if_pos q, if_pos q.symm, if_neg (by rw [q]; exact hn), q]; omega
  · rw [if_neg q, if_neg (show ¬ p.ta = a from fun h => q h.symm)]
    by_cases q2 : a = p.fa
    · rw [if_pos q2, if_pos q2.symm, q2]; omega
    · rw [if_neg q2, if_neg (show ¬ p.fa = a from fun h => q2 h.symm)]; omega
section
variable {w : World}
set_option maxRecDepth 8000 in
set_option maxHeartbeats 4000000 in
theorem c_gvalid1Y {D : Nat → Prop} {lb bs : Nat} {l : List Post} {A : Option Addr} {n c : Nat} (J : Nat → World → Option Nat → Prop) (hs : SlR tPost D w A n l) (hb : Blk w bs 22 [.slice A n c]) (hD : ∀ b, w.heap.size ≤ b → D b) (hn : n ≤ 4096)
    (hJ : ∀ {o} i u u', J i u o → w.heap.size ≤ u.heap.size → Kept (fun b => b ≠ w.heap.size ∧ b ≠ w.heap.size + 1) u u' → J i u' o)
    (hstep : ∀ i u p g o, l[i]? = some p → LOk (l.take (i + 1)) → J i u o → Kept D w u → MapAs u g (balL (l.take (i + 1))) → w.heap.size ≤ g → w.heap.size + 2 ≤ u.heap.size → (∀ q, o = some q → w.heap.size + 2 ≤ q ∧ q < u.heap.size) → YieldP Tryz.prog lb [.agg p.c.toArray, .map (some g)].toArray (fun y w' => y = .bool true ∧ ∃ o', J (i + 1) w' o' ∧ (∀ q, o' = some q → o = some q ∨ (u.heap.size ≤ q ∧ q < w'.heap.size)) ∧ Kept (fun b => D b ∧ o ≠ some b) u w') u)
    (h0 : J 0 w none) : CallZ Tryz.prog 96 #[.func (.yield lb) #[] #[], ptr bs] w (fun _ w' => (∃ o, J (vN l) w' o ∧ ∀ q, o = some q → w.heap.size + 2 ≤ q ∧ q < w'.heap.size) ∧ Kept D w w') := by
  have hlen := hs.len; refine fn_rule (args := [.func (.yield lb) #[] #[], ptr bs]) Tryz.func96 (by kernel_rfl) ?_; refine mmap (fun g3 v1 hg3 hv1 => ?_)
  have y1 : Ext w v1 := by rw [hv1]; exact Kept.alloc _ _ _
  have M1 : MapAs v1 g3 (balL []) := by rw [hv1, hg3]; exact MapAs.new w
  have sv1 : v1.heap.size = w.heap.size + 1 := by rw [hv1]; simp
  have lg3 := M1.lt; refine bld [iv (-1), iv 0, iv 0, iv 0, iv 0, iv 0] (by kernel_rfl) ?_; refine alloc (fun b4 v2 h2 => ?_); refine stA (vs := (lastP []).c) h2.blk rfl (Nat.le_of_ble_eq_true rfl) (by simp [Value.oneCell']) (fun v3 B4 k3 z3 => ?_); have e4 := h2.at_; have B4 : Blk v3 b4 26 (lastP []).c := B4; have l4 := B4.lt
  have y3 : Ext w v3 := (y1.trans h2.ext).then k3 fun b hb _ e => by have := y1.size; omega
  have M3 := (M1.kept h2.ext trivial).kept k3 (show g3 ≠ b4 by omega); have s1 := y1.size; have s3 := y3.size; have s13 := h2.size; have lg3' := M3.lt; have J3 := hJ 0 w v3 h0 (Nat.le_refl _) (y3.weak fun _ _ _ => trivial); have kD : Kept D w v3 := y3.weak fun _ _ _ => trivial; refine ld (.slice A n c) ((hb.kept y3 trivial).cell rfl) ?_; refine len ?_; clear h2 hv1; refine loop_rule (fun k : Nat => [(13, iv (k : Int))]) (fun k u => k ≤ n ∧ LOk (l.take k) ∧ Blk u b4 26 (lastP (l.take k)).c ∧ MapAs u g3 (balL (l.take k)) ∧ (∃ o, J k u o ∧ ∀ q, o = some q → v3.heap.size ≤ q ∧ q < u.heap.size) ∧ Kept D w u ∧ v3.heap.size ≤ u.heap.size) (fun k _ => n - k) 0 ⟨rfl, trivial⟩ ⟨by omega, LOk.nil, B4, M3, ⟨none, J3, fun q h => by cases h⟩, kD, Nat.le_refl _⟩ rfl ?_; rintro G k u ⟨hk, hok, B4, Mu, ⟨oo, Ju, hoo⟩, ku, su⟩; refine cD (fun hlt => ?_) (fun hge => ?_); rotate_left
  · have hkn : k = l.length := by omega
    have hokl : LOk l := by rwa [hkn, List.take_length] at hok
    exact ret0 ⟨⟨oo, by rw [vN_all.2 hokl, ← hkn]; exact Ju, fun q hq => by have := hoo q hq; omega⟩, ku⟩
  obtain ⟨b, o, cs, p, rfl, hm, -, -, hc, rfl⟩ := (hs.kept ku fun b _ h => h).at_ (k := k) (by omega)
  have htk : l.take (k + 1) = l.take k ++ [p] := by rw [List.take_add_one, hm]; rfl
  refine idx k rfl (by omega) ?_; refine ldA p.c hc rfl ?_; refine alloc (fun b6 u1 a1 => ?_); refine stA (vs := p.c) a1.blk rfl (Nat.le_of_ble_eq_true rfl) (by simp [Value.oneCell']) (fun u2 B6 k2 z2 => ?_); have e6 := a1.at_; have B6 : Blk u2 b6 26 p.c := B6
  have xu2 : Ext u u2 := a1.ext.then k2 fun b hb _ e => by omega
  have B4 := B4.ext xu2; have Mu := Mu.kept xu2 trivial; have ku2 : Kept D w u2 := ku.ext xu2; have su2 := xu2.size; have lM := Mu.lt; have l6 := B6.lt; have Ju2 := hJ k u u2 Ju (by omega) (xu2.weak fun _ _ _ => trivial); obtain ⟨q, hq⟩ : ∃ q, q = lastP (l.take k) := ⟨_, rfl⟩; rw [← hq] at B4; have ha := aft_iff (p := p) hok; rw [← hq] at ha; have bd := bal_b hok
  have lk : ((l.take k).length : Int) ≤ 4096 := by have := List.length_take_le k l; omega
  refine fldA ?_; refine ld (iv p.no) (B6.cell rfl) ?_; refine fldA ?_; refine ld (iv q.no) (B4.cell rfl) ?_; refine cD (fun h => ?_) (fun p0 => ?_)
  · refine ret0 ⟨⟨oo, by rw [vN_uniq (by omega) hok fun q hq => by
      rw [hm] at hq; injection hq with hq; subst hq; exact fun hp => absurd (ha.1 ⟨hp.aft, hp.no.1, hp.hour.1⟩) (by omega)]; exact Ju2, fun q hq => by have := hoo q hq; omega⟩, ku2⟩
  refine fldA ?_; refine ld (iv p.no) (B6.cell rfl) ?_; refine cD (fun h => ?_) (fun p1 => ?_)
  · refine ret0 ⟨⟨oo, by rw [vN_uniq (by omega) hok fun q hq => by
      rw [hm] at hq; injection hq with hq; subst hq; exact fun hp => absurd hp.no (by omega)]; exact Ju2, fun q hq => by have := hoo q hq; omega⟩, ku2⟩
  refine fldA ?_; refine ld (iv p.hour) (B6.cell rfl) ?_; refine fldA ?_; refine ld (iv q.hour) (B4.cell rfl) ?_; refine cD (fun h => ?_) (fun p2 => ?_)
  · refine ret0 ⟨⟨oo, by rw [vN_uniq (by omega) hok fun q hq => by
      rw [hm] at hq; injection hq with hq; subst hq; exact fun hp => absurd (ha.1 ⟨hp.aft, hp.no.1, hp.hour.1⟩) (by omega)]; exact Ju2, fun q hq => by have := hoo q hq; omega⟩, ku2⟩
  refine fldA ?_; refine ld (iv p.hour) (B6.cell rfl) ?_; refine cD (fun h => ?_) (fun p3 => ?_)
  · refine ret0 ⟨⟨oo, by rw [vN_uniq (by omega) hok fun q hq => by
      rw [hm] at hq; injection hq with hq; subst hq; exact fun hp => absurd hp.hour (by omega)]; exact Ju2, fun q hq => by have := hoo q hq; omega⟩, ku2⟩
  refine fldA ?_; refine ld (iv p.sort) (B6.cell rfl) ?_; refine callB (c_gwithin p.sort 1 2) (fun p4 => ?_) (fun h => ?_); rotate_left
  · refine ret0 ⟨⟨oo, by rw [vN_uniq (by omega) hok fun q hq => by
      rw [hm] at hq; injection hq with hq; subst hq; exact fun hp => absurd (gwithin_iff.2 hp.sort) (by rw [h]; exact Bool.false_ne_true)]; exact Ju2, fun q hq => by have := hoo q hq; omega⟩, ku2⟩
  refine fldA ?_; refine ld (iv p.n) (B6.cell rfl) ?_; refine callB (c_gwithin p.n 1 1099511627776) (fun p5 => ?_) (fun h => ?_); rotate_left
  · refine ret0 ⟨⟨oo, by rw [vN_uniq (by omega) hok fun q hq => by
      rw [hm] at hq; injection hq with hq; subst hq; exact fun hp => absurd (gwithin_iff.2 hp.n) (by rw [h]; exact Bool.false_ne_true)]; exact Ju2, fun q hq => by have := hoo q hq; omega⟩, ku2⟩
  refine fldA ?_; refine ld (iv p.frm) (B6.cell rfl) ?_; refine callB (c_gwithin p.frm 0 4095) (fun p6 => ?_) (fun h => ?_); rotate_left
  · refine ret0 ⟨⟨oo, by rw [vN_uniq (by omega) hok fun q hq => by
      rw [hm] at hq; injection hq with hq; subst hq; exact fun hp => absurd (gwithin_iff.2 hp.frm) (by rw [h]; exact Bool.false_ne_true)]; exact Ju2, fun q hq => by have := hoo q hq; omega⟩, ku2⟩
  refine fldA ?_; refine ld (iv p.to) (B6.cell rfl) ?_; refine callB (c_gwithin p.to 0 4095) (fun p7 => ?_) (fun h => ?_); rotate_left
  · refine ret0 ⟨⟨oo, by rw [vN_uniq (by omega) hok fun q hq => by
      rw [hm] at hq; injection hq with hq; subst hq; exact fun hp => absurd (gwithin_iff.2 hp.to) (by rw [h]; exact Bool.false_ne_true)]; exact Ju2, fun q hq => by have := hoo q hq; omega⟩, ku2⟩
  refine fldA ?_; refine ld (iv p.frm) (B6.cell rfl) ?_; refine fldA ?_; refine ld (iv p.to) (B6.cell rfl) ?_; refine cE (fun h => ?_) (fun p8 => ?_)
  · refine ret0 ⟨⟨oo, by rw [vN_uniq (by omega) hok fun q hq => by
      rw [hm] at hq; injection hq with hq; subst hq; exact fun hp => absurd h hp.ne]; exact Ju2, fun q hq => by have := hoo q hq; omega⟩, ku2⟩
  have p4 := gwithin_iff.1 p4; have p5 := gwithin_iff.1 p5; have p6 := gwithin_iff.1 p6; have p7 := gwithin_iff.1 p7; have haft := ha.2 ⟨by omega, by omega⟩; have hP1 : P1 p := ⟨⟨haft.2.1, by omega⟩, ⟨haft.2.2, by omega⟩, p4, p5, p6, p7, p8⟩; refine drawP (.take 0 (.take 1 (.take 2 (.take 3 (.take 4 (.take 5 (.take 6 (.take 7 (.take 8 (.take 9 (.alt 10 (.eff 11 (.eff 12 (.eff 13 .done))) (.eff 11 (.eff 10 (.eff 12 (.eff 13 .done))))))))))))))) [] (fun y => Ext u2 y) mx (by kernel_rfl) (.refl _ _) ?_; refine fldA ?_; refine ldK (iv p.sort) (B6.cell rfl) trivial (.refl _ _) ?_; refine fldA ?_; refine ldK (iv p.frm) (B6.cell rfl) trivial (.refl _ _) ?_; refine bld [iv p.sort, iv p.frm] (by kernel_rfl) ?_; refine fldA ?_; refine ldK (iv p.sort) (B6.cell rfl) trivial (.refl _ _) ?_; refine fldA ?_; refine ldK (iv p.to) (B6.cell rfl) trivial (.refl _ _) ?_; refine bld [iv p.sort, iv p.to] (by kernel_rfl) ?_; refine ⟨?ya, ?yb⟩
  case' ya =>
    refine alloc (fun b7 u3 h7 => ?_); refine strS h7.ext ?_; refine alloc (fun b8 u4 h8 => ?_); have e7 := h7.at_; have e8 := h8.at_; have x24 := h7.ext.trans h8.ext; have B7 := h7.blk.ext h8.ext; have B8 := h8.blk
    have n78 : b7 ≠ b8 := by have := h7.blk.lt; omega
    have m7 : u2.heap.size ≤ b7 := by omega
    have m8 : u2.heap.size ≤ b8 := by have := h7.ext.size; omega
  case' yb =>
    refine alloc (fun b8 u3 h8 => ?_); refine strS h8.ext ?_; refine alloc (fun b7 u4 h7 => ?_); have e7 := h7.at_; have e8 := h8.at_; have x24 := h8.ext.trans h7.ext; have B7 := h7.blk; have B8 := h8.blk.ext h7.ext
    have n78 : b7 ≠ b8 := by have := h8.blk.lt; omega
    have m7 : u2.heap.size ≤ b7 := by have := h8.ext.size; omega
    have m8 : u2.heap.size ≤ b8 := by omega
  all_goals
    refine strS x24 ?_; refine stA (vs := [iv p.sort, iv p.frm]) B7 rfl (Nat.le_of_ble_eq_true rfl) (by simp [Value.oneCell']) (fun u5 B7 k5 z5 => ?_); have B7 : Blk u5 b7 97 [iv p.sort, iv p.frm] := B7
    have x25 : Ext u2 u5 := x24.then k5 fun b hb _ e => by omega
    refine strS x25 ?_; refine stA (vs := [iv p.sort, iv p.to]) (B8.kept k5 (Ne.symm n78)) rfl (Nat.le_of_ble_eq_true rfl) (by simp [Value.oneCell']) (fun u6 B8 k6 z6 => ?_); have B8 : Blk u6 b8 97 [iv p.sort, iv p.to] := B8; have B7 := B7.kept k6 n78
    have x26 : Ext u2 u6 := x25.then k6 fun b hb _ e => by omega
    refine strS x26 ?_; have Mu := Mu.kept x26 trivial; have B6 := B6.ext x26; have B4 := B4.ext x26; have l7 := B7.lt; have l8 := B8.lt; have s26 := x26.size; have ku6 := ku2.ext x26; have Ju6 := hJ k u2 u6 Ju2 (by omega) (x26.weak fun _ _ _ => trivial); obtain ⟨F, hF⟩ : ∃ F, F = balL (l.take k) := ⟨_, rfl⟩; rw [← hF] at Mu bd; have bF := bd p.fa; have bT := bd p.ta; refine drawX [0, 1, 2, 3, 4, 5, 6, 7, 8, 9, 10, 11, 12, 13, 14, 15, 16, 17, 18, 19] [] mx (by kernel_rfl) ?_; refine fldA ?_; refine ldX (iv p.frm) (B6.cell rfl) (.refl _ _) ?_; refine cN (fun h9 => ?_) (fun h9 => ?_)
    · refine ldAX [iv p.sort, iv p.frm] (.blk B7) rfl (.refl _ _) ?_; refine lookG1 (kv := kvA) p.fa (iv (F p.fa)) (fun y hy => (Mu.kept hy trivial).g _) ?_; refine fldA ?_; refine ldX (iv p.n) (B6.cell rfl) (.refl _ _) ?_; refine cD (fun h => ?_) (fun p9 => ?_)
      · refine ret0 ⟨⟨oo, by rw [vN_uniq (by omega) hok fun q hq => by
          rw [hm] at hq; injection hq with hq; subst hq; exact fun hp => absurd (hp.has h9) (by rw [← hF]; omega)]; exact Ju6, fun q hq => by have := hoo q hq; omega⟩, ku6⟩
      refine ldAX [iv p.sort, iv p.to] (.blk B8) rfl (.refl _ _) ?_; refine lookG1 (kv := kvA) p.ta (iv (F p.ta)) (fun y hy => (Mu.kept hy trivial).g _) ?_; refine fldA ?_; refine ldX (iv p.n) (B6.cell rfl) (.refl _ _) ?_; refine arI (n := F p.ta + p.n) (by omega) ?_; refine cD (fun h => ?_) (fun p10 => ?_)
      · refine ret0 ⟨⟨oo, by rw [vN_uniq (by omega) hok fun q hq => by
          rw [hm] at hq; injection hq with hq; subst hq; exact fun hp => absurd hp.fit (by rw [← hF]; omega)]; exact Ju6, fun q hq => by have := hoo q hq; omega⟩, ku6⟩
      have hOk : OkP (l.take k) p := { toP1 := hP1, aft := haft.1, has := fun h => by rw [← hF]; first | omega | exact absurd h9 h, fit := by rw [← hF]; omega }; refine drawP (.take 0 (.take 1 (.take 2 (.take 3 (.take 4 (.take 5 (.eff 6 (.take 7 (.bar (.eff 8 .done)))))))))) [8] (fun y => Kept (fun b => b ≠ g3) u6 y ∧ ∃ f', MapG kvA y g3 f' ∧ (f' p.fa).getD (iv 0) = iv (F p.fa)) mx (by kernel_rfl) ⟨.refl _ _, Mu.g _⟩ ?_; refine ldAS [iv p.sort, iv p.frm] (fun y hy => (CellsAt.blk B7).kept hy.1 (show b7 ≠ g3 by omega)) rfl ?_; refine lookG1 (kv := kvA) p.fa (iv (F p.fa)) (fun y hy => hy.2) ?_; refine fldA ?_; refine ldS (iv p.n) (fun y hy => hy.1.cell (B6.cell rfl) (show b6 ≠ g3 by omega)) ?_; refine arI (n := F p.fa - p.n) (by omega) ?_; refine mentAc p.fa Mu (fun u7 s7 MS k7 zs7 => ?_); refine strS ⟨k7, MS.s.g _⟩ ?_; refine barS (fun _ => True) trivial ?_; refine estoAc MS (fun u8 M8 k8 zs8 => ?_); refine strS trivial ?_; have k68 := k7.trans k8; have B6 := B6.kept k68 (show b6 ≠ g3 by omega); have B4 := B4.kept k68 (show b4 ≠ g3 by omega); have B8 := B8.kept k68 (show b8 ≠ g3 by omega)
      have ku8 : Kept D w u8 := ku6.then k68 fun b hb _ e => by omega
      have Ju8 := hJ k u6 u8 Ju6 (by omega) (k68.weak fun b h e => by omega); have s68 := k68.size; clear k7 k8 MS zs7 zs8 u7; obtain ⟨F1, hF1⟩ : ∃ F1, F1 = accSet F p.fa (F p.fa - p.n) := ⟨_, rfl⟩; rw [← hF1] at M8
      have eF1 : F1 p.ta = F p.ta := by rw [hF1]; unfold accSet; rw [if_neg fun h => p8 (congrArg Prod.snd h).symm]
      have v8 := u8; obtain ⟨ua, hua⟩ : ∃ ua, ua = u8 := ⟨_, rfl⟩; rw [← hua] at M8 B6 B4 B8 ku8 Ju8 k68 s68 ⊢; clear hua v8; have Ma := M8; clear M8; refine drawP (.take 0 (.take 1 (.take 2 (.take 3 (.take 4 (.take 5 (.eff 6 (.take 7 (.bar (.eff 8 .done)))))))))) [8] (fun y => Kept (fun b => b ≠ g3) ua y ∧ ∃ f', MapG kvA y g3 f' ∧ (f' p.ta).getD (iv 0) = iv (F1 p.ta)) mx (by kernel_rfl) ⟨.refl _ _, Ma.g _⟩ ?_; refine ldAS [iv p.sort, iv p.to] (fun y hy => (CellsAt.blk B8).kept hy.1 (show b8 ≠ g3 by omega)) rfl ?_; refine lookG1 (kv := kvA) p.ta (iv (F1 p.ta)) (fun y hy => hy.2) ?_; refine fldA ?_; refine ldS (iv p.n) (fun y hy => hy.1.cell (B6.cell rfl) (show b6 ≠ g3 by omega)) ?_; refine arI (n := F1 p.ta + p.n) (by omega) ?_; refine mentAc p.ta Ma (fun u7 s7 MS k7 zs7 => ?_); refine strS ⟨k7, MS.s.g _⟩ ?_; refine barS (fun _ => True) trivial ?_; refine estoAc MS (fun u8 M8 k8 zs8 => ?_); refine strS trivial ?_; have k89 := k7.trans k8; have B6 := B6.kept k89 (show b6 ≠ g3 by omega); have B4 := B4.kept k89 (show b4 ≠ g3 by omega)
      have kuB : Kept D w u8 := ku8.then k89 fun b hb _ e => by omega
      have JuB := hJ k ua u8 Ju8 (by omega) (k89.weak fun b h e => by omega); have s89 := k89.size
      have MB : MapAs u8 g3 (balL (l.take (k + 1))) := by
        rw [htk, ← bal_set p8, ← hF]; rw [eF1, hF1] at M8; exact M8
      refine ldA p.c (.blk B6) rfl ?_; refine yield_of (hstep k u8 p g3 oo hm (by rw [htk]; exact LOk_snoc.2 ⟨hok, hOk⟩) JuB kuB MB (by omega) (by omega) (fun q hq => by have := hoo q hq; omega)) ?_; rintro _ u9 ⟨rfl, o9, J9, ho9, k9⟩; have s9 := k9.size; have B6 := B6.kept k9 ⟨hD b6 (by omega), fun e => by have := hoo _ e; omega⟩; have B4 := B4.kept k9 ⟨hD b4 (by omega), fun e => by have := hoo _ e; omega⟩; have MB := MB.kept k9 ⟨hD g3 (by omega), fun e => by have := hoo _ e; omega⟩; refine ldA p.c (.blk B6) rfl ?_; refine stA (vs := p.c) B4 rfl (Nat.le_of_ble_eq_true rfl) (by simp [Value.oneCell']) (fun uC BC kC zC => ?_); have BC : Blk uC b4 26 p.c := BC; refine arI (by omega) ?_
      refine next (k + 1) ⟨by rw [Int.natCast_add]; rfl, trivial⟩ ⟨by omega, by rw [htk]; exact LOk_snoc.2 ⟨hok, hOk⟩, by rw [htk, lastP_snoc]; exact BC, MB.kept kC (show g3 ≠ b4 by omega), ⟨o9, hJ (k + 1) u9 uC J9 (by omega) (kC.weak fun b h e => by omega), fun q hq => by
        rcases ho9 q hq with h | h
        · have := hoo q h; omega
        · omega⟩, (kuB.then k9 fun b hb hd => ⟨hd, fun e => by have := hoo _ e; omega⟩).then kC fun b hb _ e => by omega, by omega⟩ (by omega)
    · refine ldAX [iv p.sort, iv p.to] (.blk B8) rfl (.refl _ _) ?_; refine lookG1 (kv := kvA) p.ta (iv (F p.ta)) (fun y hy => (Mu.kept hy trivial).g _) ?_; refine fldA ?_; refine ldX (iv p.n) (B6.cell rfl) (.refl _ _) ?_; refine arI (n := F p.ta + p.n) (by omega) ?_; refine cD (fun h => ?_) (fun p10 => ?_)
      · refine ret0 ⟨⟨oo, by rw [vN_uniq (by omega) hok fun q hq => by
          rw [hm] at hq; injection hq with hq; subst hq; exact fun hp => absurd hp.fit (by rw [← hF]; omega)]; exact Ju6, fun q hq => by have := hoo q hq; omega⟩, ku6⟩
      have hOk : OkP (l.take k) p := { toP1 := hP1, aft := haft.1, has := fun h => by rw [← hF]; first | omega | exact absurd h9 h, fit := by rw [← hF]; omega }; refine drawP (.take 0 (.take 1 (.take 2 (.take 3 (.take 4 (.take 5 (.eff 6 (.take 7 (.bar (.eff 8 .done)))))))))) [8] (fun y => Kept (fun b => b ≠ g3) u6 y ∧ ∃ f', MapG kvA y g3 f' ∧ (f' p.fa).getD (iv 0) = iv (F p.fa)) mx (by kernel_rfl) ⟨.refl _ _, Mu.g _⟩ ?_; refine ldAS [iv p.sort, iv p.frm] (fun y hy => (CellsAt.blk B7).kept hy.1 (show b7 ≠ g3 by omega)) rfl ?_; refine lookG1 (kv := kvA) p.fa (iv (F p.fa)) (fun y hy => hy.2) ?_; refine fldA ?_; refine ldS (iv p.n) (fun y hy => hy.1.cell (B6.cell rfl) (show b6 ≠ g3 by omega)) ?_; refine arI (n := F p.fa - p.n) (by omega) ?_; refine mentAc p.fa Mu (fun u7 s7 MS k7 zs7 => ?_); refine strS ⟨k7, MS.s.g _⟩ ?_; refine barS (fun _ => True) trivial ?_; refine estoAc MS (fun u8 M8 k8 zs8 => ?_); refine strS trivial ?_; have k68 := k7.trans k8; have B6 := B6.kept k68 (show b6 ≠ g3 by omega); have B4 := B4.kept k68 (show b4 ≠ g3 by omega); have B8 := B8.kept k68 (show b8 ≠ g3 by omega)
      have ku8 : Kept D w u8 := ku6.then k68 fun b hb _ e => by omega
      have Ju8 := hJ k u6 u8 Ju6 (by omega) (k68.weak fun b h e => by omega); have s68 := k68.size; clear k7 k8 MS zs7 zs8 u7; obtain ⟨F1, hF1⟩ : ∃ F1, F1 = accSet F p.fa (F p.fa - p.n) := ⟨_, rfl⟩; rw [← hF1] at M8
      have eF1 : F1 p.ta = F p.ta := by rw [hF1]; unfold accSet; rw [if_neg fun h => p8 (congrArg Prod.snd h).symm]
      have v8 := u8; obtain ⟨ua, hua⟩ : ∃ ua, ua = u8 := ⟨_, rfl⟩; rw [← hua] at M8 B6 B4 B8 ku8 Ju8 k68 s68 ⊢; clear hua v8; have Ma := M8; clear M8; refine drawP (.take 0 (.take 1 (.take 2 (.take 3 (.take 4 (.take 5 (.eff 6 (.take 7 (.bar (.eff 8 .done)))))))))) [8] (fun y => Kept (fun b => b ≠ g3) ua y ∧ ∃ f', MapG kvA y g3 f' ∧ (f' p.ta).getD (iv 0) = iv (F1 p.ta)) mx (by kernel_rfl) ⟨.refl _ _, Ma.g _⟩ ?_; refine ldAS [iv p.sort, iv p.to] (fun y hy => (CellsAt.blk B8).kept hy.1 (show b8 ≠ g3 by omega)) rfl ?_; refine lookG1 (kv := kvA) p.ta (iv (F1 p.ta)) (fun y hy => hy.2) ?_; refine fldA ?_; refine ldS (iv p.n) (fun y hy => hy.1.cell (B6.cell rfl) (show b6 ≠ g3 by omega)) ?_; refine arI (n := F1 p.ta + p.n) (by omega) ?_; refine mentAc p.ta Ma (fun u7 s7 MS k7 zs7 => ?_); refine strS ⟨k7, MS.s.g _⟩ ?_; refine barS (fun _ => True) trivial ?_; refine estoAc MS (fun u8 M8 k8 zs8 => ?_); refine strS trivial ?_; have k89 := k7.trans k8; have B6 := B6.kept k89 (show b6 ≠ g3 by omega); have B4 := B4.kept k89 (show b4 ≠ g3 by omega)
      have kuB : Kept D w u8 := ku8.then k89 fun b hb _ e => by omega
      have JuB := hJ k ua u8 Ju8 (by omega) (k89.weak fun b h e => by omega); have s89 := k89.size
      have MB : MapAs u8 g3 (balL (l.take (k + 1))) := by
        rw [htk, ← bal_set p8, ← hF]; rw [eF1, hF1] at M8; exact M8
      refine ldA p.c (.blk B6) rfl ?_; refine yield_of (hstep k u8 p g3 oo hm (by rw [htk]; exact LOk_snoc.2 ⟨hok, hOk⟩) JuB kuB MB (by omega) (by omega) (fun q hq => by have := hoo q hq; omega)) ?_; rintro _ u9 ⟨rfl, o9, J9, ho9, k9⟩; have s9 := k9.size; have B6 := B6.kept k9 ⟨hD b6 (by omega), fun e => by have := hoo _ e; omega⟩; have B4 := B4.kept k9 ⟨hD b4 (by omega), fun e => by have := hoo _ e; omega⟩; have MB := MB.kept k9 ⟨hD g3 (by omega), fun e => by have := hoo _ e; omega⟩; refine ldA p.c (.blk B6) rfl ?_; refine stA (vs := p.c) B4 rfl (Nat.le_of_ble_eq_true rfl) (by simp [Value.oneCell']) (fun uC BC kC zC => ?_); have BC : Blk uC b4 26 p.c := BC; refine arI (by omega) ?_
      refine next (k + 1) ⟨by rw [Int.natCast_add]; rfl, trivial⟩ ⟨by omega, by rw [htk]; exact LOk_snoc.2 ⟨hok, hOk⟩, by rw [htk, lastP_snoc]; exact BC, MB.kept kC (show g3 ≠ b4 by omega), ⟨o9, hJ (k + 1) u9 uC J9 (by omega) (kC.weak fun b h e => by omega), fun q hq => by
        rcases ho9 q hq with h | h
        · have := hoo q h; omega
        · omega⟩, (kuB.then k9 fun b hb hd => ⟨hd, fun e => by have := hoo _ e; omega⟩).then kC fun b hb _ e => by omega, by omega⟩ (by omega)
theorem c_gvalid1 {D : Nat → Prop} {lb bs : Nat} {l : List Post} {A : Option Addr} {n c : Nat} (J : Nat → World → Prop) (hs : SlR tPost D w A n l) (hb : Blk w bs 22 [.slice A n c]) (hD : ∀ b, w.heap.size ≤ b → D b) (hn : n ≤ 4096)
    (hJ : ∀ i u u', J i u → w.heap.size ≤ u.heap.size → Kept (fun b => b < w.heap.size) u u' → J i u')
    (hstep : ∀ i u p g, l[i]? = some p → LOk (l.take (i + 1)) → J i u → Kept D w u → MapAs u g (balL (l.take (i + 1))) → w.heap.size ≤ g → YieldP Tryz.prog lb [.agg p.c.toArray, .map (some g)].toArray (fun y w' => y = .bool true ∧ J (i + 1) w' ∧ Kept D u w') u)
    (h0 : J 0 w) : CallZ Tryz.prog 96 #[.func (.yield lb) #[] #[], ptr bs] w (fun _ w' => J (vN l) w' ∧ Kept D w w') :=
  (c_gvalid1Y (fun i u o => J i u ∧ o = none) hs hb hD hn (fun i u u' h1 h2 k => ⟨hJ i u u' h1.1 h2 (k.weak fun b _ hb => ⟨by omega, by omega⟩), h1.2⟩) (fun i u p g o h1 h2 h3 h4 h5 h6 _ _ => (hstep i u p g h1 h2 h3.1 h4 h5 h6).mono fun y w' h => ⟨h.1, none, ⟨h.2.1, rfl⟩, fun q hq => (by cases hq), h.2.2.weak fun b _ hb => hb.1⟩) ⟨h0, rfl⟩).mono fun v w' ⟨⟨o, h1, _⟩, h2⟩ => ⟨h1.1, h2⟩
end
theorem balH_all {s : List Post} {a : Acc} {hr : Int} (h : ∀ q ∈ s, q.hour ≤ hr) : balH s a hr = balL s a := by
  unfold balH; rw [List.filter_eq_self.2 fun q hq => by simpa using h q hq]
theorem balH_snoc {s : List Post} {p : Post} {hr : Int} (h : LOk (s ++ [p])) (hp : p.hour ≤ hr) : accSet (accSet (fun a => balH s a hr) p.fa (balL (s ++ [p]) p.fa)) p.ta (balL (s ++ [p]) p.ta) = fun a => balH (s ++ [p]) a hr := by
  have hpw := (List.pairwise_append.1 h.hours).2.2
  have h1 : ∀ q ∈ s, q.hour ≤ hr := fun q hq => by have := (hpw q hq p (by simp)).1; omega
  have h2 : ∀ q ∈ s ++ [p], q.hour ≤ hr := fun q hq => by
    rcases List.mem_append.1 hq with hq | hq
    · exact h1 q hq
    · rw [List.mem_singleton] at hq; rw [hq]; exact hp
  funext a
  rw [balH_all h2]; unfold accSet
  by_cases q : a = p.ta
  · rw [if_pos q, q]
  · rw [if_neg q]
    by_cases q2 : a = p.fa
    · rw [if_pos q2, q2]
    · rw [if_neg q2, balL_snoc, posD_not q2 q, Int.add_zero]; exact balH_all h1
theorem balH_skip {s : List Post} {p : Post} {hr : Int} (hp : ¬ p.hour ≤ hr) : (fun a => balH (s ++ [p]) a hr) = fun a => balH s a hr := by
  funext a
  unfold balH; rw [List.filter_append, List.filter_cons_of_neg (by simpa using hp)]; simp
section
variable {w : World}
set_option maxRecDepth 8000 in
set_option maxHeartbeats 4000000 in
theorem c_gcheck {D : Nat → Prop} {l : List Post} {A : Option Addr} {n c : Nat} {hr : Int} (hs : SlR tPost D w A n l) : CallZ Tryz.prog 42 #[.agg #[.slice A n c], iv hr] w
    (fun v w' => Ext w w' ∧ ∃ o : Option Nat, v = .tuple #[.map o, iv (ldgErr l)] ∧ (ldgErr l = 0 → ∃ g, o = some g ∧ w.heap.size ≤ g ∧ MapAs w' g (fun a => balH l a hr))) := by
  have hs := hs.more (D' := fun b => b < w.heap.size) (by decide) fun b hb _ => hb; have hlen := hs.len; refine fn_rule (args := [.agg #[.slice A n c], iv hr]) Tryz.func42 (by kernel_rfl) ?_; refine box (fun b2 w1 h1 => ?_); refine box (fun b3 w2 h2 => ?_); refine alloc (fun b4 w3 h3 => ?_); have B2 : Blk w3 b2 24 [.slice A n c] := (h1.blk.ext h2.ext).ext h3.ext; have B3 : Blk w3 b3 3 [iv hr] := h2.blk.ext h3.ext; have B4 : Blk w3 b4 92 [.map none] := h3.blk; have e2 := h1.at_; have e3 := h2.at_; have e4 := h3.at_; have x3 := (h1.ext.trans h2.ext).trans h3.ext; have s1 := h1.ext.size; have s2 := h2.ext.size; have l2 := (h1.blk.ext h2.ext).lt; have l3 := h2.blk.lt; have l4 := B4.lt; refine fldA ?_; refine ld (.slice A n c) (B2.cell rfl) ?_; refine len ?_; refine cD (fun g1 => ?_) (fun g1 => ?_)
  · refine st1 B4 rfl (fun w4 B4 k4 => ?_); refine ret ?_; refine resL _ (holds_cell (B4.cell rfl)) ?_
    have he : ldgErr l = 2 := by unfold ldgErr; rw [if_pos (by omega)]
    exact ⟨x3.then k4 fun b hb _ e => by omega, none, by rw [he]; rfl, fun h => by rw [he] at h; cases h⟩
  have hn : n ≤ 4096 := by omega
  refine alloc (fun b6 w4 h4 => ?_); refine st1 h4.blk rfl (fun w5 B6 k5 => ?_); have e6 := h4.at_; have B6 : Blk w5 b6 3 [iv 0] := B6; have l6 := B6.lt
  have x35 : Ext w3 w5 := h4.ext.then k5 fun b hb _ e => by omega
  refine mmap (fun g w6 hg hw6 => ?_)
  have x56 : Ext w5 w6 := by rw [hw6]; exact Kept.alloc _ _ _
  have M6 : MapAs w6 g (balL []) := by rw [hw6, hg]; exact MapAs.new w5
  have lg := M6.lt; have s35 := x35.size; have s56 := x56.size; refine st1 (B4.ext (x35.trans x56)) rfl (fun w7 B4 k7 => ?_); have B4 : Blk w7 b4 92 [.map (some g)] := B4; have M7 := M6.kept k7 (show g ≠ b4 by omega); have x37 : Kept (fun b => b ≠ b4) w3 w7 := (Ext.any (D := fun b => b ≠ b4) (x35.trans x56)).trans k7; have s7 := k7.size; have B2 := B2.kept x37 (show b2 ≠ b4 by omega); have B3 := B3.kept x37 (show b3 ≠ b4 by omega); have B6 := (B6.ext x56).kept k7 (show b6 ≠ b4 by omega); refine fldA ?_; refine ld (.slice A n c) (B2.cell rfl) ?_; refine call_of c_gvalid ?_; rintro _ w9 ⟨bb, rfl, x79, Bb, hbb⟩; have s79 := x79.size; have lbb := Bb.lt; clear h1 h2 h3 h4 hw6; refine range (gf := 96) (lb := #[ptr bb]) rfl (fun fn tmps w10 R hRR hF' hwf x10 z10 hD10 hl10 => ?_); show CallZ _ _ #[.func (.yield (w9.heap.size + 1)) #[] #[], ptr bb] w10 _; have x710 := x79.trans x10; have x310 : Kept (fun b => b ≠ b4) w3 w10 := x37.ext x710
  have x010 : Ext w w10 := x3.then x310 fun b hb _ e => by omega
  have s10 := x710.size; have B2 := B2.ext x710; have B3 := B3.ext x710; have B4 := B4.ext x710; have B6 := B6.ext x710; have M10 := M7.kept x710 trivial; have hs10 := hs.ext x010; have hs10 : SlR tPost (fun b => b ≠ b6 ∧ b ≠ g ∧ b ≠ w9.heap.size + 1) w10 A n l := hs10.more (by decide) fun b _ h => ⟨by omega, by omega, by omega⟩; refine (c_gvalid1 (D := fun b => b ≠ b6 ∧ b ≠ g ∧ b ≠ w9.heap.size + 1) (fun i y => LoopAt y (w9.heap.size + 1) R ∧ Blk y b6 3 [iv (i : Int)] ∧ MapAs y g (fun a => balH (l.take i) a hr)) hs10 (Bb.ext x10) (fun b hb => ⟨by omega, by omega, by omega⟩) hn ?_ ?_ ⟨hl10, B6, M10⟩).mono ?_
  · rintro i u u' ⟨j1, j2, j3⟩ - ku; exact ⟨j1.kept ku (by omega), j2.kept ku (by omega), j3.kept ku (by omega)⟩
  · rintro i y p g' hp hok ⟨ly, B6, My⟩ ky Mg hg'; have hi : i < l.length := (List.getElem?_eq_some_iff.1 hp).1
    have htk : l.take (i + 1) = l.take i ++ [p] := by rw [List.take_add_one, hp]; rfl
    rw [htk] at hok Mg; subst hRR; have sy := ky.size; have lMg := Mg.lt; refine yield_rule (args := [.agg p.c.toArray, .map (some g')]) ly rfl rfl hF' hwf ?_; refine alloc (fun b7 u1 q1 => ?_); refine stA (vs := p.c) q1.blk rfl (Nat.le_of_ble_eq_true rfl) (by simp [Value.oneCell']) (fun u2 B7 k2 zs => ?_); have e7 := q1.at_; have B7 : Blk u2 b7 26 p.c := B7
    have xy2 : Ext y u2 := q1.ext.then k2 fun b hb _ e => by omega
    refine mid' (ly.kept xy2 trivial) (fun u3 k3 zk3 l3 => ?_); have zxy2 := xy2.size; have ky3 : Kept (fun b => b ≠ w9.heap.size + 1) y u3 := (Ext.any xy2).then k3 fun b _ h => h; have k03 : Kept (fun b => b ≠ b6 ∧ b ≠ g ∧ b ≠ w9.heap.size + 1) w10 u3 := ky.then ky3 fun b _ h => h.2.2; have B7 := B7.kept k3 (by omega); have B6 := B6.kept ky3 (by omega); have My := My.kept ky3 (by omega); have Mg := Mg.kept ky3 (by omega); have B3 := B3.kept k03 ⟨by omega, by omega, by omega⟩; have B4 := B4.kept k03 ⟨by omega, by omega, by omega⟩; have s3 := ky3.size; refine ld (iv (i : Int)) (B6.cell rfl) ?_; refine arI (by omega) ?_; refine st1 B6 rfl (fun u4 B6 k4 => ?_); have B6 : Blk u4 b6 3 [iv ((i : Int) + 1)] := B6; have ky4 : Kept (fun b => b ≠ w9.heap.size + 1 ∧ b ≠ b6) y u4 := (ky3.weak fun b _ h => h.1).then k4 fun b _ h => h.2; have B7 := B7.kept k4 (by omega); have My := My.kept k4 (by omega); have Mg := Mg.kept k4 (by omega); have B3 := B3.kept k4 (by omega); have B4 := B4.kept k4 (by omega); have l4' := l3.kept k4 (by omega); have s4 := k4.size; have l7 := B7.lt; refine fldA ?_; refine ld (iv p.hour) (B7.cell rfl) ?_; refine ld (iv hr) (B3.cell rfl) ?_; refine cD (fun hle => ?_) (fun hgt => ?_); rotate_left
    · refine roundN' _ l4' (fun u5 k5 l5 => ?_); refine ⟨rfl, ⟨l5, ?_, ?_⟩, (ky4.weak fun b _ h => ⟨h.2.2, h.1⟩).then k5 fun b _ h => h.2.2⟩
      · rw [Int.natCast_add]; exact B6.kept k5 (by omega)
      · rw [htk, balH_skip hgt]; exact My.kept k5 (by omega)
    refine fldA ?_; refine ld (iv p.frm) (B7.cell rfl) ?_; refine fldA ?_; refine ld (iv p.to) (B7.cell rfl) ?_; refine lit [iv p.frm, iv p.to] (fun gs u5 hq => ?_); have es := hq.at_; have B6 := B6.ext hq.ext; have B7 := B7.ext hq.ext; have My := My.kept hq.ext trivial; have Mg := Mg.kept hq.ext trivial; have B4 := B4.ext hq.ext; have l5 := l4'.kept hq.ext trivial; have s5 := hq.ext.size; obtain ⟨F, hF⟩ : ∃ F, F = fun a => balH (l.take i) a hr := ⟨_, rfl⟩; obtain ⟨H, hH⟩ : ∃ H, H = balL (l.take i ++ [p]) := ⟨_, rfl⟩; rw [← hF] at My; rw [← hH] at Mg; refine len ?_; refine loop_rule (fun k : Nat => [(34, iv (k : Int))]) (fun k u => k ≤ 2 ∧ Kept (fun b => b ≠ g) u5 u ∧ MapAs u g (if k = 0 then F else if k = 1 then accSet F p.fa (H p.fa) else accSet (accSet F p.fa (H p.fa)) p.ta (H p.ta))) (fun k _ => 2 - k) 0 ⟨rfl, trivial⟩ ⟨by omega, .refl _ _, My⟩ rfl ?_; rintro G2 k u ⟨hk, ku, Mu⟩; have su := ku.size; refine cD (fun hlt => ?_) (fun hge => ?_)
    · have Bs := hq.blk.kept ku (show gs ≠ g by omega); have B7 := B7.kept ku (by omega); have B4 := B4.kept ku (by omega); have Mg := Mg.kept ku (show g' ≠ g by omega); have lMu := Mu.lt
      obtain ⟨x, acc, hx, hacc, hxa⟩ : ∃ x, ∃ acc : Acc, ([iv p.frm, iv p.to] : List Value)[k]? = some (iv x) ∧ acc = (p.sort, x) ∧ ((k = 0 ∧ acc = p.fa) ∨ (k = 1 ∧ acc = p.ta)) := by
        rcases (show k = 0 ∨ k = 1 by omega) with rfl | rfl
        · exact ⟨p.frm, _, rfl, rfl, .inl ⟨rfl, rfl⟩⟩
        · exact ⟨p.to, _, rfl, rfl, .inr ⟨rfl, rfl⟩⟩
      refine idx k rfl (by omega) ?_; refine ld (iv x) (Bs.cell (by rw [Nat.mul_one, Nat.zero_add]; exact hx)) ?_; refine fldA ?_; refine ld (iv p.sort) (B7.cell rfl) ?_; refine bld [iv p.sort, iv x] (by kernel_rfl) ?_; refine alloc (fun b11 u6 q6 => ?_); refine stA (vs := [iv p.sort, iv x]) q6.blk rfl (Nat.le_of_ble_eq_true rfl) (by simp [Value.oneCell']) (fun u7 B11 k7' z7 => ?_); have e11 := q6.at_; have B11 : Blk u7 b11 97 [iv p.sort, iv x] := B11
      have xu7 : Ext u u7 := q6.ext.then k7' fun b hb _ e => by omega
      have B4 := B4.ext xu7; have Mg := Mg.kept xu7 trivial; have Mu := Mu.kept xu7 trivial; have s7 := xu7.size; refine drawP (.take 0 (.take 1 (.take 2 (.take 3 (.take 4 (.eff 5 .done)))))) [] (fun y => Kept (fun b => b ≠ g) u7 y) mx (by kernel_rfl) (.refl _ _) ?_; refine ldK (.map (some g)) (B4.cell rfl) (show b4 ≠ g by omega) (.refl _ _) ?_; refine ldAK [iv p.sort, iv x] (.blk B11) rfl (show b11 ≠ g by omega) (.refl _ _) ?_; refine ldAK [iv p.sort, iv x] (.blk B11) rfl (show b11 ≠ g by omega) (.refl _ _) ?_; refine lookG1 (kv := kvA) (p.sort, x) (iv (H (p.sort, x))) (fun y hy => (Mg.kept hy (show g' ≠ g by omega)).g _) ?_; refine mupdAc (p.sort, x) Mu (fun u8 M8 k8 z8 => ?_); refine strS k8 ?_; refine arI (by omega) ?_; refine next (k + 1) ⟨by rw [Int.natCast_add]; rfl, trivial⟩ ⟨by omega, (ku.ext xu7).trans k8, ?_⟩ (by omega); rw [← hacc] at M8; rcases hxa with ⟨rfl, rfl⟩ | ⟨rfl, rfl⟩
      · exact M8
      · exact M8
    · have hk2 : k = 2 := by omega
      subst hk2; rw [if_neg (by decide), if_neg (by decide), hF, hH, balH_snoc hok hle] at Mu; refine roundN' _ (l5.kept ku (by omega)) (fun u6 k6 l6 => ?_); refine ⟨rfl, ⟨l6, ?_, ?_⟩, (((ky4.weak fun b _ h => ⟨h.2.2, h.1⟩).ext hq.ext).then ku fun b _ h => h.2.1).then k6 fun b _ h => h.2.2⟩
      · rw [Int.natCast_add]; exact (B6.kept ku (by omega)).kept k6 (by omega)
      · rw [htk]; exact Mu.kept k6 (by omega)
  · rintro _ y ⟨⟨ly, B6, My⟩, ky⟩; subst hRR; refine range_end _ ly (by simp) (fun y1 k1 => ?_); have k01 : Kept (fun b => b ≠ b6 ∧ b ≠ g ∧ b ≠ w9.heap.size + 1) w10 y1 := ky.then k1 fun b _ h => h.2.2; have B2 := B2.kept k01 ⟨by omega, by omega, by omega⟩; have B4 := B4.kept k01 ⟨by omega, by omega, by omega⟩; have B6 := B6.kept k1 (by omega); have My := My.kept k1 (by omega); have s1' := k01.size; have xw1 : Ext w y1 := x010.then k01 fun b hb _ => ⟨by omega, by omega, by omega⟩; have hD1 : y1.heap[w9.heap.size]? = some (.deferred (some [])) := (k01.blk _ (by omega) ⟨by omega, by omega, by omega⟩).trans hD10; refine ld (iv (vN l : Int)) (B6.cell rfl) ?_; refine fldA ?_; refine ld (.slice A n c) (B2.cell rfl) ?_; refine len ?_; refine cD (fun hlt => ?_) (fun hge => ?_)
    · have he : ldgErr l = 560 := by
        unfold ldgErr; rw [if_neg (by omega), if_neg fun h => by have := vN_all.2 h; omega]
      refine st1 B4 rfl (fun y2 B4 k2 => ?_); have hD2 : y2.heap[w9.heap.size]? = some (.deferred (some [])) := (k2.blk _ (by omega) (by omega)).trans hD1; refine retM hD2 ?_; have k3 := Kept.putObj y2 w9.heap.size (.deferred none); refine resL _ (holds_cell ((B4.kept k3 (by omega)).cell rfl)) ?_; exact ⟨(xw1.then k2 fun b hb _ e => by omega).then k3 fun b hb _ e => by omega, none, by rw [he]; rfl, fun h => by rw [he] at h; cases h⟩
    · have hv : vN l = l.length := by have := (vN_spec l).1; omega
      have he : ldgErr l = 0 := ldgErr_0.2 ⟨by omega, vN_all.1 hv⟩; rw [hv, List.take_length] at My; refine ld (.map (some g)) (B4.cell rfl) ?_; refine st1 B4 rfl (fun y2 B4 k2 => ?_); have hD2 : y2.heap[w9.heap.size]? = some (.deferred (some [])) := (k2.blk _ (by omega) (by omega)).trans hD1; refine retM hD2 ?_; have k3 := Kept.putObj y2 w9.heap.size (.deferred none); refine resL _ (holds_cell ((B4.kept k3 (by omega)).cell rfl)) ?_; exact ⟨(xw1.then k2 fun b hb _ e => by omega).then k3 fun b hb _ e => by omega, some g, by rw [he]; rfl, fun _ => ⟨g, rfl, by omega, (My.kept k2 (by omega)).kept k3 (by omega)⟩⟩
end
end Go.Proofs.YtehcphboliofaaaGreatDoor
namespace Go.Proofs.YtehcphboliofaaaGreatDoor
open Go Go.RowKit Go.Sort
structure Pr2 where
  a : Int
  n : Int
  h : 0 ≤ a ∧ a ≤ 4095
instance : Inhabited Pr2 := ⟨⟨0, 0, by omega⟩⟩
abbrev encP2 (p : Pr2) : List Value := [.int .i64 p.a, .int .i64 p.n]
set_option maxRecDepth 100000 in
theorem k_bal1 (x y : Pr2) (W : World) : Calls Tryz.prog 47 #[.agg (encP2 x).toArray, .agg (encP2 y).toArray] W fun e w' => e = .returned (.int .i64 (x.a - y.a)) ∧ ∃ q os', w' = grow (W.drewN q) os' := by
  obtain ⟨xa, xn, hx⟩ := x; obtain ⟨ya, yn, hy⟩ := y; have hwr : IntKind.i64.wrap (xa - ya) = xa - ya := IntWalk.i64_in _ (by omega)
  go_enter Tryz.func47, Tryz.ntmps47
  go_wp2
  go_ret
  refine ⟨rfl, 0, #[Obj.cells #[Value.int .i64 xa, Value.int .i64 xn] 74, Obj.cells #[Value.int .i64 ya, Value.int .i64 yn] 74], ?_⟩; rw [alloc_eq_grow, alloc_eq_grow, grow_grow]
  rfl
end Go.Proofs.YtehcphboliofaaaGreatDoor
namespace Go.Proofs
open Go.Shelf Go.RowKit Go.Lib Go.Sort
shelf_lay_g SlLaysF0.n6 Slsf 6 at Tryz 46 as Tryz.psort
#print axioms Tryz.psort
end Go.Proofs
namespace Go.Proofs.YtehcphboliofaaaGreatDoor
open Go Go.Shelf Go.RowKit Go.Lib Go.Sort
set_option maxHeartbeats 2000000 in
theorem k_ins0 (fv : Value) (W : World) : Calls Tryz.prog 139 #[.slice none 0 0, .int .i64 0, .int .i64 0, fv] W fun e w' => e = .returned (.tuple #[]) ∧ w' = W := by
  go_enter Tryz.func139, Tryz.ntmps139
  go_wp2
  refine wp_loop_rounds 1 ?_; rw [rounds_succ]
  go_wp2
  go_end0
  exact ⟨rfl, rfl⟩
set_option maxHeartbeats 2000000 in
theorem k_pdq0 (lim : Int) (fv : Value) (W : World) : Calls Tryz.prog 82 #[.slice none 0 0, .int .i64 0, .int .i64 0, .int .i64 lim, fv] W fun e w' => e = .returned (.tuple #[]) ∧ w' = W := by
  have hi := fun W => k_ins0 fv W
  go_enter Tryz.func82, Tryz.ntmps82
  go_wp2
  refine wp_loop_rounds 1 ?_; rw [rounds_succ]
  go_wp2_with (go_at_call 139; refine (hi _).mono ?_; rintro e w' ⟨rfl, rfl⟩)
  (try simp only [Exit.inBlock, Exit.then]); refine bodyPost_ret (results_none rfl _ _ _) rfl ?_
  exact ⟨rfl, rfl⟩
set_option maxHeartbeats 2000000 in
theorem k_len0 (W : World) : ∃ n : Int, Calls Tryz.prog 83 #[.int .u64 0] W fun e w' => e = .returned (.int .i64 n) ∧ w' = W :=
  ⟨_, Any.bits_Len (SlLaysF0.n15.bits { Tryz.psort with }) 0 W (by omega) (by omega)⟩
set_option maxHeartbeats 2000000 in
theorem k_sort0 (fv : Value) (W : World) : Calls Tryz.prog 46 #[.slice none 0 0, fv] W fun e w' => e = .returned (.tuple #[]) ∧ w' = W := by
  have hp := fun lim W => k_pdq0 lim fv W; obtain ⟨n, hl⟩ := k_len0 W
  go_enter Tryz.func46, Tryz.ntmps46
  go_wp2_with (first | (go_at_call 83; refine hl.mono ?_; rintro e w' ⟨rfl, rfl⟩) | (go_at_call 82; refine (hp _ _).mono ?_; rintro e w' ⟨rfl, rfl⟩))
  go_end0
  exact ⟨rfl, rfl⟩
end Go.Proofs.YtehcphboliofaaaGreatDoor
namespace Go.Proofs.YtehcphboliofaaaGreatDoor
open Go Go.RowKit Go.Sort Go.Shelf Classical
theorem encP2_len (s : List Pr2) : (s.flatMap encP2).length = s.length * 2 := by
  induction s with
  | nil => rfl
  | cons a s ih => rw [List.flatMap_cons, List.length_append, ih]; show 2 + s.length * 2 = (s.length + 1) * 2; omega
theorem encP2_at : ∀ {s : List Pr2} {j : Nat} {x : Pr2} (m : Nat), s[j]? = some x → m < 2 → (s.flatMap encP2)[j * 2 + m]? = (encP2 x)[m]?
  | [], j, x, m, h, _ => by simp at h
  | a :: s, 0, x, m, h, hm => by
    simp at h; subst h
    rw [List.flatMap_cons, Nat.zero_mul, Nat.zero_add, List.getElem?_append_left (by show m < 2; exact hm)]
  | a :: s, j + 1, x, m, h, hm => by
    rw [List.flatMap_cons, List.getElem?_append_right (by show 2 ≤ _; omega), show (j + 1) * 2 + m - (encP2 a).length = j * 2 + m from by show (j + 1) * 2 + m - 2 = _; omega]
    exact encP2_at m (by simpa using h) hm
theorem flatP2_at {d : Array Pr2} {t : Nat} (h : t < d.size * 2) : some ((flatK encP2 2 d)[t]!) = (d.toList.flatMap encP2)[t]? := by
  rw [get_flatK encP2 2 d t h]
  have hq : t / 2 < d.size := by omega
  have e := encP2_at (s := d.toList) (j := t / 2) (x := d[t / 2]) (t % 2) (by rw [Array.getElem?_toList, Array.getElem?_eq_getElem hq]) (by omega); rw [show t / 2 * 2 + t % 2 = t by omega] at e; rw [e, getElem!_pos d (t / 2) hq]
  have : t % 2 = 0 ∨ t % 2 = 1 := by omega
  rcases this with h | h <;> rw [h] <;> rfl
section
variable {w : World} {g n : Nat} {t : TypeId} {s : List Pr2} {rest : List Value} {d : Array Pr2} {os : Array Obj}
theorem holdsP2_blk (h : Blk w g t (s.flatMap encP2 ++ rest)) : HoldsK encP2 2 w g 0 s.toArray := by
  intro j hj; rw [size_flatK] at hj; refine ⟨?_, h.frozen _⟩; have e := flatP2_at hj; show w.cell? (ad g (0 + j)) = some (flatK encP2 2 s.toArray)[j]!; rw [e, Nat.zero_add]
  have hj' : j < (s.flatMap encP2).length := by rw [encP2_len]; simpa using hj
  rw [List.getElem?_eq_getElem hj']; exact h.cell (by rw [List.getElem?_append_left hj', List.getElem?_eq_getElem hj'])
theorem sortP2_blk (h : Blk w g t (s.flatMap encP2 ++ rest)) (hd : d.size = s.length) : Blk (sortWorldK encP2 2 w g 0 n d os) g t (d.toList.flatMap encP2 ++ rest) := by
  have hlt := h.lt; unfold Blk at h; show ((w.heap.modify g (onCells (putCells id 0 (flatK encP2 2 d)))) ++ os)[g]? = _; rw [Array.getElem?_append_left (by simpa using hlt), Array.getElem?_modify, if_pos rfl, h]; show some (Obj.cells (putCells id 0 (flatK encP2 2 d) (s.flatMap encP2 ++ rest).toArray) t (0, 0)) = some (Obj.cells (d.toList.flatMap encP2 ++ rest).toArray t (0, 0))
  have key : putCells id 0 (flatK encP2 2 d) (s.flatMap encP2 ++ rest).toArray = (d.toList.flatMap encP2 ++ rest).toArray := by
    apply Array.ext_getElem?; intro j; unfold putCells; rw [Array.getElem?_mapIdx, List.getElem?_toArray, List.getElem?_toArray]; have l1 : (s.flatMap encP2).length = s.length * 2 := encP2_len s
    have l2 : (d.toList.flatMap encP2).length = s.length * 2 := by rw [encP2_len]; simp [hd]
    by_cases hj : j < s.length * 2
    · rw [List.getElem?_append_left (by omega), List.getElem?_append_left (by omega), List.getElem?_eq_getElem (by omega)]; show some (if _ then _ else _) = _; rw [if_pos (by rw [size_flatK, hd]; omega), Nat.sub_zero]; exact flatP2_at (by rw [hd]; exact hj)
    · rw [List.getElem?_append_right (by omega), List.getElem?_append_right (by omega), l1, l2]
      cases hr : rest[j - s.length * 2]? with
      | none => rfl
      | some v =>
        show some (if _ then _ else _) = _; rw [if_neg (by rw [size_flatK, hd]; omega)]
  rw [key]
theorem sortP2_kept : Kept (fun b => b ≠ g) w (sortWorldK encP2 2 w g 0 n d os) := by
  refine ⟨rfl, rfl, rfl, ?_, fun i hi hne => ?_⟩
  · show w.heap.size ≤ ((w.heap.modify g _) ++ os).size; simp
  · show ((w.heap.modify g _) ++ os)[i]? = w.heap[i]?; rw [Array.getElem?_append_left (by simpa using hi), Array.getElem?_modify, if_neg (fun e => hne e.symm)]
end
def cmpP2 (x y : Pr2) : Int := x.a - y.a
theorem cmpP2_lt (x y : Pr2) : ltOf cmpP2 x y = true ↔ x.a < y.a := by
  unfold ltOf cmpP2; rw [decide_eq_true_eq]; omega
theorem cmpP2_nlt (x y : Pr2) : ltOf cmpP2 x y = false ↔ ¬ x.a < y.a := by
  rw [← cmpP2_lt]; simp
theorem cmpP2_swo : SWO (ltOf cmpP2) where
  irrefl x := by rw [cmpP2_nlt]; omega
  trans x y z h1 h2 := by rw [cmpP2_lt] at *; omega
  ntrans x y z h1 h2 := by rw [cmpP2_nlt] at *; omega
section
variable {w : World}
set_option maxRecDepth 100000 in
theorem c_sortP2 {g n c : Nat} {t : TypeId} {s : List Pr2} {rest : List Value} (hb : Blk w g t (s.flatMap encP2 ++ rest)) (hn : n = s.length) (hl : s.length ≤ 1000000) (hnd : (s.map Pr2.a).Nodup) :
    CallZ Tryz.prog 46 #[.slice (some (ad g 0)) n c, .func (.func 47) #[] #[]] w (fun v w' => v = .tuple #[] ∧ ∃ s' : List Pr2, s'.Perm s ∧ s'.Pairwise (fun a b => a.a < b.a) ∧ Blk w' g t (s'.flatMap encP2 ++ rest) ∧ Kept (fun b => b ≠ g) w w') := by
  intro w0 hw; subst hw; subst hn; rw [callsIn_wide]; obtain ⟨i, hi, hs⟩ := (aggSize_spec (P := Tryz.prog) (t := 74) (n := 2) (by kernel_rfl)).2
  have hcon := AnyQ.slices_SortFunc Tryz.psort 2 (fun w => run_isAgg_agg (P := Tryz.prog) (t := 74) (n := 2) (by kernel_rfl) w) (fun w => by have := run_sizeOf (P := Tryz.prog) hi w; rw [hs] at this; exact this) encP2 (fun _ => rfl)
    (fun x v hv => by simp only [List.mem_cons, List.not_mem_nil, or_false] at hv; rcases hv with rfl | rfl <;> rfl) cmpP2 cmpP2_swo 47 #[] g 0 c s.toArray w0 (enters_of Tryz.func47 (by kernel_rfl) rfl)
    (fun m os dk hdk x y => k_bal1 x y _) (holdsP2_blk (w := w0) hb) hb.lt (by simp; omega)
  change Calls Tryz.prog 46 _ _ _ at hcon
  rw [show s.toArray.size = s.length from List.size_toArray ..] at hcon; refine hcon.mono ?_; rintro e w' ⟨rfl, d', m, os, hp, hso, rfl⟩
  have hds : d'.size = s.length := by have := hp.1; simpa using this
  have hperm : d'.toList.Perm s := by
    have := hp.2.2; rw [Array.extract_eq_self_of_le (by omega), Array.extract_eq_self_of_le (by simp)] at this
    simpa using this
  refine ⟨_, rfl, rfl, d'.toList, hperm, ?_, sortP2_blk (w := w0) hb hds, ⟨rfl, rfl, rfl, (sortP2_kept (w := w0)).size, (sortP2_kept (w := w0)).blk⟩⟩; have hnd' : (d'.toList.map Pr2.a).Nodup := (hperm.map _).nodup_iff.2 hnd; rw [List.pairwise_iff_getElem]; intro a b ha hb' hab
  have ha' : a < d'.size := by simpa using ha
  have hb'' : b < d'.size := by simpa using hb'
  have h1 := hso a b (Nat.zero_le _) hab (by omega); rw [getElem!_pos d' b hb'', getElem!_pos d' a ha', cmpP2_nlt] at h1
  have hne : d'[a].a ≠ d'[b].a := by
    have := List.pairwise_iff_getElem.1 hnd' a b (by simpa using ha) (by simpa using hb') hab
    simpa using this
  rw [Array.getElem_toList, Array.getElem_toList]; omega
end
end Go.Proofs.YtehcphboliofaaaGreatDoor
namespace Go.Proofs.YtehcphboliofaaaGreatDoor
open Go Go.RowKit Classical
theorem eqNilL {P : Program} {t e : TypeId} {sz : Nat} [h : SliceTy P t e sz] {xo yo : Operand} {A : Option Addr} {n c : Nat} {K : Value → Prop} (k1 : A = none → K (.bool true)) (k2 : A ≠ none → K (.bool false)) : BinP P .eql t xo yo (.slice A n c) (.slice none 0 0) K := by
  rw [BinP_eq]; obtain ⟨hu, _⟩ := sliceOf_spec h.h; refine pure_vval (x := .bool A.isNone) (fun w => ?_) ?_
  · have h1 : (eqGuard .eql t xo yo (.slice A n c) (.slice none 0 0)).run P w = .ok () w := rfl; have h2 : binOp .eql t (.slice A n c) (.slice none 0 0) = (do pure (.bool (← Op.equal t (.slice A n c) (.slice none 0 0)))) := rfl; rw [Sem.run_bind, h1, h2]; simp only [Result.andThen_ok, Sem.run_bind, run_equal_slice_nil w t e A n c hu, Sem.run_pure]
  · cases A with
    | none => exact k1 rfl
    | some a => exact k2 (by simp)
theorem flat_posts {D : Nat → Prop} {w : World} : ∀ {s : List Post}, FlatR tPost D w s (s.flatMap Post.c)
  | [] => rfl
  | p :: s => ⟨p.c, s.flatMap Post.c, rfl, rfl, flat_posts⟩
theorem flat_post_eq {D : Nat → Prop} {w : World} : ∀ {s : List Post} {cs : List Value}, FlatR tPost D w s cs → cs = s.flatMap Post.c
  | [], cs, h => h
  | p :: s, cs, ⟨c, r, h, h1, h2⟩ => by
    have h1 : c = p.c := h1
    rw [h, h1, flat_post_eq h2, List.flatMap_cons]
theorem posts_len (s : List Post) : (s.flatMap Post.c).length = s.length * 6 := by
  induction s with
  | nil => rfl
  | cons a s ih => rw [List.flatMap_cons, List.length_append, ih]; show 6 + s.length * 6 = (s.length + 1) * 6; omega
theorem posts_src {D : Nat → Prop} {w : World} {A : Option Addr} {n : Nat} {s : List Post} (h : SlR tPost D w A n s) : Src w A n 6 (s.flatMap Post.c) := by
  refine ⟨by rw [posts_len, h.len], fun h0 => ?_⟩; obtain ⟨b, o, cs, x, rfl, -⟩ := h.at_ h0; obtain ⟨cs, hf, hc⟩ := h.cells; exact ⟨b, o, rfl, by rw [← flat_post_eq hf]; exact hc⟩
theorem posts_one : ∀ (s : List Post), ((s.flatMap Post.c).all fun u => u.oneCell') = true
  | [] => rfl
  | p :: s => by
    rw [List.flatMap_cons, List.all_append, posts_one s, Bool.and_true]
    rfl
theorem own_tyL {w0 w : World} {A : Option Addr} {n c sz : Nat} {e t : TypeId} {cs xs : List Value} {b : Nat} (h : OwnF w0 w A n c e sz cs) (hb : Blk w b t xs) (hne : t ≠ e) : A ≠ some (ad b 0) := fun e2 => by
  obtain ⟨rest, hb3, _⟩ := Own.blk (e2 ▸ h.own)
  exact hne (hb.uniq hb3).1
theorem own_posts {w0 u : World} {A : Option Addr} {n c : Nat} {l : List Post} {D : Nat → Prop} (o : OwnF w0 u A n c 26 6 (l.flatMap Post.c)) (h : n ≤ 1000000) (hD : ∀ b, w0.heap.size ≤ b → D b) : SlR tPost D u A n l :=
  o.own.rd (a := tPost) flat_posts (by have := o.own.len; rw [posts_len] at this; have : l.length * 6 = n * 6 := this; omega) (by omega) fun g hg => hD g (o.new g hg)
noncomputable def balE (l : List Post) (sort num hr : Int) : Int := if ldgErr l ≠ 0 then ldgErr l else if gwithin sort 1 2 = true ∧ gwithin num 0 4095 = true ∧ gwithin hr 0 4096 = true then 0 else 1
noncomputable def postE (l : List Post) (p : Post) : Int := if ldgErr l ≠ 0 then ldgErr l else ldgErr (l ++ [p])
section
variable {D : Nat → Prop} {w : World} {l : List Post} {A : Option Addr} {n c : Nat}
theorem c_gCheck (hs : SlR tPost D w A n l) : CallZ Tryz.prog 18 #[.agg #[.slice A n c]] w (fun v w' => v = iv (ldgErr l) ∧ Ext w w') := by
  refine fn_rule (args := [.agg #[.slice A n c]]) Tryz.func18 (by kernel_rfl) ?_; refine box (fun b1 w1 h1 => ?_); refine ldA [.slice A n c] (.blk h1.blk) rfl ?_; refine call_of (c_gcheck (hr := 0) (hs.ext h1.ext)) ?_; rintro _ w2 ⟨x2, m, rfl, -⟩; exact ret1 (iv (ldgErr l)) rfl ⟨rfl, h1.ext.trans x2⟩
theorem c_gBalance {sort num hr : Int} (hs : SlR tPost D w A n l) : CallZ Tryz.prog 14 #[.agg #[.slice A n c], iv sort, iv num, iv hr] w (fun v w' => v = .tuple #[iv (if balE l sort num hr = 0 then balH l (sort, num) hr else 0), iv (balE l sort num hr)] ∧ Ext w w') := by
  refine fn_rule (args := [.agg #[.slice A n c], iv sort, iv num, iv hr]) Tryz.func14 (by kernel_rfl) ?_; refine box (fun b1 w1 h1 => ?_); refine ldA [.slice A n c] (.blk h1.blk) rfl ?_; refine call_of (c_gcheck (hr := hr) (hs.ext h1.ext)) ?_; rintro _ w2 ⟨x2, m, rfl, hm⟩; have x02 := h1.ext.trans x2; refine cN (fun he => ?_) (fun he => ?_)
  · have hE : balE l sort num hr = ldgErr l := by unfold balE; rw [if_pos he]
    rw [hE, if_neg he]; exact ret2 (iv 0) (iv (ldgErr l)) rfl rfl ⟨rfl, x02⟩
  obtain ⟨g, rfl, -, M⟩ := hm he
  have hE : balE l sort num hr = if gwithin sort 1 2 = true ∧ gwithin num 0 4095 = true ∧ gwithin hr 0 4096 = true then 0 else 1 := by unfold balE; rw [if_neg (fun h => h he)]
  have bad : ¬ (gwithin sort 1 2 = true ∧ gwithin num 0 4095 = true ∧ gwithin hr 0 4096 = true) → Value.tuple #[iv 0, iv 1] = .tuple #[iv (if balE l sort num hr = 0 then balH l (sort, num) hr else 0), iv (balE l sort num hr)] := fun h => by
    rw [hE, if_neg h]; rfl
  refine callB (c_gwithin sort 1 2) (fun p1 => ?_) (fun p1 => ?_); rotate_left
  · exact ret2 (iv 0) (iv 1) rfl rfl ⟨bad fun h => absurd h.1 (by rw [p1]; exact Bool.false_ne_true), x02⟩
  refine callB (c_gwithin num 0 4095) (fun p2 => ?_) (fun p2 => ?_); rotate_left
  · exact ret2 (iv 0) (iv 1) rfl rfl ⟨bad fun h => absurd h.2.1 (by rw [p2]; exact Bool.false_ne_true), x02⟩
  refine callB (c_gwithin hr 0 4096) (fun p3 => ?_) (fun p3 => ?_); rotate_left
  · exact ret2 (iv 0) (iv 1) rfl rfl ⟨bad fun h => absurd h.2.2 (by rw [p3]; exact Bool.false_ne_true), x02⟩
  rw [if_pos ⟨p1, p2, p3⟩] at hE; rw [hE, if_pos rfl]; refine bld [iv sort, iv num] (by kernel_rfl) ?_; refine lookG1 (kv := kvA) (sort, num) (iv (balH l (sort, num) hr)) (fun y hy => by subst hy; exact M.g _) ?_; exact ret2 (iv (balH l (sort, num) hr)) (iv 0) rfl rfl ⟨rfl, x02⟩
theorem c_gclone (hs : SlR tPost D w A n l) (hn : n ≤ 1000000) : CallZ Tryz.prog 41 #[.slice A n c] w (fun v w' => ∃ A' c', v = .slice A' n c' ∧ OwnF w w' A' n c' 26 6 (l.flatMap Post.c)) := by
  have hl := hs.len; refine fn_rule (args := [.slice A n c]) Tryz.func41 (by kernel_rfl) ?_; refine eqNilL (fun hA => ?_) (fun hA => ?_)
  · have h0 : n = 0 := by
      by_cases h : 0 < n
      · obtain ⟨b, o, cs, x, e, _⟩ := hs.at_ (k := 0) h; rw [hA] at e; cases e
      · omega
    subst h0; have hx : l = [] := List.eq_nil_of_length_eq_zero (by omega); subst hx; exact ret1 (.slice none 0 0) rfl ⟨none, 0, rfl, .nil (.refl _ _)⟩
  · refine lit [] (fun g w1 h1 => ?_); have o1 : OwnF w w1 (some (ad g 0)) 0 0 26 6 [] := OwnF.lit (cs := []) (.refl _ _) h1 rfl; refine appF o1 (posts_src (hs.ext h1.ext)) (by omega) (fun A' c' w3 o3 _ _ => ?_) (h1 := posts_one l); rw [List.nil_append, Nat.zero_add] at o3; exact ret1 (.slice A' (0 + n) c') rfl ⟨A', c', by rw [Nat.zero_add], o3⟩
theorem srcP6 {w : World} {g : Nat} {p : Post} (h : Blk w g 26 p.c) : Src w (some (ad g 0)) 1 6 p.c := ⟨rfl, fun _ => ⟨g, 0, rfl, fun j x hx => by rw [Nat.zero_add]; exact h.cell hx⟩⟩
set_option maxRecDepth 8000 in
theorem c_gPost {p : Post} (hs : SlR tPost D w A n l) : CallZ Tryz.prog 12 #[.agg #[.slice A n c], .agg p.c.toArray] w
    (fun v w' => Ext w w' ∧ ∃ B m c', v = .tuple #[.agg #[.slice B m c'], iv (postE l p)] ∧ ((postE l p ≠ 0 ∧ B = none ∧ m = 0 ∧ c' = 0) ∨ (postE l p = 0 ∧ SlR tPost (fun b => w.heap.size ≤ b) w' B m (l ++ [p]) ∧ m ≤ c'))) := by
  have hlen := hs.len; refine fn_rule (args := [.agg #[.slice A n c], .agg p.c.toArray]) Tryz.func12 (by kernel_rfl) ?_; refine box (fun b2 w1 h1 => ?_); refine box (fun b3 w2 h2 => ?_); refine alloc (fun b4 w3 h3 => ?_); have B2 : Blk w3 b2 24 [.slice A n c] := (h1.blk.ext h2.ext).ext h3.ext; have B3 : Blk w3 b3 26 p.c := h2.blk.ext h3.ext; have B4 : Blk w3 b4 24 [.slice none 0 0] := h3.blk; have e4 := h3.at_; have x3 := (h1.ext.trans h2.ext).trans h3.ext; have s3 := (h1.ext.trans h2.ext).size; refine ldA [.slice A n c] (.blk B2) rfl ?_; refine call_of (c_gCheck (hs.ext x3)) ?_; rintro _ w4 ⟨rfl, x4⟩; have B2 := B2.ext x4; have B3 := B3.ext x4; have B4 := B4.ext x4; have x04 := x3.trans x4; have s4 := x4.size; have l4 := h3.blk.lt; refine cN (fun he => ?_) (fun he => ?_)
  · refine ldA [.slice none 0 0] (.blk B4) rfl ?_; refine stA (vs := [.slice none 0 0]) B4 rfl (Nat.le_of_ble_eq_true rfl) (by simp [Value.oneCell']) (fun w5 B4 k5 z5 => ?_); have B4 : Blk w5 b4 24 [.slice none 0 0] := B4; refine ret ?_; refine resL _ (holds_agg (.blk B4) rfl) ?_
    have hE : postE l p = ldgErr l := by unfold postE; rw [if_pos he]
    exact ⟨x04.then k5 fun b hb _ e => by omega, none, 0, 0, by rw [hE]; rfl, .inl ⟨by rw [hE]; exact he, rfl, rfl, rfl⟩⟩
  have hE : postE l p = ldgErr (l ++ [p]) := by unfold postE; rw [if_neg (fun h => h he)]
  have hn := (ldgErr_0.1 he).1; have xc : Ext w4 w4 := .refl _ _; refine drawP (.take 0 (.take 1 (.take 3 (.alt 2 (.alt 4 (.alt 5 (.take 6 (.eff 7 (.eff 8 .done))) (.eff 7 (.eff 5 (.take 6 (.eff 8 .done))))) (.eff 7 (.eff 4 (.eff 5 (.take 6 (.eff 8 .done)))))) (.alt 4 (.alt 2 (.alt 5 (.take 6 (.eff 7 (.eff 8 .done))) (.eff 7 (.eff 5 (.take 6 (.eff 8 .done))))) (.eff 7 (.eff 2 (.eff 5 (.take 6 (.eff 8 .done)))))) (.eff 7 (.alt 2 (.eff 4 (.eff 5 (.take 6 (.eff 8 .done)))) (.eff 4 (.eff 2 (.eff 5 (.take 6 (.eff 8 .done)))))))))))) [] (fun y => Ext w4 y) mx (by kernel_rfl) (.refl _ _) ?_; refine fldA ?_; refine ldK (.slice A n c) (B2.cell rfl) trivial (.refl _ _) ?_; refine ldAK p.c (.blk B3) rfl trivial (.refl _ _) ?_; refine ⟨?p2, ⟨?p4, ?p7⟩⟩
  case' p2 =>
    have xb := xc; refine call_of (c_gclone ((hs.ext x04).ext xc) (by omega)) ?_; rintro _ wc ⟨A', c', rfl, own⟩; have xo := own.ext; have own := own.base xb; have xc := own.ext
    try (have bl := bl.ext xo)
    try (have B6 := Blk.ext B6 xo)
    refine strS xc ?_; refine ⟨?p24, ?p27⟩
  case' p24 =>
    refine lit [.agg p.c.toArray] (fun g wl hq => ?_); have xc := xc.trans hq.ext; have bl := hq.blk
    try (have own := OwnF.then own hq.ext)
    try (have B6 := Blk.ext B6 hq.ext)
    refine strS xc ?_; refine ⟨?p245, ?p247⟩
  case' p245 =>
    refine appF own (srcP6 bl) (by omega) (fun F d wp q k hA => ?_); have xq := q.ext
    try (have B6 := Blk.kept B6 k (own_tyL own B6 (by decide)))
    refine strS xq ?_; refine bld [.slice F (n + 1) d] (by kernel_rfl) ?_; have xc := xq; have own := q; refine alloc (fun b6 wa h6 => ?_); have e6 := h6.at_; have B6 : Blk wa b6 24 [.slice none 0 0] := h6.blk
    have m6 : w4.heap.size ≤ b6 := by have := xc.size; omega
    have xc := xc.trans h6.ext
    try (have own := OwnF.then own h6.ext)
    try (have bl := bl.ext h6.ext)
    refine strS xc ?_
  case' p247 =>
    refine alloc (fun b6 wa h6 => ?_); have e6 := h6.at_; have B6 : Blk wa b6 24 [.slice none 0 0] := h6.blk
    have m6 : w4.heap.size ≤ b6 := by have := xc.size; omega
    have xc := xc.trans h6.ext
    try (have own := OwnF.then own h6.ext)
    try (have bl := bl.ext h6.ext)
    refine strS xc ?_; refine appF own (srcP6 bl) (by omega) (fun F d wp q k hA => ?_); have xq := q.ext
    try (have B6 := Blk.kept B6 k (own_tyL own B6 (by decide)))
    refine strS xq ?_; refine bld [.slice F (n + 1) d] (by kernel_rfl) ?_; have xc := xq; have own := q
  case' p27 =>
    refine alloc (fun b6 wa h6 => ?_); have e6 := h6.at_; have B6 : Blk wa b6 24 [.slice none 0 0] := h6.blk
    have m6 : w4.heap.size ≤ b6 := by have := xc.size; omega
    have xc := xc.trans h6.ext
    try (have own := OwnF.then own h6.ext)
    try (have bl := bl.ext h6.ext)
    refine strS xc ?_; refine lit [.agg p.c.toArray] (fun g wl hq => ?_); have xc := xc.trans hq.ext; have bl := hq.blk
    try (have own := OwnF.then own hq.ext)
    try (have B6 := Blk.ext B6 hq.ext)
    refine strS xc ?_; refine appF own (srcP6 bl) (by omega) (fun F d wp q k hA => ?_); have xq := q.ext
    try (have B6 := Blk.kept B6 k (own_tyL own B6 (by decide)))
    refine strS xq ?_; refine bld [.slice F (n + 1) d] (by kernel_rfl) ?_; have xc := xq; have own := q
  case' p4 =>
    refine lit [.agg p.c.toArray] (fun g wl hq => ?_); have xc := xc.trans hq.ext; have bl := hq.blk
    try (have own := OwnF.then own hq.ext)
    try (have B6 := Blk.ext B6 hq.ext)
    refine strS xc ?_; refine ⟨?p42, ?p47⟩
  case' p42 =>
    have xb := xc; refine call_of (c_gclone ((hs.ext x04).ext xc) (by omega)) ?_; rintro _ wc ⟨A', c', rfl, own⟩; have xo := own.ext; have own := own.base xb; have xc := own.ext
    try (have bl := bl.ext xo)
    try (have B6 := Blk.ext B6 xo)
    refine strS xc ?_; refine ⟨?p425, ?p427⟩
  case' p425 =>
    refine appF own (srcP6 bl) (by omega) (fun F d wp q k hA => ?_); have xq := q.ext
    try (have B6 := Blk.kept B6 k (own_tyL own B6 (by decide)))
    refine strS xq ?_; refine bld [.slice F (n + 1) d] (by kernel_rfl) ?_; have xc := xq; have own := q; refine alloc (fun b6 wa h6 => ?_); have e6 := h6.at_; have B6 : Blk wa b6 24 [.slice none 0 0] := h6.blk
    have m6 : w4.heap.size ≤ b6 := by have := xc.size; omega
    have xc := xc.trans h6.ext
    try (have own := OwnF.then own h6.ext)
    try (have bl := bl.ext h6.ext)
    refine strS xc ?_
  case' p427 =>
    refine alloc (fun b6 wa h6 => ?_); have e6 := h6.at_; have B6 : Blk wa b6 24 [.slice none 0 0] := h6.blk
    have m6 : w4.heap.size ≤ b6 := by have := xc.size; omega
    have xc := xc.trans h6.ext
    try (have own := OwnF.then own h6.ext)
    try (have bl := bl.ext h6.ext)
    refine strS xc ?_; refine appF own (srcP6 bl) (by omega) (fun F d wp q k hA => ?_); have xq := q.ext
    try (have B6 := Blk.kept B6 k (own_tyL own B6 (by decide)))
    refine strS xq ?_; refine bld [.slice F (n + 1) d] (by kernel_rfl) ?_; have xc := xq; have own := q
  case' p47 =>
    refine alloc (fun b6 wa h6 => ?_); have e6 := h6.at_; have B6 : Blk wa b6 24 [.slice none 0 0] := h6.blk
    have m6 : w4.heap.size ≤ b6 := by have := xc.size; omega
    have xc := xc.trans h6.ext
    try (have own := OwnF.then own h6.ext)
    try (have bl := bl.ext h6.ext)
    refine strS xc ?_; have xb := xc; refine call_of (c_gclone ((hs.ext x04).ext xc) (by omega)) ?_; rintro _ wc ⟨A', c', rfl, own⟩; have xo := own.ext; have own := own.base xb; have xc := own.ext
    try (have bl := bl.ext xo)
    try (have B6 := Blk.ext B6 xo)
    refine strS xc ?_; refine appF own (srcP6 bl) (by omega) (fun F d wp q k hA => ?_); have xq := q.ext
    try (have B6 := Blk.kept B6 k (own_tyL own B6 (by decide)))
    refine strS xq ?_; refine bld [.slice F (n + 1) d] (by kernel_rfl) ?_; have xc := xq; have own := q
  case' p7 =>
    refine alloc (fun b6 wa h6 => ?_); have e6 := h6.at_; have B6 : Blk wa b6 24 [.slice none 0 0] := h6.blk
    have m6 : w4.heap.size ≤ b6 := by have := xc.size; omega
    have xc := xc.trans h6.ext
    try (have own := OwnF.then own h6.ext)
    try (have bl := bl.ext h6.ext)
    refine strS xc ?_; refine ⟨?p72, ?p74⟩
  case' p72 =>
    have xb := xc; refine call_of (c_gclone ((hs.ext x04).ext xc) (by omega)) ?_; rintro _ wc ⟨A', c', rfl, own⟩; have xo := own.ext; have own := own.base xb; have xc := own.ext
    try (have bl := bl.ext xo)
    try (have B6 := Blk.ext B6 xo)
    refine strS xc ?_; refine lit [.agg p.c.toArray] (fun g wl hq => ?_); have xc := xc.trans hq.ext; have bl := hq.blk
    try (have own := OwnF.then own hq.ext)
    try (have B6 := Blk.ext B6 hq.ext)
    refine strS xc ?_; refine appF own (srcP6 bl) (by omega) (fun F d wp q k hA => ?_); have xq := q.ext
    try (have B6 := Blk.kept B6 k (own_tyL own B6 (by decide)))
    refine strS xq ?_; refine bld [.slice F (n + 1) d] (by kernel_rfl) ?_; have xc := xq; have own := q
  case' p74 =>
    refine lit [.agg p.c.toArray] (fun g wl hq => ?_); have xc := xc.trans hq.ext; have bl := hq.blk
    try (have own := OwnF.then own hq.ext)
    try (have B6 := Blk.ext B6 hq.ext)
    refine strS xc ?_; have xb := xc; refine call_of (c_gclone ((hs.ext x04).ext xc) (by omega)) ?_; rintro _ wc ⟨A', c', rfl, own⟩; have xo := own.ext; have own := own.base xb; have xc := own.ext
    try (have bl := bl.ext xo)
    try (have B6 := Blk.ext B6 xo)
    refine strS xc ?_; refine appF own (srcP6 bl) (by omega) (fun F d wp q k hA => ?_); have xq := q.ext
    try (have B6 := Blk.kept B6 k (own_tyL own B6 (by decide)))
    refine strS xq ?_; refine bld [.slice F (n + 1) d] (by kernel_rfl) ?_; have xc := xq; have own := q
  all_goals
    refine stA (vs := [.slice F (n + 1) d]) B6 rfl (Nat.le_of_ble_eq_true rfl) (by simp [Value.oneCell']) (fun w5 C6 k5 z5 => ?_); have C6 : Blk w5 b6 24 [.slice F (n + 1) d] := C6; have o6 := own_tyL own B6 (by decide)
    have x5 : Ext w4 w5 := xc.then k5 fun b hb _ e => by omega
    refine strS x5 ?_; have s6 := xb.size; have ow := own.thenK k5 (fun g hg e => o6 (by rw [hg, e])) (own.ext.then k5 fun b hb _ e => by omega)
    have sl : SlR tPost (fun b => w4.heap.size ≤ b) w5 F (n + 1) (l ++ [p]) := own_posts (by rw [List.flatMap_append]; exact ow) (by omega) fun b hb => by omega
    refine ldA [.slice F (n + 1) d] (.blk C6) rfl ?_; refine call_of (c_gCheck sl) ?_; rintro _ w6 ⟨rfl, x6⟩; have B4 := (B4.ext x5).ext x6; have C6 := C6.ext x6; have x06 := (x04.trans x5).trans x6; have s56 := x5.size; have s66 := x6.size; refine cN (fun he2 => ?_) (fun he2 => ?_)
    · refine ldA [.slice none 0 0] (.blk B4) rfl ?_; refine stA (vs := [.slice none 0 0]) B4 rfl (Nat.le_of_ble_eq_true rfl) (by simp [Value.oneCell']) (fun w7 B4 k7 z7 => ?_); have B4 : Blk w7 b4 24 [.slice none 0 0] := B4; refine ret ?_; refine resL _ (holds_agg (.blk B4) rfl) ?_; exact ⟨x06.then k7 fun b hb _ e => by omega, none, 0, 0, by rw [hE]; rfl, .inl ⟨by rw [hE]; exact he2, rfl, rfl, rfl⟩⟩
    · refine ldA [.slice F (n + 1) d] (.blk C6) rfl ?_; refine stA (vs := [.slice F (n + 1) d]) B4 rfl (Nat.le_of_ble_eq_true rfl) (by simp [Value.oneCell']) (fun w7 B4' k7 z7 => ?_); have B4' : Blk w7 b4 24 [.slice F (n + 1) d] := B4'; refine ret ?_; refine resL _ (holds_agg (.blk B4') rfl) ?_; have o4 := own_tyL (ow.then x6) B4 (by decide); refine ⟨x06.then k7 fun b hb _ e => by omega, F, n + 1, d, by rw [hE, he2]; rfl, .inr ⟨by rw [hE]; exact he2, ?_, ow.le⟩⟩; have ow0 := (ow.then x6).base x04; have := ow0.thenK k7 (fun g hg e => o4 (by rw [hg, e])) (ow0.ext.then k7 fun b hb _ e => by omega)
      exact own_posts (by rw [List.flatMap_append]; exact this) (by omega) fun b hb => by omega
end
instance eqPosting : EqTy Tryz.prog 26 := ⟨by kernel_rfl⟩
instance eqPair : EqTy Tryz.prog 74 := ⟨by kernel_rfl⟩
theorem sum_b {l : List Post} (h1 : ∀ p ∈ l, P1 p) (a : Acc) (hr : Int) : ∀ k, k ≤ l.length → -(1099511627776 * (k : Int)) ≤ balH (l.take k) a hr ∧ balH (l.take k) a hr ≤ 1099511627776 * (k : Int) := by
  intro k
  induction k with
  | zero => intro _; exact ⟨by simp [balH, balL], by simp [balH, balL]⟩
  | succ k ih =>
    intro hk; have ih := ih (by omega); have hx : l[k]? = some l[k] := List.getElem?_eq_getElem (by omega); have hb := posD_b (h1 _ (List.getElem_mem (show k < l.length by omega))) a
    have e : balH (l.take (k + 1)) a hr = balH (l.take k) a hr + if l[k].hour ≤ hr then posD l[k] a else 0 := by
      rw [List.take_add_one, hx]; show balH (l.take k ++ [l[k]]) a hr = _; unfold balH; rw [List.filter_append]
      by_cases q : l[k].hour ≤ hr
      · rw [List.filter_cons_of_pos (by simpa using q), if_pos q]; exact balL_snoc
      · rw [List.filter_cons_of_neg (by simpa using q), if_neg q, List.filter_nil, List.append_nil, Int.add_zero]
    rw [e]
    split <;> omega
theorem balH_step {s : List Post} {p : Post} {a : Acc} {hr : Int} : balH (s ++ [p]) a hr = balH s a hr + if p.hour ≤ hr then posD p a else 0 := by
  unfold balH; rw [List.filter_append]
  by_cases q : p.hour ≤ hr
  · rw [List.filter_cons_of_pos (by simpa using q), if_pos q]; exact balL_snoc
  · rw [List.filter_cons_of_neg (by simpa using q), if_neg q, List.filter_nil, List.append_nil, Int.add_zero]
section
variable {D : Nat → Prop} {w : World} {l : List Post} {A : Option Addr} {n c : Nat}
theorem c_r56within (n lo hi : Int) : CallZ Tryz.prog 44 #[iv n, iv lo, iv hi] w (fun v w' => v = .bool (gwithin n lo hi) ∧ w' = w) := by
  refine fn_rule (args := [iv n, iv lo, iv hi]) Tryz.func44 (by kernel_rfl) ?_; refine cD (fun h1 => ?_) (fun h1 => ?_)
  · refine cD (fun h2 => ?_) (fun h2 => ?_)
    · exact ret1 (.bool true) rfl ⟨by rw [gwithin_iff.2 ⟨h1, h2⟩], rfl⟩
    · exact ret1 (.bool false) rfl ⟨by rw [Bool.eq_false_iff.2 fun h => h2 (gwithin_iff.1 h).2], rfl⟩
  · exact ret1 (.bool false) rfl ⟨by rw [Bool.eq_false_iff.2 fun h => h1 (gwithin_iff.1 h).1], rfl⟩
set_option maxRecDepth 8000 in
set_option maxHeartbeats 2000000 in
theorem c_r56Sum {so nu hr : Int} (hs : SlR tPost D w A n l) (h1 : ∀ p ∈ l, P1 p) (hn : n ≤ 5000) : CallZ Tryz.prog 45 #[.slice A n c, iv so, iv nu, iv hr] w (fun v w' => v = iv (balH l (so, nu) hr) ∧ Ext w w') := by
  have hlen := hs.len; refine fn_rule (args := [.slice A n c, iv so, iv nu, iv hr]) Tryz.func45 (by kernel_rfl) ?_; refine loop2 (fun (k : Nat) (s : Int) => [(9, iv s), (10, iv (k : Int))]) (fun k s u => k ≤ n ∧ s = balH (l.take k) (so, nu) hr ∧ Ext w u) (fun k _ _ => n - k) 0 0 ⟨rfl, rfl, trivial⟩ ⟨by omega, rfl, .refl _ _⟩ rfl ?_; rintro G k s u ⟨hk, hs', xu⟩; have hsb := sum_b h1 (so, nu) hr k (by omega); rw [← hs'] at hsb; refine len ?_; refine cD (fun hlt => ?_) (fun hge => ?_)
  · obtain ⟨b, o, cs, p, rfl, hp, -, -, hc, rfl⟩ := (hs.ext xu).at_ (k := k) (by omega)
    have htk : l.take (k + 1) = l.take k ++ [p] := by rw [List.take_add_one, hp]; rfl
    have hpn := (h1 p (List.mem_of_getElem? hp)).n; have hst : s = balH (l.take k) (so, nu) hr := hs'; refine idx k rfl (by omega) ?_; refine ldA p.c hc rfl ?_; refine alloc (fun b11 u1 a1 => ?_); refine stA (vs := p.c) a1.blk rfl (Nat.le_of_ble_eq_true rfl) (by simp [Value.oneCell']) (fun u2 B11 k2 z2 => ?_); have e11 := a1.at_; have B11 : Blk u2 b11 26 p.c := B11; have xu2 : Ext w u2 := xu.trans (a1.ext.then k2 fun b hb _ e => by omega); refine fldA ?_; refine ld (iv p.sort) (B11.cell rfl) ?_; refine cE (fun q1 => ?_) (fun q1 => ?_)
    · refine fldA ?_; refine ld (iv p.hour) (B11.cell rfl) ?_; refine cD (fun q2 => ?_) (fun q2 => ?_)
      · refine fldA ?_; refine ld (iv p.to) (B11.cell rfl) ?_; refine cE (fun q3 => ?_) (fun q3 => ?_)
        · refine fldA ?_; refine ld (iv p.n) (B11.cell rfl) ?_; refine arI (n := s + p.n) (by omega) ?_; obtain ⟨s0, hs0⟩ : ∃ s0, s0 = s := ⟨_, rfl⟩; obtain ⟨s, hss⟩ : ∃ t, t = s + p.n := ⟨_, rfl⟩; rw [← hss]
          have hst : s = balH (l.take k) (so, nu) hr + p.n := by rw [hss, hst]
          refine fldA ?_; refine ld (iv p.sort) (B11.cell rfl) ?_; refine cE (fun r1 => ?_) (fun r1 => ?_); rotate_left
          · rw [show s = balH (l.take (k + 1)) (so, nu) hr by rw [hst]; (rw [htk, balH_step]; unfold posD Post.ta Post.fa; simp only [Prod.mk.injEq]; repeat' (first | omega | split))]; refine arI (by omega) ?_; refine next2 (k + 1) (balH (l.take (k + 1)) (so, nu) hr) ⟨rfl, by rw [Int.natCast_add]; rfl, trivial⟩ ⟨by omega, rfl, xu2⟩ (by omega)
          refine fldA ?_; refine ld (iv p.hour) (B11.cell rfl) ?_; refine cD (fun r2 => ?_) (fun r2 => ?_); rotate_left
          · rw [show s = balH (l.take (k + 1)) (so, nu) hr by rw [hst]; (rw [htk, balH_step]; unfold posD Post.ta Post.fa; simp only [Prod.mk.injEq]; repeat' (first | omega | split))]; refine arI (by omega) ?_; refine next2 (k + 1) (balH (l.take (k + 1)) (so, nu) hr) ⟨rfl, by rw [Int.natCast_add]; rfl, trivial⟩ ⟨by omega, rfl, xu2⟩ (by omega)
          refine fldA ?_; refine ld (iv p.frm) (B11.cell rfl) ?_; refine cE (fun r3 => ?_) (fun r3 => ?_); rotate_left
          · rw [show s = balH (l.take (k + 1)) (so, nu) hr by rw [hst]; (rw [htk, balH_step]; unfold posD Post.ta Post.fa; simp only [Prod.mk.injEq]; repeat' (first | omega | split))]; refine arI (by omega) ?_; refine next2 (k + 1) (balH (l.take (k + 1)) (so, nu) hr) ⟨rfl, by rw [Int.natCast_add]; rfl, trivial⟩ ⟨by omega, rfl, xu2⟩ (by omega)
          refine fldA ?_; refine ld (iv p.n) (B11.cell rfl) ?_; refine arI (n := s - p.n) (by omega) ?_; rw [show s - p.n = balH (l.take (k + 1)) (so, nu) hr by rw [hst]; (rw [htk, balH_step]; unfold posD Post.ta Post.fa; simp only [Prod.mk.injEq]; repeat' (first | omega | split))]; refine arI (by omega) ?_; refine next2 (k + 1) (balH (l.take (k + 1)) (so, nu) hr) ⟨rfl, by rw [Int.natCast_add]; rfl, trivial⟩ ⟨by omega, rfl, xu2⟩ (by omega)
        · refine fldA ?_; refine ld (iv p.sort) (B11.cell rfl) ?_; refine cE (fun r1 => ?_) (fun r1 => ?_); rotate_left
          · rw [show s = balH (l.take (k + 1)) (so, nu) hr by rw [hst]; (rw [htk, balH_step]; unfold posD Post.ta Post.fa; simp only [Prod.mk.injEq]; repeat' (first | omega | split))]; refine arI (by omega) ?_; refine next2 (k + 1) (balH (l.take (k + 1)) (so, nu) hr) ⟨rfl, by rw [Int.natCast_add]; rfl, trivial⟩ ⟨by omega, rfl, xu2⟩ (by omega)
          refine fldA ?_; refine ld (iv p.hour) (B11.cell rfl) ?_; refine cD (fun r2 => ?_) (fun r2 => ?_); rotate_left
          · rw [show s = balH (l.take (k + 1)) (so, nu) hr by rw [hst]; (rw [htk, balH_step]; unfold posD Post.ta Post.fa; simp only [Prod.mk.injEq]; repeat' (first | omega | split))]; refine arI (by omega) ?_; refine next2 (k + 1) (balH (l.take (k + 1)) (so, nu) hr) ⟨rfl, by rw [Int.natCast_add]; rfl, trivial⟩ ⟨by omega, rfl, xu2⟩ (by omega)
          refine fldA ?_; refine ld (iv p.frm) (B11.cell rfl) ?_; refine cE (fun r3 => ?_) (fun r3 => ?_); rotate_left
          · rw [show s = balH (l.take (k + 1)) (so, nu) hr by rw [hst]; (rw [htk, balH_step]; unfold posD Post.ta Post.fa; simp only [Prod.mk.injEq]; repeat' (first | omega | split))]; refine arI (by omega) ?_; refine next2 (k + 1) (balH (l.take (k + 1)) (so, nu) hr) ⟨rfl, by rw [Int.natCast_add]; rfl, trivial⟩ ⟨by omega, rfl, xu2⟩ (by omega)
          refine fldA ?_; refine ld (iv p.n) (B11.cell rfl) ?_; refine arI (n := s - p.n) (by omega) ?_; rw [show s - p.n = balH (l.take (k + 1)) (so, nu) hr by rw [hst]; (rw [htk, balH_step]; unfold posD Post.ta Post.fa; simp only [Prod.mk.injEq]; repeat' (first | omega | split))]; refine arI (by omega) ?_; refine next2 (k + 1) (balH (l.take (k + 1)) (so, nu) hr) ⟨rfl, by rw [Int.natCast_add]; rfl, trivial⟩ ⟨by omega, rfl, xu2⟩ (by omega)
      · refine fldA ?_; refine ld (iv p.sort) (B11.cell rfl) ?_; refine cE (fun r1 => ?_) (fun r1 => ?_); rotate_left
        · rw [show s = balH (l.take (k + 1)) (so, nu) hr by rw [hst]; (rw [htk, balH_step]; unfold posD Post.ta Post.fa; simp only [Prod.mk.injEq]; repeat' (first | omega | split))]; refine arI (by omega) ?_; refine next2 (k + 1) (balH (l.take (k + 1)) (so, nu) hr) ⟨rfl, by rw [Int.natCast_add]; rfl, trivial⟩ ⟨by omega, rfl, xu2⟩ (by omega)
        refine fldA ?_; refine ld (iv p.hour) (B11.cell rfl) ?_; refine cD (fun r2 => ?_) (fun r2 => ?_); rotate_left
        · rw [show s = balH (l.take (k + 1)) (so, nu) hr by rw [hst]; (rw [htk, balH_step]; unfold posD Post.ta Post.fa; simp only [Prod.mk.injEq]; repeat' (first | omega | split))]; refine arI (by omega) ?_; refine next2 (k + 1) (balH (l.take (k + 1)) (so, nu) hr) ⟨rfl, by rw [Int.natCast_add]; rfl, trivial⟩ ⟨by omega, rfl, xu2⟩ (by omega)
        refine fldA ?_; refine ld (iv p.frm) (B11.cell rfl) ?_; refine cE (fun r3 => ?_) (fun r3 => ?_); rotate_left
        · rw [show s = balH (l.take (k + 1)) (so, nu) hr by rw [hst]; (rw [htk, balH_step]; unfold posD Post.ta Post.fa; simp only [Prod.mk.injEq]; repeat' (first | omega | split))]; refine arI (by omega) ?_; refine next2 (k + 1) (balH (l.take (k + 1)) (so, nu) hr) ⟨rfl, by rw [Int.natCast_add]; rfl, trivial⟩ ⟨by omega, rfl, xu2⟩ (by omega)
        refine fldA ?_; refine ld (iv p.n) (B11.cell rfl) ?_; refine arI (n := s - p.n) (by omega) ?_; rw [show s - p.n = balH (l.take (k + 1)) (so, nu) hr by rw [hst]; (rw [htk, balH_step]; unfold posD Post.ta Post.fa; simp only [Prod.mk.injEq]; repeat' (first | omega | split))]; refine arI (by omega) ?_; refine next2 (k + 1) (balH (l.take (k + 1)) (so, nu) hr) ⟨rfl, by rw [Int.natCast_add]; rfl, trivial⟩ ⟨by omega, rfl, xu2⟩ (by omega)
    · refine fldA ?_; refine ld (iv p.sort) (B11.cell rfl) ?_; refine cE (fun r1 => ?_) (fun r1 => ?_); rotate_left
      · rw [show s = balH (l.take (k + 1)) (so, nu) hr by rw [hst]; (rw [htk, balH_step]; unfold posD Post.ta Post.fa; simp only [Prod.mk.injEq]; repeat' (first | omega | split))]; refine arI (by omega) ?_; refine next2 (k + 1) (balH (l.take (k + 1)) (so, nu) hr) ⟨rfl, by rw [Int.natCast_add]; rfl, trivial⟩ ⟨by omega, rfl, xu2⟩ (by omega)
      refine fldA ?_; refine ld (iv p.hour) (B11.cell rfl) ?_; refine cD (fun r2 => ?_) (fun r2 => ?_); rotate_left
      · rw [show s = balH (l.take (k + 1)) (so, nu) hr by rw [hst]; (rw [htk, balH_step]; unfold posD Post.ta Post.fa; simp only [Prod.mk.injEq]; repeat' (first | omega | split))]; refine arI (by omega) ?_; refine next2 (k + 1) (balH (l.take (k + 1)) (so, nu) hr) ⟨rfl, by rw [Int.natCast_add]; rfl, trivial⟩ ⟨by omega, rfl, xu2⟩ (by omega)
      refine fldA ?_; refine ld (iv p.frm) (B11.cell rfl) ?_; refine cE (fun r3 => ?_) (fun r3 => ?_); rotate_left
      · rw [show s = balH (l.take (k + 1)) (so, nu) hr by rw [hst]; (rw [htk, balH_step]; unfold posD Post.ta Post.fa; simp only [Prod.mk.injEq]; repeat' (first | omega | split))]; refine arI (by omega) ?_; refine next2 (k + 1) (balH (l.take (k + 1)) (so, nu) hr) ⟨rfl, by rw [Int.natCast_add]; rfl, trivial⟩ ⟨by omega, rfl, xu2⟩ (by omega)
      refine fldA ?_; refine ld (iv p.n) (B11.cell rfl) ?_; refine arI (n := s - p.n) (by omega) ?_; rw [show s - p.n = balH (l.take (k + 1)) (so, nu) hr by rw [hst]; (rw [htk, balH_step]; unfold posD Post.ta Post.fa; simp only [Prod.mk.injEq]; repeat' (first | omega | split))]; refine arI (by omega) ?_; refine next2 (k + 1) (balH (l.take (k + 1)) (so, nu) hr) ⟨rfl, by rw [Int.natCast_add]; rfl, trivial⟩ ⟨by omega, rfl, xu2⟩ (by omega)
  · rw [List.take_of_length_le (by omega)] at hs'; exact ret1 (iv s) rfl ⟨by rw [hs'], xu⟩
end
section
variable {D : Nat → Prop} {w : World} {l : List Post} {A : Option Addr} {n c : Nat}
theorem c_r56posting (p : Post) : CallZ Tryz.prog 84 #[.agg p.c.toArray] w (fun v w' => v = .bool (decide (P1 p)) ∧ Ext w w') := by
  refine fn_rule (args := [.agg p.c.toArray]) Tryz.func84 (by kernel_rfl) ?_; refine box (fun b1 w1 h1 => ?_); have B1 : Blk w1 b1 26 p.c := h1.blk; refine fldA ?_; refine ld (iv p.no) (B1.cell rfl) ?_; refine callB (c_r56within p.no 0 1048576) (fun p1 => ?_) (fun h => ?_); rotate_left
  · exact ret1 (.bool false) rfl ⟨by rw [decide_eq_false]; exact fun hp => absurd (gwithin_iff.2 hp.no) (by rw [h]; exact Bool.false_ne_true), h1.ext⟩
  refine fldA ?_; refine ld (iv p.hour) (B1.cell rfl) ?_; refine callB (c_r56within p.hour 0 4096) (fun p2 => ?_) (fun h => ?_); rotate_left
  · exact ret1 (.bool false) rfl ⟨by rw [decide_eq_false]; exact fun hp => absurd (gwithin_iff.2 hp.hour) (by rw [h]; exact Bool.false_ne_true), h1.ext⟩
  refine fldA ?_; refine ld (iv p.sort) (B1.cell rfl) ?_; refine callB (c_r56within p.sort 1 2) (fun p3 => ?_) (fun h => ?_); rotate_left
  · exact ret1 (.bool false) rfl ⟨by rw [decide_eq_false]; exact fun hp => absurd (gwithin_iff.2 hp.sort) (by rw [h]; exact Bool.false_ne_true), h1.ext⟩
  refine fldA ?_; refine ld (iv p.n) (B1.cell rfl) ?_; refine callB (c_r56within p.n 1 1099511627776) (fun p4 => ?_) (fun h => ?_); rotate_left
  · exact ret1 (.bool false) rfl ⟨by rw [decide_eq_false]; exact fun hp => absurd (gwithin_iff.2 hp.n) (by rw [h]; exact Bool.false_ne_true), h1.ext⟩
  refine fldA ?_; refine ld (iv p.frm) (B1.cell rfl) ?_; refine callB (c_r56within p.frm 0 4095) (fun p5 => ?_) (fun h => ?_); rotate_left
  · exact ret1 (.bool false) rfl ⟨by rw [decide_eq_false]; exact fun hp => absurd (gwithin_iff.2 hp.frm) (by rw [h]; exact Bool.false_ne_true), h1.ext⟩
  refine fldA ?_; refine ld (iv p.to) (B1.cell rfl) ?_; refine callB (c_r56within p.to 0 4095) (fun p6 => ?_) (fun h => ?_); rotate_left
  · exact ret1 (.bool false) rfl ⟨by rw [decide_eq_false]; exact fun hp => absurd (gwithin_iff.2 hp.to) (by rw [h]; exact Bool.false_ne_true), h1.ext⟩
  refine fldA ?_; refine ld (iv p.frm) (B1.cell rfl) ?_; refine fldA ?_; refine ld (iv p.to) (B1.cell rfl) ?_; refine cN (fun p7 => ?_) (fun h => ?_); rotate_left
  · exact ret1 (.bool false) rfl ⟨by rw [decide_eq_false]; exact fun hp => absurd h hp.ne, h1.ext⟩
  exact ret1 (.bool true) rfl ⟨by rw [decide_eq_true]; exact ⟨gwithin_iff.1 p1, gwithin_iff.1 p2, gwithin_iff.1 p3, gwithin_iff.1 p4, gwithin_iff.1 p5, gwithin_iff.1 p6, p7⟩, h1.ext⟩
set_option maxRecDepth 8000 in
set_option maxHeartbeats 2000000 in
theorem c_r56valid {p : Post} (hs : SlR tPost D w A n l) (hok : LOk l) (hn : n ≤ 5000) : CallZ Tryz.prog 48 #[.slice A n c, .agg p.c.toArray] w (fun v w' => v = .bool (decide (OkP l p)) ∧ Ext w w') := by
  have hlen := hs.len; have hall : ∀ q ∈ l, P1 q := fun q hq => hok.p1 hq; have hH : ∀ a, balH l a 4096 = balL l a := fun a => balH_all fun q hq => (hall q hq).hour.2; have bd := bal_b hok; refine fn_rule (args := [.slice A n c, .agg p.c.toArray]) Tryz.func48 (by kernel_rfl) ?_; refine box (fun b3 w1 h1 => ?_); have B3 : Blk w1 b3 26 p.c := h1.blk; refine ldA p.c (.blk B3) rfl ?_; refine callE (c_r56posting p) (fun w5 hP x15 => ?_) (fun w5 hP x15 => ?_); rotate_left
  · refine drawX [0, 1, 2, 3, 4, 5, 6, 7, 8, 9, 10, 11, 12, 13, 14, 15, 16, 17, 18, 19, 20, 21, 22, 23, 24, 25, 26, 27, 28, 29, 30] [] mx (by kernel_rfl) ?_; exact ret1 (.bool false) rfl ⟨by rw [decide_eq_false]; exact fun hp => absurd hp.toP1 (of_decide_eq_false hP), h1.ext.trans x15⟩
  have hP := of_decide_eq_true hP; have x5 := h1.ext.trans x15; have B3 := B3.ext x15; have hpn := hP.n; refine drawX [0, 1, 2, 3, 4, 5, 6, 7, 8, 9, 10, 11, 12, 13, 14, 15, 16, 17, 18, 19, 20, 21, 22, 23, 24, 25, 26, 27, 28, 29, 30] [] mx (by kernel_rfl) ?_; refine len ?_; refine cD (fun h0 => ?_) (fun h0 => ?_)
  · obtain ⟨n1, hn1⟩ : ∃ n1, n = n1 + 1 := ⟨n - 1, by omega⟩; obtain ⟨b, o, cs, q, rfl, hq, -, -, hc, rfl⟩ := (hs.ext x5).at_ (k := n1) (by omega)
    have hlast : l.getLast? = some q := by rw [List.getLast?_eq_getElem?, show l.length - 1 = n1 by omega]; exact hq
    refine fldA ?_; refine ldX (iv p.no) (B3.cell rfl) (.refl _ _) ?_; refine len ?_; refine arI (n := (n : Int) - 1) (by omega) ?_; rw [show (n : Int) - 1 = (n1 : Int) by omega]; refine idx n1 rfl (by omega) ?_; refine fldA ?_; refine ldX (iv q.no) (hc 0 _ rfl) (.refl _ _) ?_; refine cD (fun h => ?_) (fun q1 => ?_)
    · exact ret1 (.bool false) rfl ⟨by rw [decide_eq_false]; exact fun hp => absurd (hp.aft q hlast).1 (by omega), x5⟩
    refine fldA ?_; refine ldX (iv p.hour) (B3.cell rfl) (.refl _ _) ?_; refine len ?_; refine arI (n := (n : Int) - 1) (by omega) ?_; rw [show (n : Int) - 1 = (n1 : Int) by omega]; refine idx n1 rfl (by omega) ?_; refine fldA ?_; refine ldX (iv q.hour) (hc 1 _ rfl) (.refl _ _) ?_; refine cD (fun h => ?_) (fun q2 => ?_)
    · exact ret1 (.bool false) rfl ⟨by rw [decide_eq_false]; exact fun hp => absurd (hp.aft q hlast).2 (by omega), x5⟩
    have haft : ∀ q', l.getLast? = some q' → q'.no < p.no ∧ q'.hour ≤ p.hour := fun q' h => by rw [hlast] at h; injection h with h; rw [← h]; omega
    refine drawP (.take 0 (.take 1 (.take 2 (.take 3 (.take 4 (.take 5 (.take 6 (.take 7 (.take 8 (.take 10 (.take 11 (.eff 9 (.take 12 (.take 13 .done)))))))))))))) [] (fun y => Ext w5 y) mx (by kernel_rfl) (.refl _ _) ?_; refine fldA ?_; refine ldK (iv p.frm) (B3.cell rfl) trivial (.refl _ _) ?_; refine cN (fun h9 => ?_) (fun h9 => ?_)
    · refine fldA ?_; refine ldK (iv p.sort) (B3.cell rfl) trivial (.refl _ _) ?_; refine fldA ?_; refine ldK (iv p.frm) (B3.cell rfl) trivial (.refl _ _) ?_; refine fldA ?_; refine ldK (iv p.n) (B3.cell rfl) trivial (.refl _ _) ?_; refine call_of (c_r56Sum (so := p.sort) (nu := p.frm) (hr := 4096) (hs.ext x5) hall (by omega)) ?_; rintro _ w7 ⟨rfl, x7⟩; refine strS x7 ?_; have eF := hH (p.sort, p.frm); refine cD (fun h => ?_) (fun h => ?_)
      · exact ret1 (.bool false) rfl ⟨by rw [decide_eq_false]; exact fun hp => absurd (hp.has h9) (by show ¬ p.n ≤ balL l (p.sort, p.frm); omega), x5.trans x7⟩
      refine drawP (.take 0 (.take 1 (.take 2 (.take 3 (.take 4 (.take 6 (.take 7 (.eff 5 (.take 8 (.take 9 (.take 10 .done))))))))))) [] (fun y => Ext w7 y) mx (by kernel_rfl) (.refl _ _) ?_; refine fldA ?_; refine ldK (iv p.sort) ((B3.ext x7).cell rfl) trivial (.refl _ _) ?_; refine fldA ?_; refine ldK (iv p.to) ((B3.ext x7).cell rfl) trivial (.refl _ _) ?_; refine fldA ?_; refine ldK (iv p.n) ((B3.ext x7).cell rfl) trivial (.refl _ _) ?_; refine call_of (c_r56Sum (so := p.sort) (nu := p.to) (hr := 4096) (hs.ext (x5.trans x7)) hall (by omega)) ?_; rintro _ w8 ⟨rfl, x8⟩; refine strS x8 ?_; have eT := hH (p.sort, p.to); obtain ⟨T, hT⟩ : ∃ T, T = balH l (p.sort, p.to) 4096 := ⟨_, rfl⟩; rw [← hT] at eT ⊢; have bT := bd (p.sort, p.to); refine arI (n := T + p.n) (by omega) ?_; refine cD (fun h => ?_) (fun h => ?_); rotate_left
      · exact ret1 (.bool false) rfl ⟨by rw [decide_eq_false]; exact fun hp => absurd hp.fit (by show ¬ balL l (p.sort, p.to) + p.n ≤ _; omega), ((x5.trans x7)).trans x8⟩
      exact ret1 (.bool true) rfl ⟨by rw [decide_eq_true]; exact { toP1 := hP, aft := haft, has := (fun _ => by show p.n ≤ balL l (p.sort, p.frm); omega), fit := by show balL l (p.sort, p.to) + p.n ≤ _; omega }, ((x5.trans x7)).trans x8⟩
    · refine strS (.refl _ _) ?_; have x55 : Ext w5 w5 := .refl _ _; refine drawP (.take 0 (.take 1 (.take 2 (.take 3 (.take 4 (.take 6 (.take 7 (.eff 5 (.take 8 (.take 9 (.take 10 .done))))))))))) [] (fun y => Ext w5 y) mx (by kernel_rfl) (.refl _ _) ?_; refine fldA ?_; refine ldK (iv p.sort) ((B3.ext x55).cell rfl) trivial (.refl _ _) ?_; refine fldA ?_; refine ldK (iv p.to) ((B3.ext x55).cell rfl) trivial (.refl _ _) ?_; refine fldA ?_; refine ldK (iv p.n) ((B3.ext x55).cell rfl) trivial (.refl _ _) ?_; refine call_of (c_r56Sum (so := p.sort) (nu := p.to) (hr := 4096) (hs.ext x5) hall (by omega)) ?_; rintro _ w8 ⟨rfl, x8⟩; refine strS x8 ?_; have eT := hH (p.sort, p.to); obtain ⟨T, hT⟩ : ∃ T, T = balH l (p.sort, p.to) 4096 := ⟨_, rfl⟩; rw [← hT] at eT ⊢; have bT := bd (p.sort, p.to); refine arI (n := T + p.n) (by omega) ?_; refine cD (fun h => ?_) (fun h => ?_); rotate_left
      · exact ret1 (.bool false) rfl ⟨by rw [decide_eq_false]; exact fun hp => absurd hp.fit (by show ¬ balL l (p.sort, p.to) + p.n ≤ _; omega), (x5).trans x8⟩
      exact ret1 (.bool true) rfl ⟨by rw [decide_eq_true]; exact { toP1 := hP, aft := haft, has := (fun h => absurd h9 h), fit := by show balL l (p.sort, p.to) + p.n ≤ _; omega }, (x5).trans x8⟩
  · have hl0 : l = [] := List.eq_nil_of_length_eq_zero (by omega)
    have haft : ∀ q', l.getLast? = some q' → q'.no < p.no ∧ q'.hour ≤ p.hour := fun q' h => by rw [hl0] at h; cases h
    refine drawP (.take 0 (.take 1 (.take 2 (.take 3 (.take 4 (.take 5 (.take 6 (.take 7 (.take 8 (.take 10 (.take 11 (.eff 9 (.take 12 (.take 13 .done)))))))))))))) [] (fun y => Ext w5 y) mx (by kernel_rfl) (.refl _ _) ?_; refine fldA ?_; refine ldK (iv p.frm) (B3.cell rfl) trivial (.refl _ _) ?_; refine cN (fun h9 => ?_) (fun h9 => ?_)
    · refine fldA ?_; refine ldK (iv p.sort) (B3.cell rfl) trivial (.refl _ _) ?_; refine fldA ?_; refine ldK (iv p.frm) (B3.cell rfl) trivial (.refl _ _) ?_; refine fldA ?_; refine ldK (iv p.n) (B3.cell rfl) trivial (.refl _ _) ?_; refine call_of (c_r56Sum (so := p.sort) (nu := p.frm) (hr := 4096) (hs.ext x5) hall (by omega)) ?_; rintro _ w7 ⟨rfl, x7⟩; refine strS x7 ?_; have eF := hH (p.sort, p.frm); refine cD (fun h => ?_) (fun h => ?_)
      · exact ret1 (.bool false) rfl ⟨by rw [decide_eq_false]; exact fun hp => absurd (hp.has h9) (by show ¬ p.n ≤ balL l (p.sort, p.frm); omega), x5.trans x7⟩
      refine drawP (.take 0 (.take 1 (.take 2 (.take 3 (.take 4 (.take 6 (.take 7 (.eff 5 (.take 8 (.take 9 (.take 10 .done))))))))))) [] (fun y => Ext w7 y) mx (by kernel_rfl) (.refl _ _) ?_; refine fldA ?_; refine ldK (iv p.sort) ((B3.ext x7).cell rfl) trivial (.refl _ _) ?_; refine fldA ?_; refine ldK (iv p.to) ((B3.ext x7).cell rfl) trivial (.refl _ _) ?_; refine fldA ?_; refine ldK (iv p.n) ((B3.ext x7).cell rfl) trivial (.refl _ _) ?_; refine call_of (c_r56Sum (so := p.sort) (nu := p.to) (hr := 4096) (hs.ext (x5.trans x7)) hall (by omega)) ?_; rintro _ w8 ⟨rfl, x8⟩; refine strS x8 ?_; have eT := hH (p.sort, p.to); obtain ⟨T, hT⟩ : ∃ T, T = balH l (p.sort, p.to) 4096 := ⟨_, rfl⟩; rw [← hT] at eT ⊢; have bT := bd (p.sort, p.to); refine arI (n := T + p.n) (by omega) ?_; refine cD (fun h => ?_) (fun h => ?_); rotate_left
      · exact ret1 (.bool false) rfl ⟨by rw [decide_eq_false]; exact fun hp => absurd hp.fit (by show ¬ balL l (p.sort, p.to) + p.n ≤ _; omega), ((x5.trans x7)).trans x8⟩
      exact ret1 (.bool true) rfl ⟨by rw [decide_eq_true]; exact { toP1 := hP, aft := haft, has := (fun _ => by show p.n ≤ balL l (p.sort, p.frm); omega), fit := by show balL l (p.sort, p.to) + p.n ≤ _; omega }, ((x5.trans x7)).trans x8⟩
    · refine strS (.refl _ _) ?_; have x55 : Ext w5 w5 := .refl _ _; refine drawP (.take 0 (.take 1 (.take 2 (.take 3 (.take 4 (.take 6 (.take 7 (.eff 5 (.take 8 (.take 9 (.take 10 .done))))))))))) [] (fun y => Ext w5 y) mx (by kernel_rfl) (.refl _ _) ?_; refine fldA ?_; refine ldK (iv p.sort) ((B3.ext x55).cell rfl) trivial (.refl _ _) ?_; refine fldA ?_; refine ldK (iv p.to) ((B3.ext x55).cell rfl) trivial (.refl _ _) ?_; refine fldA ?_; refine ldK (iv p.n) ((B3.ext x55).cell rfl) trivial (.refl _ _) ?_; refine call_of (c_r56Sum (so := p.sort) (nu := p.to) (hr := 4096) (hs.ext x5) hall (by omega)) ?_; rintro _ w8 ⟨rfl, x8⟩; refine strS x8 ?_; have eT := hH (p.sort, p.to); obtain ⟨T, hT⟩ : ∃ T, T = balH l (p.sort, p.to) 4096 := ⟨_, rfl⟩; rw [← hT] at eT ⊢; have bT := bd (p.sort, p.to); refine arI (n := T + p.n) (by omega) ?_; refine cD (fun h => ?_) (fun h => ?_); rotate_left
      · exact ret1 (.bool false) rfl ⟨by rw [decide_eq_false]; exact fun hp => absurd hp.fit (by show ¬ balL l (p.sort, p.to) + p.n ≤ _; omega), (x5).trans x8⟩
      exact ret1 (.bool true) rfl ⟨by rw [decide_eq_true]; exact { toP1 := hP, aft := haft, has := (fun h => absurd h9 h), fit := by show balL l (p.sort, p.to) + p.n ≤ _; omega }, (x5).trans x8⟩
end
end Go.Proofs.YtehcphboliofaaaGreatDoor
