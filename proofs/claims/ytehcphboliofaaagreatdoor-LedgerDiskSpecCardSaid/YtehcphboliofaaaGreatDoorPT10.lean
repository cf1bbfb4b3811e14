/- Parts of the proof: Ly M1 M2 M3 M4 M6 M5. -/
import Derived.Test.YtehcphboliofaaaGreatDoorPT9
import Derived.Test.YtehcphboliofaaaGreatDoorPT4
import Derived.Test.YtehcphboliofaaaGreatDoorPT6
namespace Go.Proofs.YtehcphboliofaaaGreatDoor
open Go Go.RowKit
def genS (s : List Nat) : Nat := getB (s.take 4)
def curG (cur : Option (Nat × List Nat)) (s : List Nat) : Nat := match cur with | none => genS s | some (g, _) => g
def curB (cur : Option (Nat × List Nat)) : List Nat := match cur with | none => [] | some (_, b) => b
def secOk (s : List Nat) (n : Nat) (cur : Option (Nat × List Nat)) (last : Nat) : Prop := goodP s n ∧ (at8 s 10 &&& 1 ≠ 0 ↔ cur = none) ∧ genS s = curG cur s ∧ last ≤ genS s
instance (s : List Nat) (n : Nat) (cur : Option (Nat × List Nat)) (last : Nat) : Decidable (secOk s n cur last) := by
  unfold secOk
  cases cur <;> infer_instance
def pieceB (s : List Nat) : List Nat := (s.drop 12).take (at8 s 11)
def recG : List (List Nat) → Nat → Option (Nat × List Nat) → Nat → List (Nat × List Nat)
  | [], _, _, _ => []
  | s :: r, n, cur, last => if secOk s n cur last then (if at8 s 10 &&& 2 ≠ 0 then (n + 1, curB cur ++ pieceB s) :: recG r (n + 1) none (genS s) else recG r (n + 1) (some (curG cur s, curB cur ++ pieceB s)) last) else []
section
variable {w : World}
theorem c_jrecords {A : Option Addr} {n c : Nat} : CallZ Tryz.prog 91 #[.slice A n c] w (fun v w' => ∃ b, v = .func (.func 160) #[] #[ptr b] ∧ Ext w w' ∧ Blk w' b 41 [.slice A n c] ∧ w.heap.size ≤ b) := by
  refine fn_rule (args := [.slice A n c]) Tryz.func91 (by kernel_rfl) ?_; refine box (fun b w1 h1 => ?_); have e1 := h1.at_; exact ret1 (.func (.func 160) #[] #[ptr b]) rfl ⟨b, rfl, h1.ext, h1.blk, by omega⟩
set_option maxRecDepth 8000 in
theorem c_jrecords1 {D : Nat → Prop} {lb bs N c : Nat} {l : List (List Nat)} {A : Option Addr} (J : Nat → World → Prop) (hs : SlR (tSl tU8) D w A N l) (hb : Blk w bs 41 [.slice A N c]) (hDb : D bs) (hl : ∀ s ∈ l, s.length = 128) (hN : N ≤ 4096)
    (hJ : ∀ i u u', J i u → Ext u u' → J i u')
    (hstep : ∀ i u0 u (e : Nat) b B m d, (recG l 0 none 0)[i]? = some (e, b) → J i u0 → Kept D w u0 → Ext u0 u → SlR tU8 (fun j => u0.heap.size ≤ j) u B m b → m ≤ d → m ≤ 1000000 → YieldP Tryz.prog lb [iv (e : Int), .slice B m d].toArray (fun y w' => y = .bool true ∧ J (i + 1) w' ∧ Kept D u w') u)
    (h0 : J 0 w) : CallZ Tryz.prog 160 #[.func (.yield lb) #[] #[], ptr bs] w (fun _ w' => J (recG l 0 none 0).length w' ∧ Kept D w w') := by
  have hlen := hs.len; have hs := hs.more (D' := fun j => D j ∧ j < w.heap.size) (by decide) fun j hj h => ⟨h, hj⟩; refine fn_ruleS (args := [.func (.yield lb) #[] #[], ptr bs]) Tryz.func160 rfl (by kernel_rfl) ?_; refine loop_rule (fun (p : Nat × Nat × Nat) => [(3, iv (p.1 : Int)), (4, uv64 p.2.1)]) (fun p u => p.1 ≤ N ∧ p.2.1 < 18446744073709551616 ∧ Kept D w u ∧ J p.2.2 u ∧ ∃ done, done.length = p.2.2 ∧ recG l 0 none 0 = done ++ recG (l.drop p.1) p.1 none p.2.1) (fun p _ => N - p.1) (0, 0, 0) ⟨rfl, rfl, trivial⟩ ⟨Nat.zero_le _, (show (0 : Nat) < 18446744073709551616 by omega), .refl _ _, h0, [], rfl, rfl⟩ rfl ?_; rintro G ⟨at0, last, i⟩ u0 ⟨hat, hlast, ku0, Ju0, done, hdone, htot0⟩; simp only at hat hlast ku0 Ju0 hdone htot0; refine loop_rule (fun (p : Nat × (Option (Nat × List Nat)) × Option Addr × Nat × Nat) => [(3, iv (at0 : Int)), (4, uv64 last), (5, .slice p.2.2.1 p.2.2.2.1 p.2.2.2.2), (6, iv (p.1 : Int))]) (fun p u => at0 ≤ p.1 ∧ p.1 ≤ N ∧ OwnF u0 u p.2.2.1 p.2.2.2.1 p.2.2.2.2 5 1 (u8s (curB p.2.1)) ∧ p.2.2.2.1 ≤ 112 * (p.1 - at0) ∧ (∀ x ∈ curB p.2.1, x < 256) ∧ recG l 0 none 0 = done ++ recG (l.drop p.1) p.1 p.2.1 last ∧ ((p.1 = at0 ∧ p.2.1 = none) ∨ (at0 < p.1 ∧ ∃ s b, l[at0]? = some s ∧ p.2.1 = some (genS s, b)))) (fun p _ => N - p.1) (at0, none, none, 0, 0) ⟨rfl, rfl, rfl, rfl, trivial⟩ ⟨Nat.le_refl _, hat, OwnF.nil (.refl _ _), Nat.zero_le _, (fun x hx => by cases hx), htot0, .inl ⟨rfl, rfl⟩⟩ rfl ?_; rintro G2 ⟨n, cur, B, m, d⟩ u ⟨hn0, hnN, own, hm, hcB, htot, hcur⟩; simp only at hn0 hnN own hm hcB htot hcur; have hm : m ≤ 112 * (n - at0) := hm; have own : OwnF u0 u B m d 5 1 (u8s (curB cur)) := own; have ku : Kept D w u := ku0.then own.ext fun _ _ _ => trivial; have Ju := hJ i u0 u Ju0 own.ext; have hbu := hb.kept ku hDb; refine ld (.slice A N c) (hbu.cell rfl) ?_; refine len ?_; refine cD (fun hlt => ?_) (fun hge => ?_); rotate_left
  · refine ret0 ⟨?_, ku⟩; rw [drop_end (by omega), recG, List.append_nil] at htot; rw [htot, hdone]; exact Ju
  obtain ⟨bx, o, cs, s, rfl, hx, hdr, -, hc, A2, n2, c2, rfl, hs2, hc2⟩ := (hs.kept ku fun b _ h => h.1).at_ (k := n) (by omega)
  have h128 : n2 = 128 := by have := hs2.len; have := hl s (List.mem_of_getElem? hx); omega
  subst h128; refine ld (.slice (some (ad bx o)) N c) (hbu.cell rfl) ?_; refine idx n rfl (by omega) ?_; refine ld (.slice A2 128 c2) (hc 0 _ rfl) ?_; obtain ⟨b2, o2, cs0, x0, rfl, -, -, hD2, -⟩ := hs2.at_ (k := 0) (by omega); obtain ⟨c11, l11⟩ := u8_cell hs2 (k := 11) (by omega); obtain ⟨c10, l10⟩ := u8_cell hs2 (k := 10) (by omega)
  obtain ⟨sat, hsat, hgat⟩ : ∃ sat, l[at0]? = some sat ∧ curG cur s = genS sat := by
    rcases hcur with ⟨h1, h2⟩ | ⟨h1, s0, b0, h2, h3⟩
    · subst h1; subst h2; exact ⟨s, hx, rfl⟩
    · subst h3; exact ⟨s0, h2, rfl⟩
  have hcn : cur = none ↔ n = at0 := by
    rcases hcur with ⟨h1, h2⟩ | ⟨h1, s0, b0, h2, h3⟩
    · exact ⟨fun _ => h1, fun _ => h2⟩
    · exact ⟨(fun h => by rw [h3] at h; cases h), fun h => by omega⟩
  obtain ⟨bx', o', cs', s', he', hx', -, -, hcat, A5, n5, c5, rfl, hs5, hc5⟩ := (hs.kept ku fun b _ h => h.1).at_ (k := at0) (by omega); injection he' with he'; injection he' with he1 he2; subst he1; subst he2
  have hss : s' = sat := by rw [hsat] at hx'; injection hx' with h; exact h.symm
  subst hss
  have h5 : n5 = 128 := by have := hs5.len; have := hl s' (List.mem_of_getElem? hx'); omega
  subst h5; refine drawP (.take 0 (.take 1 (.eff 2 (.take 3 (.take 4 (.take 5 (.take 6 (.take 7 (.take 8 (.take 9 (.take 10 (.take 11 (.take 12 (.take 13 (.take 14 (.take 15 (.take 16 (.take 17 (.take 18 (.take 19 (.take 20 (.take 21 (.take 22 (.take 23 (.take 24 (.take 25 (.take 26 (.take 27 (.take 28 (.take 29 (.take 30 (.take 31 (.take 32 (.take 33 .done)))))))))))))))))))))))))))))))))) [] (fun y => Ext u y) mx (by kernel_rfl) (.refl _ _) ?_; refine callE (c_jgood hs2 hc2 (by omega)) (fun w1 hq x1 => ?_) (fun w1 hq x1 => ?_); rotate_left
  · refine strS x1 ?_; refine ret0 ⟨?_, ku.then x1 fun _ _ _ => trivial⟩; rw [hdr, recG, if_neg ((fun q => (of_decide_eq_false hq) q.1)), List.append_nil] at htot; rw [htot, hdone]; exact hJ i u _ Ju x1
  have hgood : goodP s n := of_decide_eq_true hq; refine strT (fun y => Ext w1 y) (.refl _ _) (fun y hy => x1.trans hy) ?_; refine idx 10 rfl (by omega) ?_; refine ldX (uv8 (at8 s 10)) ((show Kept (fun _ => True) u w1 from x1).cell c10 trivial) (.refl _ _) ?_; refine and8 (a := at8 s 10) (b := 1) l10 (by omega) ?_; refine cN (fun hb1 => ?_) (fun hb1 => ?_)
  · refine cE (fun hna => ?_) (fun hna => ?_)
    · refine neB (fun h => absurd rfl h) (fun _ => ?_); refine slcR 0 4 hs2 hc2 rfl rfl (by omega) (by omega) rfl (fun A4 hA4 => ?_)
      have s4 : ∀ y, Ext u y → SlR tU8 (fun j => D j ∧ j < w.heap.size) y A4 4 (s.take 4) := fun y hy => by have := hA4 _ y (hs2.ext hy); rwa [List.drop_zero] at this
      refine callQ (fun y hy => c_jget (s4 y (x1.trans hy))) ?_; refine ldX (.slice (some (ad bx o)) N c) ((hbu.ext x1).cell rfl) (.refl _ _) ?_; refine idx at0 rfl (by omega) ?_; refine ldX (.slice A5 128 c5) (hcat.kept x1 trivial 0 _ rfl) (.refl _ _) ?_; refine slcR 0 4 hs5 hc5 rfl rfl (by omega) (by omega) rfl (fun A6 hA6 => ?_)
      have s6 : ∀ y, Ext u y → SlR tU8 (fun j => D j ∧ j < w.heap.size) y A6 4 (s'.take 4) := fun y hy => by have := hA6 _ y (hs5.ext hy); rwa [List.drop_zero] at this
      refine callQ (fun y hy => c_jget (s6 y (x1.trans hy))) ?_; refine cN (fun hg => ?_) (fun hg => ?_)
      · refine ret0 ⟨?_, ku.then x1 fun _ _ _ => trivial⟩; rw [hdr, recG, if_neg ((fun q => by have := q.2.2.1; rw [hgat] at this; unfold genS at this; omega)), List.append_nil] at htot; rw [htot, hdone]; exact hJ i u _ Ju x1
      have hgg : genS s = genS s' := by unfold genS; omega
      refine slcR 0 4 hs2 hc2 rfl rfl (by omega) (by omega) rfl (fun A7 hA7 => ?_)
      have s7 : ∀ y, Ext u y → SlR tU8 (fun j => D j ∧ j < w.heap.size) y A7 4 (s.take 4) := fun y hy => by have := hA7 _ y (hs2.ext hy); rwa [List.drop_zero] at this
      refine callQ (fun y hy => c_jget (s7 y (x1.trans hy))) ?_; refine cD (fun hlg => ?_) (fun hlg => ?_)
      · refine ret0 ⟨?_, ku.then x1 fun _ _ _ => trivial⟩; rw [hdr, recG, if_neg ((fun q => by have := q.2.2.2; unfold genS at this; omega)), List.append_nil] at htot; rw [htot, hdone]; exact hJ i u _ Ju x1
      have hsok : secOk s n cur last := ⟨hgood, ⟨fun _ => hcn.2 (by omega), fun _ => by omega⟩, by rw [hgat]; exact hgg, by unfold genS; omega⟩; refine idx 11 rfl (by omega) ?_; refine ld (uv8 (at8 s 11)) ((show Kept (fun _ => True) u w1 from x1).cell c11 trivial) ?_; refine cvI (by omega) ?_; refine arI (n := 12 + ((at8 s 11 : Nat) : Int)) (by omega) ?_; have h112 := hgood.1; refine slcR 12 (12 + at8 s 11) (hs2.ext x1) hc2 rfl (by show 12 + ((at8 s 11 : Nat) : Int) = ((12 + at8 s 11 : Nat) : Int); omega) (by omega) (by omega) rfl (fun A8 hA8 => ?_); have s8 := hA8 _ w1 (hs2.ext x1); rw [List.drop_take, Nat.add_sub_cancel_left] at s8; rw [Nat.add_sub_cancel_left]; refine appF (n := m) (m := at8 s 11) (c := d) (A := B) (own.then x1) s8.u8src (by omega) (fun F e w2 own2 k2 hF => ?_) (h1 := u8s_one _)
      have own2 : OwnF u0 w2 F (m + at8 s 11) e 5 1 (u8s (curB cur ++ pieceB s)) := by rw [u8s_app]; exact own2
      have kU : Kept (fun j => j < u0.heap.size) u w2 := (Ext.any x1).then k2 fun j _ hj e => by have := own.new j e; omega
      have su0 := ku0.size; have ku2 : Kept D w w2 := ku0.then own2.ext fun _ _ _ => trivial; refine idx 10 rfl (by omega) ?_; refine ld (uv8 (at8 s 10)) (kU.cell c10 (show b2 < u0.heap.size by have := hD2.2; omega)) ?_; refine and8 (a := at8 s 10) (b := 2) l10 (by omega) ?_; rw [hdr, recG, if_pos hsok] at htot; refine cN (fun hb2 => ?_) (fun hb2 => ?_)
      · rw [if_pos (show at8 s 10 &&& 2 ≠ 0 by omega)] at htot; refine arI (n := (n : Int) + 1) (by omega) ?_; refine slcR 0 4 (hs2.kept kU fun j _ h => by have := h.2; omega) hc2 rfl rfl (by omega) (by omega) rfl (fun A9 hA9 => ?_); have s9 := hA9 _ w2 (hs2.kept kU fun j _ h => by have := h.2; omega); rw [List.drop_zero] at s9; refine call_of (c_jget s9) ?_; rintro _ w3 ⟨rfl, hw3⟩; rw [hw3]; clear hw3 w3
        have hrec : (recG l 0 none 0)[i]? = some (n + 1, curB cur ++ pieceB s) := by
          rw [htot, List.getElem?_append_right (by omega), hdone, Nat.sub_self]; rfl
        have hbb : ∀ x ∈ curB cur ++ pieceB s, x < 256 := fun x hx => (List.mem_append.1 hx).elim (hcB x) (s8.u8b x); have hst := hstep i u0 w2 (n + 1) (curB cur ++ pieceB s) F (m + at8 s 11) e hrec Ju0 ku0 own2.ext (own2.u8 hbb (by omega) fun j hj => hj) own2.le (by omega); refine yield_of hst ?_; rintro _ w4 ⟨rfl, J4, k4⟩; refine next (n + 1, genS s, i + 1) ⟨rfl, rfl, trivial⟩ ⟨by show n + 1 ≤ N; omega, getB_lt s9.u8b, ku2.trans k4, J4, done ++ [(n + 1, curB cur ++ pieceB s)], by simp [hdone], ?_⟩ (by show N - (n + 1) < N - at0; omega); rw [htot, List.append_assoc]; rfl
      · rw [if_neg (show ¬ at8 s 10 &&& 2 ≠ 0 by omega)] at htot; refine arI (n := (n : Int) + 1) (by omega) ?_; refine next (n + 1, some (curG cur s, curB cur ++ pieceB s), F, m + at8 s 11, e) ⟨rfl, rfl, rfl, rfl, trivial⟩ ⟨by show at0 ≤ n + 1; omega, by show n + 1 ≤ N; omega, own2, by show m + at8 s 11 ≤ 112 * (n + 1 - at0); omega, fun x hx => (List.mem_append.1 hx).elim (hcB x) (s8.u8b x), htot, .inr ⟨by show at0 < n + 1; omega, s', curB cur ++ pieceB s, hsat, by show some (curG cur s, _) = some (genS s', _); rw [hgat]⟩⟩ (by show N - (n + 1) < N - n; omega)
    · refine neB (fun _ => ?_) (fun h => by cases h); refine ret0 ⟨?_, ku.then x1 fun _ _ _ => trivial⟩; rw [hdr, recG, if_neg ((fun q => hna (by have := hcn.1 (q.2.1.1 (by omega)); omega))), List.append_nil] at htot; rw [htot, hdone]; exact hJ i u _ Ju x1
  · refine cE (fun hna => ?_) (fun hna => ?_)
    · refine neB (fun _ => ?_) (fun h => by cases h); refine ret0 ⟨?_, ku.then x1 fun _ _ _ => trivial⟩; rw [hdr, recG, if_neg ((fun q => (q.2.1.2 (hcn.2 (by omega))) (by omega))), List.append_nil] at htot; rw [htot, hdone]; exact hJ i u _ Ju x1
    · refine neB (fun h => absurd rfl h) (fun _ => ?_); refine slcR 0 4 hs2 hc2 rfl rfl (by omega) (by omega) rfl (fun A4 hA4 => ?_)
      have s4 : ∀ y, Ext u y → SlR tU8 (fun j => D j ∧ j < w.heap.size) y A4 4 (s.take 4) := fun y hy => by have := hA4 _ y (hs2.ext hy); rwa [List.drop_zero] at this
      refine callQ (fun y hy => c_jget (s4 y (x1.trans hy))) ?_; refine ldX (.slice (some (ad bx o)) N c) ((hbu.ext x1).cell rfl) (.refl _ _) ?_; refine idx at0 rfl (by omega) ?_; refine ldX (.slice A5 128 c5) (hcat.kept x1 trivial 0 _ rfl) (.refl _ _) ?_; refine slcR 0 4 hs5 hc5 rfl rfl (by omega) (by omega) rfl (fun A6 hA6 => ?_)
      have s6 : ∀ y, Ext u y → SlR tU8 (fun j => D j ∧ j < w.heap.size) y A6 4 (s'.take 4) := fun y hy => by have := hA6 _ y (hs5.ext hy); rwa [List.drop_zero] at this
      refine callQ (fun y hy => c_jget (s6 y (x1.trans hy))) ?_; refine cN (fun hg => ?_) (fun hg => ?_)
      · refine ret0 ⟨?_, ku.then x1 fun _ _ _ => trivial⟩; rw [hdr, recG, if_neg ((fun q => by have := q.2.2.1; rw [hgat] at this; unfold genS at this; omega)), List.append_nil] at htot; rw [htot, hdone]; exact hJ i u _ Ju x1
      have hgg : genS s = genS s' := by unfold genS; omega
      refine slcR 0 4 hs2 hc2 rfl rfl (by omega) (by omega) rfl (fun A7 hA7 => ?_)
      have s7 : ∀ y, Ext u y → SlR tU8 (fun j => D j ∧ j < w.heap.size) y A7 4 (s.take 4) := fun y hy => by have := hA7 _ y (hs2.ext hy); rwa [List.drop_zero] at this
      refine callQ (fun y hy => c_jget (s7 y (x1.trans hy))) ?_; refine cD (fun hlg => ?_) (fun hlg => ?_)
      · refine ret0 ⟨?_, ku.then x1 fun _ _ _ => trivial⟩; rw [hdr, recG, if_neg ((fun q => by have := q.2.2.2; unfold genS at this; omega)), List.append_nil] at htot; rw [htot, hdone]; exact hJ i u _ Ju x1
      have hsok : secOk s n cur last := ⟨hgood, ⟨fun h => absurd (show at8 s 10 &&& 1 = 0 by omega) h, fun h => absurd (hcn.1 h) (by omega)⟩, by rw [hgat]; exact hgg, by unfold genS; omega⟩; refine idx 11 rfl (by omega) ?_; refine ld (uv8 (at8 s 11)) ((show Kept (fun _ => True) u w1 from x1).cell c11 trivial) ?_; refine cvI (by omega) ?_; refine arI (n := 12 + ((at8 s 11 : Nat) : Int)) (by omega) ?_; have h112 := hgood.1; refine slcR 12 (12 + at8 s 11) (hs2.ext x1) hc2 rfl (by show 12 + ((at8 s 11 : Nat) : Int) = ((12 + at8 s 11 : Nat) : Int); omega) (by omega) (by omega) rfl (fun A8 hA8 => ?_); have s8 := hA8 _ w1 (hs2.ext x1); rw [List.drop_take, Nat.add_sub_cancel_left] at s8; rw [Nat.add_sub_cancel_left]; refine appF (n := m) (m := at8 s 11) (c := d) (A := B) (own.then x1) s8.u8src (by omega) (fun F e w2 own2 k2 hF => ?_) (h1 := u8s_one _)
      have own2 : OwnF u0 w2 F (m + at8 s 11) e 5 1 (u8s (curB cur ++ pieceB s)) := by rw [u8s_app]; exact own2
      have kU : Kept (fun j => j < u0.heap.size) u w2 := (Ext.any x1).then k2 fun j _ hj e => by have := own.new j e; omega
      have su0 := ku0.size; have ku2 : Kept D w w2 := ku0.then own2.ext fun _ _ _ => trivial; refine idx 10 rfl (by omega) ?_; refine ld (uv8 (at8 s 10)) (kU.cell c10 (show b2 < u0.heap.size by have := hD2.2; omega)) ?_; refine and8 (a := at8 s 10) (b := 2) l10 (by omega) ?_; rw [hdr, recG, if_pos hsok] at htot; refine cN (fun hb2 => ?_) (fun hb2 => ?_)
      · rw [if_pos (show at8 s 10 &&& 2 ≠ 0 by omega)] at htot; refine arI (n := (n : Int) + 1) (by omega) ?_; refine slcR 0 4 (hs2.kept kU fun j _ h => by have := h.2; omega) hc2 rfl rfl (by omega) (by omega) rfl (fun A9 hA9 => ?_); have s9 := hA9 _ w2 (hs2.kept kU fun j _ h => by have := h.2; omega); rw [List.drop_zero] at s9; refine call_of (c_jget s9) ?_; rintro _ w3 ⟨rfl, hw3⟩; rw [hw3]; clear hw3 w3
        have hrec : (recG l 0 none 0)[i]? = some (n + 1, curB cur ++ pieceB s) := by
          rw [htot, List.getElem?_append_right (by omega), hdone, Nat.sub_self]; rfl
        have hbb : ∀ x ∈ curB cur ++ pieceB s, x < 256 := fun x hx => (List.mem_append.1 hx).elim (hcB x) (s8.u8b x); have hst := hstep i u0 w2 (n + 1) (curB cur ++ pieceB s) F (m + at8 s 11) e hrec Ju0 ku0 own2.ext (own2.u8 hbb (by omega) fun j hj => hj) own2.le (by omega); refine yield_of hst ?_; rintro _ w4 ⟨rfl, J4, k4⟩; refine next (n + 1, genS s, i + 1) ⟨rfl, rfl, trivial⟩ ⟨by show n + 1 ≤ N; omega, getB_lt s9.u8b, ku2.trans k4, J4, done ++ [(n + 1, curB cur ++ pieceB s)], by simp [hdone], ?_⟩ (by show N - (n + 1) < N - at0; omega); rw [htot, List.append_assoc]; rfl
      · rw [if_neg (show ¬ at8 s 10 &&& 2 ≠ 0 by omega)] at htot; refine arI (n := (n : Int) + 1) (by omega) ?_; refine next (n + 1, some (curG cur s, curB cur ++ pieceB s), F, m + at8 s 11, e) ⟨rfl, rfl, rfl, rfl, trivial⟩ ⟨by show at0 ≤ n + 1; omega, by show n + 1 ≤ N; omega, own2, by show m + at8 s 11 ≤ 112 * (n + 1 - at0); omega, fun x hx => (List.mem_append.1 hx).elim (hcB x) (s8.u8b x), htot, .inr ⟨by show at0 < n + 1; omega, s', curB cur ++ pieceB s, hsat, by show some (curG cur s, _) = some (genS s', _); rw [hgat]⟩⟩ (by show N - (n + 1) < N - n; omega)
end
structure Jrn where
  recs : List (List Nat)
  many : Int
  syn : Int
abbrev zeroJ : Jrn := ⟨[], 0, 0⟩
abbrev zeroJC : List Value := [.slice none 0 0, iv 0, iv 0]
structure JrnR (D : Nat → Prop) (w : World) (cs : List Value) (j : Jrn) : Prop where
  of_ ::
  ex : ∃ A n c, cs = [.slice A n c, iv j.many, iv j.syn] ∧ SlR (tSl tU8) D w A n j.recs ∧ n ≤ c ∧ I64 j.many ∧ I64 j.syn
theorem zeroJ_r {D : Nat → Prop} {w : World} : JrnR D w zeroJC zeroJ := ⟨⟨none, 0, 0, rfl, .nil, Nat.le_refl _, (show I64 0 by unfold I64; omega), (show I64 0 by unfold I64; omega)⟩⟩
theorem JrnR.ext {D : Nat → Prop} {w w' : World} {cs : List Value} {j : Jrn} (h : JrnR D w cs j) (k : Ext w w') : JrnR D w' cs j :=
  let ⟨A, n, c, h1, h2, h3⟩ := h.ex; ⟨A, n, c, h1, h2.ext k, h3⟩
def LBx (E : Nat → Prop) (w0 u : World) (A : Option Addr) (n c : Nat) (l : List (List Nat)) : Prop := ∃ cs, OwnF w0 u A n c 102 1 cs ∧ FlatR (tSl tU8) (fun b => A ≠ some (ad b 0) ∧ E b) u l cs
theorem LBx.nil {E : Nat → Prop} {w0 u : World} (h : Ext w0 u) : LBx E w0 u none 0 0 [] := ⟨[], OwnF.nil h, rfl⟩
theorem LBx.ex {E : Nat → Prop} {w0 u : World} {A : Option Addr} {n c : Nat} {l : List (List Nat)} (h : LBx E w0 u A n c l) : Ext w0 u := let ⟨_, o, _⟩ := h; o.ext
theorem LBx.then {E : Nat → Prop} {w0 u u' : World} {A : Option Addr} {n c : Nat} {l : List (List Nat)} (h : LBx E w0 u A n c l) (k : Ext u u') : LBx E w0 u' A n c l := let ⟨cs, o, f⟩ := h; ⟨cs, o.then k, f.keep fun b hb _ => k.blk b hb trivial⟩
theorem LBx.thenK {E D : Nat → Prop} {w0 u u' : World} {A : Option Addr} {n c : Nat} {l : List (List Nat)} (h : LBx E w0 u A n c l) (k : Kept D u u') (hE : ∀ b, E b → D b) (hA : ∀ g, A = some (ad g 0) → D g) (hx : Ext w0 u') : LBx E w0 u' A n c l := let ⟨cs, o, f⟩ := h; ⟨cs, o.thenK k hA hx, f.keep fun b hb hd => k.blk b hb (hE b hd.2)⟩
theorem LBx.len {E : Nat → Prop} {w0 u : World} {A : Option Addr} {n c : Nat} {l : List (List Nat)} (h : LBx E w0 u A n c l) : n = l.length := by
  obtain ⟨cs, o, f⟩ := h; exact LBy.len ⟨cs, o, f.more fun _ _ h => h.1⟩
theorem LBx.le {E : Nat → Prop} {w0 u : World} {A : Option Addr} {n c : Nat} {l : List (List Nat)} (h : LBx E w0 u A n c l) : n ≤ c := let ⟨_, o, _⟩ := h; o.le
theorem LBx.lt {E : Nat → Prop} {w0 u : World} {A : Option Addr} {n c g : Nat} {l : List (List Nat)} (h : LBx E w0 u A n c l) (hg : A = some (ad g 0)) : w0.heap.size ≤ g ∧ g < u.heap.size := by
  obtain ⟨cs, o, f⟩ := h; refine ⟨o.new g hg, ?_⟩; rcases o.form with ⟨q, -⟩ | ⟨q, h2, -, h3, -⟩
  · rw [q] at hg; cases hg
  · rw [h2] at hg; injection hg with hg; injection hg with hg; omega
theorem LBx.ty {E : Nat → Prop} {w0 u : World} {A : Option Addr} {n c b : Nat} {t : TypeId} {xs : List Value} {l : List (List Nat)} (h : LBx E w0 u A n c l) (hb : Blk u b t xs) (hne : t ≠ 102) : A ≠ some (ad b 0) := let ⟨_, o, _⟩ := h; own_tyL o hb hne
theorem LBx.rd {E : Nat → Prop} {w0 u : World} {A : Option Addr} {n c : Nat} {l : List (List Nat)} (h : LBx E w0 u A n c l) (hn : n ≤ 140737488355328) : SlR (tSl tU8) (fun _ => True) u A n l := by
  obtain ⟨cs, o, f⟩ := h; exact LBy.rd ⟨cs, o, f.more fun _ _ h => h.1⟩ hn
theorem appX {E : Nat → Prop} {P : Program} {X : XK} {t : TypeId} [h : SliceTy P t 102 1] [hz : ZeroTy P 102 (.slice none 0 0)] [hby : BytesTy P 102 24] {ty : TypeId} {cst : Array Bool} {n c m d q : Nat} {A B : Option Addr} {l : List (List Nat)} {x : List Nat} {w0 u v : World} {K : VK}
    (own : LBx E w0 u A n c l) (hx : SlR tU8 (fun b => A ≠ some (ad b 0) ∧ E b) u B m x) (hd : m ≤ d) (hq : NewB u 102 [.slice B m d] q v) (hn : n ≤ 1000000)
    (kk : ∀ A' c' w', LBx E w0 w' A' (n + 1) c' (l ++ [x]) → Kept (fun b => A ≠ some (ad b 0)) v w' → (A' = A ∨ A' = none ∨ A' = some (ad v.heap.size 0)) → K (.slice A' (n + 1) c') w') : BuiP P .append #[t, t] ty cst #[.slice A n c, .slice (some (ad q 0)) 1 1] K X v := by
  obtain ⟨cs, o, f⟩ := own; refine appF (zv := .slice none 0 0) (sz := 1) (by_ := 24) (o.then hq.ext) (hq.src (n := 1) rfl) (by omega) fun A' c' w' o' k' hA => ?_; refine kk A' c' w' ⟨_, o', ?_⟩ k' hA; have k2 : Kept (fun b => A ≠ some (ad b 0)) u w' := hq.ext.any.then k' fun _ _ h => h
  have hD : ∀ b, b < u.heap.size → A ≠ some (ad b 0) → A' ≠ some (ad b 0) := fun b hb h e => by
    rcases hA with r | r | r
    · exact h (r.symm.trans e)
    · rw [r] at e; cases e
    · rw [r] at e; injection e with e; injection e with e; have := hq.ext.size; omega
  have f1 : FlatR (tSl tU8) (fun b => (A ≠ some (ad b 0) ∧ E b) ∧ b < u.heap.size) u l cs := f.more fun b hb h => ⟨h, hb⟩; have hx1 : SlR tU8 (fun b => (A ≠ some (ad b 0) ∧ E b) ∧ b < u.heap.size) u B m x := hx.more (by decide) fun b hb h => ⟨h, hb⟩; have f2 : FlatR (tSl tU8) (fun b => (A ≠ some (ad b 0) ∧ E b) ∧ b < u.heap.size) w' l cs := f1.keep fun b hb h => k2.blk b hb h.1.1; have hx2 : SlR tU8 (fun b => (A ≠ some (ad b 0) ∧ E b) ∧ b < u.heap.size) w' B m x := hx1.kept k2 fun b _ h => h.1.1; exact (f2.more fun b _ h => ⟨hD b h.2 h.1.1, h.1.2⟩).app (FlatR.one (a := tSl tU8) ⟨B, m, d, rfl, hx2.more (by decide) fun b _ h => ⟨hD b h.2 h.1.1, h.1.2⟩, hd⟩)
def recsD (l : List (List Nat)) : List (List Nat) := (recG l 0 none 0).map (·.2)
theorem recG_len : ∀ (l : List (List Nat)) (n : Nat) (cur : Option (Nat × List Nat)) (last : Nat), (recG l n cur last).length ≤ l.length
  | [], _, _, _ => Nat.le_refl _
  | s :: r, n, cur, last => by
    unfold recG
    rw [List.length_cons]
    split
    · split
      · have := recG_len r (n + 1) none (genS s)
        rw [List.length_cons]; omega
      · have := recG_len r (n + 1) (some (curG cur s, curB cur ++ pieceB s)) last
        omega
    · simp
def openP (d : Dsk) : Jrn × Int := if ¬ okD d then (zeroJ, 40) else if d.stop = true then (zeroJ, 40) else if 0 < d.pend.length then (zeroJ, 1) else (⟨recsD d.secs, d.secs.length, (recsD d.secs).length⟩, 0)
def RetJ (w w' : World) (v : Value) (p : Jrn × Int) : Prop := ∃ cs, v = .tuple #[.agg cs.toArray, iv p.2] ∧ JrnR (fun _ => True) w' cs p.1 ∧ Ext w w'
section
variable {D : Nat → Prop} {w : World}
set_option maxRecDepth 4000 in
theorem c_jOpen {d : Dsk} {cs : List Value} (hd : DskR (fun _ => True) w cs d) : CallZ Tryz.prog 52 #[.agg cs.toArray] w (fun v w' => RetJ w w' v (openP d)) := by
  obtain ⟨A, n, c, B, m, c2, rfl, hs, hc, hp, hc2, hId⟩ := hd.ex; have ln := hs.len; have lm := hp.len; have hs0 := hs.more (D' := fun b => b < w.heap.size) (by decide) fun b hb _ => hb; refine fn_rule (args := [.agg #[.slice A n c, .slice B m c2, iv d.left, .bool d.stop]]) Tryz.func52 (by kernel_rfl) ?_; refine box (fun g w1 h1 => ?_); have G1 : Blk w1 g 44 [.slice A n c, .slice B m c2, iv d.left, .bool d.stop] := h1.blk; refine alloc (fun b2 w2 h2 => ?_); have R2 : Blk w2 b2 108 zeroJC := h2.blk; have e1 := h1.at_; have e2 := h2.at_; have x02 := h1.ext.trans h2.ext; have s1 := h1.ext.size; have G2 := G1.ext h2.ext; have lg := G1.lt; refine ldA [.slice A n c, .slice B m c2, iv d.left, .bool d.stop] (.blk G2) rfl ?_; refine call_of (c_dCheck (hd.ext x02)) ?_; rintro _ w3 ⟨rfl, x3⟩; have x03 := x02.trans x3; have R3 := R2.ext x3; have G3 := G2.ext x3; have s23 := x3.size; refine cN (fun h => ?_) (fun h => ?_)
  · have hno : ¬ okD d := fun q => h (dskE_0.2 q)
    have h40 : dskE d = 40 := by unfold dskE; rw [if_neg hno]
    refine bld zeroJC (by kernel_rfl) ?_; refine stA (vs := zeroJC) R3 rfl (Nat.le_of_ble_eq_true rfl) (by simp [Value.oneCell']) (fun we Be ke ze => ?_); refine ret ?_; refine resL (.agg (zeroJC).toArray) (holds_agg (.blk Be) rfl) ?_; refine ⟨zeroJC, by unfold openP; rw [if_pos hno, h40]; rfl, by unfold openP; rw [if_pos hno]; exact zeroJ_r, x03.then ke fun i hi _ e => by omega⟩
  have hok : okD d := dskE_0.1 h; have hnn : ¬ ¬ okD d := fun q => q hok; have k1 := hok.1; have k2 := hok.2.1; have k7 := hok.2.2.2.2.2.2
  cases hst : d.stop with
  | true =>
    refine fldA ?_; refine ld (.bool true) (G3.cell (by rw [hst]; rfl)) ?_; refine bld zeroJC (by kernel_rfl) ?_; refine stA (vs := zeroJC) R3 rfl (Nat.le_of_ble_eq_true rfl) (by simp [Value.oneCell']) (fun we Be ke ze => ?_); refine ret ?_; refine resL (.agg (zeroJC).toArray) (holds_agg (.blk Be) rfl) ?_; exact ⟨zeroJC, by unfold openP; rw [if_neg hnn, if_pos hst]; rfl, by unfold openP; rw [if_neg hnn, if_pos hst]; exact zeroJ_r, x03.then ke fun i hi _ e => by omega⟩
  | false =>
  have hst' : ¬ d.stop = true := by rw [hst]; decide
  refine fldA ?_; refine ld (.bool false) (G3.cell (by rw [hst]; rfl)) ?_; refine fldA ?_; refine ld (.slice B m c2) (G3.cell rfl) ?_; refine len ?_; refine cD (fun hpos => ?_) (fun hpos => ?_)
  · refine bld zeroJC (by kernel_rfl) ?_; refine stA (vs := zeroJC) R3 rfl (Nat.le_of_ble_eq_true rfl) (by simp [Value.oneCell']) (fun we Be ke ze => ?_); refine ret ?_; refine resL (.agg (zeroJC).toArray) (holds_agg (.blk Be) rfl) ?_; exact ⟨zeroJC, by unfold openP; rw [if_neg hnn, if_neg hst', if_pos (by omega)]; rfl, by unfold openP; rw [if_neg hnn, if_neg hst', if_pos (by omega)]; exact zeroJ_r, x03.then ke fun i hi _ e => by omega⟩
  refine fldA ?_; refine ld (.slice A n c) (G3.cell rfl) ?_; refine len ?_; refine fldA ?_; refine st R3 (Nat.le_of_ble_eq_true rfl) rfl (fun w4 R4 k4 _ => ?_); have R4 : Blk w4 b2 108 [.slice none 0 0, iv (n : Int), iv 0] := R4; have G4 := G3.kept k4 (show g ≠ b2 by omega)
  have x04 : Ext w w4 := x03.then k4 fun i hi _ e => by omega
  have s34 := k4.size; refine fldA ?_; refine ld (.slice A n c) (G4.cell rfl) ?_; refine call_of c_jrecords ?_; rintro _ w9 ⟨bb, rfl, x79, Bb, hbb⟩; have s79 := x79.size; have lbb := Bb.lt; have lR4 := R4.lt; clear h1 h2; refine range (gf := 160) (lb := #[ptr bb]) rfl (fun fn tmps w10 R hRR hF' hwf x10 z10 hD10 hl10 => ?_); show CallZ _ _ #[.func (.yield (w9.heap.size + 1)) #[] #[], ptr bb] w10 _; have x410 := x79.trans x10; have x010 := x04.trans x410; have s10 := x410.size; have R10 := R4.ext x410; have hs10 : SlR (tSl tU8) (fun b => b < w.heap.size ∨ b = bb ∨ b = w9.heap.size) w10 A n d.secs := (hs0.ext x010).more (by decide) fun b _ h => .inl h; have s04 := x04.size; refine (c_jrecords1 (D := fun b => b < w.heap.size ∨ b = bb ∨ b = w9.heap.size) (fun i y => LoopAt y (w9.heap.size + 1) R ∧ ∃ A' m' d', Blk y b2 108 [.slice A' m' d', iv (n : Int), iv 0] ∧ LBx (fun j => j ≠ b2 ∧ j ≠ w9.heap.size + 1 ∧ j ≠ w9.heap.size) w y A' m' d' (((recG d.secs 0 none 0).take i).map (·.2))) hs10 (Bb.ext x10) (.inr (.inl rfl)) k7 (by omega) ?_ ?_ ⟨hl10, none, 0, 0, R10, LBx.nil x010⟩).mono ?_
  · rintro i u u' ⟨j1, A', m', d', j2, j3⟩ k; exact ⟨j1.kept k trivial, A', m', d', j2.ext k, j3.then k⟩
  · rintro i u0 y e b B' mb db hrec ⟨l0, A', m', d', R0, own0⟩ ku0 xuy hsb hmb hm6; have su0 := ku0.size; have suy := xuy.size; have hm' := own0.len; have hil : i < (recG d.secs 0 none 0).length := (List.getElem?_eq_some_iff.1 hrec).1; have hrl := recG_len d.secs 0 none 0
    have hm4 : m' ≤ 4096 := by rw [hm', List.length_map, List.length_take]; omega
    have lown := fun j (hj : A' = some (ad j 0)) => own0.lt hj
    have hlp : A' ≠ some (ad (w9.heap.size + 1) 0) := fun e => by
      obtain ⟨cs, o, f⟩ := own0; obtain ⟨rest, hb3, _⟩ := Own.blk (e ▸ o.own); have h1 : u0.heap[w9.heap.size + 1]? = _ := hb3; rw [show u0.heap[w9.heap.size + 1]? = _ from l0] at h1
      cases h1
    have hmk : A' ≠ some (ad w9.heap.size 0) := fun e => by
      obtain ⟨cs, o, f⟩ := own0; obtain ⟨rest, hb3, _⟩ := Own.blk (e ▸ o.own); have h1 : u0.heap[w9.heap.size]? = _ := hb3; rw [show u0.heap[w9.heap.size]? = _ from (ku0.blk _ (by omega) (.inr (.inr rfl))).trans hD10] at h1
      cases h1
    have hb2 : A' ≠ some (ad b2 0) := own0.ty R0 (by decide); subst hRR; refine yield_rule (args := [iv (e : Int), .slice B' mb db]) (l0.kept xuy trivial) rfl rfl hF' hwf ?_; refine mid' (l0.kept xuy trivial) (fun u3 k3 zk3 l3 => ?_); have R3 := (R0.ext xuy).kept k3 (by omega); have x0y : Ext w y := own0.ex.trans xuy; have s0y := x0y.size
    have x03' : Ext w u3 := x0y.then k3 fun j hj _ => by omega
    have own3 := (own0.then xuy).thenK k3 (fun j hj => hj.2.1) (fun j hj e => hlp (e ▸ hj)) x03'; have s3 := k3.size; refine fldA ?_; refine ld (.slice A' m' d') (R3.cell rfl) ?_; refine lit [.slice B' mb db] (fun q u4 hq => ?_); have hx3 : SlR tU8 (fun j => A' ≠ some (ad j 0) ∧ j ≠ b2 ∧ j ≠ w9.heap.size + 1 ∧ j ≠ w9.heap.size) u3 B' mb b := (hsb.kept k3 fun j _ hj e => by omega).more (by decide) fun j _ hj => ⟨fun e => by have := lown j e; omega, by omega, by omega, by omega⟩; refine appX own3 hx3 hmb hq (by omega) (fun A5 d5 u5 own5 k5 hA5 => ?_); have s34' := hq.ext.size; have R5 := (R3.ext hq.ext).kept k5 hb2; have l5 := (l3.kept hq.ext trivial).kept k5 hlp
    have hA5' : ∀ j, A5 = some (ad j 0) → j ≠ b2 ∧ j ≠ w9.heap.size + 1 ∧ w.heap.size ≤ j ∧ j ≠ bb := fun j hj => by
      have hge := (own5.lt hj).1; refine ⟨fun e => own5.ty R5 (by decide) (e ▸ hj), fun e => ?_, hge, fun e => ?_⟩
      · rcases hA5 with r | r | r
        · exact hlp (by rw [← r, hj, e])
        · rw [r] at hj; cases hj
        · rw [r] at hj; injection hj with hj; injection hj with hj; omega
      · rcases hA5 with r | r | r
        · have hBb := ((Bb.ext x10).kept ku0 (.inr (.inl rfl))); exact own0.ty hBb (by decide) (by rw [← r, hj, e])
        · rw [r] at hj; cases hj
        · rw [r] at hj; injection hj with hj; injection hj with hj; omega
    refine fldA ?_; refine st R5 (Nat.le_of_ble_eq_true rfl) rfl (fun u6 R6 k6 _ => ?_); have R6 : Blk u6 b2 108 [.slice A5 (m' + 1) d5, iv (n : Int), iv 0] := R6; have l6 := l5.kept k6 (by omega); have own6 := own5.thenK k6 (fun j hj => hj.1) (fun j hj => (hA5' j hj).1) (own5.ex.then k6 fun j hj _ => by omega); refine roundN' _ l6 (fun u7 k7 l7 => ?_); have own7 := own6.thenK k7 (fun j hj => hj.2.1) (fun j hj => (hA5' j hj).2.1) (own6.ex.then k7 fun j hj _ => by omega); refine ⟨rfl, ⟨l7, A5, m' + 1, d5, R6.kept k7 (by omega), ?_⟩, ?_⟩
    · rw [List.take_add_one, hrec, List.map_append]; exact own7
    · have hAn : ∀ j, (j < w.heap.size ∨ j = bb ∨ j = w9.heap.size) → A' ≠ some (ad j 0) := fun j hj e => by
        have h1 := lown j e; rcases hj with hj | hj | hj
        · omega
        · subst hj; exact own0.ty ((Bb.ext x10).kept ku0 (.inr (.inl rfl))) (by decide) e
        · subst hj; exact hmk e
      have a1 : Kept (fun b => b < w.heap.size ∨ b = bb ∨ b = w9.heap.size) y u3 := k3.weak fun j _ hj e => by omega
      have a2 : Kept (fun b => b < w.heap.size ∨ b = bb ∨ b = w9.heap.size) u3 u5 := (Ext.any hq.ext).trans (k5.weak fun j _ hj => hAn j hj); have a3 : Kept (fun b => b < w.heap.size ∨ b = bb ∨ b = w9.heap.size) u5 u7 := (k6.weak fun j _ hj e => by omega).trans (k7.weak fun j _ hj e => by omega); exact a1.trans (a2.trans a3)
  · rintro _ y ⟨⟨ly, A', m', d', Ry, own⟩, ky⟩; subst hRR; refine range_end _ ly (by simp) (fun y1 k1 => ?_); have hlen := own.len; rw [List.length_map, List.length_take, Nat.min_self] at hlen; rw [List.take_length] at own; have Ry1 := Ry.kept k1 (by omega); have lown := fun j (hj : A' = some (ad j 0)) => own.lt hj
    have hlp : A' ≠ some (ad (w9.heap.size + 1) 0) := fun e => by
      obtain ⟨cs, o, f⟩ := own; obtain ⟨rest, hb3, _⟩ := Own.blk (e ▸ o.own); have h1 : y.heap[w9.heap.size + 1]? = _ := hb3; rw [show y.heap[w9.heap.size + 1]? = _ from ly] at h1
      cases h1
    have hb2 : A' ≠ some (ad b2 0) := own.ty Ry (by decide); have hmk0 : y.heap[w9.heap.size]? = some (.deferred (some [])) := (ky.blk _ (by omega) (.inr (.inr rfl))).trans hD10
    have hmk : A' ≠ some (ad w9.heap.size 0) := fun e => by
      obtain ⟨cs, o, f⟩ := own; obtain ⟨rest, hb3, _⟩ := Own.blk (e ▸ o.own); have h1 : y.heap[w9.heap.size]? = _ := hb3; rw [hmk0] at h1
      cases h1
    have sy := ky.size; have xwy : Ext w y := own.ex
    have xwy1 : Ext w y1 := xwy.then k1 fun j hj _ => by omega
    have own1 := own.thenK k1 (fun j hj => hj.2.1) (fun j hj e => hlp (e ▸ hj)) xwy1; have hmk1 : y1.heap[w9.heap.size]? = some (.deferred (some [])) := (k1.blk _ (by omega) (by omega)).trans hmk0; refine fldA ?_; refine ld (.slice A' m' d') (Ry1.cell rfl) ?_; refine len ?_; refine fldA ?_; refine st Ry1 (Nat.le_of_ble_eq_true rfl) rfl (fun y2 Ry2 k2 _ => ?_); have Ry2 : Blk y2 b2 108 [.slice A' m' d', iv (n : Int), iv (m' : Int)] := Ry2; refine ldA [.slice A' m' d', iv (n : Int), iv (m' : Int)] (.blk Ry2) rfl ?_; refine stA (vs := [.slice A' m' d', iv (n : Int), iv (m' : Int)]) Ry2 rfl (Nat.le_of_ble_eq_true rfl) (by simp [Value.oneCell']) (fun y3 Ry3 k3 _ => ?_); have Ry3 : Blk y3 b2 108 [.slice A' m' d', iv (n : Int), iv (m' : Int)] := Ry3; have k13 : Kept (fun j => j ≠ b2) y1 y3 := k2.trans k3
    have xwy3 : Ext w y3 := xwy1.then k13 fun j hj _ => by omega
    have own3 := own1.thenK k13 (fun j hj => hj.1) (fun j hj e => hb2 (e ▸ hj)) xwy3; have hmk3 : y3.heap[w9.heap.size]? = some (.deferred (some [])) := (k13.blk _ (by have := k1.size; omega) (by omega)).trans hmk1; refine retM hmk3 ?_; have k4' := Kept.putObj y3 w9.heap.size (.deferred none); refine resL (.agg #[.slice A' m' d', iv (n : Int), iv (m' : Int)]) (holds_agg (.blk (Ry3.kept k4' (by omega))) rfl) ?_
    have xe := xwy3.then k4' fun j hj _ => by omega
    have own4 := own3.thenK k4' (fun j hj => hj.2.2) (fun j hj e => hmk (e ▸ hj)) xe; have hrl := recG_len d.secs 0 none 0
    have hres : openP d = (⟨recsD d.secs, n, m'⟩, 0) := by
      unfold openP; rw [if_neg hnn, if_neg hst', if_neg (by omega), ln, hlen]; unfold recsD; rw [List.length_map]
    refine ⟨[.slice A' m' d', iv (n : Int), iv (m' : Int)], by rw [hres]; rfl, ?_, xe⟩; rw [hres]; exact ⟨⟨A', m', d', rfl, own4.rd (by omega), own4.le, (show I64 (n : Int) by unfold I64; omega), (show I64 (m' : Int) by unfold I64; omega)⟩⟩
end
def secN (b : List Nat) : Nat := max 1 ((b.length + 111) / 112)
def usedN (l : List (List Nat)) : Nat := (l.map secN).sum
theorem usedN_snoc (l : List (List Nat)) (x : List Nat) : usedN (l ++ [x]) = usedN l + secN x := by unfold usedN; simp
theorem secN_le (b : List Nat) : secN b ≤ b.length + 1 := by unfold secN; omega
def jE (j : Jrn) : Int := if j.many < 1 ∨ j.many > 4096 ∨ j.syn < 0 ∨ j.syn > j.recs.length ∨ (usedN j.recs : Int) > j.many then 1 else 0
def appendP (j : Jrn) (b : List Nat) : Jrn × Int := if jE j ≠ 0 then (zeroJ, jE j) else if (secN b : Int) > j.many - usedN j.recs then (zeroJ, 2) else (⟨j.recs ++ [b], j.many, j.syn⟩, 0)
def SmallJ (l : List (List Nat)) : Prop := l.length ≤ 100000 ∧ ∀ b ∈ l, b.length ≤ 1000000
theorem usedN_le {l : List (List Nat)} (h : ∀ b ∈ l, b.length ≤ 1000000) : usedN l ≤ 1000001 * l.length := by
  induction l with
  | nil => simp [usedN]
  | cons a l ih =>
    have h1 := ih fun b hb => h b (List.mem_cons_of_mem _ hb); have h2 := h a List.mem_cons_self; have h3 := secN_le a; unfold usedN at *; rw [List.map_cons, List.sum_cons, List.length_cons]; omega
section
variable {D : Nat → Prop} {w : World}
theorem c_jsectors {A : Option Addr} {n c : Nat} {b : List Nat} (hs : SlR tU8 D w A n b) : CallZ Tryz.prog 101 #[.slice A n c] w (fun v w' => v = iv (secN b : Int) ∧ w' = w) := by
  have hlen := hs.len; have hle := hs.le; refine fn_rule (args := [.slice A n c]) Tryz.func101 (by kernel_rfl) ?_; refine len ?_; refine arI (n := (n : Int) + 112) (by omega) ?_; refine arI (n := (n : Int) + 112 - 1) (by omega) ?_; refine quoI (by omega) (by omega) (by omega) ?_; refine ret1 (iv (max 1 (((n : Int) + 112 - 1) / 112))) rfl ⟨?_, rfl⟩
  have e : max 1 (((n : Int) + 112 - 1) / 112) = ((secN b : Nat) : Int) := by unfold secN; rw [hlen]; omega
  rw [e]
theorem c_jused {A : Option Addr} {n c : Nat} {l : List (List Nat)} (hs : SlR (tSl tU8) D w A n l) (hl : SmallJ l) : CallZ Tryz.prog 102 #[.slice A n c] w (fun v w' => v = iv (usedN l : Int) ∧ w' = w) := by
  have hlen := hs.len; refine fn_rule (args := [.slice A n c]) Tryz.func102 (by kernel_rfl) ?_; refine len ?_; refine loop_rule (fun k : Nat => [(2, iv (usedN (l.take k) : Int)), (7, iv (k : Int))]) (fun k u => k ≤ n ∧ w = u) (fun k _ => n - k) 0 ⟨rfl, rfl, trivial⟩ ⟨by omega, rfl⟩ rfl ?_; rintro G k u ⟨hk, rfl⟩; refine cD (fun hlt => ?_) (fun hge => ?_)
  · obtain ⟨bx, o, cs, x, rfl, hx, -, -, hc, A2, n2, c2, rfl, hs2, hc2⟩ := hs.at_ (k := k) (by omega); refine idx k rfl (by omega) ?_; refine ld (.slice A2 n2 c2) (hc 0 _ rfl) ?_; have h1 := usedN_le (l := l.take k) fun b hb => hl.2 b (List.mem_of_mem_take hb); have h2 := hl.2 x (List.mem_of_getElem? hx); have h3 := secN_le x; have h4 := hl.1; rw [List.length_take] at h1; refine call_of (c_jsectors hs2) ?_; rintro _ w2 ⟨rfl, hw2⟩; rw [hw2]; clear hw2 w2
    have htk : l.take (k + 1) = l.take k ++ [x] := by rw [List.take_add_one, hx]; rfl
    refine arI (n := (usedN (l.take k) : Int) + (secN x : Int)) (by omega) ?_; refine arI (n := (k : Int) + 1) (by omega) ?_; refine next (k + 1) ⟨?_, by rw [Int.natCast_add]; rfl, trivial⟩ ⟨by omega, rfl⟩ (by omega); rw [htk, usedN_snoc, Int.natCast_add]; rfl
  · rw [List.take_of_length_le (by omega)]; exact ret1 (iv _) rfl ⟨rfl, rfl⟩
theorem c_jCheck {j : Jrn} {cs : List Value} (hj : JrnR D w cs j) (hl : SmallJ j.recs) : CallZ Tryz.prog 100 #[.agg cs.toArray] w (fun v w' => v = iv (jE j) ∧ Ext w w') := by
  obtain ⟨A, n, c, rfl, hs, hc, hI1, hI2⟩ := hj.ex; have hlen := hs.len; refine fn_rule (args := [.agg #[.slice A n c, iv j.many, iv j.syn]]) Tryz.func100 (by kernel_rfl) ?_; refine box (fun g w1 h1 => ?_); have G1 : Blk w1 g 108 [.slice A n c, iv j.many, iv j.syn] := h1.blk; have x1 := h1.ext; have bad : (j.many < 1 ∨ j.many > 4096 ∨ j.syn < 0 ∨ j.syn > j.recs.length ∨ (usedN j.recs : Int) > j.many) → (iv 1 = iv (jE j) ∧ Ext w w1) := fun h => ⟨by unfold jE; rw [if_pos h], x1⟩; refine drawP (.take 0 (.take 1 (.take 2 (.take 3 (.take 4 (.take 5 (.take 6 (.take 7 (.take 8 (.take 9 (.take 10 (.take 11 (.take 12 (.take 13 (.take 14 (.take 15 (.take 16 (.take 17 (.take 18 (.take 19 (.take 20 (.take 21 (.take 22 (.take 23 (.take 24 (.take 25 (.take 26 (.take 27 (.take 28 .done))))))))))))))))))))))))))))) [] (fun y => y = w1) mx (by kernel_rfl) rfl ?_; refine fldA ?_; refine ld (iv j.many) (G1.cell rfl) ?_; refine cD (fun h => ?_) (fun a1 => ?_)
  · exact ret1 (iv 1) rfl (bad (by omega))
  refine fldA ?_; refine ld (iv j.many) (G1.cell rfl) ?_; refine cD (fun h => ?_) (fun a2 => ?_)
  · exact ret1 (iv 1) rfl (bad (by omega))
  refine fldA ?_; refine ld (iv j.syn) (G1.cell rfl) ?_; refine cD (fun h => ?_) (fun a3 => ?_)
  · exact ret1 (iv 1) rfl (bad (by omega))
  refine fldA ?_; refine ld (iv j.syn) (G1.cell rfl) ?_; refine fldA ?_; refine ld (.slice A n c) (G1.cell rfl) ?_; refine len ?_; refine cD (fun h => ?_) (fun a4 => ?_)
  · exact ret1 (iv 1) rfl (bad (by omega))
  refine fldA ?_; refine ld (.slice A n c) (G1.cell rfl) ?_; refine callQ (fun y hy => by subst hy; exact c_jused (hs.ext x1) hl) ?_; refine fldA ?_; refine ld (iv j.many) (G1.cell rfl) ?_; refine cD (fun h => ?_) (fun a5 => ?_)
  · exact ret1 (iv 1) rfl (bad (by omega))
  exact ret1 (iv 0) rfl ⟨by unfold jE; rw [if_neg (by omega)], x1⟩
end
theorem JrnR.kept {D D' : Nat → Prop} {w w' : World} {cs : List Value} {j : Jrn} (h : JrnR D w cs j) (k : Kept D' w w') (hd : ∀ b, b < w.heap.size → D b → D' b) : JrnR D w' cs j :=
  let ⟨A, n, c, h1, h2, h3⟩ := h.ex; ⟨A, n, c, h1, h2.kept k hd, h3⟩
theorem JrnR.more {D D' : Nat → Prop} {w : World} {cs : List Value} {j : Jrn} (h : JrnR D w cs j) (hd : ∀ b, b < w.heap.size → D b → D' b) : JrnR D' w cs j :=
  let ⟨A, n, c, h1, h2, h3⟩ := h.ex; ⟨A, n, c, h1, h2.more (by decide) hd, h3⟩
def RetJE (D : Nat → Prop) (w w' : World) (v : Value) (p : Jrn × Int) : Prop := ∃ cs, v = .tuple #[.agg cs.toArray, iv p.2] ∧ JrnR (fun b => D b ∨ w.heap.size ≤ b) w' cs p.1 ∧ Ext w w'
section
variable {D D1 : Nat → Prop} {w : World}
theorem c_jAppendE {j : Jrn} {cs : List Value} {E : Option Addr} {k ce : Nat} {b : List Nat} (hj : JrnR D1 w cs j) (hl : SmallJ j.recs) (hb : SlR tU8 D w E k b) (hk : k ≤ 1000000) : CallZ Tryz.prog 62 #[.agg cs.toArray, .slice E k ce] w (fun v w' => RetJE D1 w w' v (appendP j b)) := by
  obtain ⟨A, n, c, rfl, hs, hc, hI1, hI2⟩ := hj.ex; have hlen := hs.len; have hblen := hb.len; have hs0 := hs.more (D' := fun b => D1 b ∧ b < w.heap.size) (by decide) fun b hb h => ⟨h, hb⟩; have hl1 := hl.1; refine fn_rule (args := [.agg #[.slice A n c, iv j.many, iv j.syn], .slice E k ce]) Tryz.func62 (by kernel_rfl) ?_; refine box (fun g w1 h1 => ?_); have G1 : Blk w1 g 108 [.slice A n c, iv j.many, iv j.syn] := h1.blk; refine alloc (fun b4 w2 h2 => ?_); have R2 : Blk w2 b4 108 zeroJC := h2.blk; have e1 := h1.at_; have e2 := h2.at_; have x02 := h1.ext.trans h2.ext; have s1 := h1.ext.size; have G2 := G1.ext h2.ext; have lg := G1.lt; refine ldA [.slice A n c, iv j.many, iv j.syn] (.blk G2) rfl ?_; refine call_of (c_jCheck (hj.ext x02) hl) ?_; rintro _ w3 ⟨rfl, x3⟩; have x03 := x02.trans x3; have R3 := R2.ext x3; have G3 := G2.ext x3; have s03 := x03.size; refine cN (fun h => ?_) (fun h => ?_)
  · refine bld zeroJC (by kernel_rfl) ?_; refine stA (vs := zeroJC) R3 rfl (Nat.le_of_ble_eq_true rfl) (by simp [Value.oneCell']) (fun we Be ke ze => ?_); refine ret ?_; refine resL (.agg (zeroJC).toArray) (holds_agg (.blk Be) rfl) ?_; exact ⟨zeroJC, by unfold appendP; rw [if_pos h]; rfl, by unfold appendP; rw [if_pos h]; exact zeroJ_r, x03.then ke fun i hi _ e => by omega⟩
  have hE : ¬ jE j ≠ 0 := fun q => q h
  have hjc : ¬ (j.many < 1 ∨ j.many > 4096 ∨ j.syn < 0 ∨ j.syn > j.recs.length ∨ (usedN j.recs : Int) > j.many) := fun q => by
    unfold jE at h; rw [if_pos q] at h; omega
  refine drawP (.take 0 (.take 1 (.take 2 (.take 3 (.take 4 (.take 5 (.take 6 (.take 7 (.take 8 .done))))))))) [] (fun y => y = w3) mx (by kernel_rfl) rfl ?_; refine callQ (fun y hy => by subst hy; exact c_jsectors (hb.ext x03)) ?_; refine fldA ?_; refine ld (iv j.many) (G3.cell rfl) ?_; refine fldA ?_; refine ld (.slice A n c) (G3.cell rfl) ?_; refine callQ (fun y hy => by subst hy; exact c_jused (hs.ext x03) hl) ?_; refine arI (n := j.many - (usedN j.recs : Int)) (by omega) ?_; refine cD (fun hgt => ?_) (fun hgt => ?_)
  · refine bld zeroJC (by kernel_rfl) ?_; refine stA (vs := zeroJC) R3 rfl (Nat.le_of_ble_eq_true rfl) (by simp [Value.oneCell']) (fun we Be ke ze => ?_); refine ret ?_; refine resL (.agg (zeroJC).toArray) (holds_agg (.blk Be) rfl) ?_; exact ⟨zeroJC, by unfold appendP; rw [if_neg hE, if_pos hgt]; rfl, by unfold appendP; rw [if_neg hE, if_pos hgt]; exact zeroJ_r, x03.then ke fun i hi _ e => by omega⟩
  have lR3 := R3.lt; have lG3 := G3.lt
  have hE4 : ∀ i, (D1 i ∧ i < w.heap.size) ∨ w3.heap.size ≤ i → i ≠ g ∧ i ≠ b4 := fun i h => by
    rcases h with ⟨-, h⟩ | h <;> omega
  have rd7 : SlR (tSl tU8) (fun i => (D1 i ∧ i < w.heap.size) ∨ w3.heap.size ≤ i) w3 A n j.recs := (hs0.ext x03).more (by decide) fun i _ hi => .inl hi; refine fldA ?_; refine ld (.slice A n c) (G3.cell rfl) ?_; refine call_of (c_clipS rd7 hc) ?_; rintro _ w4 ⟨A8, rfl, hA8, hw4⟩; rw [hw4]; clear hw4 w4; have rd8 := hA8 _ _ rd7; refine call_of (c_cloneB (hb.ext x03) hk) ?_; rintro _ w5 ⟨A5, c5, rfl, o5⟩; refine lit [.slice A5 k c5] (fun q w6 h6 => ?_); obtain ⟨cs8, src8, f8⟩ := rd8.srcs; have x35 := o5.ext; have x36 := x35.trans h6.ext; refine appG (src8.ext x36) (h6.src (n := 1) rfl) (by omega) (by omega) (fun A9 c9 w9 o9 => ?_) (hA := fun e => by subst e; exact rd8.none0); have x39 := x36.trans o9.ext; have s39 := x39.size; have s36 := x36.size; refine fldA ?_; refine st (G3.ext x39) (Nat.le_of_ble_eq_true rfl) rfl (fun wa Ga ka _ => ?_); have Ga : Blk wa g 108 [.slice A9 (n + 1) c9, iv j.many, iv j.syn] := Ga; have Ra := (R3.ext x39).kept ka (show b4 ≠ g by omega); refine ldA [.slice A9 (n + 1) c9, iv j.many, iv j.syn] (.blk Ga) rfl ?_; refine stA (vs := [.slice A9 (n + 1) c9, iv j.many, iv j.syn]) Ra rfl (Nat.le_of_ble_eq_true rfl) (by simp [Value.oneCell']) (fun we Be ke _ => ?_); refine ret ?_; refine resL (.agg #[.slice A9 (n + 1) c9, iv j.many, iv j.syn]) (holds_agg (.blk Be) rfl) ?_; have kE : Kept (fun i => i ≠ g ∧ i ≠ b4) w9 we := (ka.weak fun i _ h => h.1).then ke fun i _ h => h.2
  have xe : Ext w we := (x03.trans x39).then kE fun i hi _ => by omega
  have hres : appendP j b = (⟨j.recs ++ [b], j.many, j.syn⟩, 0) := by unfold appendP; rw [if_neg hE, if_neg hgt]
  refine ⟨[.slice A9 (n + 1) c9, iv j.many, iv j.syn], by rw [hres]; rfl, ?_, xe⟩; rw [hres]; have hb5 := hb.u8b; have f9 : FlatR (tSl tU8) (fun i => (D1 i ∧ i < w.heap.size) ∨ w3.heap.size ≤ i) w9 j.recs cs8 := f8.keep fun i hi _ => x39.blk i hi trivial; have r5 : SlR tU8 (fun i => (D1 i ∧ i < w.heap.size) ∨ w3.heap.size ≤ i) w9 A5 k b := ((o5.u8 (D := fun i => (D1 i ∧ i < w.heap.size) ∨ w3.heap.size ≤ i) hb5 (by omega) fun i hi => .inr hi).ext h6.ext).ext o9.ext; have fE : FlatR (tSl tU8) (fun i => (D1 i ∧ i < w.heap.size) ∨ w3.heap.size ≤ i) we (j.recs ++ [b]) (cs8 ++ [.slice A5 k c5]) := (f9.app (FlatR.one (a := tSl tU8) ⟨A5, k, c5, rfl, r5, o5.le⟩)).keep fun i hi h => kE.blk i hi (hE4 i h); have ownE := o9.own.kept kE (fun i hi => by have h := o9.new i (own_at o9.own hi); omega); exact ⟨⟨A9, n + 1, c9, rfl, ownE.rd (a := tSl tU8) (fE.more fun i _ h => h.elim (fun h => .inl h.1) fun h => .inr (by omega)) (by rw [List.length_append, hlen]; rfl) (by omega) fun i hi => .inr (by have h := o9.new i (own_at o9.own (by rw [hi]; rfl)); omega), o9.le, hI1, hI2⟩⟩
end
section
variable {D D2 : Nat → Prop} {w : World}
theorem c_equalB {A B : Option Addr} {n c m d : Nat} {a b : List Nat} (hs : SlR tU8 D w A n a) (ht : SlR tU8 D2 w B m b) : CallZ Tryz.prog 61 #[.slice A n c, .slice B m d] w (fun v w' => v = .bool (decide (a = b)) ∧ w' = w) := by
  have l1 := hs.len; have l2 := ht.len; have hle := hs.le; refine fn_rule (args := [.slice A n c, .slice B m d]) Tryz.func61 (by kernel_rfl) ?_; refine len ?_; refine len ?_; refine cN (fun h => ?_) (fun h => ?_)
  · exact ret1 (.bool false) rfl ⟨by rw [decide_eq_false (fun e => h (by rw [← l1, ← l2, e]))], rfl⟩
  have hnm : n = m := by omega
  subst hnm; refine len ?_; refine loop_rule (fun k : Nat => [(13, iv (k : Int))]) (fun k u => k ≤ n ∧ w = u ∧ a.take k = b.take k) (fun k _ => n - k) 0 ⟨rfl, trivial⟩ ⟨by omega, rfl, rfl⟩ rfl ?_; rintro G k u ⟨hk, rfl, he⟩; refine cD (fun hlt => ?_) (fun hge => ?_)
  · obtain ⟨b1, o1, cs1, x, rfl, hx, -, -, hc1, rfl, -⟩ := hs.at_ (k := k) (by omega); obtain ⟨b2, o2, cs2, y, rfl, hy, -, -, hc2, rfl, -⟩ := ht.at_ (k := k) (by omega); refine drawP (.take 0 (.take 1 (.take 2 (.take 3 (.take 4 (.take 5 (.take 6 (.take 7 (.take 8 .done))))))))) [] (fun y => y = w) mx (by kernel_rfl) rfl ?_; refine idx k rfl (by omega) ?_; refine ld (uv8 x) (hc1 0 _ rfl) ?_; refine idx k rfl (by omega) ?_; refine ld (uv8 y) (hc2 0 _ rfl) ?_; refine cN (fun hne => ?_) (fun heq => ?_)
    · exact ret1 (.bool false) rfl ⟨by rw [decide_eq_false (fun e => hne (by subst e; rw [hx] at hy; injection hy with h; rw [h]))], rfl⟩
    · refine arI (n := (k : Int) + 1) (by omega) ?_; refine next (k + 1) ⟨by rw [Int.natCast_add]; rfl, trivial⟩ ⟨by omega, rfl, ?_⟩ (by omega)
      have hxy : x = y := by omega
      rw [List.take_add_one, List.take_add_one, hx, hy, he, hxy]
  · rw [List.take_of_length_le (by omega), List.take_of_length_le (by omega)] at he; exact ret1 (.bool true) rfl ⟨by rw [decide_eq_true he], rfl⟩
theorem c_equalFB {f : FuncId} [hf : Enters Tryz.prog f] {A B : Option Addr} {n c m d : Nat} {a b : List (List Nat)} (hs : SlR (tSl tU8) D w A n a) (ht : SlR (tSl tU8) D2 w B m b)
    (heq : ∀ {A B : Option Addr} {n c m d : Nat} {x y : List Nat}, SlR tU8 D w A n x → SlR tU8 D2 w B m y → CallZ Tryz.prog f #[.slice A n c, .slice B m d] w (fun v w' => v = .bool (decide (x = y)) ∧ w' = w)) :
    CallZ Tryz.prog 60 #[.slice A n c, .slice B m d, .func (.func f) #[] #[]] w (fun v w' => v = .bool (decide (a = b)) ∧ w' = w) := by
  have l1 := hs.len; have l2 := ht.len; have hle := hs.le; refine fn_rule (args := [.slice A n c, .slice B m d, .func (.func f) #[] #[]]) Tryz.func60 (by kernel_rfl) ?_; refine len ?_; refine len ?_; refine cN (fun h => ?_) (fun h => ?_)
  · exact ret1 (.bool false) rfl ⟨by rw [decide_eq_false (fun e => h (by rw [← l1, ← l2, e]))], rfl⟩
  have hnm : n = m := by omega
  subst hnm; refine len ?_; refine loop_rule (fun k : Nat => [(17, iv (k : Int))]) (fun k u => k ≤ n ∧ w = u ∧ a.take k = b.take k) (fun k _ => n - k) 0 ⟨rfl, trivial⟩ ⟨by omega, rfl, rfl⟩ rfl ?_; rintro G k u ⟨hk, rfl, he⟩; refine cD (fun hlt => ?_) (fun hge => ?_)
  · obtain ⟨b1, o1, cs1, x, rfl, hx, -, -, hc1, A1, n1, c1, rfl, hs1, -⟩ := hs.at_ (k := k) (by omega); obtain ⟨b2, o2, cs2, y, rfl, hy, -, -, hc2, A2, n2, c2, rfl, hs2, -⟩ := ht.at_ (k := k) (by omega); refine idx k rfl (by omega) ?_; refine ld (.slice A1 n1 c1) (hc1 0 _ rfl) ?_; refine idx k rfl (by omega) ?_; refine ld (.slice A2 n2 c2) (hc2 0 _ rfl) ?_; refine callB (heq hs1 hs2) (fun hq => ?_) (fun hq => ?_)
    · refine arI (n := (k : Int) + 1) (by omega) ?_; refine next (k + 1) ⟨by rw [Int.natCast_add]; rfl, trivial⟩ ⟨by omega, rfl, ?_⟩ (by omega); rw [List.take_add_one, List.take_add_one, hx, hy, he, of_decide_eq_true hq]
    · exact ret1 (.bool false) rfl ⟨by rw [decide_eq_false (fun e => (of_decide_eq_false hq) (by subst e; rw [hx] at hy; injection hy))], rfl⟩
  · rw [List.take_of_length_le (by omega), List.take_of_length_le (by omega)] at he; exact ret1 (.bool true) rfl ⟨by rw [decide_eq_true he], rfl⟩
end
def genP (l : List (List Nat)) : Nat := l.foldl (fun g s => max g (max (genS s + 1) (getB (s.drop 124) + 1))) 1
theorem get_lt4 : ∀ (b : List Nat) (n k : Nat), n < 256 ^ k → b.length + k ≤ 8 → (∀ x ∈ b, x < 256) → b.foldl (fun n c => ((n <<< 8) % 18446744073709551616) ||| c) n < 256 ^ (k + b.length)
  | [], n, k, h, _, _ => h
  | x :: b, n, k, h, hk, hb => by
    rw [List.length_cons] at hk ⊢
    have hx := hb x List.mem_cons_self
    have e : 256 ^ (k + 1) = 2 ^ (8 * (k + 1)) := by rw [Nat.pow_mul]
    have h1 : (n <<< 8) % 18446744073709551616 < 256 ^ (k + 1) := by
      refine Nat.lt_of_le_of_lt (Nat.mod_le _ _) ?_
      rw [Nat.shiftLeft_eq, Nat.pow_succ]
      omega
    have h2 : x < 256 ^ (k + 1) := Nat.lt_of_lt_of_le hx (by rw [Nat.pow_succ]; have := Nat.one_le_pow k 256 (by omega); omega)
    have := get_lt4 b (((n <<< 8) % 18446744073709551616) ||| x) (k + 1) (by rw [e] at h1 h2 ⊢; exact Nat.or_lt_two_pow h1 h2) (by omega) fun y hy => hb y (List.mem_cons_of_mem _ hy)
    rw [show k + (b.length + 1) = k + 1 + b.length by omega]
    exact this
theorem get4 {b : List Nat} (h : ∀ x ∈ b, x < 256) (hl : b.length ≤ 4) : getB b < 4294967296 := by
  have := get_lt4 b 0 0 (by omega) (by omega) h; unfold getB; refine Nat.lt_of_lt_of_le this ?_; rw [Nat.zero_add]; exact Nat.le_trans (Nat.pow_le_pow_right (by omega) hl) (by decide)
def wrL (g : Nat) : Nat → List (List Nat) → List Wr
  | _, [] => []
  | i, b :: t => ⟨i, encB g i 3 b⟩ :: wrL g (i + 1) t
theorem wrL_snoc (g : Nat) : ∀ (i : Nat) (t : List (List Nat)) (b : List Nat), wrL g i (t ++ [b]) = wrL g i t ++ [⟨((i + t.length : Nat) : Int), encB g (i + t.length) 3 b⟩]
  | i, [], b => rfl
  | i, x :: t, b => by
    rw [List.cons_append, wrL, wrL, wrL_snoc g (i + 1) t b, List.length_cons, show i + 1 + t.length = i + (t.length + 1) by omega]; rfl
theorem wrL_len (g : Nat) : ∀ (i : Nat) (t : List (List Nat)), (wrL g i t).length = t.length
  | _, [] => rfl
  | i, b :: t => by rw [wrL, List.length_cons, wrL_len g (i + 1) t, List.length_cons]
theorem wrL_mem {g : Nat} : ∀ {i : Nat} {t : List (List Nat)} {w : Wr}, w ∈ wrL g i t → ∃ j b, b ∈ t ∧ (i ≤ j ∧ j < i + t.length) ∧ w = ⟨((j : Nat) : Int), encB g j 3 b⟩
  | i, [], w, h => by cases h
  | i, x :: t, w, h => by
    rcases List.mem_cons.1 h with rfl | h
    · exact ⟨i, x, List.mem_cons_self, ⟨Nat.le_refl _, by rw [List.length_cons]; omega⟩, rfl⟩
    · obtain ⟨j, b, h1, h2, h3⟩ := wrL_mem h
      exact ⟨j, b, List.mem_cons_of_mem _ h1, ⟨by omega, by rw [List.length_cons]; omega⟩, h3⟩
theorem get_step {n c : Nat} (h : n < 72057594037927936) (hc : c < 256) : ((n <<< 8) % 18446744073709551616) ||| c = n * 256 + c := by
  have e : n <<< 8 = n * 256 := by rw [Nat.shiftLeft_eq]
  have := Nat.shiftLeft_add_eq_or_of_lt (a := n) (b := c) (i := 8) (by omega); rw [Nat.mod_eq_of_lt (by rw [e]; omega), ← this, e]
theorem beB4 (g : Nat) : beB 4 g = [g / 16777216 % 256, g / 65536 % 256, g / 256 % 256, g % 256] := by
  unfold beB; simp [List.range_succ, Nat.shiftRight_eq_div_pow]
theorem getB_be4 {g : Nat} (h : g < 4294967296) : getB (beB 4 g) = g := by
  rw [beB4]; unfold getB; simp only [List.foldl]; rw [get_step (n := 0) (c := g / 16777216 % 256) (by omega) (by omega), get_step (n := 0 * 256 + g / 16777216 % 256) (c := g / 65536 % 256) (by omega) (by omega), get_step (n := (0 * 256 + g / 16777216 % 256) * 256 + g / 65536 % 256) (c := g / 256 % 256) (by omega) (by omega), get_step (n := ((0 * 256 + g / 16777216 % 256) * 256 + g / 65536 % 256) * 256 + g / 256 % 256) (c := g % 256) (by omega) (by omega)]; omega
theorem encB_sp (g num kind : Nat) (b : List Nat) : encB g num kind b = (beB 4 g ++ (beB 4 (crcL (bodyB num kind b)) ++ beB 2 num)) ++ (kind :: b.length :: (b ++ (List.replicate (112 - b.length) 0 ++ beB 4 g))) := by
  rw [encB]
  generalize crcL (bodyB num kind b) = k
  unfold bodyB; simp only [List.append_assoc, List.cons_append, List.nil_append]
theorem encB_t4 (g num kind : Nat) (b : List Nat) : (encB g num kind b).take 4 = beB 4 g := by
  unfold encB; exact List.take_left' (beB_len 4 g)
theorem encB_hd_len (g num kind : Nat) (b : List Nat) : (beB 4 g ++ (beB 4 (crcL (bodyB num kind b)) ++ beB 2 num)).length = 10 := by
  simp only [List.length_append, beB_len]
theorem encB_10 (g num kind : Nat) (b : List Nat) : at8 (encB g num kind b) 10 = kind := by
  rw [encB_sp]; unfold at8; rw [List.getD_eq_getElem?_getD, List.getElem?_append_right (by rw [encB_hd_len]; omega), encB_hd_len]
  rfl
theorem encB_11 (g num kind : Nat) (b : List Nat) : at8 (encB g num kind b) 11 = b.length := by
  rw [encB_sp]; unfold at8; rw [List.getD_eq_getElem?_getD, List.getElem?_append_right (by rw [encB_hd_len]; omega), encB_hd_len]
  rfl
theorem encB_pc (g num kind : Nat) (b : List Nat) : ((encB g num kind b).drop 12).take b.length = b := by
  rw [encB_sp, List.drop_append, List.drop_of_length_le (by rw [encB_hd_len]; omega), encB_hd_len, List.nil_append]; show (b ++ _).take b.length = b; exact List.take_left' rfl
theorem encB_d124 {g num kind : Nat} {b : List Nat} (h : b.length ≤ 112) : (encB g num kind b).drop 124 = beB 4 g := by
  unfold encB
  have h1 : (beB 4 g ++ (beB 4 (crcL (bodyB num kind b)) ++ bodyB num kind b)).length = 124 := by
    simp only [List.length_append, beB_len, bodyB_len h]
  rw [show beB 4 g ++ (beB 4 (crcL (bodyB num kind b)) ++ (bodyB num kind b ++ beB 4 g)) = (beB 4 g ++ (beB 4 (crcL (bodyB num kind b)) ++ bodyB num kind b)) ++ beB 4 g by simp only [List.append_assoc]]; exact List.drop_left' h1
theorem genS_enc {g num kind : Nat} {b : List Nat} (h : g < 4294967296) : genS (encB g num kind b) = g := by
  unfold genS; rw [encB_t4, getB_be4 h]
theorem good_enc {g num : Nat} {b : List Nat} (hg : 0 < g ∧ g < 4294967296) (hb : b.length ≤ 112) : goodP (encB g num 3 b) num := by
  refine ⟨by rw [encB_11]; exact hb, by rw [encB_10]; omega, ?_, ?_, ?_, ?_⟩
  · rw [encB_10]; rintro ⟨h, -⟩; cases h
  · rw [encB_10]; rintro ⟨h, -⟩; cases h
  · rw [encB_t4, getB_be4 hg.2]; exact hg.1
  · rw [encB_t4, getB_be4 hg.2, encB_10, encB_11, encB_pc]
theorem good_end {s : List Nat} {n : Nat} (hl : s.length = 128) (hb : ∀ x ∈ s, x < 256) (h : goodP s n) : getB (s.drop 124) = genS s := by
  have h6 := h.2.2.2.2.2
  have hp : ((s.drop 12).take (at8 s 11)).length ≤ 112 := by rw [List.length_take]; have := h.1; omega
  have hd : s.drop 124 = beB 4 (genS s) := by
    rw [h6, encB_d124 hp]; unfold genS; rw [encB_t4, getB_be4]; exact get4 (fun x hx => hb x (List.mem_of_mem_take hx)) (by rw [List.length_take]; omega)
  rw [hd, getB_be4]; exact get4 (fun x hx => hb x (List.mem_of_mem_take hx)) (by rw [List.length_take]; omega)
theorem recG_enc {g n last : Nat} {t : List Nat} {r : List (List Nat)} (hg : 0 < g ∧ g < 4294967296) (hb : t.length ≤ 112) (hl : last ≤ g) : recG (encB g n 3 t :: r) n none last = (n + 1, t) :: recG r (n + 1) none g := by
  have hs : secOk (encB g n 3 t) n none last := ⟨good_enc hg hb, ⟨fun _ => rfl, fun _ => by rw [encB_10]; decide⟩, rfl, by rw [genS_enc hg.2]; exact hl⟩; rw [recG, if_pos hs, if_pos (by rw [encB_10]; decide), genS_enc hg.2]; unfold pieceB curB; rw [encB_11, encB_pc]
  rfl
theorem recG_low {s : List Nat} {n last : Nat} {r : List (List Nat)} (h : genS s < last) : recG (s :: r) n none last = [] := by
  rw [recG, if_neg (fun q => by have := q.2.2.2; omega)]
theorem recG_bad {s : List Nat} {n last : Nat} {cur : Option (Nat × List Nat)} {r : List (List Nat)} (h : ¬ goodP s n) : recG (s :: r) n cur last = [] := by
  rw [recG, if_neg (fun q => h q.1)]
def Hd : List (List Nat) → Nat → Nat → List (List Nat) → Prop
  | secs, n, last, [] => recG secs n none last = []
  | secs, n, last, t :: ts => ∃ g r, secs = encB g n 3 t :: r ∧ last ≤ g ∧ 0 < g ∧ g < 4294967296 ∧ Hd r (n + 1) g ts
def TxOk (ts : List (List Nat)) : Prop := ∀ t ∈ ts, t.length ≤ 112 ∧ ∀ x ∈ t, x < 256
theorem Hd.recs : ∀ {ts secs : List (List Nat)} {n last : Nat}, Hd secs n last ts → TxOk ts → (recG secs n none last).map (·.2) = ts
  | [], _, _, _, h, _ => by rw [show recG _ _ none _ = [] from h]; rfl
  | t :: ts, _, n, last, ⟨g, r, h1, h2, h3, h4, h5⟩, hok => by
    subst h1
    rw [recG_enc ⟨h3, h4⟩ (hok t List.mem_cons_self).1 h2, List.map_cons, h5.recs fun x hx => hok x (List.mem_cons_of_mem _ hx)]
def encsL (g : Nat) : Nat → List (List Nat) → List (List Nat)
  | _, [] => []
  | i, t :: ts => encB g i 3 t :: encsL g (i + 1) ts
theorem encsL_len (g : Nat) : ∀ (i : Nat) (ts : List (List Nat)), (encsL g i ts).length = ts.length
  | _, [] => rfl
  | i, t :: ts => by rw [encsL, List.length_cons, encsL_len g (i + 1) ts, List.length_cons]
theorem Hd.sub {G : Nat} : ∀ {ts secs C ts' : List (List Nat)} {n last : Nat}, Hd secs n last ts → last ≤ G → (∀ s ∈ secs, genS s ≤ G) → (∀ l', l' ≤ G → Hd C (n + ts.length) l' ts') → Hd (secs.take ts.length ++ C) n last (ts ++ ts')
  | [], _, _, _, _, _, _, hl, _, h => by simpa using h _ hl
  | t :: ts, _, C, ts', n, last, ⟨g, r, h1, h2, h3, h4, h5⟩, _, hG, h => by
    subst h1
    have hg := hG _ List.mem_cons_self
    rw [genS_enc h4] at hg
    refine ⟨g, r.take ts.length ++ C, rfl, h2, h3, h4, h5.sub hg (fun s hs => hG s (List.mem_cons_of_mem _ hs)) fun l' hl' => ?_⟩
    have := h l' hl'
    rwa [List.length_cons, show n + (ts.length + 1) = n + 1 + ts.length by omega] at this
theorem Hd.new {gen : Nat} (hg : 0 < gen ∧ gen < 4294967296) {rest : List (List Nat)} : ∀ {ts : List (List Nat)} {i l' : Nat}, l' ≤ gen → (ts = [] → recG rest i none l' = []) → recG rest (i + ts.length) none gen = [] → Hd (encsL gen i ts ++ rest) i l' ts
  | [], _, _, _, h, _ => h rfl
  | t :: ts, i, l', hl, _, h => by
    have h2 : recG rest (i + 1 + ts.length) none gen = [] := by rwa [List.length_cons, show i + (ts.length + 1) = i + 1 + ts.length by omega] at h
    exact ⟨gen, encsL gen (i + 1) ts ++ rest, rfl, hl, hg.1, hg.2, Hd.new hg (Nat.le_refl _) (fun e => by subst e; exact h2) h2⟩
theorem perf_wr {g : Nat} : ∀ (ts : List (List Nat)) (i : Nat) (secs : List (List Nat)), i + ts.length ≤ secs.length → perfP secs (wrL g i ts) = secs.take i ++ (encsL g i ts ++ secs.drop (i + ts.length))
  | [], i, secs, _ => by show secs = _; rw [encsL, List.nil_append, List.length_nil, Nat.add_zero, List.take_append_drop]
  | t :: ts, i, secs, h => by
    rw [List.length_cons] at h
    have ih := perf_wr (g := g) ts (i + 1) (secs.set i (encB g i 3 t)) (by rw [List.length_set]; omega)
    show perfP (secs.set (((i : Nat) : Int)).toNat (encB g i 3 t)) (wrL g (i + 1) ts) = _
    rw [Int.toNat_natCast, ih, encsL, List.length_cons, List.take_add_one, List.getElem?_set_self (by omega), List.take_set_of_le (Nat.le_refl _), List.drop_set_of_lt (by omega), show i + 1 + ts.length = i + (ts.length + 1) by omega]
    simp
theorem recG_lowL {l : List (List Nat)} {n last : Nat} (h : ∀ s ∈ l, genS s < last) : recG l n none last = [] := by
  cases l with
  | nil => rfl
  | cons s r => exact recG_low (h s List.mem_cons_self)
theorem Hd.all {gen : Nat} {secs ts ts' : List (List Nat)} (h : Hd secs 0 0 ts) (hg : 0 < gen ∧ gen < 4294967296) (hG : ∀ s ∈ secs, genS s < gen) (hl : ts.length + ts'.length ≤ secs.length) : Hd (perfP secs (wrL gen ts.length ts')) 0 0 (ts ++ ts') := by
  cases ts' with
  | nil => rw [List.append_nil]; exact h
  | cons t ts' =>
    rw [perf_wr _ _ _ hl]; refine h.sub (G := gen) (Nat.zero_le _) (fun s hs => Nat.le_of_lt (hG s hs)) fun l' hl' => ?_; rw [Nat.zero_add]; refine Hd.new hg hl' (fun e => by cases e) (recG_lowL fun s hs => hG s (List.mem_of_mem_drop hs))
theorem torn_bad {gen num k n : Nat} {t old : List Nat} (hg : gen < 4294967296) (ht : t.length ≤ 112 ∧ ∀ x ∈ t, x < 256) (ho : old.length = 128 ∧ ∀ x ∈ old, x < 256) (hk : k < 256) (hlow : getB (old.drop 124) < gen) : ¬ goodP ((encB gen num k t).take 64 ++ old.drop 64) n := fun h => by
  have he := encB_len (g := gen) (num := num) (kind := k) ht.1
  have hl : ((encB gen num k t).take 64 ++ old.drop 64).length = 128 := by rw [List.length_append, List.length_take, List.length_drop, he]; omega
  have hb : ∀ x ∈ (encB gen num k t).take 64 ++ old.drop 64, x < 256 := fun x hx => by
    rcases List.mem_append.1 hx with hx | hx
    · exact encB_lt ht.1 hk ht.2 x (List.mem_of_mem_take hx)
    · exact ho.2 x (List.mem_of_mem_drop hx)
  have h1 := good_end hl hb h
  have e1 : ((encB gen num k t).take 64 ++ old.drop 64).drop 124 = old.drop 124 := by
    rw [List.drop_append, List.drop_of_length_le (by rw [List.length_take]; omega), List.length_take, he, List.nil_append, List.drop_drop]
    rfl
  have e2 : genS ((encB gen num k t).take 64 ++ old.drop 64) = gen := by
    unfold genS
    rw [List.take_append_of_le_length (by rw [List.length_take, he]; omega), List.take_take, show min 4 64 = 4 from rfl, encB_t4, getB_be4 hg]
  rw [e1, e2] at h1
  omega
theorem Hd.torn {gen : Nat} {secs ts ts' : List (List Nat)} {s : List Nat} (h : Hd secs 0 0 ts) (hg : 0 < gen ∧ gen < 4294967296) (hG : ∀ s ∈ secs, genS s < gen) (hl : ts.length + ts'.length < secs.length) (hs : ∀ n, ¬ goodP s n) : Hd ((perfP secs (wrL gen ts.length ts')).set (ts.length + ts'.length) s) 0 0 (ts ++ ts') := by
  rw [perf_wr _ _ _ (by omega)]
  have hlen : (secs.take ts.length).length = ts.length := by rw [List.length_take]; omega
  rw [List.set_append_right _ _ (by omega), hlen, Nat.add_sub_cancel_left, List.set_append_right _ _ (by rw [encsL_len]; exact Nat.le_refl _), encsL_len, Nat.sub_self, List.drop_eq_getElem_cons (by omega), List.set_cons_zero]; refine h.sub (G := gen) (Nat.zero_le _) (fun s hs => Nat.le_of_lt (hG s hs)) fun l' hl' => ?_; rw [Nat.zero_add]; exact Hd.new hg hl' (fun _ => recG_bad (hs _)) (recG_bad (hs _))
theorem genP_lt {l : List (List Nat)} : (∀ s ∈ l, genS s < genP l ∧ getB (s.drop 124) < genP l) ∧ 0 < genP l := by
  have key : ∀ (l : List (List Nat)) (g : Nat), 0 < g → g ≤ l.foldl (fun g s => max g (max (genS s + 1) (getB (s.drop 124) + 1))) g ∧ ∀ s ∈ l, genS s < l.foldl (fun g s => max g (max (genS s + 1) (getB (s.drop 124) + 1))) g ∧ getB (s.drop 124) < l.foldl (fun g s => max g (max (genS s + 1) (getB (s.drop 124) + 1))) g := by
    intro l
    induction l with
    | nil => intro g _; exact ⟨Nat.le_refl _, fun s hs => by cases hs⟩
    | cons x l ih =>
      intro g hg; obtain ⟨h1, h2⟩ := ih (max g (max (genS x + 1) (getB (x.drop 124) + 1))) (by omega); refine ⟨by rw [List.foldl_cons]; omega, fun s hs => ?_⟩; rw [List.foldl_cons]; rcases List.mem_cons.1 hs with rfl | hs
      · omega
      · exact h2 s hs
  obtain ⟨h1, h2⟩ := key l 1 (by omega); exact ⟨h2, h1⟩
theorem genP_le2 {l : List (List Nat)} {m : Nat} (hm : 1 ≤ m) (h : ∀ s ∈ l, genS s < m ∧ getB (s.drop 124) < m) : genP l ≤ m := by
  have key : ∀ (l : List (List Nat)) (g : Nat), g ≤ m → (∀ s ∈ l, genS s < m ∧ getB (s.drop 124) < m) → l.foldl (fun g s => max g (max (genS s + 1) (getB (s.drop 124) + 1))) g ≤ m := by
    intro l
    induction l with
    | nil => intro g h _; exact h
    | cons x l ih =>
      intro g hg h; refine ih _ ?_ fun s hs => h s (List.mem_cons_of_mem _ hs); have := h x List.mem_cons_self; show max g (max (genS x + 1) (getB (x.drop 124) + 1)) ≤ m; omega
  exact key l 1 hm h
theorem genP_snoc (l : List (List Nat)) (s : List Nat) : genP (l ++ [s]) = max (genP l) (max (genS s + 1) (getB (s.drop 124) + 1)) := by unfold genP; rw [List.foldl_append]; rfl
theorem genP_le {l : List (List Nat)} (h : ∀ s ∈ l, s.length = 128 ∧ ∀ x ∈ s, x < 256) : genP l ≤ 4294967296 := by
  have key : ∀ (l : List (List Nat)) (g : Nat), g ≤ 4294967296 → (∀ s ∈ l, s.length = 128 ∧ ∀ x ∈ s, x < 256) → l.foldl (fun g s => max g (max (genS s + 1) (getB (s.drop 124) + 1))) g ≤ 4294967296 := by
    intro l
    induction l with
    | nil => intro g h _; exact h
    | cons s l ih =>
      intro g hg h; refine ih _ ?_ fun x hx => h x (List.mem_cons_of_mem _ hx); obtain ⟨h1, h2⟩ := h s List.mem_cons_self; have a := get4 (b := s.take 4) (fun x hx => h2 x (List.mem_of_mem_take hx)) (by rw [List.length_take]; omega); have b := get4 (b := s.drop 124) (fun x hx => h2 x (List.mem_of_mem_drop hx)) (by rw [List.length_drop]; omega); show max g (max (getB (s.take 4) + 1) (getB (s.drop 124) + 1)) ≤ 4294967296; omega
  exact key l 1 (by omega) h
def mx3 (a b c : Int) : Int := if c > (if b > a then b else a) then c else (if b > a then b else a)
theorem mx3_eq (a b c : Nat) : mx3 a b c = ((max a (max b c) : Nat) : Int) := by unfold mx3; split <;> split <;> omega
theorem max3P {P : Program} {o : Oper} {c : Call} {F : Fr} {K : Value → Prop} {k : IntKind} {x y z : Int} (he : o.op = .call c) (hc : c.callee = .builtin .max) (hargs : c.args.toList.map (ev F) = [.int k x, .int k y, .int k z]) (kk : K (.int k (mx3 x y z))) : PureP P (execOp (ev F) o) K := by
  rw [PureP_eq, exec_builtin F o c _ he hc, args_list hargs]; exact pure_vval (s := Builtin.max_ c.argTypes o.type #[.int k x, .int k y, .int k z]) (fun w => rfl) kk
theorem usedN_app (a : List (List Nat)) : ∀ b : List (List Nat), usedN a + b.length ≤ usedN (a ++ b) := by
  intro b; unfold usedN; rw [List.map_append, List.sum_append]
  have : b.length ≤ (b.map secN).sum := by
    induction b with
    | nil => simp
    | cons x b ih =>
      have : 1 ≤ secN x := by unfold secN; omega
      rw [List.length_cons, List.map_cons, List.sum_cons]; omega
  omega
noncomputable def syncJ (d : Dsk) (R T : List (List Nat)) : Dsk × Int := if 4294967296 ≤ genP d.secs then (zeroD, 50) else if T = [] then (d, 0) else syncP ⟨d.secs, wrL (genP d.secs) (usedN R) T, d.left, d.stop⟩
theorem DskR.kept {D D' : Nat → Prop} {w w' : World} {cs : List Value} {d : Dsk} (h : DskR D w cs d) (k : Kept D' w w') (hd : ∀ b, b < w.heap.size → D b → D' b) : DskR D w' cs d :=
  let ⟨A, n, c, B, m, c2, h1, h2, h3, h4, h5⟩ := h.ex; ⟨A, n, c, B, m, c2, h1, h2.kept k hd, h3, h4.kept k hd, h5⟩
section
variable {D : Nat → Prop} {w : World}
set_option maxRecDepth 8000 in
set_option maxHeartbeats 4000000 in
theorem c_jSync {d : Dsk} {csd csj : List Value} {R T : List (List Nat)} (hd : DskR D w csd d) (hj : JrnR (fun _ => True) w csj ⟨R ++ T, d.secs.length, R.length⟩) (hok : okD d) (hst : d.stop = false) (hpe : d.pend = [])
    (hR : R = recsD d.secs) (hsm : SmallJ (R ++ T)) (hus : usedN (R ++ T) ≤ d.secs.length) (hT : ∀ b ∈ T, b.length ≤ 112) :
    CallZ Tryz.prog 63 #[.agg csj.toArray, .agg csd.toArray] w (fun v w' => ∃ (cj cs : List Value), v = .tuple #[.agg cj.toArray, .agg cs.toArray, iv (syncJ d R T).2] ∧ DskR (fun b => D b ∨ w.heap.size ≤ b) w' cs (syncJ d R T).1 ∧ Ext w w') := by
  obtain ⟨A, n, c, B, m, c2, rfl, hs, hc, hp, hc2, hId⟩ := hd.ex; obtain ⟨AJ, nJ, cJ, rfl, hsJ, hcJ, -, -⟩ := hj.ex; have ln := hs.len; have lJ := hsJ.len; have k1 := hok.1; have k2 := hok.2.1; have k7 := hok.2.2.2.2.2.2; have hs0 := hs.more (D' := fun b => D b ∧ b < w.heap.size) (by decide) fun b hb h => ⟨h, hb⟩; have hsJ0 := hsJ.more (D' := fun b => b < w.heap.size) (by decide) fun b hb _ => hb
  have hlJ : nJ = R.length + T.length := by have := lJ; rw [List.length_append] at this; omega
  have hjE : jE ⟨R ++ T, d.secs.length, R.length⟩ = 0 := by
    unfold jE; rw [if_neg]; simp only [List.length_append]; omega
  have hop : openP d = (⟨R, d.secs.length, R.length⟩, 0) := by
    unfold openP; rw [if_neg (fun q => q hok), if_neg (by rw [hst]; decide), if_neg (by rw [hpe]; simp), ← hR]
  refine fn_rule (args := [.agg #[.slice AJ nJ cJ, iv (d.secs.length : Int), iv (R.length : Int)], .agg #[.slice A n c, .slice B m c2, iv d.left, .bool d.stop]]) Tryz.func63 (by kernel_rfl) ?_; refine box (fun g2 w1 h1 => ?_); have J1 : Blk w1 g2 108 [.slice AJ nJ cJ, iv (d.secs.length : Int), iv (R.length : Int)] := h1.blk; refine box (fun g3 w2 h2 => ?_); have G2 : Blk w2 g3 44 [.slice A n c, .slice B m c2, iv d.left, .bool d.stop] := h2.blk; refine alloc (fun b4 w3 h3 => ?_); have RJ3 : Blk w3 b4 108 zeroJC := h3.blk; refine alloc (fun b5 w4 h4 => ?_); have RD4 : Blk w4 b5 44 zeroDC := h4.blk; have e1 := h1.at_; have e2 := h2.at_; have e3 := h3.at_; have e4 := h4.at_; have x14 := (h2.ext.trans h3.ext).trans h4.ext; have x04 := h1.ext.trans x14; have s1 := h1.ext.size; have s2 := h2.ext.size; have s3 := h3.ext.size; have l1 := J1.lt; have l2 := G2.lt; have l3 := RJ3.lt; have l4 := RD4.lt; have J4 := J1.ext x14; have G4 := G2.ext (h3.ext.trans h4.ext); have RJ4 := RJ3.ext h4.ext; refine ldA [.slice AJ nJ cJ, iv (d.secs.length : Int), iv (R.length : Int)] (.blk J4) rfl ?_; refine call_of (c_jCheck (hj.ext x04) hsm) ?_; rintro _ w5 ⟨rfl, x5⟩; rw [hjE]; refine cN (fun h => absurd rfl h) (fun _ => ?_); refine ldA [.slice A n c, .slice B m c2, iv d.left, .bool d.stop] (.blk (G4.ext x5)) rfl ?_; refine call_of (c_dCheck (hd.ext (x04.trans x5))) ?_; rintro _ w6 ⟨rfl, x6⟩; rw [dskE_0.2 hok]; refine cN (fun h => absurd rfl h) (fun _ => ?_); have x46 := x5.trans x6; have x06 := x04.trans x46; have J6 := J4.ext x46; have G6 := G4.ext x46; refine fldA ?_; refine ld (iv (d.secs.length : Int)) (J6.cell rfl) ?_; refine fldA ?_; refine ld (.slice A n c) (G6.cell rfl) ?_; refine len ?_; refine cN (fun h => absurd (show (d.secs.length : Int) = (n : Int) by omega) h) (fun _ => ?_); refine ldA [.slice A n c, .slice B m c2, iv d.left, .bool d.stop] (.blk G6) rfl ?_; refine call_of (c_jOpen ((hd.ext x06).more fun _ _ _ => trivial)) ?_; rintro _ w7 ⟨cs7, rfl, hj7, x7⟩; rw [hop] at hj7 ⊢; obtain ⟨A7, n7, c7, rfl, hs7, hc7, -, -⟩ := hj7.ex; refine alloc (fun b9 w8 h8 => ?_); refine stA (vs := [.slice A7 n7 c7, iv (d.secs.length : Int), iv (R.length : Int)]) h8.blk rfl (Nat.le_of_ble_eq_true rfl) (by simp [Value.oneCell']) (fun w9 B9 k9 _ => ?_); have B9 : Blk w9 b9 108 [.slice A7 n7 c7, iv (d.secs.length : Int), iv (R.length : Int)] := B9; have e8 := h8.at_
  have x79 : Ext w7 w9 := h8.ext.then k9 fun i hi _ e => by omega
  have x69 := x7.trans x79; have x09 := x06.trans x69; have J9 := J6.ext x69; have G9 := G6.ext x69; have l9 := ln; refine cN (fun h => absurd rfl h) (fun _ => ?_); refine fldA ?_; refine ld (.slice A n c) (G9.cell rfl) ?_; refine len ?_; have hs9 := hs.ext x09
  have hby : ∀ s ∈ d.secs, s.length = 128 ∧ ∀ x ∈ s, x < 256 := fun s hs' => by
    obtain ⟨k, hk⟩ := List.getElem?_of_mem hs'; obtain ⟨bx, o, cs, x, -, hx, -, -, -, A2, n2, c2', -, hs2, -⟩ := hs.at_ (k := k) (by have := (List.getElem?_eq_some_iff.1 hk).1; omega); rw [hk] at hx; injection hx with hx; subst hx; exact ⟨k7 s hs', hs2.u8b⟩
  refine loop_rule (fun k : Nat => [(10, uv64 (genP (d.secs.take k))), (59, iv (k : Int))]) (fun k u => k ≤ n ∧ u = w9) (fun k _ => n - k) 0 ⟨rfl, rfl, trivial⟩ ⟨by omega, rfl⟩ rfl ?_; rintro G k u ⟨hk, hu⟩; rw [hu]; clear hu u; refine cD (fun hlt => ?_) (fun hge => ?_)
  · obtain ⟨bx, o, cs, s, rfl, hx, -, -, hcx, A2, n2, c2', rfl, hs2, hc2'⟩ := hs9.at_ (k := k) (by omega); obtain ⟨h128, hb8⟩ := hby s (List.mem_of_getElem? hx)
    have hn2 : n2 = 128 := by have := hs2.len; omega
    subst hn2; refine idx k rfl (by omega) ?_; refine ld (.slice A2 128 c2') (hcx 0 _ rfl) ?_; refine drawP (.take 0 (.take 1 (.take 2 (.take 3 (.take 4 (.take 5 (.take 6 (.take 7 (.take 8 (.take 9 (.take 10 .done))))))))))) [] (fun y => y = w9) mx (by kernel_rfl) rfl ?_; refine slcR 0 4 hs2 hc2' rfl rfl (by omega) (by omega) rfl (fun A4 hA4 => ?_); have s4 := hA4 _ w9 hs2; rw [List.drop_zero] at s4; have g4 := get4 (b := s.take 4) (fun x hx => hb8 x (List.mem_of_mem_take hx)) (by rw [List.length_take]; omega); have g124 := get4 (b := s.drop 124) (fun x hx => hb8 x (List.mem_of_mem_drop hx)) (by rw [List.length_drop]; omega); refine callQ (fun y hy => by subst hy; exact c_jget s4) ?_; refine add64 (a := getB (s.take 4)) (b := 1) (by omega) ?_; refine slcR 124 128 hs2 hc2' rfl rfl (by omega) (by omega) rfl (fun A5 hA5 => ?_); have s5 := hA5 _ w9 hs2; rw [List.take_of_length_le (by omega)] at s5; refine callQ (fun y hy => by subst hy; exact c_jget s5) ?_; refine add64 (a := getB (s.drop 124)) (b := 1) (by omega) ?_; refine max3P (k := .u64) (x := ((genP (d.secs.take k) : Nat) : Int)) (y := ((getB (s.take 4) + 1 : Nat) : Int)) (z := ((getB (s.drop 124) + 1 : Nat) : Int)) rfl rfl rfl ?_; refine arI (n := (k : Int) + 1) (by omega) ?_; refine next (k + 1) ⟨?_, by rw [Int.natCast_add]; rfl, trivial⟩ ⟨by omega, rfl⟩ (by omega)
    have e : genP (d.secs.take (k + 1)) = max (genP (d.secs.take k)) (max (getB (s.take 4) + 1) (getB (s.drop 124) + 1)) := by
      rw [List.take_add_one, hx]; exact genP_snoc _ _
    show Value.int .u64 (mx3 _ _ _) = uv64 (genP (d.secs.take (k + 1))); rw [mx3_eq, e]
  rw [show d.secs.take k = d.secs from List.take_of_length_le (by omega)]; obtain ⟨gen, hgen⟩ : ∃ gen, gen = genP d.secs := ⟨_, rfl⟩
  have hgl := genP_le hby
  rw [← hgen] at hgl ⊢; have hsJ9 := hsJ.ext x09; have hs79 := hs7.ext x79; refine drawP (.take 0 (.take 1 (.take 2 (.take 3 (.take 4 (.take 5 (.take 6 (.take 7 (.take 8 (.take 9 (.take 10 (.take 11 (.take 12 (.take 13 .done)))))))))))))) [] (fun y => y = w9) mx (by kernel_rfl) rfl ?_; refine fldA ?_; refine ld (.slice A7 n7 c7) (B9.cell rfl) ?_; refine fldA ?_; refine ld (.slice AJ nJ cJ) (J9.cell rfl) ?_; refine fldA ?_; refine ld (iv (R.length : Int)) (J9.cell rfl) ?_; refine slcR 0 R.length hsJ9 hcJ rfl rfl (by omega) (by omega) rfl (fun A10 hA10 => ?_); have s10 := hA10 _ w9 hsJ9
  have e10 : ((R ++ T).take R.length).drop 0 = R := by simp
  rw [e10] at s10; refine callQB (b := true) (fun y hy => by subst hy; exact (c_equalFB (f := 106) hs79 s10 (fun h1 h2 => c_bytesEq h1 h2)).mono (fun v w' h => ⟨by rw [h.1, decide_eq_true rfl], h.2⟩)) (fun _ => ?_) (fun h => by cases h); refine shr64 32 rfl (by omega) ?_; have RJ9 := RJ4.ext (x46.trans x69); have RD9 := RD4.ext (x46.trans x69); have e32 : gen >>> 32 = gen / 4294967296 := Nat.shiftRight_eq_div_pow gen 32; refine cN (fun hbig => ?_) (fun hbig => ?_)
  · refine bld zeroJC (by kernel_rfl) ?_; refine bld zeroDC (by kernel_rfl) ?_; refine stA (vs := zeroJC) RJ9 rfl (Nat.le_of_ble_eq_true rfl) (by simp [Value.oneCell']) (fun wa Ba ka _ => ?_); refine stA (vs := zeroDC) (RD9.kept ka (show b5 ≠ b4 by omega)) rfl (Nat.le_of_ble_eq_true rfl) (by simp [Value.oneCell']) (fun we Be ke _ => ?_); refine ret ?_; refine resL (.agg (zeroJC).toArray) (holds_agg (.blk (Ba.kept ke (show b4 ≠ b5 by omega))) rfl) ?_; refine resL (.agg (zeroDC).toArray) (holds_agg (.blk Be) rfl) ?_
    have hres : syncJ d R T = (zeroD, 50) := by unfold syncJ; rw [if_pos (by rw [← hgen]; omega)]
    rw [hres]; exact ⟨zeroJC, zeroDC, rfl, zeroD_r, (x09.then ka fun i hi _ e => by omega).then ke fun i hi _ e => by omega⟩
  have hgen2 : ¬ 4294967296 ≤ genP d.secs := by rw [← hgen]; omega
  refine fldA ?_; refine ld (iv (R.length : Int)) (J9.cell rfl) ?_; refine fldA ?_; refine ld (.slice AJ nJ cJ) (J9.cell rfl) ?_; refine len ?_; refine cE (fun heq => ?_) (fun hne => ?_)
  · have hT0 : T = [] := List.eq_nil_of_length_eq_zero (by omega); refine drawP (.take 0 (.take 1 (.eff 2 (.eff 3 (.take 4 .done))))) [] (fun y => Kept (fun i => i ≠ b4 ∧ i ≠ b5) w9 y) mx (by kernel_rfl) (.refl _ _) ?_; refine ldAK [.slice AJ nJ cJ, iv (d.secs.length : Int), iv (R.length : Int)] (.blk J9) rfl (show g2 ≠ b4 ∧ g2 ≠ b5 by omega) (.refl _ _) ?_; refine ldAK [.slice A n c, .slice B m c2, iv d.left, .bool d.stop] (.blk G9) rfl (show g3 ≠ b4 ∧ g3 ≠ b5 by omega) (.refl _ _) ?_; refine stA (vs := [.slice AJ nJ cJ, iv (d.secs.length : Int), iv (R.length : Int)]) RJ9 rfl (Nat.le_of_ble_eq_true rfl) (by simp [Value.oneCell']) (fun wa Ba ka _ => ?_); refine strS (ka.weak fun i _ h => h.1) ?_; refine stA (vs := [.slice A n c, .slice B m c2, iv d.left, .bool d.stop]) (RD9.kept ka (show b5 ≠ b4 by omega)) rfl (Nat.le_of_ble_eq_true rfl) (by simp [Value.oneCell']) (fun we Be ke _ => ?_); refine strS ((ka.weak fun i _ h => h.1).then ke fun i _ h => h.2) ?_; refine ret ?_; refine resL (.agg #[.slice AJ nJ cJ, iv (d.secs.length : Int), iv (R.length : Int)]) (holds_agg (.blk (Ba.kept ke (show b4 ≠ b5 by omega))) rfl) ?_; refine resL (.agg #[.slice A n c, .slice B m c2, iv d.left, .bool d.stop]) (holds_agg (.blk Be) rfl) ?_
    have hres : syncJ d R T = (d, 0) := by unfold syncJ; rw [if_neg hgen2, if_pos hT0]
    have xe : Ext w we := (x09.then ka fun i hi _ e => by omega).then ke fun i hi _ e => by omega
    rw [hres]; exact ⟨[.slice AJ nJ cJ, iv (d.secs.length : Int), iv (R.length : Int)], [.slice A n c, .slice B m c2, iv d.left, .bool d.stop], rfl, (hd.ext xe).more fun _ _ h => .inl h, xe⟩
  · have hsR : SmallJ R := ⟨by have := hsm.1; rw [List.length_append] at this; omega, fun b hb => hsm.2 b (List.mem_append_left _ hb)⟩; refine fldA ?_; refine ld (.slice AJ nJ cJ) (J9.cell rfl) ?_; refine fldA ?_; refine ld (iv (R.length : Int)) (J9.cell rfl) ?_; refine slcR 0 R.length hsJ9 hcJ rfl rfl (by omega) (by omega) rfl (fun A11 hA11 => ?_); have s11 := hA11 _ w9 hsJ9; rw [e10] at s11; refine call_of (c_jused s11 hsR) ?_; rintro _ wx ⟨rfl, hwx⟩; rw [hwx]; clear hwx wx; refine fldA ?_; refine ld (.slice AJ nJ cJ) (J9.cell rfl) ?_; refine fldA ?_; refine ld (iv (R.length : Int)) (J9.cell rfl) ?_; refine slcR R.length nJ hsJ9 hcJ rfl rfl (by omega) (by omega) rfl (fun A12 hA12 => ?_)
    have e12 : ((R ++ T).take nJ).drop R.length = T := by rw [List.take_of_length_le (by rw [List.length_append]; omega), List.drop_left]
    have s12 : SlR (tSl tU8) (fun b => b < w.heap.size) w9 A12 (nJ - R.length) T := by
      have := hA12 _ w9 (hsJ0.ext x09)
      rwa [e12] at this
    have hnT : nJ - R.length = T.length := by omega
    have huT : usedN R + T.length ≤ d.secs.length := Nat.le_trans (usedN_app R T) hus
    have hsmT : T.length ≤ 100000 := by have := hsm.1; rw [List.length_append] at this; omega
    refine len ?_; refine loop_rule (fun k : Nat => [(13, iv ((usedN R + k : Nat) : Int)), (110, iv (k : Int))]) (fun k u => k ≤ T.length ∧ Kept (fun i => i ≠ g3) w9 u ∧ ∃ cs, Blk u g3 44 cs ∧ DskR (fun i => (D i ∧ i < w.heap.size) ∨ w9.heap.size ≤ i) u cs ⟨d.secs, wrL gen (usedN R) (T.take k), d.left, d.stop⟩) (fun k _ => T.length - k) 0 ⟨rfl, rfl, trivial⟩ ⟨by omega, .refl _ _, _, G9, ?_⟩ rfl ?_
    · rw [List.take_zero]; refine ⟨⟨A, n, c, B, m, c2, rfl, (hs0.ext x09).more (by decide) fun i _ hi => .inl hi, hc, ?_, hc2, hId⟩⟩; show SlR tWr _ w9 B m []; have := (hp.more (D' := fun b => D b ∧ b < w.heap.size) (by decide) fun b hb h => ⟨h, hb⟩).ext x09; rw [hpe] at this; exact this.more (by decide) fun i _ hi => .inl hi
    rintro G2 k u ⟨hk, ku, cs, Gu, du⟩; refine cD (fun hlt => ?_) (fun hge => ?_)
    · obtain ⟨bx, o, csx, x, rfl, hx, -, -, hcx, A2, n2, c2', rfl, hs2, hc2'⟩ := (s12.kept ku fun i _ hi => by omega).at_ (k := k) (by omega); refine idx k rfl (by omega) ?_; refine ld (.slice A2 n2 c2') (hcx 0 _ rfl) ?_; refine call_of (c_jsectors hs2) ?_; rintro _ wx ⟨rfl, hwx⟩; rw [hwx]; clear hwx wx; have hx112 := hT x (List.mem_of_getElem? hx); have hn2 := hs2.len
      have hsec : secN x = 1 := by unfold secN; omega
      rw [hsec]
      have hb5 : b5 ≠ g3 := by omega
      refine loop_rule (fun p : Nat × Option Addr × Nat × Nat => [(13, iv ((usedN R + k + p.1 : Nat) : Int)), (15, .slice p.2.1 p.2.2.1 p.2.2.2), (16, uv8 (1 - p.1)), (17, iv ((1 - p.1 : Nat) : Int))]) (fun p v => p.1 ≤ 1 ∧ (p.1 = 0 → p.2 = (A2, n2, c2')) ∧ Kept (fun i => i ≠ g3) u v ∧ ∃ cs, Blk v g3 44 cs ∧ DskR (fun i => (D i ∧ i < w.heap.size) ∨ w9.heap.size ≤ i) v cs ⟨d.secs, wrL gen (usedN R) (T.take (k + p.1)), d.left, d.stop⟩) (fun p _ => 1 - p.1) (0, A2, n2, c2') ⟨rfl, rfl, rfl, rfl, trivial⟩ ⟨Nat.zero_le _, fun _ => rfl, .refl _ _, cs, Gu, du⟩ rfl ?_; rintro G3 ⟨j, A3, n3, c3⟩ v ⟨hj1, hj0, kv, cs3, Gv, dv⟩; rcases (show j = 0 ∨ j = 1 by have : j ≤ 1 := hj1; omega) with rfl | rfl
      · have ha := hj0 rfl; simp only [Prod.mk.injEq] at ha; obtain ⟨rfl, rfl, rfl⟩ := ha; refine cD (fun _ => ?_) (fun h => absurd (show (0 : Int) < ((1 - 0 : Nat) : Int) by omega) h); refine cE (fun _ => ?_) (fun h => absurd rfl h); refine or8 (a := 1) (b := 2) (by omega) (by omega) ?_; refine len ?_; obtain ⟨A', n', c', B', m', c2'', rfl, hs', hc', hp', hc2'', hI'⟩ := dv.ex
        have hs2v := hs2.kept kv fun i _ hi => by omega
        refine drawP (.take 0 (.take 1 (.take 2 (.take 3 (.take 4 (.take 5 (.take 6 (.take 7 (.eff 8 (.eff 9 (.take 10 (.take 11 (.take 12 (.bar (.eff 13 (.take 14 .done)))))))))))))))) [13, 14] (fun y => Ext v y) mx (by kernel_rfl) (.refl _ _) ?_; refine ldAX [.slice A' n' c', .slice B' m' c2'', iv d.left, .bool d.stop] (.blk Gv) rfl (.refl _ _) ?_; refine slcR 0 n3 hs2v hc2' rfl (by show min (n3 : Int) 112 = (n3 : Int); omega) (by omega) (Nat.le_refl _) rfl (fun A20 hA20 => ?_); have s20 := hA20 _ v hs2v; rw [List.drop_zero, List.take_of_length_le (by omega)] at s20; refine call_of (c_jencode (g := gen) (num := usedN R + k + 0) (kind := 3) s20 (by omega) (by omega) (by omega)) ?_; rintro _ v2 ⟨q, rfl, hq, Bq, xv2⟩; refine strS xv2 ?_; have hbx := hs2.u8b; have hel := encB_len (g := gen) (num := usedN R + k + 0) (kind := 3) (b := x) (by omega); have sq : SlR tU8 (fun _ => True) v2 (some (ad q 0)) 128 (encB gen (usedN R + k + 0) 3 x) := SlR.of_cells hel.symm (by omega) trivial (.blk Bq) (flat_u8s (encB_lt (by omega) (by omega) hbx))
        have hwl : (wrL gen (usedN R) (T.take (k + 0))).length = k := by rw [wrL_len, List.length_take]; omega
        have hokv : okD ⟨d.secs, wrL gen (usedN R) (T.take (k + 0)), d.left, d.stop⟩ := by
          refine ⟨hok.1, hok.2.1, by show (wrL gen (usedN R) (T.take (k + 0))).length ≤ 4096; omega, hok.2.2.2.1, hok.2.2.2.2.1, fun y hy => ?_, k7⟩; obtain ⟨j, t, h1, h2, h3⟩ := wrL_mem hy
          have hj : (T.take (k + 0)).length = k := by rw [List.length_take]; omega
          subst h3; exact ⟨by show (0 : Int) ≤ ((j : Nat) : Int); omega, by show ((j : Nat) : Int) < (d.secs.length : Int); have : j < usedN R + (T.take (k + 0)).length := h2.2; omega, encB_len (hT t (List.mem_of_mem_take h1))⟩
        have hw : writeP ⟨d.secs, wrL gen (usedN R) (T.take (k + 0)), d.left, d.stop⟩ ((usedN R + k + 0 : Nat) : Int) (encB gen (usedN R + k + 0) 3 x) = (⟨d.secs, wrL gen (usedN R) (T.take (k + 1)), d.left, d.stop⟩, 0) := by
          unfold writeP; rw [if_neg (fun h => h ⟨by unfold runsB; exact decide_eq_true ⟨hokv, hst⟩, by unfold dhasB; exact decide_eq_true ⟨by omega, by show ((usedN R + k + 0 : Nat) : Int) < (d.secs.length : Int); omega⟩⟩), if_neg (by omega), if_neg (by show ¬ (wrL gen (usedN R) (T.take (k + 0))).length = 4096; omega)]
          have ht1 : T.take (k + 1) = T.take (k + 0) ++ [x] := by rw [List.take_add_one, hx]; rfl
          have hp128 : padB (encB gen (usedN R + k + 0) 3 x) = encB gen (usedN R + k + 0) 3 x := by unfold padB; rw [hel, Nat.sub_self, List.replicate_zero, List.append_nil]
          rw [hp128, ht1, wrL_snoc, List.length_take, show min (k + 0) T.length = k by omega]
          rfl
        refine call_of (c_dWriteE (dv.ext xv2) (by unfold I64; omega) sq) ?_; rintro _ v3 ⟨cs4, rfl, d4, x34⟩; rw [hw] at d4 ⊢
        have sv9 : w9.heap.size ≤ v2.heap.size := by have := ku.size; have := kv.size; have := xv2.size; omega
        have d4 := d4.more (D' := fun i => (D i ∧ i < w.heap.size) ∨ w9.heap.size ≤ i) fun b _ h => h.elim (fun h => h) fun h => .inr (by omega); obtain ⟨A5, n5, c5, B5, m5, c6, rfl, -⟩ := d4.ex; have xv3 := xv2.trans x34; refine strS xv3 ?_; refine barS (fun _ => True) trivial ?_; refine stA (vs := [.slice A5 n5 c5, .slice B5 m5 c6, iv d.left, .bool d.stop]) (Gv.ext xv3) rfl (Nat.le_of_ble_eq_true rfl) (by simp [Value.oneCell']) (fun v5 G5 k5 _ => ?_); have G5 : Blk v5 g3 44 [.slice A5 n5 c5, .slice B5 m5 c6, iv d.left, .bool d.stop] := G5; refine strS trivial ?_; refine cN (fun h => absurd rfl h) (fun _ => ?_); refine slcR n3 n3 hs2v hc2' (by show min (n3 : Int) 112 = (n3 : Int); omega) rfl (Nat.le_refl _) (Nat.le_refl _) rfl (fun A30 hA30 => ?_); refine arI (n := ((usedN R + k + 0 : Nat) : Int) + 1) (by omega) ?_; refine arI (n := ((1 - 0 : Nat) : Int) - 1) (by omega) ?_; refine next (1, A30, n3 - n3, c3 - n3) ⟨by show iv (((usedN R + k + 0 : Nat) : Int) + 1) = iv ((usedN R + k + 1 : Nat) : Int); rw [Int.natCast_add (usedN R + k) 1]; rfl, rfl, rfl, rfl, trivial⟩ ⟨Nat.le_refl _, (fun h => by cases h), (kv.trans (Ext.any xv3)).trans k5, _, G5, d4.kept k5 fun b _ h => ?_⟩ (by show 1 - 1 < 1 - 0; omega)
        have : b ≠ g3 := by
          rcases h with ⟨-, h⟩ | h
          · omega
          · have := x69.size; have := x46.size; omega
        exact this
      · refine cD (fun h => absurd (show (0 : Int) < ((1 - 1 : Nat) : Int) from h) (by omega)) (fun _ => ?_); refine arI (n := (k : Int) + 1) (by omega) ?_; exact next (k + 1) ⟨rfl, by rw [Int.natCast_add]; rfl, trivial⟩ ⟨by omega, ku.trans kv, cs3, Gv, dv⟩ (by omega)
    · have hkT : k = T.length := by omega
      subst hkT; rw [List.take_length] at du; have hT0 : T ≠ [] := fun e => hne (by rw [hlJ, e]; simp)
      have hres : syncJ d R T = syncP ⟨d.secs, wrL gen (usedN R) T, d.left, d.stop⟩ := by unfold syncJ; rw [if_neg hgen2, if_neg hT0, hgen]
      obtain ⟨A5, n5, c5, B5, m5, c6, rfl, -⟩ := du.ex; refine ldA [.slice A5 n5 c5, .slice B5 m5 c6, iv d.left, .bool d.stop] (.blk Gu) rfl ?_; refine call_of (c_dSyncE du) ?_; rintro _ u1 ⟨cs6, rfl, d6, xu1⟩; rw [← hres] at d6 ⊢; have su1 := ku.size; have d6 := d6.more (D' := fun i => (D i ∧ i < w.heap.size) ∨ w9.heap.size ≤ i) fun b _ h => h.elim (fun h => h) fun h => .inr (by omega); obtain ⟨A7', n7', c7', B7', m7', c8', rfl, -⟩ := d6.ex; obtain ⟨dr, hdr⟩ : ∃ dr, dr = (syncJ d R T).1 := ⟨_, rfl⟩; rw [← hdr] at d6 ⊢; obtain ⟨er, her⟩ : ∃ er, er = (syncJ d R T).2 := ⟨_, rfl⟩; rw [← her]; refine stA (vs := [.slice A7' n7' c7', .slice B7' m7' c8', iv dr.left, .bool dr.stop]) (Gu.ext xu1) rfl (Nat.le_of_ble_eq_true rfl) (by simp [Value.oneCell']) (fun u2 G6 k6 _ => ?_); have G6 : Blk u2 g3 44 [.slice A7' n7' c7', .slice B7' m7' c8', iv dr.left, .bool dr.stop] := G6; have k92 : Kept (fun i => i ≠ g3) w9 u2 := (ku.trans (Ext.any xu1)).trans k6
      have hDg : ∀ i, (D i ∧ i < w.heap.size) ∨ w9.heap.size ≤ i → i ≠ g2 ∧ i ≠ g3 ∧ i ≠ b4 ∧ i ≠ b5 := fun i h => by
        have := x69.size; have := x46.size; rcases h with ⟨-, h⟩ | h <;> omega
      have d6 := d6.kept k6 fun b _ h => (hDg b h).2.1; have J10 := J9.kept k92 (show g2 ≠ g3 by omega); have RJ10 := RJ9.kept k92 (show b4 ≠ g3 by omega); have RD10 := RD9.kept k92 (show b5 ≠ g3 by omega)
      have x02' : Ext w u2 := x09.then k92 fun i hi _ e => by omega
      refine cN (fun herr => ?_) (fun herr => ?_)
      · refine drawP (.take 0 (.take 1 (.take 2 (.eff 3 (.eff 4 (.take 5 .done)))))) [] (fun y => Kept (fun i => i ≠ b4 ∧ i ≠ b5) u2 y) mx (by kernel_rfl) (.refl _ _) ?_; refine bld zeroJC (by kernel_rfl) ?_; refine ldAK [.slice A7' n7' c7', .slice B7' m7' c8', iv dr.left, .bool dr.stop] (.blk G6) rfl (show g3 ≠ b4 ∧ g3 ≠ b5 by omega) (.refl _ _) ?_; refine stA (vs := zeroJC) RJ10 rfl (Nat.le_of_ble_eq_true rfl) (by simp [Value.oneCell']) (fun wa Ba ka _ => ?_); refine strS (ka.weak fun i _ h => h.1) ?_; refine stA (vs := [.slice A7' n7' c7', .slice B7' m7' c8', iv dr.left, .bool dr.stop]) (RD10.kept ka (show b5 ≠ b4 by omega)) rfl (Nat.le_of_ble_eq_true rfl) (by simp [Value.oneCell']) (fun we Be ke _ => ?_); refine strS ((ka.weak fun i _ h => h.1).then ke fun i _ h => h.2) ?_; refine ret ?_; refine resL (.agg (zeroJC).toArray) (holds_agg (.blk (Ba.kept ke (show b4 ≠ b5 by omega))) rfl) ?_; refine resL (.agg #[.slice A7' n7' c7', .slice B7' m7' c8', iv dr.left, .bool dr.stop]) (holds_agg (.blk Be) rfl) ?_; refine ⟨zeroJC, [.slice A7' n7' c7', .slice B7' m7' c8', iv dr.left, .bool dr.stop], rfl, ?_, (x02'.then ka fun i hi _ e => by omega).then ke fun i hi _ e => by omega⟩; exact ((d6.kept ka fun b _ h => (hDg b h).2.2.1).kept ke fun b _ h => (hDg b h).2.2.2).more fun b _ h => h.elim (fun h => .inl h.1) fun h => .inr (by have := x09.size; omega)
      · refine fldA ?_; refine ld (.slice AJ nJ cJ) (J10.cell rfl) ?_; refine len ?_; refine fldA ?_; refine st J10 (Nat.le_of_ble_eq_true rfl) rfl (fun u3 J11 k7 _ => ?_); have J11 : Blk u3 g2 108 [.slice AJ nJ cJ, iv (d.secs.length : Int), iv (nJ : Int)] := J11; have G7 := G6.kept k7 (show g3 ≠ g2 by omega); have RJ11 := RJ10.kept k7 (show b4 ≠ g2 by omega); have RD11 := RD10.kept k7 (show b5 ≠ g2 by omega); refine drawP (.take 0 (.take 1 (.eff 2 (.eff 3 (.take 4 .done))))) [] (fun y => Kept (fun i => i ≠ b4 ∧ i ≠ b5) u3 y) mx (by kernel_rfl) (.refl _ _) ?_; refine ldAK [.slice AJ nJ cJ, iv (d.secs.length : Int), iv (nJ : Int)] (.blk J11) rfl (show g2 ≠ b4 ∧ g2 ≠ b5 by omega) (.refl _ _) ?_; refine ldAK [.slice A7' n7' c7', .slice B7' m7' c8', iv dr.left, .bool dr.stop] (.blk G7) rfl (show g3 ≠ b4 ∧ g3 ≠ b5 by omega) (.refl _ _) ?_; refine stA (vs := [.slice AJ nJ cJ, iv (d.secs.length : Int), iv (nJ : Int)]) RJ11 rfl (Nat.le_of_ble_eq_true rfl) (by simp [Value.oneCell']) (fun wa Ba ka _ => ?_); refine strS (ka.weak fun i _ h => h.1) ?_; refine stA (vs := [.slice A7' n7' c7', .slice B7' m7' c8', iv dr.left, .bool dr.stop]) (RD11.kept ka (show b5 ≠ b4 by omega)) rfl (Nat.le_of_ble_eq_true rfl) (by simp [Value.oneCell']) (fun we Be ke _ => ?_); refine strS ((ka.weak fun i _ h => h.1).then ke fun i _ h => h.2) ?_; refine ret ?_; refine resL (.agg #[.slice AJ nJ cJ, iv (d.secs.length : Int), iv (nJ : Int)]) (holds_agg (.blk (Ba.kept ke (show b4 ≠ b5 by omega))) rfl) ?_; refine resL (.agg #[.slice A7' n7' c7', .slice B7' m7' c8', iv dr.left, .bool dr.stop]) (holds_agg (.blk Be) rfl) ?_; refine ⟨[.slice AJ nJ cJ, iv (d.secs.length : Int), iv (nJ : Int)], [.slice A7' n7' c7', .slice B7' m7' c8', iv dr.left, .bool dr.stop], ?_, ?_, ((x02'.then k7 fun i hi _ e => by omega).then ka fun i hi _ e => by omega).then ke fun i hi _ e => by omega⟩
        · have herr : er = 0 := herr; rw [herr]
          rfl
        · exact (((d6.kept k7 fun b _ h => (hDg b h).1).kept ka fun b _ h => (hDg b h).2.2.1).kept ke fun b _ h => (hDg b h).2.2.2).more fun b _ h => h.elim (fun h => .inl h.1) fun h => .inr (by have := x09.size; omega)
end
end Go.Proofs.YtehcphboliofaaaGreatDoor
