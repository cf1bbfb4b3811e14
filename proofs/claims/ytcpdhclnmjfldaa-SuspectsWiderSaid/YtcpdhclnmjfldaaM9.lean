/- Parts of the proof: S5 S6 S7 S8 S9 Sw Za. -/
import Derived.Test.YtcpdhclnmjfldaaM8
import Derived.Test.YtcpdhclnmjfldaaM3
import Derived.Test.YtcpdhclnmjfldaaM5
import Derived.Test.YtcpdhclnmjfldaaRows
import Derived.Stop.LaidErr

/- Layer 49: contract of Minimal. -/
namespace Go.Proofs.Ytcpdhclnmjfldaa
open Go Go.Sort Go.Shelf Go.RowKit

theorem c_sortNil {w : World} {c : Nat} {fv : Value} : CallZ Try.prog 26 #[.slice none 0 c, fv] w (fun v w' => v = .tuple #[] ∧ w' = w) := by
  intro v0 hw
  subst hw
  rw [callsIn_wide]
  have hcon := AnyF.slices_SortFunc_none (P := Try.prog) { Try.lsort with } none c fv v0
  change Calls Try.prog 26 _ _ _ at hcon
  refine hcon.mono ?_
  rintro e w' ⟨rfl, rfl⟩
  exact ⟨_, rfl, rfl, rfl⟩
theorem loop_ne {u : World} {l b : Nat} {r : Loop} {t : TypeId} {cs : List Value} (hl : LoopAt u l r) (hB : Blk u b t cs) : b ≠ l := fun e => by
  subst e; unfold LoopAt at hl; unfold Blk at hB; rw [hl] at hB; cases hB
theorem own_loop {w0 u : World} {A : Option Addr} {n c sz l : Nat} {e : TypeId} {cs : List Value} {r : Loop} (o : OwnF w0 u A n c e sz cs) (hl : LoopAt u l r) : A ≠ some (ad l 0) := fun e2 => by
  obtain ⟨rest, hb, _⟩ := Own.blk (e2 ▸ o.own)
  exact loop_ne hl hb rfl
theorem own_cap {w0 u : World} {g n c sz : Nat} {e : TypeId} {cs : List Value} (o : OwnF w0 u (some (ad g 0)) n c e sz cs) : c ≤ maxLen := by
  rcases o.own.2 with ⟨h, _⟩ | ⟨g', cap', cur, hv, _, _, _, h2, _⟩
  · cases h
  · injection hv with _ _ hc; rw [hc]; exact h2
/-- What Minimal has so far. -/
def minPre (t : List Bool) (S k : Nat) : List (List Int) := ((List.range k).filter (minB t S)).map fun n => membersL n S
theorem minPre_yes {t : List Bool} {S k : Nat} (h : minB t S k = true) : minPre t S (k + 1) = minPre t S k ++ [membersL k S] := by
  unfold minPre; rw [List.range_succ, List.filter_append, List.map_append]; simp [h]
theorem minPre_no {t : List Bool} {S k : Nat} (h : minB t S k = false) : minPre t S (k + 1) = minPre t S k := by
  unfold minPre; rw [List.range_succ, List.filter_append, List.map_append]; simp [h]
section
variable {w : World}
set_option maxRecDepth 8000 in
theorem c_sMinimal {D : Nat → Prop} {csd csx : List Value} {d : Dist} {x : Ev} (hd : DiR D w csd d) (hx : EvR D w csx x) : CallZ Try.prog 10 #[.agg csd.toArray, .agg csx.toArray] w
    (fun v w' => ∃ A n c s, v = .tuple #[.slice A n c, iv (evErr d x)] ∧ OwnL w w' A n c s ∧ s.map (·.l) = minSets d x) := by
  have hd := hd.more (D' := fun _ => True) fun _ _ _ => trivial
  have hx := hx.more (D' := fun _ => True) fun _ _ _ => trivial
  obtain ⟨A1, n1, c1, A2, n2, c2, A3, n3, c3, A4, n4, c4, A5, n5, c5, A6, n6, c6, rfl, -⟩ := hd.ex
  obtain ⟨W1, m1, e1, S1, m2, e2, rfl, hwv, hsu, -⟩ := hx.ex
  refine fn_rule (args := [.agg #[.string d.name, iv d.hours, iv d.cap, iv d.start, .slice A1 n1 c1, .slice A2 n2 c2, .slice A3 n3 c3, .slice A4 n4 c4, .slice A5 n5 c5, .slice A6 n6 c6], .agg #[.slice W1 m1 e1, .slice S1 m2 e2]]) Try.func10 (by kernel_rfl) ?_
  refine box (fun bd w1 h1 => ?_)
  refine box (fun bx w2 h2 => ?_)
  refine alloc (fun b4 w3 h3 => ?_)
  have e1' := h1.at_
  have e2' := h2.at_
  have e3' := h3.at_
  have s1 := h1.size
  have s2 := h2.size
  have s3 := h3.size
  have x3 : Ext w w3 := (h1.ext.trans h2.ext).trans h3.ext
  have Bd : Blk w3 bd 31 [.string d.name, iv d.hours, iv d.cap, iv d.start, .slice A1 n1 c1, .slice A2 n2 c2, .slice A3 n3 c3, .slice A4 n4 c4, .slice A5 n5 c5, .slice A6 n6 c6] := h1.blk.ext (h2.ext.trans h3.ext)
  have Bx : Blk w3 bx 35 [.slice W1 m1 e1, .slice S1 m2 e2] := h2.blk.ext h3.ext
  have B4 : Blk w3 b4 46 [.slice none 0 0] := h3.blk
  refine ldA [.string d.name, iv d.hours, iv d.cap, iv d.start, .slice A1 n1 c1, .slice A2 n2 c2, .slice A3 n3 c3, .slice A4 n4 c4, .slice A5 n5 c5, .slice A6 n6 c6] (.blk Bd) rfl ?_
  refine ldA [.slice W1 m1 e1, .slice S1 m2 e2] (.blk Bx) rfl ?_
  refine call_of (c_Table (hd.ext x3) (hx.ext x3)) ?_
  rintro _ w4 ⟨TA, tn, tc, rfl, oT⟩
  have x04 := x3.trans oT.ext
  have B4 := B4.ext oT.ext
  have l4 := B4.lt
  obtain ⟨e, he⟩ : ∃ e, e = evErr d x := ⟨_, rfl⟩
  rw [← he]
  refine cN (fun g => ?_) (fun g => ?_)
  · refine st1 B4 rfl (fun w5 B5 k5 => ?_)
    refine ret ?_
    refine resL _ (holds_cell (B5.cell rfl)) ?_
    exact ⟨none, 0, 0, [], rfl, OwnL.nil (x04.then k5 fun b hb _ => by omega), (minSets_err (by rw [← he]; exact g)).symm⟩
  have hev : evErr d x = 0 := by rw [← he]; exact g
  obtain ⟨-, -, hS⟩ := ev_sizes hev
  have tl := table_len hev
  have hpow : 2 ^ x.suspects.length ≤ 4096 := Nat.le_trans (Nat.pow_le_pow_right (by omega) hS) (by decide)
  have sT := oT.bools (D := fun b => w3.heap.size ≤ b) (by rw [tl]; omega) fun _ h => h
  have hms : minSets d x = putsS (minPre (tableV d x) x.suspects.length tn) := by unfold minSets minV minL minPre; rw [sT.len]
  rw [hms]
  have htl : (tableV d x).length ≤ 2 ^ x.suspects.length := by rw [tl]; exact Nat.le_refl _
  have hnd : (minPre (tableV d x) x.suspects.length tn).Nodup := by have := minL_nodup htl; unfold minL at this; rw [sT.len] at this; exact this
  generalize tableV d x = t at sT htl hnd ⊢
  generalize x.suspects.length = S at hS hpow htl hnd ⊢
  have htn := sT.len
  clear hms tl
  refine call_of c_sminimal ?_
  rintro _ w5 ⟨bt, rfl, x5, Bt, hbt⟩
  have x05 := x04.trans x5
  have B4 := B4.ext x5
  have sT := sT.ext x5
  have z5 := x5.size
  have z04 := x04.size
  have lt' := Bt.lt
  have z34 := oT.ext.size
  have hb4t : b4 ≠ bt := by omega
  have sT : SlR tBool (fun b => b ≠ b4 ∧ b < w5.heap.size) w5 TA tn t := sT.more (by decide) fun b hb h => ⟨by omega, hb⟩
  refine range (gf := 44) (lb := #[ptr bt]) rfl (fun fn tmps w6 R hR hF hwf x6 z6 hD6 hl6 => ?_)
  show CallZ _ _ #[.func (.yield (w5.heap.size + 1)) #[] #[], ptr bt] w6 _
  have w64 : w.heap.size ≤ b4 := by have := (h1.ext.trans h2.ext).size; omega
  refine (c_smin1 (D := fun b => b ≠ b4 ∧ b < w5.heap.size) (D' := fun b => b ≠ b4 ∧ b < w5.heap.size) (S := S) (t := t) (fun k u => Kept (fun b => b ≠ b4 ∧ b ≠ w5.heap.size + 1) w6 u ∧ LoopAt u (w5.heap.size + 1) R ∧ ∃ A n c s, Blk u b4 46 [.slice A n c] ∧ OwnL w u A n c s ∧ (∀ g, A = some (ad g 0) → w6.heap.size ≤ g) ∧ s.map (·.l) = minPre t S k ∧ n ≤ k)
    hS htl ⟨by omega, by omega⟩ (fun b h => h) ?_ ?_ (Bt.ext x6) (sT.ext x6) ⟨.refl _ _, hl6, none, 0, 0, [], B4.ext x6, OwnL.nil (x05.trans x6), (fun g h => by cases h), rfl, Nat.le_refl _⟩).mono ?_
  · rintro k u hk hm ⟨k5, l5, A, n, c, s, C4, o, hA6, hs, hn⟩
    subst hR
    refine yield_rule (args := [iv (k : Int)]) l5 rfl rfl hF hwf ?_
    refine mid' l5 (fun u6 k6 z66 l6 => ?_)
    have kz := k5.size
    have x0u : Ext w u6 := ((x05.trans x6).then k5 fun b hb _ => ⟨by omega, by omega⟩).then k6 fun b hb _ => by omega
    have C6 := C4.kept k6 (by omega)
    have o6 : OwnL w u6 A n c s := ⟨o.own.thenK k6 (fun g hg e => own_loop o.own l5 (e ▸ hg)) x0u, fun h hh => (o.hds h hh).kept k6 fun b cs hB _ => loop_ne l5 hB⟩
    refine drawP (.take 0 (.take 1 (.eff 2 (.eff 3 (.eff 4 (.bar (.eff 5 .done))))))) [5] (fun z => Kept (fun b => A ≠ some (ad b 0)) u6 z) mx (by kernel_rfl) (.refl _ _) ?_
    refine ldK (.slice A n c) (C6.cell rfl) (own_ty o6.own C6 (by decide)) (.refl _ _) ?_
    refine call_of (c_smembers (n := k) (S := S) (by omega) hS) ?_
    rintro _ u7 ⟨A', n', c', rfl, o'⟩
    refine strS (Ext.any o'.ext) ?_
    have hn' : n' ≤ 12 := by
      have h1 := o'.own.len
      rw [List.length_map] at h1
      have h2 := members_len k S
      omega
    have hH : HdI w u7 ⟨A', n', c', membersL k S⟩ := HdI.own o' x0u.size (fun v hv => by have := members_bound k S v hv; unfold I64; omega) (by omega)
    refine lit [.slice A' n' c'] (fun gg u8 hq => ?_)
    have x68 := o'.ext.trans hq.ext
    refine strS (Ext.any x68) ?_
    refine appF (o6.own.then x68) (hq.src (sz := 1) rfl) (by omega) (fun A2 c2' u9 p k9 hA => ?_)
    have xk : Kept (fun b => A ≠ some (ad b 0)) u6 u9 := (Ext.any x68).trans k9
    refine strS xk ?_
    refine barS (fun _ => True) trivial ?_
    have C9 := C6.kept xk (own_ty o6.own C6 (by decide))
    refine st1 C9 rfl (fun u10 C10 k10 => ?_)
    refine strS trivial ?_
    have l9 := l6.kept xk (own_loop o6.own l6)
    have l10 := l9.kept k10 (show w5.heap.size + 1 ≠ b4 by omega)
    refine roundN' _ l10 (fun u11 k11 l11 => ?_)
    have kA : ∀ b, b < w6.heap.size → A ≠ some (ad b 0) := fun b hb e => by have := hA6 b e; omega
    have z67 := x68.size
    have z68 := k6.size
    have x09 : Ext w u9 := p.ext
    have x010 : Ext w u10 := x09.then k10 fun b hb _ => by omega
    have x011 : Ext w u11 := x010.then k11 fun b hb _ => by omega
    have hp : OwnL w u11 A2 (n + 1) c2' (s ++ [⟨A', n', c', membersL k S⟩]) := by
      refine ⟨?_, fun h hh => ?_⟩
      · have p1 := p.thenK k10 (fun g hg e => own_ty p C9 (by decide) (e ▸ hg)) x010
        have p2 := p1.thenK k11 (fun g hg e => own_loop p1 l10 (e ▸ hg)) x011
        rw [List.map_append]; exact p2
      · have h9 : HdI w u9 h := by
          rcases List.mem_append.1 hh with hh | hh
          · exact (o6.hds h hh).kept xk fun b cs hB _ => own_ty o6.own hB (by decide)
          · rw [List.mem_singleton] at hh
            subst hh
            exact (hH.ext hq.ext).kept k9 fun b cs hB _ => own_ty (o6.own.then x68) hB (by decide)
        have h10 := h9.kept k10 fun b cs hB _ e => by subst e; exact absurd (hB.uniq C9).1 (by decide)
        exact h10.kept k11 fun b cs hB _ => loop_ne l10 hB
    refine ⟨rfl, ⟨(((k5.then k6 fun b _ h => h.2).then xk fun b hb _ => kA b hb).then k10 fun b _ h => h.1).then k11 fun b _ h => h.2, l11, A2, n + 1, c2', _, C10.kept k11 (by omega), hp, fun g hg => ?_, by rw [List.map_append, hs, minPre_yes hm]; rfl, by omega⟩, ?_⟩
    · rcases hA with h | h | h
      · exact hA6 g (h ▸ hg)
      · rw [h] at hg; cases hg
      · rw [h] at hg; injection hg with hg; injection hg with hg; omega
    · exact (((k6.weak fun b hb h => by omega).then xk fun b hb h => kA b (by omega)).then k10 fun b hb h => h.1).then k11 fun b hb h => by omega
  · rintro k u hk hm ⟨k5, l5, A, n, c, s, C4, o, hA6, hs, hn⟩
    exact ⟨k5, l5, A, n, c, s, C4, o, hA6, by rw [hs, minPre_no hm], by omega⟩
  · rintro v u ⟨k5, l5, A, n, c, s, C4, o, hA6, hs, hn⟩
    subst hR
    refine range_end _ l5 (by simp) (fun u6 k6 => ?_)
    have kz := k5.size
    have x0u : Ext w u6 := ((x05.trans x6).then k5 fun b hb _ => ⟨by omega, by omega⟩).then k6 fun b hb _ => by omega
    have C6 := C4.kept k6 (by omega)
    have o6 : OwnL w u6 A n c s := ⟨o.own.thenK k6 (fun g hg e => own_loop o.own l5 (e ▸ hg)) x0u, fun h hh => (o.hds h hh).kept k6 fun b cs hB _ => loop_ne l5 hB⟩
    have hD7 : u6.heap[w5.heap.size]? = some (.deferred (some [])) := ((k5.then k6 fun _ _ h => h.2).blk _ (by omega) ⟨by omega, by omega⟩).trans hD6
    have hnl := o6.len
    clear o l5 C4 k5
    refine ld (.slice A n c) (C6.cell rfl) ?_
    rcases o6.own.form with ⟨rfl, rfl, rfl⟩ | ⟨g, rfl, hg1, hg2, hle⟩
    · refine call_of c_sortNil ?_
      rintro _ _ ⟨rfl, rfl⟩
      refine ld (.slice none 0 0) (C6.cell rfl) ?_
      refine st1 C6 rfl (fun u7 C7 k7 => ?_)
      have hD8 : u7.heap[w5.heap.size]? = some (.deferred (some [])) := (k7.blk _ (by have := k6.size; omega) (by omega)).trans hD7
      refine retM hD8 ?_
      have k8 := Kept.putObj u7 w5.heap.size (.deferred none)
      refine resL _ (holds_cell ((C7.kept k8 (by omega)).cell rfl)) ?_
      have xe := (x0u.then k7 fun b hb _ => by omega).then k8 fun b hb _ => by omega
      obtain rfl : s = [] := List.eq_nil_of_length_eq_zero hnl.symm
      rw [← hs]
      exact ⟨none, 0, 0, [], by rw [g]; rfl, OwnL.nil xe, rfl⟩
    · have hcap := own_cap o6.own
      obtain ⟨rest, hB, hcl, -⟩ := Own.blk o6.own.own
      have hlen : ∀ h ∈ s, h.l.length ≤ 100000 := fun h hh => by
        have : h.l ∈ minPre t S tn := by rw [← hs]; exact List.mem_map.2 ⟨h, hh, rfl⟩
        unfold minPre at this
        obtain ⟨k, -, hk⟩ := List.mem_map.1 this
        have := members_len k S
        rw [← hk]; omega
      have hg6 := hA6 g rfl
      refine call_of (c_sortL hB hnl o6.hds hlen (by omega)) ?_
      rintro _ u7 ⟨rfl, s', hperm, hsort, B7, k7⟩
      have kz2 := k6.size
      have C7 := C6.kept k7 (show b4 ≠ g by omega)
      refine ld (.slice (some (ad g 0)) n c) (C7.cell rfl) ?_
      refine st1 C7 rfl (fun u8 C8 k8 => ?_)
      have k78 : Kept (fun b => b ≠ g ∧ b ≠ b4) u6 u8 := (k7.weak fun _ _ h => h.1).trans (k8.weak fun _ _ h => h.2)
      have hD8 : u8.heap[w5.heap.size]? = some (.deferred (some [])) := (k78.blk _ (by omega) ⟨by omega, by omega⟩).trans hD7
      refine retM hD8 ?_
      have k9 := Kept.putObj u8 w5.heap.size (.deferred none)
      refine resL _ (holds_cell ((C8.kept k9 (by omega)).cell rfl)) ?_
      have x07 : Ext w u7 := x0u.then k7 fun b hb _ => by omega
      have x08 : Ext w u8 := x07.then k8 fun b hb _ => by omega
      have xe := x08.then k9 fun b hb _ => by omega
      have hlen' : s'.length = s.length := hperm.length_eq
      have o7 : OwnF w u7 (some (ad g 0)) n c 36 1 (s'.map Hd.v) := ⟨Own.of_blk B7 (by rw [List.length_map, hlen', hnl]; simp) (by
        rw [← hcl, List.length_append, List.length_append, List.length_map, List.length_map, hlen']) hle hcap, x07, fun g' hg' => by injection hg' with hg'; injection hg' with hg'; omega⟩
      have o8 := o7.thenK k8 (fun g' hg' e => own_ty o7 C7 (by decide) (e ▸ hg')) x08
      have o9 := o8.thenK k9 (fun g' hg' => by injection hg' with hg'; injection hg' with hg'; show g' ≠ _; omega) xe
      refine ⟨some (ad g 0), n, c, s', by rw [show e = 0 by rw [he, hev]]; rfl, ⟨o9, fun h hh => ?_⟩, ?_⟩
      · have h7 := (o6.hds h (hperm.mem_iff.1 hh)).kept k7 fun b cs hB' _ e => by subst e; exact absurd (hB.uniq hB').1 (by decide)
        have h8 := h7.kept k8 fun b cs hB' _ e => by subst e; exact absurd (hB'.uniq C7).1 (by decide)
        exact h8.kept k9 fun b cs hB' _ e => by
          subst e
          unfold Blk at hB'
          rw [hD8] at hB'; cases hB'
      · exact putsS_uniq hnd (by rw [← hs]; exact hperm.map _) hsort
end
end Go.Proofs.Ytcpdhclnmjfldaa

/- Layer 49: contracts of Contains, Has, chosen, Smallest, Blame. -/
namespace Go.Proofs.Ytcpdhclnmjfldaa
open Go Go.RowKit

theorem mem_take_succ {α : Type} {l : List α} {k : Nat} {y x : α} (hy : l[k]? = some y) : x ∈ l.take (k + 1) ↔ x ∈ l.take k ∨ x = y := by
  rw [List.take_add_one, hy, List.mem_append]; simp
section
variable {D : Nat → Prop} {w : World}
theorem c_indexI {l : List Int} {x : Int} {A : Option Addr} {n c : Nat} (h : SlR tInt D w A n l) : CallZ Try.prog 48 #[.slice A n c, iv x] w (fun v w' => (∃ i : Int, v = iv i ∧ (0 ≤ i ↔ x ∈ l)) ∧ w' = w) := by
  have hl := h.len
  refine fn_rule (args := [.slice A n c, iv x]) Try.func48 (by kernel_rfl) ?_
  have hle := h.le
  refine len ?_
  refine loop_rule (fun k : Nat => [(8, iv (k : Int))]) (fun k u => k ≤ n ∧ w = u ∧ x ∉ l.take k) (fun k _ => n - k) 0 ⟨rfl, trivial⟩ ⟨by omega, rfl, by simp⟩ rfl ?_
  rintro G k u ⟨hk, rfl, hno⟩
  refine cD (fun hlt => ?_) (fun hge => ?_)
  · have hlt : k < n := by omega
    obtain ⟨b, o, cs, y, rfl, hy, -, -, hc, rfl, -⟩ := h.at_ hlt
    refine idx k rfl hlt ?_
    refine ld (iv y) (hc 0 _ rfl) ?_
    refine cE (fun e => ?_) (fun e => ?_)
    · exact ret1 (iv (k : Int)) rfl ⟨⟨_, rfl, fun _ => by rw [e]; exact List.mem_of_getElem? hy, fun _ => by omega⟩, rfl⟩
    · refine arI (by omega) ?_
      exact next (k + 1) ⟨by rw [Int.natCast_add]; rfl, trivial⟩ ⟨by omega, rfl, fun hm => by
        rcases (mem_take_succ hy).1 hm with h | h
        · exact hno h
        · exact e h⟩ (by omega)
  · rw [List.take_of_length_le (by omega)] at hno
    exact ret1 (iv (-1)) rfl ⟨⟨_, rfl, fun h => by omega, fun h => absurd h hno⟩, rfl⟩
theorem c_containsI {l : List Int} {x : Int} {A : Option Addr} {n c : Nat} (h : SlR tInt D w A n l) : CallZ Try.prog 33 #[.slice A n c, iv x] w (fun v w' => v = .bool (decide (x ∈ l)) ∧ w' = w) := by
  refine fn_rule (args := [.slice A n c, iv x]) Try.func33 (by kernel_rfl) ?_
  refine call_of (c_indexI h) ?_
  rintro _ _ ⟨⟨i, rfl, hi⟩, rfl⟩
  refine cD (fun g => ?_) (fun g => ?_)
  · exact ret1 (.bool true) rfl ⟨by rw [decide_eq_true (hi.1 (by omega))], rfl⟩
  · exact ret1 (.bool false) rfl ⟨by rw [decide_eq_false fun h => absurd (hi.2 h) (by omega)], rfl⟩
theorem c_r49Has {l : List Int} {x : Int} {A : Option Addr} {n c : Nat} (h : SlR tInt D w A n l) : CallZ Try.prog 9 #[.slice A n c, iv x] w (fun v w' => v = .bool (decide (x ∈ l)) ∧ w' = w) := by
  have hl := h.len
  have hle := h.le
  refine fn_rule (args := [.slice A n c, iv x]) Try.func9 (by kernel_rfl) ?_
  refine loop_rule (fun k : Nat => [(5, iv (k : Int))]) (fun k u => k ≤ n ∧ w = u ∧ x ∉ l.take k) (fun k _ => n - k) 0 ⟨rfl, trivial⟩ ⟨by omega, rfl, by simp⟩ rfl ?_
  rintro G k u ⟨hk, rfl, hno⟩
  refine len ?_
  refine cD (fun hlt => ?_) (fun hge => ?_)
  · have hlt : k < n := by omega
    obtain ⟨b, o, cs, y, rfl, hy, -, -, hc, rfl, -⟩ := h.at_ hlt
    refine idx k rfl hlt ?_
    refine ld (iv y) (hc 0 _ rfl) ?_
    refine cE (fun e => ?_) (fun e => ?_)
    · exact ret1 (.bool true) rfl ⟨by rw [decide_eq_true (by rw [← e]; exact List.mem_of_getElem? hy)], rfl⟩
    · refine arI (by omega) ?_
      exact next (k + 1) ⟨by rw [Int.natCast_add]; rfl, trivial⟩ ⟨by omega, rfl, fun hm => by
        rcases (mem_take_succ hy).1 hm with h | h
        · exact hno h
        · exact e h.symm⟩ (by omega)
  · rw [List.take_of_length_le (by omega)] at hno
    exact ret1 (.bool false) rfl ⟨by rw [decide_eq_false hno], rfl⟩
/-- A cell of a list of lists. -/
theorem OwnL.cell {w0 : World} {A : Option Addr} {n c : Nat} {s : List Hd} (h : OwnL w0 w A n c s) {k : Nat} (hk : k < n) : ∃ g hd, A = some (ad g 0) ∧ s[k]? = some hd ∧ w.cell? (ad g (0 + k * 1)) = some hd.v ∧ HdI w0 w hd := by
  have hn := h.len
  rcases h.own.form with ⟨-, rfl, -⟩ | ⟨g, rfl, -⟩
  · omega
  · obtain ⟨rest, hB, -⟩ := Own.blk h.own.own
    obtain ⟨hd, hhd⟩ : ∃ hd, s[k]? = some hd := ⟨_, List.getElem?_eq_getElem (by omega : k < s.length)⟩
    refine ⟨g, hd, rfl, hhd, ?_, h.hds hd (List.mem_of_getElem? hhd)⟩
    rw [Nat.zero_add, Nat.mul_one]
    exact hB.cell (by rw [List.getElem?_append_left (by rw [List.length_map]; omega), List.getElem?_map, hhd]; rfl)
set_option maxRecDepth 4000 in
theorem c_chosenL {w0 : World} {f : FuncId} [he : Enters Try.prog f] {cv : Value} {A : Option Addr} {n c : Nat} {s : List Hd} (p : List Int → Bool) (o : OwnL w0 w A n c s) (hn : n ≤ 100000)
    (hp : ∀ u (h : Hd), Ext w u → HdI w0 u h → CallZ Try.prog f #[h.v, cv] u (fun v w' => v = .bool (p h.l) ∧ w' = u)) :
    CallZ Try.prog 29 #[.slice A n c, .func (.func f) #[] #[cv]] w (fun v w' => ∃ A' n' c', v = .slice A' n' c' ∧ OwnF w w' A' n' c' 36 1 ((s.filter fun h => p h.l).map Hd.v) ∧ n' ≤ n) := by
  have hln := o.len
  refine fn_rule (args := [.slice A n c, .func (.func f) #[] #[cv]]) Try.func29 (by kernel_rfl) ?_
  refine len ?_
  refine loop4 (fun (k : Nat) (B : Option Addr) (m e : Nat) => [(9, iv (k : Int)), (4, .slice B m e)]) (fun k B m e u => k ≤ n ∧ m ≤ k ∧ OwnF w u B m e 36 1 (((s.take k).filter fun h => p h.l).map Hd.v)) (fun k _ _ _ _ => n - k) 0 none 0 0 ⟨rfl, rfl, trivial⟩ ⟨by omega, Nat.le_refl _, OwnF.nil (.refl _ _)⟩ rfl ?_
  rintro G k B m e u ⟨hk, hm, q⟩
  refine cD (fun hlt => ?_) (fun hge => ?_)
  · have hlt : k < n := by omega
    obtain ⟨g, hd, rfl, hhd, hc, hI⟩ := o.cell hlt
    have htk : s.take (k + 1) = s.take k ++ [hd] := by rw [List.take_add_one, hhd]; rfl
    refine idx k rfl hlt ?_
    refine ld hd.v (q.ext.cell hc trivial) ?_
    have hI' := hI.ext q.ext
    refine call_of (hp u hd q.ext hI') ?_
    rintro _ _ ⟨rfl, rfl⟩
    cases hb : p hd.l with
    | true =>
      refine lit [hd.v] (fun gg u1 hq => ?_)
      refine appF (q.then hq.ext) (hq.src (sz := 1) rfl) (by omega) (fun B' e' u2 q2 kk hA => ?_)
      refine arI (by omega) ?_
      refine next4 (k + 1) B' (m + 1) e' ⟨by rw [Int.natCast_add]; rfl, rfl, trivial⟩ ⟨by omega, by omega, ?_⟩ (by omega)
      rw [htk, List.filter_append, List.map_append, show [hd].filter (fun h => p h.l) = [hd] by simp [hb]]
      exact q2
    | false =>
      refine arI (by omega) ?_
      refine next4 (k + 1) B m e ⟨by rw [Int.natCast_add]; rfl, rfl, trivial⟩ ⟨by omega, by omega, ?_⟩ (by omega)
      rw [htk, List.filter_append, List.map_append, show [hd].filter (fun h => p h.l) = [] by simp [hb]]
      simpa using q
  · rw [List.take_of_length_le (by omega)] at q
    exact ret1 (.slice B m e) rfl ⟨B, m, e, rfl, q, by omega⟩
theorem c_sSmall1 {b : Nat} {k : Int} {A : Option Addr} {n c : Nat} (hb : Blk w b 3 [iv k]) (_h : n ≤ 140737488355328) : CallZ Try.prog 30 #[.slice A n c, ptr b] w (fun v w' => v = .bool (decide ((n : Int) = k)) ∧ w' = w) := by
  refine fn_rule (args := [.slice A n c, ptr b]) Try.func30 (by kernel_rfl) ?_
  refine len ?_
  refine ld (iv k) (hb.cell rfl) ?_
  refine cE (fun g => ?_) (fun g => ?_)
  · exact ret1 (.bool true) rfl ⟨by rw [decide_eq_true g], rfl⟩
  · exact ret1 (.bool false) rfl ⟨by rw [decide_eq_false g], rfl⟩
theorem c_sBlame1 {b : Nat} {k : Int} {A : Option Addr} {n c : Nat} {l : List Int} (hb : Blk w b 3 [iv k]) (h : SlR tInt D w A n l) : CallZ Try.prog 32 #[.slice A n c, ptr b] w (fun v w' => v = .bool (decide (k ∈ l)) ∧ w' = w) := by
  refine fn_rule (args := [.slice A n c, ptr b]) Try.func32 (by kernel_rfl) ?_
  refine ld (iv k) (hb.cell rfl) ?_
  refine call_of (c_containsI h) ?_
  rintro _ _ ⟨rfl, rfl⟩
  exact ret1 (.bool (decide (k ∈ l))) rfl ⟨rfl, rfl⟩
theorem min_len {d : Dist} {x : Ev} : (minSets d x).length ≤ 4096 := by
  by_cases h : evErr d x = 0
  · obtain ⟨-, -, hS⟩ := ev_sizes h
    have h1 : (minSets d x).length = (minL (tableV d x) x.suspects.length).length := by
      unfold minSets minV; exact (putsS_ok (minL_nodup table_le2)).1.length_eq
    have h2 : (minL (tableV d x) x.suspects.length).length ≤ (tableV d x).length := by
      unfold minL
      rw [List.length_map]
      have := List.length_filter_le (minB (tableV d x) x.suspects.length) (List.range (tableV d x).length)
      rw [List.length_range] at this; exact this
    have h3 := table_len h
    have h4 : 2 ^ x.suspects.length ≤ 4096 := Nat.le_trans (Nat.pow_le_pow_right (by omega) hS) (by decide)
    omega
  · rw [minSets_err h]; simp
theorem min_mem_len {d : Dist} {x : Ev} {l : List Int} (hl : l ∈ minSets d x) : l.length ≤ 12 ∧ ∀ v ∈ l, 0 ≤ v ∧ v < x.suspects.length := by
  obtain ⟨n, -, -, rfl⟩ := mem_min.1 hl
  have he := (min_expl hl).1
  obtain ⟨-, -, hS⟩ := ev_sizes he
  have := members_len n x.suspects.length
  exact ⟨by omega, members_bound n _⟩
set_option maxRecDepth 8000 in
theorem c_sSmallest {csd csx : List Value} {d : Dist} {x : Ev} (hd : DiR D w csd d) (hx : EvR D w csx x) : CallZ Try.prog 13 #[.agg csd.toArray, .agg csx.toArray] w
    (fun v w' => ∃ A n c s, v = .tuple #[.slice A n c, iv (evErr d x)] ∧ OwnL w w' A n c s ∧ s.map (·.l) = smallV x.suspects.length (minSets d x)) := by
  have hd := hd.more (D' := fun _ => True) fun _ _ _ => trivial
  have hx := hx.more (D' := fun _ => True) fun _ _ _ => trivial
  obtain ⟨A1, n1, c1, A2, n2, c2, A3, n3, c3, A4, n4, c4, A5, n5, c5, A6, n6, c6, rfl, -⟩ := hd.ex
  obtain ⟨W1, m1, e1, S1, m2, e2, rfl, hwv, hsu, -⟩ := hx.ex
  have lsu := hsu.len
  refine fn_rule (args := [.agg #[.string d.name, iv d.hours, iv d.cap, iv d.start, .slice A1 n1 c1, .slice A2 n2 c2, .slice A3 n3 c3, .slice A4 n4 c4, .slice A5 n5 c5, .slice A6 n6 c6], .agg #[.slice W1 m1 e1, .slice S1 m2 e2]]) Try.func13 (by kernel_rfl) ?_
  refine box (fun bd w1 h1 => ?_)
  refine box (fun bx w2 h2 => ?_)
  have x2 := h1.ext.trans h2.ext
  have Bd : Blk w2 bd 31 [.string d.name, iv d.hours, iv d.cap, iv d.start, .slice A1 n1 c1, .slice A2 n2 c2, .slice A3 n3 c3, .slice A4 n4 c4, .slice A5 n5 c5, .slice A6 n6 c6] := h1.blk.ext h2.ext
  have Bx : Blk w2 bx 35 [.slice W1 m1 e1, .slice S1 m2 e2] := h2.blk
  refine ldA [.string d.name, iv d.hours, iv d.cap, iv d.start, .slice A1 n1 c1, .slice A2 n2 c2, .slice A3 n3 c3, .slice A4 n4 c4, .slice A5 n5 c5, .slice A6 n6 c6] (.blk Bd) rfl ?_
  refine ldA [.slice W1 m1 e1, .slice S1 m2 e2] (.blk Bx) rfl ?_
  refine call_of (c_sMinimal (hd.ext x2) (hx.ext x2)) ?_
  rintro _ w3 ⟨A, n, c, s, rfl, o, hs⟩
  have x3 := x2.trans o.own.ext
  have Bx := Bx.ext o.own.ext
  obtain ⟨e, he⟩ : ∃ e, e = evErr d x := ⟨_, rfl⟩
  rw [← he]
  refine cN (fun g => ?_) (fun g => ?_)
  · exact ret2 (.slice none 0 0) (iv e) rfl rfl ⟨none, 0, 0, [], rfl, OwnL.nil x3, by rw [minSets_err (by rw [← he]; exact g)]; rfl⟩
  have hln := o.len
  have hml := min_len (d := d) (x := x)
  have hml2 : n = (minSets d x).length := by rw [← hs, List.length_map]; exact hln
  have hev : evErr d x = 0 := by rw [← he]; exact g
  obtain ⟨-, -, hS⟩ := ev_sizes hev
  refine fldA ?_
  refine ld (.slice S1 m2 e2) (Bx.cell rfl) ?_
  refine len ?_
  refine alloc (fun bf w4 h4 => ?_)
  refine st1 h4.blk rfl (fun w5 B5 k5 => ?_)
  have a4 := h4.at_
  have x35 : Ext w3 w5 := h4.ext.then k5 fun b hb _ => by omega
  have o5 := o.ext x35
  refine len ?_
  refine loop_rule (fun k : Nat => [(23, iv (k : Int))]) (fun k u => k ≤ n ∧ Kept (fun b => b ≠ bf) w5 u ∧ ∃ m : Nat, Blk u bf 3 [iv (m : Int)] ∧ m = ((minSets d x).take k).foldl (fun m l => min m l.length) x.suspects.length) (fun k _ => n - k) 0 ⟨rfl, trivial⟩ ⟨by omega, .refl _ _, m2, B5, by rw [List.take_zero]; exact lsu.symm⟩ rfl ?_
  rintro G k u ⟨hk, ku, m, Bm, hm⟩
  have xu : Ext w3 u := x35.then ku fun b hb _ => by omega
  refine cD (fun hlt => ?_) (fun hge => ?_)
  · have hlt : k < n := by omega
    obtain ⟨g', hh, rfl, hhd, hc, hI⟩ := o.cell hlt
    have hmk : (minSets d x)[k]? = some hh.l := by rw [← hs, List.getElem?_map, hhd]; rfl
    have hhl := (min_mem_len (List.mem_of_getElem? hmk)).1
    have hll := hI.rd.len
    refine idx k rfl hlt ?_
    refine ld hh.v (xu.cell hc trivial) ?_
    refine ld (iv (m : Int)) (Bm.cell rfl) ?_
    refine len ?_
    refine st1 Bm rfl (fun u1 B1 k1 => ?_)
    refine arI (by omega) ?_
    refine next (k + 1) ⟨by rw [Int.natCast_add]; rfl, trivial⟩ ⟨by omega, ku.trans k1, min m hh.l.length, ?_, ?_⟩ (by omega)
    · have : min (m : Int) (hh.n : Int) = ((min m hh.l.length : Nat) : Int) := by rw [hll]; omega
      rw [← this]; exact B1
    · rw [List.take_add_one, hmk, List.foldl_append, ← hm]; rfl
  · rw [List.take_of_length_le (by omega)] at hm
    refine call_of (c_chosenL (fun l => decide (l.length = m)) (o.ext xu) (by omega) (fun u' h xu' hI => ?_)) ?_
    · refine (c_sSmall1 (k := (m : Int)) (Bm.ext xu') (hI.rd.le)).mono ?_
      rintro v _ ⟨rfl, rfl⟩
      refine ⟨?_, rfl⟩
      have := hI.rd.len
      rw [this]
      congr 1
      exact decide_eq_decide.2 (by omega)
    rintro _ w7 ⟨A', n', c', rfl, o', hn'⟩
    refine ret2 (.slice A' n' c') (iv 0) rfl rfl ⟨A', n', c', _, by rw [g], ⟨o'.base (x3.trans xu), fun h hh => (((o.hds h (List.mem_filter.1 hh).1).base x2.size).ext xu).ext o'.ext⟩, ?_⟩
    unfold smallV
    rw [← hm, ← hs, List.filter_map]
    rfl
set_option maxRecDepth 8000 in
theorem c_sBlame {csd csx : List Value} {d : Dist} {x : Ev} {k : Int} (hd : DiR D w csd d) (hx : EvR D w csx x) : CallZ Try.prog 15 #[.agg csd.toArray, .agg csx.toArray, iv k] w
    (fun v w' => ∃ A n c, v = .tuple #[.slice A n c, .bool (if 0 ≤ k ∧ k < x.suspects.length then (blameV d x k).isSome else false), iv (if evErr d x ≠ 0 then evErr d x else if 0 ≤ k ∧ k < x.suspects.length then 0 else 1)] ∧ Ext w w' ∧
      SlR tInt (fun b => w.heap.size ≤ b) w' A n (if 0 ≤ k ∧ k < x.suspects.length then (blameV d x k).getD [] else [])) := by
  have hd := hd.more (D' := fun _ => True) fun _ _ _ => trivial
  have hx := hx.more (D' := fun _ => True) fun _ _ _ => trivial
  obtain ⟨A1, n1, c1, A2, n2, c2, A3, n3, c3, A4, n4, c4, A5, n5, c5, A6, n6, c6, rfl, -⟩ := hd.ex
  obtain ⟨W1, m1, e1, S1, m2, e2, rfl, hwv, hsu, -⟩ := hx.ex
  have lsu := hsu.len
  refine fn_rule (args := [.agg #[.string d.name, iv d.hours, iv d.cap, iv d.start, .slice A1 n1 c1, .slice A2 n2 c2, .slice A3 n3 c3, .slice A4 n4 c4, .slice A5 n5 c5, .slice A6 n6 c6], .agg #[.slice W1 m1 e1, .slice S1 m2 e2], iv k]) Try.func15 (by kernel_rfl) ?_
  refine box (fun bd w1 h1 => ?_)
  refine box (fun bx w2 h2 => ?_)
  refine box (fun bk w2' h2' => ?_)
  have x2 := (h1.ext.trans h2.ext).trans h2'.ext
  have Bd : Blk w2' bd 31 [.string d.name, iv d.hours, iv d.cap, iv d.start, .slice A1 n1 c1, .slice A2 n2 c2, .slice A3 n3 c3, .slice A4 n4 c4, .slice A5 n5 c5, .slice A6 n6 c6] := h1.blk.ext (h2.ext.trans h2'.ext)
  have Bx : Blk w2' bx 35 [.slice W1 m1 e1, .slice S1 m2 e2] := h2.blk.ext h2'.ext
  have Bk : Blk w2' bk 3 [iv k] := h2'.blk
  refine ldA [.string d.name, iv d.hours, iv d.cap, iv d.start, .slice A1 n1 c1, .slice A2 n2 c2, .slice A3 n3 c3, .slice A4 n4 c4, .slice A5 n5 c5, .slice A6 n6 c6] (.blk Bd) rfl ?_
  refine ldA [.slice W1 m1 e1, .slice S1 m2 e2] (.blk Bx) rfl ?_
  refine call_of (c_sMinimal (hd.ext x2) (hx.ext x2)) ?_
  rintro _ w3 ⟨A, n, c, s, rfl, o, hs⟩
  have x3 := x2.trans o.own.ext
  have Bx := Bx.ext o.own.ext
  have Bk := Bk.ext o.own.ext
  obtain ⟨e, he⟩ : ∃ e, e = evErr d x := ⟨_, rfl⟩
  rw [← he]
  refine cN (fun g => ?_) (fun g => ?_)
  · have hb : blameV d x k = none := by unfold blameV; rw [minSets_err (by rw [← he]; exact g)]; rfl
    exact ret3 (.slice none 0 0) (.bool false) (iv e) rfl rfl rfl ⟨none, 0, 0, by rw [if_pos g, hb]; simp, x3, by rw [hb]; simp; exact .nil⟩
  have e0 : ¬ e ≠ 0 := fun h => h g
  have no : ¬ (0 ≤ k ∧ k < x.suspects.length) → ∃ A n c, Value.tuple #[.slice none 0 0, .bool false, iv 1] = .tuple #[.slice A n c, .bool (if 0 ≤ k ∧ k < x.suspects.length then (blameV d x k).isSome else false), iv (if e ≠ 0 then e else if 0 ≤ k ∧ k < x.suspects.length then 0 else 1)] ∧ Ext w w3 ∧
      SlR tInt (fun b => w.heap.size ≤ b) w3 A n (if 0 ≤ k ∧ k < x.suspects.length then (blameV d x k).getD [] else []) := fun h => ⟨none, 0, 0, by rw [if_neg e0, if_neg h, if_neg h], x3, by rw [if_neg h]; exact .nil⟩
  refine ld (iv k) (Bk.cell rfl) ?_
  refine cD (fun g1 => ?_) (fun g1 => ?_)
  · exact ret3 (.slice none 0 0) (.bool false) (iv 1) rfl rfl rfl (no (by omega))
  refine ld (iv k) (Bk.cell rfl) ?_
  refine fldA ?_
  refine ld (.slice S1 m2 e2) (Bx.cell rfl) ?_
  refine len ?_
  refine cD (fun g2 => ?_) (fun g2 => ?_)
  · exact ret3 (.slice none 0 0) (.bool false) (iv 1) rfl rfl rfl (no (by omega))
  have hk : 0 ≤ k ∧ k < x.suspects.length := by omega
  rw [if_neg e0, if_pos hk, if_pos hk, if_pos hk]
  have hml := min_len (d := d) (x := x)
  have hml2 : n = (minSets d x).length := by rw [← hs, List.length_map]; exact o.len
  refine call_of (c_chosenL (fun l => decide (k ∈ l)) o (by omega) (fun u' h xu' hI => ?_)) ?_
  · exact c_sBlame1 (Bk.ext xu') hI.rdT
  rintro _ w7 ⟨A', n', c', rfl, o', hn'⟩
  have hbl : blameV d x k = ((s.filter fun h => decide (k ∈ h.l)).map (·.l))[0]? := by
    unfold blameV
    rw [← List.head?_filter, ← hs, List.filter_map, List.head?_eq_getElem?]
    rfl
  have oL : OwnL w w7 A' n' c' (s.filter fun h => decide (k ∈ h.l)) := ⟨o'.base x3, fun h hh => ((o.hds h (List.mem_filter.1 hh).1).base x2.size).ext o'.ext⟩
  have hlen := oL.len
  refine len ?_
  refine cD (fun g3 => ?_) (fun g3 => ?_)
  · obtain ⟨g', hh, rfl, hhd, hc, hI⟩ := oL.cell (show 0 < n' by omega)
    refine idx 0 rfl (by omega) ?_
    refine ld hh.v hc ?_
    have hb : blameV d x k = some hh.l := by rw [hbl, List.getElem?_map, hhd]; rfl
    exact ret3 hh.v (.bool true) (iv 0) rfl rfl rfl ⟨hh.A, hh.n, hh.c, by rw [hb]; rfl, x3.trans o'.ext, by rw [hb]; exact hI.rdN⟩
  · have hb : blameV d x k = none := by
      rw [hbl, List.getElem?_map, List.getElem?_eq_none (by omega)]; rfl
    exact ret3 (.slice none 0 0) (.bool false) (iv 0) rfl rfl rfl ⟨none, 0, 0, by rw [hb]; rfl, x3.trans o'.ext, by rw [hb]; exact .nil⟩
end
end Go.Proofs.Ytcpdhclnmjfldaa

/- Layer 49: contracts of counted, Named, Needed. -/
namespace Go.Proofs.Ytcpdhclnmjfldaa
open Go Go.RowKit

theorem count_nodup {L : List (List Int)} {i : Int} (h : ∀ l ∈ L, l.Nodup) : L.flatten.count i = cntS L i := by
  unfold cntS
  induction L with
  | nil => rfl
  | cons l L ih =>
    have h1 := h l List.mem_cons_self
    have h2 := ih fun x hx => h x (List.mem_cons_of_mem _ hx)
    rw [List.flatten_cons, List.count_append, h2]
    by_cases hi : i ∈ l
    · rw [List.filter_cons_of_pos (by simpa using hi), List.length_cons, h1.count, if_pos hi]; omega
    · rw [List.filter_cons_of_neg (by simpa using hi), List.count_eq_zero.2 hi]; omega
theorem min_nodup {d : Dist} {x : Ev} {l : List Int} (hl : l ∈ minSets d x) : l.Nodup := by
  obtain ⟨n, -, -, rfl⟩ := mem_min.1 hl
  have := (setB_iff49.1 (members_set (n := n) (S := x.suspects.length))).2
  exact this.imp fun {a b} h => by omega
section
variable {D : Nat → Prop} {w : World}
set_option maxRecDepth 4000 in
theorem c_chosenI {f : FuncId} [he : Enters Try.prog f] {cv1 cv2 cv3 : Value} {A : Option Addr} {n c : Nat} {l : List Int} (p : Int → Bool) (o : SlR tInt D w A n l) (hn : n ≤ 100000)
    (hp : ∀ u (i : Int), Ext w u → i ∈ l → CallZ Try.prog f #[iv i, cv1, cv2, cv3] u (fun v w' => v = .bool (p i) ∧ w' = u)) :
    CallZ Try.prog 42 #[.slice A n c, .func (.func f) #[] #[cv1, cv2, cv3]] w (fun v w' => ∃ A' n' c', v = .slice A' n' c' ∧ OwnF w w' A' n' c' 3 1 ((l.filter p).map fun k => .int .i64 k) ∧ n' ≤ n) := by
  have hln := o.len
  refine fn_rule (args := [.slice A n c, .func (.func f) #[] #[cv1, cv2, cv3]]) Try.func42 (by kernel_rfl) ?_
  refine len ?_
  refine loop4 (fun (k : Nat) (B : Option Addr) (m e : Nat) => [(9, iv (k : Int)), (4, .slice B m e)]) (fun k B m e u => k ≤ n ∧ m ≤ k ∧ OwnF w u B m e 3 1 (((l.take k).filter p).map fun k => .int .i64 k)) (fun k _ _ _ _ => n - k) 0 none 0 0 ⟨rfl, rfl, trivial⟩ ⟨by omega, Nat.le_refl _, OwnF.nil (.refl _ _)⟩ rfl ?_
  rintro G k B m e u ⟨hk, hm, q⟩
  refine cD (fun hlt => ?_) (fun hge => ?_)
  · have hlt : k < n := by omega
    obtain ⟨g, ofs, cs, i, rfl, hhd, -, -, hc, rfl, -⟩ := o.at_ hlt
    have htk : l.take (k + 1) = l.take k ++ [i] := by rw [List.take_add_one, hhd]; rfl
    refine idx k rfl hlt ?_
    refine ld (iv i) (q.ext.cell (hc 0 _ rfl) trivial) ?_
    refine call_of (hp u i q.ext (List.mem_of_getElem? hhd)) ?_
    rintro _ _ ⟨rfl, rfl⟩
    cases hb : p i with
    | true =>
      refine lit [iv i] (fun gg u1 hq => ?_)
      refine appF (q.then hq.ext) (hq.src (sz := 1) rfl) (by omega) (fun B' e' u2 q2 kk hA => ?_)
      refine arI (by omega) ?_
      refine next4 (k + 1) B' (m + 1) e' ⟨by rw [Int.natCast_add]; rfl, rfl, trivial⟩ ⟨by omega, by omega, ?_⟩ (by omega)
      rw [htk, List.filter_append, List.map_append, show [i].filter p = [i] by simp [hb]]
      exact q2
    | false =>
      refine arI (by omega) ?_
      refine next4 (k + 1) B m e ⟨by rw [Int.natCast_add]; rfl, rfl, trivial⟩ ⟨by omega, by omega, ?_⟩ (by omega)
      rw [htk, List.filter_append, List.map_append, show [i].filter p = [] by simp [hb]]
      simpa using q
  · rw [List.take_of_length_le (by omega)] at q
    exact ret1 (.slice B m e) rfl ⟨B, m, e, rfl, q, by omega⟩
set_option maxRecDepth 8000 in
theorem c_scounted {f : FuncId} [he : Enters Try.prog f] {csd csx : List Value} {d : Dist} {x : Ev} (q : Nat → Nat → Bool) (hd : DiR D w csd d) (hx : EvR D w csx x)
    (hq : ∀ u (a b : Nat), CallZ Try.prog f #[iv (a : Int), iv (b : Int)] u (fun v w' => v = .bool (q a b) ∧ w' = u)) : CallZ Try.prog 21 #[.agg csd.toArray, .agg csx.toArray, .func (.func f) #[] #[]] w
    (fun v w' => ∃ A n c, v = .tuple #[.slice A n c, iv (evErr d x)] ∧ OwnF w w' A n c 3 1 ((if evErr d x = 0 then ((List.range x.suspects.length).filter fun i : Nat => q (cntS (minSets d x) i) (minSets d x).length).map fun i : Nat => (i : Int) else []).map fun k => .int .i64 k)) := by
  have hd := hd.more (D' := fun _ => True) fun _ _ _ => trivial
  have hx := hx.more (D' := fun _ => True) fun _ _ _ => trivial
  obtain ⟨A1, n1, c1, A2, n2, c2, A3, n3, c3, A4, n4, c4, A5, n5, c5, A6, n6, c6, rfl, -⟩ := hd.ex
  obtain ⟨W1, m1, e1, S1, m2, e2, rfl, hwv, hsu, -⟩ := hx.ex
  have lsu := hsu.len
  refine fn_rule (args := [.agg #[.string d.name, iv d.hours, iv d.cap, iv d.start, .slice A1 n1 c1, .slice A2 n2 c2, .slice A3 n3 c3, .slice A4 n4 c4, .slice A5 n5 c5, .slice A6 n6 c6], .agg #[.slice W1 m1 e1, .slice S1 m2 e2], .func (.func f) #[] #[]]) Try.func21 (by kernel_rfl) ?_
  refine box (fun bd w1 h1 => ?_)
  refine box (fun bx w2 h2 => ?_)
  refine box (fun bf w2' h2' => ?_)
  have x2 := (h1.ext.trans h2.ext).trans h2'.ext
  have Bd : Blk w2' bd 31 [.string d.name, iv d.hours, iv d.cap, iv d.start, .slice A1 n1 c1, .slice A2 n2 c2, .slice A3 n3 c3, .slice A4 n4 c4, .slice A5 n5 c5, .slice A6 n6 c6] := h1.blk.ext (h2.ext.trans h2'.ext)
  have Bx : Blk w2' bx 35 [.slice W1 m1 e1, .slice S1 m2 e2] := h2.blk.ext h2'.ext
  have Bf : Blk w2' bf _ [.func (.func f) #[] #[]] := h2'.blk
  refine ldA [.string d.name, iv d.hours, iv d.cap, iv d.start, .slice A1 n1 c1, .slice A2 n2 c2, .slice A3 n3 c3, .slice A4 n4 c4, .slice A5 n5 c5, .slice A6 n6 c6] (.blk Bd) rfl ?_
  refine ldA [.slice W1 m1 e1, .slice S1 m2 e2] (.blk Bx) rfl ?_
  refine call_of (c_sMinimal (hd.ext x2) (hx.ext x2)) ?_
  rintro _ w3 ⟨A, n, c, s, rfl, o, hs⟩
  have x3 := x2.trans o.own.ext
  have Bx := Bx.ext o.own.ext
  have Bf := Bf.ext o.own.ext
  refine alloc (fun b8 w4 h4 => ?_)
  refine st1 h4.blk rfl (fun w5 B8 k5 => ?_)
  have a4 := h4.at_
  have x35 : Ext w3 w5 := h4.ext.then k5 fun b hb _ => by omega
  have x05 := x3.trans x35
  have Bx := Bx.ext x35
  have Bf := Bf.ext x35
  have lx5 := Bx.lt
  have lf5 := Bf.lt
  have o := o.ext x35
  obtain ⟨e, he'⟩ : ∃ e, e = evErr d x := ⟨_, rfl⟩
  rw [← he']
  refine cN (fun g => ?_) (fun g => ?_)
  · exact ret2 (.slice none 0 0) (iv e) rfl rfl ⟨none, 0, 0, rfl, by rw [if_neg g]; exact OwnF.nil x05⟩
  rw [if_pos g]
  have hev : evErr d x = 0 := by rw [← he']; exact g
  obtain ⟨-, -, hS⟩ := ev_sizes hev
  have hln := o.len
  have hml := min_len (d := d) (x := x)
  have hml2 : n = (minSets d x).length := by rw [← hs, List.length_map]; exact hln
  refine mmap (fun gm v1 hgm hv1 => ?_)
  have xv1 : Ext w5 v1 := by rw [hv1]; exact Kept.alloc _ _ _
  have M1 : MapFn .i64 v1 gm (fun _ => none) := by rw [hv1, hgm]; exact MapFn.new .i64 w5
  refine alloc (fun b9 w6 h6 => ?_)
  refine st1 h6.blk rfl (fun w7 B9 k7 => ?_)
  have a6 := h6.at_
  have x67 : Ext v1 w7 := h6.ext.then k7 fun b hb _ => by omega
  have M7 := M1.kept x67 trivial
  have x57 := xv1.trans x67
  have B8 := B8.ext x57
  have Bx := Bx.ext x57
  have Bf := Bf.ext x57
  have o7 := o.ext x57
  have lgm := M1.lt
  have l8 := B8.lt
  have lx := Bx.lt
  have lf := Bf.lt
  have gm8 : gm = w5.heap.size := hgm
  have z5 := x35.size
  have l8' : b8 < w5.heap.size := by have := k5.size; have := h4.size; omega
  refine ld (.slice A n c) (B8.cell rfl) ?_
  refine len ?_
  refine loop_rule (fun k : Nat => [(27, iv (k : Int))]) (fun k u => k ≤ n ∧ Kept (fun b => b ≠ gm) w7 u ∧ ∃ F, MapFn .i64 u gm F ∧ ∀ i, (F i).getD (iv 0) = iv (((((minSets d x).take k).flatten.count i : Nat)) : Int)) (fun k _ => n - k) 0 ⟨rfl, trivial⟩ ⟨by omega, .refl _ _, _, M7, fun i => rfl⟩ rfl ?_
  rintro G k u ⟨hk, ku, F, MF, hF⟩
  have xu : Ext w5 u := x57.then ku fun b hb _ => by omega
  refine cD (fun hlt => ?_) (fun hge => ?_)
  · have hlt : k < n := by omega
    obtain ⟨g', ⟨Ah, nh, ch, lh⟩, rfl, hhd, hc, hI⟩ := o.cell hlt
    have hc : u.cell? (ad g' (0 + k * 1)) = some (.slice Ah nh ch) := xu.cell hc trivial
    have hI : HdI w2' w5 ⟨Ah, nh, ch, lh⟩ := hI
    have hmk : (minSets d x)[k]? = some lh := by rw [← hs, List.getElem?_map, hhd]; rfl
    obtain ⟨hhl, hhb⟩ := min_mem_len (List.mem_of_getElem? hmk)
    have hll : lh.length = nh := hI.rd.len
    have htk : ((minSets d x).take (k + 1)).flatten = ((minSets d x).take k).flatten ++ lh := by rw [List.take_add_one, hmk, List.flatten_append]; simp
    refine idx k rfl hlt ?_
    refine ld (.slice Ah nh ch) hc ?_
    refine len ?_
    refine loop_rule (fun j : Nat => [(33, iv (j : Int))]) (fun j z => j ≤ nh ∧ Kept (fun b => b ≠ gm) u z ∧ ∃ F, MapFn .i64 z gm F ∧ ∀ i, (F i).getD (iv 0) = iv ((((((minSets d x).take k).flatten ++ lh.take j).count i : Nat)) : Int)) (fun j _ => nh - j) 0 ⟨rfl, trivial⟩ ⟨by omega, .refl _ _, F, MF, fun i => by rw [hF, List.take_zero, List.append_nil]⟩ rfl ?_
    rintro G2 j z ⟨hj, kz, F2, MF2, hF2⟩
    have hcnt : ∀ i, (((minSets d x).take k).flatten ++ lh.take j).count i ≤ 60000 := fun i => by
      refine Nat.le_trans List.count_le_length ?_
      rw [List.length_append, List.length_flatten]
      have h1 : ∀ (L : List (List Int)), (∀ l ∈ L, l.length ≤ 12) → (L.map List.length).sum ≤ 12 * L.length := by
        intro L
        induction L with
        | nil => intro _; simp
        | cons l L ih => intro h; have := h l List.mem_cons_self; have := ih fun x hx => h x (List.mem_cons_of_mem _ hx); simp only [List.map_cons, List.sum_cons, List.length_cons]; omega
      have h2 := h1 ((minSets d x).take k) fun l hl => (min_mem_len (List.mem_of_mem_take hl)).1
      have h3 := List.length_take_le k (minSets d x)
      have h4 := List.length_take_le j lh
      have h5 := List.length_take_le' k (minSets d x)
      have h6 := List.length_take_le' j lh
      omega
    refine cD (fun hltj => ?_) (fun hgej => ?_)
    · have hltj : j < nh := by omega
      have kk : Kept (fun b => b ≠ gm) w7 z := ku.trans kz
      have xz : Ext w5 z := x57.then kk fun b hb _ => by omega
      have B9 := B9.kept kk (by omega)
      obtain ⟨b', o', cs, i, rfl, hi, -, -, hc', rfl, -⟩ := (show SlR tInt (fun _ => True) z Ah nh lh from (hI.ext xz).rdT).at_ hltj
      have htj : lh.take (j + 1) = lh.take j ++ [i] := by rw [List.take_add_one, hi]; rfl
      have hcn := hcnt i
      refine idx j rfl hltj ?_
      refine ld (iv i) (hc' 0 _ rfl) ?_
      refine ld (.map (some gm)) (B9.cell rfl) ?_
      refine look1 (f := F2) (iv ((((((minSets d x).take k).flatten ++ lh.take j).count i : Nat)) : Int)) (fun y hy => by subst hy; exact MF2) (hF2 i) ?_
      refine arI (by omega) ?_
      refine mupd MF2 (fun z2 M2 k2 zz2 => ?_)
      have M2 : MapFn .i64 z2 gm (fset F2 i (iv ((((((minSets d x).take k).flatten ++ lh.take j).count i : Nat) : Int) + 1))) := M2
      refine arI (by omega) ?_
      refine next (j + 1) ⟨by rw [Int.natCast_add]; rfl, trivial⟩ ⟨by omega, kz.trans k2, _, M2, fun i' => ?_⟩ (by omega)
      unfold fset
      have key : ∀ i', (((minSets d x).take k).flatten ++ lh.take j ++ [i]).count i' = (((minSets d x).take k).flatten ++ lh.take j).count i' + [i].count i' := fun _ => List.count_append
      rw [htj, ← List.append_assoc, key]
      by_cases hii : i' = i
      · rw [if_pos hii, hii, show List.count i [i] = 1 by simp]; rfl
      · rw [if_neg hii, hF2 i', show List.count i' [i] = 0 from List.count_eq_zero.2 (by simpa using hii)]; rfl
    · refine arI (by omega) ?_
      have etk : lh.take j = lh := List.take_of_length_le (by omega)
      refine next (k + 1) ⟨by rw [Int.natCast_add]; rfl, trivial⟩ ⟨by omega, ku.trans kz, F2, MF2, fun i => by rw [hF2, htk, etk]⟩ (by omega)
  · have hF : ∀ i, (F i).getD (iv 0) = iv ((cntS (minSets d x) i : Nat) : Int) := fun i => by
      rw [hF, List.take_of_length_le (by omega), count_nodup fun l hl => min_nodup hl]
    have Bx := Bx.kept ku (by omega)
    have Bf := Bf.kept ku (by omega)
    have B8 := B8.kept ku (by omega)
    have B9 := B9.kept ku (by omega)
    refine fldA ?_
    refine ld (.slice S1 m2 e2) (Bx.cell rfl) ?_
    refine len ?_
    refine loop4 (fun (k : Nat) (B : Option Addr) (m e : Nat) => [(46, iv (k : Int)), (6, .slice B m e)]) (fun k B m e z => k ≤ m2 ∧ m ≤ k ∧ OwnF u z B m e 3 1 (((List.range k).map fun i : Nat => (i : Int)).map fun k => .int .i64 k)) (fun k _ _ _ _ => m2 - k) 0 none 0 0 ⟨rfl, rfl, trivial⟩ ⟨by omega, Nat.le_refl _, OwnF.nil (.refl _ _)⟩ rfl ?_
    rintro G2 k2 B m e' z ⟨hk2, hm, oz⟩
    refine cD (fun hltk => ?_) (fun hgek => ?_)
    · have hltk : k2 < m2 := by omega
      refine lit [iv (k2 : Int)] (fun gg u1 hq1 => ?_)
      refine appF (oz.then hq1.ext) (hq1.src (sz := 1) rfl) (by omega) (fun B' e2' u2 q2 kk hA => ?_)
      refine arI (by omega) ?_
      refine next4 (k2 + 1) B' (m + 1) e2' ⟨by rw [Int.natCast_add]; rfl, rfl, trivial⟩ ⟨by omega, by omega, ?_⟩ (by omega)
      rw [List.range_succ, List.map_append, List.map_append]
      exact q2
    obtain rfl : k2 = m2 := by omega
    have zz := oz.ext
    have MF := MF.kept zz trivial
    have Bf := Bf.ext zz
    have B8 := B8.ext zz
    have B9 := B9.ext zz
    have hi12 : k2 ≤ 12 := by rw [← lsu]; exact hS
    have si := oz.ints (D := fun _ => True) (fun v hv => by obtain ⟨i, hi, rfl⟩ := List.mem_map.1 hv; have := List.mem_range.1 hi; unfold I64; omega) (by omega) fun _ _ => trivial
    refine call_of (c_chosenI (f := 43) (cv1 := ptr bf) (cv2 := ptr b9) (cv3 := ptr b8) (fun i => q (cntS (minSets d x) i) (minSets d x).length) si (by omega) (fun u' i xu' hi => ?_)) ?_
    · refine fn_rule (args := [iv i, ptr bf, ptr b9, ptr b8]) Try.func43 (by kernel_rfl) ?_
      refine ld (.func (.func f) #[] #[]) ((Bf.ext xu').cell rfl) ?_
      refine ld (.map (some gm)) ((B9.ext xu').cell rfl) ?_
      refine look1 (f := F) (iv ((cntS (minSets d x) i : Nat) : Int)) (fun y hy => by subst hy; exact MF.kept xu' trivial) (hF i) ?_
      refine ld (.slice A n c) ((B8.ext xu').cell rfl) ?_
      refine len ?_
      refine call_of (hq u' (cntS (minSets d x) i) n) ?_
      rintro _ _ ⟨rfl, rfl⟩
      exact ret1 (.bool _) rfl ⟨by rw [hml2], rfl⟩
    rintro _ w8 ⟨A', n', c', rfl, o', hn'⟩
    have xe : Ext w z := (x05.trans (x57.then ku fun b hb _ => by omega)).trans zz
    refine ret2 (.slice A' n' c') (iv 0) rfl rfl ⟨A', n', c', by rw [g], ?_⟩
    have := o'.base xe
    rw [List.filter_map] at this
    rw [lsu]
    exact this
theorem c_sNamed {csd csx : List Value} {d : Dist} {x : Ev} (hd : DiR D w csd d) (hx : EvR D w csx x) : CallZ Try.prog 8 #[.agg csd.toArray, .agg csx.toArray] w
    (fun v w' => ∃ A n c, v = .tuple #[.slice A n c, iv (evErr d x)] ∧ OwnF w w' A n c 3 1 ((namedV d x).map fun k => .int .i64 k)) := by
  obtain ⟨A1, n1, c1, A2, n2, c2, A3, n3, c3, A4, n4, c4, A5, n5, c5, A6, n6, c6, rfl, -⟩ := hd.ex
  obtain ⟨W1, m1, e1, S1, m2, e2, rfl, -⟩ := hx.ex
  refine fn_rule (args := [.agg #[.string d.name, iv d.hours, iv d.cap, iv d.start, .slice A1 n1 c1, .slice A2 n2 c2, .slice A3 n3 c3, .slice A4 n4 c4, .slice A5 n5 c5, .slice A6 n6 c6], .agg #[.slice W1 m1 e1, .slice S1 m2 e2]]) Try.func8 (by kernel_rfl) ?_
  refine box (fun bd w1 h1 => ?_)
  refine box (fun bx w2 h2 => ?_)
  have x2 := h1.ext.trans h2.ext
  have Bd : Blk w2 bd 31 [.string d.name, iv d.hours, iv d.cap, iv d.start, .slice A1 n1 c1, .slice A2 n2 c2, .slice A3 n3 c3, .slice A4 n4 c4, .slice A5 n5 c5, .slice A6 n6 c6] := h1.blk.ext h2.ext
  have Bx : Blk w2 bx 35 [.slice W1 m1 e1, .slice S1 m2 e2] := h2.blk
  refine ldA [.string d.name, iv d.hours, iv d.cap, iv d.start, .slice A1 n1 c1, .slice A2 n2 c2, .slice A3 n3 c3, .slice A4 n4 c4, .slice A5 n5 c5, .slice A6 n6 c6] (.blk Bd) rfl ?_
  refine ldA [.slice W1 m1 e1, .slice S1 m2 e2] (.blk Bx) rfl ?_
  refine call_of (c_scounted (f := 22) (fun a _ => decide (0 < a)) (hd.ext x2) (hx.ext x2) (fun u a b => ?_)) ?_
  · refine fn_rule (args := [iv (a : Int), iv (b : Int)]) Try.func22 (by kernel_rfl) ?_
    refine cD (fun h => ?_) (fun h => ?_)
    · exact ret1 (.bool true) rfl ⟨by rw [decide_eq_true (by omega)], rfl⟩
    · exact ret1 (.bool false) rfl ⟨by rw [decide_eq_false (by omega)], rfl⟩
  rintro _ w3 ⟨A, n, c, rfl, o⟩
  refine ret2 (.slice A n c) (iv (evErr d x)) rfl rfl ⟨A, n, c, rfl, ?_⟩
  have e : (if evErr d x = 0 then ((List.range x.suspects.length).filter fun i : Nat => decide (0 < cntS (minSets d x) i)).map fun i : Nat => (i : Int) else []) = namedV d x := by
    by_cases h : evErr d x = 0
    · rw [if_pos h]; rfl
    · rw [if_neg h]
      unfold namedV
      rw [minSets_err h]
      rw [List.filter_eq_nil_iff.2 fun i _ => by simp [cntS]]; rfl
  rw [e] at o
  exact o.base x2
theorem c_sNeeded {csd csx : List Value} {d : Dist} {x : Ev} (hd : DiR D w csd d) (hx : EvR D w csx x) : CallZ Try.prog 14 #[.agg csd.toArray, .agg csx.toArray] w
    (fun v w' => ∃ A n c, v = .tuple #[.slice A n c, iv (evErr d x)] ∧ OwnF w w' A n c 3 1 ((neededV d x).map fun k => .int .i64 k)) := by
  obtain ⟨A1, n1, c1, A2, n2, c2, A3, n3, c3, A4, n4, c4, A5, n5, c5, A6, n6, c6, rfl, -⟩ := hd.ex
  obtain ⟨W1, m1, e1, S1, m2, e2, rfl, -⟩ := hx.ex
  refine fn_rule (args := [.agg #[.string d.name, iv d.hours, iv d.cap, iv d.start, .slice A1 n1 c1, .slice A2 n2 c2, .slice A3 n3 c3, .slice A4 n4 c4, .slice A5 n5 c5, .slice A6 n6 c6], .agg #[.slice W1 m1 e1, .slice S1 m2 e2]]) Try.func14 (by kernel_rfl) ?_
  refine box (fun bd w1 h1 => ?_)
  refine box (fun bx w2 h2 => ?_)
  have x2 := h1.ext.trans h2.ext
  have Bd : Blk w2 bd 31 [.string d.name, iv d.hours, iv d.cap, iv d.start, .slice A1 n1 c1, .slice A2 n2 c2, .slice A3 n3 c3, .slice A4 n4 c4, .slice A5 n5 c5, .slice A6 n6 c6] := h1.blk.ext h2.ext
  have Bx : Blk w2 bx 35 [.slice W1 m1 e1, .slice S1 m2 e2] := h2.blk
  refine ldA [.string d.name, iv d.hours, iv d.cap, iv d.start, .slice A1 n1 c1, .slice A2 n2 c2, .slice A3 n3 c3, .slice A4 n4 c4, .slice A5 n5 c5, .slice A6 n6 c6] (.blk Bd) rfl ?_
  refine ldA [.slice W1 m1 e1, .slice S1 m2 e2] (.blk Bx) rfl ?_
  refine call_of (c_scounted (f := 31) (fun a b => decide (0 < a) && decide (a = b)) (hd.ext x2) (hx.ext x2) (fun u a b => ?_)) ?_
  · refine fn_rule (args := [iv (a : Int), iv (b : Int)]) Try.func31 (by kernel_rfl) ?_
    refine cD (fun h => ?_) (fun h => ?_)
    · refine cE (fun h2 => ?_) (fun h2 => ?_)
      · exact ret1 (.bool true) rfl ⟨by rw [decide_eq_true (by omega), decide_eq_true (by omega)]; rfl, rfl⟩
      · exact ret1 (.bool false) rfl ⟨by rw [decide_eq_true (by omega), decide_eq_false (by omega)]; rfl, rfl⟩
    · exact ret1 (.bool false) rfl ⟨by rw [decide_eq_false (by omega)]; rfl, rfl⟩
  rintro _ w3 ⟨A, n, c, rfl, o⟩
  refine ret2 (.slice A n c) (iv (evErr d x)) rfl rfl ⟨A, n, c, rfl, ?_⟩
  have e : (if evErr d x = 0 then ((List.range x.suspects.length).filter fun i : Nat => decide (0 < cntS (minSets d x) i) && decide (cntS (minSets d x) i = (minSets d x).length)).map fun i : Nat => (i : Int) else []) = neededV d x := by
    by_cases h : evErr d x = 0
    · rw [if_pos h]; rfl
    · rw [if_neg h]
      unfold neededV
      rw [minSets_err h]
      rw [List.filter_eq_nil_iff.2 fun i _ => by simp [cntS]]; rfl
  rw [e] at o
  exact o.base x2
end
end Go.Proofs.Ytcpdhclnmjfldaa

/- Layer 49: the laws' examples. -/
namespace Go.Proofs.Ytcpdhclnmjfldaa
open Go Go.RowKit

def cD49 : Dist := ⟨ByteArray.empty, 4, 0, 0, [⟨ByteArray.empty, -1, 1, 50, 50, 0, ⟨0, 0⟩, ⟨0, 1⟩, ⟨0, 1⟩⟩], [⟨ByteArray.empty, 0, 0, -1⟩], [], [], [], []⟩
def mX49 : Ev := ⟨[⟨0, [⟨10, 10⟩], [⟨4, 4⟩], [⟨3, 3⟩]⟩], [⟨1, 0, 20⟩, ⟨2, 0, 6⟩, ⟨4, 0, 2⟩]⟩
def nX49 : Ev := ⟨[], []⟩
theorem sv0 : evErr cD49 mX49 = 0 := by kernel_rfl
theorem sv1 : minSets cD49 mX49 = [[0], [1, 2]] := by kernel_rfl
theorem sv2 : smallV 3 (minSets cD49 mX49) = [[0]] := by kernel_rfl
theorem sv3 : namedV cD49 mX49 = [0, 1, 2] := by kernel_rfl
theorem sv4 : neededV cD49 mX49 = [] := by kernel_rfl
theorem sv5 : blameV cD49 mX49 2 = some [1, 2] := by kernel_rfl
theorem sv6 : minSets cD49 nX49 = [[]] := by kernel_rfl
theorem sv7 : evErr cD49 nX49 = 0 := by kernel_rfl
section
variable {w : World}
set_option maxRecDepth 4000 in
theorem c_scanal : CallZ Try.prog 11 #[] w (fun v w' => Ext w w' ∧ ∃ csd, v = .agg csd.toArray ∧ DiR (fun b => w.heap.size ≤ b) w' csd cD49) := by
  refine fn_rule (args := []) Try.func11 (by kernel_rfl) ?_
  refine alloc (fun q1 w1 h1 => ?_)
  refine bld [iv 0, iv 1] (by kernel_rfl) ?_
  refine bld [iv 0, iv 1] (by kernel_rfl) ?_
  refine bld [iv 0, iv 1, iv 0, iv 1] (by kernel_rfl) ?_
  refine bld [.string ByteArray.empty, iv (-1), iv 1, iv 50, iv 50, iv 0, iv 0, iv 0, iv 0, iv 1, iv 0, iv 1] (by kernel_rfl) ?_
  refine alloc (fun q2 w2 h2 => ?_)
  refine stA (vs := [.string ByteArray.empty, iv (-1), iv 1, iv 50, iv 50, iv 0, iv 0, iv 0, iv 0, iv 1, iv 0, iv 1]) h2.blk rfl (Nat.le_of_ble_eq_true rfl) (by simp [Value.oneCell']) (fun w3 b3 k3 s3 => ?_)
  have y1 := h1.at_
  have y2 := h2.at_
  have z1 := h1.size
  have z2 := h2.size
  have m3 : Blk w3 q2 _ [.string ByteArray.empty, iv (-1), iv 1, iv 50, iv 50, iv 0, iv 0, iv 0, iv 0, iv 1, iv 0, iv 1] := b3
  refine ldA [.string ByteArray.empty, iv (-1), iv 1, iv 50, iv 50, iv 0, iv 0, iv 0, iv 0, iv 1, iv 0, iv 1] (CellsAt.blk m3) rfl ?_
  refine lit [.agg #[.string ByteArray.empty, iv (-1), iv 1, iv 50, iv 50, iv 0, iv 0, iv 0, iv 0, iv 1, iv 0, iv 1]] (fun q4 w4 h4 => ?_)
  refine bld [.string ByteArray.empty, iv 0, iv 0, iv (-1)] (by kernel_rfl) ?_
  refine lit [.agg #[.string ByteArray.empty, iv 0, iv 0, iv (-1)]] (fun q5 w5 h5 => ?_)
  refine bld [.string ByteArray.empty, iv 4, iv 0, iv 0, .slice (some (ad q4 0)) 1 1, .slice (some (ad q5 0)) 1 1, .slice none 0 0, .slice none 0 0, .slice none 0 0, .slice none 0 0] (by kernel_rfl) ?_
  have y4 := h4.at_
  have z4 := h4.size
  have y5 := h5.at_
  have z5 := h5.size
  have e15 : Kept (fun b => b ≠ q2) w1 w5 := (((Ext.any h2.ext).then k3 fun b _ h => h).then h4.ext fun _ _ _ => trivial).then h5.ext fun _ _ _ => trivial
  refine stA (vs := [.string ByteArray.empty, iv 4, iv 0, iv 0, .slice (some (ad q4 0)) 1 1, .slice (some (ad q5 0)) 1 1, .slice none 0 0, .slice none 0 0, .slice none 0 0, .slice none 0 0]) (h1.blk.kept e15 (by omega)) rfl (Nat.le_of_ble_eq_true rfl) (by simp [Value.oneCell']) (fun w6 b6 k6 s6 => ?_)
  have m1 : Blk w6 q1 _ [.string ByteArray.empty, iv 4, iv 0, iv 0, .slice (some (ad q4 0)) 1 1, .slice (some (ad q5 0)) 1 1, .slice none 0 0, .slice none 0 0, .slice none 0 0, .slice none 0 0] := b6
  refine ret ?_
  refine resL _ (holds_agg (CellsAt.blk m1) rfl) ?_
  refine ⟨(h1.ext.then e15 fun b hb _ => by omega).then k6 fun b hb _ => by omega, _, rfl, DiR.of_ ⟨_, _, _, _, _, _, _, _, _, _, _, _, _, _, _, _, _, _, rfl, ?_, ?_, SlR.nil, SlR.nil, SlR.nil, SlR.nil⟩⟩
  · exact SlR.of_cells rfl (by decide) (by omega) (.blk ((h4.blk.ext h5.ext).kept k6 (by omega))) ⟨_, _, rfl, rfl, rfl⟩
  · exact SlR.of_cells rfl (by decide) (by omega) (.blk (h5.blk.kept k6 (by omega))) ⟨_, _, rfl, rfl, rfl⟩
theorem c_sexactly {n : Int} : CallZ Try.prog 28 #[iv n] w (fun v w' => ∃ g, v = .slice (some (ad g 0)) 1 1 ∧ Ext w w' ∧ w.heap.size ≤ g ∧ SlR tRg (fun b => w.heap.size ≤ b) w' (some (ad g 0)) 1 [⟨n, n⟩]) := by
  refine fn_rule (args := [iv n]) Try.func28 (by kernel_rfl) ?_
  refine bld [iv n, iv n] (by kernel_rfl) ?_
  refine lit [.agg #[iv n, iv n]] (fun g w1 h1 => ?_)
  have a1 := h1.at_
  exact ret1 (.slice (some (ad g 0)) 1 1) rfl ⟨g, rfl, h1.ext, by omega, SlR.of_cells rfl (by decide) (by omega) (.blk h1.blk) ⟨_, _, rfl, rfl, rfl⟩⟩
set_option maxRecDepth 4000 in
theorem c_smissing : CallZ Try.prog 12 #[] w (fun v w' => Ext w w' ∧ ∃ csx, v = .agg csx.toArray ∧ EvR (fun b => w.heap.size ≤ b) w' csx mX49) := by
  refine fn_rule (args := []) Try.func12 (by kernel_rfl) ?_
  refine alloc (fun q1 w1 h1 => ?_)
  refine call_of c_sexactly ?_
  rintro _ w2 ⟨g2, rfl, x2, hg2, s2⟩
  refine call_of c_sexactly ?_
  rintro _ w3 ⟨g3, rfl, x3, hg3, s3⟩
  refine call_of c_sexactly ?_
  rintro _ w4 ⟨g4, rfl, x4, hg4, s4⟩
  have y1 := h1.at_
  have z1 := h1.size
  have z2 := x2.size
  have z3 := x3.size
  have z4 := x4.size
  refine bld [iv 0, .slice (some (ad g2 0)) 1 1, .slice (some (ad g3 0)) 1 1, .slice (some (ad g4 0)) 1 1] (by kernel_rfl) ?_
  refine alloc (fun q5 w5 h5 => ?_)
  refine stA (vs := [iv 0, .slice (some (ad g2 0)) 1 1, .slice (some (ad g3 0)) 1 1, .slice (some (ad g4 0)) 1 1]) h5.blk rfl (Nat.le_of_ble_eq_true rfl) (by simp [Value.oneCell']) (fun w6 b6 k6 s6 => ?_)
  have y5 := h5.at_
  have z5 := h5.size
  have m6 : Blk w6 q5 _ [iv 0, .slice (some (ad g2 0)) 1 1, .slice (some (ad g3 0)) 1 1, .slice (some (ad g4 0)) 1 1] := b6
  refine ldA [iv 0, .slice (some (ad g2 0)) 1 1, .slice (some (ad g3 0)) 1 1, .slice (some (ad g4 0)) 1 1] (CellsAt.blk m6) rfl ?_
  refine lit [.agg #[iv 0, .slice (some (ad g2 0)) 1 1, .slice (some (ad g3 0)) 1 1, .slice (some (ad g4 0)) 1 1]] (fun q7 w7 h7 => ?_)
  refine bld [iv 1, iv 0, iv 20] (by kernel_rfl) ?_
  refine bld [iv 2, iv 0, iv 6] (by kernel_rfl) ?_
  refine bld [iv 4, iv 0, iv 2] (by kernel_rfl) ?_
  refine lit [.agg #[iv 1, iv 0, iv 20], .agg #[iv 2, iv 0, iv 6], .agg #[iv 4, iv 0, iv 2]] (fun q8 w8 h8 => ?_)
  refine bld [.slice (some (ad q7 0)) 1 1, .slice (some (ad q8 0)) 3 3] (by kernel_rfl) ?_
  have y7 := h7.at_
  have z7 := h7.size
  have y8 := h8.at_
  have z8 := h8.size
  have x46 : Ext w4 w6 := h5.ext.then k6 fun b hb _ => by omega
  have x48 : Ext w4 w8 := x46.trans (h7.ext.trans h8.ext)
  have x18 : Ext w1 w8 := ((x2.trans x3).trans x4).trans x48
  refine stA (vs := [.slice (some (ad q7 0)) 1 1, .slice (some (ad q8 0)) 3 3]) (h1.blk.ext x18) rfl (Nat.le_of_ble_eq_true rfl) (by simp [Value.oneCell']) (fun w9 b9 k9 s9 => ?_)
  have m1 : Blk w9 q1 _ [.slice (some (ad q7 0)) 1 1, .slice (some (ad q8 0)) 3 3] := b9
  refine ret ?_
  refine resL _ (holds_agg (CellsAt.blk m1) rfl) ?_
  have D' : ∀ {g : Nat} {l : List Rg} {u : World} (_ : w1.heap.size ≤ u.heap.size), SlR tRg (fun b => u.heap.size ≤ b) w8 (some (ad g 0)) 1 l → SlR tRg (fun b => w.heap.size ≤ b) w9 (some (ad g 0)) 1 l := fun hu h =>
    ((h.more (D' := fun b => w.heap.size ≤ b ∧ b ≠ q1) (by decide) fun b hb hD => ⟨by omega, by omega⟩).kept k9 fun b _ h => h.2).more (by decide) fun b _ h => h.1
  refine ⟨(h1.ext.trans x18).then k9 fun b hb _ => by omega, _, rfl, EvR.of_ ⟨_, _, _, _, _, _, rfl, ?_, ?_, Nat.le_refl _, Nat.le_refl _⟩⟩
  · exact SlR.of_cells rfl (by decide) (by omega) (.blk ((h7.blk.ext h8.ext).kept k9 (by omega))) ⟨[iv 0, .slice (some (ad g2 0)) 1 1, .slice (some (ad g3 0)) 1 1, .slice (some (ad g4 0)) 1 1], [], rfl, ⟨[iv 0], _, rfl, ⟨rfl, by unfold I64; decide⟩, _, _, rfl, ⟨_, _, _, rfl, D' (Nat.le_refl _) (((s2.ext x3).ext x4).ext x48), Nat.le_refl _⟩, _, _, rfl, ⟨_, _, _, rfl, D' (by omega) ((s3.ext x4).ext x48), Nat.le_refl _⟩, _, _, _, rfl, D' (by omega) (s4.ext x48), Nat.le_refl _⟩, rfl⟩
  · exact SlR.of_cells rfl (by decide) (by omega) (.blk (h8.blk.kept k9 (by omega))) ⟨_, _, rfl, rfl, _, _, rfl, rfl, _, _, rfl, rfl, rfl⟩
theorem c_r49Few {D : Nat → Prop} {csd csx : List Value} {d : Dist} {x : Ev} (hd : DiR D w csd d) (hx : EvR D w csx x) : CallZ Try.prog 6 #[.agg csd.toArray, .agg csx.toArray] w (fun v w' => ∃ b, v = .bool b ∧ Ext w w') := by
  obtain ⟨A1, n1, c1, A2, n2, c2, A3, n3, c3, A4, n4, c4, A5, n5, c5, A6, n6, c6, rfl, -⟩ := hd.ex
  obtain ⟨W1, m1, e1, S1, m2, e2, rfl, -⟩ := hx.ex
  refine fn_rule (args := [.agg #[.string d.name, iv d.hours, iv d.cap, iv d.start, .slice A1 n1 c1, .slice A2 n2 c2, .slice A3 n3 c3, .slice A4 n4 c4, .slice A5 n5 c5, .slice A6 n6 c6], .agg #[.slice W1 m1 e1, .slice S1 m2 e2]]) Try.func6 (by kernel_rfl) ?_
  refine box (fun bd w1 h1 => ?_)
  refine box (fun bx w2 h2 => ?_)
  have x2 := h1.ext.trans h2.ext
  refine ldA [.string d.name, iv d.hours, iv d.cap, iv d.start, .slice A1 n1 c1, .slice A2 n2 c2, .slice A3 n3 c3, .slice A4 n4 c4, .slice A5 n5 c5, .slice A6 n6 c6] (.blk (h1.blk.ext h2.ext)) rfl ?_
  refine ldA [.slice W1 m1 e1, .slice S1 m2 e2] (.blk h2.blk) rfl ?_
  refine call_of (c_r48Few (hd.ext x2) (hx.ext x2)) ?_
  rintro _ w3 ⟨b, rfl, x3⟩
  exact ret1 (.bool b) rfl ⟨b, rfl, x2.trans x3⟩
end
end Go.Proofs.Ytcpdhclnmjfldaa

/- Layer 49: the laws' sanity check. -/
namespace Go.Proofs.Ytcpdhclnmjfldaa
open Go Go.RowKit

section
variable {w : World}
theorem OwnL.at_ {w0 u : World} {A : Option Addr} {n c : Nat} {s : List Hd} {ls : List (List Int)} (h : OwnL w0 u A n c s) (hs : s.map (·.l) = ls) {k : Nat} {l : List Int} (hl : ls[k]? = some l) : ∃ g B m e, A = some (ad g 0) ∧ k < n ∧ u.cell? (ad g (0 + k * 1)) = some (.slice B m e) ∧ SlR tInt (fun _ => True) u B m l := by
  have hn := h.len
  have hk : k < ls.length := (List.getElem?_eq_some_iff.1 hl).1
  rw [← hs, List.length_map] at hk
  obtain ⟨g, hd, hA, hhd, hc, hI⟩ := h.cell (show k < n by omega)
  have : hd.l = l := by
    rw [← hs, List.getElem?_map, hhd] at hl
    injection hl
  exact ⟨g, hd.A, hd.n, hd.c, hA, by omega, hc, this ▸ hI.rdT⟩
theorem OwnL.cnt {w0 u : World} {A : Option Addr} {n c : Nat} {s : List Hd} {ls : List (List Int)} (h : OwnL w0 u A n c s) (hs : s.map (·.l) = ls) : n = ls.length := by rw [← hs, List.length_map]; exact h.len
theorem SlR.one {D : Nat → Prop} {u : World} {B : Option Addr} {m : Nat} {l : List Int} (h : SlR tInt D u B m l) {k : Nat} {x : Int} (hx : l[k]? = some x) : ∃ b o, B = some (ad b o) ∧ k < m ∧ u.cell? (ad b (o + k * 1)) = some (iv x) := by
  obtain ⟨b, o, cs, h1, -, h3, rfl, -⟩ := h.2.2 k x hx
  have := (List.getElem?_eq_some_iff.1 hx).1
  exact ⟨b, o, h1, by rw [h.1]; exact this, h3 0 _ rfl⟩
set_option maxRecDepth 8000 in
theorem c_ssane : CallZ Try.prog 5 #[] w (fun v w' => v = .bool true ∧ Ext w w') := by
  refine fn_rule (args := []) Try.func5 (by kernel_rfl) ?_
  refine call_of c_scanal ?_
  rintro _ w1 ⟨x1, csd, rfl, hd⟩
  refine call_of c_smissing ?_
  rintro _ w2 ⟨x2, csx, rfl, hx⟩
  have hd := (hd.ext x2).more (D' := fun _ => True) fun _ _ _ => trivial
  have hx := hx.more (D' := fun _ => True) fun _ _ _ => trivial
  obtain ⟨A1, n1, c1, A2, n2, c2, A3, n3, c3, A4, n4, c4, A5, n5, c5, A6, n6, c6, rfl, -⟩ := hd.ex
  obtain ⟨W1, m1, e1, S1, m2, e2, rfl, -⟩ := hx.ex
  refine alloc (fun b1 w3 h3 => ?_)
  refine alloc (fun b2 w4 h4 => ?_)
  have a3 := h3.at_
  have a4 := h4.at_
  have z3 := h3.size
  have z4 := h4.size
  refine stA (vs := [.string cD49.name, iv cD49.hours, iv cD49.cap, iv cD49.start, .slice A1 n1 c1, .slice A2 n2 c2, .slice A3 n3 c3, .slice A4 n4 c4, .slice A5 n5 c5, .slice A6 n6 c6]) (h3.blk.ext h4.ext) rfl (Nat.le_of_ble_eq_true rfl) (by simp [Value.oneCell']) (fun w5 Bd k5 s5 => ?_)
  refine stA (vs := [.slice W1 m1 e1, .slice S1 m2 e2]) (h4.blk.kept k5 (by omega)) rfl (Nat.le_of_ble_eq_true rfl) (by simp [Value.oneCell']) (fun w6 Bx k6 s6 => ?_)
  have Bd : Blk w6 b1 31 [.string cD49.name, iv cD49.hours, iv cD49.cap, iv cD49.start, .slice A1 n1 c1, .slice A2 n2 c2, .slice A3 n3 c3, .slice A4 n4 c4, .slice A5 n5 c5, .slice A6 n6 c6] := Blk.kept Bd k6 (by omega)
  have Bx : Blk w6 b2 35 [.slice W1 m1 e1, .slice S1 m2 e2] := Bx
  have x26 : Ext w2 w6 := ((h3.ext.trans h4.ext).then k5 fun b hb _ => by omega).then k6 fun b hb _ => by omega
  have X := (x1.trans x2).trans x26
  have hd := hd.ext x26
  have hx := hx.ext x26
  clear x1 x2 h3 h4 a3 a4 z3 z4 k5 k6 s5 s6 x26
  refine ldA [.string cD49.name, iv cD49.hours, iv cD49.cap, iv cD49.start, .slice A1 n1 c1, .slice A2 n2 c2, .slice A3 n3 c3, .slice A4 n4 c4, .slice A5 n5 c5, .slice A6 n6 c6] (.blk Bd) rfl ?_
  refine ldA [.slice W1 m1 e1, .slice S1 m2 e2] (.blk Bx) rfl ?_
  refine call_of (c_sMinimal hd hx) ?_
  rintro _ u1 ⟨LA, ln, lc, ls, rfl, ol, hl⟩
  rw [sv0]
  rw [sv1] at hl
  have y := ol.own.ext
  have X := X.trans y
  have hd := hd.ext y
  have hx := hx.ext y
  have Bd := Bd.ext y
  have Bx := Bx.ext y
  refine ldA [.string cD49.name, iv cD49.hours, iv cD49.cap, iv cD49.start, .slice A1 n1 c1, .slice A2 n2 c2, .slice A3 n3 c3, .slice A4 n4 c4, .slice A5 n5 c5, .slice A6 n6 c6] (.blk Bd) rfl ?_
  refine ldA [.slice W1 m1 e1, .slice S1 m2 e2] (.blk Bx) rfl ?_
  refine call_of (c_sSmallest hd hx) ?_
  rintro _ u2 ⟨FA, fn, fc, fs, rfl, of_, hf⟩
  rw [sv0]
  rw [show mX49.suspects.length = 3 from rfl, sv2] at hf
  have y := of_.own.ext
  have X := X.trans y
  have hd := hd.ext y
  have hx := hx.ext y
  have Bd := Bd.ext y
  have Bx := Bx.ext y
  have ol := ol.ext y
  refine ldA [.string cD49.name, iv cD49.hours, iv cD49.cap, iv cD49.start, .slice A1 n1 c1, .slice A2 n2 c2, .slice A3 n3 c3, .slice A4 n4 c4, .slice A5 n5 c5, .slice A6 n6 c6] (.blk Bd) rfl ?_
  refine ldA [.slice W1 m1 e1, .slice S1 m2 e2] (.blk Bx) rfl ?_
  refine call_of (c_sNamed hd hx) ?_
  rintro _ u3 ⟨NA, nn, nc, rfl, on⟩
  rw [sv0]
  rw [sv3] at on
  have y := on.ext
  have X := X.trans y
  have hd := hd.ext y
  have hx := hx.ext y
  have Bd := Bd.ext y
  have Bx := Bx.ext y
  have ol := ol.ext y
  have of_ := of_.ext y
  refine ldA [.string cD49.name, iv cD49.hours, iv cD49.cap, iv cD49.start, .slice A1 n1 c1, .slice A2 n2 c2, .slice A3 n3 c3, .slice A4 n4 c4, .slice A5 n5 c5, .slice A6 n6 c6] (.blk Bd) rfl ?_
  refine ldA [.slice W1 m1 e1, .slice S1 m2 e2] (.blk Bx) rfl ?_
  refine call_of (c_sNeeded hd hx) ?_
  rintro _ u4 ⟨MA, mn, mc, rfl, om⟩
  rw [sv0]
  rw [sv4] at om
  have y := om.ext
  have X := X.trans y
  have hd := hd.ext y
  have hx := hx.ext y
  have Bd := Bd.ext y
  have Bx := Bx.ext y
  have ol := ol.ext y
  have of_ := of_.ext y
  refine ldA [.string cD49.name, iv cD49.hours, iv cD49.cap, iv cD49.start, .slice A1 n1 c1, .slice A2 n2 c2, .slice A3 n3 c3, .slice A4 n4 c4, .slice A5 n5 c5, .slice A6 n6 c6] (.blk Bd) rfl ?_
  refine ldA [.slice W1 m1 e1, .slice S1 m2 e2] (.blk Bx) rfl ?_
  refine call_of (c_sBlame (k := 2) hd hx) ?_
  rintro _ u5 ⟨BA, bn, bc, rfl, y, ob⟩
  rw [show mX49.suspects.length = 3 from rfl, if_pos (by decide), sv5] at ob
  rw [sv0, show mX49.suspects.length = 3 from rfl, if_pos (by decide), if_neg (by simp), if_pos (by decide), sv5]
  have ob : SlR tInt (fun _ => True) u5 BA bn [1, 2] := ob.more (by decide) fun _ _ _ => trivial
  have X := X.trans y
  have hd := hd.ext y
  have hx := hx.ext y
  have Bd := Bd.ext y
  have Bx := Bx.ext y
  have ol := ol.ext y
  have of_ := of_.ext y
  refine ldA [.string cD49.name, iv cD49.hours, iv cD49.cap, iv cD49.start, .slice A1 n1 c1, .slice A2 n2 c2, .slice A3 n3 c3, .slice A4 n4 c4, .slice A5 n5 c5, .slice A6 n6 c6] (.blk Bd) rfl ?_
  refine ldA [.slice W1 m1 e1, .slice S1 m2 e2] (.blk Bx) rfl ?_
  refine call_of (c_sBlame (k := 3) hd hx) ?_
  rintro _ u6 ⟨BA', bn', bc', rfl, y, -⟩
  rw [sv0, show mX49.suspects.length = 3 from rfl, if_neg (by decide), if_neg (by simp), if_neg (by decide)]
  have X := X.trans y
  have hd := hd.ext y
  have Bd := Bd.ext y
  have ol := ol.ext y
  have of_ := of_.ext y
  have ob := ob.ext y
  refine ldA [.string cD49.name, iv cD49.hours, iv cD49.cap, iv cD49.start, .slice A1 n1 c1, .slice A2 n2 c2, .slice A3 n3 c3, .slice A4 n4 c4, .slice A5 n5 c5, .slice A6 n6 c6] (.blk Bd) rfl ?_
  refine bld [.slice none 0 0, .slice none 0 0] (by kernel_rfl) ?_
  refine call_of (c_sMinimal (x := nX49) (D := fun _ => True) (csx := [.slice none 0 0, .slice none 0 0]) hd (EvR.of_ ⟨_, _, _, _, _, _, rfl, .nil, .nil, Nat.le_refl _, Nat.le_refl _⟩)) ?_
  rintro _ u7 ⟨OA, on', oc, os, rfl, oo, ho⟩
  rw [sv7]
  rw [sv6] at ho
  have y := oo.own.ext
  have X := X.trans y
  have ol := ol.ext y
  have of_ := of_.ext y
  have ob := ob.ext y
  have hln := ol.cnt hl
  have hfn := of_.cnt hf
  have hon := oo.cnt ho
  have hnn := on.own.len
  have hmn := om.own.len
  have hbn := ob.len
  refine cN (fun h => absurd rfl h) (fun _ => ?_)
  refine cN (fun h => absurd rfl h) (fun _ => ?_)
  refine cN (fun h => absurd rfl h) (fun _ => ?_)
  refine cN (fun h => absurd rfl h) (fun _ => ?_)
  refine cN (fun h => absurd rfl h) (fun _ => ?_)
  refine cN (fun h => absurd rfl h) (fun _ => ?_)
  refine cN (fun h => absurd rfl h) (fun _ => ?_)
  have hnn : 3 = nn * 1 := hnn
  have hmn : 0 = mn * 1 := hmn
  have hln : ln = 2 := hln
  have hfn : fn = 1 := hfn
  have hon : on' = 1 := hon
  have hbn : 2 = bn := hbn
  obtain ⟨g0, B0, m0, e0, rfl, -, hc0, r0⟩ := ol.at_ hl (k := 0) (l := [0]) rfl
  obtain ⟨g0', B1, m1', e1', hg, -, hc1, r1⟩ := ol.at_ hl (k := 1) (l := [1, 2]) rfl
  obtain rfl : g0 = g0' := by injection hg with hg; injection hg
  obtain ⟨gf, Bf, mf, ef, rfl, -, hcf, rf⟩ := of_.at_ hf (k := 0) (l := [0]) rfl
  obtain ⟨go, Bo, mo, eo, rfl, -, hco, ro⟩ := oo.at_ ho (k := 0) (l := []) rfl
  have l0 := r0.len
  have l1 := r1.len
  have lo := ro.len
  have l0 : 1 = m0 := l0
  have l1 : 2 = m1' := l1
  have lo : 0 = mo := lo
  obtain ⟨_, _, rfl, -, v0⟩ := r0.one (k := 0) (x := 0) rfl
  obtain ⟨p1, q1, rfl, -, v1⟩ := r1.one (k := 0) (x := 1) rfl
  obtain ⟨p1', q1', hg, -, v2⟩ := r1.one (k := 1) (x := 2) rfl
  obtain ⟨rfl, rfl⟩ : p1 = p1' ∧ q1 = q1' := by injection hg with hg; injection hg with h1 h2; exact ⟨h1, h2⟩
  obtain ⟨_, _, rfl, -, v3⟩ := rf.one (k := 0) (x := 0) rfl
  obtain ⟨pb, qb, rfl, -, v4⟩ := ob.one (k := 0) (x := 1) rfl
  obtain ⟨pb', qb', hg, -, v5⟩ := ob.one (k := 1) (x := 2) rfl
  obtain ⟨rfl, rfl⟩ : pb = pb' ∧ qb = qb' := by injection hg with hg; injection hg with h1 h2; exact ⟨h1, h2⟩
  have lf : 1 = mf := rf.len
  refine len ?_
  refine cN (fun h => absurd (by omega) h) (fun _ => ?_)
  refine len ?_
  refine cN (fun h => absurd (by omega) h) (fun _ => ?_)
  refine len ?_
  refine cN (fun h => absurd (by omega) h) (fun _ => ?_)
  refine len ?_
  refine cN (fun h => absurd (by omega) h) (fun _ => ?_)
  refine len ?_
  refine cN (fun h => absurd (by omega) h) (fun _ => ?_)
  refine len ?_
  refine cN (fun h => absurd (by omega) h) (fun _ => ?_)
  refine idx 0 rfl (by omega) ?_
  refine ld _ hco ?_
  refine len ?_
  refine cN (fun h => absurd (by omega) h) (fun _ => ?_)
  refine idx 0 rfl (by omega) ?_
  refine ld _ hc0 ?_
  refine len ?_
  refine cE (fun _ => ?_) (fun h => absurd (by omega) h)
  refine idx 0 rfl (by omega) ?_
  refine ld _ hc0 ?_
  refine idx 0 rfl (by omega) ?_
  refine ld _ v0 ?_
  refine cE (fun _ => ?_) (fun h => absurd rfl h)
  refine idx 1 rfl (by omega) ?_
  refine ld _ hc1 ?_
  refine len ?_
  refine cE (fun _ => ?_) (fun h => absurd (by omega) h)
  refine idx 1 rfl (by omega) ?_
  refine ld _ hc1 ?_
  refine idx 0 rfl (by omega) ?_
  refine ld _ v1 ?_
  refine cE (fun _ => ?_) (fun h => absurd rfl h)
  refine idx 1 rfl (by omega) ?_
  refine ld _ hc1 ?_
  refine idx 1 rfl (by omega) ?_
  refine ld _ v2 ?_
  refine cE (fun _ => ?_) (fun h => absurd rfl h)
  refine idx 0 rfl (by omega) ?_
  refine ld _ hcf ?_
  refine idx 0 rfl (by omega) ?_
  refine ld _ v3 ?_
  refine cE (fun _ => ?_) (fun h => absurd rfl h)
  refine idx 0 rfl (by omega) ?_
  refine ld _ v4 ?_
  refine cE (fun _ => ?_) (fun h => absurd rfl h)
  refine idx 1 rfl (by omega) ?_
  refine ld _ v5 ?_
  refine cE (fun _ => ?_) (fun h => absurd rfl h)
  exact ret1 (.bool true) rfl ⟨rfl, X⟩
end
end Go.Proofs.Ytcpdhclnmjfldaa

/- Layer 49: the law SuspectsWider. -/
namespace Go.Proofs.Ytcpdhclnmjfldaa
open Go Go.RowKit

def widR (b : Int) (y : Rg) : Rg := ⟨max 0 (y.lo - b), min 1073741824 (max y.hi (y.hi + b))⟩
def mixL (b : Int) (k : Nat) (l : List Rg) : List Rg := (l.take k).map (widR b) ++ l.drop k
section
variable {b : Int} {k : Nat} {l : List Rg} {y : Rg}
theorem mix_zero : mixL b 0 l = l := rfl
theorem mix_len : (mixL b k l).length = l.length := by
  unfold mixL; rw [List.length_append, List.length_map, List.length_take, List.length_drop]; omega
theorem mix_at (h : l[k]? = some y) : (mixL b k l)[k]? = some y := by
  have hk := (List.getElem?_eq_some_iff.1 h).1
  unfold mixL
  rw [List.getElem?_append_right (by rw [List.length_map, List.length_take]; omega), List.length_map, List.length_take, show k - min k l.length = 0 by omega, List.getElem?_drop]
  exact h
theorem mix_succ (h : l[k]? = some y) : mixL b (k + 1) l = (mixL b k l).set k (widR b y) := by
  obtain ⟨hk, hy⟩ := List.getElem?_eq_some_iff.1 h
  unfold mixL
  have e : ((l.take k).map (widR b)).length = k := by rw [List.length_map, List.length_take]; omega
  rw [List.set_append_right _ _ (by omega), e, Nat.sub_self, List.drop_eq_getElem_cons hk, List.set_cons_zero, List.take_add_one, h, List.map_append, List.append_assoc]
  rfl
theorem mix_all (h : l.length ≤ k) : mixL b k l = l.map (widR b) := by unfold mixL; rw [List.take_of_length_le h, List.drop_eq_nil_of_le h, List.append_nil]
theorem flat_at {m : Nat} {u : Value} {r : List Value} (h : l[k]? = some y) (hu : y.c[m]? = some u) : (l.flatMap Rg.c ++ r)[k * 2 + m]? = some u := by
  have hm : m < 2 := (List.getElem?_eq_some_iff.1 hu).1
  induction l generalizing k with
  | nil => simp at h
  | cons a l ih =>
    rw [List.flatMap_cons, List.append_assoc]
    cases k with
    | zero =>
      rw [List.getElem?_cons_zero] at h; injection h with h; subst h
      rw [List.getElem?_append_left (by show 0 * 2 + m < 2; omega), Nat.zero_mul, Nat.zero_add]; exact hu
    | succ k =>
      rw [List.getElem?_cons_succ] at h
      rw [List.getElem?_append_right (by show 2 ≤ _; omega), show (k + 1) * 2 + m - a.c.length = k * 2 + m by show (k + 1) * 2 + m - 2 = _; omega]
      exact ih h
theorem flat_set (h : k < l.length) {r : List Value} : (l.flatMap Rg.c ++ r).take (k * 2) ++ y.c ++ (l.flatMap Rg.c ++ r).drop (k * 2 + 2) = (l.set k y).flatMap Rg.c ++ r := by
  induction l generalizing k with
  | nil => simp at h
  | cons a l ih =>
    cases k with
    | zero => rfl
    | succ k =>
      have := ih (k := k) (by simpa using h)
      rw [List.set_cons_succ, List.flatMap_cons, List.flatMap_cons, List.append_assoc a.c (List.flatMap Rg.c l) r, List.append_assoc a.c (List.flatMap Rg.c (l.set k y)) r, ← this, show (k + 1) * 2 = k * 2 + 1 + 1 by omega]
      rfl
theorem wider_map (hb : 0 ≤ b) (h : ∀ x ∈ l, 0 ≤ x.lo ∧ x.hi ≤ 1073741824) : WiderL l (l.map (widR b)) := by
  refine ⟨by rw [List.length_map], fun j hj => ?_⟩
  have hx := h _ (List.getElem_mem hj)
  rw [List.getD_eq_getElem?_getD, List.getD_eq_getElem?_getD, List.getElem?_map, List.getElem?_eq_getElem hj]
  show max 0 (l[j].lo - b) ≤ l[j].lo ∧ l[j].hi ≤ min 1073741824 (max l[j].hi (l[j].hi + b))
  omega
theorem rgsB_map {m : Nat} (hb : 0 ≤ b) (h : rgsB m l = true) : rgsB m (l.map (widR b)) = true := by
  unfold rgsB at h ⊢
  rw [Bool.and_eq_true, decide_eq_true_eq, List.all_eq_true] at h ⊢
  refine ⟨by rw [List.length_map]; exact h.1, fun x hx => ?_⟩
  obtain ⟨y, hy, rfl⟩ := List.mem_map.1 hx
  have := rgOk_iff.1 (h.2 y hy)
  rw [rgOk_iff]
  show 0 ≤ max 0 (y.lo - b) ∧ max 0 (y.lo - b) ≤ min 1073741824 (max y.hi (y.hi + b)) ∧ min 1073741824 (max y.hi (y.hi + b)) ≤ 1073741824
  omega
end
theorem min_wide {d : Dist} {x x' : Ev} {l : List Int} (hl : l ∈ minSets d x) (he : evErr d x' = 0) (hs : x'.suspects = x.suspects) (hn : x'.waves.length = x.waves.length) (hw : ∀ (k : Nat) v v', x.waves[k]? = some v → x'.waves[k]? = some v' → WiderW v v') :
    askErr d x' l = 0 ∧ explV d x' l = true := by
  obtain ⟨h0, h1, h2⟩ := min_expl hl
  have h3 : askErr d x' l = 0 := askErr_ok.2 ⟨he, by rw [hs]; exact (askErr_ok.1 h2).2⟩
  exact ⟨h3, expl_more h2 h3 hs (fun _ h => h) hn hw h1⟩
section
variable {D : Nat → Prop} {w : World}
set_option maxRecDepth 8000 in
theorem c_SuspectsWider {csd csx : List Value} {d : Dist} {x : Ev} {wh wi : Int} (hd : DiR D w csd d) (hx : EvR D w csx x) (hwh : 0 ≤ wh ∧ wh ≤ 255) (hwi : 0 ≤ wi ∧ wi ≤ 255) : CallZ Try.prog 4 #[.agg csd.toArray, .agg csx.toArray, .int .u8 wh, .int .u8 wi] w
    (fun v w' => v = .bool true ∧ Ext w w') := by
  have hd := hd.more (D' := fun _ => True) fun _ _ _ => trivial
  have hx := hx.more (D' := fun _ => True) fun _ _ _ => trivial
  obtain ⟨A1, n1, c1, A2, n2, c2, A3, n3, c3, A4, n4, c4, A5, n5, c5, A6, n6, c6, rfl, -⟩ := hd.ex
  obtain ⟨W1, m1, e1, S1, m2, e2, rfl, hwv, hsu, le1, le2⟩ := hx.ex
  have ls := hsu.len
  have lw := hwv.len
  refine fn_rule (args := [.agg #[.string d.name, iv d.hours, iv d.cap, iv d.start, .slice A1 n1 c1, .slice A2 n2 c2, .slice A3 n3 c3, .slice A4 n4 c4, .slice A5 n5 c5, .slice A6 n6 c6], .agg #[.slice W1 m1 e1, .slice S1 m2 e2], .int .u8 wh, .int .u8 wi]) Try.func4 (by kernel_rfl) ?_
  refine box (fun bd w1 h1 => ?_)
  refine box (fun bx w2 h2 => ?_)
  have x2 := h1.ext.trans h2.ext
  have Bd : Blk w2 bd 31 [.string d.name, iv d.hours, iv d.cap, iv d.start, .slice A1 n1 c1, .slice A2 n2 c2, .slice A3 n3 c3, .slice A4 n4 c4, .slice A5 n5 c5, .slice A6 n6 c6] := h1.blk.ext h2.ext
  have Bx : Blk w2 bx 35 [.slice W1 m1 e1, .slice S1 m2 e2] := h2.blk
  refine call_of (c_ssane) ?_
  rintro _ w3 ⟨rfl, x3⟩
  refine ldA [.string d.name, iv d.hours, iv d.cap, iv d.start, .slice A1 n1 c1, .slice A2 n2 c2, .slice A3 n3 c3, .slice A4 n4 c4, .slice A5 n5 c5, .slice A6 n6 c6] (.blk (Bd.ext x3)) rfl ?_
  refine ldA [.slice W1 m1 e1, .slice S1 m2 e2] (.blk (Bx.ext x3)) rfl ?_
  refine callSE (c_r49Few ((hd.ext x2).ext x3) ((hx.ext x2).ext x3)) (fun w4 x4 => ?_) (fun w4 x4 => ?_)
  rotate_left
  · exact ret1 (.bool true) rfl ⟨rfl, x2.trans (x3.trans x4)⟩
  have X := x2.trans (x3.trans x4)
  have Bd := Bd.ext (x3.trans x4)
  have Bx := Bx.ext (x3.trans x4)
  have hd := hd.ext X
  have hx := hx.ext X
  refine fldA ?_
  refine ld (.slice W1 m1 e1) (Bx.cell rfl) ?_
  refine len ?_
  refine cE (fun _ => ?_) (fun hm1 => ?_)
  · exact ret1 (.bool true) rfl ⟨rfl, X⟩
  have hm1 : 0 < m1 := by omega
  refine ldA [.string d.name, iv d.hours, iv d.cap, iv d.start, .slice A1 n1 c1, .slice A2 n2 c2, .slice A3 n3 c3, .slice A4 n4 c4, .slice A5 n5 c5, .slice A6 n6 c6] (.blk Bd) rfl ?_
  refine ldA [.slice W1 m1 e1, .slice S1 m2 e2] (.blk Bx) rfl ?_
  refine call_of (c_sMinimal hd hx) ?_
  rintro _ w5 ⟨LA, ln, lc, ls_, rfl, ol, hl⟩
  have X := X.trans ol.own.ext
  have hd := hd.ext ol.own.ext
  have hx := hx.ext ol.own.ext
  have Bd := Bd.ext ol.own.ext
  have Bx := Bx.ext ol.own.ext
  refine cN (fun _ => ?_) (fun q0 => ?_)
  · exact ret1 (.bool true) rfl ⟨rfl, X⟩
  have q0 : evErr d x = 0 := q0
  have hwv5 := hwv.ext X
  obtain ⟨wb, wo, _, _, rfl, -⟩ := hwv5.at_ (k := 0) hm1
  obtain ⟨wc, hfw, hcw⟩ := hwv5.cells
  have lwc : wc.length = m1 * 4 := by have := hfw.len; rw [this, lw]; rfl
  have hle1 := hwv.le
  have hw24 := (evErr_ok q0).2.1
  refine ldA [.slice (some (ad wb wo)) m1 e1, .slice S1 m2 e2] (.blk Bx) rfl ?_
  refine alloc (fun by_ w6 i6 => ?_)
  refine stA i6.blk rfl (by show 0 + 2 ≤ 2; omega) (fun u hu => by simp only [List.mem_cons, List.not_mem_nil, or_false] at hu; rcases hu with rfl | rfl <;> rfl) (fun w7 b7 k7 s7 => ?_)
  have b7 : Blk w7 by_ 35 [.slice (some (ad wb wo)) m1 e1, .slice S1 m2 e2] := b7
  have hby := i6.at_
  have i6s := i6.size
  have x57 : Ext w5 w7 := i6.ext.then k7 fun b hb _ e => by omega
  refine lit [] (fun ga w8 h8 => ?_)
  refine fldA ?_
  refine ld (.slice (some (ad wb wo)) m1 e1) ((Bx.ext (x57.trans h8.ext)).cell rfl) ?_
  have o8 : OwnF w7 w8 (some (ad ga 0)) 0 0 52 4 [] := OwnF.lit (cs := []) (.refl _ _) h8 rfl
  refine appF o8 ⟨lwc, fun _ => ⟨wb, wo, rfl, hcw.kept (x57.trans h8.ext) trivial⟩⟩ (by omega) (fun A' c' w9 o9 k9 hA9 => ?_) (h1 := List.all_eq_true.2 (flat_wv_one hfw))
  have x79 := o9.ext
  rcases o9.form with ⟨-, h0, -⟩ | ⟨gw, rfl, hg1, hg2, hg3⟩
  · omega
  obtain ⟨rs, bw9, -, -⟩ := o9.own.blk
  refine fldA ?_
  refine st (b7.ext x79) (by show 0 + 0 < 2; omega) rfl (fun w10 b10 k10 s10 => ?_)
  have b10 : Blk w10 by_ 35 [.slice (some (ad gw 0)) (0 + m1) c', .slice S1 m2 e2] := b10
  have bylt := b7.lt
  have hgby : gw ≠ by_ := by omega
  have bw10 : Blk w10 gw 52 (wc ++ rs) := bw9.kept k10 hgby
  have z6 : w5.heap.size ≤ w7.heap.size := x57.size
  have x5_10 : Ext w5 w10 := (x57.trans x79).then k10 fun b hb _ e => by omega
  -- the wave that is changed
  obtain ⟨q, hq, hqlt⟩ : ∃ q : Nat, (wh / 3) % ((0 + m1 : Nat) : Int) = q ∧ q < m1 := ⟨((wh / 3) % ((0 + m1 : Nat) : Int)).toNat, by have := Int.emod_nonneg (wh / 3) (show ((0 + m1 : Nat) : Int) ≠ 0 by omega); omega, by have := Int.emod_lt_of_pos (wh / 3) (show (0 : Int) < ((0 + m1 : Nat) : Int) by omega); have := Int.emod_nonneg (wh / 3) (show ((0 + m1 : Nat) : Int) ≠ 0 by omega); omega⟩
  obtain ⟨j, hj, hjlt⟩ : ∃ j : Nat, wh % 3 = j ∧ j < 3 := ⟨(wh % 3).toNat, by omega, by omega⟩
  obtain ⟨v, hv⟩ : ∃ v, x.waves[q]? = some v := ⟨x.waves[q]'(by omega), List.getElem?_eq_getElem (by omega)⟩
  have hxs : x.waves = x.waves.take q ++ ([v] ++ x.waves.drop (q + 1)) := by
    have : v = x.waves[q]'(by omega) := by rw [List.getElem?_eq_getElem (by omega)] at hv; exact (Option.some.inj hv).symm
    rw [this, List.singleton_append, List.getElem_cons_drop, List.take_append_drop]
  have hfw' := hfw
  rw [hxs] at hfw'
  obtain ⟨wc1, wcr, ewc, hf1, hfr⟩ := FlatR.split hfw'
  obtain ⟨wcv, wc2, rfl, hfv, hf2⟩ := FlatR.split hfr
  have lwc1 : wc1.length = q * 4 := by have := hf1.len; rw [this, List.length_take, Nat.min_eq_left (by omega)]; rfl
  have hrv : tWv.rep (fun _ => True) w5 wcv v := by
    obtain ⟨c, r, e, h1, h2⟩ := hfv
    rw [show r = [] from h2, List.append_nil] at e
    rw [e]; exact h1
  obtain ⟨H, hn, hc, O, on, oc, T, tn', tc', rfl, hour, pH, pO, pT, qH, qO, qT⟩ := wv_open' hrv
  obtain ⟨SA, sn, sc, hsel, pS⟩ := wv_sel (k1 := hc) (k2 := oc) (k3 := tc') hjlt pH pO pT
  obtain ⟨cell4, hcell4⟩ : ∃ c : List Value, c = [iv v.hour, .slice H hn hc, .slice O on oc, .slice T tn' tc'] := ⟨_, rfl⟩
  rw [← hcell4] at hsel ewc
  have l4 : cell4.length = 4 := by rw [hcell4]; rfl
  rw [ewc] at bw10
  refine drawX [0, 1, 2, 3, 4, 5, 6, 7, 8, 9, 10] [] mx (by kernel_rfl) ?_
  refine fldA ?_
  refine ldX (.slice (some (ad gw 0)) (0 + m1) c') (b10.cell rfl) (.refl _ _) ?_
  refine quoU8 (by omega) hwh ?_
  refine convU8 (by omega) ?_
  refine fldA ?_
  refine ldX (.slice (some (ad gw 0)) (0 + m1) c') (b10.cell rfl) (.refl _ _) ?_
  refine len ?_
  refine remI (by omega) (by omega) ?_
  refine idx q hq (by omega) ?_
  refine drawX [0, 1, 2, 3, 4, 5, 6, 7, 8, 10, 11, 9, 12, 13, 14] [9] mx (by kernel_rfl) ?_
  refine fldA ?_
  refine fldA ?_
  refine fldA ?_
  refine remI (by omega) hwh.1 ?_
  refine lit [.pointer (some (ad gw (0 + q * 4 + 1))), .pointer (some (ad gw (0 + q * 4 + 2))), .pointer (some (ad gw (0 + q * 4 + 3)))] (fun gl w11 h11 => ?_)
  refine strT (fun u => Ext w11 u) (.refl _ _) (fun u hu => h11.ext.trans hu) ?_
  have hptr : w11.cell? (ad gl (0 + j * 1)) = some (.pointer (some (ad gw (q * 4 + (1 + j))))) := by
    have hj3 : j = 0 ∨ j = 1 ∨ j = 2 := by omega
    rcases hj3 with rfl | rfl | rfl
    · rw [show q * 4 + (1 + 0) = 0 + q * 4 + 1 by omega]; exact h11.blk.cell rfl
    · rw [show q * 4 + (1 + 1) = 0 + q * 4 + 2 by omega]; exact h11.blk.cell rfl
    · rw [show q * 4 + (1 + 2) = 0 + q * 4 + 3 by omega]; exact h11.blk.cell rfl
  refine idx j hj hjlt ?_
  refine ldX (.pointer (some (ad gw (q * 4 + (1 + j))))) hptr (.refl _ _) ?_
  refine lit [] (fun gb w12 h12 => ?_)
  have x10_12 : Ext w10 w12 := h11.ext.trans h12.ext
  have bw12 := bw10.ext x10_12
  have scell : (wc1 ++ (cell4 ++ wc2) ++ rs)[q * 4 + (1 + j)]? = some (.slice SA sn sc) := by
    rw [List.append_assoc, List.getElem?_append_right (by omega), lwc1, show q * 4 + (1 + j) - q * 4 = 1 + j by omega, List.append_assoc, List.getElem?_append_left (by omega)]
    exact hsel
  refine ld (.slice SA sn sc) (bw12.cell scell) ?_
  have o12 : OwnF w11 w12 (some (ad gb 0)) 0 0 56 2 [] := OwnF.lit (cs := []) (.refl _ _) h12 rfl
  have x5_12 : Ext w5 w12 := x5_10.trans x10_12
  have lsel := pS.len
  have hlesn := pS.le
  have hsn : sn ≤ 600 := by
    obtain ⟨w1', w2', w3'⟩ := waves_mem (evErr_ok q0).2.2.2.1 v (List.mem_of_getElem? hv)
    obtain ⟨⟨r1, -⟩, r2, -⟩ := ev_sizes q0
    have g1 := rgsB_len w1'
    have g2 := rgsB_len w2'
    have g3 := rgsB_len w3'
    rw [← lsel]
    unfold selL
    split
    · omega
    · split <;> omega
  refine appF o12 (rgs_src (pS.ext x5_12)) (by omega) (fun AR cR w13 o13 k13 hA13 => ?_) (h1 := by rw [List.all_flatMap]; exact List.all_eq_true.2 fun _ _ => rfl)
  have z11 := h11.size
  have z12 := h12.size
  have a11 := h11.at_
  have a12 := h12.at_
  have gwlt := bw10.lt
  have x10_13 : Ext w10 w13 := h11.ext.trans o13.ext
  have bw13 := bw10.ext x10_13
  refine st bw13 (by rw [List.length_append, List.length_append, List.length_append, lwc1, l4]; omega) rfl (fun w14 bw14r k14 s14 => ?_)
  obtain ⟨cellN, hcellN⟩ : ∃ c : List Value, c = cell4.set (1 + j) (.slice AR (0 + sn) cR) := ⟨_, rfl⟩
  have eset : (wc1 ++ (cell4 ++ wc2) ++ rs).set (q * 4 + (1 + j)) (.slice AR (0 + sn) cR) = wc1 ++ (cellN ++ wc2) ++ rs := by
    rw [List.append_assoc, List.set_append_right _ _ (by omega), lwc1, show q * 4 + (1 + j) - q * 4 = 1 + j by omega, List.append_assoc, List.set_append_left _ _ (by omega), ← hcellN]
    simp
  have bw14 : Blk w14 gw 52 ((wc1 ++ (cell4 ++ wc2) ++ rs).set (q * 4 + (1 + j)) (.slice AR (0 + sn) cR)) := bw14r
  clear bw14r
  rw [eset] at bw14
  have ncell : (wc1 ++ (cellN ++ wc2) ++ rs)[q * 4 + (1 + j)]? = some (.slice AR (0 + sn) cR) := by
    rw [List.append_assoc, List.getElem?_append_right (by omega), lwc1, show q * 4 + (1 + j) - q * 4 = 1 + j by omega, List.append_assoc, List.getElem?_append_left (by rw [hcellN, List.length_set]; omega), hcellN, List.getElem?_set_self (by omega)]
  have b14 : Blk w14 by_ 35 [.slice (some (ad gw 0)) (0 + m1) c', .slice S1 m2 e2] := (b10.ext x10_13).kept k14 (fun e => hgby e.symm)
  have z10 := k10.size
  have z13 := x10_13.size
  have x5_14 : Ext w5 w14 := (x5_10.trans x10_13).then k14 fun b hb _ e => by omega
  -- what comes of it, whatever the list then says
  have fin : ∀ (w' : World) (l' : List Rg) , Ext w5 w' → Blk w' by_ 35 [.slice (some (ad gw 0)) (0 + m1) c', .slice S1 m2 e2] → Blk w' gw 52 (wc1 ++ (cellN ++ wc2) ++ rs) → SlR tRg (fun _ => True) w' AR (0 + sn) l' → 0 + sn ≤ cR → EvR (fun _ => True) w' [.slice (some (ad gw 0)) (0 + m1) c', .slice S1 m2 e2] (putX x q j v l') := by
    intro w' l' xw yb gb' hl' hlc
    refine EvR.of_ ⟨_, _, _, _, _, _, rfl, ?_, (hsu.ext X).ext xw, o9.le, le2⟩
    have hrep : tWv.rep (fun _ => True) w' cellN (putW j v l') := by
      rw [hcellN, hcell4]
      exact wv_put hjlt hour (pH.ext xw) (pO.ext xw) (pT.ext xw) qH qO qT hl' hlc
    have hset : (putX x q j v l').waves = x.waves.take q ++ ([putW j v l'] ++ x.waves.drop (q + 1)) := by
      show x.waves.set q _ = _
      rw [List.set_eq_take_append_cons_drop, if_pos (by omega)]; rfl
    rw [hset]
    refine SlR.of_cells (cs := wc1 ++ (cellN ++ wc2)) ?_ (by omega) trivial (CellsAt.app (.blk gb')).1 ?_
    · rw [← hset]; show 0 + m1 = (x.waves.set q _).length; rw [List.length_set]; omega
    · exact (hf1.keep fun b hb h => xw.blk b hb h).app ((FlatR.one hrep).app (hf2.keep fun b hb h => xw.blk b hb h))

  have lle := o13.le
  have z1012 := x10_12.size
  have z78 := h8.ext.size
  have z79 := x79.size
  obtain ⟨gr, rs2, hgr⟩ : ∃ gr rs2, 0 < sn → AR = some (ad gr 0) ∧ gr ≠ gw ∧ gr ≠ by_ ∧ w5.heap.size ≤ gr ∧ Blk w14 gr 56 ((selL j v).flatMap Rg.c ++ rs2) := by
    by_cases h0 : sn = 0
    · exact ⟨0, [], fun h => by omega⟩
    · rcases o13.form with ⟨-, h0, -⟩ | ⟨gr, hA, hr1, hr2, -⟩
      · omega
      subst hA
      obtain ⟨rs2, br13, -, -⟩ := o13.own.blk
      have hgrw : gr ≠ gw := by omega
      have hgrb : gr ≠ by_ := by omega
      have z5_10 := x5_10.size
      have br13 : Blk w13 gr 56 ((selL j v).flatMap Rg.c ++ rs2) := br13
      exact ⟨gr, rs2, fun _ => ⟨rfl, hgrw, hgrb, by omega, br13.kept k14 hgrw⟩⟩
  obtain ⟨w1', w2', w3'⟩ := waves_mem (evErr_ok q0).2.2.2.1 v (List.mem_of_getElem? hv)
  have hrg : ∀ y ∈ selL j v, rgOk y 1073741824 = true := fun y hy => by
    have key : ∀ {m : Nat} {l : List Rg}, rgsB m l = true → y ∈ l → rgOk y 1073741824 = true := fun h hy => by
      unfold rgsB at h
      rw [Bool.and_eq_true, List.all_eq_true] at h
      exact h.2 y hy
    unfold selL at hy
    split at hy
    · exact key w1' hy
    · split at hy
      · exact key w2' hy
      · exact key w3' hy
  refine ld (.slice AR (0 + sn) cR) (bw14.cell ncell) ?_
  refine len ?_
  refine loop_rule (fun k : Nat => [(81, iv (k : Int))]) (fun k u => k ≤ sn ∧ Ext w5 u ∧ Blk u by_ 35 [.slice (some (ad gw 0)) (0 + m1) c', .slice S1 m2 e2] ∧ Blk u gw 52 (wc1 ++ (cellN ++ wc2) ++ rs) ∧ (0 < sn → Blk u gr 56 ((mixL wi k (selL j v)).flatMap Rg.c ++ rs2))) (fun k _ => sn - k) 0 ⟨rfl, trivial⟩ ⟨by omega, x5_14, b14, bw14, fun h => (hgr h).2.2.2.2⟩ rfl ?_
  rintro G k u ⟨hk, xu, yb, gb_, rb⟩
  refine cD (fun hlt => ?_) (fun hge => ?_)
  · have hlt : k < sn := by omega
    obtain ⟨rfl, hg1, hg2, hg3, -⟩ := hgr (by omega)
    have rb := rb (by omega)
    obtain ⟨y, hy⟩ : ∃ y, (selL j v)[k]? = some y := ⟨(selL j v)[k]'(by omega), List.getElem?_eq_getElem (by omega)⟩
    have hyb := rgOk_iff.1 (hrg y (List.mem_of_getElem? hy))
    have lfl : ((mixL wi k (selL j v)).flatMap Rg.c).length = sn * 2 := by
      have key : ∀ l : List Rg, (l.flatMap Rg.c).length = l.length * 2 := fun l => by
        induction l with
        | nil => rfl
        | cons a l ih => rw [List.flatMap_cons, List.length_append, ih, List.length_cons]; show 2 + l.length * 2 = (l.length + 1) * 2; omega
      rw [key, mix_len, lsel]
    refine idx k rfl (show k < 0 + sn by omega) ?_
    refine ldA y.c (fun m u' hm => by rw [show 0 + k * 2 + m = k * 2 + m by omega]; exact rb.cell (flat_at (mix_at hy) hm)) rfl ?_
    refine alloc (fun g1 u1 i1 => ?_)
    refine stA (vs := y.c) i1.blk rfl (Nat.le_of_ble_eq_true rfl) (fun u hu => by simp only [Rg.c, List.mem_cons, List.not_mem_nil, or_false] at hu; rcases hu with rfl | rfl <;> rfl) (fun u2 p2 s2 zz2 => ?_)
    have p2 : Blk u2 g1 56 [iv y.lo, iv y.hi] := p2
    have hg1' := i1.at_
    have xu2 : Ext u u2 := i1.ext.then s2 fun b hb _ e => by omega
    have yb := yb.ext xu2
    have gb_ := gb_.ext xu2
    have rb := rb.ext xu2
    refine drawP (.take 0 (.take 1 (.take 2 (.take 3 (.take 4 (.take 5 (.take 6 (.take 7 (.take 8 (.take 9 (.take 10 (.take 11 (.take 12 (.take 13 (.take 14 (.take 15 (.take 16 (.take 17 (.take 18 (.take 19 (.take 20 (.bar (.eff 21 .done))))))))))))))))))))))) [21] (fun u => u = u2) mx (by kernel_rfl) rfl ?_
    refine ld (.slice (some (ad gr 0)) (0 + sn) cR) (gb_.cell ncell) ?_
    refine fldA ?_
    refine ld (iv y.lo) (p2.cell rfl) ?_
    refine convU8 hwi ?_
    refine arI (by omega) ?_
    refine fldA ?_
    refine ld (iv y.hi) (p2.cell rfl) ?_
    refine fldA ?_
    refine ld (iv y.hi) (p2.cell rfl) ?_
    refine convU8 hwi ?_
    refine arI (by omega) ?_
    refine bld (widR wi y).c (by kernel_rfl) ?_
    refine idx k rfl (by omega) ?_
    refine barS (fun _ => True) trivial ?_
    refine stA (vs := (widR wi y).c) rb rfl (by rw [List.length_append]; show 0 + k * 2 + 2 ≤ _; omega) (fun u hu => by simp only [Rg.c, List.mem_cons, List.not_mem_nil, or_false] at hu; rcases hu with rfl | rfl <;> rfl) (fun u3 p3 s3 zz3 => ?_)
    refine strS trivial ?_
    refine arI (by omega) ?_
    refine next (k + 1) ⟨by rw [Int.natCast_add]; rfl, trivial⟩ ⟨by omega, (xu.trans xu2).then s3 fun b hb _ e => by omega, yb.kept s3 (fun e => hg2 e.symm), gb_.kept s3 (fun e => hg1 e.symm), fun _ => ?_⟩ (by omega)
    have e := flat_set (y := widR wi y) (l := mixL wi k (selL j v)) (k := k) (r := rs2) (by rw [mix_len]; omega)
    rw [← mix_succ hy] at e
    rw [← e]
    have p3 := p3
    rw [show 0 + k * 2 = k * 2 by omega] at p3
    exact p3
  have hks : k = sn := by omega
  subst hks
  rw [mix_all (by omega)] at rb
  have hr : SlR tRg (fun _ => True) u AR (0 + k) ((selL j v).map (widR wi)) := by
    by_cases h0 : k = 0
    · have lS : selL j v = [] := List.eq_nil_of_length_eq_zero (by omega)
      rw [lS, h0]; exact .nil
    · obtain ⟨hA, -⟩ := hgr (by omega)
      rw [hA]
      exact SlR.of_cells (by rw [List.length_map]; omega) (by omega) trivial (CellsAt.app (.blk (rb (by omega)))).1 flat_fl
  have hev := fin u _ xu yb gb_ hr lle
  have he : evErr d (putX x q j v ((selL j v).map (widR wi))) = 0 := putX_err q0 hv fun m h => rgsB_map hwi.1 h
  have hwd := putX_wider hv (wider_map hwi.1 fun y hy => by have := rgOk_iff.1 (hrg y hy); omega)
  have hn : (putX x q j v ((selL j v).map (widR wi))).waves.length = x.waves.length := by show (x.waves.set q _).length = _; rw [List.length_set]
  have hsN : (putX x q j v ((selL j v).map (widR wi))).suspects = x.suspects := rfl
  generalize putX x q j v ((selL j v).map (widR wi)) = xN at hev he hwd hn hsN
  have ol := ol.ext xu
  have hd := hd.ext xu
  have Bd := Bd.ext xu
  have hln := ol.cnt hl
  have Xu := X.trans xu
  have hml := min_len (d := d) (x := x)
  refine len ?_
  refine loop_rule (fun i : Nat => [(110, iv (i : Int))]) (fun i u' => i ≤ ln ∧ Ext u u') (fun i _ => ln - i) 0 ⟨rfl, trivial⟩ ⟨by omega, .refl _ _⟩ rfl ?_
  rintro G2 i u' ⟨hi, k'⟩
  refine cD (fun hlt => ?_) (fun hge => ret1 (.bool true) rfl ⟨rfl, Xu.trans k'⟩)
  have hlt : i < ln := by omega
  obtain ⟨set, hset⟩ : ∃ set, (minSets d x)[i]? = some set := ⟨(minSets d x)[i]'(by omega), List.getElem?_eq_getElem (by omega)⟩
  obtain ⟨g, B, mm, ee, rfl, -, hc, hsl⟩ := (ol.ext k').at_ hl hset
  obtain ⟨r1, r2⟩ := min_wide (List.mem_of_getElem? hset) he hsN hn hwd
  refine idx i rfl hlt ?_
  refine ld (.slice B mm ee) hc ?_
  refine ldA [.string d.name, iv d.hours, iv d.cap, iv d.start, .slice A1 n1 c1, .slice A2 n2 c2, .slice A3 n3 c3, .slice A4 n4 c4, .slice A5 n5 c5, .slice A6 n6 c6] (.blk (Bd.ext k')) rfl ?_
  refine ldA [.slice (some (ad gw 0)) (0 + m1) c', .slice S1 m2 e2] (.blk (yb.ext k')) rfl ?_
  have cc := c_Explains (c := ee) (hd.ext k') (hev.ext k') hsl
  rw [r1, r2] at cc
  refine call_of cc ?_
  clear cc
  rintro _ w8 ⟨rfl, x8⟩
  refine cN (fun h => absurd rfl h) (fun _ => ?_)
  refine arI (by omega) ?_
  exact next (i + 1) ⟨by rw [Int.natCast_add]; rfl, trivial⟩ ⟨by omega, k'.trans x8⟩ (by omega)
end
end Go.Proofs.Ytcpdhclnmjfldaa

/- Closing: what evidence and Truths that are handed in read as. -/
namespace Go.Proofs.Ytcpdhclnmjfldaa
open Go Go.RowKit Go.ChangeShapes Go.WideShapes Go.ChangeAt

def tEvR : Ty Ev where
  sz := 2
  rep := EvR
  len h := by obtain ⟨_, _, _, _, _, _, rfl, -⟩ := h.ex; rfl
  keep hk h := h.keep hk
  more hk h := h.more hk
theorem rd_is : Rd Try.prog 36 (tSl tInt) := inferInstance
theorem rd_rg : Rd Try.prog 56 tRg := by
  refine Rd.of (fun y : Int × Int => (⟨y.1, y.2⟩ : Rg)) rd_range ?_
  rintro W cs ⟨s, u⟩ ⟨_, _, rfl, ⟨rfl, -⟩, ⟨rfl, -⟩⟩
  rfl
theorem rd_su : Rd Try.prog 92 tSu := by
  refine Rd.of (fun y : Int × Int × Int => (⟨y.1, y.2.1, y.2.2⟩ : Su))
    (Rd.struct Try.underlying92 (by kernel_rfl) fun n => .cons (rdAt Try.prog 3 tInt n) rfl (.cons (rdAt Try.prog 3 tInt n) rfl (.one (rdAt Try.prog 3 tInt n) rfl))) ?_
  rintro W cs ⟨s, u, d⟩ ⟨_, _, rfl, ⟨rfl, -⟩, _, _, rfl, ⟨rfl, -⟩, ⟨rfl, -⟩⟩
  rfl
instance : Rd Try.prog 56 tRg := rd_rg
instance : Rd Try.prog 92 tSu := rd_su
theorem rd_rgs : Rd Try.prog 50 (tSl tRg) := inferInstance
theorem rd_wave : Rd Try.prog 52 tWv := Rd.map (g := fun y : Int × List Rg × List Rg × List Rg => (⟨y.1, y.2.1, y.2.2.1, y.2.2.2⟩ : Wv))
    (Rd.struct Try.underlying52 (by kernel_rfl) fun n => .cons (rdAt Try.prog 3 tInt n) rfl (.cons (rd_rgs.h n) rfl (.cons (rd_rgs.h n) rfl (.one (rd_rgs.h n) rfl)))) fun _ => rfl
theorem rd_tru : Rd Try.prog 101 tTru := Rd.map (g := fun y : List Int × List Int × List Int × List Int × List Int => (⟨y.1, y.2.1, y.2.2.1, y.2.2.2.1, y.2.2.2.2⟩ : Tru))
    (Rd.struct Try.underlying101 (by kernel_rfl) fun n => .cons (rd_is.h n) rfl (.cons (rd_is.h n) rfl (.cons (rd_is.h n) rfl (.cons (rd_is.h n) rfl (.one (rd_is.h n) rfl))))) fun _ => rfl
instance : Rd Try.prog 52 tWv := rd_wave
instance : Rd Try.prog 101 tTru := rd_tru
theorem rd_waves : Rd Try.prog 32 (tSl tWv) := inferInstance
theorem rd_sus : Rd Try.prog 33 (tSl tSu) := inferInstance
theorem rd_ev : Rd Try.prog 35 tEvR := by
  refine Rd.of (fun y : List Wv × List Su => (⟨y.1, y.2⟩ : Ev))
    (Rd.struct Try.underlying35 (by kernel_rfl) fun n => .cons (rd_waves.h n) rfl (.one (rd_sus.h n) rfl)) ?_
  rintro W cs ⟨l1, l2⟩ ⟨_, _, rfl, ⟨A1, n1, c1, rfl, h1, g1⟩, A2, n2, c2, rfl, h2, g2⟩
  exact EvR.of_ ⟨A1, n1, c1, A2, n2, c2, rfl, h1, h2, g1, g2⟩
end Go.Proofs.Ytcpdhclnmjfldaa
