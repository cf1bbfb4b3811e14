/- Parts of the proof: D3 D4 D5 D6 D8 D9 Da Db Dc Dd De Df Dh Dl Dm J1 J2. -/
import Derived.Test.YtcpogcdadlcdaaaM6
import Derived.Test.YtcpogcdadlcdaaaM5
import Derived.Test.YtcpogcdadlcdaaaM3
import Derived.Test.YtcpogcdadlcdaaaM4
import Derived.Laws.Cover3

/- Layer 21's reference, further: what arrives, the least and the greatest parcel. -/
namespace Go.Proofs.Ytcpogcdadlcdaaa
open Go Go.RowKit

def arrV2 (r : Reach) (v : Int) (b : Bool) : Int := if b then arrB r v else arrW r v
def lvV (r : Reach) (x : Int) (b : Bool) : Int := if b then lvB r x else lvW r x
def leastV (r : Reach) (x : Int) (b : Bool) : Int := if arrV2 r 1073741824 b < x then -1 else lvV r x b
theorem arrV2_mono {r : Reach} {b : Bool} (hl : lossOk r = true) {v v' : Int} (hv : 0 ≤ v) (h : v ≤ v') : arrV2 r v b ≤ arrV2 r v' b := by
  unfold arrV2
  cases b
  · exact arrW_mono hl hv h
  · exact arrB_mono hl hv h
theorem lvV_first {r : Reach} {b : Bool} {x : Int} (hl : lossOk r = true) : First (fun v => decide (x ≤ arrV2 r v b)) 0 1073741825 (lvV r x b) := by
  unfold lvV arrV2
  cases b
  · exact lvW_first hl
  · exact lvB_first hl
section
variable {w : World} {r : Reach}
theorem lv_least {x : Int} {b : Bool} (hok : lossOk r = true) : (leastV r x b < 0 ↔ lvV r x b > 1073741824) ∧ (¬ leastV r x b < 0 → leastV r x b = lvV r x b) := by
  have hf := lvV_first (b := b) (x := x) hok
  unfold leastV
  have hle := hf.le
  have hge := hf.ge
  by_cases h : arrV2 r 1073741824 b < x
  · rw [if_pos h]
    refine ⟨⟨fun _ => ?_, fun _ => by omega⟩, fun h => absurd (by omega) h⟩
    by_cases q : lvV r x b > 1073741824
    · exact q
    exfalso
    have h1 := hf.yes (by omega)
    simp only [decide_eq_true_eq] at h1
    have := arrV2_mono (b := b) hok hle (show lvV r x b ≤ 1073741824 by omega)
    omega
  · rw [if_neg h]
    refine ⟨⟨fun h => by omega, fun q => ?_⟩, fun _ => rfl⟩
    exfalso
    have := hf.no 1073741824 (by omega) (by omega)
    simp only [decide_eq_false_iff_not] at this
    omega
end
end Go.Proofs.Ytcpogcdadlcdaaa

/- Layer 41, plainly: the claims of the parts, the needs, and what a division is. -/
namespace Go.Proofs.Ytcpogcdadlcdaaa
open Go Go.RowKit

/-- The claim of a part. -/
def clP (cl hs : List Int) (p : Pt) : Int := if p.1 then clA cl p.2 else clA hs p.2
def clmV (d : Dist) (cl hs : List Int) (r : Nat) : List Int := (ptsV d r).map (clP cl hs)
/-- What a reach needs, if so much is claimed at its end. -/
def needV (x : Reach) (total : Int) : Option Int :=
  if total = 0 then some 0 else if total > 1073741824 then none else if lvW x total > 1073741824 then none else some (max (lvW x total) x.siphon)
/-- The needs, after k reaches, from the leaves. -/
def needsN (d : Dist) (cl : List Int) : Nat → Option (List Int)
  | 0 => some (List.replicate d.reaches.length 0)
  | k + 1 => match needsN d cl k with
    | none => none
    | some hs => match needV (rcC d (d.reaches.length - 1 - k)) (isum (clmV d cl hs (d.reaches.length - 1 - k))) with
      | none => none
      | some v => some (hs.set (d.reaches.length - 1 - k) v)
def needsV (d : Dist) (cl : List Int) : Option (List Int) := needsN d cl d.reaches.length
def claimOk (d : Dist) (cl : List Int) : Bool := decide (cl.length = d.farms.length) && cl.all okC
def divErr (d : Dist) (cl : List Int) : Int := if dErr d ≠ 0 then dErr d else if claimOk d cl then 0 else 410
/-- What enters a reach. -/
def cut (d : Dist) (r : Nat) (n : Int) : Int := if n < (rcC d r).siphon then 0 else n
def workV (d : Dist) (cl hs hd : List Int) (r : Nat) : Int := min (arrW (rcC d r) (clA hd r)) (isum (clmV d cl hs r))
def Mk0 : Mk := Mk.none
def mkA (l : List Mk) (i : Nat) : Mk := l.getD i Mk.none
/-- What is divided at the end of a reach. -/
structure DivAt (d : Dist) (cl hs hd aw : List Int) (mk : List Mk) (r : Nat) : Prop where
  mark : MarkOf (workV d cl hs hd r) (clmV d cl hs r) (mkA mk r)
  farm : ∀ k i, (ptsV d r)[k]? = some (true, i) → clA aw i = ownV (mkA mk r) (clA (clmV d cl hs r) k) k
  child : ∀ k i, (ptsV d r)[k]? = some (false, i) → clA hd i = cut d i (ownV (mkA mk r) (clA (clmV d cl hs r) k) k)
/-- A division. -/
structure DivV (d : Dist) (cl hs : List Int) (E : Int) (hd aw : List Int) (mk : List Mk) : Prop where
  lh : hd.length = d.reaches.length
  la : aw.length = d.farms.length
  lm : mk.length = d.reaches.length
  top : clA hd 0 = cut d 0 (min E (clA hs 0))
  at_ : ∀ r, r < d.reaches.length → DivAt d cl hs hd aw mk r
end Go.Proofs.Ytcpogcdadlcdaaa

/- Layer 41, plainly: what a division keeps. -/
namespace Go.Proofs.Ytcpogcdadlcdaaa
open Go Go.RowKit

structure Val (d : Dist) : Prop where
  n : 0 < d.reaches.length ∧ d.reaches.length ≤ 64
  f : d.farms.length ≤ 600
  up0 : (rcC d 0).up = -1
  up : ∀ k, 0 < k → k < d.reaches.length → 0 ≤ (rcC d k).up ∧ (rcC d k).up < k
  rc : ∀ k, k < d.reaches.length → reachOk (rcC d k) = true
  fm : ∀ i, i < d.farms.length → 0 ≤ (fmC d i).reach ∧ (fmC d i).reach < d.reaches.length
theorem val_of {d : Dist} (h : dErr d = 0) : Val d := by
  unfold dErr at h
  cases h1 : tooMany d with
  | true => rw [h1] at h; cases h
  | false =>
    rw [h1] at h
    cases h2 : validB d with
    | false => rw [h2] at h; cases h
    | true =>
      obtain ⟨a1, a2, -, a4, -⟩ := validB_iff.1 h2
      obtain ⟨-, -, -, a5⟩ := headOk_iff.1 a1
      unfold tooMany at h1
      simp only [Bool.not_eq_false', Bool.and_eq_true, decide_eq_true_eq] at h1
      have hu : ∀ k, k < d.reaches.length → upOk k (rcC d k).up = true ∧ reachOk (rcC d k) = true := fun k hk => by
        have e := List.getElem?_eq_getElem hk
        rw [rcC_at e]
        have := reachesB_up a2 e
        rwa [Nat.zero_add] at this
      refine ⟨⟨a5, h1.1⟩, h1.2.1, ?_, fun k h0 hk => ?_, fun k hk => (hu k hk).2, fun i hi => ?_⟩
      · have := (hu 0 a5).1
        unfold upOk at this
        rw [if_pos rfl] at this
        exact of_decide_eq_true this
      · have := (hu k hk).1
        unfold upOk at this
        rw [if_neg (by omega)] at this
        have := inI_iff.1 this
        omega
      · have e := List.getElem?_eq_getElem hi
        rw [fmC_at e]
        have := List.all_eq_true.1 a4 _ (List.mem_of_getElem? e)
        unfold farmOk at this
        simp only [Bool.and_eq_true] at this
        have := inI_iff.1 this.2.1
        omega
section
variable {d : Dist} {cl hs hd aw : List Int} {mk : List Mk} {E : Int}
theorem claimOk_iff : claimOk d cl = true ↔ cl.length = d.farms.length ∧ OkL cl := by
  unfold claimOk okC
  simp only [Bool.and_eq_true, decide_eq_true_eq, List.all_eq_true]
theorem divErr_ok : divErr d cl = 0 ↔ dErr d = 0 ∧ claimOk d cl = true := by
  unfold divErr
  by_cases h : dErr d = 0
  · rw [if_neg (by simp [h])]
    cases claimOk d cl <;> simp [h]
  · rw [if_pos h]; simp [h]
theorem Val.loss (v : Val d) {r : Nat} (hr : r < d.reaches.length) : lossOk (rcC d r) = true ∧ 0 ≤ (rcC d r).siphon ∧ (rcC d r).siphon ≤ 1073741824 := by
  obtain ⟨-, h1, -, h2, h3⟩ := reachOk_iff.1 (v.rc r hr)
  exact ⟨h3, by omega, by omega⟩
/-- The child's reach lies behind. -/
theorem Val.child (v : Val d) {r j : Nat} (h : (false, j) ∈ ptsV d r) : r < j ∧ j < d.reaches.length := by
  rcases mem_ptsV.1 h with h | h
  · cases h.1
  · obtain ⟨-, h2, h3⟩ := h
    by_cases h0 : j = 0
    · subst h0; have := v.up0; simp only at h3; omega
    · have := v.up j (by omega) h2
      simp only at h3; omega
theorem clA_set {l : List Int} {i j : Nat} {x : Int} (hi : i < l.length) : clA (l.set i x) j = if i = j then x else clA l j := by
  unfold clA
  rw [List.getD_eq_getElem?_getD, List.getElem?_set]
  by_cases h : i = j
  · rw [if_pos h, if_pos h, if_pos hi]; rfl
  · rw [if_neg h, if_neg h, ← List.getD_eq_getElem?_getD]
theorem clmV_set (v : Val d) {r i : Nat} {x : Int} (h : i ≤ r) (hi : i < hs.length) : clmV d cl (hs.set i x) r = clmV d cl hs r := by
  unfold clmV
  refine List.map_congr_left fun p hp => ?_
  unfold clP
  obtain ⟨b, j⟩ := p
  cases b with
  | true => rfl
  | false =>
    have := (v.child hp).1
    show clA (hs.set i x) j = clA hs j
    rw [clA_set hi, if_neg (by omega)]
theorem okL_zero {n : Nat} : OkL (List.replicate n 0) := fun c hc => by rw [List.eq_of_mem_replicate hc]; omega
theorem clA_ok {l : List Int} (h : OkL l) (i : Nat) : 0 ≤ clA l i ∧ clA l i ≤ 1073741824 := by
  by_cases hi : i < l.length
  · exact clA_b h hi
  · unfold clA; rw [List.getD_eq_getElem?_getD, List.getElem?_eq_none (by omega)]; exact ⟨Int.le_refl _, by decide⟩
theorem clmV_ok (h1 : OkL cl) (h2 : OkL hs) (r : Nat) : OkL (clmV d cl hs r) := fun c hc => by
  obtain ⟨p, -, rfl⟩ := List.mem_map.1 hc
  unfold clP
  split
  · exact clA_ok h1 _
  · exact clA_ok h2 _
theorem clmV_len {r : Nat} : (clmV d cl hs r).length = (ptsV d r).length := List.length_map _
theorem Val.len (v : Val d) {r : Nat} : (clmV d cl hs r).length ≤ 664 := by
  rw [clmV_len]; have := ptsV_len (d := d) (r := r); have := v.n; have := v.f; omega
theorem needV_b (x : Reach) (total : Int) (hx : 0 ≤ x.siphon ∧ x.siphon ≤ 1073741824) (hl : lossOk x = true) {u : Int} (h : needV x total = some u) : 0 ≤ u ∧ u ≤ 1073741824 ∧ (u = 0 ∨ x.siphon ≤ u) ∧ (0 ≤ total → total ≤ arrW x u) := by
  unfold needV at h
  have hf := lvW_first (w := total) hl
  split at h
  · injection h with h; subst h
    have := arr_le hl (v := 0) (by omega)
    omega
  · split at h
    · cases h
    · split at h
      · cases h
      · injection h with h; subst h
        have h1 := hf.le
        refine ⟨by omega, by omega, .inr (by omega), fun _ => ?_⟩
        have h2 := hf.yes (by omega)
        rw [decide_eq_true_eq] at h2
        have := arrW_mono hl h1 (show lvW x total ≤ max (lvW x total) x.siphon by omega)
        omega
theorem needsN_ok (v : Val d) : ∀ (k : Nat) {hs : List Int}, k ≤ d.reaches.length → needsN d cl k = some hs → hs.length = d.reaches.length ∧ OkL hs ∧ ∀ r, d.reaches.length - k ≤ r → r < d.reaches.length → needV (rcC d r) (isum (clmV d cl hs r)) = some (clA hs r)
  | 0, hs, _, h => by
    unfold needsN at h
    injection h with h; subst h
    exact ⟨List.length_replicate .., okL_zero, fun r h1 h2 => by omega⟩
  | k + 1, hs, hk, h => by
    unfold needsN at h
    cases h1 : needsN d cl k with
    | none => rw [h1] at h; cases h
    | some hs0 =>
      rw [h1] at h
      obtain ⟨e1, e2, e3⟩ := needsN_ok v k (by omega) h1
      dsimp only at h
      cases h2 : needV (rcC d (d.reaches.length - 1 - k)) (isum (clmV d cl hs0 (d.reaches.length - 1 - k))) with
      | none => rw [h2] at h; cases h
      | some u =>
        rw [h2] at h
        injection h with h; subst h
        obtain ⟨j, hj⟩ : ∃ j, j = d.reaches.length - 1 - k := ⟨_, rfl⟩
        rw [← hj] at h2 ⊢
        have hjl : j < hs0.length := by omega
        obtain ⟨l1, l2, l3⟩ := v.loss (r := j) (by omega)
        obtain ⟨b1, b2, -⟩ := needV_b _ _ ⟨l2, l3⟩ l1 h2
        refine ⟨by rw [List.length_set]; exact e1, fun c hc => ?_, fun r hr hr2 => ?_⟩
        · rcases List.mem_or_eq_of_mem_set hc with hc | rfl
          · exact e2 c hc
          · exact ⟨b1, b2⟩
        · rw [clmV_set v (by omega) hjl, clA_set hjl]
          by_cases q : j = r
          · subst q; rw [if_pos rfl]; exact h2
          · rw [if_neg q]; exact e3 r (by omega) hr2
theorem needsV_ok (v : Val d) (h : needsV d cl = some hs) : hs.length = d.reaches.length ∧ OkL hs ∧ ∀ r, r < d.reaches.length → needV (rcC d r) (isum (clmV d cl hs r)) = some (clA hs r) := by
  obtain ⟨h1, h2, h3⟩ := needsN_ok v _ (Nat.le_refl _) h
  exact ⟨h1, h2, fun r hr => h3 r (by omega) hr⟩
/-- What is known of a right district, right claims, and their needs. -/
structure Rdy (d : Dist) (cl hs : List Int) : Prop where
  v : Val d
  okc : OkL cl
  lc : cl.length = d.farms.length
  okh : OkL hs
  lh : hs.length = d.reaches.length
  nd : ∀ r, r < d.reaches.length → needV (rcC d r) (isum (clmV d cl hs r)) = some (clA hs r)
theorem rdy_of (h : divErr d cl = 0) (hn : needsV d cl = some hs) : Rdy d cl hs := by
  obtain ⟨h1, h2⟩ := divErr_ok.1 h
  have v := val_of h1
  obtain ⟨a1, a2, a3⟩ := needsV_ok v hn
  obtain ⟨b1, b2⟩ := claimOk_iff.1 h2
  exact ⟨v, b2, b1, a2, a1, a3⟩
theorem Rdy.sum (R : Rdy d cl hs) (r : Nat) : 0 ≤ isum (clmV d cl hs r) ∧ isum (clmV d cl hs r) ≤ 664 * 1073741824 := by
  have h := isum_b (clmV_ok (d := d) R.okc R.okh r)
  have := R.v.len (cl := cl) (hs := hs) (r := r)
  refine ⟨h.1, Int.le_trans h.2 ?_⟩
  have : ((clmV d cl hs r).length : Int) ≤ 664 := by omega
  omega
theorem Rdy.work (R : Rdy d cl hs) {r : Nat} (hr : r < d.reaches.length) (hh : 0 ≤ clA hd r ∧ clA hd r ≤ 1073741824) : tErr (workV d cl hs hd r) (clmV d cl hs r) = 0 ∧ 0 ≤ workV d cl hs hd r ∧ workV d cl hs hd r ≤ arrW (rcC d r) (clA hd r) ∧ workV d cl hs hd r ≤ isum (clmV d cl hs r) := by
  have h1 := arr_le (R.v.loss hr).1 hh
  have h2 := R.sum r
  have h3 := R.v.len (cl := cl) (hs := hs) (r := r)
  have h4 := clmV_ok (d := d) R.okc R.okh r
  have h5 : 0 ≤ workV d cl hs hd r ∧ workV d cl hs hd r ≤ arrW (rcC d r) (clA hd r) ∧ workV d cl hs hd r ≤ isum (clmV d cl hs r) := by unfold workV; omega
  refine ⟨?_, h5⟩
  unfold tErr
  rw [if_neg (by omega), if_pos]
  rw [Bool.and_eq_true, decide_eq_true_eq, List.all_eq_true]
  refine ⟨fun c hc => ?_, h5.1, h5.2.2⟩
  unfold okC
  exact decide_eq_true (h4 c hc)
theorem cut_b {r : Nat} {n : Int} (h : 0 ≤ n) : 0 ≤ cut d r n ∧ cut d r n ≤ n ∧ (cut d r n = 0 ∨ (rcC d r).siphon ≤ cut d r n) := by unfold cut; split <;> omega
theorem cut_mono {r : Nat} {n m : Int} (h0 : 0 ≤ n) (h : n ≤ m) : cut d r n ≤ cut d r m := by unfold cut; split <;> split <;> omega
theorem pt_at {r k : Nat} {p : Pt} (h : (ptsV d r)[k]? = some p) : clA (clmV d cl hs r) k = clP cl hs p ∧ k < (clmV d cl hs r).length := by
  refine ⟨clA_at ?_, ?_⟩
  · unfold clmV; rw [List.getElem?_map, h]; rfl
  · rw [clmV_len]; exact (List.getElem?_eq_some_iff.1 h).1
theorem Val.farm (v : Val d) {i : Nat} (hi : i < d.farms.length) : ∃ r k : Nat, r < d.reaches.length ∧ (fmC d i).reach = r ∧ (ptsV d r)[k]? = some (true, i) := by
  obtain ⟨h1, h2⟩ := v.fm i hi
  have hm : (true, i) ∈ ptsV d ((fmC d i).reach.toNat : Nat) := mem_ptsV.2 (.inl ⟨rfl, hi, by simp only; omega⟩)
  obtain ⟨k, hk⟩ := List.getElem?_of_mem hm
  exact ⟨_, k, by omega, by omega, hk⟩
theorem Val.par (v : Val d) {j : Nat} (h0 : 0 < j) (hj : j < d.reaches.length) : ∃ r k : Nat, r < j ∧ (ptsV d r)[k]? = some (false, j) := by
  obtain ⟨h1, h2⟩ := v.up j h0 hj
  have hm : (false, j) ∈ ptsV d ((rcC d j).up.toNat : Nat) := mem_ptsV.2 (.inr ⟨rfl, hj, by simp only; omega⟩)
  obtain ⟨k, hk⟩ := List.getElem?_of_mem hm
  exact ⟨_, k, by omega, hk⟩
variable {E' : Int} {hd' aw' : List Int} {mk' : List Mk}
/-- The heads: none is more than the need. -/
theorem DivV.head (D : DivV d cl hs E hd aw mk) (R : Rdy d cl hs) (hE : 0 ≤ E) : ∀ (r : Nat), r < d.reaches.length → 0 ≤ clA hd r ∧ clA hd r ≤ clA hs r ∧ (clA hd r = 0 ∨ (rcC d r).siphon ≤ clA hd r) := by
  intro r
  induction r using Nat.strongRecOn with
  | ind r ih =>
    intro hr
    by_cases h0 : r = 0
    · subst h0
      rw [D.top]
      have := clA_ok R.okh 0
      have := cut_b (d := d) (r := 0) (n := min E (clA hs 0)) (by omega)
      omega
    · obtain ⟨p, k, hp, hk⟩ := R.v.par (by omega) hr
      have ip := ih p hp (by omega)
      have hb := clA_ok R.okh p
      obtain ⟨he, -⟩ := R.work (hd := hd) (r := p) (by omega) (by omega)
      have A := (D.at_ p (by omega)).mark.awd he
      obtain ⟨e1, e2⟩ := pt_at (cl := cl) (hs := hs) hk
      have b := A.b k e2
      rw [(D.at_ p (by omega)).child k r hk]
      have := cut_b (d := d) (r := r) b.1
      have e3 : clA (clmV d cl hs p) k = clA hs r := e1
      rw [e3] at b this ⊢
      omega
theorem DivV.ok (D : DivV d cl hs E hd aw mk) (R : Rdy d cl hs) (hE : 0 ≤ E) {r : Nat} (hr : r < d.reaches.length) : 0 ≤ clA hd r ∧ clA hd r ≤ 1073741824 := by
  have := D.head R hE r hr; have := clA_ok R.okh r; omega
/-- The awards at the end of a reach. -/
theorem DivV.awd (D : DivV d cl hs E hd aw mk) (R : Rdy d cl hs) (hE : 0 ≤ E) {r : Nat} (hr : r < d.reaches.length) : Awd (clmV d cl hs r) (workV d cl hs hd r) (fun i => ownV (mkA mk r) (clA (clmV d cl hs r) i) i) :=
  (D.at_ r hr).mark.awd (R.work hr (D.ok R hE hr)).1
/-- A division is what it is. -/
theorem DivV.uniq (D : DivV d cl hs E hd aw mk) (D' : DivV d cl hs E hd' aw' mk') (R : Rdy d cl hs) (_hE : 0 ≤ E) : hd = hd' ∧ aw = aw' ∧ mk = mk' := by
  have hh : ∀ (r : Nat), r < d.reaches.length → clA hd r = clA hd' r ∧ mkA mk r = mkA mk' r := by
    intro r
    induction r using Nat.strongRecOn with
    | ind r ih =>
      intro hr
      have e1 : clA hd r = clA hd' r := by
        by_cases h0 : r = 0
        · subst h0; rw [D.top, D'.top]
        · obtain ⟨p, k, hp, hk⟩ := R.v.par (by omega) hr
          rw [(D.at_ p (by omega)).child k r hk, (D'.at_ p (by omega)).child k r hk, (ih p hp (by omega)).2]
      refine ⟨e1, ?_⟩
      have h1 := (D.at_ r hr).mark
      have h2 := (D'.at_ r hr).mark
      unfold workV at h1 h2
      rw [e1] at h1
      exact h1.uniq h2
  have ext : ∀ {l l' : List Int} {n : Nat}, l.length = n → l'.length = n → (∀ i, i < n → clA l i = clA l' i) → l = l' := fun {l l' n} h1 h2 h => by
    refine List.ext_getElem (by omega) fun i q1 q2 => ?_
    have := h i (by omega)
    rwa [clA_at (List.getElem?_eq_getElem q1), clA_at (List.getElem?_eq_getElem q2)] at this
  refine ⟨ext D.lh D'.lh fun r hr => (hh r hr).1, ext D.la D'.la fun i hi => ?_, List.ext_getElem (by rw [D.lm, D'.lm]) fun i q1 q2 => ?_⟩
  · obtain ⟨r, k, hr, -, hk⟩ := R.v.farm hi
    rw [(D.at_ r hr).farm k i hk, (D'.at_ r hr).farm k i hk, (hh r hr).2]
  · have := (hh i (by rw [← D.lm]; exact q1)).2
    unfold mkA at this
    rwa [List.getD_eq_getElem?_getD, List.getD_eq_getElem?_getD, List.getElem?_eq_getElem q1, List.getElem?_eq_getElem q2] at this
/-- With more no farm gets less. -/
theorem DivV.more (D : DivV d cl hs E hd aw mk) (D' : DivV d cl hs E' hd' aw' mk') (R : Rdy d cl hs) (hE : 0 ≤ E) (hEE : E ≤ E') : ∀ i, i < d.farms.length → clA aw i ≤ clA aw' i := by
  have hE' : 0 ≤ E' := by omega
  have wm : ∀ r, r < d.reaches.length → clA hd r ≤ clA hd' r → workV d cl hs hd r ≤ workV d cl hs hd' r := fun r hr h => by
    have := arrW_mono (R.v.loss hr).1 (D.ok R hE hr).1 h
    unfold workV; omega
  have hh : ∀ (r : Nat), r < d.reaches.length → clA hd r ≤ clA hd' r := by
    intro r
    induction r using Nat.strongRecOn with
    | ind r ih =>
      intro hr
      by_cases h0 : r = 0
      · subst h0
        rw [D.top, D'.top]
        have := clA_ok R.okh 0
        exact cut_mono (by omega) (by omega)
      · obtain ⟨p, k, hp, hk⟩ := R.v.par (by omega) hr
        have hp' : p < d.reaches.length := by omega
        rw [(D.at_ p hp').child k r hk, (D'.at_ p hp').child k r hk]
        have A := D.awd R hE hp'
        have A' := D'.awd R hE' hp'
        have hk2 := (pt_at (cl := cl) (hs := hs) hk).2
        exact cut_mono (A.b k hk2).1 (A.mono A' (wm p hp' (ih p hp hp')) k hk2)
  intro i hi
  obtain ⟨r, k, hr, -, hk⟩ := R.v.farm hi
  rw [(D.at_ r hr).farm k i hk, (D'.at_ r hr).farm k i hk]
  exact (D.awd R hE hr).mono (D'.awd R hE' hr) (wm r hr (hh r hr)) k (pt_at (cl := cl) (hs := hs) hk).2
/-- Whoever is awarded all has its claim. -/
theorem Awd.all {l : List Int} {E : Int} {a : Nat → Int} (h : Awd l E a) (he : E = isum l) : ∀ i, i < l.length → a i = clA l i := fun i hi => by
  by_cases q : a i = clA l i
  · exact q
  exfalso
  have hb := h.b i hi
  have := sumN_lt (f := a) (g := clA l) (n := l.length) (fun j hj => (h.b j hj).2) ⟨i, hi, by omega⟩
  rw [h.s, clA_sum] at this
  omega
/-- Nobody gets more than its claim; with enough everybody gets it. -/
theorem DivV.met (D : DivV d cl hs E hd aw mk) (R : Rdy d cl hs) (hE : 0 ≤ E) : ∀ i, i < d.farms.length → 0 ≤ clA aw i ∧ clA aw i ≤ clA cl i ∧ (clA hs 0 ≤ E → clA aw i = clA cl i) := by
  have full : clA hs 0 ≤ E → ∀ (r : Nat), r < d.reaches.length → clA hd r = clA hs r ∧ workV d cl hs hd r = isum (clmV d cl hs r) := by
    intro hq r
    induction r using Nat.strongRecOn with
    | ind r ih =>
      intro hr
      have nb : ∀ j, j < d.reaches.length → 0 ≤ clA hs j ∧ (clA hs j = 0 ∨ (rcC d j).siphon ≤ clA hs j) ∧ isum (clmV d cl hs j) ≤ arrW (rcC d j) (clA hs j) := fun j hj => by
        obtain ⟨l1, l2, l3⟩ := R.v.loss hj
        obtain ⟨b1, -, b3, b4⟩ := needV_b _ _ ⟨l2, l3⟩ l1 (R.nd j hj)
        exact ⟨b1, b3, b4 (R.sum j).1⟩
      have e : clA hd r = clA hs r := by
        by_cases h0 : r = 0
        · subst h0
          rw [D.top]
          have := nb 0 hr
          unfold cut; split <;> omega
        · obtain ⟨p, k, hp, hk⟩ := R.v.par (by omega) hr
          have hp' : p < d.reaches.length := by omega
          obtain ⟨e1, e2⟩ := pt_at (cl := cl) (hs := hs) hk
          rw [(D.at_ p hp').child k r hk, (D.awd R hE hp').all (ih p hp hp').2 k e2, e1]
          show cut d r (clA hs r) = clA hs r
          have := nb r hr
          unfold cut; split <;> omega
      refine ⟨e, ?_⟩
      have := nb r hr
      unfold workV
      rw [e]; omega
  intro i hi
  obtain ⟨r, k, hr, -, hk⟩ := R.v.farm hi
  obtain ⟨e1, e2⟩ := pt_at (cl := cl) (hs := hs) hk
  have e3 : clA (clmV d cl hs r) k = clA cl i := e1
  rw [(D.at_ r hr).farm k i hk]
  have A := D.awd R hE hr
  have b := A.b k e2
  rw [e3] at b
  refine ⟨by rw [e3]; exact b.1, by rw [e3]; exact b.2, fun hq => ?_⟩
  rw [A.all (full hq r hr).2 k e2, e3]
end
end Go.Proofs.Ytcpogcdadlcdaaa

/- Layer 41, plainly: what the parts of a reach got; equal claims at the reach 0. -/
namespace Go.Proofs.Ytcpogcdadlcdaaa
open Go Go.RowKit

theorem pw_len : ∀ {I : List Nat} {n lo : Nat}, I.Pairwise (· < ·) → (∀ i ∈ I, lo ≤ i ∧ i < n) → I.length ≤ n - lo
  | [], _, _, _, _ => by simp
  | a :: t, n, lo, hp, h => by
    obtain ⟨h1, h2⟩ := List.pairwise_cons.1 hp
    have ha := h a List.mem_cons_self
    have := pw_len (n := n) (lo := a + 1) h2 fun i hi => ⟨h1 i hi, (h i (List.mem_cons_of_mem _ hi)).2⟩
    rw [List.length_cons]
    omega
section
variable {d : Dist} {cl hs hd aw : List Int} {mk : List Mk} {E : Int}
theorem DivV.got (D : DivV d cl hs E hd aw mk) (R : Rdy d cl hs) (hE : 0 ≤ E) {r : Nat} (hr : r < d.reaches.length) {k : Nat} (hk : k < (clmV d cl hs r).length) :
    0 ≤ clA (clmV d aw hd r) k ∧ clA (clmV d aw hd r) k ≤ ownV (mkA mk r) (clA (clmV d cl hs r) k) k ∧
    (k < (ptsF d r d.farms.length).length ∨ (∀ j, j < d.reaches.length → (rcC d j).siphon ≤ 0) → clA (clmV d aw hd r) k = ownV (mkA mk r) (clA (clmV d cl hs r) k) k) := by
  rw [clmV_len] at hk
  obtain ⟨p, hp⟩ : ∃ p, (ptsV d r)[k]? = some p := ⟨_, List.getElem?_eq_getElem hk⟩
  obtain ⟨b, i⟩ := p
  have e := (pt_at (cl := aw) (hs := hd) hp).1
  have hk2 := (pt_at (cl := cl) (hs := hs) hp).2
  have A := (D.awd R hE hr).b k hk2
  rw [e]
  cases b with
  | true =>
    have h := (D.at_ r hr).farm k i hp
    show 0 ≤ clA aw i ∧ clA aw i ≤ _ ∧ (_ → clA aw i = _)
    rw [h]
    exact ⟨A.1, Int.le_refl _, fun _ => rfl⟩
  | false =>
    have h := (D.at_ r hr).child k i hp
    have hc := R.v.child (List.mem_of_getElem? hp)
    show 0 ≤ clA hd i ∧ clA hd i ≤ _ ∧ (_ → clA hd i = _)
    rw [h]
    have c := cut_b (d := d) (r := i) A.1
    refine ⟨c.1, c.2.1, fun hq => ?_⟩
    rcases hq with hq | hq
    · exfalso
      unfold ptsV at hp
      rw [List.getElem?_append_left hq] at hp
      have := (mem_ptsF.1 (List.mem_of_getElem? hp)).1
      cases this
    · have := hq i hc.2
      unfold cut
      rw [if_neg (by have := A.1; omega)]
theorem DivV.sum (D : DivV d cl hs E hd aw mk) (R : Rdy d cl hs) (hE : 0 ≤ E) {r : Nat} (hr : r < d.reaches.length) : isum (clmV d aw hd r) ≤ arrW (rcC d r) (clA hd r) := by
  have A := D.awd R hE hr
  have hl : (clmV d aw hd r).length = (clmV d cl hs r).length := by rw [clmV_len, clmV_len]
  rw [← clA_sum, hl]
  have := sumN_le (n := (clmV d cl hs r).length) (f := clA (clmV d aw hd r)) fun k hk => (D.got R hE hr hk).2.1
  rw [A.s] at this
  have := (R.work hr (D.ok R hE hr)).2.2.1
  omega
/-- Some of the parts divide what they have as before. -/
theorem DivV.part (D : DivV d cl hs E hd aw mk) (R : Rdy d cl hs) (hE : 0 ≤ E) {r : Nat} (hr : r < d.reaches.length) {I : List Nat} (hp : I.Pairwise (· < ·)) (hI : ∀ i ∈ I, i < (clmV d cl hs r).length ∧ (i < (ptsF d r d.farms.length).length ∨ (∀ j, j < d.reaches.length → (rcC d j).siphon ≤ 0))) {m : Mk}
    (hm : MarkOf (isum (I.map (clA (clmV d aw hd r)))) (I.map (clA (clmV d cl hs r))) m) : tErr (isum (I.map (clA (clmV d aw hd r)))) (I.map (clA (clmV d cl hs r))) = 0 ∧ awL m (I.map (clA (clmV d cl hs r))) = I.map (clA (clmV d aw hd r)) := by
  have A := D.awd R hE hr
  have e : I.map (clA (clmV d aw hd r)) = I.map (fun i => ownV (mkA mk r) (clA (clmV d cl hs r) i) i) := List.map_congr_left fun i hi => (D.got R hE hr (hI i hi).1).2.2 (hI i hi).2
  have P := A.part (I := I) (fun i hi => (hI i hi).1) hp
  rw [e] at hm ⊢
  have ok : OkL (I.map (clA (clmV d cl hs r))) := fun c hc => by
    obtain ⟨i, -, rfl⟩ := List.mem_map.1 hc
    exact clA_ok (clmV_ok R.okc R.okh r) i
  have hlen : I.length ≤ (clmV d cl hs r).length := by
    have := pw_len (lo := 0) hp fun i hi => ⟨by omega, (hI i hi).1⟩
    omega
  have h664 := R.v.len (cl := cl) (hs := hs) (r := r)
  have s1 := sumN_le (n := (I.map (clA (clmV d cl hs r))).length) (f := fun j => (fun i => ownV (mkA mk r) (clA (clmV d cl hs r) i) i) (I.getD j 0)) (g := clA (I.map (clA (clmV d cl hs r)))) fun j hj => (P.b j hj).2
  have s0 := sumN_le (n := (I.map (clA (clmV d cl hs r))).length) (f := fun _ => 0) (g := fun j => (fun i => ownV (mkA mk r) (clA (clmV d cl hs r) i) i) (I.getD j 0)) fun j hj => (P.b j hj).1
  rw [sumN_zero] at s0
  rw [P.s] at s0 s1
  rw [clA_sum] at s1
  have he : tErr (isum (I.map (fun i => ownV (mkA mk r) (clA (clmV d cl hs r) i) i))) (I.map (clA (clmV d cl hs r))) = 0 := by
    unfold tErr
    rw [if_neg (by rw [List.length_map]; omega), if_pos]
    rw [Bool.and_eq_true, decide_eq_true_eq, List.all_eq_true]
    refine ⟨fun c hc => ?_, s0, s1⟩
    unfold okC
    exact decide_eq_true (ok c hc)
  refine ⟨he, ?_⟩
  have U := (hm.awd he).uniq P
  refine List.ext_getElem (by rw [awL_len, List.length_map, List.length_map]) fun j q1 q2 => ?_
  have hj : j < (I.map (clA (clmV d cl hs r))).length := by rw [awL_len] at q1; exact q1
  have h1 := awL_at (m := m) hj
  rw [List.getElem?_eq_getElem q1] at h1
  injection h1 with h1
  rw [h1, U j hj, List.getElem_map]
  have hj2 : j < I.length := by rw [List.length_map] at hj; exact hj
  show (fun i => ownV (mkA mk r) (clA (clmV d cl hs r) i) i) (I.getD j 0) = _
  rw [List.getD_eq_getElem?_getD, List.getElem?_eq_getElem hj2]; rfl
variable {cl' hs' hd' aw' : List Int} {mk' : List Mk}
/-- Claims at the ends of other reaches matter only through the needs of the children. -/
theorem DivV.others (D : DivV d cl hs E hd aw mk) (D' : DivV d cl' hs' E hd' aw' mk') (R : Rdy d cl hs) (R' : Rdy d cl' hs') (h : clmV d cl hs 0 = clmV d cl' hs' 0) :
    clA hd 0 = clA hd' 0 ∧ mkA mk 0 = mkA mk' 0 ∧ ∀ i, i < d.farms.length → (fmC d i).reach = 0 → clA aw i = clA aw' i := by
  have h0 := R.v.n.1
  have e0 : clA hs 0 = clA hs' 0 := by
    have a := R.nd 0 h0
    have b := R'.nd 0 h0
    rw [h] at a
    rw [a] at b
    injection b
  have e1 : clA hd 0 = clA hd' 0 := by rw [D.top, D'.top, e0]
  have m1 := (D.at_ 0 h0).mark
  have m2 := (D'.at_ 0 h0).mark
  unfold workV at m1 m2
  rw [h, e1] at m1
  have e2 := m1.uniq m2
  refine ⟨e1, e2, fun i hi hr => ?_⟩
  obtain ⟨r, k, hr2, hq, hk⟩ := R.v.farm hi
  obtain rfl : r = 0 := by omega
  rw [(D.at_ 0 h0).farm k i hk, (D'.at_ 0 h0).farm k i hk, e2, h]
end
end Go.Proofs.Ytcpogcdadlcdaaa

/- Layer 41: contracts of least, claims, check, reaches. -/
namespace Go.Proofs.Ytcpogcdadlcdaaa
open Go Go.RowKit

section
variable {D : Nat → Prop} {w : World}
theorem isum_map {α : Type} {f : α → Int} {l : List α} {x : α} : isum ((l ++ [x]).map f) = isum (l.map f) + f x := by rw [List.map_append]; exact isum_snoc
theorem c_dclaims {ps : List Pt} {cl hs : List Int} {A B C : Option Addr} {n c m cb k cc : Nat} (hp : SlR tPt D w A n ps) (hb : SlR tInt D w B m cl) (hh : SlR tInt D w C k hs) (hn : n ≤ 664) (hi : ∀ p ∈ ps, (p.1 = true → p.2 < m) ∧ (p.1 = false → p.2 < k)) (h1 : OkL cl) (h2 : OkL hs) :
    CallZ Try.prog 79 #[.slice A n c, .slice B m cb, .slice C k cc] w (fun v w' => ∃ A' c', v = .tuple #[.slice A' n c', iv (isum (ps.map (clP cl hs)))] ∧ OwnF w w' A' n c' 3 1 ((ps.map (clP cl hs)).map fun x => .int .i64 x)) := by
  have lp := hp.len
  have lb := hb.len
  have lh := hh.len
  have ok : ∀ p, 0 ≤ clP cl hs p ∧ clP cl hs p ≤ 1073741824 := fun p => by
    unfold clP
    have q : ∀ {l : List Int}, OkL l → ∀ i, 0 ≤ clA l i ∧ clA l i ≤ 1073741824 := fun {l} h i => by
      by_cases hi : i < l.length
      · exact clA_b h hi
      · unfold clA; rw [List.getD_eq_getElem?_getD, List.getElem?_eq_none (by omega)]; exact ⟨Int.le_refl _, by decide⟩
    split
    · exact q h1 _
    · exact q h2 _
  have okl : ∀ k : Nat, OkL ((ps.take k).map (clP cl hs)) := fun k c hc => by
    obtain ⟨p, -, rfl⟩ := List.mem_map.1 hc
    exact ok p
  refine fn_rule (args := [.slice A n c, .slice B m cb, .slice C k cc]) Try.func79 (by kernel_rfl) ?_
  refine len ?_
  refine loop_rule (fun s : Nat × Option Addr × Nat => [(13, iv (s.1 : Int)), (6, .slice s.2.1 s.1 s.2.2), (7, iv (isum ((ps.take s.1).map (clP cl hs))))]) (fun s u => s.1 ≤ n ∧ OwnF w u s.2.1 s.1 s.2.2 3 1 (((ps.take s.1).map (clP cl hs)).map fun x => .int .i64 x)) (fun s _ => n - s.1) (0, none, 0) ⟨rfl, rfl, rfl, trivial⟩ ⟨by omega, .nil (.refl _ _)⟩ rfl ?_
  rintro G ⟨j, E, ce⟩ u ⟨hj, own⟩
  have hj : j ≤ n := hj
  have own : OwnF w u E j ce 3 1 (((ps.take j).map (clP cl hs)).map fun x => .int .i64 x) := own
  refine cD (fun hlt => ?_) (fun hge => ?_)
  · have hlt : j < n := by omega
    obtain ⟨b, o, cs, p, rfl, hpj, -, -, hc, rfl⟩ := (hp.ext own.ext).at_ hlt
    have htk : ps.take (j + 1) = ps.take j ++ [p] := by rw [List.take_add_one, hpj]; rfl
    have sb := isum_b (okl j)
    rw [List.length_map, List.length_take] at sb
    have okp := ok p
    obtain ⟨i1, i2⟩ := hi p (List.mem_of_getElem? hpj)
    refine idx j rfl hlt ?_
    refine ldA (encP p) hc rfl ?_
    refine alloc (fun q u1 a1 => ?_)
    refine stA (vs := encP p) a1.blk rfl (Nat.le_of_ble_eq_true rfl) (by simp [Value.oneCell']) (fun u2 b2 k2 z2 => ?_)
    have b2 : Blk u2 q 151 (encP p) := b2
    have ea := a1.at_
    have x2 : Ext u u2 := a1.ext.then k2 fun b hb _ e => by omega
    have own := own.then x2
    obtain ⟨vp, hvp⟩ : ∃ vp, vp = clP cl hs p := ⟨_, rfl⟩
    have nxt : ∀ (G : Fr) (K : KK), True := fun _ _ => trivial
    obtain ⟨pf, pi⟩ := p
    cases pf with
    | true =>
      have i1 : pi < m := i1 rfl
      obtain ⟨b', o', cs', x, rfl, hx, -, -, hc', rfl, -⟩ := (hb.ext own.ext).at_ i1
      have ex : x = vp := by rw [hvp]; show x = clA cl pi; rw [clA_at hx]
      refine fldA ?_
      refine ld (.bool true) (b2.cell rfl) ?_
      refine fldA ?_
      refine ld (iv (pi : Int)) (b2.cell rfl) ?_
      refine idx pi rfl i1 ?_
      refine ld (iv x) (hc' 0 _ rfl) ?_
      refine lit [iv x] (fun g u3 hq => ?_)
      refine appF (own.then hq.ext) (hq.src (sz := 1) rfl) (by omega) (fun A' c' u4 o4 _ _ => ?_)
      refine arI (by dsimp only; omega) ?_
      refine arI (by omega) ?_
      refine next (j + 1, A', c') ⟨by rw [Int.natCast_add]; rfl, rfl, by rw [htk, isum_map, ← hvp, ← ex]; rfl, trivial⟩ ⟨by show j + 1 ≤ n; omega, ?_⟩ (by show n - (j + 1) < n - j; omega)
      show OwnF w u4 A' (j + 1) c' 3 1 (((ps.take (j + 1)).map (clP cl hs)).map fun x => .int .i64 x)
      rw [htk, List.map_append, List.map_append]
      have e : ([(true, pi)] : List Pt).map (clP cl hs) = [x] := by rw [ex, hvp]; rfl
      rw [e]; exact o4
    | false =>
      have i2 : pi < k := i2 rfl
      obtain ⟨b', o', cs', x, rfl, hx, -, -, hc', rfl, -⟩ := (hh.ext own.ext).at_ i2
      have ex : x = vp := by rw [hvp]; show x = clA hs pi; rw [clA_at hx]
      refine fldA ?_
      refine ld (.bool false) (b2.cell rfl) ?_
      refine fldA ?_
      refine ld (iv (pi : Int)) (b2.cell rfl) ?_
      refine idx pi rfl i2 ?_
      refine ld (iv x) (hc' 0 _ rfl) ?_
      refine lit [iv x] (fun g u3 hq => ?_)
      refine appF (own.then hq.ext) (hq.src (sz := 1) rfl) (by omega) (fun A' c' u4 o4 _ _ => ?_)
      refine arI (by dsimp only; omega) ?_
      refine arI (by omega) ?_
      refine next (j + 1, A', c') ⟨by rw [Int.natCast_add]; rfl, rfl, by rw [htk, isum_map, ← hvp, ← ex]; rfl, trivial⟩ ⟨by show j + 1 ≤ n; omega, ?_⟩ (by show n - (j + 1) < n - j; omega)
      show OwnF w u4 A' (j + 1) c' 3 1 (((ps.take (j + 1)).map (clP cl hs)).map fun x => .int .i64 x)
      rw [htk, List.map_append, List.map_append]
      have e : ([(false, pi)] : List Pt).map (clP cl hs) = [x] := by rw [ex, hvp]; rfl
      rw [e]; exact o4
  · obtain rfl : j = n := by omega
    have e : ps.take j = ps := List.take_of_length_le (by omega)
    rw [e] at own
    exact ret2 (.slice E j ce) (iv (isum ((ps.take j).map (clP cl hs)))) rfl rfl ⟨E, ce, by rw [e], own⟩
theorem c_dcheck1 {x : Int} : CallZ Try.prog 77 #[iv x] w (fun v w' => v = .bool (!okC x) ∧ Ext w w') := by
  refine fn_rule (args := [iv x]) Try.func77 (by kernel_rfl) ?_
  have e : okC x = decide (0 ≤ x ∧ x ≤ 1073741824) := rfl
  refine cD (fun g => ?_) (fun g => ?_)
  · exact ret1 (.bool true) rfl ⟨by rw [e, decide_eq_false (by omega)]; rfl, .refl _ _⟩
  refine cD (fun g2 => ?_) (fun g2 => ?_)
  · exact ret1 (.bool true) rfl ⟨by rw [e, decide_eq_false (by omega)]; rfl, .refl _ _⟩
  · exact ret1 (.bool false) rfl ⟨by rw [e, decide_eq_true (by omega)]; rfl, .refl _ _⟩
theorem c_indI {xs : List Int} {A : Option Addr} {n c : Nat} (h : SlR tInt D w A n xs) : CallZ Try.prog 83 #[.slice A n c, .func (.func 77) #[] #[]] w (fun v w' => (∃ i : Int, v = iv i ∧ (0 ≤ i ↔ xs.all okC = false)) ∧ Ext w w') := by
  refine fn_rule (args := [.slice A n c, .func (.func 77) #[] #[]]) Try.func83 (by kernel_rfl) ?_
  refine len ?_
  refine loop_rule (fun k : Nat => [(8, iv (k : Int))]) (fun k w' => k ≤ n ∧ Ext w w' ∧ xs.all okC = (xs.drop k).all okC) (fun k _ => n - k) 0 ⟨rfl, trivial⟩ ⟨by omega, .refl _ _, rfl⟩ rfl ?_
  rintro G k w' ⟨hk, xw, he⟩
  refine cD (fun hlt => ?_) (fun hge => ?_)
  · obtain ⟨b, o, cs, x, rfl, hx, hdx, -, hc, rfl, -⟩ := (h.ext xw).at_ (show k < n by omega)
    rw [hdx, List.all_cons] at he
    refine idx k rfl (by omega) ?_
    refine ld (iv x) (hc 0 _ rfl) ?_
    refine callE (c_dcheck1 (x := x)) (fun w2 g x2 => ?_) (fun w2 g x2 => ?_)
    · refine ret1 (iv (k : Int)) rfl ⟨⟨k, rfl, ?_⟩, xw.trans x2⟩
      simp only [Bool.not_eq_true'] at g
      rw [he, g]; simp
    · simp only [Bool.not_eq_false'] at g
      refine arI (by have := h.le; omega) ?_
      refine next (k + 1) ⟨by rw [Int.natCast_add]; rfl, trivial⟩ ⟨by omega, xw.trans x2, ?_⟩ (by omega)
      rw [he, g]; rfl
  · refine ret1 (iv (-1)) rfl ⟨⟨-1, rfl, ?_⟩, xw⟩
    rw [he, List.drop_eq_nil_of_le (by have := h.len; omega)]; simp
theorem c_contI {xs : List Int} {A : Option Addr} {n c : Nat} (h : SlR tInt D w A n xs) : CallZ Try.prog 76 #[.slice A n c, .func (.func 77) #[] #[]] w (fun v w' => v = .bool (!xs.all okC) ∧ Ext w w') := by
  refine fn_rule (args := [.slice A n c, .func (.func 77) #[] #[]]) Try.func76 (by kernel_rfl) ?_
  refine call_of (c_indI h) ?_
  rintro _ w' ⟨⟨i, rfl, hi⟩, xw⟩
  refine cD (fun g => ?_) (fun g => ?_)
  · exact ret1 (.bool true) rfl ⟨by rw [hi.1 g]; rfl, xw⟩
  · exact ret1 (.bool false) rfl ⟨by rw [show xs.all okC = true from by cases ha : xs.all okC with | true => rfl | false => exact absurd (hi.2 ha) g]; rfl, xw⟩
theorem c_dcheck {csd : List Value} {d : Dist} {cl : List Int} {A : Option Addr} {n c : Nat} (hd : DiR D w csd d) (hl : SlR tInt D w A n cl) : CallZ Try.prog 67 #[.agg csd.toArray, .slice A n c] w (fun v w' => v = iv (divErr d cl) ∧ Ext w w') := by
  have hd0 := hd
  obtain ⟨A1, n1, c1, A2, n2, c2, A3, n3, c3, A4, n4, c4, A5, n5, c5, A6, n6, c6, rfl, hr, hf, -⟩ := hd.ex
  have lf := hf.len
  have ll := hl.len
  refine fn_rule (args := [.agg #[.string d.name, iv d.hours, iv d.cap, iv d.start, .slice A1 n1 c1, .slice A2 n2 c2, .slice A3 n3 c3, .slice A4 n4 c4, .slice A5 n5 c5, .slice A6 n6 c6], .slice A n c]) Try.func67 (by kernel_rfl) ?_
  refine box (fun b1 w1 h1 => ?_)
  have B1 : Blk w1 b1 38 [.string d.name, iv d.hours, iv d.cap, iv d.start, .slice A1 n1 c1, .slice A2 n2 c2, .slice A3 n3 c3, .slice A4 n4 c4, .slice A5 n5 c5, .slice A6 n6 c6] := h1.blk
  refine ldA [.string d.name, iv d.hours, iv d.cap, iv d.start, .slice A1 n1 c1, .slice A2 n2 c2, .slice A3 n3 c3, .slice A4 n4 c4, .slice A5 n5 c5, .slice A6 n6 c6] (.blk B1) rfl ?_
  refine call_of (c_eCheck (hd0.ext h1.ext)) ?_
  rintro _ w2 ⟨rfl, x2⟩
  have B1 := B1.ext x2
  have xx := h1.ext.trans x2
  refine cN (fun g => ?_) (fun g => ?_)
  · exact ret1 (iv (dErr d)) rfl ⟨by unfold divErr; rw [if_pos g], xx⟩
  have e0 : divErr d cl = if claimOk d cl then 0 else 410 := by unfold divErr; rw [if_neg (fun h => h g)]
  refine len ?_
  refine fldA ?_
  refine ld (.slice A2 n2 c2) (B1.cell rfl) ?_
  refine len ?_
  refine cN (fun g1 => ?_) (fun g1 => ?_)
  · exact ret1 (iv 410) rfl ⟨by rw [e0, if_neg]; unfold claimOk; rw [decide_eq_false (by omega)]; simp, xx⟩
  refine callE (c_contI (hl.ext xx)) (fun w3 g2 e3 => ?_) (fun w3 g2 e3 => ?_)
  · simp only [Bool.not_eq_true'] at g2
    exact ret1 (iv 410) rfl ⟨by rw [e0, if_neg]; unfold claimOk; rw [g2]; simp, xx.trans e3⟩
  · simp only [Bool.not_eq_false'] at g2
    exact ret1 (iv 0) rfl ⟨by rw [e0, if_pos]; unfold claimOk; rw [g2, decide_eq_true (by omega)]; rfl, xx.trans e3⟩
theorem c_dreaches {d : Dist} {A1 A2 A3 A4 A5 A6 : Option Addr} {n1 c1 n2 c2 n3 c3 n4 c4 n5 c5 n6 c6 g : Nat} {lv : Bool} : CallZ Try.prog 78 #[.agg #[.string d.name, iv d.hours, iv d.cap, iv d.start, .slice A1 n1 c1, .slice A2 n2 c2, .slice A3 n3 c3, .slice A4 n4 c4, .slice A5 n5 c5, .slice A6 n6 c6, .map (some g)], .bool lv] w (fun v w' => ∃ b1 b2, v = .func (.func 84) #[] #[ptr b1, ptr b2] ∧ Ext w w' ∧ Blk w' b1 138 [.string d.name, iv d.hours, iv d.cap, iv d.start, .slice A1 n1 c1, .slice A2 n2 c2, .slice A3 n3 c3, .slice A4 n4 c4, .slice A5 n5 c5, .slice A6 n6 c6, .map (some g)] ∧ Blk w' b2 4 [.bool lv] ∧ w.heap.size ≤ b1 ∧ b1 < b2) := by
  refine fn_rule (args := [.agg #[.string d.name, iv d.hours, iv d.cap, iv d.start, .slice A1 n1 c1, .slice A2 n2 c2, .slice A3 n3 c3, .slice A4 n4 c4, .slice A5 n5 c5, .slice A6 n6 c6, .map (some g)], .bool lv]) Try.func78 (by kernel_rfl) ?_
  refine box (fun b1 w1 h1 => ?_)
  refine box (fun b2 w2 h2 => ?_)
  have e1 := h1.at_
  have e2 := h2.at_
  have s1 := h1.size
  exact ret1 (.func (.func 84) #[] #[ptr b1, ptr b2]) rfl ⟨b1, b2, rfl, h1.ext.trans h2.ext, h1.blk.ext h2.ext, h2.blk, by omega, by omega⟩
/-- The index of the k-th reach that comes. -/
def ixR (n : Nat) (lv : Bool) (k : Nat) : Nat := if lv then n - 1 - k else k
theorem c_dreaches1 {d : Dist} {A1 A2 A3 A4 A5 A6 : Option Addr} {n1 c1 n2 c2 n3 c3 n4 c4 n5 c5 n6 c6 g b1 b2 l : Nat} {lv : Bool} {D D' : Nat → Prop} {Q : World → Prop} {w w0 : World} (J : Nat → World → Prop) (hD1 : D b1) (hD2 : D b2) (hDD : ∀ b, D' b → D b)
    (h1 : Blk w b1 138 [.string d.name, iv d.hours, iv d.cap, iv d.start, .slice A1 n1 c1, .slice A2 n2 c2, .slice A3 n3 c3, .slice A4 n4 c4, .slice A5 n5 c5, .slice A6 n6 c6, .map (some g)]) (h2 : Blk w b2 4 [.bool lv]) (ht : TreR D' w g d) (hn : n1 = d.reaches.length ∧ n1 ≤ 64) (hw0 : w0 = w)
    (hstep : ∀ (k : Nat) A n c u, k < n1 → J k u → Kept D w u → SlR tPt D' u A n (ptsV d (ixR n1 lv k : Nat)) → n ≤ c → YieldP Try.prog l [iv (ixR n1 lv k : Int), .slice A n c].toArray (fun v u' => (v = .bool true ∧ J (k + 1) u' ∧ Kept D w0 u') ∨ (v = .bool false ∧ Q u')) u)
    (h0 : J 0 w) : CallZ Try.prog 84 #[.func (.yield l) #[] #[], ptr b1, ptr b2] w (fun _ w' => (J n1 w' ∧ Kept D w0 w') ∨ Q w') := by
  subst hw0
  refine fn_rule (args := [.func (.yield l) #[] #[], ptr b1, ptr b2]) Try.func84 (by kernel_rfl) ?_
  refine fldA ?_
  refine fldA ?_
  refine ld (.slice A1 n1 c1) (h1.cell rfl) ?_
  refine len ?_
  refine loop_rule (fun k : Nat => [(9, iv (k : Int))]) (fun k u => k ≤ n1 ∧ J k u ∧ Kept D w0 u) (fun k _ => n1 - k) 0 ⟨rfl, trivial⟩ ⟨by omega, h0, .refl _ _⟩ rfl ?_
  rintro G k u ⟨hk, hj, ku⟩
  have B1 := h1.kept ku hD1
  have B2 := h2.kept ku hD2
  have T := ht.kept ku fun b _ h => hDD b h
  refine cD (fun hlt => ?_) (fun hge => ?_)
  · have hlt : k < n1 := by omega
    obtain ⟨-, m, Mm, hm⟩ := T
    obtain ⟨A, n, c, e, hs, hc⟩ := hm ((ixR n1 lv k : Nat) : Int)
    have st := hstep k A n c u hlt hj ku hs hc
    refine ld (.bool lv) (B2.cell rfl) ?_
    cases lv with
    | true =>
      refine fldA ?_
      refine fldA ?_
      refine ld (.slice A1 n1 c1) (B1.cell rfl) ?_
      refine len ?_
      refine arI (by omega) ?_
      refine arI (by omega) ?_
      have ei : ((n1 : Int) - 1 - (k : Int)) = ((ixR n1 true k : Nat) : Int) := by unfold ixR; rw [if_pos rfl]; omega
      rw [ei]
      refine fldA ?_
      refine ld (.map (some g)) (B1.cell rfl) ?_
      refine lookG1 (kv := kvI) ((ixR n1 true k : Nat) : Int) (.slice A n c) (fun z hz => ⟨m, by rw [hz]; exact Mm, e⟩) ?_
      refine yield_of st ?_
      rintro _ u2 (⟨rfl, hj2, k2⟩ | ⟨rfl, hq⟩)
      · refine arI (by omega) ?_
        exact next (k + 1) ⟨by rw [Int.natCast_add]; rfl, trivial⟩ ⟨by omega, hj2, k2⟩ (by omega)
      · exact ret0 (.inr hq)
    | false =>
      have ei : ((k : Nat) : Int) = ((ixR n1 false k : Nat) : Int) := by unfold ixR; rw [if_neg (by simp)]
      rw [show ixR n1 false k = k from by unfold ixR; rw [if_neg (by simp)]] at st e
      refine fldA ?_
      refine ld (.map (some g)) (B1.cell rfl) ?_
      refine lookG1 (kv := kvI) ((k : Nat) : Int) (.slice A n c) (fun z hz => ⟨m, by rw [hz]; exact Mm, e⟩) ?_
      refine yield_of st ?_
      rintro _ u2 (⟨rfl, hj2, k2⟩ | ⟨rfl, hq⟩)
      · refine arI (by omega) ?_
        exact next (k + 1) ⟨by rw [Int.natCast_add]; rfl, trivial⟩ ⟨by omega, hj2, k2⟩ (by omega)
      · exact ret0 (.inr hq)
  · obtain rfl : k = n1 := by omega
    exact ret0 (.inl ⟨hj, ku⟩)
end
end Go.Proofs.Ytcpogcdadlcdaaa

/- Layer 41: contract of needs. -/
namespace Go.Proofs.Ytcpogcdadlcdaaa
open Go Go.RowKit

theorem needsN_none {d : Dist} {cl : List Int} {k : Nat} (h : needsN d cl k = none) : ∀ m, k ≤ m → needsN d cl m = none
  | 0, hm => by obtain rfl : k = 0 := by omega
                exact h
  | m + 1, hm => by
    by_cases e : k = m + 1
    · rw [← e]; exact h
    · show (match needsN d cl m with | none => none | some hs => _) = none
      rw [needsN_none h m (by omega)]
theorem needsN_zero {d : Dist} {cl : List Int} : ∀ (k : Nat) {hs : List Int}, k ≤ d.reaches.length → needsN d cl k = some hs → hs.length = d.reaches.length ∧ ∀ i, i < d.reaches.length - k → clA hs i = 0
  | 0, hs, _, h => by
    injection h with h; subst h
    refine ⟨List.length_replicate .., fun i hi => ?_⟩
    unfold clA
    rw [List.getD_eq_getElem?_getD, List.getElem?_replicate]
    split <;> rfl
  | k + 1, hs, hk, h => by
    unfold needsN at h
    cases h1 : needsN d cl k with
    | none => rw [h1] at h; cases h
    | some hs0 =>
      obtain ⟨e1, e2⟩ := needsN_zero k (by omega) h1
      rw [h1] at h
      dsimp only at h
      cases h2 : needV (rcC d (d.reaches.length - 1 - k)) (isum (clmV d cl hs0 (d.reaches.length - 1 - k))) with
      | none => rw [h2] at h; cases h
      | some u =>
        rw [h2] at h
        injection h with h; subst h
        refine ⟨by rw [List.length_set]; exact e1, fun i hi => ?_⟩
        rw [clA_set (by omega), if_neg (by omega)]
        exact e2 i (by omega)
theorem needsN_step {d : Dist} {cl hs : List Int} {k i : Nat} {r : Reach} (h : needsN d cl k = some hs) (hi : i = d.reaches.length - 1 - k) (hr : rcC d i = r) : needsN d cl (k + 1) = (needV r (isum (clmV d cl hs i))).map fun v => hs.set i v := by
  subst hi hr
  rw [needsN, h]
  dsimp only
  cases needV _ _ <;> rfl
abbrev ivs (l : List Int) : List Value := l.map fun x => .int .i64 x
theorem okL_i64 {l : List Int} (h : OkL l) : ∀ x ∈ l, I64 x := fun x hx => by have := h x hx; unfold I64; omega
theorem blk_ints {w : World} {b n : Nat} {t : TypeId} {l : List Int} {D : Nat → Prop} (h : Blk w b t (ivs l)) (hn : n = l.length) (hl : OkL l) (hle : n ≤ 140737488355328) (hD : D b) : SlR tInt D w (some (ad b 0)) n l :=
  SlR.of_cells hn hle hD (CellsAt.blk h) (flat_ints (okL_i64 hl))
theorem ivs_set {l : List Int} {i : Nat} {x : Int} : (ivs l).set i (iv x) = ivs (l.set i x) := by unfold ivs; rw [List.map_set]
section
variable {D : Nat → Prop} {w : World}
set_option maxRecDepth 8000 in
theorem c_dneeds {d : Dist} {cl : List Int} {A1 A2 A3 A4 A5 A6 A : Option Addr} {n1 c1 n2 c2 n3 c3 n4 c4 n5 c5 n6 c6 n c g : Nat} (hv : Val d) (hr : SlR tReach D w A1 n1 d.reaches) (ht : TreR D w g d) (hl : SlR tInt D w A n cl) (hk : OkL cl) (hn : n = d.farms.length) :
    CallZ Try.prog 69 #[.agg #[.string d.name, iv d.hours, iv d.cap, iv d.start, .slice A1 n1 c1, .slice A2 n2 c2, .slice A3 n3 c3, .slice A4 n4 c4, .slice A5 n5 c5, .slice A6 n6 c6, .map (some g)], .slice A n c] w (fun v w' => Ext w w' ∧ ((needsV d cl = none ∧ v = .tuple #[.slice none 0 0, .bool false]) ∨
      ∃ hs bh, needsV d cl = some hs ∧ v = .tuple #[.slice (some (ad bh 0)) n1 n1, .bool true] ∧ w.heap.size ≤ bh ∧ Blk w' bh 3 (ivs hs))) := by
  have lr := hr.len
  have hvn := hv.n
  refine fn_rule (args := [.agg #[.string d.name, iv d.hours, iv d.cap, iv d.start, .slice A1 n1 c1, .slice A2 n2 c2, .slice A3 n3 c3, .slice A4 n4 c4, .slice A5 n5 c5, .slice A6 n6 c6, .map (some g)], .slice A n c]) Try.func69 (by kernel_rfl) ?_
  refine box (fun b2 w1 h1 => ?_)
  refine box (fun b3 w2 h2 => ?_)
  refine alloc (fun b4 w3 h3 => ?_)
  refine alloc (fun b5 w4 h4 => ?_)
  have e1 := h1.at_
  have e2 := h2.at_
  have e3 := h3.at_
  have e4 := h4.at_
  have s1 := h1.size
  have s2 := h2.size
  have s3 := h3.size
  have s4 := h4.size
  have x4 : Ext w w4 := ((h1.ext.trans h2.ext).trans h3.ext).trans h4.ext
  have B2 : Blk w4 b2 138 [.string d.name, iv d.hours, iv d.cap, iv d.start, .slice A1 n1 c1, .slice A2 n2 c2, .slice A3 n3 c3, .slice A4 n4 c4, .slice A5 n5 c5, .slice A6 n6 c6, .map (some g)] := h1.blk.ext ((h2.ext.trans h3.ext).trans h4.ext)
  have B3 : Blk w4 b3 39 [.slice A n c] := h2.blk.ext (h3.ext.trans h4.ext)
  have B4 : Blk w4 b4 39 [.slice none 0 0] := h3.blk.ext h4.ext
  have B5 : Blk w4 b5 4 [.bool false] := h4.blk
  refine fldA ?_
  refine fldA ?_
  refine ld (.slice A1 n1 c1) (B2.cell rfl) ?_
  refine len ?_
  refine mslc (sz := 1) (zv := iv 0) n1 rfl rfl (by omega) (by omega) rfl (by decide) (fun bh w5 h5 => ?_)
  have e5 := h5.at_
  have s5 := h5.size
  refine st1 (B4.ext h5.ext) rfl (fun w6 B4 k6 => ?_)
  have s6 := k6.size
  have Bh : Blk w6 bh 3 (ivs (List.replicate n1 0)) := by
    have q := h5.blk.kept k6 (by omega)
    have e : ivs (List.replicate n1 0) = (List.replicate n1 (cellsL (iv 0))).flatten := by
      unfold ivs
      rw [List.map_replicate]
      show List.replicate n1 (iv 0) = (List.replicate n1 [iv 0]).flatten
      rw [List.flatten_replicate_singleton]
    rw [e]; exact q
  have B2 := (B2.ext h5.ext).kept k6 (by omega)
  have B3 := (B3.ext h5.ext).kept k6 (by omega)
  have B5 := (B5.ext h5.ext).kept k6 (by omega)
  have x6 : Ext w w6 := (x4.trans h5.ext).then k6 fun b hb _ e => by omega
  refine ldA [.string d.name, iv d.hours, iv d.cap, iv d.start, .slice A1 n1 c1, .slice A2 n2 c2, .slice A3 n3 c3, .slice A4 n4 c4, .slice A5 n5 c5, .slice A6 n6 c6, .map (some g)] (.blk B2) rfl ?_
  refine call_of (c_dreaches (d := d) (lv := true)) ?_
  rintro _ w7 ⟨b6, b7, rfl, x7, C6, C7, hb6, hb67⟩
  have s7 := x7.size
  have lc7 := C7.lt
  have B2 := B2.ext x7
  have B3 := B3.ext x7
  have B4 := B4.ext x7
  have B5 := B5.ext x7
  have Bh := Bh.ext x7
  have lb2 := B2.lt
  refine range (gf := 84) (lb := #[ptr b6, ptr b7]) rfl (fun fn tmps w8 R hRR hF' hwf x8 z8 hD8 hl8 => ?_)
  show CallZ _ _ #[.func (.yield (w7.heap.size + 1)) #[] #[], ptr b6, ptr b7] w8 _
  have x08 : Ext w w8 := (x6.trans x7).trans x8
  have B2 := B2.ext x8
  have B3 := B3.ext x8
  have B4 := B4.ext x8
  have B5 := B5.ext x8
  have Bh := Bh.ext x8
  have C6 := C6.ext x8
  have C7 := C7.ext x8
  have z04 := x4.size
  refine (c_dreaches1 (Q := fun u => ∃ r, LoopAt u (w7.heap.size + 1) r ∧ r.state ≠ .busy ∧ r.pending = some .ret ∧ needsV d cl = none ∧ Blk u b4 39 [.slice none 0 0] ∧ Blk u b5 4 [.bool false] ∧ Kept (fun b => b ≠ bh ∧ b ≠ w7.heap.size + 1 ∧ b ≠ b4 ∧ b ≠ b5) w8 u)
    (D := fun b => b ≠ bh ∧ b ≠ w7.heap.size + 1) (D' := fun b => b < w.heap.size) (fun k u => ∃ hs, needsN d cl k = some hs ∧ Blk u bh 3 (ivs hs) ∧ LoopAt u (w7.heap.size + 1) R)
    ⟨by omega, by omega⟩ ⟨by omega, by omega⟩ (fun b hb => ⟨by omega, by omega⟩) C6 C7 ((show TreR (fun b => b < w.heap.size) w g d from ⟨ht.ex.elim fun m hm => hm.1.lt, ht.ex.imp fun m hm => ⟨hm.1, fun r => by obtain ⟨A, n, c, e, hs, hc⟩ := hm.2 r; exact ⟨A, n, c, e, hs.more (by decide) fun b hb _ => hb, hc⟩⟩⟩).ext x08) ⟨by omega, by omega⟩ rfl ?_ ⟨_, rfl, by rw [lr]; exact Bh, hl8⟩).mono ?_
  · rintro k P np cp u hkn ⟨hs, hns, bhu, lu⟩ ku sp hcp
    obtain ⟨lhs, ohs, -⟩ := needsN_ok hv k (by omega) hns
    obtain ⟨-, zhs⟩ := needsN_zero k (by omega) hns
    have hi : ixR n1 true k = d.reaches.length - 1 - k := by unfold ixR; rw [if_pos rfl, lr]
    obtain ⟨i, hie⟩ : ∃ i, i = ixR n1 true k := ⟨_, rfl⟩
    rw [← hie] at sp ⊢
    rw [← hie] at hi
    have hin : i < d.reaches.length := by omega
    obtain ⟨r, hri⟩ : ∃ r, d.reaches[i]? = some r := ⟨_, List.getElem?_eq_getElem hin⟩
    have hrc := rcC_at hri
    obtain ⟨rl1, rl2, rl3⟩ := hv.loss hin
    rw [hrc] at rl1 rl2 rl3
    have step : needsN d cl (k + 1) = (needV r (isum (clmV d cl hs i))).map fun v => hs.set i v := needsN_step hns hi hrc
    have none_ : needV r (isum (clmV d cl hs i)) = none → needsV d cl = none := fun h => needsN_none (k := k + 1) (by rw [step, h]; rfl) _ (by omega)
    obtain ⟨tot, htot⟩ : ∃ t, t = isum (clmV d cl hs i) := ⟨_, rfl⟩
    have okc := clmV_ok (d := d) hk ohs i
    have tb := isum_b okc
    have lcl := hv.len (cl := cl) (hs := hs) (r := i)
    have tb2 : 0 ≤ tot ∧ tot ≤ 712964571136 := by
      rw [htot]
      refine ⟨tb.1, Int.le_trans tb.2 ?_⟩
      have : ((clmV d cl hs i).length : Int) ≤ 664 := by omega
      omega
    rw [← htot] at step none_
    subst hRR
    have ll := lu.lt
    refine yield_rule (args := [iv (i : Int), .slice P np cp]) lu rfl rfl hF' hwf ?_
    refine mid' lu (fun u1 k1 z1 l1 => ?_)
    have ku1 : Kept (fun b => b ≠ bh ∧ b ≠ w7.heap.size + 1) w8 u1 := ku.then k1 fun b _ h => h.2
    have q2 := B2.kept ku1 ⟨by omega, by omega⟩
    have q3 := B3.kept ku1 ⟨by omega, by omega⟩
    have q4 := B4.kept ku1 ⟨by omega, by omega⟩
    have q5 := B5.kept ku1 ⟨by omega, by omega⟩
    have kw1 : Kept (fun b => b < w.heap.size) w u1 := (Ext.any x08).then ku1 fun b hb h => ⟨by omega, by omega⟩
    have cl1 : SlR tInt (fun b => b < w.heap.size) u1 A n cl := (hl.more (D' := fun b => b < w.heap.size) (by decide) fun b hb _ => hb).kept kw1 fun b _ h => h
    have rr1 : SlR tReach (fun b => b < w.heap.size) u1 A1 n1 d.reaches := (hr.more (D' := fun b => b < w.heap.size) (by decide) fun b hb _ => hb).kept kw1 fun b _ h => h
    have bh1 := bhu.kept k1 (by have := bhu.lt; omega)
    have sp1 := sp.kept k1 fun b hb h => by omega
    have lsp := sp1.len
    have hs1 : SlR tInt (fun b => b = bh) u1 (some (ad bh 0)) n1 hs := blk_ints bh1 (by omega) ohs (by omega) rfl
    refine ld (.slice A n c) (q3.cell rfl) ?_
    refine ld (.slice (some (ad bh 0)) n1 n1) (q4.cell rfl) ?_
    refine call_of (c_dclaims (D := fun _ => True) (sp1.more (by decide) fun _ _ _ => trivial) (cl1.more (by decide) fun _ _ _ => trivial) (hs1.more (by decide) fun _ _ _ => trivial) (by rw [← lsp, ← clmV_len (cl := cl) (hs := hs)]; exact lcl) (fun p hp => ?_) hk ohs) ?_
    · rcases mem_ptsV.1 hp with h | h
      · exact ⟨fun _ => by omega, fun e => (by rw [h.1] at e; cases e)⟩
      · exact ⟨fun e => (by rw [h.1] at e; cases e), fun _ => by omega⟩
    rintro _ u2 ⟨A', c', rfl, o2⟩
    have x12 := o2.ext
    have eT : isum ((ptsV d (i : Int)).map (clP cl hs)) = tot := htot.symm
    rw [eT]
    have ku2 : Kept (fun b => b ≠ bh ∧ b ≠ w7.heap.size + 1) w8 u2 := ku1.then x12 fun b _ h => trivial
    have l2 := l1.kept x12 trivial
    have q2 := q2.ext x12
    have q4 := q4.ext x12
    have q5 := q5.ext x12
    have bh2 := bh1.ext x12
    have rr2 := rr1.ext x12
    have kw2 := kw1.then x12 fun b hb _ => trivial
    have kuu : Kept (fun b => b ≠ bh ∧ b ≠ w7.heap.size + 1) u u2 := (k1.weak fun b _ h => h.2).then x12 fun b _ h => trivial
    refine cD (fun g0 => ?_) (fun g0 => ?_)
    · refine roundN' _ l2 (fun u3 k3 l3 => ?_)
      refine .inl ⟨rfl, ⟨hs, ?_, bh2.kept k3 (by have := bh2.lt; omega), l3⟩, ku2.then k3 fun b _ h => h.2⟩
      rw [step]
      unfold needV
      rw [if_pos g0]
      show some (hs.set i 0) = some hs
      congr 1
      refine List.ext_getElem (by rw [List.length_set]) fun j p1 p2 => ?_
      rw [List.getElem_set]
      split
      · rename_i e
        subst e
        have := zhs i (by omega)
        rw [clA_at (List.getElem?_eq_getElem p2)] at this
        exact this.symm
      · rfl
    refine cD (fun g1 => ?_) (fun g1 => ?_)
    · have hno := none_ (by unfold needV; rw [if_neg g0, if_pos (by omega)])
      refine st1 q4 rfl (fun u3 p4 k3 => ?_)
      refine st1 (q5.kept k3 (by omega)) rfl (fun u4 p5 k4 => ?_)
      refine roundR' _ ((l2.kept k3 (by omega)).kept k4 (by omega)) (fun u5 k5 l5 => ?_)
      refine .inr ⟨rfl, _, l5, by simp, rfl, hno, (p4.kept k4 (by omega)).kept k5 (by omega), p5.kept k5 (by omega), ?_⟩
      exact (((ku2.weak fun b _ h => ⟨h.1, h.2.1⟩).then k3 fun b _ h => h.2.2.1).then k4 fun b _ h => h.2.2.2).then k5 fun b _ h => h.2.1
    obtain ⟨bb, oo, cs, y, rfl, hy, -, -, hc, rfl⟩ := rr2.at_ (k := i) (by omega)
    obtain rfl : r = y := by rw [hri] at hy; injection hy
    refine fldA ?_
    refine fldA ?_
    refine ld (.slice (some (ad bb oo)) n1 c1) (q2.cell rfl) ?_
    refine idx i rfl (by omega) ?_
    refine ldA r.c hc rfl ?_
    refine call_of (c_lNeed (r := r) (x := tot)) ?_
    rintro _ u3 ⟨rfl, x3⟩
    have er : lErr r tot = 0 := lErr_ok.2 ⟨rl1, by omega, by omega⟩
    have en : needL r tot = if lvW r tot > 1073741824 then (0, false) else (lvW r tot, true) := by unfold needL; rw [if_neg (by simp [er])]
    have ku3 : Kept (fun b => b ≠ bh ∧ b ≠ w7.heap.size + 1) w8 u3 := ku2.then x3 fun b _ h => trivial
    have l3 := l2.kept x3 trivial
    have q2 := q2.ext x3
    have q4 := q4.ext x3
    have q5 := q5.ext x3
    have bh3 := bh2.ext x3
    have hcc := rr2.ext x3
    by_cases g2 : lvW r tot > 1073741824
    · rw [en, if_pos g2]
      have hno := none_ (by unfold needV; rw [if_neg g0, if_neg (by omega), if_pos g2])
      refine st1 q4 rfl (fun u4 p4 k4 => ?_)
      refine st1 (q5.kept k4 (by omega)) rfl (fun u5 p5 k5 => ?_)
      refine roundR' _ ((l3.kept k4 (by omega)).kept k5 (by omega)) (fun u6 k6 l6 => ?_)
      refine .inr ⟨rfl, _, l6, by simp, rfl, hno, (p4.kept k5 (by omega)).kept k6 (by omega), p5.kept k6 (by omega), ?_⟩
      exact (((ku3.weak fun b _ h => ⟨h.1, h.2.1⟩).then k4 fun b _ h => h.2.2.1).then k5 fun b _ h => h.2.2.2).then k6 fun b _ h => h.2.1
    rw [en, if_neg g2]
    have hf := lvW_first (w := tot) rl1
    have hfl := hf.le
    refine drawP (.take 0 (.take 1 (.take 2 (.take 3 (.take 4 (.take 5 (.take 6 (.take 7 (.take 8 (.take 9 (.take 10 (.take 11 (.bar (.eff 12 .done)))))))))))))) [12] (fun z => z = u3) mx (by kernel_rfl) rfl ?_
    obtain ⟨bb', oo', cs', y', hbe, hy', -, -, hc3, rfl⟩ := hcc.at_ (k := i) (by omega)
    obtain rfl : r = y' := by rw [hri] at hy'; injection hy'
    injection hbe with hbe
    injection hbe with hb1 hb2
    subst hb1; subst hb2
    refine ld (.slice (some (ad bh 0)) n1 n1) (q4.cell rfl) ?_
    refine fldA ?_
    refine fldA ?_
    refine ld (.slice (some (ad bb oo)) n1 c1) (q2.cell rfl) ?_
    refine idx i rfl (by omega) ?_
    refine fldA ?_
    refine ld (iv r.siphon) (hc3 5 _ rfl) ?_
    refine idx i rfl (by omega) ?_
    refine barS (fun _ => True) trivial ?_
    refine st (v := iv (max (lvW r tot) r.siphon)) bh3 (by simp; omega) rfl (fun u4 bh4 k4 z4 => ?_)
    refine strS trivial ?_
    refine roundN' _ (l3.kept k4 (by omega)) (fun u5 k5 l5 => ?_)
    refine .inl ⟨rfl, ⟨hs.set i (max (lvW r tot) r.siphon), ?_, ?_, l5⟩, ?_⟩
    · rw [step]
      unfold needV
      rw [if_neg g0, if_neg (by omega), if_neg g2]; rfl
    · rw [← ivs_set]
      have := bh4.kept k5 (by have := bh3.lt; omega)
      simpa using this
    · exact (ku3.then k4 fun b _ h => h.1).then k5 fun b _ h => h.2
  · rintro _ u (⟨⟨hs, hns, bhu, lu⟩, ku⟩ | ⟨r, lu, hr1, hr2, hno, p4, p5, ku⟩)
    · subst hRR
      have hns : needsV d cl = some hs := by unfold needsV; rw [lr]; exact hns
      refine range_end _ lu (by simp) (fun u1 k1 => ?_)
      have ll := lu.lt
      have ku1 : Kept (fun b => b ≠ bh ∧ b ≠ w7.heap.size + 1) w8 u1 := ku.then k1 fun b _ h => h.2
      have q4 := B4.kept ku1 ⟨by omega, by omega⟩
      have q5 := B5.kept ku1 ⟨by omega, by omega⟩
      have bh1 := bhu.kept k1 (by have := bhu.lt; omega)
      refine ld (.slice (some (ad bh 0)) n1 n1) (q4.cell rfl) ?_
      refine st1 q4 rfl (fun u2 p4 k2 => ?_)
      refine st1 (q5.kept k2 (by omega)) rfl (fun u3 p5 k3 => ?_)
      have ku3 : Kept (fun b => b ≠ bh ∧ b ≠ w7.heap.size + 1 ∧ b ≠ b4 ∧ b ≠ b5) w8 u3 := ((ku1.weak fun b _ h => ⟨h.1, h.2.1⟩).then k2 fun b _ h => h.2.2.1).then k3 fun b _ h => h.2.2.2
      have hD3 : u3.heap[w7.heap.size]? = some (.deferred (some [])) := (ku3.blk _ (by omega) ⟨by omega, by omega, by omega, by omega⟩).trans hD8
      refine retM hD3 ?_
      have k4 := Kept.putObj u3 w7.heap.size (.deferred none)
      refine resL _ (holds_cell (((p4.kept k3 (by omega)).kept k4 (by omega)).cell rfl)) ?_
      refine resL _ (holds_cell ((p5.kept k4 (by omega)).cell rfl)) ?_
      refine ⟨(x08.then ku3 fun b hb _ => ⟨by omega, by omega, by omega, by omega⟩).then k4 fun b hb _ => by omega, .inr ⟨hs, bh, hns, rfl, by omega, ((bh1.kept k2 (by omega)).kept k3 (by omega)).kept k4 (by omega)⟩⟩
    · refine range_end r lu hr1 (fun u1 k1 => ?_)
      rw [hr2]
      have ll := lu.lt
      have ku1 : Kept (fun b => b ≠ bh ∧ b ≠ w7.heap.size + 1 ∧ b ≠ b4 ∧ b ≠ b5) w8 u1 := ku.then k1 fun b _ h => h.2.1
      have hD3 : u1.heap[w7.heap.size]? = some (.deferred (some [])) := (ku1.blk _ (by omega) ⟨by omega, by omega, by omega, by omega⟩).trans hD8
      refine retM hD3 ?_
      have k4 := Kept.putObj u1 w7.heap.size (.deferred none)
      have lp4 := p4.lt
      have lp5 := p5.lt
      refine resL _ (holds_cell (((p4.kept k1 (by omega)).kept k4 (by omega)).cell rfl)) ?_
      refine resL _ (holds_cell (((p5.kept k1 (by omega)).kept k4 (by omega)).cell rfl)) ?_
      refine ⟨(x08.then ku1 fun b hb _ => ⟨by omega, by omega, by omega, by omega⟩).then k4 fun b hb _ => by omega, .inl ⟨hno, rfl⟩⟩
end
end Go.Proofs.Ytcpogcdadlcdaaa

/- Layer 41: contracts of Needs, open, Shares, Part. -/
namespace Go.Proofs.Ytcpogcdadlcdaaa
open Go Go.RowKit

instance eqPart : EqTy Try.prog 151 := ⟨by kernel_rfl⟩
/-- What Needs answers. -/
def NeedsR (w w' : World) (d : Dist) (cl : List Int) (v : Value) : Prop :=
  (divErr d cl ≠ 0 ∧ v = .tuple #[.slice none 0 0, .bool false, iv (divErr d cl)]) ∨
  (divErr d cl = 0 ∧ needsV d cl = none ∧ v = .tuple #[.slice none 0 0, .bool false, iv 0]) ∨
  (divErr d cl = 0 ∧ ∃ hs bh, needsV d cl = some hs ∧ v = .tuple #[.slice (some (ad bh 0)) d.reaches.length d.reaches.length, .bool true, iv 0] ∧ w.heap.size ≤ bh ∧ Blk w' bh 3 (ivs hs))
def openErr (d : Dist) (cl : List Int) : Int := if divErr d cl ≠ 0 then divErr d cl else if needsV d cl = none then 410 else 0
theorem openErr_ok {d : Dist} {cl : List Int} : openErr d cl = 0 ↔ divErr d cl = 0 ∧ ∃ hs, needsV d cl = some hs := by
  unfold openErr
  by_cases h : divErr d cl = 0
  · rw [if_neg (fun q => q h)]
    cases hn : needsV d cl with
    | none => simp [h]
    | some hs => simp [h]
  · rw [if_pos h]; simp [h]
def shErr (d : Dist) (cl : List Int) (r : Int) : Int := if openErr d cl ≠ 0 then openErr d cl else if 0 ≤ r ∧ r < d.reaches.length then 0 else 1
def ptErr (d : Dist) (i : Int) : Int := if dErr d ≠ 0 then dErr d else if 0 ≤ i ∧ i < d.farms.length then 0 else 1
section
variable {D : Nat → Prop} {w : World}
theorem c_dNeeds {csd : List Value} {d : Dist} {cl : List Int} {A : Option Addr} {n c : Nat} (hd : DiR D w csd d) (hl : SlR tInt D w A n cl) : CallZ Try.prog 46 #[.agg csd.toArray, .slice A n c] w (fun v w' => Ext w w' ∧ NeedsR w w' d cl v) := by
  have hd0 := hd
  obtain ⟨A1, n1, c1, A2, n2, c2, A3, n3, c3, A4, n4, c4, A5, n5, c5, A6, n6, c6, rfl, hr, hf, -⟩ := hd.ex
  have lr := hr.len
  have ll := hl.len
  refine fn_rule (args := [.agg #[.string d.name, iv d.hours, iv d.cap, iv d.start, .slice A1 n1 c1, .slice A2 n2 c2, .slice A3 n3 c3, .slice A4 n4 c4, .slice A5 n5 c5, .slice A6 n6 c6], .slice A n c]) Try.func46 (by kernel_rfl) ?_
  refine box (fun b1 w1 h1 => ?_)
  have B1 : Blk w1 b1 38 [.string d.name, iv d.hours, iv d.cap, iv d.start, .slice A1 n1 c1, .slice A2 n2 c2, .slice A3 n3 c3, .slice A4 n4 c4, .slice A5 n5 c5, .slice A6 n6 c6] := h1.blk
  refine ldA [.string d.name, iv d.hours, iv d.cap, iv d.start, .slice A1 n1 c1, .slice A2 n2 c2, .slice A3 n3 c3, .slice A4 n4 c4, .slice A5 n5 c5, .slice A6 n6 c6] (.blk B1) rfl ?_
  refine call_of (c_dcheck (hd0.ext h1.ext) (hl.ext h1.ext)) ?_
  rintro _ w2 ⟨rfl, x2⟩
  have B1 := B1.ext x2
  have xx := h1.ext.trans x2
  refine cN (fun g => ?_) (fun g => ?_)
  · exact ret3 (.slice none 0 0) (.bool false) (iv (divErr d cl)) rfl rfl rfl ⟨xx, .inl ⟨g, rfl⟩⟩
  have g : divErr d cl = 0 := g
  obtain ⟨g1, g2⟩ := divErr_ok.1 g
  have V := val_of g1
  obtain ⟨k1, k2⟩ := claimOk_iff.1 g2
  refine ldA [.string d.name, iv d.hours, iv d.cap, iv d.start, .slice A1 n1 c1, .slice A2 n2 c2, .slice A3 n3 c3, .slice A4 n4 c4, .slice A5 n5 c5, .slice A6 n6 c6] (.blk B1) rfl ?_
  refine call_of (c_dgrow (hr.ext xx) (hf.ext xx) ⟨V.n.2, V.f⟩) ?_
  rintro _ w3 ⟨gm, rfl, x3, T⟩
  have x03 := xx.trans x3
  refine call_of (c_dneeds (D := fun _ => True) V ((hr.ext x03).more (by decide) fun _ _ _ => trivial) ⟨trivial, T.ex.imp fun m hm => ⟨hm.1, fun r => by obtain ⟨A, n, c, e, hs, hc⟩ := hm.2 r; exact ⟨A, n, c, e, hs.more (by decide) fun _ _ _ => trivial, hc⟩⟩⟩ ((hl.ext x03).more (by decide) fun _ _ _ => trivial) k2 (by omega)) ?_
  rintro _ w4 ⟨x4, ⟨hno, rfl⟩ | ⟨hs, bh, hne, rfl, hb, Bh⟩⟩
  · exact ret3 (.slice none 0 0) (.bool false) (iv 0) rfl rfl rfl ⟨x03.trans x4, .inr (.inl ⟨g, hno, rfl⟩)⟩
  · exact ret3 (.slice (some (ad bh 0)) n1 n1) (.bool true) (iv 0) rfl rfl rfl ⟨x03.trans x4, .inr (.inr ⟨g, hs, bh, hne, by rw [lr], by have := x03.size; omega, Bh⟩)⟩
end
end Go.Proofs.Ytcpogcdadlcdaaa

/- Layer 41, plainly: a division on the way. -/
namespace Go.Proofs.Ytcpogcdadlcdaaa
open Go Go.RowKit

/-- A division, after i reaches. -/
structure Div0 (d : Dist) (cl hs : List Int) (E : Int) (hd aw : List Int) (mk : List Mk) (i : Nat) : Prop where
  lh : hd.length = d.reaches.length
  la : aw.length = d.farms.length
  lm : mk.length = d.reaches.length
  oh : OkL hd
  oa : OkL aw
  top : clA hd 0 = cut d 0 (min E (clA hs 0))
  at_ : ∀ r, r < i → DivAt d cl hs hd aw mk r
/-- .. and after k parts of the next one. -/
structure DivK (d : Dist) (cl hs : List Int) (E : Int) (hd aw : List Int) (mk : List Mk) (i k : Nat) (m : Mk) : Prop where
  b : Div0 d cl hs E hd aw mk i
  mi : mkA mk i = m
  mm : MarkOf (workV d cl hs hd i) (clmV d cl hs i) m
  f : ∀ j f, j < k → (ptsV d i)[j]? = some (true, f) → clA aw f = ownV m (clA (clmV d cl hs i) j) j
  c : ∀ j f, j < k → (ptsV d i)[j]? = some (false, f) → clA hd f = cut d f (ownV m (clA (clmV d cl hs i) j) j)
section
variable {d : Dist} {cl hs hd aw : List Int} {mk : List Mk} {E : Int} {i k : Nat} {m : Mk}
theorem mkA_set {l : List Mk} {i j : Nat} {x : Mk} (hi : i < l.length) : mkA (l.set i x) j = if i = j then x else mkA l j := by
  unfold mkA
  rw [List.getD_eq_getElem?_getD, List.getElem?_set]
  by_cases h : i = j
  · rw [if_pos h, if_pos h, if_pos hi]; rfl
  · rw [if_neg h, if_neg h, ← List.getD_eq_getElem?_getD]
theorem okL_set {l : List Int} {i : Nat} {x : Int} (h : OkL l) (hx : 0 ≤ x ∧ x ≤ 1073741824) : OkL (l.set i x) := fun c hc => by
  rcases List.mem_or_eq_of_mem_set hc with hc | rfl
  · exact h c hc
  · exact hx
theorem Div0.ok (D : Div0 d cl hs E hd aw mk i) (r : Nat) : 0 ≤ clA hd r ∧ clA hd r ≤ 1073741824 := clA_ok D.oh r
/-- The mark of the next reach is written. -/
theorem Div0.mark (D : Div0 d cl hs E hd aw mk i) (hi : i < d.reaches.length) (hm : MarkOf (workV d cl hs hd i) (clmV d cl hs i) m) : DivK d cl hs E hd aw (mk.set i m) i 0 m := by
  have hl := D.lm
  have hii : i < mk.length := by omega
  refine ⟨⟨D.lh, D.la, by rw [List.length_set]; exact hl, D.oh, D.oa, D.top, fun r hr => ?_⟩, by rw [mkA_set hii, if_pos rfl], hm, fun j f hj => by omega, fun j f hj => by omega⟩
  obtain ⟨a, b, c⟩ := D.at_ r hr
  have e : mkA (mk.set i m) r = mkA mk r := by rw [mkA_set hii, if_neg (by omega)]
  exact ⟨by rw [e]; exact a, fun k i h => by rw [e]; exact b k i h, fun k i h => by rw [e]; exact c k i h⟩
theorem nodup_ix {α : Type} {l : List α} (h : l.Nodup) {i j : Nat} {x : α} (hi : l[i]? = some x) (hj : l[j]? = some x) : i = j := by
  have h1 := (List.getElem?_eq_some_iff.1 hi)
  have h2 := (List.getElem?_eq_some_iff.1 hj)
  obtain ⟨a, ha⟩ := h1
  obtain ⟨b, hb⟩ := h2
  rcases Nat.lt_trichotomy i j with q | q | q
  · exact absurd (ha.trans hb.symm) (List.pairwise_iff_getElem.1 h i j a b q)
  · exact q
  · exact absurd (hb.trans ha.symm) (List.pairwise_iff_getElem.1 h j i b a q)
theorem DivK.val (D : DivK d cl hs E hd aw mk i k m) (R : Rdy d cl hs) (hi : i < d.reaches.length) (hk : k < (ptsV d i).length) : 0 ≤ ownV m (clA (clmV d cl hs i) k) k ∧ ownV m (clA (clmV d cl hs i) k) k ≤ 1073741824 := by
  have h1 := (R.work (hd := hd) hi (D.b.ok i)).1
  exact own_small (D.mm.awd h1) (clmV_ok R.okc R.okh i) (by rw [clmV_len]; exact hk)
theorem DivK.farm (D : DivK d cl hs E hd aw mk i k m) (R : Rdy d cl hs) (hi : i < d.reaches.length) {f : Nat} (hk : (ptsV d i)[k]? = some (true, f)) : DivK d cl hs E hd (aw.set f (ownV m (clA (clmV d cl hs i) k) k)) mk i (k + 1) m := by
  have hm := mem_ptsV.1 (List.mem_of_getElem? hk)
  have hm : f < d.farms.length ∧ (fmC d f).reach = i := by
    rcases hm with h | h
    · exact h.2
    · cases h.1
  have hla := D.b.la
  have hf : f < aw.length := by omega
  have hv := D.val R hi (List.getElem?_eq_some_iff.1 hk).1
  refine ⟨⟨D.b.lh, by rw [List.length_set]; exact hla, D.b.lm, D.b.oh, okL_set D.b.oa hv, D.b.top, fun r hr => ?_⟩, D.mi, D.mm, fun j g hj h => ?_, fun j g hj h => ?_⟩
  · obtain ⟨a, b, c⟩ := D.b.at_ r hr
    refine ⟨a, fun j g h => ?_, c⟩
    rw [clA_set hf, if_neg (fun e => ?_)]
    · exact b j g h
    · subst e
      rcases mem_ptsV.1 (List.mem_of_getElem? h) with q | q
      · have := q.2.2; simp only at this; omega
      · cases q.1
  · rw [clA_set hf]
    by_cases e : f = g
    · subst e
      rw [if_pos rfl, nodup_ix ptsV_nodup h hk]
    · rw [if_neg e]
      by_cases q : j = k
      · subst q
        rw [hk] at h
        injection h with h; injection h with _ h; exact absurd h e
      · exact D.f j g (by omega) h
  · by_cases q : j = k
    · subst q; rw [hk] at h; injection h with h; injection h with h; cases h
    · exact D.c j g (by omega) h
theorem DivK.child (D : DivK d cl hs E hd aw mk i k m) (R : Rdy d cl hs) (hi : i < d.reaches.length) {f : Nat} (hk : (ptsV d i)[k]? = some (false, f)) : DivK d cl hs E (hd.set f (cut d f (ownV m (clA (clmV d cl hs i) k) k))) aw mk i (k + 1) m := by
  have hc := R.v.child (List.mem_of_getElem? hk)
  have hup : (rcC d f).up = i := by
    rcases mem_ptsV.1 (List.mem_of_getElem? hk) with h | h
    · cases h.1
    · exact h.2.2
  have hlh := D.b.lh
  have hf : f < hd.length := by omega
  have hv := D.val R hi (List.getElem?_eq_some_iff.1 hk).1
  have hcb := cut_b (d := d) (r := f) hv.1
  have ew : ∀ r, r ≤ i → workV d cl hs (hd.set f (cut d f (ownV m (clA (clmV d cl hs i) k) k))) r = workV d cl hs hd r := fun r hr => by
    unfold workV
    rw [clA_set hf, if_neg (by omega)]
  refine ⟨⟨by rw [List.length_set]; exact hlh, D.b.la, D.b.lm, okL_set D.b.oh (by omega), D.b.oa, by rw [clA_set hf, if_neg (by omega)]; exact D.b.top, fun r hr => ?_⟩, D.mi, by rw [ew i (Nat.le_refl _)]; exact D.mm, fun j g hj h => ?_, fun j g hj h => ?_⟩
  · obtain ⟨a, b, c⟩ := D.b.at_ r hr
    refine ⟨by rw [ew r (by omega)]; exact a, b, fun j g h => ?_⟩
    rw [clA_set hf, if_neg (fun e => ?_)]
    · exact c j g h
    · subst e
      rcases mem_ptsV.1 (List.mem_of_getElem? h) with q | q
      · cases q.1
      · have := q.2.2; simp only at this; omega
  · by_cases q : j = k
    · subst q; rw [hk] at h; injection h with h; injection h with h; cases h
    · exact D.f j g (by omega) h
  · rw [clA_set hf]
    by_cases e : f = g
    · subst e
      rw [if_pos rfl, nodup_ix ptsV_nodup h hk]
    · rw [if_neg e]
      by_cases q : j = k
      · subst q
        rw [hk] at h
        injection h with h; injection h with _ h; exact absurd h e
      · exact D.c j g (by omega) h
theorem DivK.done (D : DivK d cl hs E hd aw mk i k m) (hk : (ptsV d i).length ≤ k) : Div0 d cl hs E hd aw mk (i + 1) := by
  refine ⟨D.b.lh, D.b.la, D.b.lm, D.b.oh, D.b.oa, D.b.top, fun r hr => ?_⟩
  by_cases e : r = i
  · subst e
    exact ⟨by rw [D.mi]; exact D.mm, fun j g h => by rw [D.mi]; exact D.f j g (by have := (List.getElem?_eq_some_iff.1 h).1; omega) h, fun j g h => by rw [D.mi]; exact D.c j g (by have := (List.getElem?_eq_some_iff.1 h).1; omega) h⟩
  · exact D.b.at_ r (by omega)
theorem Div0.all (D : Div0 d cl hs E hd aw mk d.reaches.length) : DivV d cl hs E hd aw mk := ⟨D.lh, D.la, D.lm, D.top, D.at_⟩
/-- The beginning. -/
theorem Div0.start (R : Rdy d cl hs) (hE : 0 ≤ E) : Div0 d cl hs E ((List.replicate d.reaches.length 0).set 0 (cut d 0 (min E (clA hs 0)))) (List.replicate d.farms.length 0) (List.replicate d.reaches.length Mk.none) 0 := by
  have h0 := clA_ok R.okh 0
  have hb := cut_b (d := d) (r := 0) (n := min E (clA hs 0)) (by omega)
  refine ⟨by rw [List.length_set, List.length_replicate], List.length_replicate .., List.length_replicate .., okL_set okL_zero (by omega), okL_zero, ?_, fun r hr => by omega⟩
  rw [clA_set (by rw [List.length_replicate]; exact R.v.n.1), if_pos rfl]
end
end Go.Proofs.Ytcpogcdadlcdaaa

/- Layer 41: contract of Divide. (Printed by gen_XDc.py.) -/
namespace Go.Proofs.Ytcpogcdadlcdaaa
open Go Go.RowKit

abbrev mks (l : List Mk) : List Value := l.flatMap encM
theorem mks_app {a b : List Mk} : mks (a ++ b) = mks a ++ mks b := List.flatMap_append
theorem mks_len : ∀ {a : List Mk}, (mks a).length = a.length * 4
  | [] => rfl
  | x :: a => by show (encM x ++ mks a).length = (a.length + 1) * 4; rw [List.length_append, mks_len]; show 4 + _ = _; omega
theorem mks_take : ∀ (l : List Mk) (i : Nat), (mks l).take (i * 4) = mks (l.take i)
  | [], i => by simp [mks]
  | x :: l, 0 => by simp [mks]
  | x :: l, i + 1 => by
    show (encM x ++ mks l).take ((i + 1) * 4) = encM x ++ mks (l.take i)
    rw [show (i + 1) * 4 = (encM x).length + i * 4 by show _ = 4 + _; omega, List.take_length_add_append, mks_take l i]
theorem mks_drop : ∀ (l : List Mk) (i : Nat), (mks l).drop (i * 4) = mks (l.drop i)
  | [], i => by simp [mks]
  | x :: l, 0 => by simp [mks]
  | x :: l, i + 1 => by
    show (encM x ++ mks l).drop ((i + 1) * 4) = mks (l.drop i)
    rw [show (i + 1) * 4 = (encM x).length + i * 4 by show _ = 4 + _; omega, List.drop_length_add_append, mks_drop l i]
theorem mks_set {l : List Mk} {i : Nat} {m : Mk} (h : i < l.length) : (mks l).take (i * 4) ++ encM m ++ (mks l).drop (i * 4 + 4) = mks (l.set i m) := by
  rw [mks_take, show i * 4 + 4 = (i + 1) * 4 by omega, mks_drop, List.set_eq_take_append_cons_drop, if_pos h, mks_app, List.append_assoc]; rfl
theorem zI {n : Nat} : ivs (List.replicate n 0) = (List.replicate n (cellsL (iv 0))).flatten := by
  unfold ivs
  rw [List.map_replicate]
  show List.replicate n (iv 0) = (List.replicate n [iv 0]).flatten
  rw [List.flatten_replicate_singleton]
theorem zM : ∀ {n : Nat}, mks (List.replicate n Mk.none) = (List.replicate n (cellsL (.agg #[.bool false, iv 0, iv 0, iv 0]))).flatten
  | 0 => rfl
  | n + 1 => by
    rw [List.replicate_succ, List.replicate_succ, List.flatten_cons, ← zM]; rfl
def dvErr (d : Dist) (cl : List Int) (E : Int) : Int := if openErr d cl ≠ 0 then openErr d cl else if 0 ≤ E ∧ E ≤ 1099511627776 then 0 else 1
section
variable {D : Nat → Prop} {w : World}
end
end Go.Proofs.Ytcpogcdadlcdaaa

/- Layer 41: contracts in one form; the laws' small district; sane. -/
namespace Go.Proofs.Ytcpogcdadlcdaaa
open Go Go.RowKit

theorem dvErr_ok {d : Dist} {cl : List Int} {E : Int} : dvErr d cl E = 0 ↔ openErr d cl = 0 ∧ 0 ≤ E ∧ E ≤ 1099511627776 := by
  unfold dvErr
  by_cases h : openErr d cl = 0
  · rw [if_neg (fun q => q h)]
    by_cases h2 : 0 ≤ E ∧ E ≤ 1099511627776
    · rw [if_pos h2]; simp [h, h2]
    · rw [if_neg h2]; simp only [h, true_and]; exact ⟨fun e => (by cases e), fun e => absurd e h2⟩
  · rw [if_pos h]; simp [h]
section
variable {D : Nat → Prop} {w : World}
/-- With enough each reach has its need. -/
theorem DivV.full {d : Dist} {cl hs hd aw : List Int} {mk : List Mk} {E : Int} (D : DivV d cl hs E hd aw mk) (R : Rdy d cl hs) (hE : 0 ≤ E) (hq : clA hs 0 ≤ E) : ∀ (r : Nat), r < d.reaches.length → clA hd r = clA hs r := by
  have nb : ∀ j, j < d.reaches.length → 0 ≤ clA hs j ∧ (clA hs j = 0 ∨ (rcC d j).siphon ≤ clA hs j) ∧ isum (clmV d cl hs j) ≤ arrW (rcC d j) (clA hs j) := fun j hj => by
    obtain ⟨l1, l2, l3⟩ := R.v.loss hj
    obtain ⟨b1, -, b3, b4⟩ := needV_b _ _ ⟨l2, l3⟩ l1 (R.nd j hj)
    exact ⟨b1, b3, b4 (R.sum j).1⟩
  intro r
  induction r using Nat.strongRecOn with
  | ind r ih =>
    intro hr
    by_cases h0 : r = 0
    · subst h0
      rw [D.top]
      have := nb 0 hr
      unfold cut; split <;> omega
    · obtain ⟨p, k, hp, hk⟩ := R.v.par (by omega) hr
      have hp' : p < d.reaches.length := by omega
      obtain ⟨e1, e2⟩ := pt_at (cl := cl) (hs := hs) hk
      have hw : workV d cl hs hd p = isum (clmV d cl hs p) := by
        have := nb p hp'
        unfold workV
        rw [ih p hp hp']; omega
      rw [(D.at_ p hp').child k r hk, (D.awd R hE hp').all hw k e2, e1]
      show cut d r (clA hs r) = clA hs r
      have := nb r hr
      unfold cut; split <;> omega
/-! ### the small district -/
def rc41 (up : Int) : Reach := ⟨ByteArray.empty, up, 1, 50, 50, 0, ⟨0, 0⟩, ⟨0, 1⟩, ⟨0, 1⟩⟩
def sd41 : Dist := ⟨ByteArray.empty, 4, 0, 0, [rc41 (-1), rc41 0], [⟨ByteArray.empty, 0, 0, -1⟩, ⟨ByteArray.empty, 1, 0, -1⟩, ⟨ByteArray.empty, 0, 0, -1⟩], [], [], [], []⟩
/-! ### what it answers -/
theorem sd1 : divErr sd41 [6, 0, 4] = 0 := by kernel_rfl
theorem sd2 : needsV sd41 [6, 0, 4] = some [10, 0] := by kernel_rfl
theorem sd3 : shErr sd41 [6, 2, 4] 0 = 0 := by kernel_rfl
theorem sd4 : needsV sd41 [6, 2, 4] = some [12, 2] := by kernel_rfl
theorem sd5 : clmV sd41 [6, 2, 4] [12, 2] 0 = [6, 4, 2] := by kernel_rfl
theorem sd6 : dvErr sd41 [6, 0, 4] 5 = 0 := by kernel_rfl
theorem sd7 : dvErr sd41 [0, 7, 0] 9 = 0 := by kernel_rfl
theorem sd8 : needsV sd41 [0, 7, 0] = some [7, 7] := by kernel_rfl
theorem sd9 : ptErr sd41 2 = 0 := by kernel_rfl
theorem sda : ptErr sd41 3 = 1 := by kernel_rfl
theorem sdb : divErr sd41 [-1, 0, 0] = 410 := by kernel_rfl
theorem sdc : dvErr sd41 [6, 0, 4] (-1) = 1 := by kernel_rfl
theorem sdd : ptsV sd41 0 = [(true, 0), (true, 2), (false, 1)] := by kernel_rfl
theorem sde {hd aw : List Int} {mk : List Mk} (R : Rdy sd41 [6, 0, 4] [10, 0]) (V : DivV sd41 [6, 0, 4] [10, 0] 5 hd aw mk) : aw = [3, 0, 2] := by
  have A := (V.at_ 0 (by decide))
  have m1 := A.mark
  have t : clA hd 0 = 5 := V.top
  have hw : workV sd41 [6, 0, 4] [10, 0] hd 0 = 5 := by unfold workV; rw [t]; kernel_rfl
  have hc : clmV sd41 [6, 0, 4] [10, 0] 0 = [6, 4, 0] := by kernel_rfl
  rw [hw, hc] at m1
  have m2 : MarkOf 5 [6, 4, 0] ⟨false, 3, 6, 0⟩ := by
    unfold MarkOf
    rw [if_pos ⟨by decide, by decide⟩]
    exact ⟨⟨⟨by decide, by decide, by decide⟩, by decide, by decide⟩, by decide⟩
  have em := m1.uniq m2
  have f0 := A.farm 0 0 (by rw [show ((0 : Nat) : Int) = 0 from rfl, sdd]; rfl)
  have f1 := A.farm 1 2 (by rw [show ((0 : Nat) : Int) = 0 from rfl, sdd]; rfl)
  rw [em, hc] at f0 f1
  have g := V.met R (by decide) 1 (by decide)
  have la := V.la
  have h1 : clA [6, 0, 4] 1 = 0 := rfl
  have f0 : clA aw 0 = 3 := f0
  have f1 : clA aw 2 = 2 := f1
  have g : clA aw 1 = 0 := by omega
  match aw, la, f0, f1, g with
  | [a, b, c], _, f0, f1, g =>
    have f0 : a = 3 := f0
    have f1 : c = 2 := f1
    have g : b = 0 := g
    rw [f0, f1, g]
theorem sdf {hd aw : List Int} {mk : List Mk} (R : Rdy sd41 [0, 7, 0] [7, 7]) (V : DivV sd41 [0, 7, 0] [7, 7] 9 hd aw mk) : aw = [0, 7, 0] ∧ hd = [7, 7] := by
  have f := V.full R (by decide) (by decide)
  have g := V.met R (by decide)
  have la := V.la
  have lh := V.lh
  have f0 : clA hd 0 = 7 := f 0 (by decide)
  have f1 : clA hd 1 = 7 := f 1 (by decide)
  have g0 : clA aw 0 = 0 := (g 0 (by decide)).2.2 (by decide)
  have g1 : clA aw 1 = 7 := (g 1 (by decide)).2.2 (by decide)
  have g2 : clA aw 2 = 0 := (g 2 (by decide)).2.2 (by decide)
  constructor
  · match aw, la, g0, g1, g2 with
    | [a, b, c], _, g0, g1, g2 =>
      have g0 : a = 0 := g0
      have g1 : b = 7 := g1
      have g2 : c = 0 := g2
      rw [g0, g1, g2]
  · match hd, lh, f0, f1 with
    | [a, b], _, f0, f1 =>
      have f0 : a = 7 := f0
      have f1 : b = 7 := f1
      rw [f0, f1]
end
end Go.Proofs.Ytcpogcdadlcdaaa

/- Layer 41: contract of the laws' sane; Few, shaped. -/
namespace Go.Proofs.Ytcpogcdadlcdaaa
open Go Go.RowKit

section
variable {w : World} {csd : List Value}
theorem lit3 {w w' : World} {a b c : Int} {g : Nat} {t : TypeId} (h : NewB w t [iv a, iv b, iv c] g w') (ha : -1000 ≤ a ∧ a ≤ 1000) (hb : -1000 ≤ b ∧ b ≤ 1000) (hc : -1000 ≤ c ∧ c ≤ 1000) : SlR tInt (fun _ => True) w' (some (ad g 0)) 3 [a, b, c] :=
  SlR.of_cells rfl (by decide) trivial (.blk h.blk) (flat_ints fun x hx => by
    simp only [List.mem_cons, List.not_mem_nil, or_false] at hx
    rcases hx with rfl | rfl | rfl
    all_goals (unfold I64; omega))
theorem sm_needs {A : Option Addr} {c : Nat} (hd : DiR (fun _ => True) w csd sd41) (hl : SlR tInt (fun _ => True) w A 3 [6, 0, 4]) : CallZ Try.prog 46 #[.agg csd.toArray, .slice A 3 c] w (fun v w' => Ext w w' ∧ ∃ bh, v = .tuple #[.slice (some (ad bh 0)) 2 2, .bool true, iv 0] ∧ Blk w' bh 3 [iv 10, iv 0]) :=
  (c_dNeeds hd hl).mono (by
    rintro v w' ⟨x, ⟨h, -⟩ | ⟨-, h, -⟩ | ⟨-, hs, bh, h, rfl, -, hb⟩⟩
    · exact absurd sd1 h
    · rw [sd2] at h; cases h
    · rw [sd2] at h; injection h with h; subst h; exact ⟨x, bh, rfl, hb⟩)
theorem sm_needs2 {A : Option Addr} {c : Nat} (hd : DiR (fun _ => True) w csd sd41) (hl : SlR tInt (fun _ => True) w A 3 [-1, 0, 0]) : CallZ Try.prog 46 #[.agg csd.toArray, .slice A 3 c] w (fun v w' => Ext w w' ∧ v = .tuple #[.slice none 0 0, .bool false, iv 410]) :=
  (c_dNeeds hd hl).mono (by
    rintro v w' ⟨x, ⟨h, rfl⟩ | ⟨h, -⟩ | ⟨h, -⟩⟩
    · exact ⟨x, by rw [sdb]⟩
    · rw [sdb] at h; cases h
    · rw [sdb] at h; cases h)
end
end Go.Proofs.Ytcpogcdadlcdaaa

/- Layers 41, 20: contracts of Few, shaped, canals.Farms, canals.Children, got. -/
namespace Go.Proofs.Ytcpogcdadlcdaaa
open Go Go.RowKit

section
variable {D : Nat → Prop} {w : World}
abbrev pix (l : List Pt) : List Int := l.map fun p => (p.2 : Int)
end
end Go.Proofs.Ytcpogcdadlcdaaa

/- Layer 41: DivisionMore, DivisionShown. -/
namespace Go.Proofs.Ytcpogcdadlcdaaa
open Go Go.RowKit

theorem blkI {w : World} {b n i : Nat} {t : TypeId} {l : List Int} (h : Blk w b t (ivs l)) (ok : OkL l) (hn : n = l.length) (hi : i < n) (hb : n ≤ 1000) : CellsAt w b (0 + i * tInt.sz) [iv (clA l i)] := by
  obtain ⟨b', o, cs, x, e, hx, -, -, hc, rfl, -⟩ := (blk_ints (D := fun _ => True) h hn ok (by omega) trivial).at_ hi
  injection e with e
  injection e with e1 e2
  subst e1; subst e2
  rw [clA_at hx]
  exact hc
theorem blkM {w : World} {b i : Nat} {t : TypeId} {l : List Mk} (h : Blk w b t (mks l)) (hi : i < l.length) : CellsAt w b (0 + i * 4) (encM (mkA l i)) := fun k v hv => by
  have e : mkA l i = l[i] := by unfold mkA; rw [List.getD_eq_getElem?_getD, List.getElem?_eq_getElem hi]; rfl
  rw [e] at hv
  have hk : k < 4 := (List.getElem?_eq_some_iff.1 hv).1
  refine h.cell ?_
  rw [Nat.zero_add]
  have hd : (mks l).drop (i * 4) = encM l[i] ++ mks (l.drop (i + 1)) := by
    rw [mks_drop, List.drop_eq_getElem_cons hi]; rfl
  have : (mks l)[i * 4 + k]? = ((mks l).drop (i * 4))[k]? := by rw [List.getElem?_drop]
  rw [this, hd, List.getElem?_append_left hk]
  exact hv
section
variable {D : Nat → Prop} {w : World}
end
end Go.Proofs.Ytcpogcdadlcdaaa

/- Layer 41's reference: Parts, right, check, Claims, sum, Enough. -/
namespace Go.Proofs.Ytcpogcdadlcdaaa
open Go Go.RowKit

section
variable {D : Nat → Prop} {w : World}
theorem OwnF.pts {w0 w : World} {A : Option Addr} {n c : Nat} {e : TypeId} {ps : List Pt} (h : OwnF w0 w A n c e 2 (cps ps)) (hl : ps.length ≤ 1000) : SlR tPt (fun b => w0.heap.size ≤ b) w A n ps := by
  have lo := h.own.len
  rw [cps_len] at lo
  exact Own.rd (a := tPt) h.own flat_cps (by omega) (by omega) (fun b hb => h.new b hb)
end
end Go.Proofs.Ytcpogcdadlcdaaa

/- Layer 41's reference: needs, Needs, Shares, PartOf. -/
namespace Go.Proofs.Ytcpogcdadlcdaaa
open Go Go.RowKit

theorem zI' {n : Nat} : ivs (List.replicate n 0) = (List.replicate n (cellsL (iv 0))).flatten := by
  unfold ivs
  rw [List.map_replicate]
  show List.replicate n (iv 0) = (List.replicate n [iv 0]).flatten
  rw [List.flatten_replicate_singleton]
section
variable {D : Nat → Prop} {w : World}
end
end Go.Proofs.Ytcpogcdadlcdaaa

/- Layer 46, plainly: the heads of awards, what is harmless, the greatest number. -/
namespace Go.Proofs.Ytcpogcdadlcdaaa
open Go Go.RowKit

/-- The needs of awards. -/
def headsV (d : Dist) (aw : List Int) : Option (List Int) := if divErr d aw = 0 then needsV d aw else none
theorem headsV_some {d : Dist} {aw hs : List Int} (h : headsV d aw = some hs) : divErr d aw = 0 ∧ needsV d aw = some hs ∧ Rdy d aw hs := by
  unfold headsV at h
  by_cases g : divErr d aw = 0
  · rw [if_pos g] at h; exact ⟨g, h, rdy_of g h⟩
  · rw [if_neg g] at h; cases h
/-- One list is at most another one. -/
def LeL (a b : List Int) : Prop := a.length = b.length ∧ ∀ i, i < a.length → clA a i ≤ clA b i
theorem LeL.refl (a : List Int) : LeL a a := ⟨rfl, fun _ _ => Int.le_refl _⟩
theorem LeL.trans {a b c : List Int} (h : LeL a b) (k : LeL b c) : LeL a c := ⟨h.1.trans k.1, fun i hi => Int.le_trans (h.2 i hi) (k.2 i (by rw [← h.1]; exact hi))⟩
theorem LeL.at_ {a b : List Int} (h : LeL a b) (i : Nat) : clA a i ≤ clA b i := by
  by_cases hi : i < a.length
  · exact h.2 i hi
  · unfold clA
    rw [List.getD_eq_getElem?_getD, List.getD_eq_getElem?_getD, List.getElem?_eq_none (by omega), List.getElem?_eq_none (by have := h.1; omega)]
    exact Int.le_refl _
theorem isum_mono {α : Type} {f g : α → Int} : ∀ {l : List α}, (∀ x ∈ l, f x ≤ g x) → isum (l.map f) ≤ isum (l.map g)
  | [], _ => Int.le_refl _
  | x :: l, h => by
    have := isum_mono (l := l) fun y hy => h y (List.mem_cons_of_mem _ hy)
    have h0 := h x List.mem_cons_self
    unfold isum at *
    simp only [List.map_cons, List.sum_cons]
    omega
theorem lvW_mono {r : Reach} {t t' : Int} (hl : lossOk r = true) (h : t ≤ t') : lvW r t ≤ lvW r t' := by
  have a := lvW_first (w := t) hl
  have b := lvW_first (w := t') hl
  by_cases q : lvW r t ≤ lvW r t'
  · exact q
  exfalso
  have h1 := a.no (lvW r t') b.le (by omega)
  have h2 := b.yes (by have := a.ge; omega)
  rw [decide_eq_true_eq] at h2
  rw [decide_eq_false_iff_not] at h1
  omega
theorem needV_mono {r : Reach} {t t' v' : Int} (hl : lossOk r = true) (h0 : 0 ≤ t) (h : t ≤ t') (hs : 0 ≤ r.siphon ∧ r.siphon ≤ 1073741824) (hv : needV r t' = some v') : ∃ v, needV r t = some v ∧ v ≤ v' := by
  have hb := needV_b r _ hs hl hv
  unfold needV at hv ⊢
  by_cases e : t = 0
  · rw [if_pos e]; exact ⟨0, rfl, hb.1⟩
  · rw [if_neg e]
    rw [if_neg (by omega)] at hv
    have hm := lvW_mono hl h
    split at hv
    · cases hv
    · rw [if_neg (by omega)]
      split at hv
      · cases hv
      · rw [if_neg (by omega)]
        injection hv with hv
        exact ⟨_, rfl, by omega⟩
section
variable {d : Dist} {aw aw' hs hs' : List Int}
theorem clmV_mono (h : LeL aw aw') (k : LeL hs hs') (r : Nat) : isum (clmV d aw hs r) ≤ isum (clmV d aw' hs' r) := by
  unfold clmV
  refine isum_mono fun p _ => ?_
  unfold clP
  split
  · exact h.at_ _
  · exact k.at_ _
theorem needsN_mono (v : Val d) (h : LeL aw aw') (o : OkL aw) (o' : OkL aw') : ∀ (k : Nat) {hs' : List Int}, k ≤ d.reaches.length → needsN d aw' k = some hs' → ∃ hs, needsN d aw k = some hs ∧ LeL hs hs'
  | 0, hs', _, hk => by
    injection hk with hk
    exact ⟨_, rfl, by rw [← hk]; exact LeL.refl _⟩
  | k + 1, hs', hkn, hk => by
    rw [needsN] at hk
    cases h1 : needsN d aw' k with
    | none => rw [h1] at hk; cases hk
    | some hs0' =>
      rw [h1] at hk
      dsimp only at hk
      obtain ⟨hs0, e0, le0⟩ := needsN_mono v h o o' k (by omega) h1
      obtain ⟨l0, ok0, -⟩ := needsN_ok v k (by omega) e0
      obtain ⟨j, hj⟩ : ∃ j, j = d.reaches.length - 1 - k := ⟨_, rfl⟩
      rw [← hj] at hk
      cases h2 : needV (rcC d j) (isum (clmV d aw' hs0' j)) with
      | none => rw [h2] at hk; cases hk
      | some u' =>
        rw [h2] at hk
        injection hk with hk
        obtain ⟨a1, a2, a3⟩ := v.loss (r := j) (by omega)
        obtain ⟨u, hu, huu⟩ := needV_mono a1 (isum_b (clmV_ok o ok0 j)).1 (clmV_mono h le0 j) ⟨a2, a3⟩ h2
        refine ⟨hs0.set j u, ?_, ?_⟩
        · rw [needsN, e0]
          dsimp only
          rw [← hj, hu]
        · rw [← hk]
          refine ⟨by rw [List.length_set, List.length_set]; exact le0.1, fun i hi => ?_⟩
          rw [List.length_set] at hi
          have := le0.1
          rw [clA_set (by omega), clA_set (by omega)]
          split
          · exact huu
          · exact le0.2 i hi
theorem divErr_le (h : LeL aw aw') (o : OkL aw) (h0 : divErr d aw' = 0) : divErr d aw = 0 := by
  obtain ⟨h1, h2⟩ := divErr_ok.1 h0
  obtain ⟨h3, -⟩ := claimOk_iff.1 h2
  exact divErr_ok.2 ⟨h1, claimOk_iff.2 ⟨h.1.trans h3, o⟩⟩
theorem headsV_mono (h : LeL aw aw') (o : OkL aw) (hk : headsV d aw' = some hs') : ∃ hs, headsV d aw = some hs ∧ LeL hs hs' := by
  obtain ⟨g, hn, R⟩ := headsV_some hk
  obtain ⟨hs, e, le⟩ := needsN_mono R.v h o R.okc _ (Nat.le_refl _) hn
  exact ⟨hs, by unfold headsV; rw [if_pos (divErr_le h o g)]; exact e, le⟩
/-- Harmless awards, if the heads were these before. -/
def harmB (d : Dist) (bf aw : List Int) : Bool := match headsV d aw with
  | none => false
  | some l => decide (clA l 0 ≤ clA bf 0) && (List.range d.reaches.length).all fun r => decide (clA l r ≤ max (clA bf r) (rcC d r).cap)
theorem harmB_iff {bf : List Int} : harmB d bf aw = true ↔ ∃ l, headsV d aw = some l ∧ clA l 0 ≤ clA bf 0 ∧ ∀ r, r < d.reaches.length → clA l r ≤ max (clA bf r) (rcC d r).cap := by
  unfold harmB
  cases headsV d aw with
  | none => simp
  | some l => simp [List.all_eq_true]
theorem harmB_mono {bf : List Int} (h : LeL aw aw') (o : OkL aw) (hk : harmB d bf aw' = true) : harmB d bf aw = true := by
  obtain ⟨l', e', h1, h2⟩ := harmB_iff.1 hk
  obtain ⟨l, e, le⟩ := headsV_mono h o e'
  exact harmB_iff.2 ⟨l, e, Int.le_trans (le.at_ 0) h1, fun r hr => Int.le_trans (le.at_ r) (h2 r hr)⟩
/-- Awards in which from has less, and to has more. -/
def chgV (aw : List Int) (f t : Nat) (x n : Int) : List Int := (aw.set f (clA aw f - x)).set t (clA (aw.set f (clA aw f - x)) t + n)
variable {f t : Nat} {x n m : Int}
theorem chgV_len : (chgV aw f t x n).length = aw.length := by unfold chgV; rw [List.length_set, List.length_set]
theorem chgV_at (hf : f < aw.length) (ht : t < aw.length) (hne : f ≠ t) (i : Nat) : clA (chgV aw f t x n) i = if i = t then clA aw t + n else if i = f then clA aw f - x else clA aw i := by
  unfold chgV
  rw [clA_set (by rw [List.length_set]; exact ht), clA_set hf, clA_set hf, if_neg hne]
  by_cases e : t = i
  · rw [if_pos e, if_pos (show i = t from e.symm)]
  · rw [if_neg e, if_neg (show ¬ i = t from fun h => e h.symm)]
    by_cases e2 : f = i
    · rw [if_pos e2, if_pos (show i = f from e2.symm)]
    · rw [if_neg e2, if_neg (show ¬ i = f from fun h => e2 h.symm)]
theorem okL_of {l : List Int} (h : ∀ i, i < l.length → 0 ≤ clA l i ∧ clA l i ≤ 1073741824) : OkL l := fun c hc => by
  obtain ⟨i, hi, rfl⟩ := List.mem_iff_getElem.1 hc
  have := h i hi
  rwa [clA_at (List.getElem?_eq_getElem hi)] at this
theorem chgV_ok (o : OkL aw) (hf : f < aw.length) (ht : t < aw.length) (hne : f ≠ t) (hx : 0 ≤ x ∧ x ≤ clA aw f) (hn : 0 ≤ n ∧ n ≤ 1073741824 - clA aw t) : OkL (chgV aw f t x n) := okL_of fun i hi => by
  rw [chgV_at hf ht hne]
  have := clA_ok o f
  have := clA_ok o t
  have := clA_ok o i
  split
  · omega
  · split <;> omega
theorem chgV_le (hf : f < aw.length) (ht : t < aw.length) (hne : f ≠ t) (h : n ≤ m) : LeL (chgV aw f t x n) (chgV aw f t x m) := ⟨by rw [chgV_len, chgV_len], fun i _ => by
  rw [chgV_at hf ht hne, chgV_at hf ht hne]
  split
  · omega
  · exact Int.le_refl _⟩
theorem chgV_zero (hf : f < aw.length) (ht : t < aw.length) (hne : f ≠ t) (hx : 0 ≤ x) : LeL (chgV aw f t x 0) aw := ⟨chgV_len, fun i _ => by
  rw [chgV_at hf ht hne]
  split
  · rename_i e; rw [e]; omega
  · split
    · rename_i e; rw [e]; omega
    · exact Int.le_refl _⟩
/-- The greatest number up to hi for which something holds. -/
structure Great (p : Int → Bool) (hi res : Int) : Prop where
  lo : 0 ≤ res
  le : res ≤ hi
  yes : p res = true
  no : ∀ v, res < v → v ≤ hi → p v = false
theorem Great.uniq {p : Int → Bool} {hi a b : Int} (h : Great p hi a) (k : Great p hi b) : a = b := by
  rcases Int.lt_trichotomy a b with q | q | q
  · have := h.no b q k.le; rw [k.yes] at this; cases this
  · exact q
  · have := k.no a q h.le; rw [h.yes] at this; cases this
/-- What to gets for litres of from. -/
def gotP (d : Dist) (bf aw : List Int) (f t : Nat) (x : Int) (n : Int) : Bool := harmB d bf (chgV aw f t x n)
def GotV (d : Dist) (bf aw : List Int) (f t : Nat) (x g : Int) : Prop := Great (gotP d bf aw f t x) (1073741824 - clA aw t) g
/-- What a move needs. -/
structure MvOk (d : Dist) (bf aw : List Int) (f t : Nat) (x : Int) : Prop where
  hd : headsV d aw = some bf
  hf : f < d.farms.length
  ht : t < d.farms.length
  ne : f ≠ t
  hx : 0 ≤ x ∧ x ≤ clA aw f
variable {bf : List Int}
theorem MvOk.rdy (M : MvOk d bf aw f t x) : Rdy d aw bf := (headsV_some M.hd).2.2
theorem MvOk.fl (M : MvOk d bf aw f t x) : f < aw.length ∧ t < aw.length := by rw [M.rdy.lc]; exact ⟨M.hf, M.ht⟩
theorem MvOk.hi (M : MvOk d bf aw f t x) : 0 ≤ 1073741824 - clA aw t := by have := clA_ok M.rdy.okc t; omega
theorem MvOk.mono (M : MvOk d bf aw f t x) {n m : Int} (hn : 0 ≤ n) (h : n ≤ m) (hm : m ≤ 1073741824 - clA aw t) (hp : gotP d bf aw f t x m = true) : gotP d bf aw f t x n = true :=
  harmB_mono (chgV_le M.fl.1 M.fl.2 M.ne h) (chgV_ok M.rdy.okc M.fl.1 M.fl.2 M.ne M.hx ⟨hn, by omega⟩) hp
theorem MvOk.zero (M : MvOk d bf aw f t x) : gotP d bf aw f t x 0 = true := by
  refine harmB_mono (aw' := aw) (chgV_zero M.fl.1 M.fl.2 M.ne M.hx.1) (chgV_ok M.rdy.okc M.fl.1 M.fl.2 M.ne M.hx ⟨Int.le_refl _, M.hi⟩) (harmB_iff.2 ⟨bf, M.hd, Int.le_refl _, fun r _ => by omega⟩)
/-- After a move the awards are right again. -/
theorem MvOk.next (_M : MvOk d bf aw f t x) {g : Int} (G : GotV d bf aw f t x g) : ∃ l, headsV d (chgV aw f t x g) = some l ∧ clA l 0 ≤ clA bf 0 ∧ ∀ r, r < d.reaches.length → clA l r ≤ max (clA bf r) (rcC d r).cap := harmB_iff.1 G.yes
end
end Go.Proofs.Ytcpogcdadlcdaaa

/- Layer 46: contracts of in, heads, Clone, changed, greatest. -/
namespace Go.Proofs.Ytcpogcdadlcdaaa
open Go Go.RowKit

/-- A slice asked for nil. -/
theorem eqNilJ {P : Program} {t e : TypeId} {sz : Nat} [h : SliceTy P t e sz] {xo yo : Operand} {A : Option Addr} {n c : Nat} {K : Value → Prop} (k1 : A = none → K (.bool true)) (k2 : A ≠ none → K (.bool false)) : BinP P .eql t xo yo (.slice A n c) (.slice none 0 0) K := by
  rw [BinP_eq]
  obtain ⟨hu, _⟩ := sliceOf_spec h.h
  refine pure_vval (x := .bool A.isNone) (fun w => ?_) ?_
  · have h1 : (eqGuard .eql t xo yo (.slice A n c) (.slice none 0 0)).run P w = .ok () w := rfl
    have h2 : binOp .eql t (.slice A n c) (.slice none 0 0) = (do pure (.bool (← Op.equal t (.slice A n c) (.slice none 0 0)))) := rfl
    rw [Sem.run_bind, h1, h2]
    simp only [Result.andThen_ok, Sem.run_bind, run_equal_slice_nil w t e A n c hu, Sem.run_pure]
  · cases A with
    | none => exact k1 rfl
    | some a => exact k2 (by simp)
theorem flatJ_eq {D : Nat → Prop} {w : World} : ∀ {xs : List Int} {cs : List Value}, FlatR tInt D w xs cs → cs = xs.map fun v => Value.int .i64 v
  | [], _, h => h
  | y :: r, _, ⟨c1, r1, h, ⟨h1, _⟩, h2⟩ => by rw [h, h1, flatJ_eq h2]; rfl
/-- A block that begins with numbers. -/
theorem blkPre {w : World} {b n : Nat} {t : TypeId} {l : List Int} {rest : List Value} {D : Nat → Prop} (h : Blk w b t (ivs l ++ rest)) (hn : n = l.length) (hl : ∀ x ∈ l, I64 x) (hle : n ≤ 140737488355328) (hD : D b) : SlR tInt D w (some (ad b 0)) n l :=
  SlR.of_cells hn hle hD (fun k v hv => by
    rw [Nat.zero_add]
    exact h.cell (by rw [List.getElem?_append_left (List.getElem?_eq_some_iff.1 hv).1]; exact hv)) (flat_ints hl)
theorem ivs_pre {l : List Int} {rest : List Value} {i : Nat} {x : Int} (h : i < l.length) : (ivs l ++ rest).set i (iv x) = ivs (l.set i x) ++ rest := by
  rw [← ivs_set, List.set_append_left _ _ (by simpa [ivs] using h)]
section
variable {D : Nat → Prop} {w : World}
theorem c_hin {n lo hi : Int} : CallZ Try.prog 18 #[iv n, iv lo, iv hi] w (fun v w' => v = .bool (inI n lo hi) ∧ w' = w) := by
  refine fn_rule (args := [iv n, iv lo, iv hi]) Try.func18 (by kernel_rfl) ?_
  refine cD (fun g1 => ?_) (fun g1 => ?_)
  · refine cD (fun g2 => ?_) (fun g2 => ?_)
    · exact ret1 (.bool true) rfl ⟨by rw [inI_iff.2 ⟨g1, g2⟩], rfl⟩
    · exact ret1 (.bool false) rfl ⟨by rw [inI_not.2 (fun h => g2 h.2)], rfl⟩
  · exact ret1 (.bool false) rfl ⟨by rw [inI_not.2 (fun h => g1 h.1)], rfl⟩
theorem c_hheads {csd : List Value} {d : Dist} {cl : List Int} {A : Option Addr} {n c : Nat} (hd : DiR D w csd d) (hl : SlR tInt D w A n cl) : CallZ Try.prog 30 #[.agg csd.toArray, .slice A n c] w (fun v w' => Ext w w' ∧ ((headsV d cl = none ∧ ∃ B nb cb, v = .tuple #[.slice B nb cb, .bool false]) ∨
    ∃ hs bh, headsV d cl = some hs ∧ v = .tuple #[.slice (some (ad bh 0)) d.reaches.length d.reaches.length, .bool true] ∧ w.heap.size ≤ bh ∧ Blk w' bh 3 (ivs hs))) := by
  have hd0 := hd
  obtain ⟨A1, n1, c1, A2, n2, c2, A3, n3, c3, A4, n4, c4, A5, n5, c5, A6, n6, c6, rfl, hr, hf, -⟩ := hd.ex
  refine fn_rule (args := [.agg #[.string d.name, iv d.hours, iv d.cap, iv d.start, .slice A1 n1 c1, .slice A2 n2 c2, .slice A3 n3 c3, .slice A4 n4 c4, .slice A5 n5 c5, .slice A6 n6 c6], .slice A n c]) Try.func30 (by kernel_rfl) ?_
  refine box (fun b1 w1 h1 => ?_)
  have B1 : Blk w1 b1 38 [.string d.name, iv d.hours, iv d.cap, iv d.start, .slice A1 n1 c1, .slice A2 n2 c2, .slice A3 n3 c3, .slice A4 n4 c4, .slice A5 n5 c5, .slice A6 n6 c6] := h1.blk
  have s1 := h1.ext.size
  refine ldA [.string d.name, iv d.hours, iv d.cap, iv d.start, .slice A1 n1 c1, .slice A2 n2 c2, .slice A3 n3 c3, .slice A4 n4 c4, .slice A5 n5 c5, .slice A6 n6 c6] (.blk B1) rfl ?_
  refine call_of (c_dNeeds (hd0.ext h1.ext) (hl.ext h1.ext)) ?_
  rintro _ w2 ⟨x2, ⟨h, rfl⟩ | ⟨h, hn, rfl⟩ | ⟨h, hs, bh, hn, rfl, hb, Bh⟩⟩
  · exact ret2 (.slice none 0 0) (.bool false) rfl rfl ⟨h1.ext.trans x2, .inl ⟨by unfold headsV; rw [if_neg h], _, _, _, rfl⟩⟩
  · exact ret2 (.slice none 0 0) (.bool false) rfl rfl ⟨h1.ext.trans x2, .inl ⟨by unfold headsV; rw [if_pos h]; exact hn, _, _, _, rfl⟩⟩
  · refine cE (fun _ => ?_) (fun h => absurd rfl h)
    exact ret2 (.slice (some (ad bh 0)) d.reaches.length d.reaches.length) (.bool true) rfl rfl ⟨h1.ext.trans x2, .inr ⟨hs, bh, by unfold headsV; rw [if_pos h]; exact hn, rfl, by omega, Bh⟩⟩
theorem c_cloneJ {A : Option Addr} {n c : Nat} {xs : List Int} (ha : SlR tInt D w A n xs) (hn : n ≤ 1000000) (hi : ∀ x ∈ xs, I64 x) : CallZ Try.prog 32 #[.slice A n c] w
    (fun v w' => Ext w w' ∧ ∃ A' c', v = .slice A' n c' ∧ SlR tInt (fun b => w.heap.size ≤ b) w' A' n xs ∧ (0 < n → ∃ q rest, A' = some (ad q 0) ∧ Blk w' q 3 (ivs xs ++ rest) ∧ w.heap.size ≤ q)) := by
  have hl := ha.len
  refine fn_rule (args := [.slice A n c]) Try.func32 (by kernel_rfl) ?_
  refine eqNilJ (fun hA => ?_) (fun hA => ?_)
  · have h0 : n = 0 := by
      by_cases h : 0 < n
      · obtain ⟨b, o, cs, x, e, _⟩ := ha.at_ (k := 0) h
        rw [hA] at e; cases e
      · omega
    subst h0
    have hx : xs = [] := List.eq_nil_of_length_eq_zero (by omega)
    subst hx
    exact ret1 (.slice none 0 0) rfl ⟨.refl _ _, none, 0, rfl, .nil, fun h => by omega⟩
  · refine lit [] (fun g w1 h1 => ?_)
    have ha1 := ha.ext h1.ext
    have o1 : OwnF w w1 (some (ad g 0)) 0 0 3 1 [] := OwnF.lit (cs := []) (.refl _ _) h1 rfl
    have hsrc : Src w1 A n 1 (xs.map fun v => Value.int .i64 v) := by
      refine ⟨by rw [List.length_map]; omega, fun hn0 => ?_⟩
      obtain ⟨b, o, cs, x, rfl, _⟩ := ha1.at_ hn0
      obtain ⟨cs2, hf, hc⟩ := ha1.cells
      refine ⟨b, o, rfl, ?_⟩
      rw [← flatJ_eq hf]; exact hc
    refine appF o1 hsrc (by omega) (fun A' c' w3 o3 _ _ => ?_) (h1 := by rw [List.all_map]; exact List.all_eq_true.2 fun _ _ => rfl)
    rw [List.nil_append] at o3
    refine ret1 (.slice A' (0 + n) c') rfl ⟨o3.ext, A', c', by rw [Nat.zero_add], ?_, fun hp => ?_⟩
    · have := o3.ints (D := fun b => w.heap.size ≤ b) hi (by omega) fun _ h => h
      rwa [Nat.zero_add] at this
    · rcases o3.form with ⟨_, e1, -⟩ | ⟨q, e0, hg1, hg2, -⟩
      · omega
      · subst e0
        obtain ⟨rest, hb, -, -⟩ := o3.own.blk
        exact ⟨q, rest, rfl, hb, hg1⟩
theorem c_hchanged {A : Option Addr} {n c f t : Nat} {aw : List Int} {x g : Int} (ha : SlR tInt D w A n aw) (hn : n ≤ 1000) (o : OkL aw) (hf : f < n) (ht : t < n) (hne : f ≠ t) (hx : 0 ≤ x ∧ x ≤ clA aw f) (hg : 0 ≤ g ∧ g ≤ 1073741824 - clA aw t) :
    CallZ Try.prog 49 #[.slice A n c, iv (f : Int), iv (t : Int), iv x, iv g] w (fun v w' => Ext w w' ∧ ∃ A' c', v = .slice A' n c' ∧ SlR tInt (fun b => w.heap.size ≤ b) w' A' n (chgV aw f t x g)) := by
  have hl := ha.len
  have of_ := clA_ok o f
  have ot := clA_ok o t
  refine fn_rule (args := [.slice A n c, iv (f : Int), iv (t : Int), iv x, iv g]) Try.func49 (by kernel_rfl) ?_
  refine call_of (c_cloneJ ha (by omega) (okL_i64 o)) ?_
  rintro _ w1 ⟨x1, A', c', rfl, s1, hp⟩
  obtain ⟨q, rest, rfl, B, hq⟩ := hp (by omega)
  have z1 := x1.size
  have at_ : ∀ {w : World} {l : List Int} {i : Nat}, Blk w q 3 (ivs l ++ rest) → i < l.length → w.cell? (ad q (0 + i * tInt.sz)) = some (iv (clA l i)) := fun {w l i} hb hi => by
    have e : (0 + i * tInt.sz) = i := by rw [Nat.zero_add]; exact Nat.mul_one i
    rw [e]
    refine hb.cell ?_
    rw [List.getElem?_append_left (by simpa [ivs] using hi)]
    unfold ivs
    rw [List.getElem?_map, List.getElem?_eq_getElem hi, clA_at (List.getElem?_eq_getElem hi)]; rfl
  refine idx f rfl hf ?_
  refine ld (iv (clA aw f)) (at_ B (by omega)) ?_
  refine arI (by omega) ?_
  refine idx f rfl hf ?_
  refine st (v := iv (clA aw f - x)) B (by simp [ivs]; omega) rfl (fun w2 B2 k2 z2 => ?_)
  have B2 : Blk w2 q 3 (ivs (aw.set f (clA aw f - x)) ++ rest) := by rw [← ivs_pre (by omega)]; simpa using B2
  have e2 : clA (aw.set f (clA aw f - x)) t = clA aw t := by rw [clA_set (by omega), if_neg hne]
  refine idx t rfl ht ?_
  refine ld (iv (clA (aw.set f (clA aw f - x)) t)) (at_ B2 (by rw [List.length_set]; omega)) ?_
  refine arI (by rw [e2]; omega) ?_
  refine idx t rfl ht ?_
  refine st (v := iv (clA (aw.set f (clA aw f - x)) t + g)) B2 (by simp [ivs]; omega) rfl (fun w3 B3 k3 z3 => ?_)
  have B3 : Blk w3 q 3 (ivs (chgV aw f t x g) ++ rest) := by
    unfold chgV
    rw [← ivs_pre (by rw [List.length_set]; omega)]; simpa using B3
  have oc := chgV_ok o (by omega : f < aw.length) (by omega) hne hx hg
  refine ret1 (.slice (some (ad q 0)) n c') rfl ⟨(x1.then k2 fun b hb _ e => by omega).then k3 fun b hb _ e => by omega, _, _, rfl, blkPre B3 (by rw [chgV_len]; omega) (okL_i64 oc) (by omega) hq⟩
/-- The greatest number, by halving. -/
theorem c_hgreat {hi : Int} {p : Int → Bool} {fn : FuncId} {cap : Array Value} [he : Enters Try.prog fn] (h0 : 0 ≤ hi ∧ hi ≤ 1073741824) (hz : p 0 = true) (hm : ∀ v v' : Int, 0 ≤ v → v ≤ v' → v' ≤ hi → p v' = true → p v = true)
    (hc : ∀ (v : Int) (w' : World), 0 ≤ v → v ≤ hi → Ext w w' → CallZ Try.prog fn ([iv v] ++ cap.toList).toArray w' (fun u w'' => u = .bool (p v) ∧ Ext w' w'')) :
    CallZ Try.prog 47 #[iv 0, iv hi, .func (.func fn) #[] cap] w (fun v w' => ∃ k : Int, v = iv k ∧ Great p hi k ∧ Ext w w') := by
  refine fn_rule (args := [iv 0, iv hi, .func (.func fn) #[] cap]) Try.func47 (by kernel_rfl) ?_
  refine loop2 (fun (a b : Int) => [(0, iv a), (1, iv b)]) (fun a b w' => (0 ≤ a ∧ a ≤ b ∧ b ≤ hi ∧ p a = true ∧ ∀ v, b < v → v ≤ hi → p v = false) ∧ Ext w w') (fun a b _ => (b - a).toNat) 0 hi ⟨rfl, rfl, trivial⟩ ⟨⟨by omega, by omega, by omega, hz, fun v h1 h2 => by omega⟩, .refl _ _⟩ rfl ?_
  rintro G a b w' ⟨⟨h1, h2, h3, h4, h5⟩, xw⟩
  refine cD (fun hlt => ?_) (fun hge => ?_)
  · refine arI (by omega) ?_
    refine quoI (by omega) (by omega) (by omega) ?_
    refine arI (by omega) ?_
    obtain ⟨m, hmm⟩ : ∃ m, m = b - (b - a) / 2 := ⟨_, rfl⟩
    rw [← hmm]
    refine callE (hc m w' (by omega) (by omega) xw) (fun w2 hp x2 => ?_) (fun w2 hp x2 => ?_)
    · exact next2 m b ⟨rfl, rfl, trivial⟩ ⟨⟨by omega, by omega, by omega, hp, h5⟩, xw.trans x2⟩ (by omega)
    · refine arI (by omega) ?_
      refine next2 a (m - 1) ⟨rfl, rfl, trivial⟩ ⟨⟨by omega, by omega, by omega, h4, fun v hv1 hv2 => ?_⟩, xw.trans x2⟩ (by omega)
      cases hv : p v with
      | false => rfl
      | true => rw [hm m v (by omega) (by omega) hv2 hv] at hp; cases hp
  · have : a = b := by omega
    subst this
    exact ret1 (iv a) rfl ⟨a, rfl, ⟨h1, h3, h4, h5⟩, xw⟩
end
end Go.Proofs.Ytcpogcdadlcdaaa
