/- Parts of the proof: Et Eu Ev Ew Za Zt. -/
import Derived.Test.YtffdjecdcbbfaaaM10
import Derived.Test.YtffdjecdcbbfaaaM7
import Derived.Test.YtffdjecdcbbfaaaM6
import Derived.Test.YtffdjecdcbbfaaaM5
import Derived.Test.YtffdjecdcbbfaaaRows
import Derived.Stop.LaidErr

/- Layer 48, plainly: the wave of a parcel of a right run, and what really happened to it. -/
namespace Go.Proofs.Ytffdjecdcbbfaaa
open Go Go.RowKit

def atV (d : Dist) (hour : Int) (r : Nat) : Nat := (hour + delV d (rch d r).up).toNat
def endV (d : Dist) (hour : Int) (r : Nat) : Nat := (hour + delV d r).toNat
def hdV (d : Dist) (x : Run) (hour : Int) (r : Nat) : Int := g2 x.inn r (atV d hour r)
def tlV (d : Dist) (x : Run) (hour : Int) (r : Nat) : Int := g2 x.tail r (endV d hour r)
def arV (d : Dist) (x : Run) (hour : Int) (r : Nat) : Int := g2 x.inn r (atV d hour r) - g2 x.evap r (atV d hour r) - g2 x.seep r (atV d hour r)
def otV (d : Dist) (x : Run) (hour : Int) (f : Nat) : Int := g2 x.taken f (endV d hour (frm d f).reach.toNat)
def arR (wide n : Int) : Rg := ⟨max 0 (n - wide), min 1073741824 (n + wide)⟩
def ofW (d : Dist) (x : Run) (hour wide : Int) : Wv := ⟨hour, (List.range d.reaches.length).map fun r => arR wide (hdV d x hour r), (List.range d.farms.length).map fun f => arR wide (otV d x hour f), (List.range d.reaches.length).map fun r => arR wide (tlV d x hour r)⟩
def ofT (d : Dist) (x : Run) (hour : Int) (n : Nat) : Tru := ⟨(List.range d.reaches.length).map fun r => hdV d x hour r, (List.range d.farms.length).map fun f => otV d x hour f, (List.range d.reaches.length).map fun r => tlV d x hour r, (List.range d.reaches.length).map fun r => arV d x hour r, List.replicate n 0⟩
def ofFit (d : Dist) (hour : Int) : Bool := (List.range d.reaches.length).all fun r : Nat => decide (hour + delV d (r : Int) < d.hours)
def ofErr (d : Dist) (x : Run) (hour wide : Int) : Int := if bErr d x ≠ 0 then bErr d x else if hour < 0 ∨ hour ≥ d.hours ∨ wide < 0 ∨ wide > 1073741824 then 1 else if ofFit d hour then 0 else 1
section
variable {d : Dist} {x : Run} {hour wide : Int} {H n : Nat}
theorem left_ok48 (hf : Fm d x H) (hR : RightP d x H) {i k : Nat} (hi : i < d.reaches.length) (hk : k < H) : (parc d x k i).1 - (lostR (rch d i) (parc d x k i).1).hi ≤ leftN d x i k ∧ leftN d x i k ≤ (parc d x k i).1 - (lostR (rch d i) (parc d x k i).1).lo := by
  have hb := hR.bal i k hi hk
  unfold balI at hb
  rw [decide_eq_true_eq] at hb
  obtain ⟨-, hl, -⟩ := hf.at_ (reach_at hi)
  have hz : (parc d x k i).1 = 0 → (parc d x k i).2.1 = 0 ∧ (parc d x k i).2.2 = 0 := by
    unfold parc
    split
    · intro h0
      have ha := hR.adm i (ent d i k).toNat hi (hf.ent_lt hi hk).2
      unfold admB at ha
      rw [if_pos h0] at ha
      simpa using ha
    · exact fun _ => ⟨rfl, rfl⟩
  by_cases h0 : (parc d x k i).1 = 0
  · obtain ⟨h1, h2⟩ := hz h0
    have := lost_le (v := (parc d x k i).1) hl (by omega)
    omega
  · have ha : admB (rch d i) (parc d x k i).1 (parc d x k i).2.1 (parc d x k i).2.2 = true := by
      revert h0
      unfold parc
      split
      · exact fun _ => hR.adm i (ent d i k).toNat hi (hf.ent_lt hi hk).2
      · exact fun h => absurd rfl h
    obtain ⟨-, -, h3, h4, -⟩ := (admB_iff h0).1 ha
    omega
theorem delV_neg {r : Int} (h : r < 0) : delV d r = 0 := by unfold delV; rw [show (r + 1).toNat = 0 by omega]; rfl
/-- The hours on the way are those of the reaches on it. -/
theorem delV_b (ht : Tre d) : ∀ (f : Nat) (r : Int), r < f → r < d.reaches.length → 0 ≤ delV d r ∧ delV d r ≤ 16 * (r + 1).toNat
  | 0, r, hf, _ => by rw [delV_neg (by omega)]; omega
  | f + 1, r, hf, hn => by
    by_cases h0 : r < 0
    · rw [delV_neg h0]; omega
    obtain ⟨k, rfl⟩ : ∃ k : Nat, r = k := ⟨r.toNat, by omega⟩
    have hx := reach_at (d := d) (i := k) (by omega)
    have hu := ht.up _ _ hx
    have hdl := ht.dl _ _ hx
    have ih := delV_b ht f (rch d k).up (by omega) (by omega)
    rw [delV_step ht hx]
    omega
structure OfOk (d : Dist) (x : Run) (hour wide : Int) : Prop where
  b : bErr d x = 0
  h : 0 ≤ hour ∧ hour < d.hours
  w : 0 ≤ wide ∧ wide ≤ 1073741824
  fit : ∀ r : Nat, r < d.reaches.length → hour + delV d (r : Int) < d.hours
theorem ofErr_ok : ofErr d x hour wide = 0 ↔ OfOk d x hour wide := by
  unfold ofErr
  by_cases h0 : bErr d x = 0
  · rw [if_neg (by simp [h0])]
    by_cases h1 : hour < 0 ∨ hour ≥ d.hours ∨ wide < 0 ∨ wide > 1073741824
    · rw [if_pos h1]; exact ⟨fun h => absurd h (by decide), fun h => by have := h.h; have := h.w; omega⟩
    · rw [if_neg h1]
      by_cases h2 : ofFit d hour = true
      · rw [if_pos h2]
        refine ⟨fun _ => ⟨h0, by omega, by omega, fun r hr => ?_⟩, fun _ => rfl⟩
        exact of_decide_eq_true (List.all_eq_true.1 h2 r (List.mem_range.2 hr))
      · rw [if_neg h2]
        refine ⟨fun h => absurd h (by decide), fun h => absurd (List.all_eq_true.2 fun r hr => decide_eq_true (h.fit r (List.mem_range.1 hr))) h2⟩
  · rw [if_pos (by simpa using h0)]; exact ⟨fun h => absurd h h0, fun h => absurd h.b h0⟩
theorem OfOk.tre (h : OfOk d x hour wide) : Tre d := tre_of (dErr_ok.2 (bErr_ok.1 h.b).1)
theorem at_of (ht : Tre d) (hh : 0 ≤ hour) {r : Nat} (hr : r < d.reaches.length) : ((atV d hour r : Nat) : Int) = hour + delV d (rch d r).up ∧ ((endV d hour r : Nat) : Int) = hour + delV d (r : Int) ∧ hour + delV d (r : Int) = hour + delV d (rch d r).up + (rch d r).delay ∧ (1 ≤ (rch d r).delay ∧ (rch d r).delay ≤ 16) ∧ 0 ≤ delV d (r : Int) ∧ delV d (r : Int) ≤ 16 * (r + 1) := by
  have hx := reach_at hr
  have hu := ht.up _ _ hx
  have hdl := ht.dl _ _ hx
  have st := delV_step ht hx
  have b1 := delV_b ht r (rch d r).up (by omega) (by omega)
  have b2 := delV_b ht (r + 1) r (by omega) (by omega)
  unfold atV endV
  omega
theorem OfOk.at_ (h : OfOk d x hour wide) {r : Nat} (hr : r < d.reaches.length) : ((atV d hour r : Nat) : Int) = hour + delV d (rch d r).up ∧ ((endV d hour r : Nat) : Int) = hour + delV d (r : Int) ∧ hour + delV d (r : Int) = hour + delV d (rch d r).up + (rch d r).delay ∧ (rch d r).delay ≥ 1 ∧ atV d hour r < d.hours.toNat ∧ endV d hour r < d.hours.toNat := by
  have hh := h.h
  have hf := h.fit r hr
  have := at_of h.tre hh.1 hr
  omega
theorem OfOk.bounds (h : OfOk d x hour wide) : (∀ r, r < d.reaches.length → (0 ≤ hdV d x hour r ∧ hdV d x hour r ≤ 1073741824) ∧ (0 ≤ tlV d x hour r ∧ tlV d x hour r ≤ 1073741824)) ∧ ∀ f, f < d.farms.length → (0 ≤ otV d x hour f ∧ otV d x hour f ≤ 1073741824) ∧ 0 ≤ (frm d f).reach ∧ (frm d f).reach < d.reaches.length := by
  obtain ⟨hf, hR⟩ := bErr_fm h.b
  have hv := (bErr_ok.1 h.b).1.2
  refine ⟨fun r hr => ?_, fun f hff => ?_⟩
  · obtain ⟨-, -, -, -, h1, h2⟩ := h.at_ hr
    exact ⟨tab_val hf.inn hr h1, tab_val hf.tail hr h2⟩
  · have hfr : 0 ≤ (frm d f).reach ∧ (frm d f).reach < d.reaches.length := by
      obtain ⟨-, -, -, hF, -⟩ := validB_iff.1 hv
      have := List.all_eq_true.1 hF (frm d f) (List.mem_of_getElem? (farm_at hff))
      unfold farmOk at this
      simp only [Bool.and_eq_true, inI_iff] at this
      omega
    obtain ⟨-, -, -, -, -, h2⟩ := h.at_ (r := (frm d f).reach.toNat) (by omega)
    exact ⟨tab_val hf.taken hff h2, hfr⟩
theorem arR_ok {n : Int} (hn : 0 ≤ n ∧ n ≤ 1073741824) (hw : 0 ≤ wide) : rgOk (arR wide n) 1073741824 = true ∧ (arR wide n).lo ≤ n ∧ n ≤ (arR wide n).hi := by
  rw [rgOk_iff]; unfold arR; dsimp only; omega
theorem rgs_map {R : Nat} {f : Nat → Int} (hw : 0 ≤ wide) (h : ∀ r, r < R → 0 ≤ f r ∧ f r ≤ 1073741824) : rgsB R ((List.range R).map fun r => arR wide (f r)) = true := by
  unfold rgsB
  rw [Bool.and_eq_true, decide_eq_true_eq, List.length_map, List.length_range]
  refine ⟨rfl, List.all_eq_true.2 fun y hy => ?_⟩
  obtain ⟨r, hr, rfl⟩ := List.mem_map.1 hy
  exact (arR_ok (h r (List.mem_range.1 hr)) hw).1
theorem OfOk.wave (h : OfOk d x hour wide) : wavesB d (-1) [ofW d x hour wide] = true := by
  have hh := h.h
  obtain ⟨b1, b2⟩ := h.bounds
  unfold wavesB waveB wavesB
  rw [Bool.and_true, Bool.and_eq_true, Bool.and_eq_true, Bool.and_eq_true, Bool.and_eq_true]
  exact ⟨decide_eq_true (show -1 < hour by omega), decide_eq_true hh.2, rgs_map h.w.1 fun r hr => (b1 r hr).1, rgs_map h.w.1 fun r hr => (b2 r hr).1, rgs_map h.w.1 fun r hr => (b1 r hr).2⟩
/-- The wave alone is a right evidence. -/
theorem OfOk.ev (h : OfOk d x hour wide) : evErr d ⟨[ofW d x hour wide], []⟩ = 0 := by
  unfold evErr
  rw [if_neg (by simp [dErr_ok.2 (bErr_ok.1 h.b).1]), if_neg (by simp)]
  show (if wavesB d (-1) [ofW d x hour wide] && true then (0 : Int) else 480) = 0
  rw [h.wave]; rfl
theorem getD_mapT {α : Type} {R : Nat} {f : Nat → α} {k : Nat} {z : α} (h : k < R) : ((List.range R).map f).getD k z = f k := by
  rw [List.getD_eq_getElem?_getD, List.getElem?_map, List.getElem?_range h]; rfl
theorem in_around {R : Nat} {f : Nat → Int} {kind : Int} (y : Ev) (hw : 0 ≤ wide) (h : ∀ r, r < R → 0 ≤ f r ∧ f r ≤ 1073741824) : inB (blF y []) kind ((List.range R).map f) ((List.range R).map fun r => arR wide (f r)) = true := by
  rw [inB_iff]
  refine ⟨by simp, fun i hi => ?_⟩
  have hi : i < R := by simpa using hi
  rw [getD_mapT hi, getD_mapT hi]
  unfold meterV
  rw [blF_nil]
  exact (arR_ok (h i hi) hw).2
theorem sumF_zero {q : Nat → Bool} {f : Nat → Int} {k : Nat} (h : ∀ i, i < k → f i = 0) : sumF q f k = 0 := by
  rw [sumF_congr (g := fun _ => 0) h]
  unfold sumF
  generalize (List.range k).filter q = l
  induction l with
  | nil => rfl
  | cons a l ih => rw [List.map_cons, List.sum_cons, ih]; rfl
/-- What really happened fits, with nobody. -/
theorem OfOk.fits (h : OfOk d x hour wide) (y : Ev) (hy : y.suspects.length = n) : FitsL d y (blF y []) (ofW d x hour wide) (ofT d x hour n) := by
  obtain ⟨b1, b2⟩ := h.bounds
  obtain ⟨hf, hR⟩ := bErr_fm h.b
  have ht := h.tre
  refine ⟨in_around y h.w.1 fun r hr => (b1 r hr).1, in_around y h.w.1 fun r hr => (b2 r hr).1, in_around y h.w.1 fun r hr => (b1 r hr).2, by simp [ofT], by simp [ofT, hy], fun i hi => ?_, fun r hr => ?_⟩
  · have e0 : (List.replicate n (0 : Int)).getD i 0 = 0 := by rw [List.getD_eq_getElem?_getD, List.getElem?_replicate_of_lt (by omega)]; rfl
    show 0 ≤ (List.replicate n (0 : Int)).getD i 0 ∧ (List.replicate n (0 : Int)).getD i 0 ≤ mostT y (blF y []) i
    rw [e0]
    unfold mostT
    split
    · rw [blF_nil]; exact ⟨Int.le_refl _, Int.le_refl _⟩
    · exact ⟨Int.le_refl _, Int.le_refl _⟩
  obtain ⟨p1, p2, p3, p4, p5, p6⟩ := h.at_ hr
  have hent : ent d r (endV d hour r) = ((atV d hour r : Nat) : Int) := by unfold ent; omega
  have hp : parc d x (endV d hour r) r = (g2 x.inn r (atV d hour r), g2 x.evap r (atV d hour r), g2 x.seep r (atV d hour r)) := by
    unfold parc; rw [if_pos (by omega), hent, Int.toNat_natCast]
  have hb := hR.bal r _ hr p6
  unfold balI at hb
  rw [decide_eq_true_eq, hp] at hb
  have hlk := left_ok48 hf hR hr p6
  rw [hp] at hlk
  have hout : out3 d y (ofT d x hour n) d.farms.length r = leftN d x r (endV d hour r) := by
    unfold out3 out2 out1
    rw [sumF_zero (q := qP y r) (f := fun i => (ofT d x hour n).taken.getD i 0) fun i hi => by
      show (List.replicate n (0 : Int)).getD i 0 = 0
      rw [List.getD_eq_getElem?_getD, List.getElem?_replicate_of_lt (by omega)]; rfl]
    have e1 : (ofT d x hour n).tails.getD r 0 = g2 x.tail r (endV d hour r) := getD_mapT hr
    have e2 : sumF (qH d r) (fun i => (ofT d x hour n).heads.getD i 0) d.reaches.length = sumL (childL d x (endV d hour r) r d.reaches.length) := by
      unfold sumF sumL childL
      rw [List.map_map]
      congr 1
      show List.map _ ((List.range d.reaches.length).filter fun j : Nat => decide ((rch d j).up = (r : Int))) = _
      refine List.map_congr_left fun j hj => ?_
      rw [List.mem_filter, List.mem_range, decide_eq_true_eq] at hj
      show ((List.range d.reaches.length).map fun r => hdV d x hour r).getD j 0 = g2 x.inn j (endV d hour r)
      rw [getD_mapT hj.1]
      unfold hdV atV endV
      rw [hj.2]
    have e3 : sumF (qO d r) (fun i => (ofT d x hour n).outlets.getD i 0) d.farms.length = sumL (farmL d x (endV d hour r) r d.farms.length) := by
      unfold sumF sumL farmL
      rw [List.map_map]
      congr 1
      show List.map _ ((List.range d.farms.length).filter fun j : Nat => decide ((frm d j).reach = (r : Int))) = _
      refine List.map_congr_left fun j hj => ?_
      rw [List.mem_filter, List.mem_range, decide_eq_true_eq] at hj
      show ((List.range d.farms.length).map fun r => otV d x hour r).getD j 0 = g2 x.taken j (endV d hour r)
      rw [getD_mapT hj.1]
      unfold otV
      rw [hj.2, Int.toNat_natCast]
    rw [e1, e2, e3]
    unfold leftN
    omega
  have ea : (ofT d x hour n).arrived.getD r 0 = arV d x hour r := getD_mapT hr
  have eh : (ofT d x hour n).heads.getD r 0 = hdV d x hour r := getD_mapT hr
  obtain ⟨-, hlo, -⟩ := hf.at_ (reach_at hr)
  have he : lErr (rcE d r) (hdV d x hour r) = 0 := lErr_ok.2 ⟨hlo, (b1 r hr).1⟩
  rw [ea, eh, hout]
  unfold worstV bestV
  rw [if_pos he, if_pos he]
  refine ⟨by unfold arV; exact hb, hlk⟩
/-- Nobody explains it, and whoever else is suspected, too. -/
theorem OfOk.table (h : OfOk d x hour wide) {y : Ev} (hy : y.waves = [ofW d x hour wide]) (he : evErr d y = 0) : accV d y [] [ofT d x hour y.suspects.length] = true ∧ ∀ b ∈ tableV d y, b = true := by
  have h0 : askErr d y [] = 0 := askErr_ok.2 ⟨he, rfl⟩
  have ha : accV d y [] [ofT d x hour y.suspects.length] = true := by
    unfold accV allB
    rw [if_pos h0, hy]
    show (decide (1 = 1) && (fitsB d y (blF y []) (ofW d x hour wide) (ofT d x hour y.suspects.length) && true)) = true
    rw [fitsB_iff.2 (h.fits y rfl)]; rfl
  refine ⟨ha, fun b hb => ?_⟩
  obtain ⟨n, hn, rfl⟩ := List.getElem_of_mem hb
  have hn' : n < 2 ^ y.suspects.length := by rw [table_len he] at hn; exact hn
  have hg := table_get he hn'
  rw [List.getElem?_eq_getElem hn] at hg
  injection hg with hg
  rw [hg]
  exact expl_more h0 (ask_members he n) rfl (fun i hi => by simp at hi) rfl (fun k v v' h1 h2 => by rw [h1] at h2; injection h2 with h2; rw [h2]; exact .refl _) (acc_expl ha)
end
end Go.Proofs.Ytffdjecdcbbfaaa

/- Layer 48: contract of Of. -/
namespace Go.Proofs.Ytffdjecdcbbfaaa
open Go Go.RowKit

/-- Slices by class: those of two classes do not share. -/
def cof (cls : Nat → Nat) (A : Option Addr) (i : Nat) : Prop := ∀ g, A = some (ad g 0) → cls g = i
theorem cof.none {cls : Nat → Nat} {i : Nat} : cof cls none i := fun g h => by cases h
section
variable {w0 w u : World} {A B : Option Addr} {n c sz m k sy i j : Nat} {e t : TypeId} {cs ds : List Value} {cls cls' : Nat → Nat}
theorem cof.ne (hA : cof cls A i) (hB : cof cls B j) (h : i ≠ j) : dj A B := fun g h1 h2 => h (by rw [← hA g h1, ← hB g h2])
theorem cof.keep (h : cof cls A i) (o : OwnF w0 w A n c e sz cs) (hk : ∀ b, b < w.heap.size → cls' b = cls b) : cof cls' A i := fun g hg => by
  rw [hk g (Own.lt o.own (by rw [hg]; rfl))]; exact h g hg
theorem cof_up {A' B' : Option Addr} (hA : cof cls A i) (hB : cof cls B j) (_oA : OwnF w0 w A n c e sz cs) (_oB : OwnF w0 w B m k t sy ds) (nA : nw w A A') (nB : nw w B B') (hd : dj A' B') :
    ∃ cls' : Nat → Nat, (∀ b, b < w.heap.size → cls' b = cls b) ∧ cof cls' A' i ∧ cof cls' B' j := by
  classical
  refine ⟨fun b => if b < w.heap.size then cls b else if A' = some (ad b 0) then i else j, fun b hb => if_pos hb, fun g hg => ?_, fun g hg => ?_⟩
  · by_cases hl : g < w.heap.size
    · show (if g < w.heap.size then cls g else _) = i
      rw [if_pos hl]
      rcases nA with h | h | ⟨g', h, hge⟩
      · exact hA g (h ▸ hg)
      · rw [h] at hg; cases hg
      · rw [h] at hg; injection hg with hg; injection hg with hg; omega
    · show (if g < w.heap.size then cls g else if A' = some (ad g 0) then i else j) = i
      rw [if_neg hl, if_pos hg]
  · by_cases hl : g < w.heap.size
    · show (if g < w.heap.size then cls g else _) = j
      rw [if_pos hl]
      rcases nB with h | h | ⟨g', h, hge⟩
      · exact hB g (h ▸ hg)
      · rw [h] at hg; cases hg
      · rw [h] at hg; injection hg with hg; injection hg with hg; omega
    · show (if g < w.heap.size then cls g else if A' = some (ad g 0) then i else j) = j
      rw [if_neg hl, if_neg fun h => hd g h hg]
theorem cof_up1 {A' : Option Addr} (hA : cof cls A i) (nA : nw w A A') : ∃ cls' : Nat → Nat, (∀ b, b < w.heap.size → cls' b = cls b) ∧ cof cls' A' i := by
  refine ⟨fun b => if b < w.heap.size then cls b else i, fun b hb => if_pos hb, fun g hg => ?_⟩
  by_cases hl : g < w.heap.size
  · show (if g < w.heap.size then cls g else _) = i
    rw [if_pos hl]
    rcases nA with h | h | ⟨g', h, hge⟩
    · exact hA g (h ▸ hg)
    · rw [h] at hg; cases hg
    · rw [h] at hg; injection hg with hg; injection hg with hg; omega
  · show (if g < w.heap.size then cls g else i) = i
    rw [if_neg hl]
/-- What a put into two other slices leaves. -/
theorem OwnF.past {X : Option Addr} {bT bW l : Nat} {tT tW : TypeId} {csT csW : List Value} (o : OwnF w0 w X n c e sz cs) (cX : cof cls X l) (cA : cof cls A i) (cB : cof cls B j) (hT : Blk w bT tT csT) (hW : Blk w bW tW csW)
    (k : Kept (fun b => b ≠ bT ∧ b ≠ bW ∧ A ≠ some (ad b 0) ∧ B ≠ some (ad b 0)) w u) (hx : Ext w0 u) (h1 : l ≠ i) (h2 : l ≠ j) (h3 : tT ≠ e) (h4 : tW ≠ e) : OwnF w0 u X n c e sz cs :=
  o.thenK k (fun g hg => ⟨fun e' => own_ty o hT h3 (e' ▸ hg), fun e' => own_ty o hW h4 (e' ▸ hg), fun h => cX.ne cA h1 g hg h, fun h => cX.ne cB h2 g hg h⟩) hx
end
def rcells (k : Nat) (f : Nat → Rg) : List Value := (List.range k).flatMap fun r => (f r).c
theorem icells_snoc (k : Nat) (f : Nat → Int) : icells (k + 1) f = icells k f ++ [iv (f k)] := by unfold icells; rw [List.range_succ, List.map_append]; rfl
theorem rcells_snoc (k : Nat) (f : Nat → Rg) : rcells (k + 1) f = rcells k f ++ [iv (f k).lo, iv (f k).hi] := by unfold rcells; rw [List.range_succ, List.flatMap_append]; rfl
theorem flat_rgO {D : Nat → Prop} {w : World} : ∀ {l : List Rg}, FlatR tRg D w l (l.flatMap Rg.c)
  | [] => rfl
  | m :: l => ⟨m.c, l.flatMap Rg.c, rfl, rfl, flat_rgO⟩
theorem OwnF.rgs {w0 w : World} {A : Option Addr} {n c k : Nat} {e : TypeId} {f : Nat → Rg} {D : Nat → Prop} (h : OwnF w0 w A n c e 2 (rcells k f)) (hn : n = k) (hle : n ≤ 140737488355328) (hD : ∀ b, w0.heap.size ≤ b → D b) : SlR tRg D w A n ((List.range k).map f) :=
  Own.rd (a := tRg) (e := e) h.own (by rw [show rcells k f = ((List.range k).map f).flatMap Rg.c from by unfold rcells; rw [List.flatMap_map]]; exact flat_rgO) (by rw [List.length_map, List.length_range]; exact hn) hle fun g hg => hD g (h.new g hg)
theorem OwnF.icl {w0 w : World} {A : Option Addr} {n c k : Nat} {e : TypeId} {f : Nat → Int} {D : Nat → Prop} (h : OwnF w0 w A n c e 1 (icells k f)) (hb : ∀ r, r < k → I64 (f r)) (hle : n ≤ 140737488355328) (hD : ∀ b, w0.heap.size ≤ b → D b) : SlR tInt D w A n ((List.range k).map f) :=
  OwnF.ints (xs := (List.range k).map f) (by rw [List.map_map]; exact h) (fun x hx => by obtain ⟨r, hr, rfl⟩ := List.mem_map.1 hx; exact hb r (List.mem_range.1 hr)) hle hD

/-- What the function has so far: of k reaches and f farms. -/
structure OfI (w0 u : World) (bW bT bw : Nat) (d : Dist) (x : Run) (hour wide : Int) (k f : Nat) (En : Option Addr) (ec : Nat) : Prop where
  of_ ::
  ex : ∃ HT c1 OT c2 TT c3 AT c4 HW c5 OW c6 TW c7 cls,
    Blk u bT 65 [.slice HT k c1, .slice OT f c2, .slice TT k c3, .slice AT k c4, .slice none 0 0] ∧
    Blk u bW 53 [iv hour, .slice HW k c5, .slice OW f c6, .slice TW k c7] ∧
    (OwnF w0 u HT k c1 3 1 (icells k (hdV d x hour)) ∧ cof cls HT 1) ∧
    (OwnF w0 u OT f c2 3 1 (icells f (otV d x hour)) ∧ cof cls OT 2) ∧
    (OwnF w0 u TT k c3 3 1 (icells k (tlV d x hour)) ∧ cof cls TT 3) ∧
    (OwnF w0 u AT k c4 3 1 (icells k (arV d x hour)) ∧ cof cls AT 4) ∧
    (OwnF w0 u HW k c5 58 2 (rcells k fun r => arR wide (hdV d x hour r)) ∧ cof cls HW 5) ∧
    (OwnF w0 u OW f c6 58 2 (rcells f fun r => arR wide (otV d x hour r)) ∧ cof cls OW 6) ∧
    (OwnF w0 u TW k c7 58 2 (rcells k fun r => arR wide (tlV d x hour r)) ∧ cof cls TW 7) ∧
    (OwnF w0 u En k ec 3 1 (icells k fun r => (endV d hour r : Int)) ∧ cof cls En 8) ∧ cls bw = 9
theorem OfI.ext {w0 u u' : World} {bW bT bw k f ec : Nat} {d : Dist} {x : Run} {hour wide : Int} {En : Option Addr} (h : OfI w0 u bW bT bw d x hour wide k f En ec) (y : Ext u u') : OfI w0 u' bW bT bw d x hour wide k f En ec := by
  obtain ⟨HT, c1, OT, c2, TT, c3, AT, c4, HW, c5, OW, c6, TW, c7, cls, T, W, ⟨o1, k1⟩, ⟨o2, k2⟩, ⟨o3, k3⟩, ⟨o4, k4⟩, ⟨o5, k5⟩, ⟨o6, k6⟩, ⟨o7, k7⟩, ⟨o8, k8⟩, k9⟩ := h.ex
  exact ⟨HT, c1, OT, c2, TT, c3, AT, c4, HW, c5, OW, c6, TW, c7, cls, T.ext y, W.ext y, ⟨o1.then y, k1⟩, ⟨o2.then y, k2⟩, ⟨o3.then y, k3⟩, ⟨o4.then y, k4⟩, ⟨o5.then y, k5⟩, ⟨o6.then y, k6⟩, ⟨o7.then y, k7⟩, ⟨o8.then y, k8⟩, k9⟩
def ofWv (d : Dist) (x : Run) (hour wide : Int) : Wv := if ofErr d x hour wide = 0 then ofW d x hour wide else ⟨0, [], [], []⟩
def ofTv (d : Dist) (x : Run) (hour wide : Int) : Tru := if ofErr d x hour wide = 0 then ofT d x hour 0 else ⟨[], [], [], [], []⟩
/-- What Of answers. -/
def OfA (w w' : World) (v : Value) (d : Dist) (x : Run) (hour wide : Int) : Prop :=
  ∃ cw ct, v = .tuple #[.agg cw.toArray, .agg ct.toArray, iv (ofErr d x hour wide)] ∧ Ext w w' ∧ tWv.rep (fun b => w.heap.size ≤ b) w' cw (ofWv d x hour wide) ∧ tTru.rep (fun b => w.heap.size ≤ b) w' ct (ofTv d x hour wide)
theorem ofA_err {w w' : World} {d : Dist} {x : Run} {hour wide e : Int} (he : ofErr d x hour wide = e) (h0 : e ≠ 0) (hx : Ext w w') : OfA w w' (.tuple #[.agg #[iv 0, .slice none 0 0, .slice none 0 0, .slice none 0 0], .agg #[.slice none 0 0, .slice none 0 0, .slice none 0 0, .slice none 0 0, .slice none 0 0], iv e]) d x hour wide := by
  refine ⟨[iv 0, .slice none 0 0, .slice none 0 0, .slice none 0 0], [.slice none 0 0, .slice none 0 0, .slice none 0 0, .slice none 0 0, .slice none 0 0], by rw [he], hx, ?_, ?_⟩
  · unfold ofWv
    rw [if_neg (by rw [he]; exact h0)]
    exact ⟨[iv 0], [.slice none 0 0, .slice none 0 0, .slice none 0 0], rfl, ⟨rfl, by unfold I64; decide⟩, [.slice none 0 0], [.slice none 0 0, .slice none 0 0], rfl, ⟨none, 0, 0, rfl, .nil, Nat.le_refl _⟩, [.slice none 0 0], [.slice none 0 0], rfl, ⟨none, 0, 0, rfl, .nil, Nat.le_refl _⟩, none, 0, 0, rfl, .nil, Nat.le_refl _⟩
  · unfold ofTv
    rw [if_neg (by rw [he]; exact h0)]
    exact ⟨[.slice none 0 0], [.slice none 0 0, .slice none 0 0, .slice none 0 0, .slice none 0 0], rfl, ⟨none, 0, 0, rfl, .nil, Nat.le_refl _⟩, [.slice none 0 0], [.slice none 0 0, .slice none 0 0, .slice none 0 0], rfl, ⟨none, 0, 0, rfl, .nil, Nat.le_refl _⟩, [.slice none 0 0], [.slice none 0 0, .slice none 0 0], rfl, ⟨none, 0, 0, rfl, .nil, Nat.le_refl _⟩, [.slice none 0 0], [.slice none 0 0], rfl, ⟨none, 0, 0, rfl, .nil, Nat.le_refl _⟩, none, 0, 0, rfl, .nil, Nat.le_refl _⟩
end Go.Proofs.Ytffdjecdcbbfaaa

/- Layer 48: contract of Of. -/
namespace Go.Proofs.Ytffdjecdcbbfaaa
open Go Go.RowKit

section
variable {D : Nat → Prop} {w : World}
set_option maxRecDepth 8000 in
set_option maxHeartbeats 2000000 in
theorem c_Of {csd csx : List Value} {d : Dist} {x : Run} {hour wide : Int} (hd : DiR D w csd d) (hx : RuR D w csx x) (h64 : I64 hour) : CallZ Try.prog 13 #[.agg csd.toArray, .agg csx.toArray, iv hour, iv wide] w (fun v w' => OfA w w' v d x hour wide) := by
  have hd := hd.more (D' := fun b => b < w.heap.size) fun b hb _ => hb
  have hx := hx.more (D' := fun b => b < w.heap.size) fun b hb _ => hb
  obtain ⟨A1, n1, c1, A2, n2, c2, A3, n3, c3, A4, n4, c4, A5, n5, c5, A6, n6, c6, rfl, hr, hfa, -⟩ := hd.ex
  obtain ⟨B1, m1, e1, B2, m2, e2, B3, m3, e3, B4, m4, e4, B5, m5, e5, B6, m6, e6, B7, m7, e7, rfl, i1, i2, i3, i4, i5, i6, i7, -⟩ := hx.ex
  have ln := hr.len
  have lf := hfa.len
  refine fn_rule (args := [.agg #[.string d.name, iv d.hours, iv d.cap, iv d.start, .slice A1 n1 c1, .slice A2 n2 c2, .slice A3 n3 c3, .slice A4 n4 c4, .slice A5 n5 c5, .slice A6 n6 c6], .agg #[.slice B1 m1 e1, .slice B2 m2 e2, .slice B3 m3 e3, .slice B4 m4 e4, .slice B5 m5 e5, .slice B6 m6 e6, .slice B7 m7 e7], iv hour, iv wide]) Try.func13 (by kernel_rfl) ?_
  refine box (fun bd w1 h1 => ?_)
  refine box (fun bx w2 h2 => ?_)
  refine box (fun bw w3 h3 => ?_)
  refine alloc (fun bW w4 h4 => ?_)
  refine alloc (fun bT w5 h5 => ?_)
  have a1 := h1.at_
  have a2 := h2.at_
  have a3 := h3.at_
  have a4 := h4.at_
  have a5 := h5.at_
  have z1 := h1.size
  have z2 := h2.size
  have z3 := h3.size
  have z4 := h4.size
  have z5 := h5.size
  have x45 : Ext w3 w5 := h4.ext.trans h5.ext
  have x5 : Ext w w5 := ((h1.ext.trans h2.ext).trans h3.ext).trans x45
  have Bd : Blk w5 bd 31 [.string d.name, iv d.hours, iv d.cap, iv d.start, .slice A1 n1 c1, .slice A2 n2 c2, .slice A3 n3 c3, .slice A4 n4 c4, .slice A5 n5 c5, .slice A6 n6 c6] := h1.blk.ext ((h2.ext.trans h3.ext).trans x45)
  have Bx : Blk w5 bx 62 [.slice B1 m1 e1, .slice B2 m2 e2, .slice B3 m3 e3, .slice B4 m4 e4, .slice B5 m5 e5, .slice B6 m6 e6, .slice B7 m7 e7] := h2.blk.ext (h3.ext.trans x45)
  have Bw : Blk w5 bw 3 [iv wide] := h3.blk.ext x45
  have BW : Blk w5 bW 53 [iv 0, .slice none 0 0, .slice none 0 0, .slice none 0 0] := h4.blk.ext h5.ext
  have BT : Blk w5 bT 65 [.slice none 0 0, .slice none 0 0, .slice none 0 0, .slice none 0 0, .slice none 0 0] := h5.blk
  refine ldA [.string d.name, iv d.hours, iv d.cap, iv d.start, .slice A1 n1 c1, .slice A2 n2 c2, .slice A3 n3 c3, .slice A4 n4 c4, .slice A5 n5 c5, .slice A6 n6 c6] (.blk Bd) rfl ?_
  refine ldA [.slice B1 m1 e1, .slice B2 m2 e2, .slice B3 m3 e3, .slice B4 m4 e4, .slice B5 m5 e5, .slice B6 m6 e6, .slice B7 m7 e7] (.blk Bx) rfl ?_
  refine call_of (c_bCheck (hd.ext x5) (hx.ext x5)) ?_
  rintro _ w6 ⟨rfl, x6⟩
  have x06 := x5.trans x6
  have Bd := Bd.ext x6
  have Bx := Bx.ext x6
  have Bw := Bw.ext x6
  have BW := BW.ext x6
  have BT := BT.ext x6
  have z6 := x6.size
  obtain ⟨e, he⟩ : ∃ e, e = bErr d x := ⟨_, rfl⟩
  rw [← he]
  refine cN (fun q0 => ?_) (fun q0 => ?_)
  · refine ldA [iv 0, .slice none 0 0, .slice none 0 0, .slice none 0 0] (.blk BW) rfl ?_
    refine ldA [.slice none 0 0, .slice none 0 0, .slice none 0 0, .slice none 0 0, .slice none 0 0] (.blk BT) rfl ?_
    refine stA (vs := [iv 0, .slice none 0 0, .slice none 0 0, .slice none 0 0]) BW rfl (Nat.le_of_ble_eq_true rfl) (by simp [Value.oneCell']) (fun y1 BW8 kk8 z8 => ?_)
    refine stA (vs := [.slice none 0 0, .slice none 0 0, .slice none 0 0, .slice none 0 0, .slice none 0 0]) (BT.kept kk8 (by omega)) rfl (Nat.le_of_ble_eq_true rfl) (by simp [Value.oneCell']) (fun y2 BT9 kk9 z9 => ?_)
    refine ret ?_
    refine resL _ (holds_agg (CellsAt.blk (show Blk y2 bW 53 [iv 0, .slice none 0 0, .slice none 0 0, .slice none 0 0] from Blk.kept BW8 kk9 (by omega))) rfl) ?_
    refine resL _ (holds_agg (CellsAt.blk (show Blk y2 bT 65 [.slice none 0 0, .slice none 0 0, .slice none 0 0, .slice none 0 0, .slice none 0 0] from BT9)) rfl) ?_
    exact ofA_err (by unfold ofErr; rw [if_pos (by rw [← he]; exact q0), ← he]) q0 ((x06.then kk8 fun b hb _ => by omega).then kk9 fun b hb _ => by omega)
  have q0 : bErr d x = 0 := by rw [← he]; exact q0
  have oe : ofErr d x hour wide = if hour < 0 ∨ hour ≥ d.hours ∨ wide < 0 ∨ wide > 1073741824 then 1 else if ofFit d hour then 0 else 1 := by unfold ofErr; rw [if_neg (by simp [q0])]
  refine cD (fun gg1 => ?_) (fun gg1 => ?_)
  · refine ldA [iv 0, .slice none 0 0, .slice none 0 0, .slice none 0 0] (.blk BW) rfl ?_
    refine ldA [.slice none 0 0, .slice none 0 0, .slice none 0 0, .slice none 0 0, .slice none 0 0] (.blk BT) rfl ?_
    refine stA (vs := [iv 0, .slice none 0 0, .slice none 0 0, .slice none 0 0]) BW rfl (Nat.le_of_ble_eq_true rfl) (by simp [Value.oneCell']) (fun y1 BW8 kk8 z8 => ?_)
    refine stA (vs := [.slice none 0 0, .slice none 0 0, .slice none 0 0, .slice none 0 0, .slice none 0 0]) (BT.kept kk8 (by omega)) rfl (Nat.le_of_ble_eq_true rfl) (by simp [Value.oneCell']) (fun y2 BT9 kk9 z9 => ?_)
    refine ret ?_
    refine resL _ (holds_agg (CellsAt.blk (show Blk y2 bW 53 [iv 0, .slice none 0 0, .slice none 0 0, .slice none 0 0] from Blk.kept BW8 kk9 (by omega))) rfl) ?_
    refine resL _ (holds_agg (CellsAt.blk (show Blk y2 bT 65 [.slice none 0 0, .slice none 0 0, .slice none 0 0, .slice none 0 0, .slice none 0 0] from BT9)) rfl) ?_
    exact ofA_err (by rw [oe, if_pos (by omega)]) (by decide) ((x06.then kk8 fun b hb _ => by omega).then kk9 fun b hb _ => by omega)
  refine fldA ?_
  refine ld (iv d.hours) (Bd.cell rfl) ?_
  refine cD (fun gg2 => ?_) (fun gg2 => ?_)
  · refine ldA [iv 0, .slice none 0 0, .slice none 0 0, .slice none 0 0] (.blk BW) rfl ?_
    refine ldA [.slice none 0 0, .slice none 0 0, .slice none 0 0, .slice none 0 0, .slice none 0 0] (.blk BT) rfl ?_
    refine stA (vs := [iv 0, .slice none 0 0, .slice none 0 0, .slice none 0 0]) BW rfl (Nat.le_of_ble_eq_true rfl) (by simp [Value.oneCell']) (fun y1 BW8 kk8 z8 => ?_)
    refine stA (vs := [.slice none 0 0, .slice none 0 0, .slice none 0 0, .slice none 0 0, .slice none 0 0]) (BT.kept kk8 (by omega)) rfl (Nat.le_of_ble_eq_true rfl) (by simp [Value.oneCell']) (fun y2 BT9 kk9 z9 => ?_)
    refine ret ?_
    refine resL _ (holds_agg (CellsAt.blk (show Blk y2 bW 53 [iv 0, .slice none 0 0, .slice none 0 0, .slice none 0 0] from Blk.kept BW8 kk9 (by omega))) rfl) ?_
    refine resL _ (holds_agg (CellsAt.blk (show Blk y2 bT 65 [.slice none 0 0, .slice none 0 0, .slice none 0 0, .slice none 0 0, .slice none 0 0] from BT9)) rfl) ?_
    exact ofA_err (by rw [oe, if_pos (by omega)]) (by decide) ((x06.then kk8 fun b hb _ => by omega).then kk9 fun b hb _ => by omega)
  refine ld (iv wide) (Bw.cell rfl) ?_
  refine cD (fun gg3 => ?_) (fun gg3 => ?_)
  · refine ldA [iv 0, .slice none 0 0, .slice none 0 0, .slice none 0 0] (.blk BW) rfl ?_
    refine ldA [.slice none 0 0, .slice none 0 0, .slice none 0 0, .slice none 0 0, .slice none 0 0] (.blk BT) rfl ?_
    refine stA (vs := [iv 0, .slice none 0 0, .slice none 0 0, .slice none 0 0]) BW rfl (Nat.le_of_ble_eq_true rfl) (by simp [Value.oneCell']) (fun y1 BW8 kk8 z8 => ?_)
    refine stA (vs := [.slice none 0 0, .slice none 0 0, .slice none 0 0, .slice none 0 0, .slice none 0 0]) (BT.kept kk8 (by omega)) rfl (Nat.le_of_ble_eq_true rfl) (by simp [Value.oneCell']) (fun y2 BT9 kk9 z9 => ?_)
    refine ret ?_
    refine resL _ (holds_agg (CellsAt.blk (show Blk y2 bW 53 [iv 0, .slice none 0 0, .slice none 0 0, .slice none 0 0] from Blk.kept BW8 kk9 (by omega))) rfl) ?_
    refine resL _ (holds_agg (CellsAt.blk (show Blk y2 bT 65 [.slice none 0 0, .slice none 0 0, .slice none 0 0, .slice none 0 0, .slice none 0 0] from BT9)) rfl) ?_
    exact ofA_err (by rw [oe, if_pos (by omega)]) (by decide) ((x06.then kk8 fun b hb _ => by omega).then kk9 fun b hb _ => by omega)
  refine ld (iv wide) (Bw.cell rfl) ?_
  refine cD (fun gg4 => ?_) (fun gg4 => ?_)
  · refine ldA [iv 0, .slice none 0 0, .slice none 0 0, .slice none 0 0] (.blk BW) rfl ?_
    refine ldA [.slice none 0 0, .slice none 0 0, .slice none 0 0, .slice none 0 0, .slice none 0 0] (.blk BT) rfl ?_
    refine stA (vs := [iv 0, .slice none 0 0, .slice none 0 0, .slice none 0 0]) BW rfl (Nat.le_of_ble_eq_true rfl) (by simp [Value.oneCell']) (fun y1 BW8 kk8 z8 => ?_)
    refine stA (vs := [.slice none 0 0, .slice none 0 0, .slice none 0 0, .slice none 0 0, .slice none 0 0]) (BT.kept kk8 (by omega)) rfl (Nat.le_of_ble_eq_true rfl) (by simp [Value.oneCell']) (fun y2 BT9 kk9 z9 => ?_)
    refine ret ?_
    refine resL _ (holds_agg (CellsAt.blk (show Blk y2 bW 53 [iv 0, .slice none 0 0, .slice none 0 0, .slice none 0 0] from Blk.kept BW8 kk9 (by omega))) rfl) ?_
    refine resL _ (holds_agg (CellsAt.blk (show Blk y2 bT 65 [.slice none 0 0, .slice none 0 0, .slice none 0 0, .slice none 0 0, .slice none 0 0] from BT9)) rfl) ?_
    exact ofA_err (by rw [oe, if_pos (by omega)]) (by decide) ((x06.then kk8 fun b hb _ => by omega).then kk9 fun b hb _ => by omega)
  rw [if_neg (by omega)] at oe
  have hdv := (bErr_ok.1 q0).1
  have hd0 : dErr d = 0 := dErr_ok.2 hdv
  have ht : Tre d := tre_of hd0
  obtain ⟨⟨hR64, hF600⟩, hH1, hH2⟩ := valid_bounds hdv.1 hdv.2
  obtain ⟨hf, hR⟩ := bErr_fm q0
  generalize hH : d.hours.toNat = H at hf hR
  have hHi := hf.hours
  refine fldA ?_
  refine st (v := iv hour) BW (Nat.le_of_ble_eq_true rfl) rfl (fun w7 BW kk7 z7 => ?_)
  have BW : Blk w7 bW 53 [iv hour, .slice none 0 0, .slice none 0 0, .slice none 0 0] := BW
  have x07 : Ext w w7 := x06.then kk7 fun b hb _ => by omega
  have Bd := Bd.kept kk7 (by omega)
  have Bx := Bx.kept kk7 (by omega)
  have Bw := Bw.kept kk7 (by omega)
  have BT := BT.kept kk7 (by omega)
  have hI0 : OfI w w7 bW bT bw d x hour wide 0 0 none 0 := ⟨none, 0, none, 0, none, 0, none, 0, none, 0, none, 0, none, 0, fun _ => 9, BT, BW, ⟨.nil x07, .none⟩, ⟨.nil x07, .none⟩, ⟨.nil x07, .none⟩, ⟨.nil x07, .none⟩, ⟨.nil x07, .none⟩, ⟨.nil x07, .none⟩, ⟨.nil x07, .none⟩, ⟨.nil x07, .none⟩, rfl⟩
  clear BW BT
  refine fldA ?_
  refine ld (.slice A1 n1 c1) (Bd.cell rfl) ?_
  refine len ?_
  refine loop3 (fun (k : Nat) (En : Option Addr) (ec : Nat) => [(53, iv (k : Int)), (12, .slice En k ec)]) (fun k En ec u => k ≤ n1 ∧ Ext w u ∧ Blk u bd 31 [.string d.name, iv d.hours, iv d.cap, iv d.start, .slice A1 n1 c1, .slice A2 n2 c2, .slice A3 n3 c3, .slice A4 n4 c4, .slice A5 n5 c5, .slice A6 n6 c6] ∧ Blk u bx 62 [.slice B1 m1 e1, .slice B2 m2 e2, .slice B3 m3 e3, .slice B4 m4 e4, .slice B5 m5 e5, .slice B6 m6 e6, .slice B7 m7 e7] ∧ Blk u bw 3 [iv wide] ∧ (∀ r : Nat, r < k → hour + delV d (r : Int) < d.hours) ∧ OfI w u bW bT bw d x hour wide k 0 En ec) (fun k _ _ _ => n1 - k) 0 none 0 ⟨rfl, rfl, trivial⟩ ⟨by omega, x07, Bd, Bx, Bw, fun r h => absurd h (Nat.not_lt_zero _), hI0⟩ rfl ?_
  clear Bd Bx Bw hI0
  rintro G k En ec u ⟨hk, xu, Bd, Bx, Bw, hfit, hI⟩
  refine cD (fun hlt => ?_) (fun hge => ?_)
  · have hlt : k < n1 := by omega
    have hlt' : k < d.reaches.length := by omega
    obtain ⟨b, o, cs, y, rfl, hy, -, -, hc, rfl⟩ := (hr.ext xu).at_ hlt
    have hrc : rch d k = y := rch_eq hy
    refine idx k rfl hlt ?_
    refine ldA y.c hc rfl ?_
    refine alloc (fun t u1 i1' => ?_)
    refine stA (vs := y.c) i1'.blk rfl (Nat.le_of_ble_eq_true rfl) (by simp [Value.oneCell']) (fun u2 tb s2 zs => ?_)
    have t1 := i1'.at_
    have xu2 : Ext u u2 := i1'.ext.then s2 fun b hb _ => by omega
    have tb : Blk u2 t 98 y.c := tb
    refine ldA _ (.blk (Bd.ext xu2)) rfl ?_
    have hcan : canE d [(k : Int)] = 0 := by
      unfold canE
      rw [if_pos hd0, if_pos (by simp; omega)]
    have cc := c_canDelay (r := (k : Int)) ((hd.ext xu).ext xu2) ⟨by omega, by omega⟩
    rw [hcan, if_pos rfl] at cc
    refine call_of cc ?_
    clear cc
    rintro _ u3 ⟨rfl, x3⟩
    have xu3 := xu2.trans x3
    have x03 := xu.trans xu3
    obtain ⟨p1, p2, p3, p4, p5, p6⟩ := at_of ht (show 0 ≤ hour by omega) hlt'
    rw [hrc] at p1 p3 p4
    have Bd := Bd.ext xu3
    have Bx := Bx.ext xu3
    have Bw := Bw.ext xu3
    have tb := tb.ext x3
    have hI := hI.ext xu3
    refine arE ((endV d hour k : Nat) : Int) p2.symm (by omega) ?_
    refine fldA ?_
    refine ld (iv d.hours) (Bd.cell rfl) ?_
    refine cD (fun gg5 => ?_) (fun gg5 => ?_)
    · obtain ⟨HT, q1, OT, q2, TT, q3, AT, q4, HW, q5, OW, q6, TW, q7, cls, T, W, ⟨o1, k1⟩, ⟨o2, k2⟩, ⟨o3, k3⟩, ⟨o4, k4⟩, ⟨o5, k5⟩, ⟨o6, k6⟩, ⟨o7, k7⟩, ⟨o8, k8⟩, k9⟩ := hI.ex
      refine bld [iv 0, .slice none 0 0, .slice none 0 0, .slice none 0 0] (by kernel_rfl) ?_
      refine bld [.slice none 0 0, .slice none 0 0, .slice none 0 0, .slice none 0 0, .slice none 0 0] (by kernel_rfl) ?_
      have tT := T.lt
      have tW := W.lt
      refine stA (vs := [iv 0, .slice none 0 0, .slice none 0 0, .slice none 0 0]) W rfl (Nat.le_of_ble_eq_true rfl) (by simp [Value.oneCell']) (fun y1 BW8 kk8 z8 => ?_)
      refine stA (vs := [.slice none 0 0, .slice none 0 0, .slice none 0 0, .slice none 0 0, .slice none 0 0]) (T.kept kk8 (by omega)) rfl (Nat.le_of_ble_eq_true rfl) (by simp [Value.oneCell']) (fun y2 BT9 kk9 z9 => ?_)
      refine ret ?_
      refine resL _ (holds_agg (CellsAt.blk (show Blk y2 bW 53 [iv 0, .slice none 0 0, .slice none 0 0, .slice none 0 0] from Blk.kept BW8 kk9 (by omega))) rfl) ?_
      refine resL _ (holds_agg (CellsAt.blk (show Blk y2 bT 65 [.slice none 0 0, .slice none 0 0, .slice none 0 0, .slice none 0 0, .slice none 0 0] from BT9)) rfl) ?_
      exact ofA_err (by rw [oe, if_neg]; intro h; have := of_decide_eq_true (List.all_eq_true.1 h k (List.mem_range.2 hlt')); omega) (by decide) ((x03.then kk8 fun b hb _ => by omega).then kk9 fun b hb _ => by omega)
    have hE : endV d hour k < H := by omega
    have hA : atV d hour k < H := by omega
    refine fldA ?_
    refine ld (iv y.delay) (tb.cell rfl) ?_
    refine arE ((atV d hour k : Nat) : Int) (by omega) (by omega) ?_
    have y3 := tabB_iff.1 hf.inn
    have y7 := tabB_iff.1 hf.tail
    have y4 := tabB_iff.1 hf.evap
    have y5 := tabB_iff.1 hf.seep
    have l3 := i3.len
    have l4 := i4.len
    have l5 := i5.len
    have l7 := i7.len
    have v3 := tab_val hf.inn hlt' hA
    have v4 := tab_val hf.evap hlt' hA
    have v5 := tab_val hf.seep hlt' hA
    have v7 := tab_val hf.tail hlt' hE
    have n3 := (numB_iff.1 (tab_row hf.inn hlt').2).1
    have n4 := (numB_iff.1 (tab_row hf.evap hlt').2).1
    have n5 := (numB_iff.1 (tab_row hf.seep hlt').2).1
    have n7 := (numB_iff.1 (tab_row hf.tail hlt').2).1
    -- the head
    obtain ⟨HT, q1, OT, q2, TT, q3, AT, q4, HW, q5, OW, q6, TW, q7, cls, T, W, ⟨o1, k1⟩, ⟨o2, k2⟩, ⟨o3, k3⟩, ⟨o4, k4⟩, ⟨o5, k5⟩, ⟨o6, k6⟩, ⟨o7, k7⟩, ⟨o8, k8⟩, k9⟩ := hI.ex
    obtain ⟨f3, f3', R3, s3, g3', rfl, cc3, r3, -⟩ := row_at i3 (i := k) (by omega)
    have z3 := r3.len
    obtain ⟨r3b, r3o, rfl, vv3⟩ := num_at r3 (k := atV d hour k) (by omega)
    obtain ⟨f4, f4', R4, s4, g4', rfl, cc4, r4, -⟩ := row_at i4 (i := k) (by omega)
    have z4' := r4.len
    obtain ⟨r4b, r4o, rfl, vv4⟩ := num_at r4 (k := atV d hour k) (by omega)
    obtain ⟨f5, f5', R5, s5, g5', rfl, cc5, r5, -⟩ := row_at i5 (i := k) (by omega)
    have z5' := r5.len
    obtain ⟨r5b, r5o, rfl, vv5⟩ := num_at r5 (k := atV d hour k) (by omega)
    obtain ⟨f7, f7', R7, s7', g7', rfl, cc7, r7, -⟩ := row_at i7 (i := k) (by omega)
    have z7' := r7.len
    obtain ⟨r7b, r7o, rfl, vv7⟩ := num_at r7 (k := endV d hour k) (by omega)
    refine fldA ?_
    refine fldA ?_
    refine fldA ?_
    refine ld _ (Bx.cell rfl) ?_
    refine idx k rfl (by omega) ?_
    refine ld _ (x03.cell cc3 trivial) ?_
    refine idx (atV d hour k) rfl (by omega) ?_
    refine ld (iv (hdV d x hour k)) (x03.cell vv3 trivial) ?_
    have cof9 : ∀ {cl : Nat → Nat} {A : Option Addr} {i : Nat}, cof cl A i → cl bw = 9 → i ≠ 9 → A ≠ some (ad bw 0) := fun h1 h2 h3 e => h3 (by rw [← h1 bw e, h2])
    refine call_of (c_eput (i := 0) (j := 1) T W rfl rfl o1 o5 (k1.ne k5 (by decide)) Bw (cof9 k1 k9 (by decide)) (show _ ∧ _ from ⟨by unfold hdV; omega, by unfold hdV; omega⟩) ⟨by omega, by omega⟩ (by omega) (by omega) (by omega) (by omega)) ?_
    rintro _ u4 ⟨rfl, H1, d1, H5, d5, T4, W4, p1', p5', hdj, na, nb, kk4⟩
    have x04 : Ext w u4 := x03.then kk4 fun b hb _ => ⟨by omega, by omega, fun e => by have := o1.new b e; omega, fun e => by have := o5.new b e; omega⟩
    obtain ⟨cls2, hcl, r1, r5⟩ := cof_up k1 k5 o1 o5 na nb hdj
    have Bd4 := Bd.kept kk4 ⟨by omega, by omega, own_ty o1 Bd (by decide), own_ty o5 Bd (by decide)⟩
    have Bx4 := Bx.kept kk4 ⟨by omega, by omega, own_ty o1 Bx (by decide), own_ty o5 Bx (by decide)⟩
    have Bw4 := Bw.kept kk4 ⟨by omega, by omega, cof9 k1 k9 (by decide), own_ty o5 Bw (by decide)⟩
    have k9' : cls2 bw = 9 := by rw [hcl bw Bw.lt]; exact k9
    have s2 := k2.keep o2 hcl
    have s3 := k3.keep o3 hcl
    have s4 := k4.keep o4 hcl
    have s6 := k6.keep o6 hcl
    have s7 := k7.keep o7 hcl
    have s8 := k8.keep o8 hcl
    have o2 := o2.past k2 k1 k5 T W kk4 x04 (by decide) (by decide) (by decide) (by decide)
    have o3 := o3.past k3 k1 k5 T W kk4 x04 (by decide) (by decide) (by decide) (by decide)
    have o4 := o4.past k4 k1 k5 T W kk4 x04 (by decide) (by decide) (by decide) (by decide)
    have o6 := o6.past k6 k1 k5 T W kk4 x04 (by decide) (by decide) (by decide) (by decide)
    have o7 := o7.past k7 k1 k5 T W kk4 x04 (by decide) (by decide) (by decide) (by decide)
    have o8 := o8.past k8 k1 k5 T W kk4 x04 (by decide) (by decide) (by decide) (by decide)
    have T4 : Blk u4 bT 65 [.slice H1 (k + 1) d1, .slice OT 0 q2, .slice TT k q3, .slice AT k q4, .slice none 0 0] := T4
    have W4 : Blk u4 bW 53 [iv hour, .slice H5 (k + 1) d5, .slice OW 0 q6, .slice TW k q7] := W4
    clear T W o1 o5 k1 k5 k2 k3 k4 k6 k7 k8 k9 Bd Bx Bw na nb hdj hcl kk4
    -- the tail
    refine fldA ?_
    refine fldA ?_
    refine fldA ?_
    refine ld _ (Bx4.cell rfl) ?_
    refine idx k rfl (by omega) ?_
    refine ld _ (x04.cell cc7 trivial) ?_
    refine idx (endV d hour k) rfl (by omega) ?_
    refine ld (iv (tlV d x hour k)) (x04.cell vv7 trivial) ?_
    refine call_of (c_eput (i := 2) (j := 3) T4 W4 rfl rfl o3 o7 (s3.ne s7 (by decide)) Bw4 (cof9 s3 k9' (by decide)) (show _ ∧ _ from ⟨by unfold tlV; omega, by unfold tlV; omega⟩) ⟨by omega, by omega⟩ (by omega) (by omega) (by omega) (by omega)) ?_
    rintro _ u5 ⟨rfl, H3, d3, H7, d7, T5, W5, p3', p7', hdj, na, nb, kk5⟩
    have x05 : Ext w u5 := x04.then kk5 fun b hb _ => ⟨by omega, by omega, fun e => by have := o3.new b e; omega, fun e => by have := o7.new b e; omega⟩
    obtain ⟨cls3, hcl, r3', r7'⟩ := cof_up s3 s7 o3 o7 na nb hdj
    have Bd5 := Bd4.kept kk5 ⟨by omega, by omega, own_ty o3 Bd4 (by decide), own_ty o7 Bd4 (by decide)⟩
    have Bx5 := Bx4.kept kk5 ⟨by omega, by omega, own_ty o3 Bx4 (by decide), own_ty o7 Bx4 (by decide)⟩
    have Bw5 := Bw4.kept kk5 ⟨by omega, by omega, cof9 s3 k9' (by decide), own_ty o7 Bw4 (by decide)⟩
    have k9 : cls3 bw = 9 := by rw [hcl bw Bw4.lt]; exact k9'
    have t1 := r1.keep p1' hcl
    have t2 := s2.keep o2 hcl
    have t4 := s4.keep o4 hcl
    have t5 := r5.keep p5' hcl
    have t6 := s6.keep o6 hcl
    have t8 := s8.keep o8 hcl
    have o1 := p1'.past r1 s3 s7 T4 W4 kk5 x05 (by decide) (by decide) (by decide) (by decide)
    have o2 := o2.past s2 s3 s7 T4 W4 kk5 x05 (by decide) (by decide) (by decide) (by decide)
    have o4 := o4.past s4 s3 s7 T4 W4 kk5 x05 (by decide) (by decide) (by decide) (by decide)
    have o5 := p5'.past r5 s3 s7 T4 W4 kk5 x05 (by decide) (by decide) (by decide) (by decide)
    have o6 := o6.past s6 s3 s7 T4 W4 kk5 x05 (by decide) (by decide) (by decide) (by decide)
    have o8 := o8.past s8 s3 s7 T4 W4 kk5 x05 (by decide) (by decide) (by decide) (by decide)
    have T5 : Blk u5 bT 65 [.slice H1 (k + 1) d1, .slice OT 0 q2, .slice H3 (k + 1) d3, .slice AT k q4, .slice none 0 0] := T5
    have W5 : Blk u5 bW 53 [iv hour, .slice H5 (k + 1) d5, .slice OW 0 q6, .slice H7 (k + 1) d7] := W5
    clear T4 W4 o3 o7 s2 s3 s4 s6 s7 s8 r1 r5 p1' p5' k9' Bd4 Bx4 Bw4 na nb hdj hcl kk5
    -- what arrived
    have nX := own_ty o4 Bx5 (show 62 ≠ 3 by decide)
    have nT := own_ty o4 T5 (show 65 ≠ 3 by decide)
    have nO : ∀ b, b < w.heap.size → AT ≠ some (ad b 0) := fun b hb e => by have := o4.new b e; omega
    refine drawP (.take 0 (.take 1 (.take 2 (.take 3 (.take 4 (.take 5 (.take 6 (.take 7 (.take 8 (.take 9 (.take 10 (.take 11 (.take 12 (.take 13 (.take 14 (.take 15 (.take 16 (.take 17 (.take 18 (.take 19 (.take 20 (.take 21 (.take 22 (.take 23 (.take 24 (.take 25 (.take 26 (.take 27 (.eff 28 (.eff 29 (.take 30 (.bar (.eff 31 .done))))))))))))))))))))))))))))))))) [31] (fun z => Kept (fun b => AT ≠ some (ad b 0)) u5 z) mx (by kernel_rfl) (.refl _ _) ?_
    refine fldA ?_
    refine ldK (.slice AT k q4) (T5.cell rfl) nT (.refl _ _) ?_
    refine fldA ?_
    refine ldK _ (Bx5.cell rfl) nX (.refl _ _) ?_
    refine idx k rfl (by omega) ?_
    refine ldK _ (x05.cell cc3 trivial) (nO _ (lt_of_cell cc3)) (.refl _ _) ?_
    refine idx (atV d hour k) rfl (by omega) ?_
    refine ldK _ (x05.cell vv3 trivial) (nO _ (lt_of_cell vv3)) (.refl _ _) ?_
    refine fldA ?_
    refine ldK _ (Bx5.cell rfl) nX (.refl _ _) ?_
    refine idx k rfl (by omega) ?_
    refine ldK _ (x05.cell cc4 trivial) (nO _ (lt_of_cell cc4)) (.refl _ _) ?_
    refine idx (atV d hour k) rfl (by omega) ?_
    refine ldK _ (x05.cell vv4 trivial) (nO _ (lt_of_cell vv4)) (.refl _ _) ?_
    have v3 := tab_val hf.inn hlt' hA
    have v4 := tab_val hf.evap hlt' hA
    have v5 := tab_val hf.seep hlt' hA
    unfold g2 at v3 v4 v5
    refine arI (by omega) ?_
    refine fldA ?_
    refine ldK _ (Bx5.cell rfl) nX (.refl _ _) ?_
    refine idx k rfl (by omega) ?_
    refine ldK _ (x05.cell cc5 trivial) (nO _ (lt_of_cell cc5)) (.refl _ _) ?_
    refine idx (atV d hour k) rfl (by omega) ?_
    refine ldK _ (x05.cell vv5 trivial) (nO _ (lt_of_cell vv5)) (.refl _ _) ?_
    refine arE (arV d x hour k) rfl (by unfold arV g2; omega) ?_
    refine lit [iv (arV d x hour k)] (fun hg1 u6 hq1 => ?_)
    have o4 := o4.then hq1.ext
    refine strS hq1.ext.any ?_
    refine appF o4 (hq1.src (sz := 1) rfl) (by omega) (fun A' c' u7 p4' kk7 hA' => ?_)
    have x57 : Kept (fun b => AT ≠ some (ad b 0)) u5 u7 := (hq1.ext.any).trans kk7
    refine strS x57 ?_
    refine fldA ?_
    refine barS (fun _ => True) trivial ?_
    have na : nw u5 AT A' := nw.of hA' hq1.ext.size
    have x07 : Ext w u7 := x05.then x57 fun b hb _ => nO b hb
    obtain ⟨cls4, hcl, r4'⟩ := cof_up1 t4 na
    have T7 := T5.kept x57 nT
    have W7 := W5.kept x57 (own_ty (t := 53) ‹OwnF w u5 AT k q4 3 1 _› W5 (by decide))
    refine st (v := .slice A' (k + 1) c') T7 (Nat.le_of_ble_eq_true rfl) rfl (fun u8 T8 kk8 z8 => ?_)
    refine strS trivial ?_
    have T8 : Blk u8 bT 65 [.slice H1 (k + 1) d1, .slice OT 0 q2, .slice H3 (k + 1) d3, .slice A' (k + 1) c', .slice none 0 0] := T8
    have tT := T5.lt
    have tW := W5.lt
    have hTW : bW ≠ bT := by omega
    have W8 := W7.kept kk8 hTW
    have x08 : Ext w u8 := x07.then kk8 fun b hb _ => by omega
    have x58 : Kept (fun b => AT ≠ some (ad b 0) ∧ b ≠ bT) u5 u8 := (x57.weak fun _ _ h => h.1).trans (kk8.weak fun _ _ h => h.2)
    have tx := Bx5.lt
    have td := Bd5.lt
    have tw := Bw5.lt
    have o4 := ‹OwnF w u5 AT k q4 3 1 (icells k (arV d x hour))›
    have Bd8 := Bd5.kept x58 ⟨own_ty o4 Bd5 (by decide), by omega⟩
    have Bx8 := Bx5.kept x58 ⟨own_ty o4 Bx5 (by decide), by omega⟩
    have Bw8 := Bw5.kept x58 ⟨cof9 t4 k9 (by decide), by omega⟩
    have k9' : cls4 bw = 9 := by rw [hcl bw tw]; exact k9
    have s1 := t1.keep o1 hcl
    have s2 := t2.keep o2 hcl
    have s3 := r3'.keep p3' hcl
    have s5 := t5.keep o5 hcl
    have s6 := t6.keep o6 hcl
    have s7 := r7'.keep p7' hcl
    have s8 := t8.keep o8 hcl
    have o1 := o1.thenK x58 (fun g hg => ⟨t1.ne t4 (by decide) g hg, fun e => own_ty o1 T5 (by decide) (e ▸ hg)⟩) x08
    have o2 := o2.thenK x58 (fun g hg => ⟨t2.ne t4 (by decide) g hg, fun e => own_ty o2 T5 (by decide) (e ▸ hg)⟩) x08
    have o3 := p3'.thenK x58 (fun g hg => ⟨r3'.ne t4 (by decide) g hg, fun e => own_ty p3' T5 (by decide) (e ▸ hg)⟩) x08
    have o5 := o5.thenK x58 (fun g hg => ⟨t5.ne t4 (by decide) g hg, fun e => own_ty o5 T5 (by decide) (e ▸ hg)⟩) x08
    have o6 := o6.thenK x58 (fun g hg => ⟨t6.ne t4 (by decide) g hg, fun e => own_ty o6 T5 (by decide) (e ▸ hg)⟩) x08
    have o7 := p7'.thenK x58 (fun g hg => ⟨r7'.ne t4 (by decide) g hg, fun e => own_ty p7' T5 (by decide) (e ▸ hg)⟩) x08
    have o8 := o8.thenK x58 (fun g hg => ⟨t8.ne t4 (by decide) g hg, fun e => own_ty o8 T5 (by decide) (e ▸ hg)⟩) x08
    have o4 := p4'.thenK kk8 (fun g hg e => own_ty p4' T7 (by decide) (e ▸ hg)) x08
    clear T5 W5 T7 W7 p3' p7' t1 t2 r3' t4 t5 t6 r7' t8 k9 Bd5 Bx5 Bw5 hcl p4'
    -- the ends
    refine lit [iv ((endV d hour k : Nat) : Int)] (fun hg2 u9 hq2 => ?_)
    refine appF (o8.then hq2.ext) (hq2.src (sz := 1) rfl) (by omega) (fun E' ee' u10 p8 kk10 hE' => ?_)
    have x80 : Kept (fun b => En ≠ some (ad b 0)) u8 u10 := (hq2.ext.any).trans kk10
    have nb : nw u8 En E' := nw.of hE' hq2.ext.size
    have x00 : Ext w u10 := x08.then x80 fun b hb _ e => by have := o8.new b e; omega
    obtain ⟨cls5, hcl, v8⟩ := cof_up1 s8 nb
    refine arI (by omega) ?_
    refine next3 (k + 1) E' ee' ⟨by rw [Int.natCast_add]; rfl, rfl, trivial⟩ ⟨by omega, x00, Bd8.kept x80 (own_ty o8 Bd8 (by decide)), Bx8.kept x80 (own_ty o8 Bx8 (by decide)), Bw8.kept x80 (cof9 s8 k9' (by decide)), fun r hr => ?_, ?_⟩ (by omega)
    · by_cases e : r = k
      · subst e; omega
      · exact hfit r (by omega)
    · have hcl9 : cls5 bw = 9 := by rw [hcl bw Bw8.lt]; exact k9'
      have u1' := o1.thenK x80 (fun g hg => s1.ne s8 (by decide) g hg) x00
      have u3' := o3.thenK x80 (fun g hg => s3.ne s8 (by decide) g hg) x00
      have u4' := o4.thenK x80 (fun g hg => r4'.ne s8 (by decide) g hg) x00
      have u5' := o5.thenK x80 (fun g hg => s5.ne s8 (by decide) g hg) x00
      have u7' := o7.thenK x80 (fun g hg => s7.ne s8 (by decide) g hg) x00
      have u4' : OwnF w u10 A' (k + 1) c' 3 1 (icells k (arV d x hour) ++ [iv (arV d x hour k)]) := u4'
      have p8 : OwnF w u10 E' (k + 1) ee' 3 1 (icells k (fun r => ((endV d hour r : Nat) : Int)) ++ [iv ((endV d hour k : Nat) : Int)]) := p8
      rw [← icells_snoc] at u1' u3' u4'
      rw [show icells k (fun r => ((endV d hour r : Nat) : Int)) ++ [iv ((endV d hour k : Nat) : Int)] = icells (k + 1) (fun r => ((endV d hour r : Nat) : Int)) from (icells_snoc _ _).symm] at p8
      rw [show rcells k (fun r => arR wide (hdV d x hour r)) ++ [iv (max 0 (hdV d x hour k - wide)), iv (min 1073741824 (hdV d x hour k + wide))] = rcells (k + 1) (fun r => arR wide (hdV d x hour r)) from (rcells_snoc _ _).symm] at u5'
      rw [show rcells k (fun r => arR wide (tlV d x hour r)) ++ [iv (max 0 (tlV d x hour k - wide)), iv (min 1073741824 (tlV d x hour k + wide))] = rcells (k + 1) (fun r => arR wide (tlV d x hour r)) from (rcells_snoc _ _).symm] at u7'
      exact ⟨_, _, _, _, _, _, _, _, _, _, _, _, _, _, cls5, T8.kept x80 (own_ty o8 T8 (by decide)), W8.kept x80 (own_ty o8 W8 (by decide)), ⟨u1', s1.keep o1 hcl⟩, ⟨o2.thenK x80 (fun g hg => s2.ne s8 (by decide) g hg) x00, s2.keep o2 hcl⟩, ⟨u3', s3.keep o3 hcl⟩, ⟨u4', r4'.keep o4 hcl⟩, ⟨u5', s5.keep o5 hcl⟩, ⟨o6.thenK x80 (fun g hg => s6.ne s8 (by decide) g hg) x00, s6.keep o6 hcl⟩, ⟨u7', s7.keep o7 hcl⟩, ⟨p8, v8⟩, hcl9⟩
  obtain rfl : n1 = k := by omega
  have ok : OfOk d x hour wide := ⟨q0, ⟨by omega, by omega⟩, ⟨by omega, by omega⟩, fun r hr => hfit r (by omega)⟩
  obtain ⟨b1, b2⟩ := ok.bounds
  have oe := ofErr_ok.2 ok
  refine fldA ?_
  refine ld (.slice A2 n2 c2) (Bd.cell rfl) ?_
  refine len ?_
  refine loop_rule (fun f : Nat => [(140, iv (f : Int))]) (fun f u => f ≤ n2 ∧ Ext w u ∧ Blk u bd 31 [.string d.name, iv d.hours, iv d.cap, iv d.start, .slice A1 n1 c1, .slice A2 n2 c2, .slice A3 n3 c3, .slice A4 n4 c4, .slice A5 n5 c5, .slice A6 n6 c6] ∧ Blk u bx 62 [.slice B1 m1 e1, .slice B2 m2 e2, .slice B3 m3 e3, .slice B4 m4 e4, .slice B5 m5 e5, .slice B6 m6 e6, .slice B7 m7 e7] ∧ Blk u bw 3 [iv wide] ∧ OfI w u bW bT bw d x hour wide n1 f En ec) (fun f _ => n2 - f) 0 ⟨rfl, trivial⟩ ⟨by omega, xu, Bd, Bx, Bw, hI⟩ rfl ?_
  clear Bd Bx Bw hI xu
  rintro G2 f u ⟨hf2, xu, Bd, Bx, Bw, hI⟩
  refine cD (fun hlt => ?_) (fun hge => ?_)
  · have hlt : f < n2 := by omega
    have hlt' : f < d.farms.length := by omega
    obtain ⟨b, o, cs, y, rfl, hy, -, -, hc, rfl⟩ := (hfa.ext xu).at_ hlt
    have hrc : frm d f = y := frm_eq hy
    refine idx f rfl hlt ?_
    refine ldA y.c hc rfl ?_
    refine alloc (fun t u1 i1' => ?_)
    refine stA (vs := y.c) i1'.blk rfl (Nat.le_of_ble_eq_true rfl) (by simp [Value.oneCell']) (fun u2 tb s2 zs => ?_)
    have t1 := i1'.at_
    have xu2 : Ext u u2 := i1'.ext.then s2 fun b hb _ => by omega
    have tb : Blk u2 t 102 y.c := tb
    have Bd := Bd.ext xu2
    have Bx := Bx.ext xu2
    have Bw := Bw.ext xu2
    have hI := hI.ext xu2
    have x02 := xu.trans xu2
    obtain ⟨⟨w1', w2'⟩, w3', w4'⟩ := b2 f hlt'
    rw [hrc] at w3' w4'
    obtain ⟨j, hj⟩ : ∃ j : Nat, y.reach = (j : Int) := ⟨y.reach.toNat, by omega⟩
    obtain ⟨p1, p2, p3, p4, p5, p6⟩ := ok.at_ (r := j) (by omega)
    have hE : endV d hour j < H := by omega
    have hot : otV d x hour f = g2 x.taken f (endV d hour j) := by unfold otV; rw [hrc, hj, Int.toNat_natCast]
    obtain ⟨HT, q1, OT, q2, TT, q3, AT, q4, HW, q5, OW, q6, TW, q7, cls, T, W, ⟨o1, k1⟩, ⟨o2, k2⟩, ⟨o3, k3⟩, ⟨o4, k4⟩, ⟨o5, k5⟩, ⟨o6, k6⟩, ⟨o7, k7⟩, ⟨o8, k8⟩, k9⟩ := hI.ex
    have y6 := tabB_iff.1 hf.taken
    have l6 := i6.len
    have n6' := (numB_iff.1 (tab_row hf.taken hlt').2).1
    obtain ⟨f6, f6', R6, s6, g6', rfl, cc6, r6, -⟩ := row_at i6 (i := f) (by omega)
    have z6' := r6.len
    obtain ⟨r6b, r6o, rfl, vv6⟩ := num_at r6 (k := endV d hour j) (by omega)
    have oE := o8.icl (D := fun _ => True) (fun r hr => by have := ok.at_ (r := r) (by omega); unfold I64; omega) (by omega) fun _ _ => trivial
    obtain ⟨ge, goe, cse, ve, rfl, hve, -, -, hce, rfl, -⟩ := oE.at_ (k := j) (by omega)
    have hve : ve = ((endV d hour j : Nat) : Int) := by
      rw [List.getElem?_map, List.getElem?_range (by omega)] at hve
      injection hve with hve; exact hve.symm
    subst hve
    refine drawP (.take 0 (.take 1 (.take 2 (.take 3 (.take 4 (.take 5 (.take 6 (.take 7 (.take 8 (.take 9 (.take 10 (.take 11 (.take 12 (.take 13 (.take 14 (.bar (.eff 15 .done))))))))))))))))) [15] (fun z => z = u2) mx (by kernel_rfl) rfl ?_
    refine fldA ?_
    refine fldA ?_
    refine fldA ?_
    refine ld _ (Bx.cell rfl) ?_
    refine idx f rfl (by omega) ?_
    refine ld _ (x02.cell cc6 trivial) ?_
    refine fldA ?_
    refine ld (iv y.reach) (tb.cell rfl) ?_
    refine idx j hj (by omega) ?_
    refine ld _ (hce 0 _ rfl) ?_
    refine idx (endV d hour j) rfl (by omega) ?_
    refine ld (iv (otV d x hour f)) (by rw [hot]; exact x02.cell vv6 trivial) ?_
    refine barS (fun _ => True) trivial ?_
    have cof9 : ∀ {cl : Nat → Nat} {A : Option Addr} {i : Nat}, cof cl A i → cl bw = 9 → i ≠ 9 → A ≠ some (ad bw 0) := fun h1 h2 h3 e => h3 (by rw [← h1 bw e, h2])
    refine call_of (c_eput (i := 1) (j := 2) T W rfl rfl o2 o6 (k2.ne k6 (by decide)) Bw (cof9 k2 k9 (by decide)) (show _ ∧ _ from ⟨by omega, by omega⟩) ⟨by omega, by omega⟩ (by omega) (by omega) (by omega) (by omega)) ?_
    rintro _ u4 ⟨rfl, H2, d2, H6, d6, T4, W4, p2', p6', hdj, na, nb, kk4⟩
    have x04 : Ext w u4 := x02.then kk4 fun b hb _ => ⟨by omega, by omega, fun e => by have := o2.new b e; omega, fun e => by have := o6.new b e; omega⟩
    obtain ⟨cls2, hcl, r2, r6⟩ := cof_up k2 k6 o2 o6 na nb hdj
    have k9' : cls2 bw = 9 := by rw [hcl bw Bw.lt]; exact k9
    refine strS trivial ?_
    refine arI (by omega) ?_
    refine next (f + 1) ⟨by rw [Int.natCast_add]; rfl, trivial⟩ ⟨by omega, x04, Bd.kept kk4 ⟨by omega, by omega, own_ty o2 Bd (by decide), own_ty o6 Bd (by decide)⟩, Bx.kept kk4 ⟨by omega, by omega, own_ty o2 Bx (by decide), own_ty o6 Bx (by decide)⟩, Bw.kept kk4 ⟨by omega, by omega, cof9 k2 k9 (by decide), own_ty o6 Bw (by decide)⟩, ?_⟩ (by omega)
    rw [← icells_snoc] at p2'
    rw [show rcells f (fun r => arR wide (otV d x hour r)) ++ [iv (max 0 (otV d x hour f - wide)), iv (min 1073741824 (otV d x hour f + wide))] = rcells (f + 1) (fun r => arR wide (otV d x hour r)) from (rcells_snoc _ _).symm] at p6'
    exact ⟨_, _, _, _, _, _, _, _, _, _, _, _, _, _, cls2, T4, W4, ⟨o1.past k1 k2 k6 T W kk4 x04 (by decide) (by decide) (by decide) (by decide), k1.keep o1 hcl⟩, ⟨p2', r2⟩, ⟨o3.past k3 k2 k6 T W kk4 x04 (by decide) (by decide) (by decide) (by decide), k3.keep o3 hcl⟩, ⟨o4.past k4 k2 k6 T W kk4 x04 (by decide) (by decide) (by decide) (by decide), k4.keep o4 hcl⟩, ⟨o5.past k5 k2 k6 T W kk4 x04 (by decide) (by decide) (by decide) (by decide), k5.keep o5 hcl⟩, ⟨p6', r6⟩, ⟨o7.past k7 k2 k6 T W kk4 x04 (by decide) (by decide) (by decide) (by decide), k7.keep o7 hcl⟩, ⟨o8.past k8 k2 k6 T W kk4 x04 (by decide) (by decide) (by decide) (by decide), k8.keep o8 hcl⟩, k9'⟩
  obtain rfl : f = n2 := by omega
  obtain ⟨HT, q1, OT, q2, TT, q3, AT, q4, HW, q5, OW, q6, TW, q7, cls, T, W, ⟨o1, k1⟩, ⟨o2, k2⟩, ⟨o3, k3⟩, ⟨o4, k4⟩, ⟨o5, k5⟩, ⟨o6, k6⟩, ⟨o7, k7⟩, ⟨o8, k8⟩, k9⟩ := hI.ex
  have tT := T.lt
  have tW := W.lt
  refine ldA [iv hour, .slice HW n1 q5, .slice OW f q6, .slice TW n1 q7] (.blk W) rfl ?_
  refine ldA [.slice HT n1 q1, .slice OT f q2, .slice TT n1 q3, .slice AT n1 q4, .slice none 0 0] (.blk T) rfl ?_
  refine stA (vs := [iv hour, .slice HW n1 q5, .slice OW f q6, .slice TW n1 q7]) W rfl (Nat.le_of_ble_eq_true rfl) (by simp [Value.oneCell']) (fun y1 BW8 kk8 z8 => ?_)
  refine stA (vs := [.slice HT n1 q1, .slice OT f q2, .slice TT n1 q3, .slice AT n1 q4, .slice none 0 0]) (T.kept kk8 (by omega)) rfl (Nat.le_of_ble_eq_true rfl) (by simp [Value.oneCell']) (fun y2 BT9 kk9 z9 => ?_)
  refine ret ?_
  refine resL _ (holds_agg (CellsAt.blk (show Blk y2 bW 53 [iv hour, .slice HW n1 q5, .slice OW f q6, .slice TW n1 q7] from Blk.kept BW8 kk9 (by omega))) rfl) ?_
  refine resL _ (holds_agg (CellsAt.blk (show Blk y2 bT 65 [.slice HT n1 q1, .slice OT f q2, .slice TT n1 q3, .slice AT n1 q4, .slice none 0 0] from BT9)) rfl) ?_
  have kk : Kept (fun b => b ≠ bW ∧ b ≠ bT) u y2 := (kk8.weak fun _ _ h => h.1).trans (kk9.weak fun _ _ h => h.2)
  have x0e : Ext w y2 := xu.then kk fun b hb _ => ⟨by omega, by omega⟩
  have nn : ∀ {A : Option Addr} {n c sz : Nat} {e : TypeId} {cs : List Value}, OwnF w u A n c e sz cs → 53 ≠ e → 65 ≠ e → OwnF w y2 A n c e sz cs := fun h h1 h2 => h.thenK kk (fun g hg => ⟨fun e => own_ty h W h1 (e ▸ hg), fun e => own_ty h T h2 (e ▸ hg)⟩) x0e
  have bar : ∀ r, r < n1 → I64 (arV d x hour r) := fun r hr => by
    have h1 := ok.at_ (r := r) (by omega)
    have v3 := tab_val hf.inn (i := r) (by omega) (show atV d hour r < H by omega)
    have v4 := tab_val hf.evap (i := r) (by omega) (show atV d hour r < H by omega)
    have v5 := tab_val hf.seep (i := r) (by omega) (show atV d hour r < H by omega)
    unfold arV I64; omega
  have j1 := (nn o1 (by decide) (by decide)).icl (D := fun b => w.heap.size ≤ b) (fun r hr => by have := (b1 r (by omega)).1; unfold I64; omega) (by omega) fun _ h => h
  have j2 := (nn o2 (by decide) (by decide)).icl (D := fun b => w.heap.size ≤ b) (fun r hr => by have := (b2 r (by omega)).1; unfold I64; omega) (by omega) fun _ h => h
  have j3 := (nn o3 (by decide) (by decide)).icl (D := fun b => w.heap.size ≤ b) (fun r hr => by have := (b1 r (by omega)).2; unfold I64; omega) (by omega) fun _ h => h
  have j4 := (nn o4 (by decide) (by decide)).icl (D := fun b => w.heap.size ≤ b) bar (by omega) fun _ h => h
  have j5 := (nn o5 (by decide) (by decide)).rgs (D := fun b => w.heap.size ≤ b) rfl (by omega) fun _ h => h
  have j6 := (nn o6 (by decide) (by decide)).rgs (D := fun b => w.heap.size ≤ b) rfl (by omega) fun _ h => h
  have j7 := (nn o7 (by decide) (by decide)).rgs (D := fun b => w.heap.size ≤ b) rfl (by omega) fun _ h => h
  refine ⟨[iv hour, .slice HW n1 q5, .slice OW f q6, .slice TW n1 q7], [.slice HT n1 q1, .slice OT f q2, .slice TT n1 q3, .slice AT n1 q4, .slice none 0 0], by rw [oe]; rfl, x0e, ?_, ?_⟩
  · unfold ofWv ofW
    rw [if_pos oe, ln, lf]
    exact ⟨[iv hour], [.slice HW n1 q5, .slice OW f q6, .slice TW n1 q7], rfl, ⟨rfl, h64⟩, [.slice HW n1 q5], [.slice OW f q6, .slice TW n1 q7], rfl, ⟨HW, n1, q5, rfl, j5, o5.le⟩, [.slice OW f q6], [.slice TW n1 q7], rfl, ⟨OW, f, q6, rfl, j6, o6.le⟩, TW, n1, q7, rfl, j7, o7.le⟩
  · unfold ofTv ofT
    rw [if_pos oe, ln, lf]
    exact ⟨[.slice HT n1 q1], [.slice OT f q2, .slice TT n1 q3, .slice AT n1 q4, .slice none 0 0], rfl, ⟨HT, n1, q1, rfl, j1, o1.le⟩, [.slice OT f q2], [.slice TT n1 q3, .slice AT n1 q4, .slice none 0 0], rfl, ⟨OT, f, q2, rfl, j2, o2.le⟩, [.slice TT n1 q3], [.slice AT n1 q4, .slice none 0 0], rfl, ⟨TT, n1, q3, rfl, j3, o3.le⟩, [.slice AT n1 q4], [.slice none 0 0], rfl, ⟨AT, n1, q4, rfl, j4, o4.le⟩, none, 0, 0, rfl, .nil, Nat.le_refl _⟩
end
end Go.Proofs.Ytffdjecdcbbfaaa

/- Layer 48: the law EvidenceTruth. -/
namespace Go.Proofs.Ytffdjecdcbbfaaa
open Go Go.RowKit

theorem wv_openL {D : Nat → Prop} {w : World} {cs : List Value} {x : Wv} (h : tWv.rep D w cs x) : ∃ H1 h1 k1 O1 o1 k2 T1 t1 k3, cs = [iv x.hour, .slice H1 h1 k1, .slice O1 o1 k2, .slice T1 t1 k3] := by
  obtain ⟨_, _, rfl, ⟨rfl, hh⟩, _, _, rfl, ⟨H1, h1, k1, rfl, g1, q1⟩, _, _, rfl, ⟨O1, o1, k2, rfl, g2, q2⟩, T1, t1, k3, rfl, g3, q3⟩ := h
  exact ⟨H1, h1, k1, O1, o1, k2, T1, t1, k3, rfl⟩
theorem tru_openL {D : Nat → Prop} {w : World} {cs : List Value} {t : Tru} (h : tTru.rep D w cs t) : ∃ P1 p1 r1 P2 p2 r2 P3 p3 r3 P4 p4 r4 P5 p5 r5, cs = [.slice P1 p1 r1, .slice P2 p2 r2, .slice P3 p3 r3, .slice P4 p4 r4, .slice P5 p5 r5] ∧ SlR tInt D w P1 p1 t.heads ∧ SlR tInt D w P2 p2 t.outlets ∧ SlR tInt D w P3 p3 t.tails ∧ SlR tInt D w P4 p4 t.arrived ∧ SlR tInt D w P5 p5 t.taken ∧ p1 ≤ r1 ∧ p2 ≤ r2 ∧ p3 ≤ r3 ∧ p4 ≤ r4 ∧ p5 ≤ r5 := by
  obtain ⟨_, _, rfl, ⟨P1, p1, r1, rfl, g1, q1⟩, _, _, rfl, ⟨P2, p2, r2, rfl, g2, q2⟩, _, _, rfl, ⟨P3, p3, r3, rfl, g3, q3⟩, _, _, rfl, ⟨P4, p4, r4, rfl, g4, q4⟩, P5, p5, r5, rfl, g5, q5⟩ := h
  exact ⟨P1, p1, r1, P2, p2, r2, P3, p3, r3, P4, p4, r4, P5, p5, r5, rfl, g1, g2, g3, g4, g5, q1, q2, q3, q4, q5⟩
theorem flat_zeros {D : Nat → Prop} {w : World} : ∀ n : Nat, FlatR tInt D w (List.replicate n 0) ((List.replicate n [iv 0]).flatten)
  | 0 => rfl
  | n + 1 => ⟨[iv 0], (List.replicate n [iv 0]).flatten, rfl, ⟨rfl, by unfold I64; decide⟩, flat_zeros n⟩
section
variable {D : Nat → Prop} {w : World}
set_option maxRecDepth 8000 in
theorem c_EvidenceTruth {csd csx : List Value} {d : Dist} {x : Run} {hour wide : Int} {sus : List Su} {AS : Option Addr} {nS cS : Nat} (hd : DiR D w csd d) (hx : RuR D w csx x) (h64 : I64 hour) (hs : SlR tSu D w AS nS sus) (hle : nS ≤ cS) : CallZ Try.prog 5 #[.agg csd.toArray, .agg csx.toArray, iv hour, iv wide, .slice AS nS cS] w
    (fun v w' => v = .bool true ∧ Ext w w') := by
  have hd := hd.more (D' := fun _ => True) fun _ _ _ => trivial
  have hx := hx.more (D' := fun _ => True) fun _ _ _ => trivial
  have hs := hs.more (D' := fun _ => True) (by decide) fun _ _ _ => trivial
  obtain ⟨A1, n1, c1, A2, n2, c2, A3, n3, c3, A4, n4, c4, A5, n5, c5, A6, n6, c6, rfl, -⟩ := hd.ex
  obtain ⟨B1, m1, e1, B2, m2, e2, B3, m3, e3, B4, m4, e4, B5, m5, e5, B6, m6, e6, B7, m7, e7, rfl, -⟩ := hx.ex
  refine fn_rule (args := [.agg #[.string d.name, iv d.hours, iv d.cap, iv d.start, .slice A1 n1 c1, .slice A2 n2 c2, .slice A3 n3 c3, .slice A4 n4 c4, .slice A5 n5 c5, .slice A6 n6 c6], .agg #[.slice B1 m1 e1, .slice B2 m2 e2, .slice B3 m3 e3, .slice B4 m4 e4, .slice B5 m5 e5, .slice B6 m6 e6, .slice B7 m7 e7], iv hour, iv wide, .slice AS nS cS]) Try.func5 (by kernel_rfl) ?_
  refine box (fun bd w1 i1 => ?_)
  refine box (fun bx w2 i2 => ?_)
  have x2 := i1.ext.trans i2.ext
  have Bd : Blk w2 bd 31 [.string d.name, iv d.hours, iv d.cap, iv d.start, .slice A1 n1 c1, .slice A2 n2 c2, .slice A3 n3 c3, .slice A4 n4 c4, .slice A5 n5 c5, .slice A6 n6 c6] := i1.blk.ext i2.ext
  have Bx : Blk w2 bx 62 [.slice B1 m1 e1, .slice B2 m2 e2, .slice B3 m3 e3, .slice B4 m4 e4, .slice B5 m5 e5, .slice B6 m6 e6, .slice B7 m7 e7] := i2.blk
  refine call_of (c_esane) ?_
  rintro _ w3 ⟨rfl, x3⟩
  have z3 := x2.trans x3
  refine ldA [.string d.name, iv d.hours, iv d.cap, iv d.start, .slice A1 n1 c1, .slice A2 n2 c2, .slice A3 n3 c3, .slice A4 n4 c4, .slice A5 n5 c5, .slice A6 n6 c6] (.blk (Bd.ext x3)) rfl ?_
  refine ldA [.slice B1 m1 e1, .slice B2 m2 e2, .slice B3 m3 e3, .slice B4 m4 e4, .slice B5 m5 e5, .slice B6 m6 e6, .slice B7 m7 e7] (.blk (Bx.ext x3)) rfl ?_
  refine callSE (c_r23Few (hd.ext z3) (hx.ext z3)) (fun w4 x4 => ?_) (fun w4 x4 => ?_)
  rotate_left
  · exact ret1 (.bool true) rfl ⟨rfl, z3.trans x4⟩
  have z4 := z3.trans x4
  have Bd := (Bd.ext x3).ext x4
  have Bx := (Bx.ext x3).ext x4
  refine len ?_
  refine cD (fun _ => ?_) (fun _ => ?_)
  · exact ret1 (.bool true) rfl ⟨rfl, z4⟩
  refine ldA [.string d.name, iv d.hours, iv d.cap, iv d.start, .slice A1 n1 c1, .slice A2 n2 c2, .slice A3 n3 c3, .slice A4 n4 c4, .slice A5 n5 c5, .slice A6 n6 c6] (.blk Bd) rfl ?_
  refine ldA [.slice B1 m1 e1, .slice B2 m2 e2, .slice B3 m3 e3, .slice B4 m4 e4, .slice B5 m5 e5, .slice B6 m6 e6, .slice B7 m7 e7] (.blk Bx) rfl ?_
  obtain ⟨ee, hee⟩ : ∃ ee, ee = ofErr d x hour wide := ⟨_, rfl⟩
  refine call_of (c_Of (wide := wide) (hd.ext z4) (hx.ext z4) h64) ?_
  rintro _ w5 ⟨cw, ct, rfl, x5, rw_, rt_⟩
  rw [← hee]
  have z5 := z4.trans x5
  obtain ⟨H1, h1, k1, O1, o1, k2, T1, t1, k3, rfl⟩ := wv_openL rw_
  obtain ⟨P1, p1, r1, P2, p2, r2, P3, p3, r3, P4, p4, r4, P5, p5, r5, rfl, s1, s2, s3, s4, s5, e1', e2', e3', e4', e5'⟩ := tru_openL rt_
  refine alloc (fun bW w6 i6 => ?_)
  refine alloc (fun bT w7 i7 => ?_)
  refine stA (vs := [iv (ofWv d x hour wide).hour, .slice H1 h1 k1, .slice O1 o1 k2, .slice T1 t1 k3]) (i6.blk.ext i7.ext) rfl (Nat.le_of_ble_eq_true rfl) (by simp [Value.oneCell']) (fun w8 BW kk8 z8 => ?_)
  have a6 := i6.at_
  have a7 := i7.at_
  have sz6 := i6.size
  have sz7 := i7.size
  refine stA (vs := [.slice P1 p1 r1, .slice P2 p2 r2, .slice P3 p3 r3, .slice P4 p4 r4, .slice P5 p5 r5]) (i7.blk.kept kk8 (by omega)) rfl (Nat.le_of_ble_eq_true rfl) (by simp [Value.oneCell']) (fun w9 BT kk9 z9 => ?_)
  have BW : Blk w9 bW 53 [iv (ofWv d x hour wide).hour, .slice H1 h1 k1, .slice O1 o1 k2, .slice T1 t1 k3] := Blk.kept BW kk9 (by omega)
  have BT : Blk w9 bT 65 [.slice P1 p1 r1, .slice P2 p2 r2, .slice P3 p3 r3, .slice P4 p4 r4, .slice P5 p5 r5] := BT
  have x59 : Ext w5 w9 := ((i6.ext.trans i7.ext).then kk8 fun b hb _ => by omega).then kk9 fun b hb _ => by omega
  have z9' := z5.trans x59
  have Bd := (Bd.ext x5).ext x59
  have Bx := (Bx.ext x5).ext x59
  refine ldA [.string d.name, iv d.hours, iv d.cap, iv d.start, .slice A1 n1 c1, .slice A2 n2 c2, .slice A3 n3 c3, .slice A4 n4 c4, .slice A5 n5 c5, .slice A6 n6 c6] (.blk Bd) rfl ?_
  refine ldA [.slice B1 m1 e1, .slice B2 m2 e2, .slice B3 m3 e3, .slice B4 m4 e4, .slice B5 m5 e5, .slice B6 m6 e6, .slice B7 m7 e7] (.blk Bx) rfl ?_
  refine call_of (c_bCheck (hd.ext z9') (hx.ext z9')) ?_
  rintro _ w10 ⟨rfl, x10⟩
  have z10 := z9'.trans x10
  refine cN (fun qb => ?_) (fun qb => ?_)
  · have qe : ee ≠ 0 := fun h => absurd (ofErr_ok.1 (hee.symm.trans h)).b qb
    refine cN (fun _ => ?_) (fun h => absurd h qe)
    exact ret1 (.bool true) rfl ⟨rfl, z10⟩
  have qb : bErr d x = 0 := qb
  refine cN (fun qe => ?_) (fun qe => ?_)
  · have qe1 : ee = 1 := by
      rw [hee] at qe ⊢
      unfold ofErr at qe ⊢
      rw [if_neg (by simp [qb])] at qe ⊢
      split
      · rfl
      · rename_i h
        rw [if_neg h] at qe
        split
        · rename_i h2; rw [if_pos h2] at qe; exact absurd rfl qe
        · rfl
    refine cE (fun _ => ?_) (fun h => absurd qe1 h)
    exact ret1 (.bool true) rfl ⟨rfl, z10⟩
  have oe : ofErr d x hour wide = 0 := hee.symm.trans qe
  have ok := ofErr_ok.1 oe
  have hW : ofWv d x hour wide = ofW d x hour wide := by unfold ofWv; rw [if_pos oe]
  have hT : ofTv d x hour wide = ofT d x hour 0 := by unfold ofTv; rw [if_pos oe]
  rw [hW] at rw_ BW
  rw [hT] at s1 s2 s3 s4 s5
  have rW : tWv.rep (fun b => b < w5.heap.size) w9 _ _ := tWv.ext (tWv.more (fun b hb _ => hb) rw_) x59
  have BW := BW.ext x10
  have BT := BT.ext x10
  have Bd := Bd.ext x10
  refine ldA [iv (ofW d x hour wide).hour, .slice H1 h1 k1, .slice O1 o1 k2, .slice T1 t1 k3] (.blk BW) rfl ?_
  refine lit [.agg #[iv (ofW d x hour wide).hour, .slice H1 h1 k1, .slice O1 o1 k2, .slice T1 t1 k3]] (fun g1 w11 i11 => ?_)
  refine bld [.slice (some (ad g1 0)) 1 1, .slice AS nS cS] (by kernel_rfl) ?_
  refine alloc (fun be w12 i12 => ?_)
  refine stA (vs := [.slice (some (ad g1 0)) 1 1, .slice AS nS cS]) i12.blk rfl (Nat.le_of_ble_eq_true rfl) (by simp [Value.oneCell']) (fun w13 BE kk13 z13 => ?_)
  have a12 := i12.at_
  have BE : Blk w13 be 35 [.slice (some (ad g1 0)) 1 1, .slice AS nS cS] := BE
  have x1013 : Ext w10 w13 := (i11.ext.trans i12.ext).then kk13 fun b hb _ => by have := i11.size; omega
  have z13' := z10.trans x1013
  have Bd := Bd.ext x1013
  have BT := BT.ext x1013
  have gW : Blk w13 g1 _ _ := i11.blk.ext (i12.ext.then kk13 fun b hb _ => by omega)
  have q6 := x10.size
  have q9 := z8
  have q10 := z9
  have q11 := i11.at_
  have q12 := i11.size
  have sW : SlR tWv (fun b => b ≠ be ∧ b ≠ bT) w13 (some (ad g1 0)) 1 [ofW d x hour wide] := SlR.of_cells rfl (by decide) ⟨by omega, by omega⟩ (.blk gW) ⟨_, [], rfl, tWv.more (fun b _ hb => ⟨by omega, by omega⟩) (tWv.ext (tWv.ext rW x10) x1013), rfl⟩
  have hsv := hs.ext z13'
  have rE : EvR (fun _ => True) w13 [.slice (some (ad g1 0)) 1 1, .slice AS nS cS] ⟨[ofW d x hour wide], sus⟩ := EvR.of_ ⟨_, _, _, _, _, _, rfl, sW.more (by decide) fun _ _ _ => trivial, hsv, Nat.le_refl _, hle⟩
  have u1 : SlR tInt (fun b => b ≠ be ∧ b ≠ bT) _ _ _ _ := (s1.more (by decide) fun b hb _ => ⟨by omega, by omega⟩).ext ((x59.trans x10).trans x1013)
  have u2 : SlR tInt (fun b => b ≠ be ∧ b ≠ bT) _ _ _ _ := (s2.more (by decide) fun b hb _ => ⟨by omega, by omega⟩).ext ((x59.trans x10).trans x1013)
  have u3 : SlR tInt (fun b => b ≠ be ∧ b ≠ bT) _ _ _ _ := (s3.more (by decide) fun b hb _ => ⟨by omega, by omega⟩).ext ((x59.trans x10).trans x1013)
  have u4 : SlR tInt (fun b => b ≠ be ∧ b ≠ bT) _ _ _ _ := (s4.more (by decide) fun b hb _ => ⟨by omega, by omega⟩).ext ((x59.trans x10).trans x1013)
  refine ldA [.string d.name, iv d.hours, iv d.cap, iv d.start, .slice A1 n1 c1, .slice A2 n2 c2, .slice A3 n3 c3, .slice A4 n4 c4, .slice A5 n5 c5, .slice A6 n6 c6] (.blk Bd) rfl ?_
  refine ldA [.slice (some (ad g1 0)) 1 1, .slice AS nS cS] (.blk BE) rfl ?_
  refine call_of (c_eCheck48 (hd.ext z13') rE) ?_
  rintro _ w14 ⟨rfl, x14⟩
  have x1014 := x1013.trans x14
  have z14 := z13'.trans x14
  have Bd := Bd.ext x14
  have BT := BT.ext x14
  have BE := BE.ext x14
  have sW := sW.ext x14
  have hsv := hsv.ext x14
  have u1 := u1.ext x14
  have u2 := u2.ext x14
  have u3 := u3.ext x14
  have u4 := u4.ext x14
  have sz14 := BE.lt
  have ltd := Bd.lt
  have ltT := BT.lt
  have wbe : w.heap.size ≤ be := by have := (z10.trans i11.ext).size; omega
  clear rE s1 s2 s3 s4 s5 rw_ rt_ rW gW x59 x1013 z9' z10 z13' x14 BW Bx
  have dbe : be ≠ bd := fun e => by subst e; exact absurd (BE.uniq Bd).1 (by decide)
  have dbT : be ≠ bT := fun e => by subst e; exact absurd (BE.uniq BT).1 (by decide)
  have dbdT : bd ≠ bT := fun e => by subst e; exact absurd (Bd.uniq BT).1 (by decide)
  have hs' : SlR tSu (fun b => b ≠ bT) w14 AS nS sus := (hs.more (D' := fun b => b ≠ bT) (by decide) fun b hb _ => by have := z5.size; omega).ext z14
  have wbT : w.heap.size ≤ bT := by have := z5.size; omega
  clear hsv
  refine cN (fun qE => ?ne) (fun qE => ?eq)
  case' ne =>
    refine fldA ?_
    refine st (v := .slice none 0 0) BE (Nat.le_of_ble_eq_true rfl) rfl (fun w15 BE kk15 z15 => ?_)
    have zz : Ext w w15 := z14.then kk15 fun b hb _ => by omega
    have Bd := Bd.kept kk15 (Ne.symm dbe)
    have BT := BT.kept kk15 (Ne.symm dbT)
    have sW := sW.kept kk15 fun b _ h => h.1
    have u1 := u1.kept kk15 fun b _ h => h.1
    have u2 := u2.kept kk15 fun b _ h => h.1
    have u3 := u3.kept kk15 fun b _ h => h.1
    have u4 := u4.kept kk15 fun b _ h => h.1
    obtain ⟨sus', hsu'⟩ : ∃ s : List Su, s = [] := ⟨_, rfl⟩
    obtain ⟨AS', hAS'⟩ : ∃ s : Option Addr, s = none := ⟨_, rfl⟩
    obtain ⟨nS', hnS'⟩ : ∃ s : Nat, s = 0 := ⟨_, rfl⟩
    obtain ⟨cS', hcS'⟩ : ∃ s : Nat, s = 0 := ⟨_, rfl⟩
    have hsv : SlR tSu (fun b => b ≠ bT) w15 AS' nS' sus' := by rw [hsu', hnS']; exact .nil
    have BE : Blk w15 be 35 [.slice (some (ad g1 0)) 1 1, .slice AS' nS' cS'] := by rw [hAS', hnS', hcS']; exact BE
    have hle' : nS' ≤ cS' := by omega
    have hE : evErr d ⟨[ofW d x hour wide], sus'⟩ = 0 := by rw [hsu']; exact ok.ev
    clear hsu' hAS' hnS' hcS' kk15 z15 qE hs'
  case' eq =>
    obtain ⟨w15, hw15⟩ : ∃ w15, w15 = w14 := ⟨_, rfl⟩
    rw [← hw15] at z14 Bd BT BE sW u1 u2 u3 u4 hs'
    have zz := z14
    obtain ⟨sus', hsu'⟩ : ∃ s : List Su, s = sus := ⟨_, rfl⟩
    obtain ⟨AS', hAS'⟩ : ∃ s : Option Addr, s = AS := ⟨_, rfl⟩
    obtain ⟨nS', hnS'⟩ : ∃ s : Nat, s = nS := ⟨_, rfl⟩
    obtain ⟨cS', hcS'⟩ : ∃ s : Nat, s = cS := ⟨_, rfl⟩
    have hsv : SlR tSu (fun b => b ≠ bT) w15 AS' nS' sus' := by rw [hsu', hnS', hAS']; exact hs'.more (by decide) fun b _ h => h
    have BE : Blk w15 be 35 [.slice (some (ad g1 0)) 1 1, .slice AS' nS' cS'] := by rw [hAS', hnS', hcS']; exact BE
    have hle' : nS' ≤ cS' := by omega
    have hE : evErr d ⟨[ofW d x hour wide], sus'⟩ = 0 := by rw [hsu']; exact qE
    rw [← hw15]
    clear hsu' hAS' hnS' hcS' hw15 qE hs'
  all_goals
    obtain ⟨-, -, hS12, -⟩ := evErr_ok hE
    have lsv := hsv.len
    have hS12 : nS' ≤ 12 := by rw [← lsv]; exact hS12
    have ltT' := BT.lt
    have lte' := BE.lt
    refine fldA ?_
    refine ld (.slice AS' nS' cS') (BE.cell rfl) ?_
    refine len ?_
    refine mslc (sz := 1) (zv := iv 0) nS' rfl rfl (by omega) (by omega) rfl (by decide) (fun gz w16 i16 => ?_)
    have a16 := i16.at_
    refine fldA ?_
    refine st (v := .slice (some (ad gz 0)) nS' nS') (BT.ext i16.ext) (Nat.le_of_ble_eq_true rfl) rfl (fun w17 BT kk17 z17 => ?_)
    have BT : Blk w17 bT 65 [.slice P1 p1 r1, .slice P2 p2 r2, .slice P3 p3 r3, .slice P4 p4 r4, .slice (some (ad gz 0)) nS' nS'] := BT
    have zK : Kept (fun b => b ≠ bT) w15 w17 := i16.ext.any.trans kk17
    have z17 : Ext w w17 := zz.then zK fun b hb _ => by omega
    have Bd := Bd.kept zK dbdT
    have BE := BE.kept zK dbT
    have sW := sW.kept zK fun b _ h => h.2
    have u1 := u1.kept zK fun b _ h => h.2
    have u2 := u2.kept zK fun b _ h => h.2
    have u3 := u3.kept zK fun b _ h => h.2
    have u4 := u4.kept zK fun b _ h => h.2
    have hsv := hsv.kept zK fun b _ h => h
    have rE : EvR (fun _ => True) w17 [.slice (some (ad g1 0)) 1 1, .slice AS' nS' cS'] ⟨[ofW d x hour wide], sus'⟩ := EvR.of_ ⟨_, _, _, _, _, _, rfl, sW.more (by decide) fun _ _ _ => trivial, hsv.more (by decide) fun _ _ _ => trivial, Nat.le_refl _, hle'⟩
    have u5 : SlR tInt (fun _ => True) w17 (some (ad gz 0)) nS' (List.replicate nS' 0) := SlR.of_cells (by simp) (by omega) trivial (.blk (i16.blk.kept kk17 (by omega))) (flat_zeros nS')
    refine ldA [.string d.name, iv d.hours, iv d.cap, iv d.start, .slice A1 n1 c1, .slice A2 n2 c2, .slice A3 n3 c3, .slice A4 n4 c4, .slice A5 n5 c5, .slice A6 n6 c6] (.blk Bd) rfl ?_
    refine ldA [.slice (some (ad g1 0)) 1 1, .slice AS' nS' cS'] (.blk BE) rfl ?_
    refine ldA [.slice P1 p1 r1, .slice P2 p2 r2, .slice P3 p3 r3, .slice P4 p4 r4, .slice (some (ad gz 0)) nS' nS'] (.blk BT) rfl ?_
    refine lit [.agg #[.slice P1 p1 r1, .slice P2 p2 r2, .slice P3 p3 r3, .slice P4 p4 r4, .slice (some (ad gz 0)) nS' nS']] (fun g2 w18 i18 => ?_)
    have y1 := u1.more (D' := fun _ => True) (by decide) fun _ _ _ => trivial
    have y2 := u2.more (D' := fun _ => True) (by decide) fun _ _ _ => trivial
    have y3 := u3.more (D' := fun _ => True) (by decide) fun _ _ _ => trivial
    have y4 := u4.more (D' := fun _ => True) (by decide) fun _ _ _ => trivial
    have rT : tTru.rep (fun _ => True) w17 [.slice P1 p1 r1, .slice P2 p2 r2, .slice P3 p3 r3, .slice P4 p4 r4, .slice (some (ad gz 0)) nS' nS'] (ofT d x hour nS') :=
      ⟨[.slice P1 p1 r1], [.slice P2 p2 r2, .slice P3 p3 r3, .slice P4 p4 r4, .slice (some (ad gz 0)) nS' nS'], rfl, ⟨P1, p1, r1, rfl, y1, e1'⟩, [.slice P2 p2 r2], [.slice P3 p3 r3, .slice P4 p4 r4, .slice (some (ad gz 0)) nS' nS'], rfl, ⟨P2, p2, r2, rfl, y2, e2'⟩, [.slice P3 p3 r3], [.slice P4 p4 r4, .slice (some (ad gz 0)) nS' nS'], rfl, ⟨P3, p3, r3, rfl, y3, e3'⟩, [.slice P4 p4 r4], [.slice (some (ad gz 0)) nS' nS'], rfl, ⟨P4, p4, r4, rfl, y4, e4'⟩, some (ad gz 0), nS', nS', rfl, u5, Nat.le_refl _⟩
    have sT : SlR tTru (fun _ => True) w18 (some (ad g2 0)) 1 [ofT d x hour nS'] := SlR.of_cells rfl (by decide) trivial (.blk i18.blk) ⟨_, [], rfl, tTru.ext rT i18.ext, rfl⟩
    obtain ⟨acc, tab⟩ := ok.table (y := ⟨[ofW d x hour wide], sus'⟩) rfl hE
    rw [show (Ev.mk [ofW d x hour wide] sus').suspects.length = nS' from lsv] at acc
    have cc := c_Accepts (set := []) (A := none) (n := 0) (c := 0) (c' := 1) (hd.ext (z17.trans i18.ext)) (rE.ext i18.ext) .nil sT
    rw [acc, show askErr d ⟨[ofW d x hour wide], sus'⟩ [] = 0 from askErr_ok.2 ⟨hE, rfl⟩] at cc
    refine call_of cc ?_
    clear cc
    rintro _ w19 ⟨rfl, x19⟩
    have z19 := z17.trans (i18.ext.trans x19)
    have Bd := Bd.ext (i18.ext.trans x19)
    have BE := BE.ext (i18.ext.trans x19)
    refine ldA [.string d.name, iv d.hours, iv d.cap, iv d.start, .slice A1 n1 c1, .slice A2 n2 c2, .slice A3 n3 c3, .slice A4 n4 c4, .slice A5 n5 c5, .slice A6 n6 c6] (.blk Bd) rfl ?_
    refine ldA [.slice (some (ad g1 0)) 1 1, .slice AS' nS' cS'] (.blk BE) rfl ?_
    refine call_of (c_Table (hd.ext z19) (rE.ext (i18.ext.trans x19))) ?_
    rintro _ w20 ⟨TA, tn, tc, rfl, oT⟩
    have z20 := z19.trans oT.ext
    have BE := BE.ext oT.ext
    have tl := table_len hE
    rw [show (Ev.mk [ofW d x hour wide] sus').suspects.length = nS' from lsv] at tl
    have hpow : 2 ^ nS' ≤ 4096 := Nat.le_trans (Nat.pow_le_pow_right (by omega) hS12) (by decide)
    have bT := oT.bools (D := fun _ => True) (by rw [tl]; omega) fun _ _ => trivial
    have tnl : tn = 2 ^ nS' := by rw [← tl]; exact bT.len.symm
    rw [hE]
    refine cN (fun h => absurd rfl h) (fun _ => ?_)
    refine cN (fun h => absurd rfl h) (fun _ => ?_)
    refine len ?_
    refine fldA ?_
    refine ld (.slice AS' nS' cS') (BE.cell rfl) ?_
    refine len ?_
    refine shl1 (fun pw hpw _ => ?_)
    have hpw : pw = 2 ^ nS' := by rw [hpw, Int.toNat_natCast]
    refine cN (fun h => absurd (show (tn : Int) = (pw : Int) by rw [tnl, hpw]) h) (fun _ => ?_)
    refine len ?_
    refine loop_rule (fun k : Nat => [(100, iv (k : Int))]) (fun k u => k ≤ tn ∧ w20 = u) (fun k _ => tn - k) 0 ⟨rfl, trivial⟩ ⟨by omega, rfl⟩ rfl ?_
    rintro G k u ⟨hk, rfl⟩
    refine cD (fun hlt => ?_) (fun hge => ?_)
    · have hlt : k < tn := by omega
      obtain ⟨tb, to_, cs, y, rfl, hy, -, -, hc, rfl⟩ := bT.at_ hlt
      have hy1 : y = true := tab y (List.mem_of_getElem? hy)
      subst hy1
      refine idx k rfl hlt ?_
      refine ld (.bool true) (hc 0 _ rfl) ?_
      refine arI (by omega) ?_
      exact next (k + 1) ⟨by rw [Int.natCast_add]; rfl, trivial⟩ ⟨by omega, rfl⟩ (by omega)
    · exact ret1 (.bool true) rfl ⟨rfl, z20⟩
end
end Go.Proofs.Ytffdjecdcbbfaaa

/- Closing: what evidence and Truths that are handed in read as. -/
namespace Go.Proofs.Ytffdjecdcbbfaaa
open Go Go.RowKit Go.ChangeShapes Go.WideShapes Go.ChangeAt

def tEvR : Ty Ev where
  sz := 2
  rep := EvR
  len h := by obtain ⟨_, _, _, _, _, _, rfl, -⟩ := h.ex; rfl
  keep hk h := h.keep hk
  more hk h := h.more hk
theorem rd_is : Rd Try.prog 36 (tSl tInt) := inferInstance
theorem rd_rg : Rd Try.prog 58 tRg := by
  refine Rd.of (fun y : Int × Int => (⟨y.1, y.2⟩ : Rg)) rd_range ?_
  rintro W cs ⟨s, u⟩ ⟨_, _, rfl, ⟨rfl, -⟩, ⟨rfl, -⟩⟩
  rfl
theorem rd_su : Rd Try.prog 74 tSu := by
  refine Rd.of (fun y : Int × Int × Int => (⟨y.1, y.2.1, y.2.2⟩ : Su))
    (Rd.struct Try.underlying74 (by kernel_rfl) fun n => .cons (rdAt Try.prog 3 tInt n) rfl (.cons (rdAt Try.prog 3 tInt n) rfl (.one (rdAt Try.prog 3 tInt n) rfl))) ?_
  rintro W cs ⟨s, u, d⟩ ⟨_, _, rfl, ⟨rfl, -⟩, _, _, rfl, ⟨rfl, -⟩, ⟨rfl, -⟩⟩
  rfl
instance : Rd Try.prog 58 tRg := rd_rg
instance : Rd Try.prog 74 tSu := rd_su
theorem rd_rgs : Rd Try.prog 51 (tSl tRg) := inferInstance
theorem rd_wave : Rd Try.prog 53 tWv := Rd.map (g := fun y : Int × List Rg × List Rg × List Rg => (⟨y.1, y.2.1, y.2.2.1, y.2.2.2⟩ : Wv))
    (Rd.struct Try.underlying53 (by kernel_rfl) fun n => .cons (rdAt Try.prog 3 tInt n) rfl (.cons (rd_rgs.h n) rfl (.cons (rd_rgs.h n) rfl (.one (rd_rgs.h n) rfl)))) fun _ => rfl
theorem rd_tru : Rd Try.prog 65 tTru := Rd.map (g := fun y : List Int × List Int × List Int × List Int × List Int => (⟨y.1, y.2.1, y.2.2.1, y.2.2.2.1, y.2.2.2.2⟩ : Tru))
    (Rd.struct Try.underlying65 (by kernel_rfl) fun n => .cons (rd_is.h n) rfl (.cons (rd_is.h n) rfl (.cons (rd_is.h n) rfl (.cons (rd_is.h n) rfl (.one (rd_is.h n) rfl))))) fun _ => rfl
instance : Rd Try.prog 53 tWv := rd_wave
instance : Rd Try.prog 65 tTru := rd_tru
theorem rd_waves : Rd Try.prog 32 (tSl tWv) := inferInstance
theorem rd_sus : Rd Try.prog 33 (tSl tSu) := inferInstance
theorem rd_trus : Rd Try.prog 37 (tSl tTru) := inferInstance
theorem rd_ev : Rd Try.prog 35 tEvR := by
  refine Rd.of (fun y : List Wv × List Su => (⟨y.1, y.2⟩ : Ev))
    (Rd.struct Try.underlying35 (by kernel_rfl) fun n => .cons (rd_waves.h n) rfl (.one (rd_sus.h n) rfl)) ?_
  rintro W cs ⟨l1, l2⟩ ⟨_, _, rfl, ⟨A1, n1, c1, rfl, h1, g1⟩, A2, n2, c2, rfl, h2, g2⟩
  exact EvR.of_ ⟨A1, n1, c1, A2, n2, c2, rfl, h1, h2, g1, g2⟩
end Go.Proofs.Ytffdjecdcbbfaaa

/- Closing: what a run that is handed in reads as. -/
namespace Go.Proofs.Ytffdjecdcbbfaaa
open Go Go.RowKit Go.ChangeShapes Go.WideShapes Go.ChangeAt

theorem rd_ll : Rd Try.prog 60 (tSl (tSl tInt)) := inferInstance
theorem rd_run : Rd Try.prog 62 tRun := by
  refine Rd.of (fun y : List Int × List Int × List (List Int) × List (List Int) × List (List Int) × List (List Int) × List (List Int) => (⟨y.1, y.2.1, y.2.2.1, y.2.2.2.1, y.2.2.2.2.1, y.2.2.2.2.2.1, y.2.2.2.2.2.2⟩ : Run))
    (Rd.struct Try.underlying62 (by kernel_rfl) fun n => .cons (rd_is.h n) rfl (.cons (rd_is.h n) rfl (.cons (rd_ll.h n) rfl (.cons (rd_ll.h n) rfl (.cons (rd_ll.h n) rfl (.cons (rd_ll.h n) rfl (.one (rd_ll.h n) rfl))))))) ?_
  rintro W cs ⟨l1, l2, l3, l4, l5, l6, l7⟩ ⟨_, _, rfl, ⟨A1, n1, c1, rfl, h1, g1⟩, _, _, rfl, ⟨A2, n2, c2, rfl, h2, g2⟩, _, _, rfl, ⟨A3, n3, c3, rfl, h3, -⟩, _, _, rfl, ⟨A4, n4, c4, rfl, h4, -⟩, _, _, rfl, ⟨A5, n5, c5, rfl, h5, -⟩, _, _, rfl, ⟨A6, n6, c6, rfl, h6, -⟩, A7, n7, c7, rfl, h7, -⟩
  exact RuR.of_ ⟨A1, n1, c1, A2, n2, c2, A3, n3, c3, A4, n4, c4, A5, n5, c5, A6, n6, c6, A7, n7, c7, rfl, h1, h2, h3, h4, h5, h6, h7, g1, g2⟩
end Go.Proofs.Ytffdjecdcbbfaaa
