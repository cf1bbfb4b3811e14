/- Parts of the proof: B6 B7 B8 B9 Ba Bb Ji. -/
import Derived.Test.YtehcphboliofaaaGreatDoorPT7
import Derived.Test.YtehcphboliofaaaGreatDoorPT4

/- Layer 23: what is right, plainly. -/
namespace Go.Proofs.YtehcphboliofaaaGreatDoor
open Go Go.RowKit

/-! ### sums of moves -/
def sumL (l : List Mv) : Int := (l.map (·.litres)).sum
theorem sumL_app (a b : List Mv) : sumL (a ++ b) = sumL a + sumL b := by unfold sumL; rw [List.map_append, List.sum_append]
theorem sumL_cons (m : Mv) (l : List Mv) : sumL (m :: l) = m.litres + sumL l := rfl
def outN (ms : List Mv) (key : Int × Int) : Int := sumL (ms.filter fun m => decide (m.frm = key))
def inN (ms : List Mv) (key : Int × Int) : Int := sumL (ms.filter fun m => decide (m.to = key))
theorem outN_app (a b : List Mv) (k : Int × Int) : outN (a ++ b) k = outN a k + outN b k := by unfold outN; rw [List.filter_append, sumL_app]
theorem inN_app (a b : List Mv) (k : Int × Int) : inN (a ++ b) k = inN a k + inN b k := by unfold inN; rw [List.filter_append, sumL_app]
theorem outN_one (m : Mv) (k : Int × Int) : outN [m] k = if m.frm = k then m.litres else 0 := by
  unfold outN
  by_cases h : m.frm = k
  · rw [List.filter_cons_of_pos (by simpa using h), if_pos h]; simp [sumL]
  · rw [List.filter_cons_of_neg (by simpa using h), if_neg h]; rfl
theorem inN_one (m : Mv) (k : Int × Int) : inN [m] k = if m.to = k then m.litres else 0 := by
  unfold inN
  by_cases h : m.to = k
  · rw [List.filter_cons_of_pos (by simpa using h), if_pos h]; simp [sumL]
  · rw [List.filter_cons_of_neg (by simpa using h), if_neg h]; rfl
def okM (ms : List Mv) : Prop := ∀ m ∈ ms, 0 ≤ m.litres ∧ m.litres ≤ 1073741824
theorem sumL_le : ∀ {ms : List Mv}, okM ms → 0 ≤ sumL ms ∧ sumL ms ≤ ms.length * 1073741824
  | [], _ => by simp [sumL]
  | m :: l, h => by
    have h1 := h m List.mem_cons_self
    have h2 := sumL_le (ms := l) fun x hx => h x (List.mem_cons_of_mem _ hx)
    rw [sumL_cons, List.length_cons]
    omega
theorem outN_le {ms : List Mv} (h : okM ms) (k : Int × Int) : 0 ≤ outN ms k ∧ outN ms k ≤ ms.length * 1073741824 := by
  have h1 := sumL_le (ms := ms.filter fun m => decide (m.frm = k)) fun m hm => h m (List.mem_filter.1 hm).1
  have h2 := List.length_filter_le (fun m => decide (m.frm = k)) ms
  unfold outN
  omega
theorem inN_le {ms : List Mv} (h : okM ms) (k : Int × Int) : 0 ≤ inN ms k ∧ inN ms k ≤ ms.length * 1073741824 := by
  have h1 := sumL_le (ms := ms.filter fun m => decide (m.to = k)) fun m hm => h m (List.mem_filter.1 hm).1
  have h2 := List.length_filter_le (fun m => decide (m.to = k)) ms
  unfold inN
  omega
theorem okM_app {a b : List Mv} : okM (a ++ b) ↔ okM a ∧ okM b := by unfold okM; simp only [List.mem_append]; exact ⟨fun h => ⟨fun m hm => h m (.inl hm), fun m hm => h m (.inr hm)⟩, fun h m hm => hm.elim (h.1 m) (h.2 m)⟩
theorem outN_all {l : List Mv} {k : Int × Int} (h : ∀ m ∈ l, m.frm = k) : outN l k = sumL l := by unfold outN; rw [List.filter_eq_self.2 fun m hm => by simpa using h m hm]
theorem outN_no {l : List Mv} {k : Int × Int} (h : ∀ m ∈ l, m.frm ≠ k) : outN l k = 0 := by unfold outN; rw [List.filter_eq_nil_iff.2 fun m hm => by simpa using h m hm]; rfl
theorem inN_no {l : List Mv} {k : Int × Int} (h : ∀ m ∈ l, m.to ≠ k) : inN l k = 0 := by unfold inN; rw [List.filter_eq_nil_iff.2 fun m hm => by simpa using h m hm]; rfl

/-! ### a formed run's numbers -/
section
variable {d : Dist} {x : Run} {H hour i k : Nat}
theorem reach_at (hi : i < d.reaches.length) : d.reaches[i]? = some (rch d i) := by
  have : d.reaches[i]? = some d.reaches[i] := List.getElem?_eq_getElem hi
  rw [rch_eq this, this]
theorem farm_at (hi : i < d.farms.length) : d.farms[i]? = some (frm d i) := by
  have : d.farms[i]? = some d.farms[i] := List.getElem?_eq_getElem hi
  rw [frm_eq this, this]
theorem Fm.ent_lt (hf : Fm d x H) (hi : i < d.reaches.length) (hh : hour < H) : ent d i hour < hour ∧ (ent d i hour).toNat < H := by
  obtain ⟨-, -, h1, h2⟩ := hf.at_ (reach_at hi)
  unfold ent
  omega
theorem Fm.parc (hf : Fm d x H) (hi : i < d.reaches.length) (hh : hour < H) : (0 ≤ (parc d x hour i).1 ∧ (parc d x hour i).1 ≤ 1073741824) ∧ (0 ≤ (parc d x hour i).2.1 ∧ (parc d x hour i).2.1 ≤ 1073741824) ∧ 0 ≤ (parc d x hour i).2.2 ∧ (parc d x hour i).2.2 ≤ 1073741824 := by
  obtain ⟨-, h2⟩ := hf.ent_lt hi hh
  unfold Proofs.YtehcphboliofaaaGreatDoor.parc
  split
  · exact ⟨tab_val hf.inn hi h2, tab_val hf.evap hi h2, tab_val hf.seep hi h2⟩
  · simp
theorem Fm.okChild (hf : Fm d x H) (hh : hour < H) (hk : k ≤ d.reaches.length) : okM (childL d x hour i k) := by
  intro m hm
  unfold childL at hm
  obtain ⟨j, hj, rfl⟩ := List.mem_map.1 hm
  have := (List.mem_filter.1 hj).1
  rw [List.mem_range] at this
  exact tab_val hf.inn (by omega) hh
theorem Fm.okFarm (hf : Fm d x H) (hh : hour < H) (hk : k ≤ d.farms.length) : okM (farmL d x hour i k) := by
  intro m hm
  unfold farmL at hm
  obtain ⟨j, hj, rfl⟩ := List.mem_map.1 hm
  have := (List.mem_filter.1 hj).1
  rw [List.mem_range] at this
  exact tab_val hf.taken (by omega) hh
theorem Fm.okEnd (hf : Fm d x H) (hh : hour < H) (hi : i < d.reaches.length) : okM (endL d x hour i) := by
  unfold endL
  have hp := hf.parc hi hh
  rw [okM_app, okM_app, okM_app]
  refine ⟨⟨⟨?_, hf.okChild hh (Nat.le_refl _)⟩, hf.okFarm hh (Nat.le_refl _)⟩, ?_⟩
  · intro m hm
    unfold lossL at hm
    simp only [List.mem_cons, List.not_mem_nil, or_false] at hm
    rcases hm with rfl | rfl
    · exact hp.2.1
    · exact hp.2.2
  · intro m hm
    simp only [List.mem_cons, List.not_mem_nil, or_false] at hm
    subst hm
    exact tab_val hf.tail hi hh
theorem Fm.okHead (hf : Fm d x H) (hh : hour < H) : okM (headL x hour) := by
  intro m hm
  unfold headL at hm
  simp only [List.mem_cons, List.not_mem_nil, or_false] at hm
  rcases hm with rfl | rfl | rfl
  · exact (num_val hf.inflow hh).2
  · exact (num_val hf.spill hh).2
  · exact tab_val hf.inn hf.nr hh
theorem Fm.okPref (hf : Fm d x H) (hh : hour < H) : ∀ k, k ≤ d.reaches.length → okM (prefL d x hour k)
  | 0, _ => by
    have : prefL d x hour 0 = headL x hour := by simp [prefL]
    rw [this]; exact hf.okHead hh
  | k + 1, hk => by rw [prefL_succ, okM_app]; exact ⟨hf.okPref hh k (by omega), hf.okEnd hh (by omega)⟩
theorem Fm.okMoves (hf : Fm d x H) (hh : hour < H) : okM (movesL d x hour) := hf.okPref hh _ (Nat.le_refl _)
theorem endL_frm : ∀ m ∈ endL d x hour i, m.frm = (2, (i : Int)) := by
  intro m hm
  unfold endL lossL childL farmL at hm
  simp only [List.mem_append, List.mem_cons, List.not_mem_nil, or_false, List.mem_map] at hm
  rcases hm with (((rfl | rfl) | ⟨j, _, rfl⟩) | ⟨j, _, rfl⟩) | rfl <;> rfl
def leftN (d : Dist) (x : Run) (i hour : Nat) : Int := sumL (childL d x hour i d.reaches.length) + sumL (farmL d x hour i d.farms.length) + g2 x.tail i hour
theorem sum_end : sumL (endL d x hour i) = (parc d x hour i).2.1 + (parc d x hour i).2.2 + leftN d x i hour := by
  unfold endL leftN lossL
  rw [sumL_app, sumL_app, sumL_app]
  simp only [sumL, List.map_cons, List.map_nil, List.sum_cons, List.sum_nil]
  omega
theorem out_pref : ∀ k, outN (prefL d x hour k) (2, (i : Int)) = if i < k then sumL (endL d x hour i) else 0
  | 0 => by
    have : prefL d x hour 0 = headL x hour := by simp [prefL]
    rw [this, if_neg (by omega)]
    exact outN_no (by intro m hm; unfold headL at hm; simp only [List.mem_cons, List.not_mem_nil, or_false] at hm; rcases hm with rfl | rfl | rfl <;> simp)
  | k + 1 => by
    rw [prefL_succ, outN_app, out_pref k]
    by_cases h : i = k
    · subst h
      rw [if_neg (by omega), if_pos (by omega), outN_all endL_frm]; omega
    · have h2 : outN (endL d x hour k) (2, (i : Int)) = 0 := outN_no fun m hm e => by
        rw [endL_frm m hm] at e
        simp only [Prod.mk.injEq, true_and] at e
        omega
      rw [h2]
      by_cases h3 : i < k
      · rw [if_pos h3, if_pos (by omega)]; omega
      · rw [if_neg h3, if_neg (by omega)]; omega
theorem out_moves (hi : i < d.reaches.length) : outN (movesL d x hour) (2, (i : Int)) = (parc d x hour i).2.1 + (parc d x hour i).2.2 + leftN d x i hour := by
  unfold movesL; rw [out_pref, if_pos hi, sum_end]

/-! ### right -/
def formB (d : Dist) (x : Run) : Bool := numB d.hours x.inflow && (numB d.hours x.spill && (tabB d.farms.length d.hours x.taken && (tabB d.reaches.length d.hours x.inn && (tabB d.reaches.length d.hours x.evap && (tabB d.reaches.length d.hours x.seep && tabB d.reaches.length d.hours x.tail)))))
def storeN (d : Dist) (x : Run) : Nat → Int
  | 0 => d.start
  | k + 1 => storeN d x k + g1 x.inflow k - g1 x.spill k - g2 x.inn 0 k
def balI (d : Dist) (x : Run) (i hour : Nat) : Bool := decide ((parc d x hour i).1 - (parc d x hour i).2.1 - (parc d x hour i).2.2 = leftN d x i hour)
structure RightP (d : Dist) (x : Run) (H : Nat) : Prop where
  adm : ∀ i k, i < d.reaches.length → k < H → admB (rch d i) (g2 x.inn i k) (g2 x.evap i k) (g2 x.seep i k) = true
  bal : ∀ i k, i < d.reaches.length → k < H → balI d x i k = true
  sto : ∀ k, k < H → 0 ≤ storeN d x (k + 1) ∧ storeN d x (k + 1) ≤ d.cap
def rightB (d : Dist) (x : Run) : Bool := formB d x &&
  (((List.range d.reaches.length).all fun i => (List.range d.hours.toNat).all fun k => admB (rch d i) (g2 x.inn i k) (g2 x.evap i k) (g2 x.seep i k)) &&
  (((List.range d.reaches.length).all fun i => (List.range d.hours.toNat).all fun k => balI d x i k) && ((List.range d.hours.toNat).all fun k => inI (storeN d x (k + 1)) 0 d.cap)))
theorem formB_iff : formB d x = true ↔ numB d.hours x.inflow = true ∧ numB d.hours x.spill = true ∧ tabB d.farms.length d.hours x.taken = true ∧ tabB d.reaches.length d.hours x.inn = true ∧ tabB d.reaches.length d.hours x.evap = true ∧ tabB d.reaches.length d.hours x.seep = true ∧ tabB d.reaches.length d.hours x.tail = true := by
  unfold formB; simp only [Bool.and_eq_true]
theorem rightB_iff : rightB d x = true ↔ formB d x = true ∧ RightP d x d.hours.toNat := by
  unfold rightB
  simp only [Bool.and_eq_true, List.all_eq_true, List.mem_range, inI_iff]
  exact ⟨fun ⟨h1, h2, h3, h4⟩ => ⟨h1, ⟨fun i k hi hk => h2 i hi k hk, fun i k hi hk => h3 i hi k hk, h4⟩⟩, fun ⟨h1, h2⟩ => ⟨h1, fun i hi k hk => h2.adm i k hi hk, fun i hi k hk => h2.bal i k hi hk, h2.sto⟩⟩
theorem Fm.of (hv : validB d = true) (ht : tooMany d = false) (hf : formB d x = true) : Fm d x d.hours.toNat := by
  obtain ⟨hH, hR, -, hF, -⟩ := validB_iff.1 hv
  obtain ⟨h1, -, -, h4⟩ := headOk_iff.1 hH
  have hh : ((d.hours.toNat : Nat) : Int) = d.hours := by omega
  have t : d.reaches.length ≤ 64 ∧ d.farms.length ≤ 600 := by unfold tooMany at ht; simp at ht; omega
  obtain ⟨f1, f2, f3, f4, f5, f6, f7⟩ := formB_iff.1 hf
  exact ⟨hh.symm, by omega, by omega, h4, t.1, t.2, hR, hF, by rw [hh]; exact f1, by rw [hh]; exact f2, by rw [hh]; exact f3, by rw [hh]; exact f4, by rw [hh]; exact f5, by rw [hh]; exact f6, by rw [hh]; exact f7⟩
end
end Go.Proofs.YtehcphboliofaaaGreatDoor

/- Layer 23: contract of right. -/
namespace Go.Proofs.YtehcphboliofaaaGreatDoor
open Go Go.RowKit

def tMv : Ty Mv := tFl 5 Mv.c fun _ => rfl
theorem flat_mvs {D : Nat → Prop} {w : World} : ∀ {l : List Mv}, FlatR tMv D w l (mvs l)
  | [] => rfl
  | m :: l => ⟨m.c, mvs l, rfl, rfl, flat_mvs⟩
theorem OwnF.mvs {w0 w : World} {A : Option Addr} {n c : Nat} {e : TypeId} {l : List Mv} (h : OwnF w0 w A n c e 5 (mvs l)) (hle : n ≤ 140737488355328) : SlR tMv AnyB w A n l :=
  h.own.rd flat_mvs (by have := h.own.len; rw [mvs_len] at this; omega) hle (fun _ _ => trivial)
theorem key2 : Key2 Tryz.prog 74 3 := ⟨by kernel_rfl, by kernel_rfl, by kernel_rfl, by kernel_rfl, fun _ _ _ _ => by kernel_rfl⟩
instance keyInt2 : KeyL Tryz.prog 74 kv2 := key2.law
abbrev tLL : Ty (List (List Int)) := tSl tInts
/-- A list of lists written out. -/
theorem NewB.two {D : Nat → Prop} {w w' : World} {e : TypeId} {g n1 c1 n2 c2 : Nat} {A1 A2 : Option Addr} {l1 l2 : List Int} (hb : NewB w e [.slice A1 n1 c1, .slice A2 n2 c2] g w') (h1 : SlR tInt D w A1 n1 l1) (h2 : SlR tInt D w A2 n2 l2) (e1 : n1 ≤ c1) (e2 : n2 ≤ c2) : SlR tInts AnyB w' (some (ad g 0)) 2 [l1, l2] :=
  SlR.of_cells rfl (by omega) trivial (.blk hb.blk) ⟨[.slice A1 n1 c1], [.slice A2 n2 c2], rfl, ⟨A1, n1, c1, rfl, (h1.ext hb.ext).more (by decide) fun _ _ _ => trivial, e1⟩, [.slice A2 n2 c2], [], rfl, ⟨A2, n2, c2, rfl, (h2.ext hb.ext).more (by decide) fun _ _ _ => trivial, e2⟩, rfl⟩
theorem arE {n : Int} {K : Value → Prop} (m : Int) (e : n = m) (h : -9223372036854775808 ≤ m ∧ m ≤ 9223372036854775807) (k : K (.int .i64 m)) : ArP .i64 n K := by subst e; exact arI h k
theorem okM_take {l : List Mv} (h : okM l) (k : Nat) : okM (l.take k) := fun m hm => h m (List.mem_of_mem_take hm)
section
variable {D : Nat → Prop} {w : World}
set_option maxRecDepth 4000 in
theorem c_bright {csd csx : List Value} {d : Dist} {x : Run} (hd : DiR D w csd d) (hx : RuR D w csx x) (hv : validB d = true) (ht : tooMany d = false) : CallZ Tryz.prog 78 #[.agg csd.toArray, .agg csx.toArray] w
    (fun v w' => v = .bool (rightB d x) ∧ Ext w w') := by
  have hd := hd.more (D' := fun b => b < w.heap.size) fun b hb _ => hb
  have hx := hx.more (D' := fun b => b < w.heap.size) fun b hb _ => hb
  obtain ⟨A1, n1, c1, A2, n2, c2, A3, n3, c3, A4, n4, c4, A5, n5, c5, A6, n6, c6, rfl, hr, hfa, hcr, hri, hdu, hwe⟩ := hd.ex
  obtain ⟨B1, m1, e1, B2, m2, e2, B3, m3, e3, B4, m4, e4, B5, m5, e5, B6, m6, e6, B7, m7, e7, rfl, i1, i2, i3, i4, i5, i6, i7, i8, i9⟩ := hx.ex
  have ln := hr.len
  have lf := hfa.len
  have k1 := i1.len
  have k2 := i2.len
  have k3 := i3.len
  have k4 := i4.len
  have k5 := i5.len
  have k6 := i6.len
  have k7 := i7.len
  refine fn_rule (args := [.agg #[.string d.name, iv d.hours, iv d.cap, iv d.start, .slice A1 n1 c1, .slice A2 n2 c2, .slice A3 n3 c3, .slice A4 n4 c4, .slice A5 n5 c5, .slice A6 n6 c6], .agg #[.slice B1 m1 e1, .slice B2 m2 e2, .slice B3 m3 e3, .slice B4 m4 e4, .slice B5 m5 e5, .slice B6 m6 e6, .slice B7 m7 e7]]) Tryz.func78 (by kernel_rfl) ?_
  refine box (fun bd w1 h1 => ?_)
  refine box (fun bx w2 h2 => ?_)
  refine alloc (fun q w3 h3 => ?_)
  have a1 := h1.at_
  have a2 := h2.at_
  have a3 := h3.at_
  have z1 := h1.size
  have z2 := h2.size
  have z3 := h3.size
  have x3 : Ext w w3 := (h1.ext.trans h2.ext).trans h3.ext
  have B_d : Blk w3 bd _ _ := (h1.blk.ext h2.ext).ext h3.ext
  have B_x : Blk w3 bx _ _ := h2.blk.ext h3.ext
  have B_q : Blk w3 q _ _ := h3.blk
  have m0 : ∀ u, Marks w3.heap.size [] u := fun _ => trivial
  -- a return of false
  have no : ∀ {F : Fr} {ds : List Deferred} {u : World} {K : VK}, F 4 = ptr q → Ext w3 u → Marks w3.heap.size ds u → rightB d x = false →
      (∀ w', RetP Tryz.prog [.cell 4 4] F ds (fun v w' => v = .bool (rightB d x) ∧ Ext w w') w' → K undef w') → StoreP Tryz.prog 4 (.pointer (some (ad q 0))) (.bool false) K u := fun {F ds u K} hF xu hm hb hK => by
    refine st1 (B_q.ext xu) rfl (fun u' q' k' => hK _ ?_)
    refine retMs (lo := w3.heap.size) (hm.kept k' (fun b h1 _ _ e => by omega)) (fun u'' k'' => ?_)
    show ResLP _ _ (F 4) _ _
    rw [hF]
    refine resL _ (holds_cell ((q'.kept k'' (by omega)).cell rfl)) ?_
    exact ⟨by rw [hb]; rfl, ((x3.trans xu).then k' fun b hb _ e => by omega).then k'' fun b hb _ => by omega⟩
  have noF : formB d x = false → rightB d x = false := fun h => by unfold rightB; rw [h]; rfl
  have fiff := formB_iff (d := d) (x := x)
  have noF' : ¬ (formB d x = true) → rightB d x = false := fun h => noF (Bool.eq_false_iff.2 h)
  refine fldA ?_
  refine ld (.slice B6 m6 e6) (B_x.cell rfl) ?_
  refine len ?_
  refine fldA ?_
  refine ld (.slice A2 n2 c2) (B_d.cell rfl) ?_
  refine len ?_
  refine cN (fun hg1 => ?_) (fun hg1 => ?_)
  · exact no rfl (.refl _ _) (m0 _) (noF' fun h => by have := (tabB_iff.1 (fiff.1 h).2.2.1).1; omega) fun _ h => h
  refine fldA ?_
  refine ld (iv d.hours) (B_d.cell rfl) ?_
  refine fldA ?_
  refine ld (.slice B1 m1 e1) (B_x.cell rfl) ?_
  refine fldA ?_
  refine ld (.slice B2 m2 e2) (B_x.cell rfl) ?_
  refine lit [.slice B1 m1 e1, .slice B2 m2 e2] (fun g4 w4 h4 => ?_)
  refine callE (c_formed (h := d.hours) (h4.two (i1.ext x3) (i2.ext x3) i8 i9)) (fun w5 f1 x5 => ?_) (fun w5 f1 x5 => ?_)
  rotate_left
  · exact no rfl (h4.ext.trans x5) (m0 _) (noF' fun h => by have h := fiff.1 h; rw [List.all_cons, List.all_cons, h.1, h.2.1] at f1; exact Bool.noConfusion f1) fun _ h => h
  have x35 := h4.ext.trans x5
  refine fldA ?_
  refine ld (iv d.hours) ((B_d.ext x35).cell rfl) ?_
  refine fldA ?_
  refine ld (.slice B6 m6 e6) ((B_x.ext x35).cell rfl) ?_
  refine callE (c_formed (h := d.hours) (i6.ext (x3.trans x35))) (fun w6 f2 x6 => ?_) (fun w6 f2 x6 => ?_)
  rotate_left
  · exact no rfl (x35.trans x6) (m0 _) (noF' fun h => by have h := (tabB_iff.1 (fiff.1 h).2.2.1).2; rw [List.all_eq_true.2 h] at f2; exact Bool.noConfusion f2) fun _ h => h
  have x36 := x35.trans x6
  simp only [List.all_cons, List.all_nil, Bool.and_true, Bool.and_eq_true] at f1
  have fT : tabB d.farms.length d.hours x.taken = true := tabB_iff.2 ⟨by omega, List.all_eq_true.1 f2⟩
  refine fldA ?_
  refine ld (.slice B3 m3 e3) ((B_x.ext x36).cell rfl) ?_
  refine fldA ?_
  refine ld (.slice B4 m4 e4) ((B_x.ext x36).cell rfl) ?_
  refine fldA ?_
  refine ld (.slice B5 m5 e5) ((B_x.ext x36).cell rfl) ?_
  refine fldA ?_
  refine ld (.slice B7 m7 e7) ((B_x.ext x36).cell rfl) ?_
  refine lit [.slice B3 m3 e3, .slice B4 m4 e4, .slice B5 m5 e5, .slice B7 m7 e7] (fun g7 w7 h7 => ?_)
  refine len ?_
  have x37 := x36.trans h7.ext
  have T4 : ∀ k : Nat, k < 4 → ∃ A n c l, ([Value.slice B3 m3 e3, .slice B4 m4 e4, .slice B5 m5 e5, .slice B7 m7 e7] : List Value)[k]? = some (.slice A n c) ∧ [x.inn, x.evap, x.seep, x.tail][k]? = some l ∧ SlR tInts (fun b => b < w.heap.size) w A n l := fun k hk => by
    match k, hk with
    | 0, _ => exact ⟨B3, m3, e3, _, rfl, rfl, i3⟩
    | 1, _ => exact ⟨B4, m4, e4, _, rfl, rfl, i4⟩
    | 2, _ => exact ⟨B5, m5, e5, _, rfl, rfl, i5⟩
    | 3, _ => exact ⟨B7, m7, e7, _, rfl, rfl, i7⟩
  have t4iff : formB d x = true ↔ ([x.inn, x.evap, x.seep, x.tail].all (tabB d.reaches.length d.hours)) = true := by
    rw [fiff]
    simp only [List.all_cons, List.all_nil, Bool.and_true, Bool.and_eq_true]
    exact ⟨fun h => h.2.2.2, fun h => ⟨f1.1, f1.2, fT, h⟩⟩
  -- the four tables
  refine loop_rule (fun k : Nat => [(54, iv (k : Int))]) (fun k u => k ≤ 4 ∧ Ext w7 u ∧ ([x.inn, x.evap, x.seep, x.tail].all (tabB d.reaches.length d.hours)) = (([x.inn, x.evap, x.seep, x.tail].drop k).all (tabB d.reaches.length d.hours))) (fun k _ => 4 - k) 0 ⟨rfl, trivial⟩ ⟨by omega, .refl _ _, rfl⟩ rfl ?_
  rintro G k u ⟨hk, xu, he⟩
  refine cD (fun hlt => ?_) (fun hge => ?_)
  · have hlt : k < 4 := by omega
    obtain ⟨A, n, c, l, hc, hl, hs⟩ := T4 k hlt
    have hll := hs.len
    have hdr : [x.inn, x.evap, x.seep, x.tail].drop k = l :: [x.inn, x.evap, x.seep, x.tail].drop (k + 1) := by
      obtain ⟨h1, h2⟩ := List.getElem?_eq_some_iff.1 hl
      rw [List.drop_eq_getElem_cons h1, h2]
    have he := he.trans (show _ = (tabB d.reaches.length d.hours l && ([x.inn, x.evap, x.seep, x.tail].drop (k + 1)).all (tabB d.reaches.length d.hours)) from by rw [hdr, List.all_cons])
    have bad : ∀ {u'}, Ext w7 u' → tabB d.reaches.length d.hours l = false → rightB d x = false := fun _ h => noF' fun h' => by rw [t4iff, he, h] at h'; exact Bool.noConfusion h'
    refine idx k rfl (by omega) ?_
    refine ld (.slice A n c) ((h7.blk.ext xu).cell (by rw [Nat.zero_add, Nat.mul_one]; exact hc)) ?_
    refine len ?_
    refine fldA ?_
    refine ld (.slice A1 n1 c1) ((B_d.ext (x37.trans xu)).cell rfl) ?_
    refine len ?_
    refine cN (fun hg2 => ?_) (fun hg2 => ?_)
    · exact no rfl (x37.trans xu) (m0 _) (bad xu (Bool.eq_false_iff.2 fun h => by have := (tabB_iff.1 h).1; omega)) fun _ h => h
    refine fldA ?_
    refine ld (iv d.hours) ((B_d.ext (x37.trans xu)).cell rfl) ?_
    refine callE (c_formed (h := d.hours) (hs.ext (x3.trans (x37.trans xu)))) (fun u2 f3 x2 => ?_) (fun u2 f3 x2 => ?_)
    · refine arI (by omega) ?_
      refine next (k + 1) ⟨by rw [Int.natCast_add]; rfl, trivial⟩ ⟨by omega, xu.trans x2, ?_⟩ (by omega)
      rw [he, tabB_iff.2 ⟨by omega, List.all_eq_true.1 f3⟩]; rfl
    · exact no rfl ((x37.trans xu).trans x2) (m0 _) (bad (xu.trans x2) (Bool.eq_false_iff.2 fun h => by have := (tabB_iff.1 h).2; rw [List.all_eq_true.2 this] at f3; exact Bool.noConfusion f3)) fun _ h => h
  have hk4 : k = 4 := by omega
  subst hk4
  have hF : formB d x = true := t4iff.2 he
  have hf := Fm.of hv ht hF
  generalize hH : d.hours.toNat = H at hf
  have hHi := hf.hours
  have hH1 := hf.h1
  have hH2 := hf.h2
  have hnr := hf.nr
  have hnr' := hf.nr'
  have hnf := hf.nf
  have x38 := x37.trans xu
  clear he hge xu hk T4 t4iff
  have riff : rightB d x = true ↔ RightP d x H := by rw [rightB_iff, hH]; exact ⟨fun h => h.2, fun h => ⟨hF, h⟩⟩
  have noR : ¬ RightP d x H → rightB d x = false := fun h => Bool.eq_false_iff.2 fun e => h (riff.1 e)
  refine fldA ?_
  refine ld (.slice A1 n1 c1) ((B_d.ext x38).cell rfl) ?_
  refine len ?_
  -- what is lost
  refine loop_rule (fun i : Nat => [(75, iv (i : Int))]) (fun i v => i ≤ n1 ∧ Ext u v ∧ ∀ i' k, i' < i → k < H → admB (rch d i') (g2 x.inn i' k) (g2 x.evap i' k) (g2 x.seep i' k) = true) (fun i _ => n1 - i) 0 ⟨rfl, trivial⟩ ⟨by omega, .refl _ _, fun i' k h => absurd h (Nat.not_lt_zero _)⟩ rfl ?_
  rintro G2 i v ⟨hi, xv, hadm⟩
  refine cD (fun hlt => ?_) (fun hge => ?_)
  · have hlt : i < n1 := by omega
    have hin : i < d.reaches.length := by omega
    obtain ⟨b, o, cs, r, rfl, hrx, -, -, hc, rfl⟩ := (hr.ext (x3.trans (x38.trans xv))).at_ hlt
    have hrr := rch_eq hrx
    obtain ⟨-, hlo, -, -⟩ := hf.at_ hrx
    refine idx i rfl hlt ?_
    refine ldA r.c hc rfl ?_
    refine alloc (fun t v1 g1' => ?_)
    refine stA (vs := r.c) g1'.blk rfl (Nat.le_of_ble_eq_true rfl) (by simp [Value.oneCell']) (fun v2 tb s2 zv2 => ?_)
    have t1 := g1'.at_
    have xv2 : Ext v v2 := g1'.ext.then s2 fun b hb _ e => by omega
    have xa : Ext w3 v2 := x38.trans (xv.trans xv2)
    obtain ⟨f3, p3, R3, s3, u3, hA3, cc3, r3, -⟩ := row_at (i3.ext (x3.trans xa)) (i := i) (by have := (tabB_iff.1 hf.inn).1; omega)
    have q3 := r3.len
    have n3' := numB_iff.1 (tab_row hf.inn hin).2
    subst hA3
    refine fldA ?_
    refine ld _ ((B_x.ext xa).cell rfl) ?_
    refine idx i rfl (by have := (tabB_iff.1 hf.inn).1; omega) ?_
    refine ld _ cc3 ?_
    refine len ?_
    refine loop_rule (fun k : Nat => [(86, iv (k : Int))]) (fun k v' => k ≤ s3 ∧ Ext v2 v' ∧ ∀ k', k' < k → admB r (g2 x.inn i k') (g2 x.evap i k') (g2 x.seep i k') = true) (fun k _ => s3 - k) 0 ⟨rfl, trivial⟩ ⟨by omega, .refl _ _, fun k h => absurd h (Nat.not_lt_zero _)⟩ rfl ?_
    rintro G3 k v' ⟨hk, xv', hadm'⟩
    refine cD (fun hlt2 => ?_) (fun hge2 => ?_)
    · have hlt2 : k < s3 := by omega
      have hkH : k < H := by omega
      have xb := xa.trans xv'
      obtain ⟨va, vb, rfl, v3⟩ := num_at (r3.ext xv') (k := k) hlt2
      obtain ⟨f4, p4, R4, s4, u4, hA4, cc4, r4, -⟩ := row_at (i4.ext (x3.trans xb)) (i := i) (by have := (tabB_iff.1 hf.evap).1; omega)
      obtain ⟨f5, p5, R5, s5, u5, hA5, cc5, r5, -⟩ := row_at (i5.ext (x3.trans xb)) (i := i) (by have := (tabB_iff.1 hf.seep).1; omega)
      have q4 := r4.len
      have q5 := r5.len
      have n4' := numB_iff.1 (tab_row hf.evap hin).2
      have n5' := numB_iff.1 (tab_row hf.seep hin).2
      obtain ⟨wa, wb, rfl, v4⟩ := num_at r4 (k := k) (by omega)
      obtain ⟨ya, yb, rfl, v5⟩ := num_at r5 (k := k) (by omega)
      subst hA4
      subst hA5
      refine idx k rfl (by omega) ?_
      refine ld _ v3 ?_
      refine drawX [0, 1, 2, 3, 4, 5, 6, 7, 8, 9, 10, 11, 12, 13, 14, 15, 16, 17, 18, 19] [18] mx (by kernel_rfl) ?_
      refine ldAX r.c (.blk (tb.ext xv')) rfl (.refl _ _) ?_
      refine fldA ?_
      refine ldX _ ((B_x.ext xb).cell rfl) (.refl _ _) ?_
      refine idx i rfl (by have := (tabB_iff.1 hf.evap).1; omega) ?_
      refine ldX _ cc4 (.refl _ _) ?_
      refine idx k rfl (by omega) ?_
      refine ldX _ v4 (.refl _ _) ?_
      refine fldA ?_
      refine ldX _ ((B_x.ext xb).cell rfl) (.refl _ _) ?_
      refine idx i rfl (by have := (tabB_iff.1 hf.seep).1; omega) ?_
      refine ldX _ cc5 (.refl _ _) ?_
      refine idx k rfl (by omega) ?_
      refine ldX _ v5 (.refl _ _) ?_
      refine callE (c_adm (r := r) (v := g2 x.inn i k) (e := g2 x.evap i k) (s := g2 x.seep i k) hlo (tab_val hf.inn hin hkH) (tab_val hf.evap hin hkH) (tab_val hf.seep hin hkH)) (fun v9 ha x9 => ?_) (fun v9 ha x9 => ?_)
      · refine strS x9 ?_
        refine arI (by omega) ?_
        refine next (k + 1) ⟨by rw [Int.natCast_add]; rfl, trivial⟩ ⟨by omega, xv'.trans x9, fun k' hk' => ?_⟩ (by omega)
        by_cases e : k' = k
        · subst e; exact ha
        · exact hadm' k' (by omega)
      · refine strS x9 ?_
        exact no rfl (xb.trans x9) (m0 _) (noR fun h => by have := h.adm i k hin hkH; rw [hrr, ha] at this; exact Bool.noConfusion this) fun _ h => h
    · refine arI (by have := hr.le; omega) ?_
      refine next (i + 1) ⟨by rw [Int.natCast_add]; rfl, trivial⟩ ⟨by omega, xv.trans (xv2.trans xv'), fun i' k' hi' hk' => ?_⟩ (by omega)
      by_cases e : i' = i
      · subst e; rw [hrr]; exact hadm' k' (by omega)
      · exact hadm i' k' (by omega) hk'
  have hadmA : ∀ i k, i < d.reaches.length → k < H → admB (rch d i) (g2 x.inn i k) (g2 x.evap i k) (g2 x.seep i k) = true := fun i' k h1 h2 => hadm i' k (by omega) h2
  clear hadm hge hi
  have xv8 := x38.trans xv
  refine fldA ?_
  refine fldA ?_
  refine ld (iv d.start) ((B_d.ext xv8).cell rfl) ?_
  refine fldA ?_
  refine ld (iv d.hours) ((B_d.ext xv8).cell rfl) ?_
  rw [hHi]
  have hhd := headOk_iff.1 (validB_iff.1 hv).1
  refine loopD (fun (k : Nat) (s : Int) => [(118, iv (k : Int)), (11, iv s)]) (fun k s ds u => k ≤ H ∧ Ext v u ∧ s = storeN d x k ∧ Marks w3.heap.size ds u ∧ (0 ≤ s ∧ s ≤ d.cap) ∧ ∀ h, h < k → (0 ≤ storeN d x (h + 1) ∧ storeN d x (h + 1) ≤ d.cap) ∧ ∀ i, i < d.reaches.length → balI d x i h = true) (fun k _ _ => H - k) 0 d.start ⟨rfl, rfl, trivial⟩
    ⟨by omega, .refl _ _, rfl, trivial, by omega, fun h hh => absurd hh (Nat.not_lt_zero _)⟩ ?_
  rintro G4 k s ds u ⟨hk, xu, hs, hm, hsb, hall⟩
  refine cD (fun hlt => ?_) (fun hge => ?_)
  · have hkH : k < H := by omega
    have xa := xv8.trans xu
    have xw := x3.trans xa
    obtain ⟨fa, fb, rfl, v1⟩ := num_at (i1.ext xw) (k := k) (by have := (numB_iff.1 hf.inflow).1; omega)
    obtain ⟨ga, gb, rfl, v2⟩ := num_at (i2.ext xw) (k := k) (by have := (numB_iff.1 hf.spill).1; omega)
    obtain ⟨f3, p3, R3, s3, u3, hA3, cc3, r3, -⟩ := row_at (i3.ext xw) (i := 0) (by have := (tabB_iff.1 hf.inn).1; omega)
    have q3 := r3.len
    have n3' := numB_iff.1 (tab_row hf.inn hnr).2
    obtain ⟨ya, yb, rfl, v3⟩ := num_at r3 (k := k) (by omega)
    subst hA3
    have b1 := (num_val hf.inflow hkH).2
    have b2 := (num_val hf.spill hkH).2
    have b3 := tab_val hf.inn hnr hkH
    refine drawX [0, 1, 2, 3, 4, 5, 6, 7, 8, 9, 10, 11, 12, 13, 14, 15, 16, 17, 18, 19, 20, 21, 22] [18, 19] mx (by kernel_rfl) ?_
    refine fldA ?_
    refine ldX _ ((B_x.ext xa).cell rfl) (.refl _ _) ?_
    refine idx k rfl (by have := (numB_iff.1 hf.inflow).1; omega) ?_
    refine ldX _ v1 (.refl _ _) ?_
    refine fldA ?_
    refine ldX _ ((B_x.ext xa).cell rfl) (.refl _ _) ?_
    refine idx k rfl (by have := (numB_iff.1 hf.spill).1; omega) ?_
    refine ldX _ v2 (.refl _ _) ?_
    refine fldA ?_
    refine ldX _ ((B_x.ext xa).cell rfl) (.refl _ _) ?_
    refine idx 0 rfl (by have := (tabB_iff.1 hf.inn).1; omega) ?_
    refine ldX _ cc3 (.refl _ _) ?_
    refine idx k rfl (by omega) ?_
    refine ldX _ v3 (.refl _ _) ?_
    refine lit [iv (g1 x.spill k), iv (g2 x.inn 0 k)] (fun gl u1 hl1 => ?_)
    refine strS hl1.ext ?_
    have hsl : SlR tInt (fun _ => True) u1 (some (ad gl 0)) 2 [g1 x.spill k, g2 x.inn 0 k] := SlR.of_cells rfl (by omega) trivial (.blk hl1.blk) (flat_ints (xs := [g1 x.spill k, g2 x.inn 0 k]) fun y hy => by
      simp only [List.mem_cons, List.not_mem_nil, or_false] at hy
      unfold I64
      rcases hy with rfl | rfl <;> omega)
    refine call_of (c_total hsl (fun y hy => by
      simp only [List.mem_cons, List.not_mem_nil, or_false] at hy
      rcases hy with rfl | rfl
      · exact b2
      · exact b3) (by omega)) ?_
    rintro _ u1' ⟨rfl, hu1⟩
    rw [hu1]
    clear hu1 u1'
    refine strS hl1.ext ?_
    have hsum : [g1 x.spill k, g2 x.inn 0 k].sum = g1 x.spill k + g2 x.inn 0 k := by simp
    refine arE (g1 x.inflow k - (g1 x.spill k + g2 x.inn 0 k)) (by rw [hsum]) (by omega) ?_
    have hcap := hhd.2.2.1
    refine arE (storeN d x (k + 1)) (by rw [hs]; show _ = storeN d x k + g1 x.inflow k - g1 x.spill k - g2 x.inn 0 k; omega) (by
      show _ ≤ storeN d x k + g1 x.inflow k - g1 x.spill k - g2 x.inn 0 k ∧ storeN d x k + g1 x.inflow k - g1 x.spill k - g2 x.inn 0 k ≤ _
      omega) ?_
    have xb := xa.trans hl1.ext
    refine cD (fun g1' => ?_) (fun g1' => ?_)
    · exact no rfl xb (hm.ext hl1.ext) (noR fun h => by have := h.sto k hkH; omega) fun _ h => h
    refine fldA ?_
    refine fldA ?_
    refine ld (iv d.cap) ((B_d.ext xb).cell rfl) ?_
    refine cD (fun g2' => ?_) (fun g2' => ?_)
    · exact no rfl xb (hm.ext hl1.ext) (noR fun h => by have := h.sto k hkH; omega) fun _ h => h
    -- the map
    refine mmap (fun gm u2 hgm hu2 => ?_)
    have xm : Ext u1 u2 := by rw [hu2]; exact Kept.alloc _ _ _
    have M2 : MapG kv2 u2 gm (fun _ => none) := by rw [hu2, hgm]; exact MapG.new kv2 u1
    refine alloc (fun gv u3' h3' => ?_)
    refine st1 h3'.blk rfl (fun u4 V4 k4' => ?_)
    have y1 := h3'.at_
    have y2 := xm.size
    have y3 := h3'.size
    have y4 := k4'.size
    have x34 : Ext u2 u4 := h3'.ext.then k4' fun b hb _ e => by omega
    have M4 := M2.kept x34 trivial
    have xc := (xb.trans xm).trans x34
    have hgml : gm < u2.heap.size := M2.lt
    refine ldA _ (.blk (B_d.ext xc)) rfl ?_
    refine ldA _ (.blk (B_x.ext xc)) rfl ?_
    refine call_of (c_moves (hd.ext (x3.trans xc)) (hx.ext (x3.trans xc)) hf hkH) ?_
    rintro _ u5 ⟨Am, nm, cm, rfl, om⟩
    have x45 := om.ext
    have M5 := M4.kept x45 trivial
    have V5 := V4.ext x45
    have hml := om.own.len
    rw [mvs_len] at hml
    have hmb := prefL_len (d := d) (x := x) (hour := k) hnr' hnf d.reaches.length
    have hmb : (movesL d x k).length ≤ 42691 := Nat.le_trans hmb (by omega)
    have y34 := x34.size
    have y0 := xb.size
    have y45 := x45.size
    have hgm5 : gm ≠ gv := by omega
    have hgmq : q ≠ gm := by omega
    have sm : SlR tMv (fun b => b ≠ gm) u5 Am nm (movesL d x k) := om.own.rd flat_mvs (by omega) (by omega) (fun g hg e => by have := om.new g hg; omega)
    have okm := hf.okMoves hkH
    refine len ?_
    refine loop_rule (fun j : Nat => [(158, iv (j : Int))]) (fun j v' => j ≤ nm ∧ Kept (fun b => b ≠ gm) u5 v' ∧ ∃ f, MapG kv2 v' gm f ∧ ∀ key, (f key).getD (iv 0) = iv (outN ((movesL d x k).take j) key)) (fun j _ => nm - j) 0 ⟨rfl, trivial⟩ ⟨by omega, .refl _ _, _, M5, fun key => rfl⟩ rfl ?_
    rintro G5 j v' ⟨hj, kv', f, Mf, hfv⟩
    refine cD (fun hltj => ?_) (fun hgej => ?_)
    · have hltj : j < nm := by omega
      obtain ⟨b, o, cs, m, rfl, hmj, -, -, hc', rfl⟩ := (sm.kept kv' fun b _ hb => hb).at_ hltj
      have hml2 := okm m (List.mem_of_getElem? hmj)
      refine idx j rfl hltj ?_
      refine ldA m.c hc' rfl ?_
      refine alloc (fun t v1' h1'' => ?_)
      refine stA (vs := m.c) h1''.blk rfl (Nat.le_of_ble_eq_true rfl) (by simp [Value.oneCell']) (fun v2' tb s2 zs => ?_)
      have t1 := h1''.at_
      have hgml2 := Mf.lt
      have xv2 : Ext v' v2' := h1''.ext.then s2 fun b hb _ e => by omega
      have htg : t ≠ gm := by omega
      have kv2' := kv'.ext xv2
      have Vv := V5.kept kv2' (Ne.symm hgm5)
      have Mf2 := Mf.kept xv2 trivial
      have hold := outN_le (okM_take okm j) m.frm
      have hlt' : ((movesL d x k).take j).length ≤ 42691 := Nat.le_trans (List.length_take_le _ _) (by omega)
      refine drawP (.take 0 (.take 1 (.take 2 (.take 3 (.take 4 (.take 5 (.take 6 (.eff 7 (.take 8 (.bar (.eff 9 .done))))))))))) [9] (fun y => Kept (fun b => b ≠ gm) v2' y ∧ ∃ f', MapG kv2 y gm f' ∧ (f' m.frm).getD (iv 0) = iv (outN ((movesL d x k).take j) m.frm)) mx (by kernel_rfl) ⟨.refl _ _, f, Mf2, hfv _⟩ ?_
      refine ldS (.map (some gm)) (fun y hy => hy.1.cell (Vv.cell rfl) (Ne.symm hgm5)) ?_
      refine fldA ?_
      refine ldAS [iv m.frm.1, iv m.frm.2] (fun y hy => ((CellsAt.blk tb).mid 0 2).kept hy.1 htg) rfl ?_
      refine lookG1 (kv := kv2) m.frm (iv (outN ((movesL d x k).take j) m.frm)) (fun y hy => hy.2) ?_
      refine fldA ?_
      refine ldS (iv m.litres) (fun y hy => hy.1.cell (tb.cell rfl) htg) ?_
      refine arI (by omega) ?_
      refine mentG (kv := kv2) m.frm Mf2 (fun y s' MS ks zs' => ?_)
      refine strS ⟨ks, _, MS.g, ?_⟩ ?_
      · unfold pset; rw [if_pos rfl]; exact hfv _
      refine barS (fun _ => True) trivial ?_
      refine estoG MS (fun y2 M' ks2 zs2 => ?_)
      refine strS trivial ?_
      refine arI (by omega) ?_
      refine next (j + 1) ⟨by rw [Int.natCast_add]; rfl, trivial⟩ ⟨by omega, (kv2'.trans ks).trans ks2, _, M', fun key => ?_⟩ (by omega)
      have htk : (movesL d x k).take (j + 1) = (movesL d x k).take j ++ [m] := by rw [List.take_add_one, hmj]; rfl
      rw [htk, outN_app, outN_one]
      unfold pset
      by_cases hkey : key = m.frm
      · subst hkey; rw [if_pos rfl, if_pos rfl]; rfl
      · rw [if_neg hkey, if_neg hkey, if_neg (fun e => hkey e.symm), hfv, Int.add_zero]
    have hjn : j = (movesL d x k).length := by omega
    rw [hjn, List.take_length] at hfv
    clear hgej
    have xd : Ext w3 v' := (xc.trans x45).then kv' fun b hb _ e => by omega
    have Vv := V5.kept kv' (Ne.symm hgm5)
    refine ldA _ (.blk (B_d.ext xd)) rfl ?_
    refine ldA _ (.blk (B_x.ext xd)) rfl ?_
    refine call_of (c_arriving (hour := k) (hd.ext (x3.trans xd)) (hx.ext (x3.trans xd))) ?_
    rintro _ w11 ⟨bd', bh', bx', rfl, x11, E11, y11, y12, y13, y14, y15, y16⟩
    have hvs := xd.size
    have hv11 := x11.size
    have hgv11 := Vv.lt
    refine range (gf := 197) (lb := #[ptr bd', ptr bh', ptr bx']) rfl (fun fn tmps w12 R hR hF' hwf x12 z12 hD12 hl12 => ?_)
    show CallZ _ _ #[.func (.yield (w11.heap.size + 1)) #[] #[], ptr bd', ptr bh', ptr bx'] w12 _
    have x1112 := x11.trans x12
    have V12 := Vv.ext x1112
    have M12 := Mf.kept x1112 trivial
    have hgm12 := Mf.lt
    refine (c_arr1 (D := fun b => b < w.heap.size) (csd := _) (csx := _) (H := H) (fun i y => Kept (fun b => b ≠ w11.heap.size + 1) w12 y ∧ LoopAt y (w11.heap.size + 1) R ∧ ∀ i', i' < i → balI d x i' k = true)
      (fun y => ∃ r, LoopAt y (w11.heap.size + 1) r ∧ r.state ≠ .busy ∧ r.pending = some .ret ∧ Kept (fun b => b ≠ w11.heap.size + 1 ∧ b ≠ q) w12 y ∧ Blk y q 4 [.bool false] ∧ rightB d x = false)
      (fun i y hj => (E11.ext x12).kept hj.1 (by omega) (by omega) (by omega) fun b _ hb => by omega)
      (fun i y y' hj xx => ⟨hj.1.ext xx, hj.2.1.kept xx trivial, hj.2.2⟩) hf hkH ?_ ⟨.refl _ _, hl12, fun i' h => absurd h (Nat.not_lt_zero _)⟩).mono ?_
    · rintro i y hi ⟨ky, ly, hbal⟩
      have hys := ky.size
      subst hR
      refine yield_rule (args := [iv (i : Int), pv (parc d x k i)]) ly rfl rfl hF' hwf ?_
      refine alloc (fun p y1' g1' => ?_)
      refine stA (vs := [iv (parc d x k i).1, iv (parc d x k i).2.1, iv (parc d x k i).2.2]) g1'.blk rfl (Nat.le_of_ble_eq_true rfl) (by simp [Value.oneCell']) (fun y2' pb2 s2 zu2 => ?_)
      have p1 := g1'.at_
      have xy2 : Ext y y2' := g1'.ext.then s2 fun b hb _ e => by omega
      refine mid' (ly.kept xy2 trivial) (fun y3' s3' zs3 ly3 => ?_)
      have ky3 : Kept (fun b => b ≠ w11.heap.size + 1) w12 y3' := (ky.ext xy2).then s3' fun b _ h => h
      have hpL : p ≠ w11.heap.size + 1 := by omega
      have pb3 := pb2.kept s3' hpL
      have V3 := V12.kept ky3 (by omega)
      have Mf3 := M12.kept ky3 (by omega)
      refine drawQ mx (by kernel_rfl) ?_
      refine ld _ (V3.cell rfl) ?_
      refine bld [iv 2, iv (i : Int)] (by kernel_rfl) ?_
      refine lookG1 (kv := kv2) (2, (i : Int)) (iv (outN (movesL d x k) (2, (i : Int)))) (fun y hy => ⟨f, by rw [hy]; exact Mf3, hfv _⟩) ?_
      refine fldA ?_
      refine ld (iv (parc d x k i).1) (pb3.cell rfl) ?_
      have hout := out_moves (d := d) (x := x) (hour := k) hi
      refine cN (fun hne => ?_) (fun heq => ?_)
      · have hbf : rightB d x = false := noR fun h => by
          have := h.bal i k hi hkH
          unfold balI at this
          rw [decide_eq_true_eq] at this
          omega
        refine st1 ((B_q.ext (xd.trans x1112)).kept ky3 (by omega)) rfl (fun y4' q4 s4 => ?_)
        refine roundR' _ (ly3.kept s4 (by omega)) (fun y5' s5 l5 => ?_)
        refine .inr ⟨rfl, _, l5, by simp, rfl, ?_, q4.kept s5 (by omega), hbf⟩
        exact ((ky3.weak fun b _ h => h.1).trans (s4.weak fun b _ h => h.2)).trans (s5.weak fun b _ h => h.1)
      · refine roundN' _ ly3 (fun y4' s4 l4 => ?_)
        refine .inl ⟨rfl, ky3.then s4 (fun b _ h => h), l4, fun i' hi' => ?_⟩
        by_cases e : i' = i
        · subst e; unfold balI; rw [decide_eq_true_eq]; omega
        · exact hbal i' (by omega)
    · rintro _ y (⟨ky, ly, hbal⟩ | ⟨r, ly, hr1, hr2, ky, qy, hbf⟩)
      · subst hR
        refine range_end _ ly (by simp) (fun y1' s1' => ?_)
        have ky1 : Kept (fun b => b ≠ w11.heap.size + 1) w12 y1' := ky.then s1' fun b _ h => h
        have xn : Ext u y1' := ((((hl1.ext.trans xm).trans x34).trans x45).then kv' fun b hb _ e => by have := hl1.size; omega).trans (x1112.then ky1 fun b hb _ e => by omega)
        have hD1 : y1'.heap[w11.heap.size]? = some (.deferred (some [])) := (ky1.blk _ (by omega) (by omega)).trans hD12
        refine arI (by omega) ?_
        have hxs : u.heap.size ≤ w11.heap.size := by have := xm.size; have := hl1.size; have := x45.size; have := kv'.size; omega
        refine nextD (k + 1) (storeN d x (k + 1)) ⟨by rw [Int.natCast_add]; rfl, rfl, trivial⟩ ⟨by omega, xu.trans xn, rfl, hm.add xn hxs (by omega) hD1, by omega, fun h hh => ?_⟩ (by omega)
        by_cases e : h = k
        · subst e; exact ⟨by omega, hbal⟩
        · exact hall h (by omega)
      · refine range_end r ly hr1 (fun y1' s1' => ?_)
        rw [hr2]
        have ky1 : Kept (fun b => b ≠ w11.heap.size + 1 ∧ b ≠ q) w12 y1' := ky.then s1' fun b _ h => h.1
        have hD1 : y1'.heap[w11.heap.size]? = some (.deferred (some [])) := (ky1.blk _ (by omega) ⟨by omega, by omega⟩).trans hD12
        have hxs : u.heap.size ≤ w11.heap.size := by have := xm.size; have := hl1.size; have := x45.size; have := kv'.size; omega
        have xn0 : Ext u w12 := ((((hl1.ext.trans xm).trans x34).trans x45).then kv' fun b hb _ e => by have := hl1.size; omega).trans x1112
        have m12 := hm.add (b := w11.heap.size) xn0 hxs (by omega) hD12
        have m13 := m12.kept ky1 (fun b hb hbl hob => ⟨(fun e => by subst e; rw [hl12] at hob; cases hob), by omega⟩)
        refine retMs m13 (fun y2' k2' => ?_)
        refine resL _ (holds_cell (((qy.kept s1' (by omega)).kept k2' (by omega)).cell rfl)) ?_
        refine ⟨by rw [hbf]; rfl, ?_⟩
        exact (((x3.trans (xd.trans x1112)).then ky1 fun b hb _ => ⟨by omega, by omega⟩).then k2' fun b hb _ => by omega)
  · refine st1 (B_q.ext (xv8.trans xu)) rfl (fun u' q' k' => ?_)
    refine retMs (lo := w3.heap.size) (hm.kept k' (fun b h1 _ _ e => by omega)) (fun u'' k'' => ?_)
    refine resL _ (holds_cell ((q'.kept k'' (by omega)).cell rfl)) ?_
    have hkH : k = H := by omega
    subst hkH
    refine ⟨by rw [riff.2 ⟨hadmA, fun i h h1 h2 => (hall h h2).2 i h1, fun h h1 => (hall h h1).1⟩]; rfl, ?_⟩
    exact (((x3.trans (xv8.trans xu)).then k' fun b hb _ e => by omega).then k'' fun b hb _ => by omega)
end
end Go.Proofs.YtehcphboliofaaaGreatDoor

/- Layer 23: contracts of Check and Store. -/
namespace Go.Proofs.YtehcphboliofaaaGreatDoor
open Go Go.RowKit

def wide (d : Dist) : Bool := decide ((d.reaches.length : Int) * d.hours > 1024) || decide ((d.farms.length : Int) * d.hours > 4096)
def bErr (d : Dist) (x : Run) : Int := if dErr d ≠ 0 then dErr d else if wide d then 2 else if rightB d x then 0 else 230
theorem dErr_ok {d : Dist} : dErr d = 0 ↔ tooMany d = false ∧ validB d = true := by unfold dErr; cases tooMany d <;> cases validB d <;> simp
theorem bErr_ok {d : Dist} {x : Run} : bErr d x = 0 ↔ (tooMany d = false ∧ validB d = true) ∧ wide d = false ∧ rightB d x = true := by
  rw [← dErr_ok]; unfold bErr
  by_cases h : dErr d = 0
  · rw [if_neg (by simpa using h)]; cases wide d <;> cases rightB d x <;> simp [h]
  · rw [if_pos h]; simp [h]
theorem valid_bounds {d : Dist} (ht : tooMany d = false) (hv : validB d = true) : (d.reaches.length ≤ 64 ∧ d.farms.length ≤ 600) ∧ 1 ≤ d.hours ∧ d.hours ≤ 4096 := by
  have h1 := (headOk_iff.1 (validB_iff.1 hv).1).1
  unfold tooMany at ht; simp at ht; omega
/-- What a right run of a valid district gives. -/
theorem bErr_fm {d : Dist} {x : Run} (h : bErr d x = 0) : Fm d x d.hours.toNat ∧ RightP d x d.hours.toNat := by
  obtain ⟨⟨h1, h2⟩, -, h4⟩ := bErr_ok.1 h
  obtain ⟨h5, h6⟩ := rightB_iff.1 h4
  exact ⟨Fm.of h2 h1 h5, h6⟩
def storeV (d : Dist) (x : Run) (hour : Int) : Int × Int := if bErr d x ≠ 0 then (0, bErr d x) else if hour < 0 ∨ hour > d.hours then (0, 1) else (storeN d x hour.toNat, 0)
theorem sum_take {l : List Int} {k : Nat} (h : k < l.length) : (l.take (k + 1)).sum = (l.take k).sum + g1 l k := by
  have : l[k]? = some l[k] := List.getElem?_eq_getElem h
  have e : g1 l k = l[k] := by unfold g1; rw [List.getD_eq_getElem?_getD, this]; rfl
  rw [List.take_add_one, this, List.sum_append, e]; simp
theorem store_sums {d : Dist} {x : Run} {H : Nat} (hf : Fm d x H) : ∀ k, k ≤ H → storeN d x k = d.start + (x.inflow.take k).sum - (x.spill.take k).sum - ((x.inn.getD 0 []).take k).sum
  | 0, _ => by simp [storeN]
  | k + 1, hk => by
    have h1 := (numB_iff.1 hf.inflow).1
    have h2 := (numB_iff.1 hf.spill).1
    have h3 := (numB_iff.1 (tab_row hf.inn hf.nr).2).1
    rw [sum_take (by omega), sum_take (by omega), sum_take (by omega)]
    show storeN d x k + g1 x.inflow k - g1 x.spill k - g2 x.inn 0 k = _
    rw [store_sums hf k (by omega)]
    unfold g2
    omega
theorem sum_bound : ∀ {l : List Int}, (∀ x ∈ l, 0 ≤ x ∧ x ≤ 1073741824) → 0 ≤ l.sum ∧ l.sum ≤ l.length * 1073741824
  | [], _ => by simp
  | x :: l, h => by
    have h1 := h x List.mem_cons_self
    have h2 := sum_bound (l := l) fun y hy => h y (List.mem_cons_of_mem _ hy)
    rw [List.sum_cons, List.length_cons]; omega
section
variable {D : Nat → Prop} {w : World}
theorem c_bCheck {csd csx : List Value} {d : Dist} {x : Run} (hd : DiR D w csd d) (hx : RuR D w csx x) : CallZ Tryz.prog 36 #[.agg csd.toArray, .agg csx.toArray] w
    (fun v w' => v = iv (bErr d x) ∧ Ext w w') := by
  obtain ⟨A1, n1, c1, A2, n2, c2, A3, n3, c3, A4, n4, c4, A5, n5, c5, A6, n6, c6, rfl, hr, hfa, -⟩ := hd.ex
  obtain ⟨B1, m1, e1, B2, m2, e2, B3, m3, e3, B4, m4, e4, B5, m5, e5, B6, m6, e6, B7, m7, e7, rfl, -⟩ := hx.ex
  have ln := hr.len
  have lf := hfa.len
  refine fn_rule (args := [.agg #[.string d.name, iv d.hours, iv d.cap, iv d.start, .slice A1 n1 c1, .slice A2 n2 c2, .slice A3 n3 c3, .slice A4 n4 c4, .slice A5 n5 c5, .slice A6 n6 c6], .agg #[.slice B1 m1 e1, .slice B2 m2 e2, .slice B3 m3 e3, .slice B4 m4 e4, .slice B5 m5 e5, .slice B6 m6 e6, .slice B7 m7 e7]]) Tryz.func36 (by kernel_rfl) ?_
  refine box (fun bd w1 h1 => ?_)
  refine box (fun bx w2 h2 => ?_)
  have x2 := h1.ext.trans h2.ext
  have Bd := h1.blk.ext h2.ext
  have Bx := h2.blk
  refine ldA _ (.blk Bd) rfl ?_
  refine call_of (c_eCheck (hd.ext x2)) ?_
  rintro _ w3 ⟨rfl, x3⟩
  have x23 := x2.trans x3
  refine cN (fun q1 => ?_) (fun q1 => ?_)
  · exact ret1 (iv (dErr d)) rfl ⟨by unfold bErr; rw [if_pos q1], x23⟩
  obtain ⟨ht, hv⟩ := dErr_ok.1 q1
  obtain ⟨⟨b1, b2⟩, b3, b4⟩ := valid_bounds ht hv
  have p1 := prod_lt (x := (n1 : Int)) (y := d.hours) (by omega) (by omega)
  have p2 := prod_lt (x := (n2 : Int)) (y := d.hours) (by omega) (by omega)
  refine fldA ?_
  refine ld (.slice A1 n1 c1) ((Bd.ext x3).cell rfl) ?_
  refine len ?_
  refine fldA ?_
  refine ld (iv d.hours) ((Bd.ext x3).cell rfl) ?_
  refine arI (by omega) ?_
  have e0 : dErr d = 0 := q1
  refine cD (fun q2 => ?_) (fun q2 => ?_)
  · exact ret1 (iv 2) rfl ⟨by unfold bErr wide; rw [if_neg (by simpa using e0), ln, decide_eq_true q2]; rfl, x23⟩
  refine fldA ?_
  refine ld (.slice A2 n2 c2) ((Bd.ext x3).cell rfl) ?_
  refine len ?_
  refine fldA ?_
  refine ld (iv d.hours) ((Bd.ext x3).cell rfl) ?_
  refine arI (by omega) ?_
  refine cD (fun q3 => ?_) (fun q3 => ?_)
  · exact ret1 (iv 2) rfl ⟨by unfold bErr wide; rw [if_neg (by simpa using e0), lf, decide_eq_true q3, Bool.or_true]; rfl, x23⟩
  have hw : wide d = false := by unfold wide; rw [ln, lf, decide_eq_false q2, decide_eq_false q3]; rfl
  refine ldA _ (.blk (Bd.ext x3)) rfl ?_
  refine ldA _ (.blk (Bx.ext x3)) rfl ?_
  refine callE (c_bright (hd.ext x23) (hx.ext x23) hv ht) (fun w4 q4 x4 => ?_) (fun w4 q4 x4 => ?_)
  · exact ret1 (iv 0) rfl ⟨by unfold bErr; rw [if_neg (by simpa using e0), hw, q4]; rfl, x23.trans x4⟩
  · exact ret1 (iv 230) rfl ⟨by unfold bErr; rw [if_neg (by simpa using e0), hw, q4]; rfl, x23.trans x4⟩
end
end Go.Proofs.YtehcphboliofaaaGreatDoor

/- Layer 23: contract of Accounts. -/
namespace Go.Proofs.YtehcphboliofaaaGreatDoor
open Go Go.RowKit

structure Ac where
  kind : Int
  index : Int
  litres : Int
deriving DecidableEq
abbrev Ac.c (m : Ac) : List Value := [iv m.kind, iv m.index, iv m.litres]
abbrev acs (l : List Ac) : List Value := l.flatMap Ac.c
theorem acs_len : ∀ l : List Ac, (acs l).length = l.length * 3
  | [] => rfl
  | m :: l => by show (Ac.c m ++ acs l).length = _; rw [List.length_append, acs_len l, List.length_cons]; simp; omega
theorem acs_app (l k : List Ac) : acs (l ++ k) = acs l ++ acs k := List.flatMap_append
def tAc : Ty Ac := tFl 3 Ac.c fun _ => rfl
theorem flat_acs {D : Nat → Prop} {w : World} : ∀ {l : List Ac}, FlatR tAc D w l (acs l)
  | [] => rfl
  | m :: l => ⟨m.c, acs l, rfl, rfl, flat_acs⟩
/-- What is where, before an hour. -/
def nowN (d : Dist) (x : Run) : Nat → Int × Int → Int
  | 0, key => if key = (1, 0) then d.start else 0
  | k + 1, key => nowN d x k key - outN (movesL d x k) key + inN (movesL d x k) key
def kindsL (d : Dist) : List (Int × Nat) := [(1, 1), (2, d.reaches.length), (3, d.reaches.length), (4, d.reaches.length), (5, d.farms.length), (6, d.reaches.length), (7, 1)]
def accK (d : Dist) (x : Run) (hour : Nat) (k : Int) (m : Nat) : List Ac := (List.range m).map fun i : Nat => ⟨k, i, nowN d x hour (k, i)⟩
def accU (d : Dist) (x : Run) (hour : Nat) (j : Nat) : List Ac := ((kindsL d).take j).flatMap fun p => accK d x hour p.1 p.2
def accL (d : Dist) (x : Run) (hour : Nat) : List Ac := (kindsL d).flatMap fun p => accK d x hour p.1 p.2
theorem accK_succ {d : Dist} {x : Run} {hour m : Nat} {k : Int} : accK d x hour k (m + 1) = accK d x hour k m ++ [⟨k, m, nowN d x hour (k, (m : Int))⟩] := by unfold accK; rw [List.range_succ, List.map_append]; rfl
theorem accU_succ {d : Dist} {x : Run} {hour j : Nat} {p : Int × Nat} (h : (kindsL d)[j]? = some p) : accU d x hour (j + 1) = accU d x hour j ++ accK d x hour p.1 p.2 := by
  unfold accU; rw [List.take_add_one, h, List.flatMap_append]; simp
theorem accU_len {d : Dist} {x : Run} {hour : Nat} (h1 : d.reaches.length ≤ 64) (h2 : d.farms.length ≤ 600) (j : Nat) : (accU d x hour j).length ≤ 1000 := by
  have h3 : ∀ l : List (Int × Nat), (l.flatMap fun p => accK d x hour p.1 p.2).length = (l.map (·.2)).sum := fun l => by
    induction l with
    | nil => rfl
    | cons p l ih => rw [List.flatMap_cons, List.length_append, ih, List.map_cons, List.sum_cons]; simp [accK]
  unfold accU
  rw [h3]
  have h4 : ∀ (l : List (Int × Nat)) (j : Nat), ((l.take j).map (·.2)).sum ≤ (l.map (·.2)).sum := fun l => by
    induction l with
    | nil => intro j; simp
    | cons p l ih =>
      intro j
      cases j with
      | zero => simp
      | succ j => simp only [List.take_succ_cons, List.map_cons, List.sum_cons]; have := ih j; omega
  have := h4 (kindsL d) j
  have h5 : ((kindsL d).map (·.2)).sum = 2 + 4 * d.reaches.length + d.farms.length := by unfold kindsL; simp; omega
  omega
def hErr (d : Dist) (x : Run) (hour most : Int) : Int := if bErr d x ≠ 0 then bErr d x else if hour < 0 ∨ hour > most then 1 else 0
theorem hErr_ok {d : Dist} {x : Run} {hour most : Int} : hErr d x hour most = 0 ↔ bErr d x = 0 ∧ 0 ≤ hour ∧ hour ≤ most := by
  unfold hErr
  by_cases h : bErr d x = 0
  · rw [if_neg (by simpa using h)]
    by_cases h2 : hour < 0 ∨ hour > most
    · rw [if_pos h2]; simp; omega
    · rw [if_neg h2]; simp; omega
  · rw [if_pos h]; simp [h]
theorem now_bound {d : Dist} {x : Run} {H : Nat} (hf : Fm d x H) (hs : 0 ≤ d.start ∧ d.start ≤ 1099511627776) (key : Int × Int) : ∀ k, k ≤ H → -(1099511627776 + k * 45839113650176) ≤ nowN d x k key ∧ nowN d x k key ≤ 1099511627776 + k * 45839113650176
  | 0, _ => by unfold nowN; split <;> omega
  | k + 1, hk => by
    have ih := now_bound hf hs key k (by omega)
    have h1 := outN_le (hf.okMoves (hour := k) (by omega)) key
    have h2 := inN_le (hf.okMoves (hour := k) (by omega)) key
    have h3 : (movesL d x k).length ≤ 42691 := Nat.le_trans (prefL_len hf.nr' hf.nf _) (by have := hf.nr'; omega)
    show _ ≤ nowN d x k key - outN (movesL d x k) key + inN (movesL d x k) key ∧ nowN d x k key - outN (movesL d x k) key + inN (movesL d x k) key ≤ _
    omega
abbrev kdc (p : Int × Nat) : List Value := [iv p.1, iv (p.2 : Int)]
def tKd : Ty (Int × Nat) := tFl 2 kdc fun _ => rfl
theorem flat_kds {D : Nat → Prop} {w : World} : ∀ {l : List (Int × Nat)}, FlatR tKd D w l (l.flatMap kdc)
  | [] => rfl
  | m :: l => ⟨kdc m, l.flatMap kdc, rfl, rfl, flat_kds⟩
section
variable {D : Nat → Prop} {w : World}
end
end Go.Proofs.YtehcphboliofaaaGreatDoor

/- Layer 23: contract of Moves. -/
namespace Go.Proofs.YtehcphboliofaaaGreatDoor
open Go Go.RowKit

def nzM (m : Mv) : Bool := !decide (m.litres = 0)
theorem mvs_take : ∀ (l : List Mv) (i : Nat) (rest : List Value), i ≤ l.length → (mvs l ++ rest).take (i * 5) = mvs (l.take i)
  | l, 0, rest, _ => by simp
  | m :: l, i + 1, rest, h => by
    have : (mvs (m :: l) ++ rest) = m.c ++ (mvs l ++ rest) := by rw [show mvs (m :: l) = m.c ++ mvs l from rfl, List.append_assoc]
    rw [this, List.take_append, show m.c.length = 5 from rfl, show (i + 1) * 5 - 5 = i * 5 by omega, mvs_take l i rest (by simpa using h)]
    rw [List.take_of_length_le (by show 5 ≤ _; omega)]
    rfl
  | [], i + 1, rest, h => by simp at h
theorem mvs_drop : ∀ (l : List Mv) (i : Nat) (rest : List Value), i ≤ l.length → (mvs l ++ rest).drop (i * 5) = mvs (l.drop i) ++ rest
  | l, 0, rest, _ => by simp
  | m :: l, i + 1, rest, h => by
    have : (mvs (m :: l) ++ rest) = m.c ++ (mvs l ++ rest) := by rw [show mvs (m :: l) = m.c ++ mvs l from rfl, List.append_assoc]
    rw [this, List.drop_append, show m.c.length = 5 from rfl, show (i + 1) * 5 - 5 = i * 5 by omega, mvs_drop l i rest (by simpa using h)]
    rw [List.drop_of_length_le (by show 5 ≤ _; omega)]
    rfl
  | [], i + 1, rest, h => by simp at h
theorem mvs_set {l : List Mv} {i : Nat} {m : Mv} {rest : List Value} (h : i < l.length) : (mvs l ++ rest).take (i * 5) ++ m.c ++ (mvs l ++ rest).drop (i * 5 + 5) = mvs (l.take i ++ m :: l.drop (i + 1)) ++ rest := by
  rw [mvs_take _ _ _ (by omega), show i * 5 + 5 = (i + 1) * 5 by omega, mvs_drop _ _ _ (by omega), mvs_app, show mvs (m :: l.drop (i + 1)) = m.c ++ mvs (l.drop (i + 1)) from rfl]
  simp only [List.append_assoc]
theorem slr_mvs {w : World} {g n : Nat} {l : List Mv} {cs : List Value} {D : Nat → Prop} (hb : Blk w g 138 cs) (h : cs.take (n * 5) = mvs l) (hn : n = l.length) (hle : n ≤ 140737488355328) (hD : D g) : SlR tMv D w (some (ad g 0)) n l :=
  SlR.of_cells hn hle hD (fun j v hv => by
    rw [Nat.zero_add]
    rw [← h, List.getElem?_take] at hv
    split at hv
    · exact hb.cell hv
    · cases hv) flat_mvs
section
variable {D : Nat → Prop} {w : World}
theorem c_bMoves1 {m : Mv} : CallZ Tryz.prog 118 #[.agg m.c.toArray] w (fun v w' => v = .bool (!nzM m) ∧ Ext w w') := by
  refine fn_rule (args := [.agg #[iv m.frm.1, iv m.frm.2, iv m.to.1, iv m.to.2, iv m.litres]]) Tryz.func118 (by kernel_rfl) ?_
  refine box (fun g w1 h1 => ?_)
  refine fldA ?_
  refine ld (iv m.litres) (h1.blk.cell rfl) ?_
  refine cE (fun q => ?_) (fun q => ?_)
  · exact ret1 (.bool true) rfl ⟨by unfold nzM; rw [decide_eq_true q]; rfl, h1.ext⟩
  · exact ret1 (.bool false) rfl ⟨by unfold nzM; rw [decide_eq_false q]; rfl, h1.ext⟩
theorem c_indM {ms : List Mv} {A : Option Addr} {n c : Nat} (h : SlR tMv D w A n ms) : CallZ Tryz.prog 179 #[.slice A n c, .func (.func 118) #[] #[]] w
    (fun v w' => ((v = iv (-1) ∧ ms.filter nzM = ms) ∨ ∃ k : Nat, v = iv (k : Int) ∧ k < n ∧ (ms.take (k + 1)).filter nzM = ms.take k) ∧ Ext w w') := by
  refine fn_rule (args := [.slice A n c, .func (.func 118) #[] #[]]) Tryz.func179 (by kernel_rfl) ?_
  refine len ?_
  refine loop_rule (fun k : Nat => [(8, iv (k : Int))]) (fun k w' => k ≤ n ∧ Ext w w' ∧ (ms.take k).filter nzM = ms.take k) (fun k _ => n - k) 0 ⟨rfl, trivial⟩ ⟨by omega, .refl _ _, rfl⟩ rfl ?_
  rintro G k w' ⟨hk, xw, he⟩
  refine cD (fun hlt => ?_) (fun hge => ?_)
  · obtain ⟨b, o, cs, m, rfl, hx, -, -, hc, rfl⟩ := (h.ext xw).at_ (show k < n by omega)
    refine idx k rfl (by omega) ?_
    refine ldA m.c hc rfl ?_
    have htk : ms.take (k + 1) = ms.take k ++ [m] := by rw [List.take_add_one, hx]; rfl
    refine callE (c_bMoves1 (m := m)) (fun w2 g x2 => ?_) (fun w2 g x2 => ?_)
    · refine ret1 (iv (k : Int)) rfl ⟨.inr ⟨k, rfl, by omega, ?_⟩, xw.trans x2⟩
      simp only [Bool.not_eq_true'] at g
      rw [htk, List.filter_append, he, List.filter_cons_of_neg (by simp [g])]; simp
    · simp only [Bool.not_eq_false'] at g
      refine arI (by have := h.le; omega) ?_
      refine next (k + 1) ⟨by rw [Int.natCast_add]; rfl, trivial⟩ ⟨by omega, xw.trans x2, ?_⟩ (by omega)
      rw [htk, List.filter_append, he, List.filter_cons_of_pos g]; rfl
  · refine ret1 (iv (-1)) rfl ⟨.inl ⟨rfl, ?_⟩, xw⟩
    rw [List.take_of_length_le (by have := h.len; omega)] at he; exact he
theorem c_delM {w0 : World} {ms : List Mv} {A : Option Addr} {n c : Nat} (h : OwnF w0 w A n c 138 5 (mvs ms)) (hle : n ≤ 1000000) : CallZ Tryz.prog 117 #[.slice A n c, .func (.func 118) #[] #[]] w
    (fun v w' => Ext w0 w' ∧ ∃ A' n' c', v = .slice A' n' c' ∧ SlR tMv (fun b => w0.heap.size ≤ b) w' A' n' (ms.filter nzM) ∧ n' ≤ c') := by
  have hml := h.own.len
  rw [mvs_len] at hml
  have hs : SlR tMv (fun b => w0.heap.size ≤ b) w A n ms := h.own.rd flat_mvs (by omega) (by omega) h.new
  refine fn_rule (args := [.slice A n c, .func (.func 118) #[] #[]]) Tryz.func117 (by kernel_rfl) ?_
  refine call_of (c_indM hs) ?_
  rintro _ w1 ⟨⟨rfl, hno⟩ | ⟨k, rfl, hkn, hk⟩, x1⟩
  · refine cE (fun _ => ?_) (fun e => absurd rfl e)
    refine ret1 (.slice A n c) rfl ⟨h.ext.trans x1, A, n, c, rfl, ?_, h.le⟩
    rw [hno]; exact hs.ext x1
  refine cE (fun e => by omega) (fun _ => ?_)
  refine arI (by omega) ?_
  rcases h.form with ⟨_, h0, _⟩ | ⟨g, rfl, hg0, hgl, hnc⟩
  · omega
  obtain ⟨rest, hb0, hbl, -⟩ := Own.blk h.own
  refine loop3 (fun (j i : Nat) (_ : Unit) => [(6, iv (j : Int)), (5, iv (i : Int))]) (fun j i _ w' => i < j ∧ j ≤ n ∧ Kept (fun b => b ≠ g) w1 w' ∧ ∃ cur : List Mv, cur.length = n ∧ Blk w' g 138 (mvs cur ++ rest) ∧ cur.take i = (ms.take j).filter nzM ∧ cur.drop j = ms.drop j) (fun j _ _ _ => n - j) (k + 1) k () ⟨by rw [Int.natCast_add]; rfl, rfl, trivial⟩
    ⟨by omega, by omega, .refl _ _, ms, by omega, hb0.ext x1, hk.symm, rfl⟩ rfl ?_
  rintro G j i _ w2 ⟨hij, hjn, k2, cur, hcl, hb2, hc1, hc2⟩
  refine len ?_
  refine cD (fun hlt => ?_) (fun hge => ?_)
  · have hlt : j < n := by omega
    obtain ⟨m, hm⟩ : ∃ m, ms[j]? = some m := ⟨ms[j]'(by omega), List.getElem?_eq_getElem (by omega)⟩
    have hcm : cur[j]? = some m := by
      have h1 : (cur.drop j)[0]? = cur[j]? := by rw [List.getElem?_drop]; rfl
      have h2 : (ms.drop j)[0]? = ms[j]? := by rw [List.getElem?_drop]; rfl
      rw [← h1, hc2, h2, hm]
    have htk : ms.take (j + 1) = ms.take j ++ [m] := by rw [List.take_add_one, hm]; rfl
    have hcell : CellsAt w2 g (0 + j * 5) m.c := fun t v hv => by
      rw [Nat.zero_add]
      refine hb2.cell ?_
      have : (mvs cur ++ rest).drop (j * 5) = mvs (cur.drop j) ++ rest := mvs_drop cur j rest (by omega)
      rw [← List.getElem?_drop, this]
      have hd : cur.drop j = m :: cur.drop (j + 1) := by
        obtain ⟨h1, h2⟩ := List.getElem?_eq_some_iff.1 hcm
        rw [List.drop_eq_getElem_cons h1, h2]
      rw [hd, show mvs (m :: cur.drop (j + 1)) = m.c ++ mvs (cur.drop (j + 1)) from rfl, List.append_assoc]
      rw [List.getElem?_append_left (List.getElem?_eq_some_iff.1 hv).1]; exact hv
    refine idx j rfl hlt ?_
    refine ldA m.c hcell rfl ?_
    refine alloc (fun t v1' h1'' => ?_)
    refine stA (vs := m.c) h1''.blk rfl (Nat.le_of_ble_eq_true rfl) (by simp [Value.oneCell']) (fun w3 tb s2 zs => ?_)
    have t1 := h1''.at_
    have hgl2 := hb2.lt
    have x23 : Ext w2 w3 := h1''.ext.then s2 fun b hb _ e => by omega
    have htg : t ≠ g := by omega
    refine ldA m.c (.blk tb) rfl ?_
    refine callE (c_bMoves1 (m := m)) (fun w4 q x4 => ?_) (fun w4 q x4 => ?_)
    · simp only [Bool.not_eq_true'] at q
      refine arI (by omega) ?_
      refine next3 (j + 1) i () ⟨by rw [Int.natCast_add]; rfl, rfl, trivial⟩ ⟨by omega, by omega, (k2.ext x23).ext x4, cur, hcl, (hb2.ext x23).ext x4, ?_, ?_⟩ (by omega)
      · rw [htk, List.filter_append, ← hc1, List.filter_cons_of_neg (by simp [q])]; simp
      · rw [← List.drop_drop, ← List.drop_drop, hc2]
    · simp only [Bool.not_eq_false'] at q
      refine ldA m.c (.blk (tb.ext x4)) rfl ?_
      refine idx i rfl (by omega) ?_
      have hcsl : (mvs cur ++ rest).length = c * 5 := by
        rw [List.length_append, mvs_len, hcl, ← hbl, List.length_append, mvs_len]; omega
      refine stA (vs := m.c) ((hb2.ext x23).ext x4) rfl (by rw [hcsl]; show _ + 5 ≤ _; omega) (by simp [Value.oneCell']) (fun w5 b5 s5 zs5 => ?_)
      refine arI (by omega) ?_
      refine arI (by omega) ?_
      refine next3 (j + 1) (i + 1) () ⟨by rw [Int.natCast_add]; rfl, by rw [Int.natCast_add]; rfl, trivial⟩ ⟨by omega, by omega, ((k2.ext x23).ext x4).trans s5, cur.take i ++ m :: cur.drop (i + 1), ?_, ?_, ?_, ?_⟩ (by omega)
      · rw [List.length_append, List.length_take, List.length_cons, List.length_drop]; omega
      · rw [← mvs_set (by omega)]
        have : 0 + i * 5 = i * 5 := by omega
        rw [this] at b5
        exact b5
      · rw [htk, List.filter_append, ← hc1, List.filter_cons_of_pos q]
        rw [List.take_append, List.length_take, List.take_take]
        have e1 : min (i + 1) i = i := by omega
        have e2 : i + 1 - min i cur.length = 1 := by omega
        rw [e1, e2]; rfl
      · rw [List.drop_append, List.length_take, show j + 1 - min i cur.length = (j - i) + 1 by omega, List.drop_succ_cons, List.drop_drop, List.drop_of_length_le (by rw [List.length_take]; omega), show i + 1 + (j - i) = j + 1 by omega, ← List.drop_drop, hc2, List.drop_drop]; rfl
  · have hjn' : j = n := by omega
    have hcsl : (mvs cur ++ rest).length = c * 5 := by
      rw [List.length_append, mvs_len, hcl, ← hbl, List.length_append, mvs_len]; omega
    have hfin : cur.take i = ms.filter nzM := by rw [hc1, hjn', List.take_of_length_le (by omega)]
    refine slcA i n rfl rfl (by omega) (by omega) (by omega) ?_
    refine clr (cs := mvs cur ++ rest) hb2 (by omega) (by rw [hcsl]; omega) (fun w3 cs' hb3 ht hl k3 => ?_)
    have hfl : (ms.filter nzM).length = i := by rw [← hfin, List.length_take]; omega
    have hss : SlR tMv (fun b => w0.heap.size ≤ b) w3 (some (ad g 0)) i (ms.filter nzM) := slr_mvs hb3 (by
      have : cs'.take (i * 5) = (mvs cur ++ rest).take (i * 5) := by rw [show i * 5 = 0 + i * 5 by omega]; exact ht
      rw [this, mvs_take _ _ _ (by omega), hfin]) hfl.symm (by omega) hg0
    refine slcA 0 i rfl rfl (by omega) (by omega) (by omega) ?_
    refine ret1 (.slice (some (ad g (0 + 0 * 5))) (i - 0) (c - 0)) rfl ⟨((h.ext.trans x1).then k2 fun b hb _ e => by omega).then k3 fun b hb _ e => by omega, _, _, _, rfl, hss, by omega⟩
end
end Go.Proofs.YtehcphboliofaaaGreatDoor

/- Layer 23: contract of Moves; the reference, first part. -/
namespace Go.Proofs.YtehcphboliofaaaGreatDoor
open Go Go.RowKit

def movV (d : Dist) (x : Run) (hour : Int) : List Mv := if hErr d x hour (d.hours - 1) = 0 then (movesL d x hour.toNat).filter nzM else []
section
variable {D : Nat → Prop} {w : World}
theorem c_bMoves {csd csx : List Value} {d : Dist} {x : Run} {hour : Int} (hd : DiR D w csd d) (hx : RuR D w csx x) : CallZ Tryz.prog 71 #[.agg csd.toArray, .agg csx.toArray, iv hour] w
    (fun v w' => Ext w w' ∧ ∃ A n c, v = .tuple #[.slice A n c, iv (hErr d x hour (d.hours - 1))] ∧ SlR tMv (fun b => w.heap.size ≤ b) w' A n (movV d x hour) ∧ n ≤ c) := by
  obtain ⟨A1, n1, c1, A2, n2, c2, A3, n3, c3, A4, n4, c4, A5, n5, c5, A6, n6, c6, rfl, hr, hfa, -⟩ := hd.ex
  obtain ⟨B1, m1, e1, B2, m2, e2, B3, m3, e3, B4, m4, e4, B5, m5, e5, B6, m6, e6, B7, m7, e7, rfl, -⟩ := hx.ex
  refine fn_rule (args := [.agg #[.string d.name, iv d.hours, iv d.cap, iv d.start, .slice A1 n1 c1, .slice A2 n2 c2, .slice A3 n3 c3, .slice A4 n4 c4, .slice A5 n5 c5, .slice A6 n6 c6], .agg #[.slice B1 m1 e1, .slice B2 m2 e2, .slice B3 m3 e3, .slice B4 m4 e4, .slice B5 m5 e5, .slice B6 m6 e6, .slice B7 m7 e7], iv hour]) Tryz.func71 (by kernel_rfl) ?_
  refine box (fun bd w1 h1 => ?_)
  refine box (fun bx w2 h2 => ?_)
  have x2 := h1.ext.trans h2.ext
  have Bd := h1.blk.ext h2.ext
  have Bx := h2.blk
  refine ldA _ (.blk Bd) rfl ?_
  refine ldA _ (.blk Bx) rfl ?_
  refine call_of (c_bCheck (hd.ext x2) (hx.ext x2)) ?_
  rintro _ w3 ⟨rfl, x3⟩
  have x23 := x2.trans x3
  have bad : ∀ e : Int, e ≠ 0 → hErr d x hour (d.hours - 1) = e → Ext w w3 ∧ ∃ A n c, (Value.tuple #[.slice none 0 0, iv e]) = .tuple #[.slice A n c, iv (hErr d x hour (d.hours - 1))] ∧ SlR tMv (fun b => w.heap.size ≤ b) w3 A n (movV d x hour) ∧ n ≤ c := fun e he hE => by
    unfold movV
    rw [hE, if_neg he]
    exact ⟨x23, none, 0, 0, rfl, .nil, Nat.le_refl _⟩
  refine cN (fun q1 => ?_) (fun q1 => ?_)
  · exact ret2 (.slice none 0 0) (iv (bErr d x)) rfl rfl (bad _ q1 (by unfold hErr; rw [if_pos q1]))
  have e0 : bErr d x = 0 := q1
  have sv : hErr d x hour (d.hours - 1) = if hour < 0 ∨ hour > d.hours - 1 then 1 else 0 := by unfold hErr; rw [if_neg (by simpa using e0)]
  refine cD (fun q2 => ?_) (fun q2 => ?_)
  · exact ret2 (.slice none 0 0) (iv 1) rfl rfl (bad 1 (by decide) (by rw [sv, if_pos (.inl q2)]))
  refine fldA ?_
  refine ld (iv d.hours) ((Bd.ext x3).cell rfl) ?_
  refine cD (fun q3 => ?_) (fun q3 => ?_)
  · exact ret2 (.slice none 0 0) (iv 1) rfl rfl (bad 1 (by decide) (by rw [sv, if_pos (.inr (by omega))]))
  rw [if_neg (by omega)] at sv
  obtain ⟨hf, hR⟩ := bErr_fm e0
  obtain ⟨T, hk⟩ : ∃ k : Nat, hour = (k : Int) := ⟨hour.toNat, by omega⟩
  have hkn : hour.toNat = T := by omega
  have hm : movV d x hour = (movesL d x T).filter nzM := by unfold movV; rw [sv, if_pos rfl, hkn]
  have hHi := hf.hours
  rw [hk]
  rw [hk] at sv hm
  refine ldA _ (.blk (Bd.ext x3)) rfl ?_
  refine ldA _ (.blk (Bx.ext x3)) rfl ?_
  refine call_of (c_moves (hour := T) (hd.ext x23) (hx.ext x23) hf (by omega)) ?_
  rintro _ w5 ⟨Am, nm, cm, rfl, om⟩
  have hml := om.own.len
  rw [mvs_len] at hml
  have hmb := prefL_len (d := d) (x := x) (hour := T) hf.nr' hf.nf d.reaches.length
  have hmb : (movesL d x T).length ≤ 42691 := Nat.le_trans hmb (by have := hf.nr'; omega)
  refine call_of (c_delM om (by omega)) ?_
  rintro _ w6 ⟨x36, A', n', c', rfl, sl, hle⟩
  refine ret2 (.slice A' n' c') (iv 0) rfl rfl ⟨x23.trans x36, A', n', c', by rw [sv], ?_, hle⟩
  rw [hm]
  exact sl.more (by decide) fun b _ hb => Nat.le_trans x23.size hb

/-! ### the reference -/
end
end Go.Proofs.YtehcphboliofaaaGreatDoor

/- Maps whose keys differ. Nothing of the program stands here. -/
namespace Go.Proofs.YtehcphboliofaaaGreatDoor
open Go Go.RowKit Classical

theorem mkE_key (k v : Value) (c : Nat) : (mkE k v c).key = k := rfl
theorem keysU_push {L : List MapEntry} {e : MapEntry} {k : Value} (he : e.key = k) (h : (L.map (·.key)).Nodup) (hn : ∀ x ∈ L, x.key ≠ k) : ((L ++ [e]).map (·.key)).Nodup := by
  rw [List.map_append, List.nodup_append]
  refine ⟨h, by simp, fun x hx y hy => ?_⟩
  obtain ⟨z, hz, rfl⟩ := List.mem_map.1 hx
  simp only [List.map_cons, List.map_nil, List.mem_singleton] at hy
  subst hy
  rw [he]
  exact hn z hz
theorem keysU_modify {L : List MapEntry} (h : (L.map (·.key)).Nodup) (j : Nat) (v : Value) : ((L.modify j fun e => { e with val := v }).map (·.key)).Nodup := by
  have : (L.modify j fun e => { e with val := v }).map (·.key) = L.map (·.key) := by
    apply List.ext_getElem?
    intro i
    rw [List.getElem?_map, List.getElem?_map, List.getElem?_modify]
    cases L[i]? with
    | none => rfl
    | some e =>
      show some _ = some _
      by_cases hij : j = i
      · simp [hij]
      · simp [hij]
  rw [this]; exact h
theorem look_own {L : List MapEntry} (h : (L.map (·.key)).Nodup) : ∀ {e : MapEntry}, e ∈ L → lookP e.key L = some e.val := by
  induction L with
  | nil => intro e he; cases he
  | cons a L ih =>
    intro e he
    rw [List.map_cons, List.nodup_cons] at h
    rw [lookP_cons]
    rcases List.mem_cons.1 he with rfl | he
    · rw [if_pos rfl]
    · rw [if_neg (fun q => h.1 (by rw [q]; exact List.mem_map_of_mem he))]
      exact ih h.2 he
theorem look_has {v x : Value} {L : List MapEntry} (h : lookP v L = some x) : ∃ e ∈ L, e.key = v ∧ e.val = x := by
  induction L with
  | nil => cases h
  | cons a L ih =>
    rw [lookP_cons] at h
    by_cases q : a.key = v
    · rw [if_pos q] at h; injection h with h; exact ⟨a, List.mem_cons_self, q, h⟩
    · rw [if_neg q] at h
      obtain ⟨e, he, r⟩ := ih h
      exact ⟨e, List.mem_cons_of_mem _ he, r⟩
/-- Block g is a map that says f; its keys differ. -/
def MapU {κ : Type} (kv : κ → Value) (w : World) (g : Nat) (f : κ → Option Value) : Prop := ∃ L c, Ents kv w g L c ∧ (L.map (·.key)).Nodup ∧ ∀ a, lookP (kv a) L = f a
def MapV {κ : Type} (kv : κ → Value) (w : World) (g : Nat) (f : κ → Option Value) (a : κ) (s : Nat) : Prop := ∃ L c, Ents kv w g L c ∧ (L.map (·.key)).Nodup ∧ (∀ a, lookP (kv a) L = f a) ∧
  ∃ (j : Nat) (e : MapEntry), L[j]? = some e ∧ e.key = kv a ∧ e.born = s ∧ ∀ (m : Nat) (y : MapEntry), m < j → L[m]? = some y → y.key ≠ kv a
section
variable {P : Program} {κ : Type} {kv : κ → Value}
theorem MapU.g {w : World} {g : Nat} {f : κ → Option Value} (h : MapU kv w g f) : MapG kv w g f := by obtain ⟨L, c, h1, _, h2⟩ := h; exact ⟨L, c, h1, h2⟩
theorem MapV.g {w : World} {g s : Nat} {f : κ → Option Value} {a : κ} (h : MapV kv w g f a s) : MapU kv w g f := by obtain ⟨L, c, h1, h2, h3, _⟩ := h; exact ⟨L, c, h1, h2, h3⟩
theorem MapU.kept {D : Nat → Prop} {w w' : World} {g : Nat} {f : κ → Option Value} (h : MapU kv w g f) (k : Kept D w w') (hD : D g) : MapU kv w' g f := by
  obtain ⟨L, c, h1, h2⟩ := h; exact ⟨L, c, h1.kept k hD, h2⟩
theorem MapU.new (kv : κ → Value) (w : World) : MapU kv (w.alloc (.map #[] 0)) w.heap.size (fun _ => none) := ⟨[], 0, Ents.new kv w, by simp, fun _ => rfl⟩
/-- A map's entry set. -/
theorem mupdU {t k e : TypeId} [hm : MapTy P t k e] [hk : KeyL P k kv] {g : Nat} {f : κ → Option Value} (a : κ) {v : Value} {w : World} {K : VK} (h : MapU kv w g f) (kk : ∀ w', MapU kv w' g (pset f a v) → Kept (fun b => b ≠ g) w w' → w'.heap.size = w.heap.size → K undef w') : MUpdP P t (.map (some g)) (kv a) v K w := by
  rw [MUpdP_eq]
  intro w0 hw
  subst hw
  have h1 := mapOf_spec hm.h
  obtain ⟨L, c, hE, hU, hf⟩ := h
  have hb : w0.heap[g]? = some (.map L.toArray c) := hE.at_
  have hfn := hk.fnd a L w0 hE.keys
  cases hp : findP (kv a) L 0 with
  | none =>
    rw [hp] at hfn
    have hr : (uS (Instr.mapUpdate t (.map (some g)) (kv a) v)).run P w0 = .ok .skip { w0 with heap := w0.heap.setIfInBounds g (.map (L ++ [(mkE (kv a) v c)]).toArray (c + 1)) } := by
      unfold uS Instr.mapUpdate
      simp only [Sem.run_bind, run_underlying h1, Result.andThen_ok, MapKept.run_getObj_map hb, hk.chk, hfn, MapKept.run_setObj_map _ hb, Sem.run_pure]
      simp
    rw [hr]
    obtain ⟨k1, k2⟩ := heap_set (o := .map (L ++ [(mkE (kv a) v c)]).toArray (c + 1)) hb
    refine kk (z { w0 with heap := w0.heap.setIfInBounds g _ }) ⟨_, _, ⟨k2, fun y hy => ?_, hE.born.push _ _⟩, keysU_push (mkE_key (kv a) _ c) hU (findP_none.1 hp), fun b => ?_⟩ k1 (by simp [z])
    · rcases List.mem_append.1 hy with h | h
      · exact hE.keys y h
      · simp at h; subst h; exact ⟨a, rfl⟩
    · rw [lookP_push (x := (mkE (kv a) v c)) L (lookP_none.2 hp)]
      unfold pset
      by_cases hab : b = a
      · subst hab; rw [if_pos rfl, if_pos rfl]
      · rw [if_neg (fun e => hab (hk.inj _ _ e).symm), if_neg hab, hf]
  | some p =>
    obtain ⟨n, x⟩ := p
    rw [hp] at hfn
    obtain ⟨j, y, hn, hj, hy, _, hfirst⟩ := findP_some hp
    have hn : n = j := by omega
    subst hn
    have hr : (uS (Instr.mapUpdate t (.map (some g)) (kv a) v)).run P w0 = .ok .skip { w0 with heap := w0.heap.setIfInBounds g (.map (L.modify n fun e => { e with val := v }).toArray c) } := by
      unfold uS Instr.mapUpdate
      have hkey : ((L.toArray[n]?).map (·.key)).getD (kv a) = kv a := by simp [hj, hy]
      simp only [Sem.run_bind, run_underlying h1, Result.andThen_ok, MapKept.run_getObj_map hb, hk.chk, hfn, hkey, Instr.keyThatStays, hk.bits, if_true, Sem.run_pure, MapKept.run_setObj_map _ hb]
      rw [← modify_both hj hy]
      simp
    rw [hr]
    obtain ⟨k1, k2⟩ := heap_set (o := .map (L.modify n fun e => { e with val := v }).toArray c) hb
    refine kk (z { w0 with heap := w0.heap.setIfInBounds g _ }) ⟨_, _, ⟨k2, keys_modify hE.keys n v, hE.born.modify n v⟩, keysU_modify hU n v, fun b => ?_⟩ k1 (by simp [z])
    rw [lookP_modify (k := kv a) L n y hj hy hfirst]
    unfold pset
    by_cases hab : b = a
    · subst hab; rw [if_pos rfl, if_pos rfl]
    · rw [if_neg (fun e => hab (hk.inj _ _ e).symm), if_neg hab, hf]
/-- An entry taken hold of ('m[a] op= ..'). -/
theorem mentU {t k e : TypeId} {zv : Value} [hm : MapTy P t k e] [hk : KeyL P k kv] [hz : ZeroTy P e zv] {g : Nat} {f : κ → Option Value} (a : κ) {w : World} {K : VK} (h : MapU kv w g f) (kk : ∀ w' (s : Nat), MapV kv w' g (pset f a ((f a).getD zv)) a s → Kept (fun b => b ≠ g) w w' → w'.heap.size = w.heap.size → K (.tuple #[(f a).getD zv, .int .i64 (s : Int)]) w') : MEntP P t (.map (some g)) (kv a) K w := by
  rw [MEntP_eq]
  intro w0 hw
  subst hw
  have h1 := mapOf_spec hm.h
  obtain ⟨L, c, hE, hU, hf⟩ := h
  have hb : w0.heap[g]? = some (.map L.toArray c) := hE.at_
  have hfn := hk.fnd a L w0 hE.keys
  cases hp : findP (kv a) L 0 with
  | none =>
    rw [hp] at hfn
    have hfa : f a = none := by rw [← hf a]; exact lookP_none.2 hp
    have hr : (vS (Instr.mapEntry t (.map (some g)) (kv a))).run P w0 = .ok (.value (.tuple #[zv, .int .i64 (c : Int)])) { w0 with heap := w0.heap.setIfInBounds g (.map (L ++ [(mkE (kv a) zv c)]).toArray (c + 1)) } := by
      rw [run_vS]
      unfold Instr.mapEntry
      simp only [Sem.run_bind, run_underlying h1, Result.andThen_ok, MapKept.run_getObj_map hb, hk.chk, hfn, run_zeroValue' hz.h, MapKept.run_setObj_map _ hb, Sem.run_pure]
      simp [goInt]
    rw [hr]
    obtain ⟨k1, k2⟩ := heap_set (o := .map (L ++ [(mkE (kv a) zv c)]).toArray (c + 1)) hb
    have := kk (z { w0 with heap := w0.heap.setIfInBounds g (.map (L ++ [(mkE (kv a) zv c)]).toArray (c + 1)) }) c ⟨_, _, ⟨k2, fun y hy => ?_, hE.born.push _ _⟩, keysU_push (mkE_key (kv a) _ c) hU (findP_none.1 hp), fun b => ?_, L.length, (mkE (kv a) zv c), by simp, rfl, rfl, fun m y hm hy => ?_⟩ k1 (by simp [z])
    · rw [hfa] at this; exact this
    · rcases List.mem_append.1 hy with h | h
      · exact hE.keys y h
      · simp at h; subst h; exact ⟨a, rfl⟩
    · rw [lookP_push (x := (mkE (kv a) zv c)) L (lookP_none.2 hp), hfa]
      unfold pset
      by_cases hab : b = a
      · subst hab; rw [if_pos rfl, if_pos rfl]; rfl
      · rw [if_neg (fun e => hab (hk.inj _ _ e).symm), if_neg hab, hf]
    · rw [List.getElem?_append_left hm] at hy
      exact findP_none.1 hp y (List.mem_of_getElem? hy)
  | some p =>
    obtain ⟨n, x⟩ := p
    rw [hp] at hfn
    obtain ⟨j, y, hn, hj, hy, hyx, hfirst⟩ := findP_some hp
    have hn : n = j := by omega
    subst hn
    have hfa : f a = some x := by rw [← hf a]; unfold lookP; rw [hp]; rfl
    have hr : (vS (Instr.mapEntry t (.map (some g)) (kv a))).run P w0 = .ok (.value (.tuple #[x, .int .i64 (y.born : Int)])) { w0 with heap := w0.heap.setIfInBounds g (.map L.toArray c) } := by
      rw [run_vS]
      unfold Instr.mapEntry
      have hkey : ((L.toArray[n]?).map (·.key)).getD (kv a) = kv a := by simp [hj, hy]
      simp only [Sem.run_bind, run_underlying h1, Result.andThen_ok, MapKept.run_getObj_map hb, hk.chk, hfn, hkey, Instr.keyThatStays, hk.bits, if_true, Sem.run_pure, MapKept.run_setObj_map _ hb]
      have e1 := modify_same hj hy
      have e2 : (L.toArray.modify n fun e => { e with key := kv a }) = L.toArray := by have := congrArg List.toArray e1; simpa using this
      rw [e2]
      simp [goInt, hj]
    rw [hr]
    obtain ⟨k1, k2⟩ := heap_set (o := .map L.toArray c) hb
    have := kk (z { w0 with heap := w0.heap.setIfInBounds g (.map L.toArray c) }) y.born ⟨L, c, ⟨k2, hE.keys, hE.born⟩, hU, fun b => ?_, n, y, hj, hy, rfl, hfirst⟩ k1 (by simp [z])
    · rw [hfa] at this; exact this
    · rw [hf, hfa]
      unfold pset
      by_cases hab : b = a
      · subst hab; rw [if_pos rfl]; exact hfa
      · rw [if_neg hab]
/-- .. and set. -/
theorem estoU {t k e : TypeId} [_hm : MapTy P t k e] [hk : KeyL P k kv] {g s : Nat} {f : κ → Option Value} {a : κ} {v : Value} {w : World} {K : VK} (h : MapV kv w g f a s) (kk : ∀ w', MapU kv w' g (pset f a v) → Kept (fun b => b ≠ g) w w' → w'.heap.size = w.heap.size → K undef w') : EStoP P t (.map (some g)) (.int .i64 (s : Int)) v K w := by
  rw [EStoP_eq]
  intro w0 hw
  subst hw
  obtain ⟨L, c, hE, hU, hf, j, y, hj, hy, hs, hfirst⟩ := h
  have hb : w0.heap[g]? = some (.map L.toArray c) := hE.at_
  subst hs
  have hjl := (List.getElem?_eq_some_iff.1 hj).1
  have hidx : L.toArray.findIdx? (fun e => (e.born : Int) == (y.born : Int)) = some j := by
    rw [List.findIdx?_toArray]
    rw [List.findIdx?_eq_some_iff_getElem]
    refine ⟨hjl, ?_, fun m hm => ?_⟩
    · have : L[j] = y := (List.getElem?_eq_some_iff.1 hj).2
      simp [this]
    · have hm' : L[m]? = some L[m] := List.getElem?_eq_getElem (by omega)
      simp only [beq_iff_eq, Int.natCast_inj]
      intro e
      have := (hE.born j y hj).2 m _ hm' e
      omega
  have hr : (uS (Instr.entryStore t (.map (some g)) (.int .i64 (y.born : Int)) v)).run P w0 = .ok .skip { w0 with heap := w0.heap.setIfInBounds g (.map (L.modify j fun e => { e with val := v }).toArray c) } := by
    have hai : (asInt (.int .i64 (y.born : Int))).run P w0 = .ok (y.born : Int) w0 := rfl
    unfold uS Instr.entryStore
    simp only [Sem.run_bind, Result.andThen_ok, MapKept.run_getObj_map hb, hai, Sem.run_pure, hidx, MapKept.run_setObj_map _ hb]
    simp
  rw [hr]
  obtain ⟨k1, k2⟩ := heap_set (o := .map (L.modify j fun e => { e with val := v }).toArray c) hb
  refine kk (z { w0 with heap := w0.heap.setIfInBounds g _ }) ⟨_, _, ⟨k2, keys_modify hE.keys j v, hE.born.modify j v⟩, keysU_modify hU j v, fun b => ?_⟩ k1 (by simp [z])
  rw [lookP_modify (k := kv a) L j y hj hy hfirst]
  unfold pset
  by_cases hab : b = a
  · subst hab; rw [if_pos rfl, if_pos rfl]
  · rw [if_neg (fun e => hab (hk.inj _ _ e).symm), if_neg hab, hf]

end
end Go.Proofs.YtehcphboliofaaaGreatDoor
