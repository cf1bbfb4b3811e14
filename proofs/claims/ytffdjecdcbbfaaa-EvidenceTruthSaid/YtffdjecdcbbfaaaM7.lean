/- Parts of the proof: B7 B8 Bi E1 E2 E3 E4 E5 E6. -/
import Derived.Test.YtffdjecdcbbfaaaM6
import Derived.Test.YtffdjecdcbbfaaaM5
import Derived.Test.YtffdjecdcbbfaaaM3
import Derived.Test.YtffdjecdcbbfaaaM4

/- Layer 23: contract of right. -/
namespace Go.Proofs.Ytffdjecdcbbfaaa
open Go Go.RowKit

def tMv : Ty Mv := tFl 5 Mv.c fun _ => rfl
theorem flat_mvs {D : Nat → Prop} {w : World} : ∀ {l : List Mv}, FlatR tMv D w l (mvs l)
  | [] => rfl
  | m :: l => ⟨m.c, mvs l, rfl, rfl, flat_mvs⟩
theorem OwnF.mvs {w0 w : World} {A : Option Addr} {n c : Nat} {e : TypeId} {l : List Mv} (h : OwnF w0 w A n c e 5 (mvs l)) (hle : n ≤ 140737488355328) : SlR tMv AnyB w A n l :=
  h.own.rd flat_mvs (by have := h.own.len; rw [mvs_len] at this; omega) hle (fun _ _ => trivial)
theorem key2 : Key2 Try.prog 139 3 := ⟨by kernel_rfl, by kernel_rfl, by kernel_rfl, by kernel_rfl, fun _ _ _ _ => by kernel_rfl⟩
instance keyInt2 : KeyL Try.prog 139 kv2 := key2.law
abbrev tLL : Ty (List (List Int)) := tSl tInts
/-- A list of lists written out. -/
theorem NewB.two {D : Nat → Prop} {w w' : World} {e : TypeId} {g n1 c1 n2 c2 : Nat} {A1 A2 : Option Addr} {l1 l2 : List Int} (hb : NewB w e [.slice A1 n1 c1, .slice A2 n2 c2] g w') (h1 : SlR tInt D w A1 n1 l1) (h2 : SlR tInt D w A2 n2 l2) (e1 : n1 ≤ c1) (e2 : n2 ≤ c2) : SlR tInts AnyB w' (some (ad g 0)) 2 [l1, l2] :=
  SlR.of_cells rfl (by omega) trivial (.blk hb.blk) ⟨[.slice A1 n1 c1], [.slice A2 n2 c2], rfl, ⟨A1, n1, c1, rfl, (h1.ext hb.ext).more (by decide) fun _ _ _ => trivial, e1⟩, [.slice A2 n2 c2], [], rfl, ⟨A2, n2, c2, rfl, (h2.ext hb.ext).more (by decide) fun _ _ _ => trivial, e2⟩, rfl⟩
theorem arE {n : Int} {K : Value → Prop} (m : Int) (e : n = m) (h : -9223372036854775808 ≤ m ∧ m ≤ 9223372036854775807) (k : K (.int .i64 m)) : ArP .i64 n K := by subst e; exact arI h k
theorem okM_take {l : List Mv} (h : okM l) (k : Nat) : okM (l.take k) := fun m hm => h m (List.mem_of_mem_take hm)
section
variable {D : Nat → Prop} {w : World}
set_option maxRecDepth 4000 in
theorem c_bright {csd csx : List Value} {d : Dist} {x : Run} (hd : DiR D w csd d) (hx : RuR D w csx x) (hv : validB d = true) (ht : tooMany d = false) : CallZ Try.prog 31 #[.agg csd.toArray, .agg csx.toArray] w
    (fun v w' => v = .bool (rightB d x) ∧ Ext w w') := by
  have hd := hd.more (D' := fun b => b < w.heap.size) fun b hb _ => hb
  have hx := hx.more (D' := fun b => b < w.heap.size) fun b hb _ => hb
  obtain ⟨A1, n1, c1, A2, n2, c2, A3, n3, c3, A4, n4, c4, A5, n5, c5, A6, n6, c6, rfl, hr, hfa, hcr, hri, hdu, hwe⟩ := hd.ex
  obtain ⟨B1, m1, e1, B2, m2, e2, B3, m3, e3, B4, m4, e4, B5, m5, e5, B6, m6, e6, B7, m7, e7, rfl, i1, i2, i3, i4, i5, i6, i7, i8, i9⟩ := hx.ex
  have ln := hr.len
  have lf := hfa.len
  have k1 := i1.len
  have k2 := i2.len
  have k3 := i3.len
  have k4 := i4.len
  have k5 := i5.len
  have k6 := i6.len
  have k7 := i7.len
  refine fn_rule (args := [.agg #[.string d.name, iv d.hours, iv d.cap, iv d.start, .slice A1 n1 c1, .slice A2 n2 c2, .slice A3 n3 c3, .slice A4 n4 c4, .slice A5 n5 c5, .slice A6 n6 c6], .agg #[.slice B1 m1 e1, .slice B2 m2 e2, .slice B3 m3 e3, .slice B4 m4 e4, .slice B5 m5 e5, .slice B6 m6 e6, .slice B7 m7 e7]]) Try.func31 (by kernel_rfl) ?_
  refine box (fun bd w1 h1 => ?_)
  refine box (fun bx w2 h2 => ?_)
  refine alloc (fun q w3 h3 => ?_)
  have a1 := h1.at_
  have a2 := h2.at_
  have a3 := h3.at_
  have z1 := h1.size
  have z2 := h2.size
  have z3 := h3.size
  have x3 : Ext w w3 := (h1.ext.trans h2.ext).trans h3.ext
  have B_d : Blk w3 bd _ _ := (h1.blk.ext h2.ext).ext h3.ext
  have B_x : Blk w3 bx _ _ := h2.blk.ext h3.ext
  have B_q : Blk w3 q _ _ := h3.blk
  have m0 : ∀ u, Marks w3.heap.size [] u := fun _ => trivial
  -- a return of false
  have no : ∀ {F : Fr} {ds : List Deferred} {u : World} {K : VK}, F 4 = ptr q → Ext w3 u → Marks w3.heap.size ds u → rightB d x = false →
      (∀ w', RetP Try.prog [.cell 4 4] F ds (fun v w' => v = .bool (rightB d x) ∧ Ext w w') w' → K undef w') → StoreP Try.prog 4 (.pointer (some (ad q 0))) (.bool false) K u := fun {F ds u K} hF xu hm hb hK => by
    refine st1 (B_q.ext xu) rfl (fun u' q' k' => hK _ ?_)
    refine retMs (lo := w3.heap.size) (hm.kept k' (fun b h1 _ _ e => by omega)) (fun u'' k'' => ?_)
    show ResLP _ _ (F 4) _ _
    rw [hF]
    refine resL _ (holds_cell ((q'.kept k'' (by omega)).cell rfl)) ?_
    exact ⟨by rw [hb]; rfl, ((x3.trans xu).then k' fun b hb _ e => by omega).then k'' fun b hb _ => by omega⟩
  have noF : formB d x = false → rightB d x = false := fun h => by unfold rightB; rw [h]; rfl
  have fiff := formB_iff (d := d) (x := x)
  have noF' : ¬ (formB d x = true) → rightB d x = false := fun h => noF (Bool.eq_false_iff.2 h)
  refine fldA ?_
  refine ld (.slice B6 m6 e6) (B_x.cell rfl) ?_
  refine len ?_
  refine fldA ?_
  refine ld (.slice A2 n2 c2) (B_d.cell rfl) ?_
  refine len ?_
  refine cN (fun hg1 => ?_) (fun hg1 => ?_)
  · exact no rfl (.refl _ _) (m0 _) (noF' fun h => by have := (tabB_iff.1 (fiff.1 h).2.2.1).1; omega) fun _ h => h
  refine fldA ?_
  refine ld (iv d.hours) (B_d.cell rfl) ?_
  refine fldA ?_
  refine ld (.slice B1 m1 e1) (B_x.cell rfl) ?_
  refine fldA ?_
  refine ld (.slice B2 m2 e2) (B_x.cell rfl) ?_
  refine lit [.slice B1 m1 e1, .slice B2 m2 e2] (fun g4 w4 h4 => ?_)
  refine callE (c_formed (h := d.hours) (h4.two (i1.ext x3) (i2.ext x3) i8 i9)) (fun w5 f1 x5 => ?_) (fun w5 f1 x5 => ?_)
  rotate_left
  · exact no rfl (h4.ext.trans x5) (m0 _) (noF' fun h => by have h := fiff.1 h; rw [List.all_cons, List.all_cons, h.1, h.2.1] at f1; exact Bool.noConfusion f1) fun _ h => h
  have x35 := h4.ext.trans x5
  refine fldA ?_
  refine ld (iv d.hours) ((B_d.ext x35).cell rfl) ?_
  refine fldA ?_
  refine ld (.slice B6 m6 e6) ((B_x.ext x35).cell rfl) ?_
  refine callE (c_formed (h := d.hours) (i6.ext (x3.trans x35))) (fun w6 f2 x6 => ?_) (fun w6 f2 x6 => ?_)
  rotate_left
  · exact no rfl (x35.trans x6) (m0 _) (noF' fun h => by have h := (tabB_iff.1 (fiff.1 h).2.2.1).2; rw [List.all_eq_true.2 h] at f2; exact Bool.noConfusion f2) fun _ h => h
  have x36 := x35.trans x6
  simp only [List.all_cons, List.all_nil, Bool.and_true, Bool.and_eq_true] at f1
  have fT : tabB d.farms.length d.hours x.taken = true := tabB_iff.2 ⟨by omega, List.all_eq_true.1 f2⟩
  refine fldA ?_
  refine ld (.slice B3 m3 e3) ((B_x.ext x36).cell rfl) ?_
  refine fldA ?_
  refine ld (.slice B4 m4 e4) ((B_x.ext x36).cell rfl) ?_
  refine fldA ?_
  refine ld (.slice B5 m5 e5) ((B_x.ext x36).cell rfl) ?_
  refine fldA ?_
  refine ld (.slice B7 m7 e7) ((B_x.ext x36).cell rfl) ?_
  refine lit [.slice B3 m3 e3, .slice B4 m4 e4, .slice B5 m5 e5, .slice B7 m7 e7] (fun g7 w7 h7 => ?_)
  refine len ?_
  have x37 := x36.trans h7.ext
  have T4 : ∀ k : Nat, k < 4 → ∃ A n c l, ([Value.slice B3 m3 e3, .slice B4 m4 e4, .slice B5 m5 e5, .slice B7 m7 e7] : List Value)[k]? = some (.slice A n c) ∧ [x.inn, x.evap, x.seep, x.tail][k]? = some l ∧ SlR tInts (fun b => b < w.heap.size) w A n l := fun k hk => by
    match k, hk with
    | 0, _ => exact ⟨B3, m3, e3, _, rfl, rfl, i3⟩
    | 1, _ => exact ⟨B4, m4, e4, _, rfl, rfl, i4⟩
    | 2, _ => exact ⟨B5, m5, e5, _, rfl, rfl, i5⟩
    | 3, _ => exact ⟨B7, m7, e7, _, rfl, rfl, i7⟩
  have t4iff : formB d x = true ↔ ([x.inn, x.evap, x.seep, x.tail].all (tabB d.reaches.length d.hours)) = true := by
    rw [fiff]
    simp only [List.all_cons, List.all_nil, Bool.and_true, Bool.and_eq_true]
    exact ⟨fun h => h.2.2.2, fun h => ⟨f1.1, f1.2, fT, h⟩⟩
  -- the four tables
  refine loop_rule (fun k : Nat => [(54, iv (k : Int))]) (fun k u => k ≤ 4 ∧ Ext w7 u ∧ ([x.inn, x.evap, x.seep, x.tail].all (tabB d.reaches.length d.hours)) = (([x.inn, x.evap, x.seep, x.tail].drop k).all (tabB d.reaches.length d.hours))) (fun k _ => 4 - k) 0 ⟨rfl, trivial⟩ ⟨by omega, .refl _ _, rfl⟩ rfl ?_
  rintro G k u ⟨hk, xu, he⟩
  refine cD (fun hlt => ?_) (fun hge => ?_)
  · have hlt : k < 4 := by omega
    obtain ⟨A, n, c, l, hc, hl, hs⟩ := T4 k hlt
    have hll := hs.len
    have hdr : [x.inn, x.evap, x.seep, x.tail].drop k = l :: [x.inn, x.evap, x.seep, x.tail].drop (k + 1) := by
      obtain ⟨h1, h2⟩ := List.getElem?_eq_some_iff.1 hl
      rw [List.drop_eq_getElem_cons h1, h2]
    have he := he.trans (show _ = (tabB d.reaches.length d.hours l && ([x.inn, x.evap, x.seep, x.tail].drop (k + 1)).all (tabB d.reaches.length d.hours)) from by rw [hdr, List.all_cons])
    have bad : ∀ {u'}, Ext w7 u' → tabB d.reaches.length d.hours l = false → rightB d x = false := fun _ h => noF' fun h' => by rw [t4iff, he, h] at h'; exact Bool.noConfusion h'
    refine idx k rfl (by omega) ?_
    refine ld (.slice A n c) ((h7.blk.ext xu).cell (by rw [Nat.zero_add, Nat.mul_one]; exact hc)) ?_
    refine len ?_
    refine fldA ?_
    refine ld (.slice A1 n1 c1) ((B_d.ext (x37.trans xu)).cell rfl) ?_
    refine len ?_
    refine cN (fun hg2 => ?_) (fun hg2 => ?_)
    · exact no rfl (x37.trans xu) (m0 _) (bad xu (Bool.eq_false_iff.2 fun h => by have := (tabB_iff.1 h).1; omega)) fun _ h => h
    refine fldA ?_
    refine ld (iv d.hours) ((B_d.ext (x37.trans xu)).cell rfl) ?_
    refine callE (c_formed (h := d.hours) (hs.ext (x3.trans (x37.trans xu)))) (fun u2 f3 x2 => ?_) (fun u2 f3 x2 => ?_)
    · refine arI (by omega) ?_
      refine next (k + 1) ⟨by rw [Int.natCast_add]; rfl, trivial⟩ ⟨by omega, xu.trans x2, ?_⟩ (by omega)
      rw [he, tabB_iff.2 ⟨by omega, List.all_eq_true.1 f3⟩]; rfl
    · exact no rfl ((x37.trans xu).trans x2) (m0 _) (bad (xu.trans x2) (Bool.eq_false_iff.2 fun h => by have := (tabB_iff.1 h).2; rw [List.all_eq_true.2 this] at f3; exact Bool.noConfusion f3)) fun _ h => h
  have hk4 : k = 4 := by omega
  subst hk4
  have hF : formB d x = true := t4iff.2 he
  have hf := Fm.of hv ht hF
  generalize hH : d.hours.toNat = H at hf
  have hHi := hf.hours
  have hH1 := hf.h1
  have hH2 := hf.h2
  have hnr := hf.nr
  have hnr' := hf.nr'
  have hnf := hf.nf
  have x38 := x37.trans xu
  clear he hge xu hk T4 t4iff
  have riff : rightB d x = true ↔ RightP d x H := by rw [rightB_iff, hH]; exact ⟨fun h => h.2, fun h => ⟨hF, h⟩⟩
  have noR : ¬ RightP d x H → rightB d x = false := fun h => Bool.eq_false_iff.2 fun e => h (riff.1 e)
  refine fldA ?_
  refine ld (.slice A1 n1 c1) ((B_d.ext x38).cell rfl) ?_
  refine len ?_
  -- what is lost
  refine loop_rule (fun i : Nat => [(75, iv (i : Int))]) (fun i v => i ≤ n1 ∧ Ext u v ∧ ∀ i' k, i' < i → k < H → admB (rch d i') (g2 x.inn i' k) (g2 x.evap i' k) (g2 x.seep i' k) = true) (fun i _ => n1 - i) 0 ⟨rfl, trivial⟩ ⟨by omega, .refl _ _, fun i' k h => absurd h (Nat.not_lt_zero _)⟩ rfl ?_
  rintro G2 i v ⟨hi, xv, hadm⟩
  refine cD (fun hlt => ?_) (fun hge => ?_)
  · have hlt : i < n1 := by omega
    have hin : i < d.reaches.length := by omega
    obtain ⟨b, o, cs, r, rfl, hrx, -, -, hc, rfl⟩ := (hr.ext (x3.trans (x38.trans xv))).at_ hlt
    have hrr := rch_eq hrx
    obtain ⟨-, hlo, -, -⟩ := hf.at_ hrx
    refine idx i rfl hlt ?_
    refine ldA r.c hc rfl ?_
    refine alloc (fun t v1 g1' => ?_)
    refine stA (vs := r.c) g1'.blk rfl (Nat.le_of_ble_eq_true rfl) (by simp [Value.oneCell']) (fun v2 tb s2 zv2 => ?_)
    have t1 := g1'.at_
    have xv2 : Ext v v2 := g1'.ext.then s2 fun b hb _ e => by omega
    have xa : Ext w3 v2 := x38.trans (xv.trans xv2)
    obtain ⟨f3, p3, R3, s3, u3, hA3, cc3, r3, -⟩ := row_at (i3.ext (x3.trans xa)) (i := i) (by have := (tabB_iff.1 hf.inn).1; omega)
    have q3 := r3.len
    have n3' := numB_iff.1 (tab_row hf.inn hin).2
    subst hA3
    refine fldA ?_
    refine ld _ ((B_x.ext xa).cell rfl) ?_
    refine idx i rfl (by have := (tabB_iff.1 hf.inn).1; omega) ?_
    refine ld _ cc3 ?_
    refine len ?_
    refine loop_rule (fun k : Nat => [(86, iv (k : Int))]) (fun k v' => k ≤ s3 ∧ Ext v2 v' ∧ ∀ k', k' < k → admB r (g2 x.inn i k') (g2 x.evap i k') (g2 x.seep i k') = true) (fun k _ => s3 - k) 0 ⟨rfl, trivial⟩ ⟨by omega, .refl _ _, fun k h => absurd h (Nat.not_lt_zero _)⟩ rfl ?_
    rintro G3 k v' ⟨hk, xv', hadm'⟩
    refine cD (fun hlt2 => ?_) (fun hge2 => ?_)
    · have hlt2 : k < s3 := by omega
      have hkH : k < H := by omega
      have xb := xa.trans xv'
      obtain ⟨va, vb, rfl, v3⟩ := num_at (r3.ext xv') (k := k) hlt2
      obtain ⟨f4, p4, R4, s4, u4, hA4, cc4, r4, -⟩ := row_at (i4.ext (x3.trans xb)) (i := i) (by have := (tabB_iff.1 hf.evap).1; omega)
      obtain ⟨f5, p5, R5, s5, u5, hA5, cc5, r5, -⟩ := row_at (i5.ext (x3.trans xb)) (i := i) (by have := (tabB_iff.1 hf.seep).1; omega)
      have q4 := r4.len
      have q5 := r5.len
      have n4' := numB_iff.1 (tab_row hf.evap hin).2
      have n5' := numB_iff.1 (tab_row hf.seep hin).2
      obtain ⟨wa, wb, rfl, v4⟩ := num_at r4 (k := k) (by omega)
      obtain ⟨ya, yb, rfl, v5⟩ := num_at r5 (k := k) (by omega)
      subst hA4
      subst hA5
      refine idx k rfl (by omega) ?_
      refine ld _ v3 ?_
      refine drawX [0, 1, 2, 3, 4, 5, 6, 7, 8, 9, 10, 11, 12, 13, 14, 15, 16, 17, 18, 19] [18] mx (by kernel_rfl) ?_
      refine ldAX r.c (.blk (tb.ext xv')) rfl (.refl _ _) ?_
      refine fldA ?_
      refine ldX _ ((B_x.ext xb).cell rfl) (.refl _ _) ?_
      refine idx i rfl (by have := (tabB_iff.1 hf.evap).1; omega) ?_
      refine ldX _ cc4 (.refl _ _) ?_
      refine idx k rfl (by omega) ?_
      refine ldX _ v4 (.refl _ _) ?_
      refine fldA ?_
      refine ldX _ ((B_x.ext xb).cell rfl) (.refl _ _) ?_
      refine idx i rfl (by have := (tabB_iff.1 hf.seep).1; omega) ?_
      refine ldX _ cc5 (.refl _ _) ?_
      refine idx k rfl (by omega) ?_
      refine ldX _ v5 (.refl _ _) ?_
      refine callE (c_adm (r := r) (v := g2 x.inn i k) (e := g2 x.evap i k) (s := g2 x.seep i k) hlo (tab_val hf.inn hin hkH) (tab_val hf.evap hin hkH) (tab_val hf.seep hin hkH)) (fun v9 ha x9 => ?_) (fun v9 ha x9 => ?_)
      · refine strS x9 ?_
        refine arI (by omega) ?_
        refine next (k + 1) ⟨by rw [Int.natCast_add]; rfl, trivial⟩ ⟨by omega, xv'.trans x9, fun k' hk' => ?_⟩ (by omega)
        by_cases e : k' = k
        · subst e; exact ha
        · exact hadm' k' (by omega)
      · refine strS x9 ?_
        exact no rfl (xb.trans x9) (m0 _) (noR fun h => by have := h.adm i k hin hkH; rw [hrr, ha] at this; exact Bool.noConfusion this) fun _ h => h
    · refine arI (by have := hr.le; omega) ?_
      refine next (i + 1) ⟨by rw [Int.natCast_add]; rfl, trivial⟩ ⟨by omega, xv.trans (xv2.trans xv'), fun i' k' hi' hk' => ?_⟩ (by omega)
      by_cases e : i' = i
      · subst e; rw [hrr]; exact hadm' k' (by omega)
      · exact hadm i' k' (by omega) hk'
  have hadmA : ∀ i k, i < d.reaches.length → k < H → admB (rch d i) (g2 x.inn i k) (g2 x.evap i k) (g2 x.seep i k) = true := fun i' k h1 h2 => hadm i' k (by omega) h2
  clear hadm hge hi
  have xv8 := x38.trans xv
  refine fldA ?_
  refine fldA ?_
  refine ld (iv d.start) ((B_d.ext xv8).cell rfl) ?_
  refine fldA ?_
  refine ld (iv d.hours) ((B_d.ext xv8).cell rfl) ?_
  rw [hHi]
  have hhd := headOk_iff.1 (validB_iff.1 hv).1
  refine loopD (fun (k : Nat) (s : Int) => [(118, iv (k : Int)), (11, iv s)]) (fun k s ds u => k ≤ H ∧ Ext v u ∧ s = storeN d x k ∧ Marks w3.heap.size ds u ∧ (0 ≤ s ∧ s ≤ d.cap) ∧ ∀ h, h < k → (0 ≤ storeN d x (h + 1) ∧ storeN d x (h + 1) ≤ d.cap) ∧ ∀ i, i < d.reaches.length → balI d x i h = true) (fun k _ _ => H - k) 0 d.start ⟨rfl, rfl, trivial⟩
    ⟨by omega, .refl _ _, rfl, trivial, by omega, fun h hh => absurd hh (Nat.not_lt_zero _)⟩ ?_
  rintro G4 k s ds u ⟨hk, xu, hs, hm, hsb, hall⟩
  refine cD (fun hlt => ?_) (fun hge => ?_)
  · have hkH : k < H := by omega
    have xa := xv8.trans xu
    have xw := x3.trans xa
    obtain ⟨fa, fb, rfl, v1⟩ := num_at (i1.ext xw) (k := k) (by have := (numB_iff.1 hf.inflow).1; omega)
    obtain ⟨ga, gb, rfl, v2⟩ := num_at (i2.ext xw) (k := k) (by have := (numB_iff.1 hf.spill).1; omega)
    obtain ⟨f3, p3, R3, s3, u3, hA3, cc3, r3, -⟩ := row_at (i3.ext xw) (i := 0) (by have := (tabB_iff.1 hf.inn).1; omega)
    have q3 := r3.len
    have n3' := numB_iff.1 (tab_row hf.inn hnr).2
    obtain ⟨ya, yb, rfl, v3⟩ := num_at r3 (k := k) (by omega)
    subst hA3
    have b1 := (num_val hf.inflow hkH).2
    have b2 := (num_val hf.spill hkH).2
    have b3 := tab_val hf.inn hnr hkH
    refine drawX [0, 1, 2, 3, 4, 5, 6, 7, 8, 9, 10, 11, 12, 13, 14, 15, 16, 17, 18, 19, 20, 21, 22] [18, 19] mx (by kernel_rfl) ?_
    refine fldA ?_
    refine ldX _ ((B_x.ext xa).cell rfl) (.refl _ _) ?_
    refine idx k rfl (by have := (numB_iff.1 hf.inflow).1; omega) ?_
    refine ldX _ v1 (.refl _ _) ?_
    refine fldA ?_
    refine ldX _ ((B_x.ext xa).cell rfl) (.refl _ _) ?_
    refine idx k rfl (by have := (numB_iff.1 hf.spill).1; omega) ?_
    refine ldX _ v2 (.refl _ _) ?_
    refine fldA ?_
    refine ldX _ ((B_x.ext xa).cell rfl) (.refl _ _) ?_
    refine idx 0 rfl (by have := (tabB_iff.1 hf.inn).1; omega) ?_
    refine ldX _ cc3 (.refl _ _) ?_
    refine idx k rfl (by omega) ?_
    refine ldX _ v3 (.refl _ _) ?_
    refine lit [iv (g1 x.spill k), iv (g2 x.inn 0 k)] (fun gl u1 hl1 => ?_)
    refine strS hl1.ext ?_
    have hsl : SlR tInt (fun _ => True) u1 (some (ad gl 0)) 2 [g1 x.spill k, g2 x.inn 0 k] := SlR.of_cells rfl (by omega) trivial (.blk hl1.blk) (flat_ints (xs := [g1 x.spill k, g2 x.inn 0 k]) fun y hy => by
      simp only [List.mem_cons, List.not_mem_nil, or_false] at hy
      unfold I64
      rcases hy with rfl | rfl <;> omega)
    refine call_of (c_total hsl (fun y hy => by
      simp only [List.mem_cons, List.not_mem_nil, or_false] at hy
      rcases hy with rfl | rfl
      · exact b2
      · exact b3) (by omega)) ?_
    rintro _ u1' ⟨rfl, hu1⟩
    rw [hu1]
    clear hu1 u1'
    refine strS hl1.ext ?_
    have hsum : [g1 x.spill k, g2 x.inn 0 k].sum = g1 x.spill k + g2 x.inn 0 k := by simp
    refine arE (g1 x.inflow k - (g1 x.spill k + g2 x.inn 0 k)) (by rw [hsum]) (by omega) ?_
    have hcap := hhd.2.2.1
    refine arE (storeN d x (k + 1)) (by rw [hs]; show _ = storeN d x k + g1 x.inflow k - g1 x.spill k - g2 x.inn 0 k; omega) (by
      show _ ≤ storeN d x k + g1 x.inflow k - g1 x.spill k - g2 x.inn 0 k ∧ storeN d x k + g1 x.inflow k - g1 x.spill k - g2 x.inn 0 k ≤ _
      omega) ?_
    have xb := xa.trans hl1.ext
    refine cD (fun g1' => ?_) (fun g1' => ?_)
    · exact no rfl xb (hm.ext hl1.ext) (noR fun h => by have := h.sto k hkH; omega) fun _ h => h
    refine fldA ?_
    refine fldA ?_
    refine ld (iv d.cap) ((B_d.ext xb).cell rfl) ?_
    refine cD (fun g2' => ?_) (fun g2' => ?_)
    · exact no rfl xb (hm.ext hl1.ext) (noR fun h => by have := h.sto k hkH; omega) fun _ h => h
    -- the map
    refine mmap (fun gm u2 hgm hu2 => ?_)
    have xm : Ext u1 u2 := by rw [hu2]; exact Kept.alloc _ _ _
    have M2 : MapG kv2 u2 gm (fun _ => none) := by rw [hu2, hgm]; exact MapG.new kv2 u1
    refine alloc (fun gv u3' h3' => ?_)
    refine st1 h3'.blk rfl (fun u4 V4 k4' => ?_)
    have y1 := h3'.at_
    have y2 := xm.size
    have y3 := h3'.size
    have y4 := k4'.size
    have x34 : Ext u2 u4 := h3'.ext.then k4' fun b hb _ e => by omega
    have M4 := M2.kept x34 trivial
    have xc := (xb.trans xm).trans x34
    have hgml : gm < u2.heap.size := M2.lt
    refine ldA _ (.blk (B_d.ext xc)) rfl ?_
    refine ldA _ (.blk (B_x.ext xc)) rfl ?_
    refine call_of (c_moves (hd.ext (x3.trans xc)) (hx.ext (x3.trans xc)) hf hkH) ?_
    rintro _ u5 ⟨Am, nm, cm, rfl, om⟩
    have x45 := om.ext
    have M5 := M4.kept x45 trivial
    have V5 := V4.ext x45
    have hml := om.own.len
    rw [mvs_len] at hml
    have hmb := prefL_len (d := d) (x := x) (hour := k) hnr' hnf d.reaches.length
    have hmb : (movesL d x k).length ≤ 42691 := Nat.le_trans hmb (by omega)
    have y34 := x34.size
    have y0 := xb.size
    have y45 := x45.size
    have hgm5 : gm ≠ gv := by omega
    have hgmq : q ≠ gm := by omega
    have sm : SlR tMv (fun b => b ≠ gm) u5 Am nm (movesL d x k) := om.own.rd flat_mvs (by omega) (by omega) (fun g hg e => by have := om.new g hg; omega)
    have okm := hf.okMoves hkH
    refine len ?_
    refine loop_rule (fun j : Nat => [(158, iv (j : Int))]) (fun j v' => j ≤ nm ∧ Kept (fun b => b ≠ gm) u5 v' ∧ ∃ f, MapG kv2 v' gm f ∧ ∀ key, (f key).getD (iv 0) = iv (outN ((movesL d x k).take j) key)) (fun j _ => nm - j) 0 ⟨rfl, trivial⟩ ⟨by omega, .refl _ _, _, M5, fun key => rfl⟩ rfl ?_
    rintro G5 j v' ⟨hj, kv', f, Mf, hfv⟩
    refine cD (fun hltj => ?_) (fun hgej => ?_)
    · have hltj : j < nm := by omega
      obtain ⟨b, o, cs, m, rfl, hmj, -, -, hc', rfl⟩ := (sm.kept kv' fun b _ hb => hb).at_ hltj
      have hml2 := okm m (List.mem_of_getElem? hmj)
      refine idx j rfl hltj ?_
      refine ldA m.c hc' rfl ?_
      refine alloc (fun t v1' h1'' => ?_)
      refine stA (vs := m.c) h1''.blk rfl (Nat.le_of_ble_eq_true rfl) (by simp [Value.oneCell']) (fun v2' tb s2 zs => ?_)
      have t1 := h1''.at_
      have hgml2 := Mf.lt
      have xv2 : Ext v' v2' := h1''.ext.then s2 fun b hb _ e => by omega
      have htg : t ≠ gm := by omega
      have kv2' := kv'.ext xv2
      have Vv := V5.kept kv2' (Ne.symm hgm5)
      have Mf2 := Mf.kept xv2 trivial
      have hold := outN_le (okM_take okm j) m.frm
      have hlt' : ((movesL d x k).take j).length ≤ 42691 := Nat.le_trans (List.length_take_le _ _) (by omega)
      refine drawP (.take 0 (.take 1 (.take 2 (.take 3 (.take 4 (.take 5 (.take 6 (.eff 7 (.take 8 (.bar (.eff 9 .done))))))))))) [9] (fun y => Kept (fun b => b ≠ gm) v2' y ∧ ∃ f', MapG kv2 y gm f' ∧ (f' m.frm).getD (iv 0) = iv (outN ((movesL d x k).take j) m.frm)) mx (by kernel_rfl) ⟨.refl _ _, f, Mf2, hfv _⟩ ?_
      refine ldS (.map (some gm)) (fun y hy => hy.1.cell (Vv.cell rfl) (Ne.symm hgm5)) ?_
      refine fldA ?_
      refine ldAS [iv m.frm.1, iv m.frm.2] (fun y hy => ((CellsAt.blk tb).mid 0 2).kept hy.1 htg) rfl ?_
      refine lookG1 (kv := kv2) m.frm (iv (outN ((movesL d x k).take j) m.frm)) (fun y hy => hy.2) ?_
      refine fldA ?_
      refine ldS (iv m.litres) (fun y hy => hy.1.cell (tb.cell rfl) htg) ?_
      refine arI (by omega) ?_
      refine mentG (kv := kv2) m.frm Mf2 (fun y s' MS ks zs' => ?_)
      refine strS ⟨ks, _, MS.g, ?_⟩ ?_
      · unfold pset; rw [if_pos rfl]; exact hfv _
      refine barS (fun _ => True) trivial ?_
      refine estoG MS (fun y2 M' ks2 zs2 => ?_)
      refine strS trivial ?_
      refine arI (by omega) ?_
      refine next (j + 1) ⟨by rw [Int.natCast_add]; rfl, trivial⟩ ⟨by omega, (kv2'.trans ks).trans ks2, _, M', fun key => ?_⟩ (by omega)
      have htk : (movesL d x k).take (j + 1) = (movesL d x k).take j ++ [m] := by rw [List.take_add_one, hmj]; rfl
      rw [htk, outN_app, outN_one]
      unfold pset
      by_cases hkey : key = m.frm
      · subst hkey; rw [if_pos rfl, if_pos rfl]; rfl
      · rw [if_neg hkey, if_neg hkey, if_neg (fun e => hkey e.symm), hfv, Int.add_zero]
    have hjn : j = (movesL d x k).length := by omega
    rw [hjn, List.take_length] at hfv
    clear hgej
    have xd : Ext w3 v' := (xc.trans x45).then kv' fun b hb _ e => by omega
    have Vv := V5.kept kv' (Ne.symm hgm5)
    refine ldA _ (.blk (B_d.ext xd)) rfl ?_
    refine ldA _ (.blk (B_x.ext xd)) rfl ?_
    refine call_of (c_arriving (hour := k) (hd.ext (x3.trans xd)) (hx.ext (x3.trans xd))) ?_
    rintro _ w11 ⟨bd', bh', bx', rfl, x11, E11, y11, y12, y13, y14, y15, y16⟩
    have hvs := xd.size
    have hv11 := x11.size
    have hgv11 := Vv.lt
    refine range (gf := 75) (lb := #[ptr bd', ptr bh', ptr bx']) rfl (fun fn tmps w12 R hR hF' hwf x12 z12 hD12 hl12 => ?_)
    show CallZ _ _ #[.func (.yield (w11.heap.size + 1)) #[] #[], ptr bd', ptr bh', ptr bx'] w12 _
    have x1112 := x11.trans x12
    have V12 := Vv.ext x1112
    have M12 := Mf.kept x1112 trivial
    have hgm12 := Mf.lt
    refine (c_arr1 (D := fun b => b < w.heap.size) (csd := _) (csx := _) (H := H) (fun i y => Kept (fun b => b ≠ w11.heap.size + 1) w12 y ∧ LoopAt y (w11.heap.size + 1) R ∧ ∀ i', i' < i → balI d x i' k = true)
      (fun y => ∃ r, LoopAt y (w11.heap.size + 1) r ∧ r.state ≠ .busy ∧ r.pending = some .ret ∧ Kept (fun b => b ≠ w11.heap.size + 1 ∧ b ≠ q) w12 y ∧ Blk y q 4 [.bool false] ∧ rightB d x = false)
      (fun i y hj => (E11.ext x12).kept hj.1 (by omega) (by omega) (by omega) fun b _ hb => by omega)
      (fun i y y' hj xx => ⟨hj.1.ext xx, hj.2.1.kept xx trivial, hj.2.2⟩) hf hkH ?_ ⟨.refl _ _, hl12, fun i' h => absurd h (Nat.not_lt_zero _)⟩).mono ?_
    · rintro i y hi ⟨ky, ly, hbal⟩
      have hys := ky.size
      subst hR
      refine yield_rule (args := [iv (i : Int), pv (parc d x k i)]) ly rfl rfl hF' hwf ?_
      refine alloc (fun p y1' g1' => ?_)
      refine stA (vs := [iv (parc d x k i).1, iv (parc d x k i).2.1, iv (parc d x k i).2.2]) g1'.blk rfl (Nat.le_of_ble_eq_true rfl) (by simp [Value.oneCell']) (fun y2' pb2 s2 zu2 => ?_)
      have p1 := g1'.at_
      have xy2 : Ext y y2' := g1'.ext.then s2 fun b hb _ e => by omega
      refine mid' (ly.kept xy2 trivial) (fun y3' s3' zs3 ly3 => ?_)
      have ky3 : Kept (fun b => b ≠ w11.heap.size + 1) w12 y3' := (ky.ext xy2).then s3' fun b _ h => h
      have hpL : p ≠ w11.heap.size + 1 := by omega
      have pb3 := pb2.kept s3' hpL
      have V3 := V12.kept ky3 (by omega)
      have Mf3 := M12.kept ky3 (by omega)
      refine drawQ mx (by kernel_rfl) ?_
      refine ld _ (V3.cell rfl) ?_
      refine bld [iv 2, iv (i : Int)] (by kernel_rfl) ?_
      refine lookG1 (kv := kv2) (2, (i : Int)) (iv (outN (movesL d x k) (2, (i : Int)))) (fun y hy => ⟨f, by rw [hy]; exact Mf3, hfv _⟩) ?_
      refine fldA ?_
      refine ld (iv (parc d x k i).1) (pb3.cell rfl) ?_
      have hout := out_moves (d := d) (x := x) (hour := k) hi
      refine cN (fun hne => ?_) (fun heq => ?_)
      · have hbf : rightB d x = false := noR fun h => by
          have := h.bal i k hi hkH
          unfold balI at this
          rw [decide_eq_true_eq] at this
          omega
        refine st1 ((B_q.ext (xd.trans x1112)).kept ky3 (by omega)) rfl (fun y4' q4 s4 => ?_)
        refine roundR' _ (ly3.kept s4 (by omega)) (fun y5' s5 l5 => ?_)
        refine .inr ⟨rfl, _, l5, by simp, rfl, ?_, q4.kept s5 (by omega), hbf⟩
        exact ((ky3.weak fun b _ h => h.1).trans (s4.weak fun b _ h => h.2)).trans (s5.weak fun b _ h => h.1)
      · refine roundN' _ ly3 (fun y4' s4 l4 => ?_)
        refine .inl ⟨rfl, ky3.then s4 (fun b _ h => h), l4, fun i' hi' => ?_⟩
        by_cases e : i' = i
        · subst e; unfold balI; rw [decide_eq_true_eq]; omega
        · exact hbal i' (by omega)
    · rintro _ y (⟨ky, ly, hbal⟩ | ⟨r, ly, hr1, hr2, ky, qy, hbf⟩)
      · subst hR
        refine range_end _ ly (by simp) (fun y1' s1' => ?_)
        have ky1 : Kept (fun b => b ≠ w11.heap.size + 1) w12 y1' := ky.then s1' fun b _ h => h
        have xn : Ext u y1' := ((((hl1.ext.trans xm).trans x34).trans x45).then kv' fun b hb _ e => by have := hl1.size; omega).trans (x1112.then ky1 fun b hb _ e => by omega)
        have hD1 : y1'.heap[w11.heap.size]? = some (.deferred (some [])) := (ky1.blk _ (by omega) (by omega)).trans hD12
        refine arI (by omega) ?_
        have hxs : u.heap.size ≤ w11.heap.size := by have := xm.size; have := hl1.size; have := x45.size; have := kv'.size; omega
        refine nextD (k + 1) (storeN d x (k + 1)) ⟨by rw [Int.natCast_add]; rfl, rfl, trivial⟩ ⟨by omega, xu.trans xn, rfl, hm.add xn hxs (by omega) hD1, by omega, fun h hh => ?_⟩ (by omega)
        by_cases e : h = k
        · subst e; exact ⟨by omega, hbal⟩
        · exact hall h (by omega)
      · refine range_end r ly hr1 (fun y1' s1' => ?_)
        rw [hr2]
        have ky1 : Kept (fun b => b ≠ w11.heap.size + 1 ∧ b ≠ q) w12 y1' := ky.then s1' fun b _ h => h.1
        have hD1 : y1'.heap[w11.heap.size]? = some (.deferred (some [])) := (ky1.blk _ (by omega) ⟨by omega, by omega⟩).trans hD12
        have hxs : u.heap.size ≤ w11.heap.size := by have := xm.size; have := hl1.size; have := x45.size; have := kv'.size; omega
        have xn0 : Ext u w12 := ((((hl1.ext.trans xm).trans x34).trans x45).then kv' fun b hb _ e => by have := hl1.size; omega).trans x1112
        have m12 := hm.add (b := w11.heap.size) xn0 hxs (by omega) hD12
        have m13 := m12.kept ky1 (fun b hb hbl hob => ⟨(fun e => by subst e; rw [hl12] at hob; cases hob), by omega⟩)
        refine retMs m13 (fun y2' k2' => ?_)
        refine resL _ (holds_cell (((qy.kept s1' (by omega)).kept k2' (by omega)).cell rfl)) ?_
        refine ⟨by rw [hbf]; rfl, ?_⟩
        exact (((x3.trans (xd.trans x1112)).then ky1 fun b hb _ => ⟨by omega, by omega⟩).then k2' fun b hb _ => by omega)
  · refine st1 (B_q.ext (xv8.trans xu)) rfl (fun u' q' k' => ?_)
    refine retMs (lo := w3.heap.size) (hm.kept k' (fun b h1 _ _ e => by omega)) (fun u'' k'' => ?_)
    refine resL _ (holds_cell ((q'.kept k'' (by omega)).cell rfl)) ?_
    have hkH : k = H := by omega
    subst hkH
    refine ⟨by rw [riff.2 ⟨hadmA, fun i h h1 h2 => (hall h h2).2 i h1, fun h h1 => (hall h h1).1⟩]; rfl, ?_⟩
    exact (((x3.trans (xv8.trans xu)).then k' fun b hb _ e => by omega).then k'' fun b hb _ => by omega)
end
end Go.Proofs.Ytffdjecdcbbfaaa

/- Layer 23: contracts of Check and Store. -/
namespace Go.Proofs.Ytffdjecdcbbfaaa
open Go Go.RowKit

def wide (d : Dist) : Bool := decide ((d.reaches.length : Int) * d.hours > 1024) || decide ((d.farms.length : Int) * d.hours > 4096)
def bErr (d : Dist) (x : Run) : Int := if dErr d ≠ 0 then dErr d else if wide d then 2 else if rightB d x then 0 else 230
theorem dErr_ok {d : Dist} : dErr d = 0 ↔ tooMany d = false ∧ validB d = true := by unfold dErr; cases tooMany d <;> cases validB d <;> simp
theorem bErr_ok {d : Dist} {x : Run} : bErr d x = 0 ↔ (tooMany d = false ∧ validB d = true) ∧ wide d = false ∧ rightB d x = true := by
  rw [← dErr_ok]; unfold bErr
  by_cases h : dErr d = 0
  · rw [if_neg (by simpa using h)]; cases wide d <;> cases rightB d x <;> simp [h]
  · rw [if_pos h]; simp [h]
theorem valid_bounds {d : Dist} (ht : tooMany d = false) (hv : validB d = true) : (d.reaches.length ≤ 64 ∧ d.farms.length ≤ 600) ∧ 1 ≤ d.hours ∧ d.hours ≤ 4096 := by
  have h1 := (headOk_iff.1 (validB_iff.1 hv).1).1
  unfold tooMany at ht; simp at ht; omega
/-- What a right run of a valid district gives. -/
theorem bErr_fm {d : Dist} {x : Run} (h : bErr d x = 0) : Fm d x d.hours.toNat ∧ RightP d x d.hours.toNat := by
  obtain ⟨⟨h1, h2⟩, -, h4⟩ := bErr_ok.1 h
  obtain ⟨h5, h6⟩ := rightB_iff.1 h4
  exact ⟨Fm.of h2 h1 h5, h6⟩
def storeV (d : Dist) (x : Run) (hour : Int) : Int × Int := if bErr d x ≠ 0 then (0, bErr d x) else if hour < 0 ∨ hour > d.hours then (0, 1) else (storeN d x hour.toNat, 0)
theorem sum_take {l : List Int} {k : Nat} (h : k < l.length) : (l.take (k + 1)).sum = (l.take k).sum + g1 l k := by
  have : l[k]? = some l[k] := List.getElem?_eq_getElem h
  have e : g1 l k = l[k] := by unfold g1; rw [List.getD_eq_getElem?_getD, this]; rfl
  rw [List.take_add_one, this, List.sum_append, e]; simp
theorem store_sums {d : Dist} {x : Run} {H : Nat} (hf : Fm d x H) : ∀ k, k ≤ H → storeN d x k = d.start + (x.inflow.take k).sum - (x.spill.take k).sum - ((x.inn.getD 0 []).take k).sum
  | 0, _ => by simp [storeN]
  | k + 1, hk => by
    have h1 := (numB_iff.1 hf.inflow).1
    have h2 := (numB_iff.1 hf.spill).1
    have h3 := (numB_iff.1 (tab_row hf.inn hf.nr).2).1
    rw [sum_take (by omega), sum_take (by omega), sum_take (by omega)]
    show storeN d x k + g1 x.inflow k - g1 x.spill k - g2 x.inn 0 k = _
    rw [store_sums hf k (by omega)]
    unfold g2
    omega
theorem sum_bound : ∀ {l : List Int}, (∀ x ∈ l, 0 ≤ x ∧ x ≤ 1073741824) → 0 ≤ l.sum ∧ l.sum ≤ l.length * 1073741824
  | [], _ => by simp
  | x :: l, h => by
    have h1 := h x List.mem_cons_self
    have h2 := sum_bound (l := l) fun y hy => h y (List.mem_cons_of_mem _ hy)
    rw [List.sum_cons, List.length_cons]; omega
section
variable {D : Nat → Prop} {w : World}
theorem c_bCheck {csd csx : List Value} {d : Dist} {x : Run} (hd : DiR D w csd d) (hx : RuR D w csx x) : CallZ Try.prog 14 #[.agg csd.toArray, .agg csx.toArray] w
    (fun v w' => v = iv (bErr d x) ∧ Ext w w') := by
  obtain ⟨A1, n1, c1, A2, n2, c2, A3, n3, c3, A4, n4, c4, A5, n5, c5, A6, n6, c6, rfl, hr, hfa, -⟩ := hd.ex
  obtain ⟨B1, m1, e1, B2, m2, e2, B3, m3, e3, B4, m4, e4, B5, m5, e5, B6, m6, e6, B7, m7, e7, rfl, -⟩ := hx.ex
  have ln := hr.len
  have lf := hfa.len
  refine fn_rule (args := [.agg #[.string d.name, iv d.hours, iv d.cap, iv d.start, .slice A1 n1 c1, .slice A2 n2 c2, .slice A3 n3 c3, .slice A4 n4 c4, .slice A5 n5 c5, .slice A6 n6 c6], .agg #[.slice B1 m1 e1, .slice B2 m2 e2, .slice B3 m3 e3, .slice B4 m4 e4, .slice B5 m5 e5, .slice B6 m6 e6, .slice B7 m7 e7]]) Try.func14 (by kernel_rfl) ?_
  refine box (fun bd w1 h1 => ?_)
  refine box (fun bx w2 h2 => ?_)
  have x2 := h1.ext.trans h2.ext
  have Bd := h1.blk.ext h2.ext
  have Bx := h2.blk
  refine ldA _ (.blk Bd) rfl ?_
  refine call_of (c_eCheck (hd.ext x2)) ?_
  rintro _ w3 ⟨rfl, x3⟩
  have x23 := x2.trans x3
  refine cN (fun q1 => ?_) (fun q1 => ?_)
  · exact ret1 (iv (dErr d)) rfl ⟨by unfold bErr; rw [if_pos q1], x23⟩
  obtain ⟨ht, hv⟩ := dErr_ok.1 q1
  obtain ⟨⟨b1, b2⟩, b3, b4⟩ := valid_bounds ht hv
  have p1 := prod_lt (x := (n1 : Int)) (y := d.hours) (by omega) (by omega)
  have p2 := prod_lt (x := (n2 : Int)) (y := d.hours) (by omega) (by omega)
  refine fldA ?_
  refine ld (.slice A1 n1 c1) ((Bd.ext x3).cell rfl) ?_
  refine len ?_
  refine fldA ?_
  refine ld (iv d.hours) ((Bd.ext x3).cell rfl) ?_
  refine arI (by omega) ?_
  have e0 : dErr d = 0 := q1
  refine cD (fun q2 => ?_) (fun q2 => ?_)
  · exact ret1 (iv 2) rfl ⟨by unfold bErr wide; rw [if_neg (by simpa using e0), ln, decide_eq_true q2]; rfl, x23⟩
  refine fldA ?_
  refine ld (.slice A2 n2 c2) ((Bd.ext x3).cell rfl) ?_
  refine len ?_
  refine fldA ?_
  refine ld (iv d.hours) ((Bd.ext x3).cell rfl) ?_
  refine arI (by omega) ?_
  refine cD (fun q3 => ?_) (fun q3 => ?_)
  · exact ret1 (iv 2) rfl ⟨by unfold bErr wide; rw [if_neg (by simpa using e0), lf, decide_eq_true q3, Bool.or_true]; rfl, x23⟩
  have hw : wide d = false := by unfold wide; rw [ln, lf, decide_eq_false q2, decide_eq_false q3]; rfl
  refine ldA _ (.blk (Bd.ext x3)) rfl ?_
  refine ldA _ (.blk (Bx.ext x3)) rfl ?_
  refine callE (c_bright (hd.ext x23) (hx.ext x23) hv ht) (fun w4 q4 x4 => ?_) (fun w4 q4 x4 => ?_)
  · exact ret1 (iv 0) rfl ⟨by unfold bErr; rw [if_neg (by simpa using e0), hw, q4]; rfl, x23.trans x4⟩
  · exact ret1 (iv 230) rfl ⟨by unfold bErr; rw [if_neg (by simpa using e0), hw, q4]; rfl, x23.trans x4⟩
end
end Go.Proofs.Ytffdjecdcbbfaaa

/- Layer 23: the reference's Few: it answers some truth. -/
namespace Go.Proofs.Ytffdjecdcbbfaaa
open Go Go.RowKit

section
variable {D : Nat → Prop} {w : World}
theorem c_r23short {l : List (List Int)} {A : Option Addr} {n c : Nat} (hs : SlR tInts D w A n l) : CallZ Try.prog 27 #[.slice A n c] w (fun v w' => ∃ b, v = .bool b ∧ w' = w) := by
  refine fn_rule (args := [.slice A n c]) Try.func27 (by kernel_rfl) ?_
  refine len ?_
  refine cD (fun g => ?_) (fun g => ?_)
  · exact ret1 (.bool false) rfl ⟨_, rfl, rfl⟩
  refine loop_rule (fun k : Nat => [(3, iv (k : Int))]) (fun k w' => k ≤ n ∧ w' = w) (fun k _ => n - k) 0 ⟨rfl, trivial⟩ ⟨by omega, rfl⟩ rfl ?_
  rintro G k w' ⟨hk, rfl⟩
  refine len ?_
  refine cD (fun hlt => ?_) (fun hge => ?_)
  · obtain ⟨b, o, cs, x, rfl, hx, hdx, -, hc, A2, n2, c2, rfl, hx2, -⟩ := hs.at_ (show k < n by omega)
    refine idx k rfl (by omega) ?_
    refine ld (.slice A2 n2 c2) (hc 0 _ rfl) ?_
    refine len ?_
    refine cD (fun g2 => ?_) (fun g2 => ?_)
    · exact ret1 (.bool false) rfl ⟨_, rfl, rfl⟩
    refine arI (by omega) ?_
    exact next (k + 1) ⟨by rw [Int.natCast_add]; rfl, trivial⟩ ⟨by omega, rfl⟩ (by omega)
  · exact ret1 (.bool true) rfl ⟨_, rfl, rfl⟩
theorem callS {f : FuncId} [h : Enters Try.prog f] {args : Array Value} {K : VK} {X : XK} (c : CallZ Try.prog f args w (fun v w' => ∃ b, v = .bool b ∧ w' = w)) (k1 : K (.bool true) w) (k2 : K (.bool false) w) : CallP Try.prog f args K X w := by
  refine call_of c ?_
  rintro _ _ ⟨b, rfl, rfl⟩
  cases b
  · exact k2
  · exact k1
theorem c_r23Few {csd csx : List Value} {d : Dist} {x : Run} (hd : DiR D w csd d) (hx : RuR D w csx x) : CallZ Try.prog 12 #[.agg csd.toArray, .agg csx.toArray] w (fun v w' => ∃ b, v = .bool b ∧ Ext w w') := by
  obtain ⟨A1, n1, c1, A2, n2, c2, A3, n3, c3, A4, n4, c4, A5, n5, c5, A6, n6, c6, rfl, hr, hfa, -⟩ := hd.ex
  obtain ⟨B1, m1, e1, B2, m2, e2, B3, m3, e3, B4, m4, e4, B5, m5, e5, B6, m6, e6, B7, m7, e7, rfl, i1, i2, i3, i4, i5, i6, i7, -⟩ := hx.ex
  refine fn_rule (args := [.agg #[.string d.name, iv d.hours, iv d.cap, iv d.start, .slice A1 n1 c1, .slice A2 n2 c2, .slice A3 n3 c3, .slice A4 n4 c4, .slice A5 n5 c5, .slice A6 n6 c6], .agg #[.slice B1 m1 e1, .slice B2 m2 e2, .slice B3 m3 e3, .slice B4 m4 e4, .slice B5 m5 e5, .slice B6 m6 e6, .slice B7 m7 e7]]) Try.func12 (by kernel_rfl) ?_
  refine box (fun bd w1 h1 => ?_)
  refine box (fun bx w2 h2 => ?_)
  have x2 := h1.ext.trans h2.ext
  have Bd := h1.blk.ext h2.ext
  have Bx := h2.blk
  refine ldA _ (.blk Bd) rfl ?_
  refine callE (c_r19Few (hd.ext x2)) (fun w3 _ x3 => ?_) (fun w3 _ x3 => ?_)
  rotate_left
  · exact ret1 (.bool false) rfl ⟨false, rfl, x2.trans x3⟩
  have x23 := x2.trans x3
  have Bd3 := Bd.ext x3
  have Bx3 := Bx.ext x3
  have no : ∃ b, Value.bool false = .bool b ∧ Ext w w3 := ⟨false, rfl, x23⟩
  have yes : ∃ b, Value.bool true = .bool b ∧ Ext w w3 := ⟨true, rfl, x23⟩
  all_goals
    refine fldA ?_
    refine ld (.slice A1 n1 c1) (Bd3.cell rfl) ?_
    refine len ?_
    refine cD (fun _ => ?_) (fun _ => ?_)
    refine fldA ?_
    refine ld (.slice A1 n1 c1) (Bd3.cell rfl) ?_
    refine len ?_
    refine cD (fun _ => ?_) (fun _ => ?_)
    exact ret1 (.bool false) rfl no
  all_goals
    refine fldA ?_
    refine ld (.slice A2 n2 c2) (Bd3.cell rfl) ?_
    refine len ?_
    refine cD (fun _ => ?_) (fun _ => ?_)
    refine fldA ?_
    refine ld (.slice A2 n2 c2) (Bd3.cell rfl) ?_
    refine len ?_
    refine cD (fun _ => ?_) (fun _ => ?_)
    exact ret1 (.bool false) rfl no
  all_goals
    refine fldA ?_
    refine ld (iv d.hours) (Bd3.cell rfl) ?_
    refine cD (fun _ => ?_) (fun _ => ?_)
    refine fldA ?_
    refine ld (iv d.hours) (Bd3.cell rfl) ?_
    refine cD (fun _ => ?_) (fun _ => ?_)
    exact ret1 (.bool false) rfl no
  all_goals
    refine fldA ?_
    refine ld (.slice B1 m1 e1) (Bx3.cell rfl) ?_
    refine len ?_
    refine cDr (fun _ => ?_) (fun _ => ?_)
    exact ret1 (.bool false) rfl no
    refine fldA ?_
    refine ld (.slice B2 m2 e2) (Bx3.cell rfl) ?_
    refine len ?_
    refine cDr (fun _ => ?_) (fun _ => ?_)
    exact ret1 (.bool false) rfl no
    refine fldA ?_
    refine ld (.slice B3 m3 e3) (Bx3.cell rfl) ?_
    refine callS (c_r23short (i3.ext x23)) ?_ ?_
    rotate_left
    exact ret1 (.bool false) rfl no
    refine fldA ?_
    refine ld (.slice B4 m4 e4) (Bx3.cell rfl) ?_
    refine callS (c_r23short (i4.ext x23)) ?_ ?_
    rotate_left
    exact ret1 (.bool false) rfl no
    refine fldA ?_
    refine ld (.slice B5 m5 e5) (Bx3.cell rfl) ?_
    refine callS (c_r23short (i5.ext x23)) ?_ ?_
    rotate_left
    exact ret1 (.bool false) rfl no
    refine fldA ?_
    refine ld (.slice B6 m6 e6) (Bx3.cell rfl) ?_
    refine callS (c_r23short (i6.ext x23)) ?_ ?_
    rotate_left
    exact ret1 (.bool false) rfl no
    refine fldA ?_
    refine ld (.slice B7 m7 e7) (Bx3.cell rfl) ?_
    refine callS (c_r23short (i7.ext x23)) ?_ ?_
    rotate_left
    exact ret1 (.bool false) rfl no
    exact ret1 (.bool true) rfl yes
end
end Go.Proofs.Ytffdjecdcbbfaaa

/- Losses, plainly: what arrives does not decrease with the parcel; the least parcel of which so much arrives, by halving. -/
namespace Go.Proofs.Ytffdjecdcbbfaaa
open Go Go.RowKit

/-! ### halving -/
/-- From lo on, the first number for which p holds is res; none up to hi if res is hi. -/
structure First (p : Int → Bool) (lo hi res : Int) : Prop where
  le : lo ≤ res
  ge : res ≤ hi
  no : ∀ v, lo ≤ v → v < res → p v = false
  yes : res < hi → p res = true
theorem First.uniq {p : Int → Bool} {lo hi a b : Int} (h : First p lo hi a) (k : First p lo hi b) : a = b := by
  rcases Int.lt_trichotomy a b with h1 | h1 | h1
  · have := k.no a h.le h1
    rw [h.yes (by have := k.ge; omega)] at this; cases this
  · exact h1
  · have := h.no b k.le h1
    rw [k.yes (by have := h.ge; omega)] at this; cases this
def bs (p : Int → Bool) : Nat → Int → Int → Int
  | 0, lo, _ => lo
  | n + 1, lo, hi => if lo < hi then (if p ((lo + hi) / 2) then bs p n lo ((lo + hi) / 2) else bs p n ((lo + hi) / 2 + 1) hi) else lo
/-- What halving keeps. -/
structure Half (p : Int → Bool) (a b lo hi : Int) : Prop where
  a_lo : a ≤ lo
  lo_hi : lo ≤ hi
  hi_b : hi ≤ b
  no : ∀ v, a ≤ v → v < lo → p v = false
  yes : hi < b → p hi = true
theorem Half.start {p : Int → Bool} {a b : Int} (h : a ≤ b) : Half p a b a b := ⟨Int.le_refl _, h, Int.le_refl _, fun v h1 h2 => by omega, fun h => by omega⟩
theorem Half.left {p : Int → Bool} {a b lo hi m : Int} (h : Half p a b lo hi) (h1 : lo ≤ m) (h2 : m < hi) (hp : p m = true) : Half p a b lo m := ⟨h.a_lo, h1, by have := h.hi_b; omega, h.no, fun _ => hp⟩
theorem Half.right {p : Int → Bool} {a b lo hi m : Int} (hm : ∀ v v', a ≤ v → v ≤ v' → v' ≤ b → p v = true → p v' = true) (h : Half p a b lo hi) (h1 : lo ≤ m) (h2 : m < hi) (hp : p m = false) : Half p a b (m + 1) hi :=
  ⟨by have := h.a_lo; omega, by omega, h.hi_b, fun v hv hv2 => (by
    cases hpv : p v with
    | false => rfl
    | true => rw [hm v m hv (by omega) (by have := h.hi_b; omega) hpv] at hp; cases hp), h.yes⟩
theorem Half.done {p : Int → Bool} {a b lo hi : Int} (h : Half p a b lo hi) (e : hi ≤ lo) : First p a b lo := by
  have := h.lo_hi
  obtain rfl : lo = hi := by omega
  exact ⟨h.a_lo, h.hi_b, h.no, h.yes⟩
theorem bs_first {p : Int → Bool} {a b : Int} (hm : ∀ v v', a ≤ v → v ≤ v' → v' ≤ b → p v = true → p v' = true) : ∀ (n : Nat) {lo hi : Int}, Half p a b lo hi → hi - lo < 2 ^ n → First p a b (bs p n lo hi)
  | 0, lo, hi, h, hn => h.done (by simp at hn; omega)
  | n + 1, lo, hi, h, hn => by
    unfold bs
    have e : (2 : Int) ^ (n + 1) = 2 * 2 ^ n := by rw [Int.pow_succ]; omega
    by_cases hlt : lo < hi
    · rw [if_pos hlt]
      cases hp : p ((lo + hi) / 2) with
      | true => rw [if_pos rfl]; exact bs_first hm n (h.left (by omega) (by omega) hp) (by omega)
      | false => rw [if_neg (by simp)]; exact bs_first hm n (h.right hm (by omega) (by omega) hp) (by omega)
    · rw [if_neg hlt]; exact h.done (by omega)

/-! ### what arrives -/
def arrB (r : Reach) (v : Int) : Int := v - (lostR r v).lo
def arrW (r : Reach) (v : Int) : Int := v - (lostR r v).hi
section
variable {r : Reach} {v v' w : Int}
theorem floor_mono {n d : Int} (hd : 0 < d) (hn : 0 ≤ n) (hnd : n ≤ d) (h : v ≤ v') : v * n / d ≤ v' * n / d ∧ v' * n / d ≤ v * n / d + (v' - v) := by
  have h1 : v * n ≤ v' * n := Int.mul_le_mul_of_nonneg_right h hn
  have h2 : v' * n ≤ v * n + (v' - v) * d := by
    have : (v' - v) * n ≤ (v' - v) * d := Int.mul_le_mul_of_nonneg_left hnd (by omega)
    rw [Int.sub_mul] at this; omega
  refine ⟨Int.ediv_le_ediv hd h1, ?_⟩
  rw [← Int.add_mul_ediv_right _ _ (by omega)]
  exact Int.ediv_le_ediv hd h2
theorem ceil_mono {n d : Int} (hd : 0 < d) (hnd : n ≤ d) (h : v ≤ v') : upI (v' * n) d ≤ upI (v * n) d + (v' - v) := by
  have h2 : v' * n ≤ v * n + (v' - v) * d := by
    have : (v' - v) * n ≤ (v' - v) * d := Int.mul_le_mul_of_nonneg_left hnd (by omega)
    rw [Int.sub_mul] at this; omega
  unfold upI
  rw [← Int.add_mul_ediv_right _ _ (by omega)]
  exact Int.ediv_le_ediv hd (by omega)
theorem lost_eq (hl : lossOk r = true) (hv : 0 ≤ v) : lostR r v = ⟨min v (r.evap.lo + v * r.s0.n / r.s0.d), if v = 0 then 0 else min v (r.evap.hi + upI (v * r.s1.n) r.s1.d)⟩ := by
  obtain ⟨h1, h2⟩ := lossOk_iff.1 hl
  unfold lostR
  by_cases h : v = 0
  · subst h; rw [if_pos rfl, if_pos rfl, Int.zero_mul, Int.zero_ediv]; congr 1; omega
  · rw [if_neg h, if_neg h]
theorem arrB_mono (hl : lossOk r = true) (hv : 0 ≤ v) (h : v ≤ v') : arrB r v ≤ arrB r v' := by
  obtain ⟨h1, h2⟩ := lossOk_iff.1 hl
  obtain ⟨h3, h4, _⟩ := sharesQ_iff.1 h2
  obtain ⟨q1, q2, q3⟩ := shareQ_iff.1 h3
  obtain ⟨d1, -⟩ := qValid_iff.1 q1
  have f := floor_mono (v := v) (v' := v') (show 0 < r.s0.d by omega) q2 q3 h
  unfold arrB
  rw [lost_eq hl hv, lost_eq hl (by omega)]
  show v - min v _ ≤ v' - min v' _
  omega
theorem arrW_mono (hl : lossOk r = true) (hv : 0 ≤ v) (h : v ≤ v') : arrW r v ≤ arrW r v' := by
  obtain ⟨h1, h2⟩ := lossOk_iff.1 hl
  obtain ⟨h3, h4, _⟩ := sharesQ_iff.1 h2
  obtain ⟨q1, q2, q3⟩ := shareQ_iff.1 h4
  obtain ⟨d1, -⟩ := qValid_iff.1 q1
  have f := ceil_mono (v := v) (v' := v') (show 0 < r.s1.d by omega) q3 h
  have s := share_le (v := v') h4 (by omega)
  unfold arrW
  rw [lost_eq hl hv, lost_eq hl (by omega)]
  show v - (if v = 0 then 0 else _) ≤ v' - (if v' = 0 then 0 else _)
  by_cases e : v = 0
  · rw [if_pos e]
    by_cases e' : v' = 0
    · rw [if_pos e']; omega
    · rw [if_neg e']; omega
  · rw [if_neg e, if_neg (by omega)]; omega
theorem arr_le (hl : lossOk r = true) (hv : 0 ≤ v ∧ v ≤ 1073741824) : 0 ≤ arrW r v ∧ arrW r v ≤ arrB r v ∧ arrB r v ≤ v := by
  have h := lost_le hl hv
  obtain ⟨h1, h2⟩ := lossOk_iff.1 hl
  obtain ⟨h3, h4, h5⟩ := sharesQ_iff.1 h2
  have : (lostR r v).lo ≤ (lostR r v).hi := by
    rw [lost_eq hl hv.1]
    show min v _ ≤ if v = 0 then 0 else min v _
    by_cases e : v = 0
    · rw [if_pos e]; omega
    · rw [if_neg e]
      obtain ⟨q1, q2, q3⟩ := shareQ_iff.1 h3
      obtain ⟨q1', q2', q3'⟩ := shareQ_iff.1 h4
      obtain ⟨d1, -⟩ := qValid_iff.1 q1
      obtain ⟨d1', -⟩ := qValid_iff.1 q1'
      have k : v * r.s0.n / r.s0.d ≤ upI (v * r.s1.n) r.s1.d := by
        have a1 : v * r.s0.n / r.s0.d * r.s0.d ≤ v * r.s0.n := Int.ediv_mul_le _ (by omega)
        have a2 : v * r.s1.n ≤ upI (v * r.s1.n) r.s1.d * r.s1.d := by
          have : v * r.s1.n + r.s1.d - 1 < ((v * r.s1.n + r.s1.d - 1) / r.s1.d + 1) * r.s1.d := Int.lt_ediv_add_one_mul_self _ (by omega)
          unfold upI
          rw [Int.add_mul] at this
          omega
        generalize v * r.s0.n / r.s0.d = x at a1
        generalize upI (v * r.s1.n) r.s1.d = y at a2
        have b1 : x * r.s0.d * r.s1.d ≤ v * r.s0.n * r.s1.d := Int.mul_le_mul_of_nonneg_right a1 (by omega)
        have b2 : v * r.s1.n * r.s0.d ≤ y * r.s1.d * r.s0.d := Int.mul_le_mul_of_nonneg_right a2 (by omega)
        have b3 : v * (r.s0.n * r.s1.d) ≤ v * (r.s1.n * r.s0.d) := Int.mul_le_mul_of_nonneg_left h5 hv.1
        have b4 : x * (r.s0.d * r.s1.d) ≤ y * (r.s0.d * r.s1.d) := by
          rw [← Int.mul_assoc, ← Int.mul_assoc] at b3 ⊢
          rw [Int.mul_right_comm y r.s0.d r.s1.d]
          omega
        exact Int.le_of_mul_le_mul_right b4 (Int.mul_pos (by omega) (by omega))
      omega
  unfold arrW arrB
  omega
/-- The least parcel of which w litres arrive at best (at worst), one more than the greatest one if there is none. -/
def lvB (r : Reach) (w : Int) : Int := bs (fun v => decide (w ≤ arrB r v)) 31 0 1073741825
def lvW (r : Reach) (w : Int) : Int := bs (fun v => decide (w ≤ arrW r v)) 31 0 1073741825
theorem lvB_first (hl : lossOk r = true) : First (fun v => decide (w ≤ arrB r v)) 0 1073741825 (lvB r w) :=
  bs_first (fun v v' h1 h2 _ h => by rw [decide_eq_true_eq] at h ⊢; have := arrB_mono hl h1 h2; omega) 31 (Half.start (by omega)) (by decide)
theorem lvW_first (hl : lossOk r = true) : First (fun v => decide (w ≤ arrW r v)) 0 1073741825 (lvW r w) :=
  bs_first (fun v v' h1 h2 _ h => by rw [decide_eq_true_eq] at h ⊢; have := arrW_mono hl h1 h2; omega) 31 (Half.start (by omega)) (by decide)
end
def reachV (r : Reach) (w : Int) : Int × Bool := if lErr r w ≠ 0 then (0, false) else if lvB r w > 1073741824 then (0, false) else (lvB r w, true)
def mostV (r : Reach) (w : Int) : Int := if lErr r w ≠ 0 then 0 else lvW r (w + 1) - 1
end Go.Proofs.Ytffdjecdcbbfaaa

/- Layer 48: the data, and what is computed, plainly. -/
namespace Go.Proofs.Ytffdjecdcbbfaaa
open Go Go.RowKit

abbrev Rg.c (x : Rg) : List Value := [iv x.lo, iv x.hi]
def tRg : Ty Rg := tFl 2 Rg.c fun _ => rfl
structure Wv where
  hour : Int
  heads : List Rg
  outlets : List Rg
  tails : List Rg
structure Su where
  kind : Int
  index : Int
  most : Int
abbrev Su.c (x : Su) : List Value := [iv x.kind, iv x.index, iv x.most]
def tSu : Ty Su := tFl 3 Su.c fun _ => rfl
structure Ev where
  waves : List Wv
  suspects : List Su
structure Tru where
  heads : List Int
  outlets : List Int
  tails : List Int
  arrived : List Int
  taken : List Int
def tWv : Ty Wv := tMap (tPair tInt (tPair (tSl tRg) (tPair (tSl tRg) (tSl tRg)))) fun w => (w.hour, w.heads, w.outlets, w.tails)
def tEv : Ty Ev := tMap (tPair (tSl tWv) (tSl tSu)) fun x => (x.waves, x.suspects)
abbrev tIs : Ty (List Int) := tSl tInt
def tTru : Ty Tru := tMap (tPair tIs (tPair tIs (tPair tIs (tPair tIs tIs)))) fun t => (t.heads, t.outlets, t.tails, t.arrived, t.taken)

/-! ### what is right -/
def rgsB (many : Nat) (l : List Rg) : Bool := decide (l.length = many) && l.all fun x => rgOk x 1073741824
def waveB (d : Dist) (last : Int) (w : Wv) : Bool := decide (last < w.hour) && (decide (w.hour < d.hours) && (rgsB d.reaches.length w.heads && (rgsB d.farms.length w.outlets && rgsB d.reaches.length w.tails)))
def wavesB (d : Dist) : Int → List Wv → Bool
  | _, [] => true
  | last, w :: r => waveB d last w && wavesB d w.hour r
def manyN (d : Dist) (kind : Int) : Int := if kind = 1 ∨ kind = 3 ∨ kind = 4 then d.reaches.length else if kind = 2 then d.farms.length else 0
def suB (d : Dist) (b : Int × Int) (s : Su) : Bool := decide (0 ≤ s.index) && (decide (s.index < manyN d s.kind) && (inI s.most 1 1073741824 && (decide (b.1 < s.kind) || (decide (b.1 = s.kind) && decide (b.2 < s.index)))))
def susB (d : Dist) : Int × Int → List Su → Bool
  | _, [] => true
  | b, s :: r => suB d b s && susB d (s.kind, s.index) r
def evErr (d : Dist) (x : Ev) : Int := if dErr d ≠ 0 then dErr d else if x.waves.length > 24 ∨ x.suspects.length > 12 then 2 else if wavesB d (-1) x.waves && susB d (0, -1) x.suspects then 0 else 480
def setB (n : Nat) : Int → List Int → Bool
  | _, [] => true
  | last, i :: r => decide (last < i) && (decide (i < n) && setB n i r)
def askErr (d : Dist) (x : Ev) (set : List Int) : Int := if evErr d x ≠ 0 then evErr d x else if setB x.suspects.length (-1) set then 0 else 480

/-! ### who is to blame -/
def s0 : Su := ⟨0, 0, 0⟩
def suAt (x : Ev) (i : Int) : Su := x.suspects.getD i.toNat s0
def blF (x : Ev) (set : List Int) (key : Int × Int) : Option Int := set.findSome? fun i => if ((suAt x i).kind, (suAt x i).index) = key then some (suAt x i).most else none
def meterV (bl : Int × Int → Option Int) (kind index : Int) (read : Rg) : Rg := match bl (kind, index) with
  | some n => ⟨0, max n read.hi⟩
  | none => read

def rE0 : Reach := ⟨ByteArray.empty, 0, 0, 0, 0, 0, ⟨0, 0⟩, ⟨0, 0⟩, ⟨0, 0⟩⟩
def fE0 : Farm := ⟨ByteArray.empty, 0, 0, 0⟩
def rcE (d : Dist) (k : Nat) : Reach := d.reaches.getD k rE0
def fmE (d : Dist) (k : Nat) : Farm := d.farms.getD k fE0
def suE (x : Ev) (k : Nat) : Su := x.suspects.getD k s0
/-! ### what may leave the end of a reach -/
inductive Dst where
  | tail (r : Nat)
  | head (k : Nat)
  | outlet (f : Nat)
  | taken (i : Nat)
deriving DecidableEq
def g0 : Rg := ⟨0, 0⟩
def tailP (bl : Int × Int → Option Int) (w : Wv) (r : Nat) : List (Rg × Dst) := [(meterV bl 3 r (w.tails.getD r g0), .tail r)]
def headP (d : Dist) (f : Nat → Rg) (r n : Nat) : List (Rg × Dst) := ((List.range n).filter fun k : Nat => decide ((rcE d k).up = (r : Int))).map fun k : Nat => (f k, .head k)
def outP (d : Dist) (bl : Int × Int → Option Int) (w : Wv) (r n : Nat) : List (Rg × Dst) := ((List.range n).filter fun k : Nat => decide ((fmE d k).reach = (r : Int))).map fun k : Nat => (meterV bl 2 k (w.outlets.getD k g0), .outlet k)
def pumpP (x : Ev) (bl : Int × Int → Option Int) (r n : Nat) : List (Rg × Dst) := ((List.range n).filter fun i : Nat => decide ((suE x i).kind = 4) && decide ((suE x i).index = (r : Int))).map fun i : Nat => (meterV bl 4 r g0, .taken i)
def partsL (d : Dist) (x : Ev) (bl : Int × Int → Option Int) (w : Wv) (f : Nat → Rg) (r : Nat) : List (Rg × Dst) :=
  tailP bl w r ++ (headP d f r d.reaches.length ++ (outP d bl w r d.farms.length ++ pumpP x bl r x.suspects.length))
def loS (l : List (Rg × Dst)) : Int := (l.map fun p => p.1.lo).sum
def hiS (l : List (Rg × Dst)) : Int := (l.map fun p => p.1.hi).sum

/-! ### the heads that are possible -/
def headV (d : Dist) (x : Ev) (bl : Int × Int → Option Int) (w : Wv) (f : Nat → Rg) (r : Nat) (y : Reach) : Rg :=
  ⟨max (reachV y (loS (partsL d x bl w f r))).1 (meterV bl 1 r (w.heads.getD r g0)).lo, min (mostV y (min 1073741824 (hiS (partsL d x bl w f r)))) (meterV bl 1 r (w.heads.getD r g0)).hi⟩
def setF {α : Type} (f : Nat → α) (r : Nat) (v : α) : Nat → α := fun k => if k = r then v else f k
/-- From the reach n - 1 up to the reach 0. -/
def followV (d : Dist) (x : Ev) (bl : Int × Int → Option Int) (w : Wv) : Nat → (Nat → Rg) → Option (Nat → Rg)
  | 0, f => some f
  | n + 1, f =>
    if loS (partsL d x bl w f n) > 1073741824 then none
    else if (reachV (rcE d n) (loS (partsL d x bl w f n))).2 = false ∨ (headV d x bl w f n (rcE d n)).lo > (headV d x bl w f n (rcE d n)).hi then none
    else followV d x bl w n (setF f n (headV d x bl w f n (rcE d n)))
def explB (d : Dist) (x : Ev) (set : List Int) : Bool := x.waves.all fun w => (followV d x (blF x set) w d.reaches.length fun _ => g0).isSome
end Go.Proofs.Ytffdjecdcbbfaaa

/- Layer 48, plainly: whom a Truth fits. A Truth that fits shows that the heads are possible. -/
namespace Go.Proofs.Ytffdjecdcbbfaaa
open Go Go.RowKit

/-! ### sums of parts -/
def owner (d : Dist) (x : Ev) : Dst → Int
  | .tail r => r
  | .head k => (rcE d k).up
  | .outlet k => (fmE d k).reach
  | .taken i => (suE x i).index
def sumT (T : Dst → Int) (l : List (Rg × Dst)) : Int := (l.map fun p => T p.2).sum
theorem sum_le_map {α : Type} {f g : α → Int} : ∀ {l : List α}, (∀ a ∈ l, f a ≤ g a) → (l.map f).sum ≤ (l.map g).sum
  | [], _ => Int.le_refl _
  | a :: l, h => by
    simp only [List.map_cons, List.sum_cons]
    have h1 := h a List.mem_cons_self
    have h2 := sum_le_map (l := l) (f := f) (g := g) fun b hb => h b (List.mem_cons_of_mem _ hb)
    omega
/-- A Truth, as numbers by place, fits a wave. -/
structure FitsT (d : Dist) (x : Ev) (bl : Int × Int → Option Int) (w : Wv) (T : Dst → Int) (A : Nat → Int) : Prop where
  heads : ∀ r, r < d.reaches.length → (meterV bl 1 r (w.heads.getD r g0)).lo ≤ T (.head r) ∧ T (.head r) ≤ (meterV bl 1 r (w.heads.getD r g0)).hi
  outlets : ∀ k, k < d.farms.length → (meterV bl 2 k (w.outlets.getD k g0)).lo ≤ T (.outlet k) ∧ T (.outlet k) ≤ (meterV bl 2 k (w.outlets.getD k g0)).hi
  tails : ∀ r, r < d.reaches.length → (meterV bl 3 r (w.tails.getD r g0)).lo ≤ T (.tail r) ∧ T (.tail r) ≤ (meterV bl 3 r (w.tails.getD r g0)).hi
  taken : ∀ i, i < x.suspects.length → 0 ≤ T (.taken i) ∧ T (.taken i) ≤ if (suE x i).kind = 4 then (bl ((suE x i).kind, (suE x i).index)).getD 0 else 0
  arr : ∀ r, r < d.reaches.length → A r = sumT T (partsL d x bl w (fun _ => g0) r) ∧ arrW (rcE d r) (T (.head r)) ≤ A r ∧ A r ≤ arrB (rcE d r) (T (.head r))

/-- What is right of a district, a wave and a set, for all that follows. -/
structure WavOk (d : Dist) (x : Ev) (bl : Int × Int → Option Int) (w : Wv) : Prop where
  loss : ∀ r, r < d.reaches.length → lossOk (rcE d r) = true
  up : ∀ k, k < d.reaches.length → (rcE d k).up < k
  up0 : ∀ k, 0 < k → k < d.reaches.length → 0 ≤ (rcE d k).up
  farm : ∀ k, k < d.farms.length → 0 ≤ (fmE d k).reach ∧ (fmE d k).reach < d.reaches.length
  heads : ∀ r, r < d.reaches.length → rgOk (w.heads.getD r g0) 1073741824 = true
  outlets : ∀ k, k < d.farms.length → rgOk (w.outlets.getD k g0) 1073741824 = true
  tails : ∀ r, r < d.reaches.length → rgOk (w.tails.getD r g0) 1073741824 = true
  sus : ∀ i, i < x.suspects.length → (suE x i).kind = 4 → 0 ≤ (suE x i).index ∧ (suE x i).index < d.reaches.length
  bl : ∀ key n, bl key = some n → 1 ≤ n ∧ n ≤ 1073741824

section
variable {d : Dist} {x : Ev} {bl : Int × Int → Option Int} {w : Wv} {f g : Nat → Rg} {r k n : Nat} {T : Dst → Int} {A : Nat → Int}
theorem meter_ok (hb : ∀ key n, bl key = some n → 1 ≤ n ∧ n ≤ 1073741824) {kd ix : Int} {y : Rg} (h : rgOk y 1073741824 = true) : rgOk (meterV bl kd ix y) 1073741824 = true := by
  rw [rgOk_iff] at h ⊢
  unfold meterV
  split
  · rename_i n hn
    have := hb _ n hn
    show 0 ≤ (0 : Int) ∧ 0 ≤ max n y.hi ∧ max n y.hi ≤ 1073741824
    omega
  · exact h
theorem g0_ok : rgOk g0 1073741824 = true := by decide
/-- Which parts there are does not hang on the heads; their ranges hang on those of the children alone. -/
theorem mem_parts {p : Rg × Dst} : p ∈ partsL d x bl w f r ↔ p = (meterV bl 3 r (w.tails.getD r g0), .tail r) ∨ (∃ k, k < d.reaches.length ∧ (rcE d k).up = (r : Int) ∧ p = (f k, .head k)) ∨
    (∃ k, k < d.farms.length ∧ (fmE d k).reach = (r : Int) ∧ p = (meterV bl 2 k (w.outlets.getD k g0), .outlet k)) ∨ ∃ i, i < x.suspects.length ∧ (suE x i).kind = 4 ∧ (suE x i).index = (r : Int) ∧ p = (meterV bl 4 r g0, .taken i) := by
  unfold partsL tailP headP outP pumpP
  simp only [List.mem_append, List.mem_cons, List.not_mem_nil, or_false, List.mem_map, List.mem_filter, List.mem_range, Bool.and_eq_true, decide_eq_true_eq]
  constructor
  · rintro (h | ⟨k, ⟨h1, h2⟩, rfl⟩ | ⟨k, ⟨h1, h2⟩, rfl⟩ | ⟨i, ⟨h1, h2, h3⟩, rfl⟩)
    · exact .inl h
    · exact .inr (.inl ⟨k, h1, h2, rfl⟩)
    · exact .inr (.inr (.inl ⟨k, h1, h2, rfl⟩))
    · exact .inr (.inr (.inr ⟨i, h1, h2, h3, rfl⟩))
  · rintro (h | ⟨k, h1, h2, rfl⟩ | ⟨k, h1, h2, rfl⟩ | ⟨i, h1, h2, h3, rfl⟩)
    · exact .inl h
    · exact .inr (.inl ⟨k, ⟨h1, h2⟩, rfl⟩)
    · exact .inr (.inr (.inl ⟨k, ⟨h1, h2⟩, rfl⟩))
    · exact .inr (.inr (.inr ⟨i, ⟨h1, h2, h3⟩, rfl⟩))
theorem parts_congr (h : ∀ k, k < d.reaches.length → (rcE d k).up = (r : Int) → f k = g k) : partsL d x bl w f r = partsL d x bl w g r := by
  have e : headP d f r d.reaches.length = headP d g r d.reaches.length := by
    unfold headP
    refine List.map_congr_left fun k hk => ?_
    rw [List.mem_filter, List.mem_range, decide_eq_true_eq] at hk
    rw [h k hk.1 hk.2]
  unfold partsL; rw [e]
theorem sumT_parts : sumT T (partsL d x bl w f r) = sumT T (partsL d x bl w g r) := by
  unfold sumT partsL headP
  simp only [List.map_append, List.map_map]
  rfl
theorem lo_pos (hw : WavOk d x bl w) (hf : ∀ k, k < d.reaches.length → (rcE d k).up = (r : Int) → 0 ≤ (f k).lo) (hr : r < d.reaches.length) : ∀ p ∈ partsL d x bl w f r, 0 ≤ p.1.lo := by
  intro p hp
  rcases mem_parts.1 hp with rfl | ⟨k, h1, h2, rfl⟩ | ⟨k, h1, h2, rfl⟩ | ⟨i, h1, h2, h3, rfl⟩
  · exact (rgOk_iff.1 (meter_ok hw.bl (hw.tails r hr))).1
  · exact hf k h1 h2
  · exact (rgOk_iff.1 (meter_ok hw.bl (hw.outlets k h1))).1
  · exact (rgOk_iff.1 (meter_ok hw.bl g0_ok)).1
theorem sum_pos {α : Type} {h : α → Int} : ∀ {l : List α}, (∀ a ∈ l, 0 ≤ h a) → 0 ≤ (l.map h).sum
  | [], _ => Int.le_refl _
  | a :: l, hl => by
    simp only [List.map_cons, List.sum_cons]
    have h1 := hl a List.mem_cons_self
    have h2 := sum_pos (l := l) (h := h) fun b hb => hl b (List.mem_cons_of_mem _ hb)
    omega
/-- Each part of a Truth that fits is in its range. -/
theorem fits_part (hf : FitsT d x bl w T A) (hg : ∀ k, k < d.reaches.length → (rcE d k).up = (r : Int) → (f k).lo ≤ T (.head k) ∧ T (.head k) ≤ (f k).hi) (hr : r < d.reaches.length) : ∀ p ∈ partsL d x bl w f r, p.1.lo ≤ T p.2 ∧ T p.2 ≤ p.1.hi := by
  intro p hp
  rcases mem_parts.1 hp with rfl | ⟨k, h1, h2, rfl⟩ | ⟨k, h1, h2, rfl⟩ | ⟨i, h1, h2, h3, rfl⟩
  · exact hf.tails r hr
  · exact hg k h1 h2
  · exact hf.outlets k h1
  · have h := hf.taken i h1
    rw [if_pos h2, h2, h3] at h
    show (meterV bl 4 r g0).lo ≤ _ ∧ _ ≤ (meterV bl 4 r g0).hi
    unfold meterV
    cases hb : bl (4, (r : Int)) with
    | none =>
      rw [hb] at h
      show (0 : Int) ≤ _ ∧ _ ≤ (0 : Int)
      simpa using h
    | some n =>
      rw [hb] at h
      simp only [Option.getD_some] at h
      show (0 : Int) ≤ T (.taken i) ∧ T (.taken i) ≤ max n 0
      omega
theorem head_ok (hw : WavOk d x bl w) (hr : r < d.reaches.length) {lo hi h a : Int} (h0 : 0 ≤ lo) (hla : lo ≤ a) (hah : a ≤ hi) (hh : 0 ≤ h ∧ h ≤ 1073741824) (h1 : arrW (rcE d r) h ≤ a) (h2 : a ≤ arrB (rcE d r) h) :
    lo ≤ 1073741824 ∧ (reachV (rcE d r) lo).2 = true ∧ (reachV (rcE d r) lo).1 ≤ h ∧ h ≤ mostV (rcE d r) (min 1073741824 hi) := by
  have hl := hw.loss r hr
  have ha := arr_le hl hh
  have e1 : lErr (rcE d r) lo = 0 := lErr_ok.2 ⟨hl, by omega, by omega⟩
  have e2 : lErr (rcE d r) (min 1073741824 hi) = 0 := lErr_ok.2 ⟨hl, by omega, by omega⟩
  have f1 := lvB_first (w := lo) hl
  have f2 := lvW_first (w := min 1073741824 hi + 1) hl
  have l1 : lvB (rcE d r) lo ≤ h := by
    rcases Int.lt_or_le h (lvB (rcE d r) lo) with hc | hc
    · have := f1.no h hh.1 hc
      simp only [decide_eq_false_iff_not] at this
      omega
    · exact hc
  refine ⟨by omega, ?_, ?_, ?_⟩
  · unfold reachV; rw [if_neg (by simp [e1]), if_neg (by omega)]
  · unfold reachV; rw [if_neg (by simp [e1]), if_neg (by omega)]; exact l1
  · unfold mostV
    rw [if_neg (by simp [e2])]
    rcases Int.lt_or_le h (lvW (rcE d r) (min 1073741824 hi + 1)) with hc | hc
    · omega
    · have hy := f2.yes (by omega)
      rw [decide_eq_true_eq] at hy
      have := arrW_mono hl f2.le hc
      omega
theorem fits_follow (hw : WavOk d x bl w) (hf : FitsT d x bl w T A) : ∀ (n : Nat) (f : Nat → Rg), n ≤ d.reaches.length → (∀ k, n ≤ k → k < d.reaches.length → 0 ≤ (f k).lo ∧ (f k).lo ≤ T (.head k) ∧ T (.head k) ≤ (f k).hi) → (followV d x bl w n f).isSome = true
  | 0, f, _, _ => rfl
  | n + 1, f, hn, hg => by
    have hr : n < d.reaches.length := by omega
    have kid : ∀ k, k < d.reaches.length → (rcE d k).up = (n : Int) → 0 ≤ (f k).lo ∧ (f k).lo ≤ T (.head k) ∧ T (.head k) ≤ (f k).hi := fun k h1 h2 => hg k (by have := hw.up k h1; omega) h1
    have hp := fits_part (f := f) hf (fun k h1 h2 => (kid k h1 h2).2) hr
    have ha := hf.arr n hr
    rw [sumT_parts (g := f)] at ha
    have s1 : loS (partsL d x bl w f n) ≤ sumT T (partsL d x bl w f n) := sum_le_map fun p hp' => (hp p hp').1
    have s2 : sumT T (partsL d x bl w f n) ≤ hiS (partsL d x bl w f n) := sum_le_map fun p hp' => (hp p hp').2
    have s0 : 0 ≤ loS (partsL d x bl w f n) := sum_pos (lo_pos hw (fun k h1 h2 => (kid k h1 h2).1) hr)
    have ho := hf.heads n hr
    have hm := rgOk_iff.1 (meter_ok hw.bl (kd := 1) (ix := n) (hw.heads n hr))
    obtain ⟨q1, q2, q3, q4⟩ := head_ok hw hr (lo := loS (partsL d x bl w f n)) (hi := hiS (partsL d x bl w f n)) (a := A n) (h := T (.head n)) s0 (by omega) (by omega) (by omega) ha.2.1 ha.2.2
    have hlo : (headV d x bl w f n (rcE d n)).lo ≤ T (.head n) := by show max _ _ ≤ _; omega
    have hhi : T (.head n) ≤ (headV d x bl w f n (rcE d n)).hi := by show _ ≤ min _ _; omega
    have hl0 : 0 ≤ (headV d x bl w f n (rcE d n)).lo := by show 0 ≤ max _ _; omega
    unfold followV
    rw [if_neg (by omega), if_neg (by rw [q2]; simp; omega)]
    refine fits_follow hw hf n _ (by omega) fun k h1 h2 => ?_
    unfold setF
    by_cases e : k = n
    · subst e; rw [if_pos rfl]; exact ⟨hl0, hlo, hhi⟩
    · rw [if_neg e]; exact hg k (by omega) h2
end
end Go.Proofs.Ytffdjecdcbbfaaa

/- Layer 48, plainly: the Truth that is filled fits. -/
namespace Go.Proofs.Ytffdjecdcbbfaaa
open Go Go.RowKit

def setD (T : Dst → Int) (a : Dst) (v : Int) : Dst → Int := fun b => if b = a then v else T b
def distL : Int → List (Rg × Dst) → List (Dst × Int)
  | _, [] => []
  | left, p :: l => (p.2, p.1.lo + min left (p.1.hi - p.1.lo)) :: distL (left - min left (p.1.hi - p.1.lo)) l
def putL (T : Dst → Int) : List (Dst × Int) → Dst → Int
  | [] => T
  | p :: l => putL (setD T p.1 p.2) l
def T0 (f : Nat → Rg) : Dst → Int := fun a => if a = .head 0 then (f 0).lo else 0
def arrV (d : Dist) (x : Ev) (bl : Int × Int → Option Int) (w : Wv) (f : Nat → Rg) (r : Nat) (T : Dst → Int) : Int := max (loS (partsL d x bl w f r)) (arrW (rcE d r) (T (.head r)))
def fillT (d : Dist) (x : Ev) (bl : Int × Int → Option Int) (w : Wv) (f : Nat → Rg) : Nat → Dst → Int
  | 0 => T0 f
  | r + 1 => putL (fillT d x bl w f r) (distL (arrV d x bl w f r (fillT d x bl w f r) - loS (partsL d x bl w f r)) (partsL d x bl w f r))
def fillA (d : Dist) (x : Ev) (bl : Int × Int → Option Int) (w : Wv) (f : Nat → Rg) (r : Nat) : Int := arrV d x bl w f r (fillT d x bl w f r)

theorem dist_fst : ∀ {l : List (Rg × Dst)} {left : Int}, (distL left l).map (·.1) = l.map (·.2)
  | [], _ => rfl
  | p :: l, left => by unfold distL; rw [List.map_cons, List.map_cons, dist_fst]
theorem dist_ok : ∀ {l : List (Rg × Dst)} {left : Int}, (∀ p ∈ l, p.1.lo ≤ p.1.hi) → 0 ≤ left → left ≤ hiS l - loS l → ((distL left l).map (·.2)).sum = loS l + left ∧ ∀ (j : Nat) (p : Rg × Dst), l[j]? = some p → ∃ v, (distL left l)[j]? = some (p.2, v) ∧ p.1.lo ≤ v ∧ v ≤ p.1.hi
  | [], left, _, h0, h1 => by
    have : left = 0 := by simp [hiS, loS] at h1; omega
    subst this
    exact ⟨rfl, fun j p h => by simp at h⟩
  | p :: l, left, hl, h0, h1 => by
    have hp := hl p List.mem_cons_self
    have e1 : hiS (p :: l) = p.1.hi + hiS l := rfl
    have e2 : loS (p :: l) = p.1.lo + loS l := rfl
    rw [e1, e2] at h1
    obtain ⟨k1, k2⟩ := dist_ok (l := l) (left := left - min left (p.1.hi - p.1.lo)) (fun q hq => hl q (List.mem_cons_of_mem _ hq)) (by omega) (by
      have : loS l ≤ hiS l := sum_le_map fun q hq => hl q (List.mem_cons_of_mem _ hq)
      omega)
    unfold distL
    refine ⟨by rw [List.map_cons, List.sum_cons, k1, e2]; simp only []; omega, fun j q hq => ?_⟩
    cases j with
    | zero =>
      rw [List.getElem?_cons_zero] at hq
      injection hq with hq; subst hq
      exact ⟨_, rfl, by omega, by omega⟩
    | succ j => rw [List.getElem?_cons_succ] at hq ⊢; exact k2 j q hq
theorem put_not : ∀ {l : List (Dst × Int)} {T : Dst → Int} {b : Dst}, b ∉ l.map (·.1) → putL T l b = T b
  | [], _, _, _ => rfl
  | p :: l, T, b, h => by
    rw [List.map_cons, List.mem_cons, not_or] at h
    unfold putL
    rw [put_not h.2]
    unfold setD
    rw [if_neg h.1]
theorem put_mem : ∀ {l : List (Dst × Int)} {T : Dst → Int} {a : Dst} {v : Int}, (l.map (·.1)).Nodup → (a, v) ∈ l → putL T l a = v
  | p :: l, T, a, v, hn, h => by
    rw [List.map_cons, List.nodup_cons] at hn
    unfold putL
    rcases List.mem_cons.1 h with h | h
    · subst h
      rw [put_not hn.1]
      unfold setD
      rw [if_pos rfl]
    · exact put_mem hn.2 h
section
variable {d : Dist} {x : Ev} {bl : Int × Int → Option Int} {w : Wv} {f g : Nat → Rg} {r k n : Nat} {T : Dst → Int} {A : Nat → Int}
theorem parts_nodup : ((partsL d x bl w f r).map (·.2)).Nodup := by
  have h1 : ∀ (q : Nat → Bool) (m : Nat) (c : Nat → Dst), (∀ a b, c a = c b → a = b) → (((List.range m).filter q).map c).Nodup := fun q m c hc => by
    unfold List.Nodup
    rw [List.pairwise_map]
    exact ((List.nodup_range (n := m)).filter q).imp fun h e => h (hc _ _ e)
  unfold partsL tailP headP outP pumpP
  simp only [List.map_append, List.map_map, List.map_cons, List.map_nil]
  rw [List.nodup_append, List.nodup_append, List.nodup_append]
  refine ⟨by simp, ⟨h1 _ _ _ fun a b e => by injection e, ⟨h1 _ _ _ fun a b e => by injection e, h1 _ _ _ fun a b e => by injection e, ?_⟩, ?_⟩, ?_⟩
  · intro a ha b hb e
    obtain ⟨_, _, rfl⟩ := List.mem_map.1 ha
    obtain ⟨_, _, rfl⟩ := List.mem_map.1 hb
    cases e
  · intro a ha b hb e
    obtain ⟨_, _, rfl⟩ := List.mem_map.1 ha
    rcases List.mem_append.1 hb with hb | hb
    · obtain ⟨_, _, rfl⟩ := List.mem_map.1 hb; cases e
    · obtain ⟨_, _, rfl⟩ := List.mem_map.1 hb; cases e
  · intro a ha b hb e
    rw [List.mem_singleton] at ha
    subst ha
    rcases List.mem_append.1 hb with hb | hb
    · obtain ⟨_, _, rfl⟩ := List.mem_map.1 hb; cases e
    rcases List.mem_append.1 hb with hb | hb
    · obtain ⟨_, _, rfl⟩ := List.mem_map.1 hb; cases e
    · obtain ⟨_, _, rfl⟩ := List.mem_map.1 hb; cases e
theorem parts_own : ∀ p ∈ partsL d x bl w f r, owner d x p.2 = (r : Int) := by
  intro p hp
  rcases mem_parts.1 hp with rfl | ⟨k, h1, h2, rfl⟩ | ⟨k, h1, h2, rfl⟩ | ⟨i, h1, h2, h3, rfl⟩
  · rfl
  · exact h2
  · exact h2
  · exact h3
/-- What holds of the heads that are found. -/
structure FOK (d : Dist) (x : Ev) (bl : Int × Int → Option Int) (w : Wv) (f : Nat → Rg) (r : Nat) : Prop where
  lo : loS (partsL d x bl w f r) ≤ 1073741824
  can : (reachV (rcE d r) (loS (partsL d x bl w f r))).2 = true
  eq : f r = headV d x bl w f r (rcE d r)
  le : (f r).lo ≤ (f r).hi
theorem headV_congr (h : ∀ k, k < d.reaches.length → (rcE d k).up = (r : Int) → f k = g k) : headV d x bl w f r (rcE d r) = headV d x bl w g r (rcE d r) := by
  unfold headV; rw [parts_congr h]
theorem follow_ok (hw : WavOk d x bl w) : ∀ (n : Nat) (f0 f : Nat → Rg), n ≤ d.reaches.length → followV d x bl w n f0 = some f → (∀ k, n ≤ k → f k = f0 k) ∧ ∀ r, r < n → FOK d x bl w f r
  | 0, f0, f, _, h => by
    injection h with h; subst h
    exact ⟨fun _ _ => rfl, fun r hr => by omega⟩
  | n + 1, f0, f, hn, h => by
    unfold followV at h
    by_cases h1 : loS (partsL d x bl w f0 n) > 1073741824
    · rw [if_pos h1] at h; cases h
    rw [if_neg h1] at h
    by_cases h2 : (reachV (rcE d n) (loS (partsL d x bl w f0 n))).2 = false ∨ (headV d x bl w f0 n (rcE d n)).lo > (headV d x bl w f0 n (rcE d n)).hi
    · rw [if_pos h2] at h; cases h
    rw [if_neg h2] at h
    obtain ⟨k1, k2⟩ := follow_ok hw n _ f (by omega) h
    have hk : ∀ k, n + 1 ≤ k → f k = f0 k := fun k hk => by
      rw [k1 k (by omega)]; unfold setF; rw [if_neg (by omega)]
    have hkid : ∀ k, k < d.reaches.length → (rcE d k).up = (n : Int) → f k = f0 k := fun k h1 h2 => hk k (by have := hw.up k h1; omega)
    refine ⟨hk, fun r hr => ?_⟩
    by_cases e : r = n
    · subst e
      have hfn : f r = headV d x bl w f0 r (rcE d r) := by rw [k1 r (by omega)]; unfold setF; rw [if_pos rfl]
      refine ⟨?_, ?_, ?_, ?_⟩
      · rw [parts_congr hkid]; omega
      · rw [parts_congr hkid]
        cases hc : (reachV (rcE d r) (loS (partsL d x bl w f0 r))).2 with
        | true => rfl
        | false => exact absurd (.inl hc) h2
      · rw [headV_congr hkid]; exact hfn
      · rw [hfn]; omega
    · exact k2 r (by omega)
theorem fill_fits (hw : WavOk d x bl w) (hR : 0 < d.reaches.length) (hf : ∀ r, r < d.reaches.length → FOK d x bl w f r) : ∀ n, n ≤ d.reaches.length →
    (∀ a, (∀ r, r < n → ∀ p ∈ partsL d x bl w f r, p.2 ≠ a) → fillT d x bl w f n a = T0 f a) ∧
    ∀ r, r < n → (∀ p ∈ partsL d x bl w f r, p.1.lo ≤ fillT d x bl w f n p.2 ∧ fillT d x bl w f n p.2 ≤ p.1.hi) ∧ sumT (fillT d x bl w f n) (partsL d x bl w f r) = fillA d x bl w f r ∧ fillT d x bl w f n (.head r) = fillT d x bl w f r (.head r) ∧
      ((f r).lo ≤ fillT d x bl w f r (.head r) ∧ fillT d x bl w f r (.head r) ≤ (f r).hi)
  | 0, _ => ⟨fun a _ => rfl, fun r hr => by omega⟩
  | n + 1, hn => by
    obtain ⟨i1, i2⟩ := fill_fits hw hR hf n (by omega)
    have hnR : n < d.reaches.length := by omega
    have kid : ∀ r, r < d.reaches.length → ∀ k, k < d.reaches.length → (rcE d k).up = (r : Int) → 0 ≤ (f k).lo ∧ (f k).lo ≤ (f k).hi := fun r hr k h1 h2 => by
      have h := hf k h1
      refine ⟨?_, h.le⟩
      rw [h.eq]
      have := (rgOk_iff.1 (meter_ok hw.bl (kd := 1) (ix := k) (hw.heads k h1))).1
      show 0 ≤ max _ _
      omega
    have rng : ∀ r, r < d.reaches.length → ∀ p ∈ partsL d x bl w f r, p.1.lo ≤ p.1.hi := by
      intro r hr p hp
      rcases mem_parts.1 hp with rfl | ⟨k, h1, h2, rfl⟩ | ⟨k, h1, h2, rfl⟩ | ⟨i, h1, h2, h3, rfl⟩
      · exact (rgOk_iff.1 (meter_ok hw.bl (hw.tails r hr))).2.1
      · exact (kid r hr k h1 h2).2
      · exact (rgOk_iff.1 (meter_ok hw.bl (hw.outlets k h1))).2.1
      · exact (rgOk_iff.1 (meter_ok hw.bl g0_ok)).2.1
    -- the head of the reach n stands already
    have hhead : (f n).lo ≤ fillT d x bl w f n (.head n) ∧ fillT d x bl w f n (.head n) ≤ (f n).hi := by
      by_cases e : n = 0
      · subst e
        show (f 0).lo ≤ T0 f (.head 0) ∧ T0 f (.head 0) ≤ (f 0).hi
        unfold T0
        rw [if_pos rfl]
        exact ⟨Int.le_refl _, (hf 0 hR).le⟩
      · have h0 := hw.up0 n (by omega) hnR
        have h1 := hw.up n hnR
        obtain ⟨q, hq⟩ : ∃ q : Nat, (rcE d n).up = (q : Int) := ⟨(rcE d n).up.toNat, by omega⟩
        exact (i2 q (by omega)).1 (f n, .head n) (mem_parts.2 (.inr (.inl ⟨n, hnR, hq, rfl⟩)))
    have hfn := hf n hnR
    have own := rgOk_iff.1 (meter_ok hw.bl (kd := 1) (ix := n) (hw.heads n hnR))
    have hlo : (f n).lo = max (reachV (rcE d n) (loS (partsL d x bl w f n))).1 (meterV bl 1 n (w.heads.getD n g0)).lo := by rw [hfn.eq]; rfl
    have hhi : (f n).hi = min (mostV (rcE d n) (min 1073741824 (hiS (partsL d x bl w f n)))) (meterV bl 1 n (w.heads.getD n g0)).hi := by rw [hfn.eq]; rfl
    have s0 : 0 ≤ loS (partsL d x bl w f n) := sum_pos (lo_pos hw (fun k h1 h2 => (kid n hnR k h1 h2).1) hnR)
    have s1 : loS (partsL d x bl w f n) ≤ hiS (partsL d x bl w f n) := sum_le_map (rng n hnR)
    have hle := hfn.lo
    have hl := hw.loss n hnR
    have e2 : lErr (rcE d n) (min 1073741824 (hiS (partsL d x bl w f n))) = 0 := lErr_ok.2 ⟨hl, by omega, by omega⟩
    have hcap : arrW (rcE d n) (fillT d x bl w f n (.head n)) ≤ hiS (partsL d x bl w f n) := by
      have f2 := lvW_first (w := min 1073741824 (hiS (partsL d x bl w f n)) + 1) hl
      have hm : fillT d x bl w f n (.head n) ≤ mostV (rcE d n) (min 1073741824 (hiS (partsL d x bl w f n))) := by omega
      unfold mostV at hm
      rw [if_neg (by simp [e2])] at hm
      have := f2.no (fillT d x bl w f n (.head n)) (by omega) (by omega)
      simp only [decide_eq_false_iff_not] at this
      omega
    obtain ⟨a, ha⟩ : ∃ a, a = fillA d x bl w f n := ⟨_, rfl⟩
    have ha' : a = max (loS (partsL d x bl w f n)) (arrW (rcE d n) (fillT d x bl w f n (.head n))) := ha
    obtain ⟨k1, k2⟩ := dist_ok (l := partsL d x bl w f n) (left := a - loS (partsL d x bl w f n)) (rng n hnR) (by omega) (by omega)
    have hst : fillT d x bl w f (n + 1) = putL (fillT d x bl w f n) (distL (a - loS (partsL d x bl w f n)) (partsL d x bl w f n)) := by rw [ha]; rfl
    have nd : ((distL (a - loS (partsL d x bl w f n)) (partsL d x bl w f n)).map (·.1)).Nodup := by rw [dist_fst]; exact parts_nodup
    have keep : ∀ b, owner d x b ≠ (n : Int) → fillT d x bl w f (n + 1) b = fillT d x bl w f n b := fun b hb => by
      rw [hst, put_not]
      rw [dist_fst]
      intro hm
      obtain ⟨p, hp, rfl⟩ := List.mem_map.1 hm
      exact hb (parts_own p hp)
    have hown : owner d x (.head n) ≠ (n : Int) := by
      have := hw.up n hnR
      show (rcE d n).up ≠ _
      omega
    refine ⟨fun b hb => ?_, fun r hr => ?_⟩
    · rw [hst, put_not, i1 b fun r hr => hb r (by omega)]
      rw [dist_fst]
      intro hm
      obtain ⟨p, hp, rfl⟩ := List.mem_map.1 hm
      exact hb n (by omega) p hp rfl
    · by_cases e : r = n
      · subst e
        refine ⟨fun p hp => ?_, ?_, keep _ hown, hhead⟩
        · obtain ⟨j, hj⟩ := List.getElem?_of_mem hp
          obtain ⟨v, hv, hv2⟩ := k2 j p hj
          rw [hst, put_mem nd (List.mem_of_getElem? hv)]
          exact hv2
        · unfold sumT
          rw [show (fun p : Rg × Dst => fillT d x bl w f (r + 1) p.2) = (fillT d x bl w f (r + 1)) ∘ (·.2) from rfl, ← List.map_map, ← dist_fst (left := a - loS (partsL d x bl w f r)), List.map_map, ← ha]
          have : (distL (a - loS (partsL d x bl w f r)) (partsL d x bl w f r)).map ((fillT d x bl w f (r + 1)) ∘ (·.1)) = (distL (a - loS (partsL d x bl w f r)) (partsL d x bl w f r)).map (·.2) :=
            List.map_congr_left fun q hq => by
              show fillT d x bl w f (r + 1) q.1 = q.2
              rw [hst]; exact put_mem nd hq
          rw [this, k1]; omega
      · have hr' : r < n := by omega
        obtain ⟨j1, j2, j3, j4⟩ := i2 r hr'
        have kp : ∀ p ∈ partsL d x bl w f r, fillT d x bl w f (n + 1) p.2 = fillT d x bl w f n p.2 := fun p hp => keep _ (by rw [parts_own p hp]; omega)
        refine ⟨fun p hp => by rw [kp p hp]; exact j1 p hp, ?_, ?_, j4⟩
        · rw [← j2]
          unfold sumT
          exact congrArg List.sum (List.map_congr_left fun p hp => kp p hp)
        · rw [← j3]
          refine keep _ ?_
          have := hw.up r (by omega)
          show (rcE d r).up ≠ _
          omega
theorem filled (hw : WavOk d x bl w) (hR : 0 < d.reaches.length) (hf : ∀ r, r < d.reaches.length → FOK d x bl w f r) : FitsT d x bl w (fillT d x bl w f d.reaches.length) (fillA d x bl w f) := by
  obtain ⟨i1, i2⟩ := fill_fits hw hR hf d.reaches.length (Nat.le_refl _)
  have fl : ∀ r, r < d.reaches.length → (f r).lo = max (reachV (rcE d r) (loS (partsL d x bl w f r))).1 (meterV bl 1 r (w.heads.getD r g0)).lo ∧ (f r).hi = min (mostV (rcE d r) (min 1073741824 (hiS (partsL d x bl w f r)))) (meterV bl 1 r (w.heads.getD r g0)).hi := fun r hr => by
    have := (hf r hr).eq
    exact ⟨by rw [this]; rfl, by rw [this]; rfl⟩
  refine ⟨fun r hr => ?_, fun k hk => ?_, fun r hr => ?_, fun i hi => ?_, fun r hr => ?_⟩
  · obtain ⟨-, -, h3, h4⟩ := i2 r hr
    have := fl r hr
    rw [h3]; omega
  · have := hw.farm k hk
    obtain ⟨q, hq⟩ : ∃ q : Nat, (fmE d k).reach = (q : Int) := ⟨(fmE d k).reach.toNat, by omega⟩
    exact (i2 q (by omega)).1 _ (mem_parts.2 (.inr (.inr (.inl ⟨k, hk, hq, rfl⟩))))
  · exact (i2 r hr).1 _ (mem_parts.2 (.inl rfl))
  · by_cases hk : (suE x i).kind = 4
    · rw [if_pos hk, hk]
      have hx := hw.sus i hi hk
      obtain ⟨q, hq⟩ : ∃ q : Nat, (suE x i).index = (q : Int) := ⟨(suE x i).index.toNat, by omega⟩
      have h := (i2 q (by omega)).1 (meterV bl 4 q g0, .taken i) (mem_parts.2 (.inr (.inr (.inr ⟨i, hi, hk, hq, rfl⟩))))
      rw [hq]
      unfold meterV at h
      cases hb : bl (4, (q : Int)) with
      | none =>
        rw [hb] at h
        have h1 : (0 : Int) ≤ fillT d x bl w f d.reaches.length (.taken i) := h.1
        have h2 : fillT d x bl w f d.reaches.length (.taken i) ≤ (0 : Int) := h.2
        exact ⟨h1, h2⟩
      | some n =>
        have := hw.bl _ n hb
        rw [hb] at h
        have h1 : (0 : Int) ≤ fillT d x bl w f d.reaches.length (.taken i) := h.1
        have h2 : fillT d x bl w f d.reaches.length (.taken i) ≤ max n 0 := h.2
        exact ⟨h1, by show _ ≤ n; omega⟩
    · rw [if_neg hk, i1 (.taken i) fun r _ p hp e => ?_]
      · unfold T0; rw [if_neg (by simp)]; omega
      · rcases mem_parts.1 hp with rfl | ⟨k, h1, h2, rfl⟩ | ⟨k, h1, h2, rfl⟩ | ⟨j, h1, h2, h3, rfl⟩
        · cases e
        · cases e
        · cases e
        · injection e with e; subst e; exact hk h2
  · obtain ⟨-, h2, h3, h4⟩ := i2 r hr
    have own := rgOk_iff.1 (meter_ok hw.bl (kd := 1) (ix := r) (hw.heads r hr))
    have hl := hw.loss r hr
    have hfr := hf r hr
    have := fl r hr
    have s0 : 0 ≤ loS (partsL d x bl w f r) := sum_pos (lo_pos hw (fun k h1 h2 => by
      rw [(hf k h1).eq]
      have := (rgOk_iff.1 (meter_ok hw.bl (kd := 1) (ix := k) (hw.heads k h1))).1
      show 0 ≤ max _ _
      omega) hr)
    have hle := hfr.lo
    have e1 : lErr (rcE d r) (loS (partsL d x bl w f r)) = 0 := lErr_ok.2 ⟨hl, by omega, by omega⟩
    have hcan := hfr.can
    have hal := arr_le hl (v := fillT d x bl w f r (.head r)) (by omega)
    have hA : fillA d x bl w f r = max (loS (partsL d x bl w f r)) (arrW (rcE d r) (fillT d x bl w f r (.head r))) := rfl
    refine ⟨by rw [sumT_parts (g := f), h2], ?_, ?_⟩
    · rw [h3]; omega
    · rw [h3]
      have f1 := lvB_first (w := loS (partsL d x bl w f r)) hl
      unfold reachV at hcan this
      rw [if_neg (by simp [e1])] at hcan this
      by_cases hc : lvB (rcE d r) (loS (partsL d x bl w f r)) > 1073741824
      · rw [if_pos hc] at hcan; cases hcan
      · rw [if_neg hc] at this
        have hy := f1.yes (by omega)
        rw [decide_eq_true_eq] at hy
        have := arrB_mono hl f1.le (show lvB (rcE d r) (loS (partsL d x bl w f r)) ≤ fillT d x bl w f r (.head r) by omega)
        omega
end
end Go.Proofs.Ytffdjecdcbbfaaa

/- Contracts of sort.Search, losses.least, losses.Reachable, losses.Most. -/
namespace Go.Proofs.Ytffdjecdcbbfaaa
open Go Go.RowKit

section
variable {D : Nat → Prop} {w : World}
/-- sort.Search with a function that answers p, and leaves alone what was there. -/
theorem c_Search {n : Nat} {p : Int → Bool} {fn : FuncId} {cap : Array Value} [he : Enters Try.prog fn] (hn : n ≤ 4611686018427387904) (hm : ∀ v v' : Int, 0 ≤ v → v ≤ v' → v' ≤ n → p v = true → p v' = true)
    (hc : ∀ (v : Int) (w' : World), 0 ≤ v → v < n → Ext w w' → CallZ Try.prog fn ([iv v] ++ cap.toList).toArray w' (fun u w'' => u = .bool (p v) ∧ Ext w' w'')) :
    CallZ Try.prog 80 #[iv (n : Int), .func (.func fn) #[] cap] w (fun v w' => ∃ k : Int, v = iv k ∧ First p 0 n k ∧ Ext w w') := by
  refine fn_rule (args := [iv (n : Int), .func (.func fn) #[] cap]) Try.func80 (by kernel_rfl) ?_
  refine loop2 (fun (lo hi : Int) => [(5, iv lo), (6, iv hi)]) (fun lo hi w' => Half p 0 n lo hi ∧ Ext w w') (fun lo hi _ => (hi - lo).toNat) 0 (n : Int) ⟨rfl, rfl, trivial⟩ ⟨Half.start (by omega), .refl _ _⟩ rfl ?_
  rintro G lo hi w' ⟨h, xw⟩
  have h1 := h.a_lo
  have h2 := h.lo_hi
  have h3 := h.hi_b
  refine cD (fun hlt => ?_) (fun hge => ?_)
  · refine arI (by omega) ?_
    obtain ⟨s, hs⟩ : ∃ s : Nat, lo + hi = (s : Int) := ⟨(lo + hi).toNat, by omega⟩
    refine convU (n := s) (by omega) (by omega) ?_
    refine shrR (by decide) ?_
    refine conv (k := .i64) ?_
    have e : IntKind.i64.wrap (((s : Int)).fdiv (2 ^ (min (1 : Int).toNat IntKind.u64.bits))) = (lo + hi) / 2 := by
      rw [show (2 : Int) ^ (min (1 : Int).toNat IntKind.u64.bits) = 2 by decide, Int.fdiv_eq_ediv_of_nonneg _ (by omega), i64_wrap_id (by omega), hs]
    rw [e]
    obtain ⟨m, hmm⟩ : ∃ m, m = (lo + hi) / 2 := ⟨_, rfl⟩
    rw [← hmm]
    refine callE (hc m w' (by omega) (by omega) xw) (fun w2 hp x2 => ?_) (fun w2 hp x2 => ?_)
    · exact next2 lo m ⟨rfl, rfl, trivial⟩ ⟨h.left (by omega) (by omega) hp, xw.trans x2⟩ (by omega)
    · refine arI (by omega) ?_
      exact next2 (m + 1) hi ⟨rfl, rfl, trivial⟩ ⟨h.right hm (by omega) (by omega) hp, xw.trans x2⟩ (by omega)
  · exact ret1 (iv lo) rfl ⟨lo, rfl, h.done (by omega), xw⟩
/-- A function that a closure holds, which answers g and leaves alone what was there. -/
def Fun1 (fn : FuncId) (cap : Array Value) (w : World) (g : Int → Int) : Prop := ∀ (v : Int) (w' : World), 0 ≤ v → v ≤ 1073741824 → Ext w w' → CallZ Try.prog fn ([iv v] ++ cap.toList).toArray w' (fun u w'' => u = iv (g v) ∧ Ext w' w'')
theorem c_lleast1 {fn : FuncId} {cap : Array Value} [he : Enters Try.prog fn] {g : Int → Int} {ba bw : Nat} {t : TypeId} {w0 : World} {v x : Int} (hc : Fun1 fn cap w0 g) (hx : Ext w0 w) (hv : 0 ≤ v ∧ v ≤ 1073741824)
    (h1 : Blk w ba t [.func (.func fn) #[] cap]) (h2 : Blk w bw 3 [iv x]) : CallZ Try.prog 81 #[iv v, ptr ba, ptr bw] w (fun u w' => u = .bool (decide (g v > x)) ∧ Ext w w') := by
  refine fn_rule (args := [iv v, ptr ba, ptr bw]) Try.func81 (by kernel_rfl) ?_
  refine drawK (fun _ => True) [0, 1, 3, 2, 4, 5] [2] mx (by kernel_rfl) ?_
  refine ldK (.func (.func fn) #[] cap) (h1.cell rfl) trivial (.refl _ _) ?_
  refine ldK (iv x) (h2.cell rfl) trivial (.refl _ _) ?_
  refine call_of (hc v w hv.1 hv.2 hx) ?_
  rintro _ w2 ⟨rfl, x2⟩
  refine strK x2 ?_
  refine cD (fun q => ?_) (fun q => ?_)
  · exact ret1 (.bool true) rfl ⟨by rw [decide_eq_true q], x2⟩
  · exact ret1 (.bool false) rfl ⟨by rw [decide_eq_false q], x2⟩
theorem c_lleast {fn : FuncId} {cap : Array Value} [he : Enters Try.prog fn] {g : Int → Int} {x : Int} (hc : Fun1 fn cap w g) (hm : ∀ v v', 0 ≤ v → v ≤ v' → g v ≤ g v') :
    CallZ Try.prog 59 #[iv x, .func (.func fn) #[] cap] w (fun u w' => ∃ k : Int, u = iv k ∧ First (fun v => decide (g v > x)) 0 1073741825 k ∧ Ext w w') := by
  refine fn_rule (args := [iv x, .func (.func fn) #[] cap]) Try.func59 (by kernel_rfl) ?_
  refine box (fun bw w1 h1 => ?_)
  refine box (fun ba w2 h2 => ?_)
  have x2 := h1.ext.trans h2.ext
  refine call_of (c_Search (fn := 81) (cap := #[ptr ba, ptr bw]) (n := 1073741825) (p := fun v => decide (g v > x)) (by omega) (fun v v' h0 h1 _ h => by rw [decide_eq_true_eq] at h ⊢; have := hm v v' h0 h1; omega)
    (fun v w' hv0 hv1 xw => c_lleast1 hc (x2.trans xw) ⟨hv0, by omega⟩ (h2.blk.ext xw) ((h1.blk.ext h2.ext).ext xw))) ?_
  rintro _ w3 ⟨k, rfl, hk, x3⟩
  exact ret1 (iv k) rfl ⟨k, rfl, hk, x2.trans x3⟩
theorem c_lReach1 {r : Reach} {b : Nat} {t : TypeId} {v : Int} (hok : lossOk r = true) (hv : 0 ≤ v ∧ v ≤ 1073741824) (hb : Blk w b t r.c) : CallZ Try.prog 60 #[iv v, ptr b] w (fun u w' => u = iv (arrB r v) ∧ Ext w w') := by
  refine fn_rule (args := [iv v, ptr b]) Try.func60 (by kernel_rfl) ?_
  refine ldA _ (.blk hb) rfl ?_
  refine call_of (c_llost hok hv) ?_
  rintro _ w2 ⟨rfl, x2⟩
  have h := lost_le hok hv
  refine fldV (cs := [iv (lostR r v).lo, iv (lostR r v).hi]) (iv (lostR r v).lo) rfl ?_
  refine arI (by omega) ?_
  exact ret1 (iv (v - (lostR r v).lo)) rfl ⟨rfl, x2⟩
theorem c_lMost1 {r : Reach} {b : Nat} {t : TypeId} {v : Int} (hok : lossOk r = true) (hv : 0 ≤ v ∧ v ≤ 1073741824) (hb : Blk w b t r.c) : CallZ Try.prog 62 #[iv v, ptr b] w (fun u w' => u = iv (arrW r v) ∧ Ext w w') := by
  refine fn_rule (args := [iv v, ptr b]) Try.func62 (by kernel_rfl) ?_
  refine ldA _ (.blk hb) rfl ?_
  refine call_of (c_llost hok hv) ?_
  rintro _ w2 ⟨rfl, x2⟩
  have h := lost_le hok hv
  refine fldV (cs := [iv (lostR r v).lo, iv (lostR r v).hi]) (iv (lostR r v).hi) rfl ?_
  refine arI (by omega) ?_
  exact ret1 (iv (v - (lostR r v).hi)) rfl ⟨rfl, x2⟩
theorem c_lReach {r : Reach} {x : Int} : CallZ Try.prog 36 #[r.v, iv x] w (fun u w' => u = .tuple #[iv (reachV r x).1, .bool (reachV r x).2, iv (lErr r x)] ∧ Ext w w') := by
  refine fn_rule (args := [.agg #[.string r.name, iv r.up, iv r.delay, iv r.cap, iv r.bank, iv r.siphon, iv r.evap.lo, iv r.evap.hi, iv r.s0.n, iv r.s0.d, iv r.s1.n, iv r.s1.d], iv x]) Try.func36 (by kernel_rfl) ?_
  refine box (fun b w1 h1 => ?_)
  refine ldA r.c (.blk h1.blk) rfl ?_
  refine call_of c_lvalid ?_
  rintro _ w2 ⟨rfl, x2⟩
  refine cN (fun he => ?_) (fun he => ?_)
  · exact ret3 (iv 0) (.bool false) (iv (lErr r x)) rfl rfl rfl ⟨by unfold reachV; rw [if_pos he], h1.ext.trans x2⟩
  have he : lErr r x = 0 := he
  obtain ⟨hok, hx⟩ := lErr_ok.1 he
  refine arI (by omega) ?_
  refine call_of (c_lleast (fn := 60) (cap := #[ptr b]) (g := arrB r) (x := x - 1) (fun v w' h0 h2 xw => c_lReach1 hok ⟨h0, h2⟩ ((h1.blk.ext x2).ext xw)) (fun v v' h0 h => arrB_mono hok h0 h)) ?_
  rintro _ w3 ⟨k, rfl, hk, x3⟩
  have e : (fun v => decide (arrB r v > x - 1)) = fun v => decide (x ≤ arrB r v) := funext fun v => decide_eq_decide.2 ⟨fun h => by omega, fun h => by omega⟩
  rw [e] at hk
  obtain rfl := hk.uniq (lvB_first hok)
  have xx := (h1.ext.trans x2).trans x3
  refine cD (fun q => ?_) (fun q => ?_)
  · exact ret3 (iv 0) (.bool false) (iv 0) rfl rfl rfl ⟨by unfold reachV; rw [if_neg (by simp [he]), if_pos q, he], xx⟩
  · exact ret3 (iv (lvB r x)) (.bool true) (iv 0) rfl rfl rfl ⟨by unfold reachV; rw [if_neg (by simp [he]), if_neg q, he], xx⟩
theorem c_lMost {r : Reach} {x : Int} : CallZ Try.prog 37 #[r.v, iv x] w (fun u w' => u = .tuple #[iv (mostV r x), iv (lErr r x)] ∧ Ext w w') := by
  refine fn_rule (args := [.agg #[.string r.name, iv r.up, iv r.delay, iv r.cap, iv r.bank, iv r.siphon, iv r.evap.lo, iv r.evap.hi, iv r.s0.n, iv r.s0.d, iv r.s1.n, iv r.s1.d], iv x]) Try.func37 (by kernel_rfl) ?_
  refine box (fun b w1 h1 => ?_)
  refine ldA r.c (.blk h1.blk) rfl ?_
  refine call_of c_lvalid ?_
  rintro _ w2 ⟨rfl, x2⟩
  refine cN (fun he => ?_) (fun he => ?_)
  · exact ret2 (iv 0) (iv (lErr r x)) rfl rfl ⟨by unfold mostV; rw [if_pos he], h1.ext.trans x2⟩
  have he : lErr r x = 0 := he
  obtain ⟨hok, hx⟩ := lErr_ok.1 he
  refine call_of (c_lleast (fn := 62) (cap := #[ptr b]) (g := arrW r) (x := x) (fun v w' h0 h2 xw => c_lMost1 hok ⟨h0, h2⟩ ((h1.blk.ext x2).ext xw)) (fun v v' h0 h => arrW_mono hok h0 h)) ?_
  rintro _ w3 ⟨k, rfl, hk, x3⟩
  have e : (fun v => decide (arrW r v > x)) = fun v => decide (x + 1 ≤ arrW r v) := funext fun v => decide_eq_decide.2 ⟨fun h => by omega, fun h => by omega⟩
  rw [e] at hk
  obtain rfl := hk.uniq (lvW_first hok)
  have xx := (h1.ext.trans x2).trans x3
  have := hk.le
  have := hk.ge
  refine arI (by omega) ?_
  exact ret2 (iv (lvW r (x + 1) - 1)) (iv 0) rfl rfl ⟨by unfold mostV; rw [if_neg (by simp [he]), he], xx⟩
end
end Go.Proofs.Ytffdjecdcbbfaaa

/- Layer 48: contracts of right, Check. -/
namespace Go.Proofs.Ytffdjecdcbbfaaa
open Go Go.RowKit

section
variable {D : Nat → Prop} {w : World} {A : Option Addr} {n c : Nat}
theorem c_eright481 {y : Rg} : CallZ Try.prog 56 #[.agg y.c.toArray] w (fun v w' => v = .bool (!rgOk y 1073741824) ∧ Ext w w') := by
  refine fn_rule (args := [.agg #[iv y.lo, iv y.hi]]) Try.func56 (by kernel_rfl) ?_
  refine box (fun g w1 h1 => ?_)
  have b1 : Blk w1 g _ [iv y.lo, iv y.hi] := h1.blk
  have no : ¬ (0 ≤ y.lo ∧ y.lo ≤ y.hi ∧ y.hi ≤ 1073741824) → Value.bool true = .bool (!rgOk y 1073741824) := fun h => by
    cases hr : rgOk y 1073741824 with
    | false => rfl
    | true => exact absurd (rgOk_iff.1 hr) h
  refine fldA ?_
  refine ld (iv y.lo) (b1.cell rfl) ?_
  refine cD (fun q => ?_) (fun q1 => ?_)
  · exact ret1 (.bool true) rfl ⟨no fun h => by omega, h1.ext⟩
  refine fldA ?_
  refine ld (iv y.lo) (b1.cell rfl) ?_
  refine fldA ?_
  refine ld (iv y.hi) (b1.cell rfl) ?_
  refine cD (fun q => ?_) (fun q2 => ?_)
  · exact ret1 (.bool true) rfl ⟨no fun h => by omega, h1.ext⟩
  refine fldA ?_
  refine ld (iv y.hi) (b1.cell rfl) ?_
  refine cD (fun q => ?_) (fun q3 => ?_)
  · exact ret1 (.bool true) rfl ⟨no fun h => by omega, h1.ext⟩
  · exact ret1 (.bool false) rfl ⟨by rw [rgOk_iff.2 (by omega)]; rfl, h1.ext⟩
abbrev rgP (y : Rg) : Bool := rgOk y 1073741824
theorem c_indRg {xs : List Rg} (h : SlR tRg D w A n xs) : CallZ Try.prog 76 #[.slice A n c, .func (.func 56) #[] #[]] w (fun v w' => (∃ i : Int, v = iv i ∧ (0 ≤ i ↔ xs.all rgP = false)) ∧ Ext w w') := by
  refine fn_rule (args := [.slice A n c, .func (.func 56) #[] #[]]) Try.func76 (by kernel_rfl) ?_
  refine len ?_
  refine loop_rule (fun k : Nat => [(8, iv (k : Int))]) (fun k w' => k ≤ n ∧ Ext w w' ∧ xs.all rgP = (xs.drop k).all rgP) (fun k _ => n - k) 0 ⟨rfl, trivial⟩ ⟨by omega, .refl _ _, rfl⟩ rfl ?_
  rintro G k w' ⟨hk, xw, he⟩
  refine cD (fun hlt => ?_) (fun hge => ?_)
  · obtain ⟨b, o, cs, x, rfl, hx, hdx, -, hc, rfl⟩ := (h.ext xw).at_ (show k < n by omega)
    rw [hdx, List.all_cons] at he
    refine idx k rfl (by omega) ?_
    refine ldA x.c hc rfl ?_
    refine callE (c_eright481 (y := x)) (fun w2 g x2 => ?_) (fun w2 g x2 => ?_)
    · refine ret1 (iv (k : Int)) rfl ⟨⟨k, rfl, ?_⟩, xw.trans x2⟩
      simp only [Bool.not_eq_true'] at g
      rw [he, show rgP x = false from g]; simp
    · simp only [Bool.not_eq_false'] at g
      refine arI (by have := h.le; omega) ?_
      refine next (k + 1) ⟨by rw [Int.natCast_add]; rfl, trivial⟩ ⟨by omega, xw.trans x2, ?_⟩ (by omega)
      rw [he, show rgP x = true from g]; rfl
  · refine ret1 (iv (-1)) rfl ⟨⟨-1, rfl, ?_⟩, xw⟩
    rw [he, List.drop_eq_nil_of_le (by have := h.len; omega)]; simp
theorem c_contRg {xs : List Rg} (h : SlR tRg D w A n xs) : CallZ Try.prog 55 #[.slice A n c, .func (.func 56) #[] #[]] w (fun v w' => v = .bool (!xs.all rgP) ∧ Ext w w') := by
  refine fn_rule (args := [.slice A n c, .func (.func 56) #[] #[]]) Try.func55 (by kernel_rfl) ?_
  refine call_of (c_indRg h) ?_
  rintro _ w' ⟨⟨i, rfl, hi⟩, xw⟩
  refine cD (fun g => ?_) (fun g => ?_)
  · exact ret1 (.bool true) rfl ⟨by rw [hi.1 g]; rfl, xw⟩
  · exact ret1 (.bool false) rfl ⟨by rw [show xs.all rgP = true from by cases ha : xs.all rgP with | true => rfl | false => exact absurd (hi.2 ha) g]; rfl, xw⟩
theorem c_right48 {xs : List Rg} {m : Nat} {k : Int} (h : SlR tRg D w A n xs) (hk : k = (m : Int)) : CallZ Try.prog 32 #[.slice A n c, iv k] w (fun v w' => v = .bool (rgsB m xs) ∧ Ext w w') := by
  subst hk
  refine fn_rule (args := [.slice A n c, iv (m : Int)]) Try.func32 (by kernel_rfl) ?_
  have hl := h.len
  refine len ?_
  refine cD (fun g1 => ?_) (fun g1 => ?_)
  · refine callE (c_contRg h) (fun w2 g x2 => ?_) (fun w2 g x2 => ?_)
    · simp only [Bool.not_eq_true'] at g
      exact ret1 (.bool false) rfl ⟨by unfold rgsB; rw [decide_eq_true (by omega), Bool.true_and]; exact congrArg Value.bool g.symm, x2⟩
    · simp only [Bool.not_eq_false'] at g
      exact ret1 (.bool true) rfl ⟨by unfold rgsB; rw [decide_eq_true (by omega), Bool.true_and]; exact congrArg Value.bool g.symm, x2⟩
  · exact ret1 (.bool false) rfl ⟨by unfold rgsB; rw [decide_eq_false (by omega), Bool.false_and], .refl _ _⟩

/-! ### Check -/
/-- An evidence's cells. -/
structure EvR (D : Nat → Prop) (w : World) (cs : List Value) (x : Ev) : Prop where
  of_ ::
  ex : ∃ W1 n1 c1 S1 n2 c2, cs = [.slice W1 n1 c1, .slice S1 n2 c2] ∧ SlR tWv D w W1 n1 x.waves ∧ SlR tSu D w S1 n2 x.suspects ∧ n1 ≤ c1 ∧ n2 ≤ c2
theorem EvR.keep {w w' : World} {cs : List Value} {d : Ev} (hk : ∀ b, b < w.heap.size → D b → w'.heap[b]? = w.heap[b]?) (h : EvR D w cs d) : EvR D w' cs d := by
  obtain ⟨A1, n1, c1, A2, n2, c2, h, h1, h2, h3⟩ := h.ex
  exact ⟨A1, n1, c1, A2, n2, c2, h, h1.keep hk, h2.keep hk, h3⟩
theorem EvR.more {D' : Nat → Prop} {w : World} {cs : List Value} {d : Ev} (hk : ∀ b, b < w.heap.size → D b → D' b) (h : EvR D w cs d) : EvR D' w cs d := by
  obtain ⟨A1, n1, c1, A2, n2, c2, h, h1, h2, h3⟩ := h.ex
  exact ⟨A1, n1, c1, A2, n2, c2, h, h1.more (by decide) hk, h2.more (by decide) hk, h3⟩
theorem EvR.kept {D' : Nat → Prop} {w w' : World} {cs : List Value} {d : Ev} (h : EvR D w cs d) (k : Kept D' w w') (hd : ∀ b, b < w.heap.size → D b → D' b) : EvR D w' cs d := h.keep fun b hb hD => k.blk b hb (hd b hb hD)
theorem EvR.ext {w w' : World} {cs : List Value} {d : Ev} (h : EvR D w cs d) (k : Ext w w') : EvR D w' cs d := h.kept k fun _ _ _ => trivial
theorem fset_many {R F : Int} (k : Int) : ((fset (fset (fset (fset (fun _ => none) 1 (iv R)) 2 (iv F)) 3 (iv R)) 4 (iv R)) k).getD (iv 0) = iv (if k = 1 ∨ k = 3 ∨ k = 4 then R else if k = 2 then F else 0) := by
  unfold fset
  by_cases h4 : k = 4
  · subst h4; rfl
  by_cases h3 : k = 3
  · subst h3; rfl
  by_cases h2 : k = 2
  · subst h2; rfl
  by_cases h1 : k = 1
  · subst h1; rfl
  rw [if_neg h4, if_neg h3, if_neg h2, if_neg h1, if_neg (by omega), if_neg h2]; rfl
end
end Go.Proofs.Ytffdjecdcbbfaaa
