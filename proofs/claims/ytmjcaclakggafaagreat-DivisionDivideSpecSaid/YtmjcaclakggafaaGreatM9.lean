/- Parts of the proof: D0 D7 D1 D2 D3 D4 D5 D6 D8 D9. -/
import Derived.Test.YtmjcaclakggafaaGreatM7
import Derived.Test.YtmjcaclakggafaaGreatM4
import Derived.Test.YtmjcaclakggafaaGreatM6
import Derived.Test.YtmjcaclakggafaaGreatM8
import Derived.Test.YtmjcaclakggafaaGreatM3

/- Layer 41, plainly: the parts of the reaches. -/
namespace Go.Proofs.YtmjcaclakggafaaGreat
open Go Go.RowKit

def fmC (d : Dist) (k : Nat) : Farm := d.farms.getD k ⟨ByteArray.empty, 0, 0, 0⟩
theorem fmC_at {d : Dist} {k : Nat} {x : Farm} (h : d.farms[k]? = some x) : fmC d k = x := by unfold fmC; rw [List.getD_eq_getElem?_getD, h]; rfl
/-- A part of a reach: whether it is a farm, and its index. -/
abbrev Pt : Type := Bool × Nat
def isF (d : Dist) (r : Int) (i : Nat) : Bool := decide ((fmC d i).reach = r)
def isC (d : Dist) (r : Int) (i : Nat) : Bool := decide ((rcC d i).up = r)
def ptsF (d : Dist) (r : Int) (k : Nat) : List Pt := ((List.range k).filter (isF d r)).map fun i => (true, i)
def ptsC (d : Dist) (r : Int) (k : Nat) : List Pt := ((List.range k).filter (isC d r)).map fun i => (false, i)
/-- The parts of a reach. -/
def ptsV (d : Dist) (r : Int) : List Pt := ptsF d r d.farms.length ++ ptsC d r d.reaches.length
theorem ptsF_yes {d : Dist} {r : Int} {k : Nat} (h : (fmC d k).reach = r) : ptsF d r (k + 1) = ptsF d r k ++ [(true, k)] := by
  unfold ptsF
  rw [List.range_succ, List.filter_append, List.map_append, List.filter_cons_of_pos (by unfold isF; exact decide_eq_true h)]; rfl
theorem ptsF_no {d : Dist} {r : Int} {k : Nat} (h : ¬ (fmC d k).reach = r) : ptsF d r (k + 1) = ptsF d r k := by
  unfold ptsF
  rw [List.range_succ, List.filter_append, List.map_append, List.filter_cons_of_neg (by unfold isF; rw [decide_eq_true_eq]; exact h)]; simp
theorem ptsC_yes {d : Dist} {r : Int} {k : Nat} (h : (rcC d k).up = r) : ptsC d r (k + 1) = ptsC d r k ++ [(false, k)] := by
  unfold ptsC
  rw [List.range_succ, List.filter_append, List.map_append, List.filter_cons_of_pos (by unfold isC; exact decide_eq_true h)]; rfl
theorem ptsC_no {d : Dist} {r : Int} {k : Nat} (h : ¬ (rcC d k).up = r) : ptsC d r (k + 1) = ptsC d r k := by
  unfold ptsC
  rw [List.range_succ, List.filter_append, List.map_append, List.filter_cons_of_neg (by unfold isC; rw [decide_eq_true_eq]; exact h)]; simp
theorem ptsF_len {d : Dist} {r : Int} {k : Nat} : (ptsF d r k).length ≤ k := by
  unfold ptsF; rw [List.length_map]; exact Nat.le_trans (List.length_filter_le _ _) (by rw [List.length_range]; exact Nat.le_refl k)
theorem ptsC_len {d : Dist} {r : Int} {k : Nat} : (ptsC d r k).length ≤ k := by
  unfold ptsC; rw [List.length_map]; exact Nat.le_trans (List.length_filter_le _ _) (by rw [List.length_range]; exact Nat.le_refl k)
theorem ptsV_len {d : Dist} {r : Int} : (ptsV d r).length ≤ d.farms.length + d.reaches.length := by
  unfold ptsV; rw [List.length_append]; have := ptsF_len (d := d) (r := r) (k := d.farms.length); have := ptsC_len (d := d) (r := r) (k := d.reaches.length); omega
theorem mem_ptsF {d : Dist} {r : Int} {k : Nat} {p : Pt} : p ∈ ptsF d r k ↔ p.1 = true ∧ p.2 < k ∧ (fmC d p.2).reach = r := by
  obtain ⟨b, i⟩ := p
  unfold ptsF isF
  simp only [List.mem_map, List.mem_filter, List.mem_range, decide_eq_true_eq, Prod.mk.injEq]
  constructor
  · rintro ⟨a, ⟨h1, h2⟩, rfl, rfl⟩; exact ⟨rfl, h1, h2⟩
  · rintro ⟨rfl, h1, h2⟩; exact ⟨i, ⟨h1, h2⟩, rfl, rfl⟩
theorem mem_ptsC {d : Dist} {r : Int} {k : Nat} {p : Pt} : p ∈ ptsC d r k ↔ p.1 = false ∧ p.2 < k ∧ (rcC d p.2).up = r := by
  obtain ⟨b, i⟩ := p
  unfold ptsC isC
  simp only [List.mem_map, List.mem_filter, List.mem_range, decide_eq_true_eq, Prod.mk.injEq]
  constructor
  · rintro ⟨a, ⟨h1, h2⟩, rfl, rfl⟩; exact ⟨rfl, h1, h2⟩
  · rintro ⟨rfl, h1, h2⟩; exact ⟨i, ⟨h1, h2⟩, rfl, rfl⟩
theorem mem_ptsV {d : Dist} {r : Int} {p : Pt} : p ∈ ptsV d r ↔ (p.1 = true ∧ p.2 < d.farms.length ∧ (fmC d p.2).reach = r) ∨ (p.1 = false ∧ p.2 < d.reaches.length ∧ (rcC d p.2).up = r) := by
  unfold ptsV; rw [List.mem_append, mem_ptsF, mem_ptsC]
theorem ptsV_nodup {d : Dist} {r : Int} : (ptsV d r).Nodup := by
  unfold ptsV
  refine List.nodup_append.2 ⟨?_, ?_, fun a ha b hb e => ?_⟩
  · exact List.pairwise_map.2 ((List.Pairwise.filter _ List.nodup_range).imp fun h e => h (by injection e))
  · exact List.pairwise_map.2 ((List.Pairwise.filter _ List.nodup_range).imp fun h e => h (by injection e))
  · subst e
    have := (mem_ptsF.1 ha).1
    rw [(mem_ptsC.1 hb).1] at this; cases this
end Go.Proofs.YtmjcaclakggafaaGreat

/- Layer 41: contract of grow. -/
namespace Go.Proofs.YtmjcaclakggafaaGreat
open Go Go.RowKit

instance keyInt1 : KeyL Tryz.prog 3 kvI := keyI Tryz.underlying3
abbrev encP (p : Pt) : List Value := [.bool p.1, iv (p.2 : Int)]
def tPt : Ty Pt := tFl 2 encP fun _ => rfl
abbrev cps (l : List Pt) : List Value := l.flatMap encP
theorem flat_cps {D : Nat → Prop} {w : World} : ∀ {s : List Pt}, FlatR tPt D w s (cps s)
  | [] => rfl
  | x :: s => ⟨encP x, cps s, rfl, rfl, flat_cps⟩
theorem cps_app {a b : List Pt} : cps (a ++ b) = cps a ++ cps b := List.flatMap_append
theorem cps_len : ∀ {a : List Pt}, (cps a).length = a.length * 2
  | [] => rfl
  | x :: a => by show (encP x ++ cps a).length = (a.length + 1) * 2; rw [List.length_append, cps_len]; show 2 + _ = _; omega
/-- Two slices of one's own that do not share. -/
def djA (A B : Option Addr) : Prop := ∀ g, A = some (ad g 0) → B ≠ some (ad g 0)
theorem djA.symm {A B : Option Addr} (h : djA A B) : djA B A := fun g h1 h2 => h g h2 h1
theorem djA.app {A A' B : Option Addr} {w0 u : World} {n c sz : Nat} {e : TypeId} {cs : List Value} (h : djA A B) (hA : A' = A ∨ A' = none ∨ A' = some (ad u.heap.size 0)) (hB : OwnF w0 u B n c e sz cs) : djA A' B := by
  intro g h1 h2
  rcases hA with e | e | e
  · exact h g (e ▸ h1) h2
  · rw [e] at h1; cases h1
  · rw [e] at h1
    injection h1 with h1; injection h1 with h1
    rcases hB.form with ⟨e2, -⟩ | ⟨g', e2, -, hlt, -⟩
    · rw [e2] at h2; cases h2
    · rw [e2] at h2; injection h2 with h2; injection h2 with h2; omega
theorem ownTy {w0 w : World} {A : Option Addr} {n c sz : Nat} {e t : TypeId} {cs xs : List Value} {b : Nat} (h : OwnF w0 w A n c e sz cs) (hb : Blk w b t xs) (hne : t ≠ e) : A ≠ some (ad b 0) := fun e2 => by
  obtain ⟨rest, hb3, _⟩ := Own.blk (e2 ▸ h.own)
  exact hne (hb.uniq hb3).1
theorem ownMap {κ : Type} {kv : κ → Value} {f : κ → Option Value} {w0 w : World} {A : Option Addr} {n c sz : Nat} {e : TypeId} {cs : List Value} {b : Nat} (h : OwnF w0 w A n c e sz cs) (hb : MapG kv w b f) : A ≠ some (ad b 0) := fun e2 => by
  obtain ⟨rest, hb3, _⟩ := Own.blk (e2 ▸ h.own)
  obtain ⟨L, q, hE, -⟩ := hb
  have h1 : w.heap[b]? = _ := hb3
  rw [hE.at_] at h1
  cases h1
/-- The parts so far: each reach has a slice of the function's own. -/
structure PtsM (w0 u : World) (g : Nat) (f : Int → List Pt) (S : Int → Option Addr × Nat × Nat) : Prop where
  map : ∃ m : Int → Option Value, MapG kvI u g m ∧ ∀ r, (m r).getD (.slice none 0 0) = .slice (S r).1 (S r).2.1 (S r).2.2
  own : ∀ r, OwnF w0 u (S r).1 (S r).2.1 (S r).2.2 73 2 (cps (f r))
  dj : ∀ r r', r ≠ r' → djA (S r).1 (S r').1
theorem PtsM.len {w0 u : World} {g : Nat} {f : Int → List Pt} {S : Int → Option Addr × Nat × Nat} (h : PtsM w0 u g f S) (r : Int) : (S r).2.1 = (f r).length := by
  have := (h.own r).own.len
  rw [cps_len] at this; omega
theorem PtsM.ext {w0 u u' : World} {g : Nat} {f : Int → List Pt} {S : Int → Option Addr × Nat × Nat} (h : PtsM w0 u g f S) (k : Ext u u') : PtsM w0 u' g f S := by
  obtain ⟨⟨m, h1, h2⟩, h3, h4⟩ := h
  exact ⟨⟨m, h1.kept k trivial, h2⟩, fun r => (h3 r).then k, h4⟩
theorem PtsM.step {w0 u v z : World} {g : Nat} {f f' : Int → List Pt} {S : Int → Option Addr × Nat × Nat} {m : Int → Option Value} (r : Int) {p : Pt} {A' : Option Addr} {n' c' : Nat} (h3 : ∀ r, OwnF w0 u (S r).1 (S r).2.1 (S r).2.2 73 2 (cps (f r))) (h4 : ∀ r r', r ≠ r' → djA (S r).1 (S r').1) (hm : ∀ r, (m r).getD (.slice none 0 0) = .slice (S r).1 (S r).2.1 (S r).2.2)
    (o : OwnF w0 v A' n' c' 73 2 (cps (f r) ++ encP p)) (k : Kept (fun b => (S r).1 ≠ some (ad b 0)) u v) (hA : A' = (S r).1 ∨ A' = none ∨ ∃ t : World, A' = some (ad t.heap.size 0) ∧ Ext u t) {f0 : Int → Option Value} (M4 : MapG kvI v g f0) (M : MapG kvI z g (pset m r (.slice A' n' c'))) (k5 : Kept (fun b => b ≠ g) v z) (x : Ext w0 z)
    (hf : ∀ q, f' q = if q = r then f r ++ [p] else f q) : ∃ S', PtsM w0 z g f' S' := by
  refine ⟨fun q => if q = r then (A', n', c') else S q, ⟨_, M, fun q => ?_⟩, fun q => ?_, fun q q' hqq => ?_⟩
  · unfold pset
    by_cases e : q = r
    · simp only [if_pos e]; rfl
    · simp only [if_neg e]; exact hm q
  · rw [hf q]
    by_cases e : q = r
    · simp only [if_pos e]
      rw [cps_app]
      have := o.thenK k5 (fun b hb e2 => ownMap o M4 (by rw [← e2]; exact hb)) x
      simpa using this
    · simp only [if_neg e]
      have o' := (h3 q).thenK k (fun b hb e2 => h4 r q (fun h => e h.symm) b e2 hb) o.ext
      exact o'.thenK k5 (fun b hb e2 => ownMap o' M4 (by rw [← e2]; exact hb)) x
  · have hh : ∀ q, q ≠ r → djA A' (S q).1 := fun q hq2 => by
      rcases hA with e | e | ⟨t, e, xt⟩
      · rw [e]; exact h4 r q (fun h => hq2 h.symm)
      · rw [e]; intro g h; cases h
      · intro g' h1 h2
        rw [e] at h1
        injection h1 with h1; injection h1 with h1
        rcases (h3 q).form with ⟨e2, -⟩ | ⟨g2, e2, -, hlt, -⟩
        · rw [e2] at h2; cases h2
        · rw [e2] at h2; injection h2 with h2; injection h2 with h2
          have := xt.size; omega
    by_cases e : q = r
    · simp only [if_pos e, if_neg (show ¬ q' = r from fun h => hqq (by rw [e, h]))]
      exact hh q' (fun h => hqq (by rw [e, h]))
    · by_cases e' : q' = r
      · simp only [if_neg e, if_pos e']; exact (hh q e).symm
      · simp only [if_neg e, if_neg e']; exact h4 q q' hqq
/-- The parts of all reaches, as the tree holds them. -/
structure TreR (D : Nat → Prop) (w : World) (g : Nat) (d : Dist) : Prop where
  own : D g
  ex : ∃ m : Int → Option Value, MapG kvI w g m ∧ ∀ r : Int, ∃ A n c, (m r).getD (.slice none 0 0) = .slice A n c ∧ SlR tPt D w A n (ptsV d r) ∧ n ≤ c
theorem TreR.kept {D D' : Nat → Prop} {w w' : World} {g : Nat} {d : Dist} (h : TreR D w g d) (k : Kept D' w w') (hd : ∀ b, b < w.heap.size → D b → D' b) : TreR D w' g d := by
  obtain ⟨h0, m, h1, h2⟩ := h
  refine ⟨h0, m, h1.kept k (hd g h1.lt h0), fun r => ?_⟩
  obtain ⟨A, n, c, e, hs, hc⟩ := h2 r
  exact ⟨A, n, c, e, hs.kept k hd, hc⟩
theorem TreR.ext {D : Nat → Prop} {w w' : World} {g : Nat} {d : Dist} (h : TreR D w g d) (k : Ext w w') : TreR D w' g d := h.kept k fun _ _ _ => trivial
section
variable {D : Nat → Prop} {w : World}
set_option maxRecDepth 4000 in
theorem c_dgrow {d : Dist} {A1 A2 A3 A4 A5 A6 : Option Addr} {n1 c1 n2 c2 n3 c3 n4 c4 n5 c5 n6 c6 : Nat} (hr : SlR tReach D w A1 n1 d.reaches) (hf : SlR tFarm D w A2 n2 d.farms) (hn : d.reaches.length ≤ 64 ∧ d.farms.length ≤ 600) :
    CallZ Tryz.prog 20 #[.agg #[.string d.name, iv d.hours, iv d.cap, iv d.start, .slice A1 n1 c1, .slice A2 n2 c2, .slice A3 n3 c3, .slice A4 n4 c4, .slice A5 n5 c5, .slice A6 n6 c6]] w
      (fun v w' => ∃ g, v = .agg #[.string d.name, iv d.hours, iv d.cap, iv d.start, .slice A1 n1 c1, .slice A2 n2 c2, .slice A3 n3 c3, .slice A4 n4 c4, .slice A5 n5 c5, .slice A6 n6 c6, .map (some g)] ∧ Ext w w' ∧ TreR (fun b => w.heap.size ≤ b) w' g d) := by
  have lr := hr.len
  have lf := hf.len
  refine fn_rule (args := [.agg #[.string d.name, iv d.hours, iv d.cap, iv d.start, .slice A1 n1 c1, .slice A2 n2 c2, .slice A3 n3 c3, .slice A4 n4 c4, .slice A5 n5 c5, .slice A6 n6 c6]]) Tryz.func20 (by kernel_rfl) ?_
  refine box (fun b1 w1 h1 => ?_)
  refine alloc (fun b2 w2 h2 => ?_)
  have B1 : Blk w2 b1 31 [.string d.name, iv d.hours, iv d.cap, iv d.start, .slice A1 n1 c1, .slice A2 n2 c2, .slice A3 n3 c3, .slice A4 n4 c4, .slice A5 n5 c5, .slice A6 n6 c6] := h1.blk.ext h2.ext
  refine ldA _ (.blk B1) rfl ?_
  refine mmap (fun g w3 hg hw3 => ?_)
  have x3 : Ext w2 w3 := by rw [hw3]; exact Kept.alloc _ _ _
  have M3 : MapG kvI w3 g (fun _ => none) := by rw [hg, hw3]; exact MapG.new kvI w2
  refine bld [.string d.name, iv d.hours, iv d.cap, iv d.start, .slice A1 n1 c1, .slice A2 n2 c2, .slice A3 n3 c3, .slice A4 n4 c4, .slice A5 n5 c5, .slice A6 n6 c6, .map (some g)] (by kernel_rfl) ?_
  refine alloc (fun b3 w4 h4 => ?_)
  refine stA (vs := [.string d.name, iv d.hours, iv d.cap, iv d.start, .slice A1 n1 c1, .slice A2 n2 c2, .slice A3 n3 c3, .slice A4 n4 c4, .slice A5 n5 c5, .slice A6 n6 c6, .map (some g)]) h4.blk rfl (Nat.le_of_ble_eq_true rfl) (by simp [Value.oneCell']) (fun w5 B3 k5 z5 => ?_)
  have e1 := h1.at_
  have e2 := h2.at_
  have e4 := h4.at_
  have s1 := h1.size
  have s2 := h2.size
  have s3 := x3.size
  have sg := M3.lt
  have s4 := h4.size
  have x5 : Ext w w5 := (((h1.ext.trans h2.ext).trans x3).trans h4.ext).then k5 fun b hb _ e => by omega
  have B3 : Blk w5 b3 56 [.string d.name, iv d.hours, iv d.cap, iv d.start, .slice A1 n1 c1, .slice A2 n2 c2, .slice A3 n3 c3, .slice A4 n4 c4, .slice A5 n5 c5, .slice A6 n6 c6, .map (some g)] := B3
  have B1 : Blk w5 b1 31 [.string d.name, iv d.hours, iv d.cap, iv d.start, .slice A1 n1 c1, .slice A2 n2 c2, .slice A3 n3 c3, .slice A4 n4 c4, .slice A5 n5 c5, .slice A6 n6 c6] := (B1.ext (x3.trans h4.ext)).kept k5 (by omega)
  have B2 : Blk w5 b2 56 [.string ByteArray.empty, iv 0, iv 0, iv 0, .slice none 0 0, .slice none 0 0, .slice none 0 0, .slice none 0 0, .slice none 0 0, .slice none 0 0, .map none] := (h2.blk.ext (x3.trans h4.ext)).kept k5 (by omega)
  have M5 : MapG kvI w5 g (fun _ => none) := (M3.kept h4.ext trivial).kept k5 (by have := M3.lt; omega)
  have hgw : w.heap.size ≤ g := by omega
  have hg1 := M5.lt
  refine fldA ?_
  refine ld (.slice A2 n2 c2) (B1.cell rfl) ?_
  refine len ?_
  refine loop_rule (fun k : Nat => [(14, iv (k : Int))]) (fun k u => k ≤ n2 ∧ (∃ S, PtsM w u g (fun r => ptsF d r k) S) ∧ Ext w u ∧ Blk u b1 31 [.string d.name, iv d.hours, iv d.cap, iv d.start, .slice A1 n1 c1, .slice A2 n2 c2, .slice A3 n3 c3, .slice A4 n4 c4, .slice A5 n5 c5, .slice A6 n6 c6] ∧ Blk u b3 56 [.string d.name, iv d.hours, iv d.cap, iv d.start, .slice A1 n1 c1, .slice A2 n2 c2, .slice A3 n3 c3, .slice A4 n4 c4, .slice A5 n5 c5, .slice A6 n6 c6, .map (some g)] ∧ Blk u b2 56 [.string ByteArray.empty, iv 0, iv 0, iv 0, .slice none 0 0, .slice none 0 0, .slice none 0 0, .slice none 0 0, .slice none 0 0, .slice none 0 0, .map none]) (fun k _ => n2 - k) 0 ⟨rfl, trivial⟩ ⟨by omega, ⟨fun _ => (none, 0, 0), ⟨_, M5, fun _ => rfl⟩, fun _ => OwnF.nil x5, fun _ _ _ g h => by cases h⟩, x5, B1, B3, B2⟩ rfl ?_
  rintro G k u ⟨hk, ⟨S, P⟩, xu, B1, B3, B2⟩
  refine cD (fun hlt => ?_) (fun hge => ?_)
  · have hlt : k < n2 := by omega
    obtain ⟨b, o, cs, x, rfl, hx, -, -, hc, rfl⟩ := (hf.ext xu).at_ hlt
    refine idx k rfl hlt ?_
    refine ldA x.c hc rfl ?_
    refine alloc (fun b5 u1 i1 => ?_)
    have y1 := i1.at_
    have q1 := i1.size
    refine stA (vs := x.c) i1.blk rfl (Nat.le_of_ble_eq_true rfl) (by simp [Value.oneCell']) (fun u2 B5 k2 z2 => ?_)
    have xu2 : Ext u u2 := i1.ext.then k2 fun b hb _ e => by omega
    have hl := P.len x.reach
    have P2 := P.ext xu2
    have B1 := B1.ext xu2
    have B3 := B3.ext xu2
    have B2 := B2.ext xu2
    have B5 : Blk u2 b5 70 x.c := B5
    obtain ⟨⟨m, Mm, hm⟩, ho, hdj⟩ := P2
    have hlF := ptsF_len (d := d) (r := x.reach) (k := d.farms.length)
    have hlF' := ptsF_len (d := d) (r := x.reach) (k := k)
    have hlC := ptsC_len (d := d) (r := x.reach) (k := k)
    have hl : (S x.reach).2.1 ≤ 10000 := by rw [hl]; omega
    have n3 := ownTy (ho x.reach) B3 (by decide)
    have n5 := ownTy (ho x.reach) B5 (by decide)
    have n1 := ownTy (ho x.reach) B1 (by decide)
    have n2 := ownTy (ho x.reach) B2 (by decide)
    have nm := ownMap (ho x.reach) Mm
    have hgl := Mm.lt
    have l1 := B1.lt
    have l2 := B2.lt
    have l3 := B3.lt
    refine drawP (.take 0 (.take 1 (.take 2 (.take 3 (.take 4 (.take 5 (.take 6 (.take 7 (.take 8 (.take 9 (.take 10 (.eff 11 (.eff 12 (.bar (.eff 13 .done))))))))))))))) [13] (fun z => Kept (fun b => (S x.reach).1 ≠ some (ad b 0)) u2 z) mx (by kernel_rfl) (.refl _ _) ?_
    refine fldA ?_
    refine ldK (.map (some g)) (B3.cell rfl) n3 (.refl _ _) ?_
    refine fldA ?_
    refine ldK (iv x.reach) (B5.cell rfl) n5 (.refl _ _) ?_
    refine fldA ?_
    refine ldK (.map (some g)) (B3.cell rfl) n3 (.refl _ _) ?_
    refine fldA ?_
    refine ldK (iv x.reach) (B5.cell rfl) n5 (.refl _ _) ?_
    refine lookG1 (kv := kvI) x.reach (.slice (S x.reach).1 (S x.reach).2.1 (S x.reach).2.2) (fun z hz => ⟨m, Mm.kept hz nm, hm _⟩) ?_
    refine bld [.bool true, iv (k : Int)] (by kernel_rfl) ?_
    refine lit [.agg #[.bool true, iv (k : Int)]] (fun hg2 u3 hq => ?_)
    refine strS (Ext.any hq.ext) ?_
    refine appF ((ho x.reach).then hq.ext) (hq.src (sz := 2) rfl) (by omega) (fun A' c' u4 o4 k4 hA => ?_)
    have k24 : Kept (fun b => (S x.reach).1 ≠ some (ad b 0)) u2 u4 := (Ext.any hq.ext).trans k4
    refine strS k24 ?_
    refine barS (fun _ => True) trivial ?_
    have Mm4 := Mm.kept k24 nm
    refine mupdG (kv := kvI) x.reach Mm4 (fun u5 M5 k5 z5 => ?_)
    refine strS trivial ?_
    refine arI (by omega) ?_
    have x25 : Ext w u5 := (o4.ext).then k5 fun b hb _ e => by omega
    refine next (k + 1) ⟨by rw [Int.natCast_add]; rfl, trivial⟩ ⟨by omega, PtsM.step (f := fun r => ptsF d r k) (p := (true, k)) x.reach ho hdj hm o4 k24 (hA.imp id (Or.imp id fun e => ⟨u3, e, hq.ext⟩)) Mm4 M5 k5 x25 (fun q => ?_), x25, (B1.kept k24 n1).kept k5 (by omega), (B3.kept k24 n3).kept k5 (by omega), (B2.kept k24 n2).kept k5 (by omega)⟩ (by omega)
    have ef : (fmC d k).reach = x.reach := by rw [fmC_at hx]
    by_cases e : q = x.reach
    · rw [if_pos e, e]
      exact ptsF_yes ef
    · rw [if_neg e]
      exact ptsF_no (fun h => e (by rw [← h]; exact ef))
  · refine fldA ?_
    refine ld (.slice A1 n1 c1) (B1.cell rfl) ?_
    refine len ?_
    refine loop_rule (fun k : Nat => [(36, iv (k : Int))]) (fun k u => k ≤ n1 ∧ (∃ S, PtsM w u g (fun r => ptsF d r d.farms.length ++ ptsC d r k) S) ∧ Ext w u ∧ Blk u b1 31 [.string d.name, iv d.hours, iv d.cap, iv d.start, .slice A1 n1 c1, .slice A2 n2 c2, .slice A3 n3 c3, .slice A4 n4 c4, .slice A5 n5 c5, .slice A6 n6 c6] ∧ Blk u b3 56 [.string d.name, iv d.hours, iv d.cap, iv d.start, .slice A1 n1 c1, .slice A2 n2 c2, .slice A3 n3 c3, .slice A4 n4 c4, .slice A5 n5 c5, .slice A6 n6 c6, .map (some g)] ∧ Blk u b2 56 [.string ByteArray.empty, iv 0, iv 0, iv 0, .slice none 0 0, .slice none 0 0, .slice none 0 0, .slice none 0 0, .slice none 0 0, .slice none 0 0, .map none]) (fun k _ => n1 - k) 0 ⟨rfl, trivial⟩ ⟨by omega, ⟨S, by obtain rfl : k = d.farms.length := (by omega); simpa [ptsC] using P⟩, xu, B1, B3, B2⟩ rfl ?_
    rintro G k u ⟨hk, ⟨S, P⟩, xu, B1, B3, B2⟩
    refine cD (fun hlt => ?_) (fun hge => ?_)
    · have hlt : k < n1 := by omega
      obtain ⟨b, o, cs, x, rfl, hx, -, -, hc, rfl⟩ := (hr.ext xu).at_ hlt
      refine idx k rfl hlt ?_
      refine ldA x.c hc rfl ?_
      refine alloc (fun b5 u1 i1 => ?_)
      have y1 := i1.at_
      have q1 := i1.size
      refine stA (vs := x.c) i1.blk rfl (Nat.le_of_ble_eq_true rfl) (by simp [Value.oneCell']) (fun u2 B5 k2 z2 => ?_)
      have xu2 : Ext u u2 := i1.ext.then k2 fun b hb _ e => by omega
      have hl := P.len x.up
      have P2 := P.ext xu2
      have B1 := B1.ext xu2
      have B3 := B3.ext xu2
      have B2 := B2.ext xu2
      have B5 : Blk u2 b5 82 x.c := B5
      obtain ⟨⟨m, Mm, hm⟩, ho, hdj⟩ := P2
      have hlF := ptsF_len (d := d) (r := x.up) (k := d.farms.length)
      have hlF' := ptsF_len (d := d) (r := x.up) (k := k)
      have hlC := ptsC_len (d := d) (r := x.up) (k := k)
      have hl : (S x.up).2.1 ≤ 10000 := by rw [hl]; rw [List.length_append]; omega
      have n3 := ownTy (ho x.up) B3 (by decide)
      have n5 := ownTy (ho x.up) B5 (by decide)
      have n1 := ownTy (ho x.up) B1 (by decide)
      have n2 := ownTy (ho x.up) B2 (by decide)
      have nm := ownMap (ho x.up) Mm
      have hgl := Mm.lt
      have l1 := B1.lt
      have l2 := B2.lt
      have l3 := B3.lt
      refine drawP (.take 0 (.take 1 (.take 2 (.take 3 (.take 4 (.take 5 (.take 6 (.take 7 (.take 8 (.take 9 (.take 10 (.eff 11 (.eff 12 (.bar (.eff 13 .done))))))))))))))) [13] (fun z => Kept (fun b => (S x.up).1 ≠ some (ad b 0)) u2 z) mx (by kernel_rfl) (.refl _ _) ?_
      refine fldA ?_
      refine ldK (.map (some g)) (B3.cell rfl) n3 (.refl _ _) ?_
      refine fldA ?_
      refine ldK (iv x.up) (B5.cell rfl) n5 (.refl _ _) ?_
      refine fldA ?_
      refine ldK (.map (some g)) (B3.cell rfl) n3 (.refl _ _) ?_
      refine fldA ?_
      refine ldK (iv x.up) (B5.cell rfl) n5 (.refl _ _) ?_
      refine lookG1 (kv := kvI) x.up (.slice (S x.up).1 (S x.up).2.1 (S x.up).2.2) (fun z hz => ⟨m, Mm.kept hz nm, hm _⟩) ?_
      refine bld [.bool false, iv (k : Int)] (by kernel_rfl) ?_
      refine lit [.agg #[.bool false, iv (k : Int)]] (fun hg2 u3 hq => ?_)
      refine strS (Ext.any hq.ext) ?_
      refine appF ((ho x.up).then hq.ext) (hq.src (sz := 2) rfl) (by omega) (fun A' c' u4 o4 k4 hA => ?_)
      have k24 : Kept (fun b => (S x.up).1 ≠ some (ad b 0)) u2 u4 := (Ext.any hq.ext).trans k4
      refine strS k24 ?_
      refine barS (fun _ => True) trivial ?_
      have Mm4 := Mm.kept k24 nm
      refine mupdG (kv := kvI) x.up Mm4 (fun u5 M5 k5 z5 => ?_)
      refine strS trivial ?_
      refine arI (by omega) ?_
      have x25 : Ext w u5 := (o4.ext).then k5 fun b hb _ e => by omega
      refine next (k + 1) ⟨by rw [Int.natCast_add]; rfl, trivial⟩ ⟨by omega, PtsM.step (f := fun r => ptsF d r d.farms.length ++ ptsC d r k) (p := (false, k)) x.up ho hdj hm o4 k24 (hA.imp id (Or.imp id fun e => ⟨u3, e, hq.ext⟩)) Mm4 M5 k5 x25 (fun q => ?_), x25, (B1.kept k24 n1).kept k5 (by omega), (B3.kept k24 n3).kept k5 (by omega), (B2.kept k24 n2).kept k5 (by omega)⟩ (by omega)
      have ef : (rcC d k).up = x.up := by rw [rcC_at hx]
      by_cases e : q = x.up
      · rw [if_pos e, e]
        show _ ++ _ = _; rw [ptsC_yes ef, List.append_assoc]
      · rw [if_neg e]
        show _ ++ _ = _; rw [ptsC_no (fun h => e (by rw [← h]; exact ef))]
    · have hkn : k = d.reaches.length := by omega
      refine ldA _ (.blk B3) rfl ?_
      refine stA (vs := [.string d.name, iv d.hours, iv d.cap, iv d.start, .slice A1 n1 c1, .slice A2 n2 c2, .slice A3 n3 c3, .slice A4 n4 c4, .slice A5 n5 c5, .slice A6 n6 c6, .map (some g)]) B2 rfl (Nat.le_of_ble_eq_true rfl) (by simp [Value.oneCell']) (fun u6 B6 k6 z6 => ?_)
      have B6 : Blk u6 b2 56 [.string d.name, iv d.hours, iv d.cap, iv d.start, .slice A1 n1 c1, .slice A2 n2 c2, .slice A3 n3 c3, .slice A4 n4 c4, .slice A5 n5 c5, .slice A6 n6 c6, .map (some g)] := B6
      have l2 := B2.lt
      have hgl := P.map
      refine ret ?_
      refine resL _ (holds_agg (CellsAt.blk B6) rfl) ?_
      have x6 : Ext w u6 := xu.then k6 fun b hb _ e => by omega
      refine ⟨g, rfl, x6, hgw, ?_⟩
      obtain ⟨⟨m, Mm, hm⟩, ho, -⟩ := P
      refine ⟨m, Mm.kept k6 (fun e => by
        obtain ⟨L, q, hE, -⟩ := Mm
        have h1 : u.heap[b2]? = _ := B2
        rw [← e, hE.at_] at h1
        cases h1), fun r => ⟨_, _, _, hm r, ?_, (ho r).le⟩⟩
      have o := (ho r).thenK k6 (fun b hb e => ownTy (ho r) B2 (by decide) (by rw [← e]; exact hb)) x6
      have hl := o.own.len
      rw [cps_len, hkn] at hl
      rw [hkn] at o
      have hp : (ptsF d r d.farms.length ++ ptsC d r d.reaches.length).length ≤ 664 := by
        have := ptsV_len (d := d) (r := r)
        unfold ptsV at this; omega
      exact Own.rd (a := tPt) o.own flat_cps (by unfold ptsV; omega) (by omega) (fun b hb => o.new b hb)
end
end Go.Proofs.YtmjcaclakggafaaGreat

/- Losses, plainly: what arrives does not decrease with the parcel; the least parcel of which so much arrives, by halving (as in evidence). -/
namespace Go.Proofs.YtmjcaclakggafaaGreat
open Go Go.RowKit

theorem First.uniq {p : Int → Bool} {lo hi a b : Int} (h : First p lo hi a) (k : First p lo hi b) : a = b := by
  rcases Int.lt_trichotomy a b with h1 | h1 | h1
  · have := k.no a h.le h1
    rw [h.yes (by have := k.ge; omega)] at this; cases this
  · exact h1
  · have := h.no b k.le h1
    rw [k.yes (by have := h.ge; omega)] at this; cases this
def bs (p : Int → Bool) : Nat → Int → Int → Int
  | 0, lo, _ => lo
  | n + 1, lo, hi => if lo < hi then (if p ((lo + hi) / 2) then bs p n lo ((lo + hi) / 2) else bs p n ((lo + hi) / 2 + 1) hi) else lo
theorem bs_first {p : Int → Bool} {a b : Int} (hm : ∀ v v', a ≤ v → v ≤ v' → v' ≤ b → p v = true → p v' = true) : ∀ (n : Nat) {lo hi : Int}, Half p a b lo hi → hi - lo < 2 ^ n → First p a b (bs p n lo hi)
  | 0, lo, hi, h, hn => h.done (by simp at hn; omega)
  | n + 1, lo, hi, h, hn => by
    unfold bs
    have e : (2 : Int) ^ (n + 1) = 2 * 2 ^ n := by rw [Int.pow_succ]; omega
    by_cases hlt : lo < hi
    · rw [if_pos hlt]
      cases hp : p ((lo + hi) / 2) with
      | true => rw [if_pos rfl]; exact bs_first hm n (h.left (by omega) (by omega) hp) (by omega)
      | false => rw [if_neg (by simp)]; exact bs_first hm n (h.right hm (by omega) (by omega) hp) (by omega)
    · rw [if_neg hlt]; exact h.done (by omega)

/-! ### what arrives -/
def arrB (r : Reach) (v : Int) : Int := v - (lostR r v).lo
def arrW (r : Reach) (v : Int) : Int := v - (lostR r v).hi
section
variable {r : Reach} {v v' w : Int}
theorem floor_mono {n d : Int} (hd : 0 < d) (hn : 0 ≤ n) (hnd : n ≤ d) (h : v ≤ v') : v * n / d ≤ v' * n / d ∧ v' * n / d ≤ v * n / d + (v' - v) := by
  have h1 : v * n ≤ v' * n := Int.mul_le_mul_of_nonneg_right h hn
  have h2 : v' * n ≤ v * n + (v' - v) * d := by
    have : (v' - v) * n ≤ (v' - v) * d := Int.mul_le_mul_of_nonneg_left hnd (by omega)
    rw [Int.sub_mul] at this; omega
  refine ⟨Int.ediv_le_ediv hd h1, ?_⟩
  rw [← Int.add_mul_ediv_right _ _ (by omega)]
  exact Int.ediv_le_ediv hd h2
theorem ceil_mono {n d : Int} (hd : 0 < d) (hnd : n ≤ d) (h : v ≤ v') : upI (v' * n) d ≤ upI (v * n) d + (v' - v) := by
  have h2 : v' * n ≤ v * n + (v' - v) * d := by
    have : (v' - v) * n ≤ (v' - v) * d := Int.mul_le_mul_of_nonneg_left hnd (by omega)
    rw [Int.sub_mul] at this; omega
  unfold upI
  rw [← Int.add_mul_ediv_right _ _ (by omega)]
  exact Int.ediv_le_ediv hd (by omega)
theorem lost_eq (hl : lossOk r = true) (hv : 0 ≤ v) : lostR r v = ⟨min v (r.evap.lo + v * r.s0.n / r.s0.d), if v = 0 then 0 else min v (r.evap.hi + upI (v * r.s1.n) r.s1.d)⟩ := by
  obtain ⟨h1, h2⟩ := lossOk_iff.1 hl
  unfold lostR
  by_cases h : v = 0
  · subst h; rw [if_pos rfl, if_pos rfl, Int.zero_mul, Int.zero_ediv]; congr 1; omega
  · rw [if_neg h, if_neg h]
theorem arrB_mono (hl : lossOk r = true) (hv : 0 ≤ v) (h : v ≤ v') : arrB r v ≤ arrB r v' := by
  obtain ⟨h1, h2⟩ := lossOk_iff.1 hl
  obtain ⟨h3, h4, _⟩ := sharesQ_iff.1 h2
  obtain ⟨q1, q2, q3⟩ := shareQ_iff.1 h3
  obtain ⟨d1, -⟩ := qValid_iff.1 q1
  have f := floor_mono (v := v) (v' := v') (show 0 < r.s0.d by omega) q2 q3 h
  unfold arrB
  rw [lost_eq hl hv, lost_eq hl (by omega)]
  show v - min v _ ≤ v' - min v' _
  omega
theorem arrW_mono (hl : lossOk r = true) (hv : 0 ≤ v) (h : v ≤ v') : arrW r v ≤ arrW r v' := by
  obtain ⟨h1, h2⟩ := lossOk_iff.1 hl
  obtain ⟨h3, h4, _⟩ := sharesQ_iff.1 h2
  obtain ⟨q1, q2, q3⟩ := shareQ_iff.1 h4
  obtain ⟨d1, -⟩ := qValid_iff.1 q1
  have f := ceil_mono (v := v) (v' := v') (show 0 < r.s1.d by omega) q3 h
  have s := share_le (v := v') h4 (by omega)
  unfold arrW
  rw [lost_eq hl hv, lost_eq hl (by omega)]
  show v - (if v = 0 then 0 else _) ≤ v' - (if v' = 0 then 0 else _)
  by_cases e : v = 0
  · rw [if_pos e]
    by_cases e' : v' = 0
    · rw [if_pos e']; omega
    · rw [if_neg e']; omega
  · rw [if_neg e, if_neg (by omega)]; omega
theorem arr_le (hl : lossOk r = true) (hv : 0 ≤ v ∧ v ≤ 1073741824) : 0 ≤ arrW r v ∧ arrW r v ≤ arrB r v ∧ arrB r v ≤ v := by
  have h := lost_le hl hv
  obtain ⟨h1, h2⟩ := lossOk_iff.1 hl
  obtain ⟨h3, h4, h5⟩ := sharesQ_iff.1 h2
  have : (lostR r v).lo ≤ (lostR r v).hi := by
    rw [lost_eq hl hv.1]
    show min v _ ≤ if v = 0 then 0 else min v _
    by_cases e : v = 0
    · rw [if_pos e]; omega
    · rw [if_neg e]
      obtain ⟨q1, q2, q3⟩ := shareQ_iff.1 h3
      obtain ⟨q1', q2', q3'⟩ := shareQ_iff.1 h4
      obtain ⟨d1, -⟩ := qValid_iff.1 q1
      obtain ⟨d1', -⟩ := qValid_iff.1 q1'
      have k : v * r.s0.n / r.s0.d ≤ upI (v * r.s1.n) r.s1.d := by
        have a1 : v * r.s0.n / r.s0.d * r.s0.d ≤ v * r.s0.n := Int.ediv_mul_le _ (by omega)
        have a2 : v * r.s1.n ≤ upI (v * r.s1.n) r.s1.d * r.s1.d := by
          have : v * r.s1.n + r.s1.d - 1 < ((v * r.s1.n + r.s1.d - 1) / r.s1.d + 1) * r.s1.d := Int.lt_ediv_add_one_mul_self _ (by omega)
          unfold upI
          rw [Int.add_mul] at this
          omega
        generalize v * r.s0.n / r.s0.d = x at a1
        generalize upI (v * r.s1.n) r.s1.d = y at a2
        have b1 : x * r.s0.d * r.s1.d ≤ v * r.s0.n * r.s1.d := Int.mul_le_mul_of_nonneg_right a1 (by omega)
        have b2 : v * r.s1.n * r.s0.d ≤ y * r.s1.d * r.s0.d := Int.mul_le_mul_of_nonneg_right a2 (by omega)
        have b3 : v * (r.s0.n * r.s1.d) ≤ v * (r.s1.n * r.s0.d) := Int.mul_le_mul_of_nonneg_left h5 hv.1
        have b4 : x * (r.s0.d * r.s1.d) ≤ y * (r.s0.d * r.s1.d) := by
          rw [← Int.mul_assoc, ← Int.mul_assoc] at b3 ⊢
          rw [Int.mul_right_comm y r.s0.d r.s1.d]
          omega
        exact Int.le_of_mul_le_mul_right b4 (Int.mul_pos (by omega) (by omega))
      omega
  unfold arrW arrB
  omega
/-- The least parcel of which w litres arrive at best (at worst), one more than the greatest one if there is none. -/
def lvB (r : Reach) (w : Int) : Int := bs (fun v => decide (w ≤ arrB r v)) 31 0 1073741825
def lvW (r : Reach) (w : Int) : Int := bs (fun v => decide (w ≤ arrW r v)) 31 0 1073741825
theorem lvB_first (hl : lossOk r = true) : First (fun v => decide (w ≤ arrB r v)) 0 1073741825 (lvB r w) :=
  bs_first (fun v v' h1 h2 _ h => by rw [decide_eq_true_eq] at h ⊢; have := arrB_mono hl h1 h2; omega) 31 (Half.start (by omega)) (by decide)
theorem lvW_first (hl : lossOk r = true) : First (fun v => decide (w ≤ arrW r v)) 0 1073741825 (lvW r w) :=
  bs_first (fun v v' h1 h2 _ h => by rw [decide_eq_true_eq] at h ⊢; have := arrW_mono hl h1 h2; omega) 31 (Half.start (by omega)) (by decide)
end
def reachV (r : Reach) (w : Int) : Int × Bool := if lErr r w ≠ 0 then (0, false) else if lvB r w > 1073741824 then (0, false) else (lvB r w, true)
def mostV (r : Reach) (w : Int) : Int := if lErr r w ≠ 0 then 0 else lvW r (w + 1) - 1
end Go.Proofs.YtmjcaclakggafaaGreat

/- Contracts of sort.Search, losses.least, losses.Need (as in evidence). -/
namespace Go.Proofs.YtmjcaclakggafaaGreat
open Go Go.RowKit

def needL (r : Reach) (w : Int) : Int × Bool := if lErr r w ≠ 0 then (0, false) else if lvW r w > 1073741824 then (0, false) else (lvW r w, true)
section
variable {D : Nat → Prop} {w : World}
/-- sort.Search with a function that answers p, and leaves alone what was there. -/
theorem c_Search {n : Nat} {p : Int → Bool} {fn : FuncId} {cap : Array Value} [he : Enters Tryz.prog fn] (hn : n ≤ 4611686018427387904) (hm : ∀ v v' : Int, 0 ≤ v → v ≤ v' → v' ≤ n → p v = true → p v' = true)
    (hc : ∀ (v : Int) (w' : World), 0 ≤ v → v < n → Ext w w' → CallZ Tryz.prog fn ([iv v] ++ cap.toList).toArray w' (fun u w'' => u = .bool (p v) ∧ Ext w' w'')) :
    CallZ Tryz.prog 101 #[iv (n : Int), .func (.func fn) #[] cap] w (fun v w' => ∃ k : Int, v = iv k ∧ First p 0 n k ∧ Ext w w') := by
  refine fn_rule (args := [iv (n : Int), .func (.func fn) #[] cap]) Tryz.func101 (by kernel_rfl) ?_
  refine loop2 (fun (lo hi : Int) => [(5, iv lo), (6, iv hi)]) (fun lo hi w' => Half p 0 n lo hi ∧ Ext w w') (fun lo hi _ => (hi - lo).toNat) 0 (n : Int) ⟨rfl, rfl, trivial⟩ ⟨Half.start (by omega), .refl _ _⟩ rfl ?_
  rintro G lo hi w' ⟨h, xw⟩
  have h1 := h.a_lo
  have h2 := h.lo_hi
  have h3 := h.hi_b
  refine cD (fun hlt => ?_) (fun hge => ?_)
  · refine arI (by omega) ?_
    obtain ⟨s, hs⟩ : ∃ s : Nat, lo + hi = (s : Int) := ⟨(lo + hi).toNat, by omega⟩
    refine convU (n := s) (by omega) (by omega) ?_
    refine shrR (by decide) ?_
    refine conv (k := .i64) ?_
    have e : IntKind.i64.wrap (((s : Int)).fdiv (2 ^ (min (1 : Int).toNat IntKind.u64.bits))) = (lo + hi) / 2 := by
      rw [show (2 : Int) ^ (min (1 : Int).toNat IntKind.u64.bits) = 2 by decide, Int.fdiv_eq_ediv_of_nonneg _ (by omega), i64_wrap_id (by omega), hs]
    rw [e]
    obtain ⟨m, hmm⟩ : ∃ m, m = (lo + hi) / 2 := ⟨_, rfl⟩
    rw [← hmm]
    refine callE (hc m w' (by omega) (by omega) xw) (fun w2 hp x2 => ?_) (fun w2 hp x2 => ?_)
    · exact next2 lo m ⟨rfl, rfl, trivial⟩ ⟨h.left (by omega) (by omega) hp, xw.trans x2⟩ (by omega)
    · refine arI (by omega) ?_
      exact next2 (m + 1) hi ⟨rfl, rfl, trivial⟩ ⟨h.right hm (by omega) (by omega) hp, xw.trans x2⟩ (by omega)
  · exact ret1 (iv lo) rfl ⟨lo, rfl, h.done (by omega), xw⟩
/-- A function that a closure holds, which answers g and leaves alone what was there. -/
def Fun1 (fn : FuncId) (cap : Array Value) (w : World) (g : Int → Int) : Prop := ∀ (v : Int) (w' : World), 0 ≤ v → v ≤ 1073741824 → Ext w w' → CallZ Tryz.prog fn ([iv v] ++ cap.toList).toArray w' (fun u w'' => u = iv (g v) ∧ Ext w' w'')
theorem c_lleast1 {fn : FuncId} {cap : Array Value} [he : Enters Tryz.prog fn] {g : Int → Int} {ba bw : Nat} {t : TypeId} {w0 : World} {v x : Int} (hc : Fun1 fn cap w0 g) (hx : Ext w0 w) (hv : 0 ≤ v ∧ v ≤ 1073741824)
    (h1 : Blk w ba t [.func (.func fn) #[] cap]) (h2 : Blk w bw 3 [iv x]) : CallZ Tryz.prog 102 #[iv v, ptr ba, ptr bw] w (fun u w' => u = .bool (decide (g v > x)) ∧ Ext w w') := by
  refine fn_rule (args := [iv v, ptr ba, ptr bw]) Tryz.func102 (by kernel_rfl) ?_
  refine drawK (fun _ => True) [0, 1, 3, 2, 4, 5] [2] mx (by kernel_rfl) ?_
  refine ldK (.func (.func fn) #[] cap) (h1.cell rfl) trivial (.refl _ _) ?_
  refine ldK (iv x) (h2.cell rfl) trivial (.refl _ _) ?_
  refine call_of (hc v w hv.1 hv.2 hx) ?_
  rintro _ w2 ⟨rfl, x2⟩
  refine strK x2 ?_
  refine cD (fun q => ?_) (fun q => ?_)
  · exact ret1 (.bool true) rfl ⟨by rw [decide_eq_true q], x2⟩
  · exact ret1 (.bool false) rfl ⟨by rw [decide_eq_false q], x2⟩
theorem c_lleast {fn : FuncId} {cap : Array Value} [he : Enters Tryz.prog fn] {g : Int → Int} {x : Int} (hc : Fun1 fn cap w g) (hm : ∀ v v', 0 ≤ v → v ≤ v' → g v ≤ g v') :
    CallZ Tryz.prog 75 #[iv x, .func (.func fn) #[] cap] w (fun u w' => ∃ k : Int, u = iv k ∧ First (fun v => decide (g v > x)) 0 1073741825 k ∧ Ext w w') := by
  refine fn_rule (args := [iv x, .func (.func fn) #[] cap]) Tryz.func75 (by kernel_rfl) ?_
  refine box (fun bw w1 h1 => ?_)
  refine box (fun ba w2 h2 => ?_)
  have x2 := h1.ext.trans h2.ext
  refine call_of (c_Search (fn := 102) (cap := #[ptr ba, ptr bw]) (n := 1073741825) (p := fun v => decide (g v > x)) (by omega) (fun v v' h0 h1 _ h => by rw [decide_eq_true_eq] at h ⊢; have := hm v v' h0 h1; omega)
    (fun v w' hv0 hv1 xw => c_lleast1 hc (x2.trans xw) ⟨hv0, by omega⟩ (h2.blk.ext xw) ((h1.blk.ext h2.ext).ext xw))) ?_
  rintro _ w3 ⟨k, rfl, hk, x3⟩
  exact ret1 (iv k) rfl ⟨k, rfl, hk, x2.trans x3⟩
theorem c_lNeed1 {r : Reach} {b : Nat} {t : TypeId} {v : Int} (hok : lossOk r = true) (hv : 0 ≤ v ∧ v ≤ 1073741824) (hb : Blk w b t r.c) : CallZ Tryz.prog 76 #[iv v, ptr b] w (fun u w' => u = iv (arrW r v) ∧ Ext w w') := by
  refine fn_rule (args := [iv v, ptr b]) Tryz.func76 (by kernel_rfl) ?_
  refine ldA _ (.blk hb) rfl ?_
  refine call_of (c_llost hok hv) ?_
  rintro _ w2 ⟨rfl, x2⟩
  have h := lost_le hok hv
  refine fldV (cs := [iv (lostR r v).lo, iv (lostR r v).hi]) (iv (lostR r v).hi) rfl ?_
  refine arI (by omega) ?_
  exact ret1 (iv (v - (lostR r v).hi)) rfl ⟨rfl, x2⟩
theorem c_lNeed {r : Reach} {x : Int} : CallZ Tryz.prog 44 #[r.v, iv x] w (fun u w' => u = .tuple #[iv (needL r x).1, .bool (needL r x).2, iv (lErr r x)] ∧ Ext w w') := by
  refine fn_rule (args := [.agg #[.string r.name, iv r.up, iv r.delay, iv r.cap, iv r.bank, iv r.siphon, iv r.evap.lo, iv r.evap.hi, iv r.s0.n, iv r.s0.d, iv r.s1.n, iv r.s1.d], iv x]) Tryz.func44 (by kernel_rfl) ?_
  refine box (fun b w1 h1 => ?_)
  refine ldA r.c (.blk h1.blk) rfl ?_
  refine call_of c_lvalid ?_
  rintro _ w2 ⟨rfl, x2⟩
  refine cN (fun he => ?_) (fun he => ?_)
  · exact ret3 (iv 0) (.bool false) (iv (lErr r x)) rfl rfl rfl ⟨by unfold needL; rw [if_pos he], h1.ext.trans x2⟩
  have he : lErr r x = 0 := he
  obtain ⟨hok, hx⟩ := lErr_ok.1 he
  refine arI (by omega) ?_
  refine call_of (c_lleast (fn := 76) (cap := #[ptr b]) (g := arrW r) (x := x - 1) (fun v w' h0 h2 xw => c_lNeed1 hok ⟨h0, h2⟩ ((h1.blk.ext x2).ext xw)) (fun v v' h0 h => arrW_mono hok h0 h)) ?_
  rintro _ w3 ⟨k, rfl, hk, x3⟩
  have e : (fun v => decide (arrW r v > x - 1)) = fun v => decide (x ≤ arrW r v) := funext fun v => decide_eq_decide.2 ⟨fun h => by omega, fun h => by omega⟩
  rw [e] at hk
  obtain rfl := hk.uniq (lvW_first hok)
  have xx := (h1.ext.trans x2).trans x3
  refine cD (fun q => ?_) (fun q => ?_)
  · exact ret3 (iv 0) (.bool false) (iv 0) rfl rfl rfl ⟨by unfold needL; rw [if_neg (by simp [he]), if_pos q, he], xx⟩
  · exact ret3 (iv (lvW r x)) (.bool true) (iv 0) rfl rfl rfl ⟨by unfold needL; rw [if_neg (by simp [he]), if_neg q, he], xx⟩
end
end Go.Proofs.YtmjcaclakggafaaGreat

/- Layer 21's reference, further: what arrives, the least and the greatest parcel. -/
namespace Go.Proofs.YtmjcaclakggafaaGreat
open Go Go.RowKit

def arrV2 (r : Reach) (v : Int) (b : Bool) : Int := if b then arrB r v else arrW r v
def lvV (r : Reach) (x : Int) (b : Bool) : Int := if b then lvB r x else lvW r x
def leastV (r : Reach) (x : Int) (b : Bool) : Int := if arrV2 r 1073741824 b < x then -1 else lvV r x b
theorem arrV2_mono {r : Reach} {b : Bool} (hl : lossOk r = true) {v v' : Int} (hv : 0 ≤ v) (h : v ≤ v') : arrV2 r v b ≤ arrV2 r v' b := by
  unfold arrV2
  cases b
  · exact arrW_mono hl hv h
  · exact arrB_mono hl hv h
theorem lvV_first {r : Reach} {b : Bool} {x : Int} (hl : lossOk r = true) : First (fun v => decide (x ≤ arrV2 r v b)) 0 1073741825 (lvV r x b) := by
  unfold lvV arrV2
  cases b
  · exact lvW_first hl
  · exact lvB_first hl
section
variable {w : World} {r : Reach}
theorem c_r21arrives {v : Int} {b : Bool} (hok : lossOk r = true) (hv : 0 ≤ v ∧ v ≤ 1073741824) : CallZ Tryz.prog 103 #[r.v, iv v, .bool b] w (fun u w' => u = iv (arrV2 r v b) ∧ Ext w w') := by
  refine fn_rule (args := [.agg #[.string r.name, iv r.up, iv r.delay, iv r.cap, iv r.bank, iv r.siphon, iv r.evap.lo, iv r.evap.hi, iv r.s0.n, iv r.s0.d, iv r.s1.n, iv r.s1.d], iv v, .bool b]) Tryz.func103 (by kernel_rfl) ?_
  refine box (fun g w1 h1 => ?_)
  refine ldA r.c (.blk h1.blk) rfl ?_
  refine call_of (c_r21lost (r := r) (v := v) hok hv) ?_
  rintro _ w2 ⟨rfl, x2⟩
  have hl := lost_le hok hv
  refine alloc (fun q w3 h3 => ?_)
  refine stA (vs := [iv _, iv _]) h3.blk rfl (Nat.le_of_ble_eq_true rfl) (by simp [Value.oneCell']) (fun w4 b4 k4 z4 => ?_)
  have e3 := h3.at_
  have z1 := h1.ext.size
  have z2 := x2.size
  have b4 : Blk w4 q 77 [iv (lostR r v).lo, iv (lostR r v).hi] := b4
  have xx : Ext w w4 := ((h1.ext.trans x2).trans h3.ext).then k4 fun b hb _ e => by omega
  cases b with
  | true =>
    refine fldA ?_
    refine ld (iv (lostR r v).lo) (b4.cell rfl) ?_
    refine arI (by omega) ?_
    exact ret1 (iv (v - (lostR r v).lo)) rfl ⟨rfl, xx⟩
  | false =>
    refine fldA ?_
    refine ld (iv (lostR r v).hi) (b4.cell rfl) ?_
    refine arI (by omega) ?_
    exact ret1 (iv (v - (lostR r v).hi)) rfl ⟨rfl, xx⟩
theorem c_r21Least {x : Int} {b : Bool} (hok : lossOk r = true) : CallZ Tryz.prog 77 #[r.v, iv x, .bool b] w (fun u w' => u = iv (leastV r x b) ∧ Ext w w') := by
  refine fn_rule (args := [.agg #[.string r.name, iv r.up, iv r.delay, iv r.cap, iv r.bank, iv r.siphon, iv r.evap.lo, iv r.evap.hi, iv r.s0.n, iv r.s0.d, iv r.s1.n, iv r.s1.d], iv x, .bool b]) Tryz.func77 (by kernel_rfl) ?_
  refine box (fun g w1 h1 => ?_)
  refine ldA r.c (.blk h1.blk) rfl ?_
  refine call_of (c_r21arrives (r := r) (v := 1073741824) (b := b) hok (by decide)) ?_
  rintro _ w2 ⟨rfl, x2⟩
  have x02 := h1.ext.trans x2
  refine cD (fun g1 => ?_) (fun g1 => ?_)
  · exact ret1 (iv (-1)) rfl ⟨by unfold leastV; rw [if_pos g1], x02⟩
  have hm : ∀ v v' : Int, 0 ≤ v → v ≤ v' → v' ≤ 1073741824 → (fun v => decide (x ≤ arrV2 r v b)) v = true → (fun v => decide (x ≤ arrV2 r v b)) v' = true := fun v v' h1 h2 _ h => by
    simp only [decide_eq_true_eq] at h ⊢
    have := arrV2_mono (b := b) hok h1 h2; omega
  refine loop_rule (fun s : Int × Int => [(7, iv s.1), (8, iv s.2)]) (fun s u => Ext w2 u ∧ Half (fun v => decide (x ≤ arrV2 r v b)) 0 1073741824 s.1 s.2) (fun s _ => (s.2 - s.1).toNat) (0, 1073741824) ⟨rfl, rfl, trivial⟩ ⟨.refl _ _, Half.start (by decide)⟩ rfl ?_
  rintro G ⟨lo, hi⟩ u ⟨xu, hh⟩
  have h1' := hh.a_lo
  have h2' := hh.lo_hi
  have h3' := hh.hi_b
  dsimp only at h1' h2' h3'
  refine cD (fun hlt => ?_) (fun hge => ?_)
  · refine arI (by omega) ?_
    refine quoI (by omega) (by omega) (by omega) ?_
    refine ldA r.c (.blk ((h1.blk.ext x2).ext xu)) rfl ?_
    obtain ⟨md, hmd⟩ : ∃ md, md = (lo + hi) / 2 := ⟨_, rfl⟩
    rw [← hmd]
    refine call_of (c_r21arrives (r := r) (v := md) (b := b) hok (by omega)) ?_
    rintro _ w3 ⟨rfl, x3⟩
    refine cD (fun g2 => ?_) (fun g2 => ?_)
    · refine next (lo, md) ⟨rfl, rfl, trivial⟩ ⟨xu.trans x3, hh.left (by omega) (by omega) (by simpa using g2)⟩ (by simp only; omega)
    · refine arI (by omega) ?_
      refine next (md + 1, hi) ⟨rfl, rfl, trivial⟩ ⟨xu.trans x3, hh.right hm (by omega) (by omega) (by simpa using g2)⟩ (by simp only; omega)
  · have hf := hh.done (by omega)
    have hf2 : First (fun v => decide (x ≤ arrV2 r v b)) 0 1073741825 lo := ⟨hf.le, by have := hf.ge; omega, hf.no, fun _ => by
      by_cases e : lo < 1073741824
      · exact hf.yes e
      · have : lo = 1073741824 := by have := hf.ge; omega
        rw [this]; simp only [decide_eq_true_eq]; omega⟩
    refine ret1 (iv lo) rfl ⟨?_, x02.trans xu⟩
    unfold leastV
    rw [if_neg g1, hf2.uniq (lvV_first hok)]
theorem lv_least {x : Int} {b : Bool} (hok : lossOk r = true) : (leastV r x b < 0 ↔ lvV r x b > 1073741824) ∧ (¬ leastV r x b < 0 → leastV r x b = lvV r x b) := by
  have hf := lvV_first (b := b) (x := x) hok
  unfold leastV
  have hle := hf.le
  have hge := hf.ge
  by_cases h : arrV2 r 1073741824 b < x
  · rw [if_pos h]
    refine ⟨⟨fun _ => ?_, fun _ => by omega⟩, fun h => absurd (by omega) h⟩
    by_cases q : lvV r x b > 1073741824
    · exact q
    exfalso
    have h1 := hf.yes (by omega)
    simp only [decide_eq_true_eq] at h1
    have := arrV2_mono (b := b) hok hle (show lvV r x b ≤ 1073741824 by omega)
    omega
  · rw [if_neg h]
    refine ⟨⟨fun h => by omega, fun q => ?_⟩, fun _ => rfl⟩
    exfalso
    have := hf.no 1073741824 (by omega) (by omega)
    simp only [decide_eq_false_iff_not] at this
    omega
theorem c_r21Worst {v : Int} : CallZ Tryz.prog 37 #[r.v, iv v] w (fun u w' => u = .tuple #[iv (if lErr r v = 0 then v - (lostR r v).hi else 0), iv (lErr r v)] ∧ Ext w w') := by
  refine fn_rule (args := [.agg #[.string r.name, iv r.up, iv r.delay, iv r.cap, iv r.bank, iv r.siphon, iv r.evap.lo, iv r.evap.hi, iv r.s0.n, iv r.s0.d, iv r.s1.n, iv r.s1.d], iv v]) Tryz.func37 (by kernel_rfl) ?_
  refine box (fun g w1 h1 => ?_)
  refine ldA r.c (.blk h1.blk) rfl ?_
  refine call_of (c_r21Lost (r := r) (v := v)) ?_
  rintro _ w2 ⟨rfl, x2⟩
  refine alloc (fun q w3 h3 => ?_)
  refine stA (vs := [iv _, iv _]) h3.blk rfl (Nat.le_of_ble_eq_true rfl) (by simp [Value.oneCell']) (fun w4 b4 k4 z4 => ?_)
  have e3 := h3.at_
  have z1 := h1.ext.size
  have z2 := x2.size
  have b4 : Blk w4 q 77 [iv (lostL r v).1.lo, iv (lostL r v).1.hi] := b4
  have xx : Ext w w4 := ((h1.ext.trans x2).trans h3.ext).then k4 fun b hb _ e => by omega
  by_cases he : lErr r v = 0
  · rw [lostL_ok he] at b4 ⊢
    obtain ⟨hok, hv⟩ := lErr_ok.1 he
    have hl := lost_le hok hv
    refine cN (fun h => absurd rfl h) (fun _ => ?_)
    refine fldA ?_
    refine ld (iv (lostR r v).hi) (b4.cell rfl) ?_
    refine arI (by omega) ?_
    exact ret2 (iv (v - (lostR r v).hi)) (iv 0) rfl rfl ⟨by rw [if_pos he, he], xx⟩
  · rw [lostL_no he] at b4 ⊢
    refine cN (fun _ => ?_) (fun h => absurd h he)
    exact ret2 (iv 0) (iv (lErr r v)) rfl rfl ⟨by rw [if_neg he], xx⟩
end
end Go.Proofs.YtmjcaclakggafaaGreat

/- Layer 41, plainly: the claims of the parts, the needs, and what a division is. -/
namespace Go.Proofs.YtmjcaclakggafaaGreat
open Go Go.RowKit

/-- The claim of a part. -/
def clP (cl hs : List Int) (p : Pt) : Int := if p.1 then clA cl p.2 else clA hs p.2
def clmV (d : Dist) (cl hs : List Int) (r : Nat) : List Int := (ptsV d r).map (clP cl hs)
/-- What a reach needs, if so much is claimed at its end. -/
def needV (x : Reach) (total : Int) : Option Int :=
  if total = 0 then some 0 else if total > 1073741824 then none else if lvW x total > 1073741824 then none else some (max (lvW x total) x.siphon)
/-- The needs, after k reaches, from the leaves. -/
def needsN (d : Dist) (cl : List Int) : Nat → Option (List Int)
  | 0 => some (List.replicate d.reaches.length 0)
  | k + 1 => match needsN d cl k with
    | none => none
    | some hs => match needV (rcC d (d.reaches.length - 1 - k)) (isum (clmV d cl hs (d.reaches.length - 1 - k))) with
      | none => none
      | some v => some (hs.set (d.reaches.length - 1 - k) v)
def needsV (d : Dist) (cl : List Int) : Option (List Int) := needsN d cl d.reaches.length
def claimOk (d : Dist) (cl : List Int) : Bool := decide (cl.length = d.farms.length) && cl.all okC
def divErr (d : Dist) (cl : List Int) : Int := if dErr d ≠ 0 then dErr d else if claimOk d cl then 0 else 410
/-- What enters a reach. -/
def cut (d : Dist) (r : Nat) (n : Int) : Int := if n < (rcC d r).siphon then 0 else n
def workV (d : Dist) (cl hs hd : List Int) (r : Nat) : Int := min (arrW (rcC d r) (clA hd r)) (isum (clmV d cl hs r))
def Mk0 : Mk := Mk.none
def mkA (l : List Mk) (i : Nat) : Mk := l.getD i Mk.none
/-- What is divided at the end of a reach. -/
structure DivAt (d : Dist) (cl hs hd aw : List Int) (mk : List Mk) (r : Nat) : Prop where
  mark : MarkOf (workV d cl hs hd r) (clmV d cl hs r) (mkA mk r)
  farm : ∀ k i, (ptsV d r)[k]? = some (true, i) → clA aw i = ownV (mkA mk r) (clA (clmV d cl hs r) k) k
  child : ∀ k i, (ptsV d r)[k]? = some (false, i) → clA hd i = cut d i (ownV (mkA mk r) (clA (clmV d cl hs r) k) k)
/-- A division. -/
structure DivV (d : Dist) (cl hs : List Int) (E : Int) (hd aw : List Int) (mk : List Mk) : Prop where
  lh : hd.length = d.reaches.length
  la : aw.length = d.farms.length
  lm : mk.length = d.reaches.length
  top : clA hd 0 = cut d 0 (min E (clA hs 0))
  at_ : ∀ r, r < d.reaches.length → DivAt d cl hs hd aw mk r
end Go.Proofs.YtmjcaclakggafaaGreat

/- Layer 41, plainly: what a division keeps. -/
namespace Go.Proofs.YtmjcaclakggafaaGreat
open Go Go.RowKit

structure Val (d : Dist) : Prop where
  n : 0 < d.reaches.length ∧ d.reaches.length ≤ 64
  f : d.farms.length ≤ 600
  up0 : (rcC d 0).up = -1
  up : ∀ k, 0 < k → k < d.reaches.length → 0 ≤ (rcC d k).up ∧ (rcC d k).up < k
  rc : ∀ k, k < d.reaches.length → reachOk (rcC d k) = true
  fm : ∀ i, i < d.farms.length → 0 ≤ (fmC d i).reach ∧ (fmC d i).reach < d.reaches.length
theorem val_of {d : Dist} (h : dErr d = 0) : Val d := by
  unfold dErr at h
  cases h1 : tooMany d with
  | true => rw [h1] at h; cases h
  | false =>
    rw [h1] at h
    cases h2 : validB d with
    | false => rw [h2] at h; cases h
    | true =>
      obtain ⟨a1, a2, -, a4, -⟩ := validB_iff.1 h2
      obtain ⟨-, -, -, a5⟩ := headOk_iff.1 a1
      unfold tooMany at h1
      simp only [Bool.not_eq_false', Bool.and_eq_true, decide_eq_true_eq] at h1
      have hu : ∀ k, k < d.reaches.length → upOk k (rcC d k).up = true ∧ reachOk (rcC d k) = true := fun k hk => by
        have e := List.getElem?_eq_getElem hk
        rw [rcC_at e]
        have := reachesB_up a2 e
        rwa [Nat.zero_add] at this
      refine ⟨⟨a5, h1.1⟩, h1.2.1, ?_, fun k h0 hk => ?_, fun k hk => (hu k hk).2, fun i hi => ?_⟩
      · have := (hu 0 a5).1
        unfold upOk at this
        rw [if_pos rfl] at this
        exact of_decide_eq_true this
      · have := (hu k hk).1
        unfold upOk at this
        rw [if_neg (by omega)] at this
        have := inI_iff.1 this
        omega
      · have e := List.getElem?_eq_getElem hi
        rw [fmC_at e]
        have := List.all_eq_true.1 a4 _ (List.mem_of_getElem? e)
        unfold farmOk at this
        simp only [Bool.and_eq_true] at this
        have := inI_iff.1 this.2.1
        omega
section
variable {d : Dist} {cl hs hd aw : List Int} {mk : List Mk} {E : Int}
theorem claimOk_iff : claimOk d cl = true ↔ cl.length = d.farms.length ∧ OkL cl := by
  unfold claimOk okC
  simp only [Bool.and_eq_true, decide_eq_true_eq, List.all_eq_true]
theorem divErr_ok : divErr d cl = 0 ↔ dErr d = 0 ∧ claimOk d cl = true := by
  unfold divErr
  by_cases h : dErr d = 0
  · rw [if_neg (by simp [h])]
    cases claimOk d cl <;> simp [h]
  · rw [if_pos h]; simp [h]
theorem Val.loss (v : Val d) {r : Nat} (hr : r < d.reaches.length) : lossOk (rcC d r) = true ∧ 0 ≤ (rcC d r).siphon ∧ (rcC d r).siphon ≤ 1073741824 := by
  obtain ⟨-, h1, -, h2, h3⟩ := reachOk_iff.1 (v.rc r hr)
  exact ⟨h3, by omega, by omega⟩
/-- The child's reach lies behind. -/
theorem Val.child (v : Val d) {r j : Nat} (h : (false, j) ∈ ptsV d r) : r < j ∧ j < d.reaches.length := by
  rcases mem_ptsV.1 h with h | h
  · cases h.1
  · obtain ⟨-, h2, h3⟩ := h
    by_cases h0 : j = 0
    · subst h0; have := v.up0; simp only at h3; omega
    · have := v.up j (by omega) h2
      simp only at h3; omega
theorem clA_set {l : List Int} {i j : Nat} {x : Int} (hi : i < l.length) : clA (l.set i x) j = if i = j then x else clA l j := by
  unfold clA
  rw [List.getD_eq_getElem?_getD, List.getElem?_set]
  by_cases h : i = j
  · rw [if_pos h, if_pos h, if_pos hi]; rfl
  · rw [if_neg h, if_neg h, ← List.getD_eq_getElem?_getD]
theorem clmV_set (v : Val d) {r i : Nat} {x : Int} (h : i ≤ r) (hi : i < hs.length) : clmV d cl (hs.set i x) r = clmV d cl hs r := by
  unfold clmV
  refine List.map_congr_left fun p hp => ?_
  unfold clP
  obtain ⟨b, j⟩ := p
  cases b with
  | true => rfl
  | false =>
    have := (v.child hp).1
    show clA (hs.set i x) j = clA hs j
    rw [clA_set hi, if_neg (by omega)]
theorem okL_zero {n : Nat} : OkL (List.replicate n 0) := fun c hc => by rw [List.eq_of_mem_replicate hc]; omega
theorem clA_ok {l : List Int} (h : OkL l) (i : Nat) : 0 ≤ clA l i ∧ clA l i ≤ 1073741824 := by
  by_cases hi : i < l.length
  · exact clA_b h hi
  · unfold clA; rw [List.getD_eq_getElem?_getD, List.getElem?_eq_none (by omega)]; exact ⟨Int.le_refl _, by decide⟩
theorem clmV_ok (h1 : OkL cl) (h2 : OkL hs) (r : Nat) : OkL (clmV d cl hs r) := fun c hc => by
  obtain ⟨p, -, rfl⟩ := List.mem_map.1 hc
  unfold clP
  split
  · exact clA_ok h1 _
  · exact clA_ok h2 _
theorem clmV_len {r : Nat} : (clmV d cl hs r).length = (ptsV d r).length := List.length_map _
theorem Val.len (v : Val d) {r : Nat} : (clmV d cl hs r).length ≤ 664 := by
  rw [clmV_len]; have := ptsV_len (d := d) (r := r); have := v.n; have := v.f; omega
theorem needV_b (x : Reach) (total : Int) (hx : 0 ≤ x.siphon ∧ x.siphon ≤ 1073741824) (hl : lossOk x = true) {u : Int} (h : needV x total = some u) : 0 ≤ u ∧ u ≤ 1073741824 ∧ (u = 0 ∨ x.siphon ≤ u) ∧ (0 ≤ total → total ≤ arrW x u) := by
  unfold needV at h
  have hf := lvW_first (w := total) hl
  split at h
  · injection h with h; subst h
    have := arr_le hl (v := 0) (by omega)
    omega
  · split at h
    · cases h
    · split at h
      · cases h
      · injection h with h; subst h
        have h1 := hf.le
        refine ⟨by omega, by omega, .inr (by omega), fun _ => ?_⟩
        have h2 := hf.yes (by omega)
        rw [decide_eq_true_eq] at h2
        have := arrW_mono hl h1 (show lvW x total ≤ max (lvW x total) x.siphon by omega)
        omega
theorem needsN_ok (v : Val d) : ∀ (k : Nat) {hs : List Int}, k ≤ d.reaches.length → needsN d cl k = some hs → hs.length = d.reaches.length ∧ OkL hs ∧ ∀ r, d.reaches.length - k ≤ r → r < d.reaches.length → needV (rcC d r) (isum (clmV d cl hs r)) = some (clA hs r)
  | 0, hs, _, h => by
    unfold needsN at h
    injection h with h; subst h
    exact ⟨List.length_replicate .., okL_zero, fun r h1 h2 => by omega⟩
  | k + 1, hs, hk, h => by
    unfold needsN at h
    cases h1 : needsN d cl k with
    | none => rw [h1] at h; cases h
    | some hs0 =>
      rw [h1] at h
      obtain ⟨e1, e2, e3⟩ := needsN_ok v k (by omega) h1
      dsimp only at h
      cases h2 : needV (rcC d (d.reaches.length - 1 - k)) (isum (clmV d cl hs0 (d.reaches.length - 1 - k))) with
      | none => rw [h2] at h; cases h
      | some u =>
        rw [h2] at h
        injection h with h; subst h
        obtain ⟨j, hj⟩ : ∃ j, j = d.reaches.length - 1 - k := ⟨_, rfl⟩
        rw [← hj] at h2 ⊢
        have hjl : j < hs0.length := by omega
        obtain ⟨l1, l2, l3⟩ := v.loss (r := j) (by omega)
        obtain ⟨b1, b2, -⟩ := needV_b _ _ ⟨l2, l3⟩ l1 h2
        refine ⟨by rw [List.length_set]; exact e1, fun c hc => ?_, fun r hr hr2 => ?_⟩
        · rcases List.mem_or_eq_of_mem_set hc with hc | rfl
          · exact e2 c hc
          · exact ⟨b1, b2⟩
        · rw [clmV_set v (by omega) hjl, clA_set hjl]
          by_cases q : j = r
          · subst q; rw [if_pos rfl]; exact h2
          · rw [if_neg q]; exact e3 r (by omega) hr2
theorem needsV_ok (v : Val d) (h : needsV d cl = some hs) : hs.length = d.reaches.length ∧ OkL hs ∧ ∀ r, r < d.reaches.length → needV (rcC d r) (isum (clmV d cl hs r)) = some (clA hs r) := by
  obtain ⟨h1, h2, h3⟩ := needsN_ok v _ (Nat.le_refl _) h
  exact ⟨h1, h2, fun r hr => h3 r (by omega) hr⟩
/-- What is known of a right district, right claims, and their needs. -/
structure Rdy (d : Dist) (cl hs : List Int) : Prop where
  v : Val d
  okc : OkL cl
  lc : cl.length = d.farms.length
  okh : OkL hs
  lh : hs.length = d.reaches.length
  nd : ∀ r, r < d.reaches.length → needV (rcC d r) (isum (clmV d cl hs r)) = some (clA hs r)
theorem rdy_of (h : divErr d cl = 0) (hn : needsV d cl = some hs) : Rdy d cl hs := by
  obtain ⟨h1, h2⟩ := divErr_ok.1 h
  have v := val_of h1
  obtain ⟨a1, a2, a3⟩ := needsV_ok v hn
  obtain ⟨b1, b2⟩ := claimOk_iff.1 h2
  exact ⟨v, b2, b1, a2, a1, a3⟩
theorem Rdy.sum (R : Rdy d cl hs) (r : Nat) : 0 ≤ isum (clmV d cl hs r) ∧ isum (clmV d cl hs r) ≤ 664 * 1073741824 := by
  have h := isum_b (clmV_ok (d := d) R.okc R.okh r)
  have := R.v.len (cl := cl) (hs := hs) (r := r)
  refine ⟨h.1, Int.le_trans h.2 ?_⟩
  have : ((clmV d cl hs r).length : Int) ≤ 664 := by omega
  omega
theorem Rdy.work (R : Rdy d cl hs) {r : Nat} (hr : r < d.reaches.length) (hh : 0 ≤ clA hd r ∧ clA hd r ≤ 1073741824) : tErr (workV d cl hs hd r) (clmV d cl hs r) = 0 ∧ 0 ≤ workV d cl hs hd r ∧ workV d cl hs hd r ≤ arrW (rcC d r) (clA hd r) ∧ workV d cl hs hd r ≤ isum (clmV d cl hs r) := by
  have h1 := arr_le (R.v.loss hr).1 hh
  have h2 := R.sum r
  have h3 := R.v.len (cl := cl) (hs := hs) (r := r)
  have h4 := clmV_ok (d := d) R.okc R.okh r
  have h5 : 0 ≤ workV d cl hs hd r ∧ workV d cl hs hd r ≤ arrW (rcC d r) (clA hd r) ∧ workV d cl hs hd r ≤ isum (clmV d cl hs r) := by unfold workV; omega
  refine ⟨?_, h5⟩
  unfold tErr
  rw [if_neg (by omega), if_pos]
  rw [Bool.and_eq_true, decide_eq_true_eq, List.all_eq_true]
  refine ⟨fun c hc => ?_, h5.1, h5.2.2⟩
  unfold okC
  exact decide_eq_true (h4 c hc)
theorem cut_b {r : Nat} {n : Int} (h : 0 ≤ n) : 0 ≤ cut d r n ∧ cut d r n ≤ n ∧ (cut d r n = 0 ∨ (rcC d r).siphon ≤ cut d r n) := by unfold cut; split <;> omega
theorem cut_mono {r : Nat} {n m : Int} (h0 : 0 ≤ n) (h : n ≤ m) : cut d r n ≤ cut d r m := by unfold cut; split <;> split <;> omega
theorem pt_at {r k : Nat} {p : Pt} (h : (ptsV d r)[k]? = some p) : clA (clmV d cl hs r) k = clP cl hs p ∧ k < (clmV d cl hs r).length := by
  refine ⟨clA_at ?_, ?_⟩
  · unfold clmV; rw [List.getElem?_map, h]; rfl
  · rw [clmV_len]; exact (List.getElem?_eq_some_iff.1 h).1
theorem Val.farm (v : Val d) {i : Nat} (hi : i < d.farms.length) : ∃ r k : Nat, r < d.reaches.length ∧ (fmC d i).reach = r ∧ (ptsV d r)[k]? = some (true, i) := by
  obtain ⟨h1, h2⟩ := v.fm i hi
  have hm : (true, i) ∈ ptsV d ((fmC d i).reach.toNat : Nat) := mem_ptsV.2 (.inl ⟨rfl, hi, by simp only; omega⟩)
  obtain ⟨k, hk⟩ := List.getElem?_of_mem hm
  exact ⟨_, k, by omega, by omega, hk⟩
theorem Val.par (v : Val d) {j : Nat} (h0 : 0 < j) (hj : j < d.reaches.length) : ∃ r k : Nat, r < j ∧ (ptsV d r)[k]? = some (false, j) := by
  obtain ⟨h1, h2⟩ := v.up j h0 hj
  have hm : (false, j) ∈ ptsV d ((rcC d j).up.toNat : Nat) := mem_ptsV.2 (.inr ⟨rfl, hj, by simp only; omega⟩)
  obtain ⟨k, hk⟩ := List.getElem?_of_mem hm
  exact ⟨_, k, by omega, hk⟩
variable {E' : Int} {hd' aw' : List Int} {mk' : List Mk}
/-- The heads: none is more than the need. -/
theorem DivV.head (D : DivV d cl hs E hd aw mk) (R : Rdy d cl hs) (hE : 0 ≤ E) : ∀ (r : Nat), r < d.reaches.length → 0 ≤ clA hd r ∧ clA hd r ≤ clA hs r ∧ (clA hd r = 0 ∨ (rcC d r).siphon ≤ clA hd r) := by
  intro r
  induction r using Nat.strongRecOn with
  | ind r ih =>
    intro hr
    by_cases h0 : r = 0
    · subst h0
      rw [D.top]
      have := clA_ok R.okh 0
      have := cut_b (d := d) (r := 0) (n := min E (clA hs 0)) (by omega)
      omega
    · obtain ⟨p, k, hp, hk⟩ := R.v.par (by omega) hr
      have ip := ih p hp (by omega)
      have hb := clA_ok R.okh p
      obtain ⟨he, -⟩ := R.work (hd := hd) (r := p) (by omega) (by omega)
      have A := (D.at_ p (by omega)).mark.awd he
      obtain ⟨e1, e2⟩ := pt_at (cl := cl) (hs := hs) hk
      have b := A.b k e2
      rw [(D.at_ p (by omega)).child k r hk]
      have := cut_b (d := d) (r := r) b.1
      have e3 : clA (clmV d cl hs p) k = clA hs r := e1
      rw [e3] at b this ⊢
      omega
theorem DivV.ok (D : DivV d cl hs E hd aw mk) (R : Rdy d cl hs) (hE : 0 ≤ E) {r : Nat} (hr : r < d.reaches.length) : 0 ≤ clA hd r ∧ clA hd r ≤ 1073741824 := by
  have := D.head R hE r hr; have := clA_ok R.okh r; omega
/-- The awards at the end of a reach. -/
theorem DivV.awd (D : DivV d cl hs E hd aw mk) (R : Rdy d cl hs) (hE : 0 ≤ E) {r : Nat} (hr : r < d.reaches.length) : Awd (clmV d cl hs r) (workV d cl hs hd r) (fun i => ownV (mkA mk r) (clA (clmV d cl hs r) i) i) :=
  (D.at_ r hr).mark.awd (R.work hr (D.ok R hE hr)).1
/-- A division is what it is. -/
theorem DivV.uniq (D : DivV d cl hs E hd aw mk) (D' : DivV d cl hs E hd' aw' mk') (R : Rdy d cl hs) (_hE : 0 ≤ E) : hd = hd' ∧ aw = aw' ∧ mk = mk' := by
  have hh : ∀ (r : Nat), r < d.reaches.length → clA hd r = clA hd' r ∧ mkA mk r = mkA mk' r := by
    intro r
    induction r using Nat.strongRecOn with
    | ind r ih =>
      intro hr
      have e1 : clA hd r = clA hd' r := by
        by_cases h0 : r = 0
        · subst h0; rw [D.top, D'.top]
        · obtain ⟨p, k, hp, hk⟩ := R.v.par (by omega) hr
          rw [(D.at_ p (by omega)).child k r hk, (D'.at_ p (by omega)).child k r hk, (ih p hp (by omega)).2]
      refine ⟨e1, ?_⟩
      have h1 := (D.at_ r hr).mark
      have h2 := (D'.at_ r hr).mark
      unfold workV at h1 h2
      rw [e1] at h1
      exact h1.uniq h2
  have ext : ∀ {l l' : List Int} {n : Nat}, l.length = n → l'.length = n → (∀ i, i < n → clA l i = clA l' i) → l = l' := fun {l l' n} h1 h2 h => by
    refine List.ext_getElem (by omega) fun i q1 q2 => ?_
    have := h i (by omega)
    rwa [clA_at (List.getElem?_eq_getElem q1), clA_at (List.getElem?_eq_getElem q2)] at this
  refine ⟨ext D.lh D'.lh fun r hr => (hh r hr).1, ext D.la D'.la fun i hi => ?_, List.ext_getElem (by rw [D.lm, D'.lm]) fun i q1 q2 => ?_⟩
  · obtain ⟨r, k, hr, -, hk⟩ := R.v.farm hi
    rw [(D.at_ r hr).farm k i hk, (D'.at_ r hr).farm k i hk, (hh r hr).2]
  · have := (hh i (by rw [← D.lm]; exact q1)).2
    unfold mkA at this
    rwa [List.getD_eq_getElem?_getD, List.getD_eq_getElem?_getD, List.getElem?_eq_getElem q1, List.getElem?_eq_getElem q2] at this
/-- With more no farm gets less. -/
theorem DivV.more (D : DivV d cl hs E hd aw mk) (D' : DivV d cl hs E' hd' aw' mk') (R : Rdy d cl hs) (hE : 0 ≤ E) (hEE : E ≤ E') : ∀ i, i < d.farms.length → clA aw i ≤ clA aw' i := by
  have hE' : 0 ≤ E' := by omega
  have wm : ∀ r, r < d.reaches.length → clA hd r ≤ clA hd' r → workV d cl hs hd r ≤ workV d cl hs hd' r := fun r hr h => by
    have := arrW_mono (R.v.loss hr).1 (D.ok R hE hr).1 h
    unfold workV; omega
  have hh : ∀ (r : Nat), r < d.reaches.length → clA hd r ≤ clA hd' r := by
    intro r
    induction r using Nat.strongRecOn with
    | ind r ih =>
      intro hr
      by_cases h0 : r = 0
      · subst h0
        rw [D.top, D'.top]
        have := clA_ok R.okh 0
        exact cut_mono (by omega) (by omega)
      · obtain ⟨p, k, hp, hk⟩ := R.v.par (by omega) hr
        have hp' : p < d.reaches.length := by omega
        rw [(D.at_ p hp').child k r hk, (D'.at_ p hp').child k r hk]
        have A := D.awd R hE hp'
        have A' := D'.awd R hE' hp'
        have hk2 := (pt_at (cl := cl) (hs := hs) hk).2
        exact cut_mono (A.b k hk2).1 (A.mono A' (wm p hp' (ih p hp hp')) k hk2)
  intro i hi
  obtain ⟨r, k, hr, -, hk⟩ := R.v.farm hi
  rw [(D.at_ r hr).farm k i hk, (D'.at_ r hr).farm k i hk]
  exact (D.awd R hE hr).mono (D'.awd R hE' hr) (wm r hr (hh r hr)) k (pt_at (cl := cl) (hs := hs) hk).2
/-- Whoever is awarded all has its claim. -/
theorem Awd.all {l : List Int} {E : Int} {a : Nat → Int} (h : Awd l E a) (he : E = isum l) : ∀ i, i < l.length → a i = clA l i := fun i hi => by
  by_cases q : a i = clA l i
  · exact q
  exfalso
  have hb := h.b i hi
  have := sumN_lt (f := a) (g := clA l) (n := l.length) (fun j hj => (h.b j hj).2) ⟨i, hi, by omega⟩
  rw [h.s, clA_sum] at this
  omega
/-- Nobody gets more than its claim; with enough everybody gets it. -/
theorem DivV.met (D : DivV d cl hs E hd aw mk) (R : Rdy d cl hs) (hE : 0 ≤ E) : ∀ i, i < d.farms.length → 0 ≤ clA aw i ∧ clA aw i ≤ clA cl i ∧ (clA hs 0 ≤ E → clA aw i = clA cl i) := by
  have full : clA hs 0 ≤ E → ∀ (r : Nat), r < d.reaches.length → clA hd r = clA hs r ∧ workV d cl hs hd r = isum (clmV d cl hs r) := by
    intro hq r
    induction r using Nat.strongRecOn with
    | ind r ih =>
      intro hr
      have nb : ∀ j, j < d.reaches.length → 0 ≤ clA hs j ∧ (clA hs j = 0 ∨ (rcC d j).siphon ≤ clA hs j) ∧ isum (clmV d cl hs j) ≤ arrW (rcC d j) (clA hs j) := fun j hj => by
        obtain ⟨l1, l2, l3⟩ := R.v.loss hj
        obtain ⟨b1, -, b3, b4⟩ := needV_b _ _ ⟨l2, l3⟩ l1 (R.nd j hj)
        exact ⟨b1, b3, b4 (R.sum j).1⟩
      have e : clA hd r = clA hs r := by
        by_cases h0 : r = 0
        · subst h0
          rw [D.top]
          have := nb 0 hr
          unfold cut; split <;> omega
        · obtain ⟨p, k, hp, hk⟩ := R.v.par (by omega) hr
          have hp' : p < d.reaches.length := by omega
          obtain ⟨e1, e2⟩ := pt_at (cl := cl) (hs := hs) hk
          rw [(D.at_ p hp').child k r hk, (D.awd R hE hp').all (ih p hp hp').2 k e2, e1]
          show cut d r (clA hs r) = clA hs r
          have := nb r hr
          unfold cut; split <;> omega
      refine ⟨e, ?_⟩
      have := nb r hr
      unfold workV
      rw [e]; omega
  intro i hi
  obtain ⟨r, k, hr, -, hk⟩ := R.v.farm hi
  obtain ⟨e1, e2⟩ := pt_at (cl := cl) (hs := hs) hk
  have e3 : clA (clmV d cl hs r) k = clA cl i := e1
  rw [(D.at_ r hr).farm k i hk]
  have A := D.awd R hE hr
  have b := A.b k e2
  rw [e3] at b
  refine ⟨by rw [e3]; exact b.1, by rw [e3]; exact b.2, fun hq => ?_⟩
  rw [A.all (full hq r hr).2 k e2, e3]
end
end Go.Proofs.YtmjcaclakggafaaGreat

/- Layer 41, plainly: what the parts of a reach got; equal claims at the reach 0. -/
namespace Go.Proofs.YtmjcaclakggafaaGreat
open Go Go.RowKit

theorem pw_len : ∀ {I : List Nat} {n lo : Nat}, I.Pairwise (· < ·) → (∀ i ∈ I, lo ≤ i ∧ i < n) → I.length ≤ n - lo
  | [], _, _, _, _ => by simp
  | a :: t, n, lo, hp, h => by
    obtain ⟨h1, h2⟩ := List.pairwise_cons.1 hp
    have ha := h a List.mem_cons_self
    have := pw_len (n := n) (lo := a + 1) h2 fun i hi => ⟨h1 i hi, (h i (List.mem_cons_of_mem _ hi)).2⟩
    rw [List.length_cons]
    omega
section
variable {d : Dist} {cl hs hd aw : List Int} {mk : List Mk} {E : Int}
theorem DivV.got (D : DivV d cl hs E hd aw mk) (R : Rdy d cl hs) (hE : 0 ≤ E) {r : Nat} (hr : r < d.reaches.length) {k : Nat} (hk : k < (clmV d cl hs r).length) :
    0 ≤ clA (clmV d aw hd r) k ∧ clA (clmV d aw hd r) k ≤ ownV (mkA mk r) (clA (clmV d cl hs r) k) k ∧
    (k < (ptsF d r d.farms.length).length ∨ (∀ j, j < d.reaches.length → (rcC d j).siphon ≤ 0) → clA (clmV d aw hd r) k = ownV (mkA mk r) (clA (clmV d cl hs r) k) k) := by
  rw [clmV_len] at hk
  obtain ⟨p, hp⟩ : ∃ p, (ptsV d r)[k]? = some p := ⟨_, List.getElem?_eq_getElem hk⟩
  obtain ⟨b, i⟩ := p
  have e := (pt_at (cl := aw) (hs := hd) hp).1
  have hk2 := (pt_at (cl := cl) (hs := hs) hp).2
  have A := (D.awd R hE hr).b k hk2
  rw [e]
  cases b with
  | true =>
    have h := (D.at_ r hr).farm k i hp
    show 0 ≤ clA aw i ∧ clA aw i ≤ _ ∧ (_ → clA aw i = _)
    rw [h]
    exact ⟨A.1, Int.le_refl _, fun _ => rfl⟩
  | false =>
    have h := (D.at_ r hr).child k i hp
    have hc := R.v.child (List.mem_of_getElem? hp)
    show 0 ≤ clA hd i ∧ clA hd i ≤ _ ∧ (_ → clA hd i = _)
    rw [h]
    have c := cut_b (d := d) (r := i) A.1
    refine ⟨c.1, c.2.1, fun hq => ?_⟩
    rcases hq with hq | hq
    · exfalso
      unfold ptsV at hp
      rw [List.getElem?_append_left hq] at hp
      have := (mem_ptsF.1 (List.mem_of_getElem? hp)).1
      cases this
    · have := hq i hc.2
      unfold cut
      rw [if_neg (by have := A.1; omega)]
theorem DivV.sum (D : DivV d cl hs E hd aw mk) (R : Rdy d cl hs) (hE : 0 ≤ E) {r : Nat} (hr : r < d.reaches.length) : isum (clmV d aw hd r) ≤ arrW (rcC d r) (clA hd r) := by
  have A := D.awd R hE hr
  have hl : (clmV d aw hd r).length = (clmV d cl hs r).length := by rw [clmV_len, clmV_len]
  rw [← clA_sum, hl]
  have := sumN_le (n := (clmV d cl hs r).length) (f := clA (clmV d aw hd r)) fun k hk => (D.got R hE hr hk).2.1
  rw [A.s] at this
  have := (R.work hr (D.ok R hE hr)).2.2.1
  omega
/-- Some of the parts divide what they have as before. -/
theorem DivV.part (D : DivV d cl hs E hd aw mk) (R : Rdy d cl hs) (hE : 0 ≤ E) {r : Nat} (hr : r < d.reaches.length) {I : List Nat} (hp : I.Pairwise (· < ·)) (hI : ∀ i ∈ I, i < (clmV d cl hs r).length ∧ (i < (ptsF d r d.farms.length).length ∨ (∀ j, j < d.reaches.length → (rcC d j).siphon ≤ 0))) {m : Mk}
    (hm : MarkOf (isum (I.map (clA (clmV d aw hd r)))) (I.map (clA (clmV d cl hs r))) m) : tErr (isum (I.map (clA (clmV d aw hd r)))) (I.map (clA (clmV d cl hs r))) = 0 ∧ awL m (I.map (clA (clmV d cl hs r))) = I.map (clA (clmV d aw hd r)) := by
  have A := D.awd R hE hr
  have e : I.map (clA (clmV d aw hd r)) = I.map (fun i => ownV (mkA mk r) (clA (clmV d cl hs r) i) i) := List.map_congr_left fun i hi => (D.got R hE hr (hI i hi).1).2.2 (hI i hi).2
  have P := A.part (I := I) (fun i hi => (hI i hi).1) hp
  rw [e] at hm ⊢
  have ok : OkL (I.map (clA (clmV d cl hs r))) := fun c hc => by
    obtain ⟨i, -, rfl⟩ := List.mem_map.1 hc
    exact clA_ok (clmV_ok R.okc R.okh r) i
  have hlen : I.length ≤ (clmV d cl hs r).length := by
    have := pw_len (lo := 0) hp fun i hi => ⟨by omega, (hI i hi).1⟩
    omega
  have h664 := R.v.len (cl := cl) (hs := hs) (r := r)
  have s1 := sumN_le (n := (I.map (clA (clmV d cl hs r))).length) (f := fun j => (fun i => ownV (mkA mk r) (clA (clmV d cl hs r) i) i) (I.getD j 0)) (g := clA (I.map (clA (clmV d cl hs r)))) fun j hj => (P.b j hj).2
  have s0 := sumN_le (n := (I.map (clA (clmV d cl hs r))).length) (f := fun _ => 0) (g := fun j => (fun i => ownV (mkA mk r) (clA (clmV d cl hs r) i) i) (I.getD j 0)) fun j hj => (P.b j hj).1
  rw [sumN_zero] at s0
  rw [P.s] at s0 s1
  rw [clA_sum] at s1
  have he : tErr (isum (I.map (fun i => ownV (mkA mk r) (clA (clmV d cl hs r) i) i))) (I.map (clA (clmV d cl hs r))) = 0 := by
    unfold tErr
    rw [if_neg (by rw [List.length_map]; omega), if_pos]
    rw [Bool.and_eq_true, decide_eq_true_eq, List.all_eq_true]
    refine ⟨fun c hc => ?_, s0, s1⟩
    unfold okC
    exact decide_eq_true (ok c hc)
  refine ⟨he, ?_⟩
  have U := (hm.awd he).uniq P
  refine List.ext_getElem (by rw [awL_len, List.length_map, List.length_map]) fun j q1 q2 => ?_
  have hj : j < (I.map (clA (clmV d cl hs r))).length := by rw [awL_len] at q1; exact q1
  have h1 := awL_at (m := m) hj
  rw [List.getElem?_eq_getElem q1] at h1
  injection h1 with h1
  rw [h1, U j hj, List.getElem_map]
  have hj2 : j < I.length := by rw [List.length_map] at hj; exact hj
  show (fun i => ownV (mkA mk r) (clA (clmV d cl hs r) i) i) (I.getD j 0) = _
  rw [List.getD_eq_getElem?_getD, List.getElem?_eq_getElem hj2]; rfl
variable {cl' hs' hd' aw' : List Int} {mk' : List Mk}
/-- Claims at the ends of other reaches matter only through the needs of the children. -/
theorem DivV.others (D : DivV d cl hs E hd aw mk) (D' : DivV d cl' hs' E hd' aw' mk') (R : Rdy d cl hs) (R' : Rdy d cl' hs') (h : clmV d cl hs 0 = clmV d cl' hs' 0) :
    clA hd 0 = clA hd' 0 ∧ mkA mk 0 = mkA mk' 0 ∧ ∀ i, i < d.farms.length → (fmC d i).reach = 0 → clA aw i = clA aw' i := by
  have h0 := R.v.n.1
  have e0 : clA hs 0 = clA hs' 0 := by
    have a := R.nd 0 h0
    have b := R'.nd 0 h0
    rw [h] at a
    rw [a] at b
    injection b
  have e1 : clA hd 0 = clA hd' 0 := by rw [D.top, D'.top, e0]
  have m1 := (D.at_ 0 h0).mark
  have m2 := (D'.at_ 0 h0).mark
  unfold workV at m1 m2
  rw [h, e1] at m1
  have e2 := m1.uniq m2
  refine ⟨e1, e2, fun i hi hr => ?_⟩
  obtain ⟨r, k, hr2, hq, hk⟩ := R.v.farm hi
  obtain rfl : r = 0 := by omega
  rw [(D.at_ 0 h0).farm k i hk, (D'.at_ 0 h0).farm k i hk, e2, h]
end
end Go.Proofs.YtmjcaclakggafaaGreat

/- Layer 41: contracts of least, claims, check, reaches. -/
namespace Go.Proofs.YtmjcaclakggafaaGreat
open Go Go.RowKit

section
variable {D : Nat → Prop} {w : World}
theorem c_dleast {n : Int} {l : List Int} {A : Option Addr} {m c : Nat} (hl : SlR tInt D w A m l) : CallZ Tryz.prog 32 #[iv n, .slice A m c] w (fun v w' => v = iv (l.foldl min n) ∧ w' = w) := by
  have ll := hl.len
  have hle := hl.le
  refine fn_rule (args := [iv n, .slice A m c]) Tryz.func32 (by kernel_rfl) ?_
  refine len ?_
  refine loop_rule (fun k : Nat => [(9, iv (k : Int)), (0, iv ((l.take k).foldl min n))]) (fun k u => k ≤ m ∧ w = u) (fun k _ => m - k) 0 ⟨rfl, rfl, trivial⟩ ⟨by omega, rfl⟩ rfl ?_
  rintro G k u ⟨hk, rfl⟩
  refine cD (fun hlt => ?_) (fun hge => ?_)
  · have hlt : k < m := by omega
    obtain ⟨b, o, cs, x, rfl, hx, -, -, hc, rfl, -⟩ := hl.at_ hlt
    have htk : l.take (k + 1) = l.take k ++ [x] := by rw [List.take_add_one, hx]; rfl
    refine idx k rfl hlt ?_
    refine ld (iv x) (hc 0 _ rfl) ?_
    refine arI (by omega) ?_
    exact next (k + 1) ⟨by rw [Int.natCast_add]; rfl, by rw [htk, List.foldl_append]; rfl, trivial⟩ ⟨by omega, rfl⟩ (by omega)
  · exact ret1 (iv ((l.take k).foldl min n)) rfl ⟨by rw [List.take_of_length_le (by omega)], rfl⟩
theorem isum_map {α : Type} {f : α → Int} {l : List α} {x : α} : isum ((l ++ [x]).map f) = isum (l.map f) + f x := by rw [List.map_append]; exact isum_snoc
theorem c_dclaims {ps : List Pt} {cl hs : List Int} {A B C : Option Addr} {n c m cb k cc : Nat} (hp : SlR tPt D w A n ps) (hb : SlR tInt D w B m cl) (hh : SlR tInt D w C k hs) (hn : n ≤ 664) (hi : ∀ p ∈ ps, (p.1 = true → p.2 < m) ∧ (p.1 = false → p.2 < k)) (h1 : OkL cl) (h2 : OkL hs) :
    CallZ Tryz.prog 25 #[.slice A n c, .slice B m cb, .slice C k cc] w (fun v w' => ∃ A' c', v = .tuple #[.slice A' n c', iv (isum (ps.map (clP cl hs)))] ∧ OwnF w w' A' n c' 3 1 ((ps.map (clP cl hs)).map fun x => .int .i64 x)) := by
  have lp := hp.len
  have lb := hb.len
  have lh := hh.len
  have ok : ∀ p, 0 ≤ clP cl hs p ∧ clP cl hs p ≤ 1073741824 := fun p => by
    unfold clP
    have q : ∀ {l : List Int}, OkL l → ∀ i, 0 ≤ clA l i ∧ clA l i ≤ 1073741824 := fun {l} h i => by
      by_cases hi : i < l.length
      · exact clA_b h hi
      · unfold clA; rw [List.getD_eq_getElem?_getD, List.getElem?_eq_none (by omega)]; exact ⟨Int.le_refl _, by decide⟩
    split
    · exact q h1 _
    · exact q h2 _
  have okl : ∀ k : Nat, OkL ((ps.take k).map (clP cl hs)) := fun k c hc => by
    obtain ⟨p, -, rfl⟩ := List.mem_map.1 hc
    exact ok p
  refine fn_rule (args := [.slice A n c, .slice B m cb, .slice C k cc]) Tryz.func25 (by kernel_rfl) ?_
  refine len ?_
  refine loop_rule (fun s : Nat × Option Addr × Nat => [(13, iv (s.1 : Int)), (6, .slice s.2.1 s.1 s.2.2), (7, iv (isum ((ps.take s.1).map (clP cl hs))))]) (fun s u => s.1 ≤ n ∧ OwnF w u s.2.1 s.1 s.2.2 3 1 (((ps.take s.1).map (clP cl hs)).map fun x => .int .i64 x)) (fun s _ => n - s.1) (0, none, 0) ⟨rfl, rfl, rfl, trivial⟩ ⟨by omega, .nil (.refl _ _)⟩ rfl ?_
  rintro G ⟨j, E, ce⟩ u ⟨hj, own⟩
  have hj : j ≤ n := hj
  have own : OwnF w u E j ce 3 1 (((ps.take j).map (clP cl hs)).map fun x => .int .i64 x) := own
  refine cD (fun hlt => ?_) (fun hge => ?_)
  · have hlt : j < n := by omega
    obtain ⟨b, o, cs, p, rfl, hpj, -, -, hc, rfl⟩ := (hp.ext own.ext).at_ hlt
    have htk : ps.take (j + 1) = ps.take j ++ [p] := by rw [List.take_add_one, hpj]; rfl
    have sb := isum_b (okl j)
    rw [List.length_map, List.length_take] at sb
    have okp := ok p
    obtain ⟨i1, i2⟩ := hi p (List.mem_of_getElem? hpj)
    refine idx j rfl hlt ?_
    refine ldA (encP p) hc rfl ?_
    refine alloc (fun q u1 a1 => ?_)
    refine stA (vs := encP p) a1.blk rfl (Nat.le_of_ble_eq_true rfl) (by simp [Value.oneCell']) (fun u2 b2 k2 z2 => ?_)
    have b2 : Blk u2 q 73 (encP p) := b2
    have ea := a1.at_
    have x2 : Ext u u2 := a1.ext.then k2 fun b hb _ e => by omega
    have own := own.then x2
    obtain ⟨vp, hvp⟩ : ∃ vp, vp = clP cl hs p := ⟨_, rfl⟩
    have nxt : ∀ (G : Fr) (K : KK), True := fun _ _ => trivial
    obtain ⟨pf, pi⟩ := p
    cases pf with
    | true =>
      have i1 : pi < m := i1 rfl
      obtain ⟨b', o', cs', x, rfl, hx, -, -, hc', rfl, -⟩ := (hb.ext own.ext).at_ i1
      have ex : x = vp := by rw [hvp]; show x = clA cl pi; rw [clA_at hx]
      refine fldA ?_
      refine ld (.bool true) (b2.cell rfl) ?_
      refine fldA ?_
      refine ld (iv (pi : Int)) (b2.cell rfl) ?_
      refine idx pi rfl i1 ?_
      refine ld (iv x) (hc' 0 _ rfl) ?_
      refine lit [iv x] (fun g u3 hq => ?_)
      refine appF (own.then hq.ext) (hq.src (sz := 1) rfl) (by omega) (fun A' c' u4 o4 _ _ => ?_)
      refine arI (by dsimp only; omega) ?_
      refine arI (by omega) ?_
      refine next (j + 1, A', c') ⟨by rw [Int.natCast_add]; rfl, rfl, by rw [htk, isum_map, ← hvp, ← ex]; rfl, trivial⟩ ⟨by show j + 1 ≤ n; omega, ?_⟩ (by show n - (j + 1) < n - j; omega)
      show OwnF w u4 A' (j + 1) c' 3 1 (((ps.take (j + 1)).map (clP cl hs)).map fun x => .int .i64 x)
      rw [htk, List.map_append, List.map_append]
      have e : ([(true, pi)] : List Pt).map (clP cl hs) = [x] := by rw [ex, hvp]; rfl
      rw [e]; exact o4
    | false =>
      have i2 : pi < k := i2 rfl
      obtain ⟨b', o', cs', x, rfl, hx, -, -, hc', rfl, -⟩ := (hh.ext own.ext).at_ i2
      have ex : x = vp := by rw [hvp]; show x = clA hs pi; rw [clA_at hx]
      refine fldA ?_
      refine ld (.bool false) (b2.cell rfl) ?_
      refine fldA ?_
      refine ld (iv (pi : Int)) (b2.cell rfl) ?_
      refine idx pi rfl i2 ?_
      refine ld (iv x) (hc' 0 _ rfl) ?_
      refine lit [iv x] (fun g u3 hq => ?_)
      refine appF (own.then hq.ext) (hq.src (sz := 1) rfl) (by omega) (fun A' c' u4 o4 _ _ => ?_)
      refine arI (by dsimp only; omega) ?_
      refine arI (by omega) ?_
      refine next (j + 1, A', c') ⟨by rw [Int.natCast_add]; rfl, rfl, by rw [htk, isum_map, ← hvp, ← ex]; rfl, trivial⟩ ⟨by show j + 1 ≤ n; omega, ?_⟩ (by show n - (j + 1) < n - j; omega)
      show OwnF w u4 A' (j + 1) c' 3 1 (((ps.take (j + 1)).map (clP cl hs)).map fun x => .int .i64 x)
      rw [htk, List.map_append, List.map_append]
      have e : ([(false, pi)] : List Pt).map (clP cl hs) = [x] := by rw [ex, hvp]; rfl
      rw [e]; exact o4
  · obtain rfl : j = n := by omega
    have e : ps.take j = ps := List.take_of_length_le (by omega)
    rw [e] at own
    exact ret2 (.slice E j ce) (iv (isum ((ps.take j).map (clP cl hs)))) rfl rfl ⟨E, ce, by rw [e], own⟩
theorem c_dcheck1 {x : Int} : CallZ Tryz.prog 43 #[iv x] w (fun v w' => v = .bool (!okC x) ∧ Ext w w') := by
  refine fn_rule (args := [iv x]) Tryz.func43 (by kernel_rfl) ?_
  have e : okC x = decide (0 ≤ x ∧ x ≤ 1073741824) := rfl
  refine cD (fun g => ?_) (fun g => ?_)
  · exact ret1 (.bool true) rfl ⟨by rw [e, decide_eq_false (by omega)]; rfl, .refl _ _⟩
  refine cD (fun g2 => ?_) (fun g2 => ?_)
  · exact ret1 (.bool true) rfl ⟨by rw [e, decide_eq_false (by omega)]; rfl, .refl _ _⟩
  · exact ret1 (.bool false) rfl ⟨by rw [e, decide_eq_true (by omega)]; rfl, .refl _ _⟩
theorem c_indI {xs : List Int} {A : Option Addr} {n c : Nat} (h : SlR tInt D w A n xs) : CallZ Tryz.prog 74 #[.slice A n c, .func (.func 43) #[] #[]] w (fun v w' => (∃ i : Int, v = iv i ∧ (0 ≤ i ↔ xs.all okC = false)) ∧ Ext w w') := by
  refine fn_rule (args := [.slice A n c, .func (.func 43) #[] #[]]) Tryz.func74 (by kernel_rfl) ?_
  refine len ?_
  refine loop_rule (fun k : Nat => [(8, iv (k : Int))]) (fun k w' => k ≤ n ∧ Ext w w' ∧ xs.all okC = (xs.drop k).all okC) (fun k _ => n - k) 0 ⟨rfl, trivial⟩ ⟨by omega, .refl _ _, rfl⟩ rfl ?_
  rintro G k w' ⟨hk, xw, he⟩
  refine cD (fun hlt => ?_) (fun hge => ?_)
  · obtain ⟨b, o, cs, x, rfl, hx, hdx, -, hc, rfl, -⟩ := (h.ext xw).at_ (show k < n by omega)
    rw [hdx, List.all_cons] at he
    refine idx k rfl (by omega) ?_
    refine ld (iv x) (hc 0 _ rfl) ?_
    refine callE (c_dcheck1 (x := x)) (fun w2 g x2 => ?_) (fun w2 g x2 => ?_)
    · refine ret1 (iv (k : Int)) rfl ⟨⟨k, rfl, ?_⟩, xw.trans x2⟩
      simp only [Bool.not_eq_true'] at g
      rw [he, g]; simp
    · simp only [Bool.not_eq_false'] at g
      refine arI (by have := h.le; omega) ?_
      refine next (k + 1) ⟨by rw [Int.natCast_add]; rfl, trivial⟩ ⟨by omega, xw.trans x2, ?_⟩ (by omega)
      rw [he, g]; rfl
  · refine ret1 (iv (-1)) rfl ⟨⟨-1, rfl, ?_⟩, xw⟩
    rw [he, List.drop_eq_nil_of_le (by have := h.len; omega)]; simp
theorem c_contI {xs : List Int} {A : Option Addr} {n c : Nat} (h : SlR tInt D w A n xs) : CallZ Tryz.prog 42 #[.slice A n c, .func (.func 43) #[] #[]] w (fun v w' => v = .bool (!xs.all okC) ∧ Ext w w') := by
  refine fn_rule (args := [.slice A n c, .func (.func 43) #[] #[]]) Tryz.func42 (by kernel_rfl) ?_
  refine call_of (c_indI h) ?_
  rintro _ w' ⟨⟨i, rfl, hi⟩, xw⟩
  refine cD (fun g => ?_) (fun g => ?_)
  · exact ret1 (.bool true) rfl ⟨by rw [hi.1 g]; rfl, xw⟩
  · exact ret1 (.bool false) rfl ⟨by rw [show xs.all okC = true from by cases ha : xs.all okC with | true => rfl | false => exact absurd (hi.2 ha) g]; rfl, xw⟩
theorem c_dcheck {csd : List Value} {d : Dist} {cl : List Int} {A : Option Addr} {n c : Nat} (hd : DiR D w csd d) (hl : SlR tInt D w A n cl) : CallZ Tryz.prog 19 #[.agg csd.toArray, .slice A n c] w (fun v w' => v = iv (divErr d cl) ∧ Ext w w') := by
  have hd0 := hd
  obtain ⟨A1, n1, c1, A2, n2, c2, A3, n3, c3, A4, n4, c4, A5, n5, c5, A6, n6, c6, rfl, hr, hf, -⟩ := hd.ex
  have lf := hf.len
  have ll := hl.len
  refine fn_rule (args := [.agg #[.string d.name, iv d.hours, iv d.cap, iv d.start, .slice A1 n1 c1, .slice A2 n2 c2, .slice A3 n3 c3, .slice A4 n4 c4, .slice A5 n5 c5, .slice A6 n6 c6], .slice A n c]) Tryz.func19 (by kernel_rfl) ?_
  refine box (fun b1 w1 h1 => ?_)
  have B1 : Blk w1 b1 31 [.string d.name, iv d.hours, iv d.cap, iv d.start, .slice A1 n1 c1, .slice A2 n2 c2, .slice A3 n3 c3, .slice A4 n4 c4, .slice A5 n5 c5, .slice A6 n6 c6] := h1.blk
  refine ldA [.string d.name, iv d.hours, iv d.cap, iv d.start, .slice A1 n1 c1, .slice A2 n2 c2, .slice A3 n3 c3, .slice A4 n4 c4, .slice A5 n5 c5, .slice A6 n6 c6] (.blk B1) rfl ?_
  refine call_of (c_eCheck (hd0.ext h1.ext)) ?_
  rintro _ w2 ⟨rfl, x2⟩
  have B1 := B1.ext x2
  have xx := h1.ext.trans x2
  refine cN (fun g => ?_) (fun g => ?_)
  · exact ret1 (iv (dErr d)) rfl ⟨by unfold divErr; rw [if_pos g], xx⟩
  have e0 : divErr d cl = if claimOk d cl then 0 else 410 := by unfold divErr; rw [if_neg (fun h => h g)]
  refine len ?_
  refine fldA ?_
  refine ld (.slice A2 n2 c2) (B1.cell rfl) ?_
  refine len ?_
  refine cN (fun g1 => ?_) (fun g1 => ?_)
  · exact ret1 (iv 410) rfl ⟨by rw [e0, if_neg]; unfold claimOk; rw [decide_eq_false (by omega)]; simp, xx⟩
  refine callE (c_contI (hl.ext xx)) (fun w3 g2 e3 => ?_) (fun w3 g2 e3 => ?_)
  · simp only [Bool.not_eq_true'] at g2
    exact ret1 (iv 410) rfl ⟨by rw [e0, if_neg]; unfold claimOk; rw [g2]; simp, xx.trans e3⟩
  · simp only [Bool.not_eq_false'] at g2
    exact ret1 (iv 0) rfl ⟨by rw [e0, if_pos]; unfold claimOk; rw [g2, decide_eq_true (by omega)]; rfl, xx.trans e3⟩
theorem c_dreaches {d : Dist} {A1 A2 A3 A4 A5 A6 : Option Addr} {n1 c1 n2 c2 n3 c3 n4 c4 n5 c5 n6 c6 g : Nat} {lv : Bool} : CallZ Tryz.prog 33 #[.agg #[.string d.name, iv d.hours, iv d.cap, iv d.start, .slice A1 n1 c1, .slice A2 n2 c2, .slice A3 n3 c3, .slice A4 n4 c4, .slice A5 n5 c5, .slice A6 n6 c6, .map (some g)], .bool lv] w (fun v w' => ∃ b1 b2, v = .func (.func 52) #[] #[ptr b1, ptr b2] ∧ Ext w w' ∧ Blk w' b1 56 [.string d.name, iv d.hours, iv d.cap, iv d.start, .slice A1 n1 c1, .slice A2 n2 c2, .slice A3 n3 c3, .slice A4 n4 c4, .slice A5 n5 c5, .slice A6 n6 c6, .map (some g)] ∧ Blk w' b2 4 [.bool lv] ∧ w.heap.size ≤ b1 ∧ b1 < b2) := by
  refine fn_rule (args := [.agg #[.string d.name, iv d.hours, iv d.cap, iv d.start, .slice A1 n1 c1, .slice A2 n2 c2, .slice A3 n3 c3, .slice A4 n4 c4, .slice A5 n5 c5, .slice A6 n6 c6, .map (some g)], .bool lv]) Tryz.func33 (by kernel_rfl) ?_
  refine box (fun b1 w1 h1 => ?_)
  refine box (fun b2 w2 h2 => ?_)
  have e1 := h1.at_
  have e2 := h2.at_
  have s1 := h1.size
  exact ret1 (.func (.func 52) #[] #[ptr b1, ptr b2]) rfl ⟨b1, b2, rfl, h1.ext.trans h2.ext, h1.blk.ext h2.ext, h2.blk, by omega, by omega⟩
/-- The index of the k-th reach that comes. -/
def ixR (n : Nat) (lv : Bool) (k : Nat) : Nat := if lv then n - 1 - k else k
theorem c_dreaches1 {d : Dist} {A1 A2 A3 A4 A5 A6 : Option Addr} {n1 c1 n2 c2 n3 c3 n4 c4 n5 c5 n6 c6 g b1 b2 l : Nat} {lv : Bool} {D D' : Nat → Prop} {Q : World → Prop} {w w0 : World} (J : Nat → World → Prop) (hD1 : D b1) (hD2 : D b2) (hDD : ∀ b, D' b → D b)
    (h1 : Blk w b1 56 [.string d.name, iv d.hours, iv d.cap, iv d.start, .slice A1 n1 c1, .slice A2 n2 c2, .slice A3 n3 c3, .slice A4 n4 c4, .slice A5 n5 c5, .slice A6 n6 c6, .map (some g)]) (h2 : Blk w b2 4 [.bool lv]) (ht : TreR D' w g d) (hn : n1 = d.reaches.length ∧ n1 ≤ 64) (hw0 : w0 = w)
    (hstep : ∀ (k : Nat) A n c u, k < n1 → J k u → Kept D w u → SlR tPt D' u A n (ptsV d (ixR n1 lv k : Nat)) → n ≤ c → YieldP Tryz.prog l [iv (ixR n1 lv k : Int), .slice A n c].toArray (fun v u' => (v = .bool true ∧ J (k + 1) u' ∧ Kept D w0 u') ∨ (v = .bool false ∧ Q u')) u)
    (h0 : J 0 w) : CallZ Tryz.prog 52 #[.func (.yield l) #[] #[], ptr b1, ptr b2] w (fun _ w' => (J n1 w' ∧ Kept D w0 w') ∨ Q w') := by
  subst hw0
  refine fn_rule (args := [.func (.yield l) #[] #[], ptr b1, ptr b2]) Tryz.func52 (by kernel_rfl) ?_
  refine fldA ?_
  refine fldA ?_
  refine ld (.slice A1 n1 c1) (h1.cell rfl) ?_
  refine len ?_
  refine loop_rule (fun k : Nat => [(9, iv (k : Int))]) (fun k u => k ≤ n1 ∧ J k u ∧ Kept D w0 u) (fun k _ => n1 - k) 0 ⟨rfl, trivial⟩ ⟨by omega, h0, .refl _ _⟩ rfl ?_
  rintro G k u ⟨hk, hj, ku⟩
  have B1 := h1.kept ku hD1
  have B2 := h2.kept ku hD2
  have T := ht.kept ku fun b _ h => hDD b h
  refine cD (fun hlt => ?_) (fun hge => ?_)
  · have hlt : k < n1 := by omega
    obtain ⟨-, m, Mm, hm⟩ := T
    obtain ⟨A, n, c, e, hs, hc⟩ := hm ((ixR n1 lv k : Nat) : Int)
    have st := hstep k A n c u hlt hj ku hs hc
    refine ld (.bool lv) (B2.cell rfl) ?_
    cases lv with
    | true =>
      refine fldA ?_
      refine fldA ?_
      refine ld (.slice A1 n1 c1) (B1.cell rfl) ?_
      refine len ?_
      refine arI (by omega) ?_
      refine arI (by omega) ?_
      have ei : ((n1 : Int) - 1 - (k : Int)) = ((ixR n1 true k : Nat) : Int) := by unfold ixR; rw [if_pos rfl]; omega
      rw [ei]
      refine fldA ?_
      refine ld (.map (some g)) (B1.cell rfl) ?_
      refine lookG1 (kv := kvI) ((ixR n1 true k : Nat) : Int) (.slice A n c) (fun z hz => ⟨m, by rw [hz]; exact Mm, e⟩) ?_
      refine yield_of st ?_
      rintro _ u2 (⟨rfl, hj2, k2⟩ | ⟨rfl, hq⟩)
      · refine arI (by omega) ?_
        exact next (k + 1) ⟨by rw [Int.natCast_add]; rfl, trivial⟩ ⟨by omega, hj2, k2⟩ (by omega)
      · exact ret0 (.inr hq)
    | false =>
      have ei : ((k : Nat) : Int) = ((ixR n1 false k : Nat) : Int) := by unfold ixR; rw [if_neg (by simp)]
      rw [show ixR n1 false k = k from by unfold ixR; rw [if_neg (by simp)]] at st e
      refine fldA ?_
      refine ld (.map (some g)) (B1.cell rfl) ?_
      refine lookG1 (kv := kvI) ((k : Nat) : Int) (.slice A n c) (fun z hz => ⟨m, by rw [hz]; exact Mm, e⟩) ?_
      refine yield_of st ?_
      rintro _ u2 (⟨rfl, hj2, k2⟩ | ⟨rfl, hq⟩)
      · refine arI (by omega) ?_
        exact next (k + 1) ⟨by rw [Int.natCast_add]; rfl, trivial⟩ ⟨by omega, hj2, k2⟩ (by omega)
      · exact ret0 (.inr hq)
  · obtain rfl : k = n1 := by omega
    exact ret0 (.inl ⟨hj, ku⟩)
end
end Go.Proofs.YtmjcaclakggafaaGreat

/- Layer 41: contract of needs. -/
namespace Go.Proofs.YtmjcaclakggafaaGreat
open Go Go.RowKit

theorem needsN_none {d : Dist} {cl : List Int} {k : Nat} (h : needsN d cl k = none) : ∀ m, k ≤ m → needsN d cl m = none
  | 0, hm => by obtain rfl : k = 0 := by omega
                exact h
  | m + 1, hm => by
    by_cases e : k = m + 1
    · rw [← e]; exact h
    · show (match needsN d cl m with | none => none | some hs => _) = none
      rw [needsN_none h m (by omega)]
theorem needsN_zero {d : Dist} {cl : List Int} : ∀ (k : Nat) {hs : List Int}, k ≤ d.reaches.length → needsN d cl k = some hs → hs.length = d.reaches.length ∧ ∀ i, i < d.reaches.length - k → clA hs i = 0
  | 0, hs, _, h => by
    injection h with h; subst h
    refine ⟨List.length_replicate .., fun i hi => ?_⟩
    unfold clA
    rw [List.getD_eq_getElem?_getD, List.getElem?_replicate]
    split <;> rfl
  | k + 1, hs, hk, h => by
    unfold needsN at h
    cases h1 : needsN d cl k with
    | none => rw [h1] at h; cases h
    | some hs0 =>
      obtain ⟨e1, e2⟩ := needsN_zero k (by omega) h1
      rw [h1] at h
      dsimp only at h
      cases h2 : needV (rcC d (d.reaches.length - 1 - k)) (isum (clmV d cl hs0 (d.reaches.length - 1 - k))) with
      | none => rw [h2] at h; cases h
      | some u =>
        rw [h2] at h
        injection h with h; subst h
        refine ⟨by rw [List.length_set]; exact e1, fun i hi => ?_⟩
        rw [clA_set (by omega), if_neg (by omega)]
        exact e2 i (by omega)
theorem needsN_step {d : Dist} {cl hs : List Int} {k i : Nat} {r : Reach} (h : needsN d cl k = some hs) (hi : i = d.reaches.length - 1 - k) (hr : rcC d i = r) : needsN d cl (k + 1) = (needV r (isum (clmV d cl hs i))).map fun v => hs.set i v := by
  subst hi hr
  rw [needsN, h]
  dsimp only
  cases needV _ _ <;> rfl
abbrev ivs (l : List Int) : List Value := l.map fun x => .int .i64 x
theorem okL_i64 {l : List Int} (h : OkL l) : ∀ x ∈ l, I64 x := fun x hx => by have := h x hx; unfold I64; omega
theorem blk_ints {w : World} {b n : Nat} {t : TypeId} {l : List Int} {D : Nat → Prop} (h : Blk w b t (ivs l)) (hn : n = l.length) (hl : OkL l) (hle : n ≤ 140737488355328) (hD : D b) : SlR tInt D w (some (ad b 0)) n l :=
  SlR.of_cells hn hle hD (CellsAt.blk h) (flat_ints (okL_i64 hl))
theorem ivs_set {l : List Int} {i : Nat} {x : Int} : (ivs l).set i (iv x) = ivs (l.set i x) := by unfold ivs; rw [List.map_set]
section
variable {D : Nat → Prop} {w : World}
set_option maxRecDepth 8000 in
theorem c_dneeds {d : Dist} {cl : List Int} {A1 A2 A3 A4 A5 A6 A : Option Addr} {n1 c1 n2 c2 n3 c3 n4 c4 n5 c5 n6 c6 n c g : Nat} (hv : Val d) (hr : SlR tReach D w A1 n1 d.reaches) (ht : TreR D w g d) (hl : SlR tInt D w A n cl) (hk : OkL cl) (hn : n = d.farms.length) :
    CallZ Tryz.prog 21 #[.agg #[.string d.name, iv d.hours, iv d.cap, iv d.start, .slice A1 n1 c1, .slice A2 n2 c2, .slice A3 n3 c3, .slice A4 n4 c4, .slice A5 n5 c5, .slice A6 n6 c6, .map (some g)], .slice A n c] w (fun v w' => Ext w w' ∧ ((needsV d cl = none ∧ v = .tuple #[.slice none 0 0, .bool false]) ∨
      ∃ hs bh, needsV d cl = some hs ∧ v = .tuple #[.slice (some (ad bh 0)) n1 n1, .bool true] ∧ w.heap.size ≤ bh ∧ Blk w' bh 3 (ivs hs))) := by
  have lr := hr.len
  have hvn := hv.n
  refine fn_rule (args := [.agg #[.string d.name, iv d.hours, iv d.cap, iv d.start, .slice A1 n1 c1, .slice A2 n2 c2, .slice A3 n3 c3, .slice A4 n4 c4, .slice A5 n5 c5, .slice A6 n6 c6, .map (some g)], .slice A n c]) Tryz.func21 (by kernel_rfl) ?_
  refine box (fun b2 w1 h1 => ?_)
  refine box (fun b3 w2 h2 => ?_)
  refine alloc (fun b4 w3 h3 => ?_)
  refine alloc (fun b5 w4 h4 => ?_)
  have e1 := h1.at_
  have e2 := h2.at_
  have e3 := h3.at_
  have e4 := h4.at_
  have s1 := h1.size
  have s2 := h2.size
  have s3 := h3.size
  have s4 := h4.size
  have x4 : Ext w w4 := ((h1.ext.trans h2.ext).trans h3.ext).trans h4.ext
  have B2 : Blk w4 b2 56 [.string d.name, iv d.hours, iv d.cap, iv d.start, .slice A1 n1 c1, .slice A2 n2 c2, .slice A3 n3 c3, .slice A4 n4 c4, .slice A5 n5 c5, .slice A6 n6 c6, .map (some g)] := h1.blk.ext ((h2.ext.trans h3.ext).trans h4.ext)
  have B3 : Blk w4 b3 32 [.slice A n c] := h2.blk.ext (h3.ext.trans h4.ext)
  have B4 : Blk w4 b4 32 [.slice none 0 0] := h3.blk.ext h4.ext
  have B5 : Blk w4 b5 4 [.bool false] := h4.blk
  refine fldA ?_
  refine fldA ?_
  refine ld (.slice A1 n1 c1) (B2.cell rfl) ?_
  refine len ?_
  refine mslc (sz := 1) (zv := iv 0) n1 rfl rfl (by omega) (by omega) rfl (by decide) (fun bh w5 h5 => ?_)
  have e5 := h5.at_
  have s5 := h5.size
  refine st1 (B4.ext h5.ext) rfl (fun w6 B4 k6 => ?_)
  have s6 := k6.size
  have Bh : Blk w6 bh 3 (ivs (List.replicate n1 0)) := by
    have q := h5.blk.kept k6 (by omega)
    have e : ivs (List.replicate n1 0) = (List.replicate n1 (cellsL (iv 0))).flatten := by
      unfold ivs
      rw [List.map_replicate]
      show List.replicate n1 (iv 0) = (List.replicate n1 [iv 0]).flatten
      rw [List.flatten_replicate_singleton]
    rw [e]; exact q
  have B2 := (B2.ext h5.ext).kept k6 (by omega)
  have B3 := (B3.ext h5.ext).kept k6 (by omega)
  have B5 := (B5.ext h5.ext).kept k6 (by omega)
  have x6 : Ext w w6 := (x4.trans h5.ext).then k6 fun b hb _ e => by omega
  refine ldA [.string d.name, iv d.hours, iv d.cap, iv d.start, .slice A1 n1 c1, .slice A2 n2 c2, .slice A3 n3 c3, .slice A4 n4 c4, .slice A5 n5 c5, .slice A6 n6 c6, .map (some g)] (.blk B2) rfl ?_
  refine call_of (c_dreaches (d := d) (lv := true)) ?_
  rintro _ w7 ⟨b6, b7, rfl, x7, C6, C7, hb6, hb67⟩
  have s7 := x7.size
  have lc7 := C7.lt
  have B2 := B2.ext x7
  have B3 := B3.ext x7
  have B4 := B4.ext x7
  have B5 := B5.ext x7
  have Bh := Bh.ext x7
  have lb2 := B2.lt
  refine range (gf := 52) (lb := #[ptr b6, ptr b7]) rfl (fun fn tmps w8 R hRR hF' hwf x8 z8 hD8 hl8 => ?_)
  show CallZ _ _ #[.func (.yield (w7.heap.size + 1)) #[] #[], ptr b6, ptr b7] w8 _
  have x08 : Ext w w8 := (x6.trans x7).trans x8
  have B2 := B2.ext x8
  have B3 := B3.ext x8
  have B4 := B4.ext x8
  have B5 := B5.ext x8
  have Bh := Bh.ext x8
  have C6 := C6.ext x8
  have C7 := C7.ext x8
  have z04 := x4.size
  refine (c_dreaches1 (Q := fun u => ∃ r, LoopAt u (w7.heap.size + 1) r ∧ r.state ≠ .busy ∧ r.pending = some .ret ∧ needsV d cl = none ∧ Blk u b4 32 [.slice none 0 0] ∧ Blk u b5 4 [.bool false] ∧ Kept (fun b => b ≠ bh ∧ b ≠ w7.heap.size + 1 ∧ b ≠ b4 ∧ b ≠ b5) w8 u)
    (D := fun b => b ≠ bh ∧ b ≠ w7.heap.size + 1) (D' := fun b => b < w.heap.size) (fun k u => ∃ hs, needsN d cl k = some hs ∧ Blk u bh 3 (ivs hs) ∧ LoopAt u (w7.heap.size + 1) R)
    ⟨by omega, by omega⟩ ⟨by omega, by omega⟩ (fun b hb => ⟨by omega, by omega⟩) C6 C7 ((show TreR (fun b => b < w.heap.size) w g d from ⟨ht.ex.elim fun m hm => hm.1.lt, ht.ex.imp fun m hm => ⟨hm.1, fun r => by obtain ⟨A, n, c, e, hs, hc⟩ := hm.2 r; exact ⟨A, n, c, e, hs.more (by decide) fun b hb _ => hb, hc⟩⟩⟩).ext x08) ⟨by omega, by omega⟩ rfl ?_ ⟨_, rfl, by rw [lr]; exact Bh, hl8⟩).mono ?_
  · rintro k P np cp u hkn ⟨hs, hns, bhu, lu⟩ ku sp hcp
    obtain ⟨lhs, ohs, -⟩ := needsN_ok hv k (by omega) hns
    obtain ⟨-, zhs⟩ := needsN_zero k (by omega) hns
    have hi : ixR n1 true k = d.reaches.length - 1 - k := by unfold ixR; rw [if_pos rfl, lr]
    obtain ⟨i, hie⟩ : ∃ i, i = ixR n1 true k := ⟨_, rfl⟩
    rw [← hie] at sp ⊢
    rw [← hie] at hi
    have hin : i < d.reaches.length := by omega
    obtain ⟨r, hri⟩ : ∃ r, d.reaches[i]? = some r := ⟨_, List.getElem?_eq_getElem hin⟩
    have hrc := rcC_at hri
    obtain ⟨rl1, rl2, rl3⟩ := hv.loss hin
    rw [hrc] at rl1 rl2 rl3
    have step : needsN d cl (k + 1) = (needV r (isum (clmV d cl hs i))).map fun v => hs.set i v := needsN_step hns hi hrc
    have none_ : needV r (isum (clmV d cl hs i)) = none → needsV d cl = none := fun h => needsN_none (k := k + 1) (by rw [step, h]; rfl) _ (by omega)
    obtain ⟨tot, htot⟩ : ∃ t, t = isum (clmV d cl hs i) := ⟨_, rfl⟩
    have okc := clmV_ok (d := d) hk ohs i
    have tb := isum_b okc
    have lcl := hv.len (cl := cl) (hs := hs) (r := i)
    have tb2 : 0 ≤ tot ∧ tot ≤ 712964571136 := by
      rw [htot]
      refine ⟨tb.1, Int.le_trans tb.2 ?_⟩
      have : ((clmV d cl hs i).length : Int) ≤ 664 := by omega
      omega
    rw [← htot] at step none_
    subst hRR
    have ll := lu.lt
    refine yield_rule (args := [iv (i : Int), .slice P np cp]) lu rfl rfl hF' hwf ?_
    refine mid' lu (fun u1 k1 z1 l1 => ?_)
    have ku1 : Kept (fun b => b ≠ bh ∧ b ≠ w7.heap.size + 1) w8 u1 := ku.then k1 fun b _ h => h.2
    have q2 := B2.kept ku1 ⟨by omega, by omega⟩
    have q3 := B3.kept ku1 ⟨by omega, by omega⟩
    have q4 := B4.kept ku1 ⟨by omega, by omega⟩
    have q5 := B5.kept ku1 ⟨by omega, by omega⟩
    have kw1 : Kept (fun b => b < w.heap.size) w u1 := (Ext.any x08).then ku1 fun b hb h => ⟨by omega, by omega⟩
    have cl1 : SlR tInt (fun b => b < w.heap.size) u1 A n cl := (hl.more (D' := fun b => b < w.heap.size) (by decide) fun b hb _ => hb).kept kw1 fun b _ h => h
    have rr1 : SlR tReach (fun b => b < w.heap.size) u1 A1 n1 d.reaches := (hr.more (D' := fun b => b < w.heap.size) (by decide) fun b hb _ => hb).kept kw1 fun b _ h => h
    have bh1 := bhu.kept k1 (by have := bhu.lt; omega)
    have sp1 := sp.kept k1 fun b hb h => by omega
    have lsp := sp1.len
    have hs1 : SlR tInt (fun b => b = bh) u1 (some (ad bh 0)) n1 hs := blk_ints bh1 (by omega) ohs (by omega) rfl
    refine ld (.slice A n c) (q3.cell rfl) ?_
    refine ld (.slice (some (ad bh 0)) n1 n1) (q4.cell rfl) ?_
    refine call_of (c_dclaims (D := fun _ => True) (sp1.more (by decide) fun _ _ _ => trivial) (cl1.more (by decide) fun _ _ _ => trivial) (hs1.more (by decide) fun _ _ _ => trivial) (by rw [← lsp, ← clmV_len (cl := cl) (hs := hs)]; exact lcl) (fun p hp => ?_) hk ohs) ?_
    · rcases mem_ptsV.1 hp with h | h
      · exact ⟨fun _ => by omega, fun e => (by rw [h.1] at e; cases e)⟩
      · exact ⟨fun e => (by rw [h.1] at e; cases e), fun _ => by omega⟩
    rintro _ u2 ⟨A', c', rfl, o2⟩
    have x12 := o2.ext
    have eT : isum ((ptsV d (i : Int)).map (clP cl hs)) = tot := htot.symm
    rw [eT]
    have ku2 : Kept (fun b => b ≠ bh ∧ b ≠ w7.heap.size + 1) w8 u2 := ku1.then x12 fun b _ h => trivial
    have l2 := l1.kept x12 trivial
    have q2 := q2.ext x12
    have q4 := q4.ext x12
    have q5 := q5.ext x12
    have bh2 := bh1.ext x12
    have rr2 := rr1.ext x12
    have kw2 := kw1.then x12 fun b hb _ => trivial
    have kuu : Kept (fun b => b ≠ bh ∧ b ≠ w7.heap.size + 1) u u2 := (k1.weak fun b _ h => h.2).then x12 fun b _ h => trivial
    refine cD (fun g0 => ?_) (fun g0 => ?_)
    · refine roundN' _ l2 (fun u3 k3 l3 => ?_)
      refine .inl ⟨rfl, ⟨hs, ?_, bh2.kept k3 (by have := bh2.lt; omega), l3⟩, ku2.then k3 fun b _ h => h.2⟩
      rw [step]
      unfold needV
      rw [if_pos g0]
      show some (hs.set i 0) = some hs
      congr 1
      refine List.ext_getElem (by rw [List.length_set]) fun j p1 p2 => ?_
      rw [List.getElem_set]
      split
      · rename_i e
        subst e
        have := zhs i (by omega)
        rw [clA_at (List.getElem?_eq_getElem p2)] at this
        exact this.symm
      · rfl
    refine cD (fun g1 => ?_) (fun g1 => ?_)
    · have hno := none_ (by unfold needV; rw [if_neg g0, if_pos (by omega)])
      refine st1 q4 rfl (fun u3 p4 k3 => ?_)
      refine st1 (q5.kept k3 (by omega)) rfl (fun u4 p5 k4 => ?_)
      refine roundR' _ ((l2.kept k3 (by omega)).kept k4 (by omega)) (fun u5 k5 l5 => ?_)
      refine .inr ⟨rfl, _, l5, by simp, rfl, hno, (p4.kept k4 (by omega)).kept k5 (by omega), p5.kept k5 (by omega), ?_⟩
      exact (((ku2.weak fun b _ h => ⟨h.1, h.2.1⟩).then k3 fun b _ h => h.2.2.1).then k4 fun b _ h => h.2.2.2).then k5 fun b _ h => h.2.1
    obtain ⟨bb, oo, cs, y, rfl, hy, -, -, hc, rfl⟩ := rr2.at_ (k := i) (by omega)
    obtain rfl : r = y := by rw [hri] at hy; injection hy
    refine fldA ?_
    refine fldA ?_
    refine ld (.slice (some (ad bb oo)) n1 c1) (q2.cell rfl) ?_
    refine idx i rfl (by omega) ?_
    refine ldA r.c hc rfl ?_
    refine call_of (c_lNeed (r := r) (x := tot)) ?_
    rintro _ u3 ⟨rfl, x3⟩
    have er : lErr r tot = 0 := lErr_ok.2 ⟨rl1, by omega, by omega⟩
    have en : needL r tot = if lvW r tot > 1073741824 then (0, false) else (lvW r tot, true) := by unfold needL; rw [if_neg (by simp [er])]
    have ku3 : Kept (fun b => b ≠ bh ∧ b ≠ w7.heap.size + 1) w8 u3 := ku2.then x3 fun b _ h => trivial
    have l3 := l2.kept x3 trivial
    have q2 := q2.ext x3
    have q4 := q4.ext x3
    have q5 := q5.ext x3
    have bh3 := bh2.ext x3
    have hcc := rr2.ext x3
    by_cases g2 : lvW r tot > 1073741824
    · rw [en, if_pos g2]
      have hno := none_ (by unfold needV; rw [if_neg g0, if_neg (by omega), if_pos g2])
      refine st1 q4 rfl (fun u4 p4 k4 => ?_)
      refine st1 (q5.kept k4 (by omega)) rfl (fun u5 p5 k5 => ?_)
      refine roundR' _ ((l3.kept k4 (by omega)).kept k5 (by omega)) (fun u6 k6 l6 => ?_)
      refine .inr ⟨rfl, _, l6, by simp, rfl, hno, (p4.kept k5 (by omega)).kept k6 (by omega), p5.kept k6 (by omega), ?_⟩
      exact (((ku3.weak fun b _ h => ⟨h.1, h.2.1⟩).then k4 fun b _ h => h.2.2.1).then k5 fun b _ h => h.2.2.2).then k6 fun b _ h => h.2.1
    rw [en, if_neg g2]
    have hf := lvW_first (w := tot) rl1
    have hfl := hf.le
    refine drawP (.take 0 (.take 1 (.take 2 (.take 3 (.take 4 (.take 5 (.take 6 (.take 7 (.take 8 (.take 9 (.take 10 (.take 11 (.bar (.eff 12 .done)))))))))))))) [12] (fun z => z = u3) mx (by kernel_rfl) rfl ?_
    obtain ⟨bb', oo', cs', y', hbe, hy', -, -, hc3, rfl⟩ := hcc.at_ (k := i) (by omega)
    obtain rfl : r = y' := by rw [hri] at hy'; injection hy'
    injection hbe with hbe
    injection hbe with hb1 hb2
    subst hb1; subst hb2
    refine ld (.slice (some (ad bh 0)) n1 n1) (q4.cell rfl) ?_
    refine fldA ?_
    refine fldA ?_
    refine ld (.slice (some (ad bb oo)) n1 c1) (q2.cell rfl) ?_
    refine idx i rfl (by omega) ?_
    refine fldA ?_
    refine ld (iv r.siphon) (hc3 5 _ rfl) ?_
    refine idx i rfl (by omega) ?_
    refine barS (fun _ => True) trivial ?_
    refine st (v := iv (max (lvW r tot) r.siphon)) bh3 (by simp; omega) rfl (fun u4 bh4 k4 z4 => ?_)
    refine strS trivial ?_
    refine roundN' _ (l3.kept k4 (by omega)) (fun u5 k5 l5 => ?_)
    refine .inl ⟨rfl, ⟨hs.set i (max (lvW r tot) r.siphon), ?_, ?_, l5⟩, ?_⟩
    · rw [step]
      unfold needV
      rw [if_neg g0, if_neg (by omega), if_neg g2]; rfl
    · rw [← ivs_set]
      have := bh4.kept k5 (by have := bh3.lt; omega)
      simpa using this
    · exact (ku3.then k4 fun b _ h => h.1).then k5 fun b _ h => h.2
  · rintro _ u (⟨⟨hs, hns, bhu, lu⟩, ku⟩ | ⟨r, lu, hr1, hr2, hno, p4, p5, ku⟩)
    · subst hRR
      have hns : needsV d cl = some hs := by unfold needsV; rw [lr]; exact hns
      refine range_end _ lu (by simp) (fun u1 k1 => ?_)
      have ll := lu.lt
      have ku1 : Kept (fun b => b ≠ bh ∧ b ≠ w7.heap.size + 1) w8 u1 := ku.then k1 fun b _ h => h.2
      have q4 := B4.kept ku1 ⟨by omega, by omega⟩
      have q5 := B5.kept ku1 ⟨by omega, by omega⟩
      have bh1 := bhu.kept k1 (by have := bhu.lt; omega)
      refine ld (.slice (some (ad bh 0)) n1 n1) (q4.cell rfl) ?_
      refine st1 q4 rfl (fun u2 p4 k2 => ?_)
      refine st1 (q5.kept k2 (by omega)) rfl (fun u3 p5 k3 => ?_)
      have ku3 : Kept (fun b => b ≠ bh ∧ b ≠ w7.heap.size + 1 ∧ b ≠ b4 ∧ b ≠ b5) w8 u3 := ((ku1.weak fun b _ h => ⟨h.1, h.2.1⟩).then k2 fun b _ h => h.2.2.1).then k3 fun b _ h => h.2.2.2
      have hD3 : u3.heap[w7.heap.size]? = some (.deferred (some [])) := (ku3.blk _ (by omega) ⟨by omega, by omega, by omega, by omega⟩).trans hD8
      refine retM hD3 ?_
      have k4 := Kept.putObj u3 w7.heap.size (.deferred none)
      refine resL _ (holds_cell (((p4.kept k3 (by omega)).kept k4 (by omega)).cell rfl)) ?_
      refine resL _ (holds_cell ((p5.kept k4 (by omega)).cell rfl)) ?_
      refine ⟨(x08.then ku3 fun b hb _ => ⟨by omega, by omega, by omega, by omega⟩).then k4 fun b hb _ => by omega, .inr ⟨hs, bh, hns, rfl, by omega, ((bh1.kept k2 (by omega)).kept k3 (by omega)).kept k4 (by omega)⟩⟩
    · refine range_end r lu hr1 (fun u1 k1 => ?_)
      rw [hr2]
      have ll := lu.lt
      have ku1 : Kept (fun b => b ≠ bh ∧ b ≠ w7.heap.size + 1 ∧ b ≠ b4 ∧ b ≠ b5) w8 u1 := ku.then k1 fun b _ h => h.2.1
      have hD3 : u1.heap[w7.heap.size]? = some (.deferred (some [])) := (ku1.blk _ (by omega) ⟨by omega, by omega, by omega, by omega⟩).trans hD8
      refine retM hD3 ?_
      have k4 := Kept.putObj u1 w7.heap.size (.deferred none)
      have lp4 := p4.lt
      have lp5 := p5.lt
      refine resL _ (holds_cell (((p4.kept k1 (by omega)).kept k4 (by omega)).cell rfl)) ?_
      refine resL _ (holds_cell (((p5.kept k1 (by omega)).kept k4 (by omega)).cell rfl)) ?_
      refine ⟨(x08.then ku1 fun b hb _ => ⟨by omega, by omega, by omega, by omega⟩).then k4 fun b hb _ => by omega, .inl ⟨hno, rfl⟩⟩
end
end Go.Proofs.YtmjcaclakggafaaGreat
