/- Parts of the proof: Ep Es F1 F2 F3 F4 F5 F6 F7 F8. -/
import Derived.Test.YtcpdhclnmjfldaaGreatM9
import Derived.Test.YtcpdhclnmjfldaaGreatM8
import Derived.Test.YtcpdhclnmjfldaaGreatM7
import Derived.Test.YtcpdhclnmjfldaaGreatM6
import Derived.Test.YtcpdhclnmjfldaaGreatM4
import Derived.Test.YtcpdhclnmjfldaaGreatM2

/- Layer 48, plainly: more suspects, wider ranges. -/
namespace Go.Proofs.YtcpdhclnmjfldaaGreat
open Go Go.RowKit

/-- As many ranges, each of them as wide or wider. -/
def WiderL (l l' : List Rg) : Prop := l.length = l'.length ∧ ∀ i, i < l.length → (l'.getD i g0).lo ≤ (l.getD i g0).lo ∧ (l.getD i g0).hi ≤ (l'.getD i g0).hi
theorem WiderL.refl (l : List Rg) : WiderL l l := ⟨rfl, fun _ _ => ⟨Int.le_refl _, Int.le_refl _⟩⟩
structure WiderW (v v' : Wv) : Prop where
  heads : WiderL v.heads v'.heads
  outlets : WiderL v.outlets v'.outlets
  tails : WiderL v.tails v'.tails
theorem WiderW.refl (v : Wv) : WiderW v v := ⟨.refl _, .refl _, .refl _⟩
def BlLe (bl bl' : Int × Int → Option Int) : Prop := ∀ key n, bl key = some n → bl' key = some n
theorem meter_more {bl bl' : Int × Int → Option Int} (hb : BlLe bl bl') {kd ix : Int} {y y' : Rg} (h0 : 0 ≤ y.lo) (h1 : y'.lo ≤ y.lo) (h2 : y.hi ≤ y'.hi) : (meterV bl' kd ix y').lo ≤ (meterV bl kd ix y).lo ∧ (meterV bl kd ix y).hi ≤ (meterV bl' kd ix y').hi := by
  unfold meterV
  cases e : bl (kd, ix) with
  | some n => rw [hb _ _ e]; show (0 : Int) ≤ 0 ∧ max n y.hi ≤ max n y'.hi; omega
  | none =>
    cases e' : bl' (kd, ix) with
    | some n => show (0 : Int) ≤ y.lo ∧ y.hi ≤ max n y'.hi; omega
    | none => exact ⟨h1, h2⟩
theorem in_more {bl bl' : Int × Int → Option Int} (hb : BlLe bl bl') {kd : Int} {l : List Int} {m : Nat} {read read' : List Rg} (hr : WiderL read read') (h0 : rgsB m read = true) (h : inB bl kd l read = true) : inB bl' kd l read' = true := by
  rw [inB_iff] at h ⊢
  refine ⟨by rw [h.1, hr.1], fun i hi => ?_⟩
  have h1 := h.2 i hi
  have h2 := hr.2 i (by rw [← h.1]; exact hi)
  have h3 := rgOk_iff.1 (rgsB_get h0 (by rw [← rgsB_len h0, ← h.1]; exact hi))
  have := meter_more hb (kd := kd) (ix := i) h3.1 h2.1 h2.2
  omega
section
variable {d : Dist} {x x' : Ev} {set set' : List Int}
theorem suE_congr (hs : x'.suspects = x.suspects) (i : Nat) : suE x' i = suE x i := by unfold suE; rw [hs]
theorem suAt_congr (hs : x'.suspects = x.suspects) (i : Int) : suAt x' i = suAt x i := by unfold suAt; rw [hs]
theorem fits_more {bl bl' : Int × Int → Option Int} {v v' : Wv} {t : Tru} (hs : x'.suspects = x.suspects) (hb : BlLe bl bl') (hw : WiderW v v') (w1 : rgsB d.reaches.length v.heads = true) (w2 : rgsB d.farms.length v.outlets = true) (w3 : rgsB d.reaches.length v.tails = true) (hp : ∀ key n, bl' key = some n → 0 ≤ n) (h : FitsL d x bl v t) : FitsL d x' bl' v' t := by
  have ho : ∀ k r, out3 d x' t k r = out3 d x t k r := fun k r => by
    unfold out3 out2 out1
    have : qP x' r = qP x r := funext fun i => by unfold qP; rw [suE_congr hs]
    rw [this, hs]
  refine ⟨in_more hb hw.heads w1 h.i1, in_more hb hw.outlets w2 h.i2, in_more hb hw.tails w3 h.i3, h.la, by rw [hs]; exact h.lt, fun i hi => ?_, fun r hr => ?_⟩
  · have := h.tk i (by rw [← hs]; exact hi)
    refine ⟨this.1, Int.le_trans this.2 ?_⟩
    unfold mostT
    rw [suE_congr hs]
    by_cases hk : (suE x i).kind = 4
    · rw [if_pos hk, if_pos hk]
      cases e : bl ((suE x i).kind, (suE x i).index) with
      | some n => rw [hb _ _ e]; exact Int.le_refl _
      | none =>
        cases e' : bl' ((suE x i).kind, (suE x i).index) with
        | none => exact Int.le_refl _
        | some n => exact hp _ _ e'
    · rw [if_neg hk, if_neg hk]; exact Int.le_refl _
  · rw [ho]; exact h.ar r hr
theorem bl_more (he : askErr d x set = 0) (he' : askErr d x' set' = 0) (hs : x'.suspects = x.suspects) (hsub : ∀ i ∈ set, i ∈ set') : BlLe (blF x set) (blF x' set') := by
  intro key n hn
  obtain ⟨i, hi, hk, rfl⟩ := blF_some hn
  have hsus := (evErr_ok (askErr_ok.1 he).1).2.2.2.2
  have hb := (setB_ok (askErr_ok.1 he).2).2
  have hb' := (setB_ok (askErr_ok.1 he').2).2
  cases e : blF x' set' key with
  | some m =>
    obtain ⟨j, hj, hk', rfl⟩ := blF_some e
    rw [suAt_congr hs] at hk' ⊢
    have h1 := hb i hi
    have h2 := hb' j hj
    rw [hs] at h2
    have : i.toNat = j.toNat := by
      rcases Nat.lt_trichotomy i.toNat j.toNat with q | q | q
      · exact absurd (hk.trans hk'.symm) (sus_ne hsus q (by omega))
      · exact q
      · exact absurd (hk'.trans hk.symm) (sus_ne hsus q (by omega))
    rw [show i = j by omega]
  | none =>
    exfalso
    unfold blF at e
    rw [List.findSome?_eq_none_iff] at e
    have := e i (hsub i hi)
    rw [suAt_congr hs] at this
    rw [if_pos hk] at this
    cases this
/-- Whoever explains, with more suspects and wider ranges still does. -/
theorem expl_more (he : askErr d x set = 0) (he' : askErr d x' set' = 0) (hs : x'.suspects = x.suspects) (hsub : ∀ i ∈ set, i ∈ set') (hl : x'.waves.length = x.waves.length)
    (hw : ∀ (k : Nat) v v', x.waves[k]? = some v → x'.waves[k]? = some v' → WiderW v v') (h : explV d x set = true) : explV d x' set' = true := by
  have hb := bl_more he he' hs hsub
  have ha := find_acc he h
  generalize findL d x set = l at ha
  refine acc_expl (l := l) ?_
  unfold accV at ha ⊢
  rw [if_pos he] at ha
  rw [if_pos he']
  unfold allB at ha ⊢
  rw [Bool.and_eq_true, decide_eq_true_eq] at ha ⊢
  refine ⟨by rw [hl]; exact ha.1, List.all_eq_true.2 fun p hp => ?_⟩
  obtain ⟨k, hk, rfl⟩ := List.getElem_of_mem hp
  rw [List.length_zip] at hk
  rw [List.getElem_zip]
  have hk1 : k < x.waves.length := by omega
  have hk2 : k < l.length := by omega
  have hz := List.all_eq_true.1 ha.2 (x.waves[k], l[k]) (List.mem_iff_getElem.2 ⟨k, by rw [List.length_zip]; omega, by rw [List.getElem_zip]⟩)
  have hm : x.waves[k] ∈ x.waves := List.getElem_mem _
  obtain ⟨w1, w2, w3⟩ := waves_mem (evErr_ok (askErr_ok.1 he).1).2.2.2.1 _ hm
  have hm' : x'.waves[k]'(by omega) ∈ x'.waves := List.getElem_mem _
  have hp' := (wavOk_of he' hm').1.bl
  exact fitsB_iff.2 (fits_more hs hb (hw k _ _ (List.getElem?_eq_getElem hk1) (List.getElem?_eq_getElem (by omega))) w1 w2 w3 (fun key n hn => by have := hp' key n hn; omega) (fitsB_iff.1 hz))

/-! ### in the table -/
theorem members_set {n S : Nat} : setB S (-1) (membersL n S) = true := by
  have key : ∀ (l : List Nat) (last : Int), l.Pairwise (· < ·) → (∀ k ∈ l, last < (k : Int) ∧ k < S) → setB S last (l.map fun i : Nat => (i : Int)) = true := by
    intro l
    induction l with
    | nil => intro _ _ _; rfl
    | cons a l ih =>
      intro last hp hb
      rw [List.pairwise_cons] at hp
      show (decide (last < (a : Int)) && (decide ((a : Int) < S) && setB S (a : Int) (l.map fun i : Nat => (i : Int)))) = true
      have h1 := hb a List.mem_cons_self
      rw [ih _ hp.2 fun k hk => ⟨by have := hp.1 k hk; omega, (hb k (List.mem_cons_of_mem _ hk)).2⟩]
      simp only [Bool.and_eq_true, decide_eq_true_eq]
      exact ⟨h1.1, by omega, trivial⟩
  refine key _ _ (List.Pairwise.filter _ List.pairwise_lt_range) fun k hk => ?_
  have := List.mem_range.1 (List.mem_filter.1 hk).1
  exact ⟨by omega, this⟩
theorem ask_members (h : evErr d x = 0) (n : Nat) : askErr d x (membersL n x.suspects.length) = 0 := askErr_ok.2 ⟨h, members_set⟩
theorem table_get (h : evErr d x = 0) {n : Nat} (hn : n < 2 ^ x.suspects.length) : (tableV d x)[n]? = some (explV d x (membersL n x.suspects.length)) := by
  unfold tableV tableL
  rw [if_pos h, List.getElem?_map, List.getElem?_range hn]; rfl
theorem table_len (h : evErr d x = 0) : (tableV d x).length = 2 ^ x.suspects.length := by unfold tableV tableL; rw [if_pos h]; simp
theorem table_none (h : evErr d x ≠ 0) : tableV d x = [] := by unfold tableV; rw [if_neg h]
/-- One suspect more. -/
theorem table_one (h : evErr d x = 0) {n i : Nat} (_ : n < 2 ^ x.suspects.length) (_ : i < x.suspects.length) (ht : explV d x (membersL n x.suspects.length) = true) : explV d x (membersL (n ||| 2 ^ i) x.suspects.length) = true := by
  refine expl_more (ask_members h n) (ask_members h _) rfl (fun j hj => ?_) rfl (fun k v v' h1 h2 => by rw [h1] at h2; injection h2 with h2; subst h2; exact .refl _) ht
  unfold membersL at hj ⊢
  rw [List.mem_map] at hj ⊢
  obtain ⟨q, hq, rfl⟩ := hj
  rw [List.mem_filter] at hq
  refine ⟨q, List.mem_filter.2 ⟨hq.1, ?_⟩, rfl⟩
  rw [Nat.testBit_or, hq.2]; rfl
/-- One range wider. -/
theorem table_wide (h : evErr d x = 0) (h' : evErr d x' = 0) (hs : x'.suspects = x.suspects) (hl : x'.waves.length = x.waves.length)
    (hw : ∀ (k : Nat) v v', x.waves[k]? = some v → x'.waves[k]? = some v' → WiderW v v') {n : Nat} (ht : explV d x (membersL n x.suspects.length) = true) : explV d x' (membersL n x'.suspects.length) = true := by
  rw [hs]
  exact expl_more (ask_members h n) (askErr_ok.2 ⟨h', by rw [hs]; exact members_set⟩) hs (fun _ h => h) hl hw ht
end
end Go.Proofs.YtcpdhclnmjfldaaGreat

/- Layer 48: Of's put. -/
namespace Go.Proofs.YtcpdhclnmjfldaaGreat
open Go Go.RowKit

/-- Two slices of the function's own that do not share. -/
def dj (A B : Option Addr) : Prop := ∀ g, A = some (ad g 0) → B ≠ some (ad g 0)
theorem dj.symm {A B : Option Addr} (h : dj A B) : dj B A := fun g h1 h2 => h g h2 h1
theorem dj.app {A A' B : Option Addr} {w0 u : World} {n c sz : Nat} {e : TypeId} {cs : List Value} (h : dj A B) (hA : A' = A ∨ A' = none ∨ A' = some (ad u.heap.size 0)) (hB : OwnF w0 u B n c e sz cs) : dj A' B := by
  intro g h1 h2
  rcases hA with e | e | e
  · exact h g (e ▸ h1) h2
  · rw [e] at h1; cases h1
  · rw [e] at h1
    injection h1 with h1; injection h1 with h1
    rcases hB.form with ⟨e2, -⟩ | ⟨g', e2, -, hlt, -⟩
    · rw [e2] at h2; cases h2
    · rw [e2] at h2; injection h2 with h2; injection h2 with h2; omega
theorem srcOf {w : World} {g sz : Nat} {t : TypeId} {vs : List Value} (h : Blk w g t vs) (hl : vs.length = 1 * sz) : Src w (some (ad g 0)) 1 sz vs := ⟨hl, fun _ => ⟨g, 0, rfl, fun j x hx => by rw [Nat.zero_add]; exact h.cell hx⟩⟩
theorem own_ne {w0 w : World} {A : Option Addr} {n c sz : Nat} {e : TypeId} {cs : List Value} (h : OwnF w0 w A n c e sz cs) {g : Nat} (hg : w.heap.size ≤ g) : A ≠ some (ad g 0) := fun e2 => by
  rcases h.form with ⟨e3, -⟩ | ⟨g', e3, -, hlt, -⟩
  · rw [e3] at e2; cases e2
  · rw [e3] at e2; injection e2 with e2; injection e2 with e2; omega
/-- A slice's block is of its elements' type. -/
theorem own_ty {w0 w : World} {A : Option Addr} {n c sz : Nat} {e t : TypeId} {cs xs : List Value} {b : Nat} (h : OwnF w0 w A n c e sz cs) (hb : Blk w b t xs) (hne : t ≠ e) : A ≠ some (ad b 0) := fun e2 => by
  obtain ⟨rest, hb3, _⟩ := Own.blk (e2 ▸ h.own)
  exact hne (hb.uniq hb3).1
/-- A slice after an append: the same block, none, or a new one. -/
def nw (w : World) (A B : Option Addr) : Prop := B = A ∨ B = none ∨ ∃ g, B = some (ad g 0) ∧ w.heap.size ≤ g
theorem nw.of {w u : World} {A B : Option Addr} (h : B = A ∨ B = none ∨ B = some (ad u.heap.size 0)) (hs : w.heap.size ≤ u.heap.size) : nw w A B := by
  rcases h with h | h | h
  · exact .inl h
  · exact .inr (.inl h)
  · exact .inr (.inr ⟨_, h, hs⟩)
theorem dj.nw {w0 w : World} {A B C : Option Addr} {n c sz : Nat} {e : TypeId} {cs : List Value} (h : dj A C) (hB : nw w A B) (hC : OwnF w0 w C n c e sz cs) : dj B C := by
  intro g h1 h2
  rcases hB with e | e | ⟨g', e, hg⟩
  · exact h g (e ▸ h1) h2
  · rw [e] at h1; cases h1
  · rw [e] at h1
    injection h1 with h1; injection h1 with h1
    rcases hC.form with ⟨e2, -⟩ | ⟨g2, e2, -, hlt, -⟩
    · rw [e2] at h2; cases h2
    · rw [e2] at h2; injection h2 with h2; injection h2 with h2; omega
theorem dj_none {A : Option Addr} : dj none A := fun g h => by cases h
/-- Slices of two kinds do not share. -/
theorem dj_ty {w0 v0 w : World} {A B : Option Addr} {n c sz m k sy : Nat} {e t : TypeId} {cs ds : List Value} (hA : OwnF w0 w A n c e sz cs) (hB : OwnF v0 w B m k t sy ds) (hne : t ≠ e) : dj A B := fun g h1 h2 => by
  obtain ⟨rest, hb, _⟩ := Own.blk (h1 ▸ hA.own)
  obtain ⟨rest', hb', _⟩ := Own.blk (h2 ▸ hB.own)
  exact hne (hb'.uniq hb).1
section
variable {w0 w : World}
end
end Go.Proofs.YtcpdhclnmjfldaaGreat

/- Layer 21's reference, further: what arrives, the least and the greatest parcel. -/
namespace Go.Proofs.YtcpdhclnmjfldaaGreat
open Go Go.RowKit

def arrV2 (r : Reach) (v : Int) (b : Bool) : Int := if b then arrB r v else arrW r v
def lvV (r : Reach) (x : Int) (b : Bool) : Int := if b then lvB r x else lvW r x
def leastV (r : Reach) (x : Int) (b : Bool) : Int := if arrV2 r 1073741824 b < x then -1 else lvV r x b
theorem arrV2_mono {r : Reach} {b : Bool} (hl : lossOk r = true) {v v' : Int} (hv : 0 ≤ v) (h : v ≤ v') : arrV2 r v b ≤ arrV2 r v' b := by
  unfold arrV2
  cases b
  · exact arrW_mono hl hv h
  · exact arrB_mono hl hv h
theorem lvV_first {r : Reach} {b : Bool} {x : Int} (hl : lossOk r = true) : First (fun v => decide (x ≤ arrV2 r v b)) 0 1073741825 (lvV r x b) := by
  unfold lvV arrV2
  cases b
  · exact lvW_first hl
  · exact lvB_first hl
section
variable {w : World} {r : Reach}
theorem c_r21arrives {v : Int} {b : Bool} (hok : lossOk r = true) (hv : 0 ≤ v ∧ v ≤ 1073741824) : CallZ Tryz.prog 150 #[r.v, iv v, .bool b] w (fun u w' => u = iv (arrV2 r v b) ∧ Ext w w') := by
  refine fn_rule (args := [.agg #[.string r.name, iv r.up, iv r.delay, iv r.cap, iv r.bank, iv r.siphon, iv r.evap.lo, iv r.evap.hi, iv r.s0.n, iv r.s0.d, iv r.s1.n, iv r.s1.d], iv v, .bool b]) Tryz.func150 (by kernel_rfl) ?_
  refine box (fun g w1 h1 => ?_)
  refine ldA r.c (.blk h1.blk) rfl ?_
  refine call_of (c_r21lost (r := r) (v := v) hok hv) ?_
  rintro _ w2 ⟨rfl, x2⟩
  have hl := lost_le hok hv
  refine alloc (fun q w3 h3 => ?_)
  refine stA (vs := [iv _, iv _]) h3.blk rfl (Nat.le_of_ble_eq_true rfl) (by simp [Value.oneCell']) (fun w4 b4 k4 z4 => ?_)
  have e3 := h3.at_
  have z1 := h1.ext.size
  have z2 := x2.size
  have b4 : Blk w4 q 105 [iv (lostR r v).lo, iv (lostR r v).hi] := b4
  have xx : Ext w w4 := ((h1.ext.trans x2).trans h3.ext).then k4 fun b hb _ e => by omega
  cases b with
  | true =>
    refine fldA ?_
    refine ld (iv (lostR r v).lo) (b4.cell rfl) ?_
    refine arI (by omega) ?_
    exact ret1 (iv (v - (lostR r v).lo)) rfl ⟨rfl, xx⟩
  | false =>
    refine fldA ?_
    refine ld (iv (lostR r v).hi) (b4.cell rfl) ?_
    refine arI (by omega) ?_
    exact ret1 (iv (v - (lostR r v).hi)) rfl ⟨rfl, xx⟩
theorem c_r21Least {x : Int} {b : Bool} (hok : lossOk r = true) : CallZ Tryz.prog 142 #[r.v, iv x, .bool b] w (fun u w' => u = iv (leastV r x b) ∧ Ext w w') := by
  refine fn_rule (args := [.agg #[.string r.name, iv r.up, iv r.delay, iv r.cap, iv r.bank, iv r.siphon, iv r.evap.lo, iv r.evap.hi, iv r.s0.n, iv r.s0.d, iv r.s1.n, iv r.s1.d], iv x, .bool b]) Tryz.func142 (by kernel_rfl) ?_
  refine box (fun g w1 h1 => ?_)
  refine ldA r.c (.blk h1.blk) rfl ?_
  refine call_of (c_r21arrives (r := r) (v := 1073741824) (b := b) hok (by decide)) ?_
  rintro _ w2 ⟨rfl, x2⟩
  have x02 := h1.ext.trans x2
  refine cD (fun g1 => ?_) (fun g1 => ?_)
  · exact ret1 (iv (-1)) rfl ⟨by unfold leastV; rw [if_pos g1], x02⟩
  have hm : ∀ v v' : Int, 0 ≤ v → v ≤ v' → v' ≤ 1073741824 → (fun v => decide (x ≤ arrV2 r v b)) v = true → (fun v => decide (x ≤ arrV2 r v b)) v' = true := fun v v' h1 h2 _ h => by
    simp only [decide_eq_true_eq] at h ⊢
    have := arrV2_mono (b := b) hok h1 h2; omega
  refine loop_rule (fun s : Int × Int => [(7, iv s.1), (8, iv s.2)]) (fun s u => Ext w2 u ∧ Half (fun v => decide (x ≤ arrV2 r v b)) 0 1073741824 s.1 s.2) (fun s _ => (s.2 - s.1).toNat) (0, 1073741824) ⟨rfl, rfl, trivial⟩ ⟨.refl _ _, Half.start (by decide)⟩ rfl ?_
  rintro G ⟨lo, hi⟩ u ⟨xu, hh⟩
  have h1' := hh.a_lo
  have h2' := hh.lo_hi
  have h3' := hh.hi_b
  dsimp only at h1' h2' h3'
  refine cD (fun hlt => ?_) (fun hge => ?_)
  · refine arI (by omega) ?_
    refine quoI (by omega) (by omega) (by omega) ?_
    refine ldA r.c (.blk ((h1.blk.ext x2).ext xu)) rfl ?_
    obtain ⟨md, hmd⟩ : ∃ md, md = (lo + hi) / 2 := ⟨_, rfl⟩
    rw [← hmd]
    refine call_of (c_r21arrives (r := r) (v := md) (b := b) hok (by omega)) ?_
    rintro _ w3 ⟨rfl, x3⟩
    refine cD (fun g2 => ?_) (fun g2 => ?_)
    · refine next (lo, md) ⟨rfl, rfl, trivial⟩ ⟨xu.trans x3, hh.left (by omega) (by omega) (by simpa using g2)⟩ (by simp only; omega)
    · refine arI (by omega) ?_
      refine next (md + 1, hi) ⟨rfl, rfl, trivial⟩ ⟨xu.trans x3, hh.right hm (by omega) (by omega) (by simpa using g2)⟩ (by simp only; omega)
  · have hf := hh.done (by omega)
    have hf2 : First (fun v => decide (x ≤ arrV2 r v b)) 0 1073741825 lo := ⟨hf.le, by have := hf.ge; omega, hf.no, fun _ => by
      by_cases e : lo < 1073741824
      · exact hf.yes e
      · have : lo = 1073741824 := by have := hf.ge; omega
        rw [this]; simp only [decide_eq_true_eq]; omega⟩
    refine ret1 (iv lo) rfl ⟨?_, x02.trans xu⟩
    unfold leastV
    rw [if_neg g1, hf2.uniq (lvV_first hok)]
theorem c_r21find {x : Int} {b : Bool} : CallZ Tryz.prog 141 #[r.v, iv x, .bool b] w (fun u w' => u = .tuple #[iv (if lErr r x ≠ 0 then 0 else if leastV r x b < 0 then 0 else leastV r x b), .bool (if lErr r x ≠ 0 then false else decide (¬ leastV r x b < 0)), iv (lErr r x)] ∧ Ext w w') := by
  refine fn_rule (args := [.agg #[.string r.name, iv r.up, iv r.delay, iv r.cap, iv r.bank, iv r.siphon, iv r.evap.lo, iv r.evap.hi, iv r.s0.n, iv r.s0.d, iv r.s1.n, iv r.s1.d], iv x, .bool b]) Tryz.func141 (by kernel_rfl) ?_
  refine box (fun g w1 h1 => ?_)
  refine ldA r.c (.blk h1.blk) rfl ?_
  refine callE (c_r21Right (r := r)) (fun w2 hok x2 => ?_) (fun w2 hok x2 => ?_)
  rotate_left
  · have he : lErr r x = 210 := by unfold lErr; rw [if_pos hok]
    exact ret3 (iv 0) (.bool false) (iv 210) rfl rfl rfl ⟨by rw [he]; rfl, h1.ext.trans x2⟩
  have bad : ∀ (hv : ¬ (0 ≤ x ∧ x ≤ 1073741824)), lErr r x = 1 := fun hv => by unfold lErr; rw [if_neg (by rw [hok]; simp), if_pos (inI_not.2 hv)]
  refine cD (fun g1 => ?_) (fun g1 => ?_)
  · exact ret3 (iv 0) (.bool false) (iv 1) rfl rfl rfl ⟨by rw [bad (by omega)]; rfl, h1.ext.trans x2⟩
  refine cD (fun g2 => ?_) (fun g2 => ?_)
  · exact ret3 (iv 0) (.bool false) (iv 1) rfl rfl rfl ⟨by rw [bad (by omega)]; rfl, h1.ext.trans x2⟩
  have he : lErr r x = 0 := lErr_ok.2 ⟨hok, by omega, by omega⟩
  refine ldA r.c (.blk (h1.blk.ext x2)) rfl ?_
  refine call_of (c_r21Least (r := r) (x := x) (b := b) hok) ?_
  rintro _ w3 ⟨rfl, x3⟩
  have xx := (h1.ext.trans x2).trans x3
  refine cD (fun g3 => ?_) (fun g3 => ?_)
  · exact ret3 (iv 0) (.bool false) (iv 0) rfl rfl rfl ⟨by rw [he, if_neg (show ¬ (0 : Int) ≠ 0 by simp), if_neg (show ¬ (0 : Int) ≠ 0 by simp), if_pos g3, decide_eq_false (fun h => h g3)], xx⟩
  · exact ret3 (iv (leastV r x b)) (.bool true) (iv 0) rfl rfl rfl ⟨by rw [he, if_neg (show ¬ (0 : Int) ≠ 0 by simp), if_neg (show ¬ (0 : Int) ≠ 0 by simp), if_neg g3, decide_eq_true g3], xx⟩
theorem lv_least {x : Int} {b : Bool} (hok : lossOk r = true) : (leastV r x b < 0 ↔ lvV r x b > 1073741824) ∧ (¬ leastV r x b < 0 → leastV r x b = lvV r x b) := by
  have hf := lvV_first (b := b) (x := x) hok
  unfold leastV
  have hle := hf.le
  have hge := hf.ge
  by_cases h : arrV2 r 1073741824 b < x
  · rw [if_pos h]
    refine ⟨⟨fun _ => ?_, fun _ => by omega⟩, fun h => absurd (by omega) h⟩
    by_cases q : lvV r x b > 1073741824
    · exact q
    exfalso
    have h1 := hf.yes (by omega)
    simp only [decide_eq_true_eq] at h1
    have := arrV2_mono (b := b) hok hle (show lvV r x b ≤ 1073741824 by omega)
    omega
  · rw [if_neg h]
    refine ⟨⟨fun h => by omega, fun q => ?_⟩, fun _ => rfl⟩
    exfalso
    have := hf.no 1073741824 (by omega) (by omega)
    simp only [decide_eq_false_iff_not] at this
    omega
theorem c_r21Reach {x : Int} : CallZ Tryz.prog 120 #[r.v, iv x] w (fun u w' => u = .tuple #[iv (reachV r x).1, .bool (reachV r x).2, iv (lErr r x)] ∧ Ext w w') := by
  refine fn_rule (args := [.agg #[.string r.name, iv r.up, iv r.delay, iv r.cap, iv r.bank, iv r.siphon, iv r.evap.lo, iv r.evap.hi, iv r.s0.n, iv r.s0.d, iv r.s1.n, iv r.s1.d], iv x]) Tryz.func120 (by kernel_rfl) ?_
  refine box (fun g w1 h1 => ?_)
  refine ldA r.c (.blk h1.blk) rfl ?_
  refine call_of (c_r21find (r := r) (x := x) (b := true)) ?_
  rintro _ w2 ⟨rfl, x2⟩
  refine ret3 (iv _) (.bool _) (iv _) rfl rfl rfl ⟨?_, h1.ext.trans x2⟩
  unfold reachV
  by_cases he : lErr r x = 0
  · have hn : ¬ lErr r x ≠ 0 := fun h => h he
    rw [if_neg hn, if_neg hn, if_neg hn]
    have hl := lv_least (x := x) (b := true) (lErr_ok.1 he).1
    by_cases h : leastV r x true < 0
    · rw [if_pos h, decide_eq_false (fun q => q h), if_pos (show lvB r x > 1073741824 from hl.1.1 h)]
    · rw [if_neg h, decide_eq_true h, if_neg (show ¬ lvB r x > 1073741824 from fun q => h (hl.1.2 q)), hl.2 h]; rfl
  · rw [if_pos he, if_pos he, if_pos he]
theorem c_r21Most {x : Int} : CallZ Tryz.prog 121 #[r.v, iv x] w (fun u w' => u = .tuple #[iv (mostV r x), iv (lErr r x)] ∧ Ext w w') := by
  refine fn_rule (args := [.agg #[.string r.name, iv r.up, iv r.delay, iv r.cap, iv r.bank, iv r.siphon, iv r.evap.lo, iv r.evap.hi, iv r.s0.n, iv r.s0.d, iv r.s1.n, iv r.s1.d], iv x]) Tryz.func121 (by kernel_rfl) ?_
  refine box (fun g w1 h1 => ?_)
  refine ldA r.c (.blk h1.blk) rfl ?_
  refine call_of (c_r21find (r := r) (x := x) (b := false)) ?_
  rintro _ w2 ⟨rfl, x2⟩
  refine cN (fun he => ?_) (fun he => ?_)
  · exact ret2 (iv 0) (iv (lErr r x)) rfl rfl ⟨by unfold mostV; rw [if_pos he], h1.ext.trans x2⟩
  have he : lErr r x = 0 := he
  obtain ⟨hok, hx⟩ := lErr_ok.1 he
  refine ldA r.c (.blk (h1.blk.ext x2)) rfl ?_
  refine arI (by omega) ?_
  refine call_of (c_r21Least (r := r) (x := x + 1) (b := false) hok) ?_
  rintro _ w3 ⟨rfl, x3⟩
  have hl := lv_least (x := x + 1) (b := false) hok
  have hf := lvW_first (w := x + 1) hok
  have hle := hf.le
  have hge := hf.ge
  have xx := (h1.ext.trans x2).trans x3
  refine cD (fun g3 => ?_) (fun g3 => ?_)
  · have : lvW r (x + 1) > 1073741824 := hl.1.1 g3
    exact ret2 (iv 1073741824) (iv 0) rfl rfl ⟨by unfold mostV; rw [if_neg (by simp [he]), he, show lvW r (x + 1) - 1 = 1073741824 by omega], xx⟩
  · rw [hl.2 g3]
    have e : lvV r (x + 1) false = lvW r (x + 1) := rfl
    refine arI (by rw [e]; omega) ?_
    exact ret2 (iv (lvW r (x + 1) - 1)) (iv 0) rfl rfl ⟨by unfold mostV; rw [if_neg (by simp [he]), he], xx⟩
end
end Go.Proofs.YtcpdhclnmjfldaaGreat

/- Layer 48's reference: Check, Set, asked. -/
namespace Go.Proofs.YtcpdhclnmjfldaaGreat
open Go Go.RowKit

theorem take_all {α : Type} {p : α → Bool} {xs : List α} {k : Nat} {y : α} (hy : xs[k]? = some y) (h : (xs.take k).all p = true) (hp : p y = true) : (xs.take (k + 1)).all p = true := by
  rw [List.take_add_one, hy, List.all_append, h]; simp [hp]
theorem all_not {α : Type} {p : α → Bool} {xs : List α} {k : Nat} {y : α} (hy : xs[k]? = some y) (hp : p y = false) : xs.all p = false := by
  cases h : xs.all p with
  | false => rfl
  | true => rw [List.all_eq_true.1 h y (List.mem_of_getElem? hy)] at hp; cases hp
section
variable {D : Nat → Prop} {w : World}
theorem c_r48ranges {xs : List Rg} {m : Nat} {k : Int} {A : Option Addr} {n c : Nat} (h : SlR tRg D w A n xs) (hk : k = (m : Int)) : CallZ Tryz.prog 118 #[.slice A n c, iv k] w (fun v w' => v = .bool (rgsB m xs) ∧ w' = w) := by
  refine fn_rule (args := [.slice A n c, iv k]) Tryz.func118 (by kernel_rfl) ?_
  have hl := h.len
  have hle := h.le
  refine len ?_
  refine cN (fun h1 => ?_) (fun h1 => ?_)
  · exact ret1 (.bool false) rfl ⟨by unfold rgsB; rw [decide_eq_false (by omega)]; rfl, rfl⟩
  have e : rgsB m xs = xs.all rgP := by unfold rgsB; rw [decide_eq_true (by omega)]; rfl
  rw [e]
  refine loop_rule (fun k : Nat => [(5, iv (k : Int))]) (fun k u => k ≤ n ∧ w = u ∧ (xs.take k).all rgP = true) (fun k _ => n - k) 0 ⟨rfl, trivial⟩ ⟨by omega, rfl, rfl⟩ rfl ?_
  rintro G k u ⟨hk, rfl, hall⟩
  refine len ?_
  refine cD (fun hlt => ?_) (fun hge => ?_)
  · have hlt : k < n := by omega
    obtain ⟨b, o, cs, y, rfl, hy, -, -, hc, rfl⟩ := h.at_ hlt
    have bad : rgP y = false → Value.bool false = .bool (xs.all rgP) := fun q => by rw [all_not hy q]
    have no : ¬ (0 ≤ y.lo ∧ y.lo ≤ y.hi ∧ y.hi ≤ 1073741824) → rgP y = false := fun q => by
      cases hb : rgP y with
      | false => rfl
      | true => exact absurd (rgOk_iff.1 hb) q
    refine drawQ mx (by kernel_rfl) ?_
    refine idx k rfl hlt ?_
    refine fldA ?_
    refine ld (iv y.lo) (hc 0 _ rfl) ?_
    refine cD (fun g1 => ?_) (fun g1 => ?_)
    · exact ret1 (.bool false) rfl ⟨bad (no (by omega)), rfl⟩
    refine idx k rfl hlt ?_
    refine fldA ?_
    refine ld (iv y.lo) (hc 0 _ rfl) ?_
    refine idx k rfl hlt ?_
    refine fldA ?_
    refine ld (iv y.hi) (hc 1 _ rfl) ?_
    refine cD (fun g2 => ?_) (fun g2 => ?_)
    · exact ret1 (.bool false) rfl ⟨bad (no (by omega)), rfl⟩
    refine idx k rfl hlt ?_
    refine fldA ?_
    refine ld (iv y.hi) (hc 1 _ rfl) ?_
    refine cD (fun g3 => ?_) (fun g3 => ?_)
    · exact ret1 (.bool false) rfl ⟨bad (no (by omega)), rfl⟩
    refine arI (by omega) ?_
    exact next (k + 1) ⟨by rw [Int.natCast_add]; rfl, trivial⟩ ⟨by omega, rfl, take_all hy hall (rgOk_iff.2 (by omega))⟩ (by omega)
  · rw [List.take_of_length_le (by omega)] at hall
    exact ret1 (.bool true) rfl ⟨by rw [hall], rfl⟩
/-- The hour before a wave. -/
def lastH (l : List Wv) (k : Nat) : Int := if k = 0 then -1 else match l[k - 1]? with | some v => v.hour | none => -1
theorem lastH_succ {l : List Wv} {k : Nat} {v : Wv} (h : l[k]? = some v) : lastH l (k + 1) = v.hour := by unfold lastH; rw [if_neg (by omega), Nat.add_sub_cancel, h]
set_option maxRecDepth 4000 in
theorem c_r48waves {csd : List Value} {d : Dist} {l : List Wv} {A : Option Addr} {n c : Nat} (hd : DiR D w csd d) (hl : SlR tWv D w A n l) : CallZ Tryz.prog 95 #[.agg csd.toArray, .slice A n c] w (fun v w' => v = .bool (wavesB d (-1) l) ∧ Ext w w') := by
  obtain ⟨A1, n1, c1, A2, n2, c2, A3, n3, c3, A4, n4, c4, A5, n5, c5, A6, n6, c6, rfl, hr, hf, -⟩ := hd.ex
  have hrl := hr.len
  have hfl := hf.len
  have hle := hl.le
  have hln := hl.len
  refine fn_rule (args := [.agg #[.string d.name, iv d.hours, iv d.cap, iv d.start, .slice A1 n1 c1, .slice A2 n2 c2, .slice A3 n3 c3, .slice A4 n4 c4, .slice A5 n5 c5, .slice A6 n6 c6], .slice A n c]) Tryz.func95 (by kernel_rfl) ?_
  refine box (fun bd w1 i1 => ?_)
  refine loop_rule (fun k : Nat => [(5, iv (k : Int))]) (fun k u => k ≤ n ∧ Ext w1 u ∧ wavesB d (-1) l = wavesB d (lastH l k) (l.drop k) ∧ (k = 0 ∨ 0 ≤ lastH l k)) (fun k _ => n - k) 0 ⟨rfl, trivial⟩ ⟨by omega, .refl _ _, rfl, .inl rfl⟩ rfl ?_
  rintro G k u ⟨hk, xu, he, hlast⟩
  refine len ?_
  refine cD (fun hlt => ?_) (fun hge => ?_)
  · have hlt : k < n := by omega
    have hlu := (hl.ext i1.ext).ext xu
    have Bdu := i1.blk.ext xu
    obtain ⟨b, o, cs, v, rfl, hv, hdrop, -, hc, hrep⟩ := hlu.at_ hlt
    obtain ⟨H1, h1, k1, O1, o1, k2, T1, t1, k3, rfl, hi64, r1, r2, r3⟩ := wv_open hrep
    rw [hdrop] at he
    have bad : ∀ {u'}, Ext u u' → waveB d (lastH l k) v = false → Value.bool false = .bool (wavesB d (-1) l) ∧ Ext w u' := fun x h => ⟨by rw [he, wavesB, h]; rfl, (i1.ext.trans xu).trans x⟩
    refine idx k rfl hlt ?_
    refine ldA [iv v.hour, .slice H1 h1 k1, .slice O1 o1 k2, .slice T1 t1 k3] hc rfl ?_
    refine alloc (fun q u1 a1 => ?_)
    refine stA (vs := [iv v.hour, .slice H1 h1 k1, .slice O1 o1 k2, .slice T1 t1 k3]) a1.blk rfl (Nat.le_of_ble_eq_true rfl) (by simp [Value.oneCell']) (fun u2 b2 kk2 z2 => ?_)
    have b2 : Blk u2 q 92 [iv v.hour, .slice H1 h1 k1, .slice O1 o1 k2, .slice T1 t1 k3] := b2
    have ea := a1.at_
    have x2 : Ext u u2 := a1.ext.then kk2 fun b hb _ e => by omega
    refine drawQ mx (by kernel_rfl) ?_
    refine fldA ?_
    refine ld (iv v.hour) (b2.cell rfl) ?_
    have f1 : ¬ (lastH l k < v.hour ∧ v.hour < d.hours) → waveB d (lastH l k) v = false := fun h => by
      unfold waveB
      by_cases e1 : lastH l k < v.hour
      · rw [decide_eq_true e1, decide_eq_false (fun e2 => h ⟨e1, e2⟩)]; rfl
      · rw [decide_eq_false e1]; rfl
    have l0 : k = 0 → lastH l k = -1 := fun e => by unfold lastH; rw [if_pos e]
    have hneg : v.hour < 0 → lastH l k < v.hour → False := fun a1 a2 => by
      rcases hlast with h0 | h0
      · have := l0 h0; omega
      · omega
    refine cD (fun g1 => ?_) (fun g1 => ?_)
    · exact ret1 (.bool false) rfl (bad x2 (f1 fun h => hneg g1 h.1))
    refine fldA ?_
    refine ld (iv v.hour) (b2.cell rfl) ?_
    refine fldA ?_
    refine ld (iv d.hours) ((Bdu.ext x2).cell rfl) ?_
    refine cD (fun g2 => ?_) (fun g2 => ?_)
    · exact ret1 (.bool false) rfl (bad x2 (f1 fun h => by omega))
    have hll := hlu.ext x2
    refine cD (fun g3 => ?pos3) (fun g3 => ?neg3)
    case' pos3 =>
      have hk0 : 0 < k := by omega
      obtain ⟨b', o', cs', v', e', hv', -, -, hc', hrep'⟩ := hll.at_ (k := k - 1) (by omega)
      simp only [Option.some.injEq, Addr.mk.injEq] at e'
      obtain ⟨rfl, rfl, -⟩ := e'
      obtain ⟨H1', h1', k1', O1', o1', k2', T1', t1', k3', rfl, -⟩ := wv_open hrep'
      have hlv : lastH l k = v'.hour := by have := lastH_succ hv'; rwa [Nat.sub_add_cancel hk0] at this
      refine fldA ?_
      refine ld (iv v.hour) (b2.cell rfl) ?_
      refine arI (by omega) ?_
      refine idx (k - 1) (by omega) (by omega) ?_
      refine fldA ?_
      refine ld (iv v'.hour) (hc' 0 _ rfl) ?_
      refine cD (fun g4 => ?bad4) (fun g4 => ?neg4)
      case bad4 => exact ret1 (.bool false) rfl (bad x2 (f1 fun h => by omega))
      have ok1 : lastH l k < v.hour ∧ v.hour < d.hours := ⟨by omega, by omega⟩
    case' neg3 => have ok1 : lastH l k < v.hour ∧ v.hour < d.hours := ⟨by have := l0 (by omega); omega, by omega⟩
    all_goals
      refine fldA ?_
      refine ld (.slice H1 h1 k1) (b2.cell rfl) ?_
      refine fldA ?_
      refine ld (.slice A1 n1 c1) ((Bdu.ext x2).cell rfl) ?_
      refine len ?_
      refine callB (c_r48ranges (m := d.reaches.length) (r1.ext x2) (by omega)) (fun q1 => ?_) (fun q1 => ?_)
      rotate_left
      · exact ret1 (.bool false) rfl (bad x2 (by unfold waveB; rw [q1]; simp))
      refine fldA ?_
      refine ld (.slice T1 t1 k3) (b2.cell rfl) ?_
      refine fldA ?_
      refine ld (.slice A1 n1 c1) ((Bdu.ext x2).cell rfl) ?_
      refine len ?_
      refine callB (c_r48ranges (m := d.reaches.length) (r3.ext x2) (by omega)) (fun q2 => ?_) (fun q2 => ?_)
      rotate_left
      · exact ret1 (.bool false) rfl (bad x2 (by unfold waveB; rw [q2]; simp))
      refine fldA ?_
      refine ld (.slice O1 o1 k2) (b2.cell rfl) ?_
      refine fldA ?_
      refine ld (.slice A2 n2 c2) ((Bdu.ext x2).cell rfl) ?_
      refine len ?_
      refine callB (c_r48ranges (m := d.farms.length) (r2.ext x2) (by omega)) (fun q3 => ?_) (fun q3 => ?_)
      rotate_left
      · exact ret1 (.bool false) rfl (bad x2 (by unfold waveB; rw [q3]; simp))
      refine arI (by omega) ?_
      refine next (k + 1) ⟨by rw [Int.natCast_add]; rfl, trivial⟩ ⟨by omega, xu.trans x2, ?_, .inr (by rw [lastH_succ hv]; omega)⟩ (by omega)
      have hw : waveB d (lastH l k) v = true := by unfold waveB; rw [q1, q2, q3, decide_eq_true ok1.1, decide_eq_true ok1.2]; rfl
      rw [he, wavesB, hw, lastH_succ hv]; rfl
  · rw [List.drop_of_length_le (by omega)] at he
    exact ret1 (.bool true) rfl ⟨by rw [he]; rfl, i1.ext.trans xu⟩
end
end Go.Proofs.YtcpdhclnmjfldaaGreat

/- Layer 48's reference: suspects, Check, Set, asked. -/
namespace Go.Proofs.YtcpdhclnmjfldaaGreat
open Go Go.RowKit

/-- The suspect before a suspect. -/
def lastK (l : List Su) (k : Nat) : Int × Int := if k = 0 then (0, -1) else match l[k - 1]? with | some s => suKey s | none => (0, -1)
theorem lastK_succ {l : List Su} {k : Nat} {s : Su} (h : l[k]? = some s) : lastK l (k + 1) = suKey s := by unfold lastK; rw [if_neg (by omega), Nat.add_sub_cancel, h]
section
variable {D : Nat → Prop} {w : World}
set_option maxRecDepth 4000 in
theorem c_r48suspects {csd : List Value} {d : Dist} {l : List Su} {A : Option Addr} {n c : Nat} (hd : DiR D w csd d) (hl : SlR tSu D w A n l) : CallZ Tryz.prog 96 #[.agg csd.toArray, .slice A n c] w (fun v w' => v = .bool (susB d (0, -1) l) ∧ Ext w w') := by
  obtain ⟨A1, n1, c1, A2, n2, c2, A3, n3, c3, A4, n4, c4, A5, n5, c5, A6, n6, c6, rfl, hr, hf, -⟩ := hd.ex
  have hrl := hr.len
  have hfl := hf.len
  have hle := hl.le
  have hln := hl.len
  refine fn_rule (args := [.agg #[.string d.name, iv d.hours, iv d.cap, iv d.start, .slice A1 n1 c1, .slice A2 n2 c2, .slice A3 n3 c3, .slice A4 n4 c4, .slice A5 n5 c5, .slice A6 n6 c6], .slice A n c]) Tryz.func96 (by kernel_rfl) ?_
  refine box (fun bd w1 i1 => ?_)
  refine loop_rule (fun k : Nat => [(5, iv (k : Int))]) (fun k u => k ≤ n ∧ Ext w1 u ∧ susB d (0, -1) l = susB d (lastK l k) (l.drop k)) (fun k _ => n - k) 0 ⟨rfl, trivial⟩ ⟨by omega, .refl _ _, rfl⟩ rfl ?_
  rintro G k u ⟨hk, xu, he⟩
  refine len ?_
  refine cD (fun hlt => ?_) (fun hge => ?_)
  · have hlt : k < n := by omega
    have hlu := (hl.ext i1.ext).ext xu
    have Bdu := i1.blk.ext xu
    obtain ⟨b, o, cs, s, rfl, hv, hdrop, -, hc, rfl⟩ := hlu.at_ hlt
    rw [hdrop] at he
    have bad : ∀ {u'}, Ext u u' → ¬ ((0 ≤ s.index ∧ s.index < manyN d s.kind) ∧ (1 ≤ s.most ∧ s.most ≤ 1073741824) ∧ lexLt (lastK l k) (suKey s)) → Value.bool false = .bool (susB d (0, -1) l) ∧ Ext w u' := fun x h => ⟨by
      have : suB d (lastK l k) s = false := by
        cases hb : suB d (lastK l k) s with
        | false => rfl
        | true => exact absurd (suB_iff.1 hb) h
      rw [he, susB, this]; rfl, (i1.ext.trans xu).trans x⟩
    refine idx k rfl hlt ?_
    refine ldA s.c hc rfl ?_
    refine alloc (fun q u1 a1 => ?_)
    refine stA (vs := s.c) a1.blk rfl (Nat.le_of_ble_eq_true rfl) (by simp [Value.oneCell']) (fun u2 b2 kk2 z2 => ?_)
    have b2 : Blk u2 q 112 s.c := b2
    have ea := a1.at_
    have x2 : Ext u u2 := a1.ext.then kk2 fun b hb _ e => by omega
    have hll := hlu.ext x2
    have mno : ¬ (1 ≤ s.kind ∧ s.kind ≤ 4) → manyN d s.kind = 0 := fun h => by unfold manyN; rw [if_neg (by omega), if_neg (by omega)]
    refine fldA ?_
    refine ld (.slice A1 n1 c1) ((Bdu.ext x2).cell rfl) ?_
    refine len ?_
    refine fldA ?_
    refine ld (iv s.kind) (b2.cell rfl) ?_
    refine cE (fun g0 => ?pos0) (fun g0 => ?neg0)
    case' pos0 =>
      have hM : (1 ≤ s.kind ∧ s.kind ≤ 4) → manyN d s.kind = (n2 : Int) := fun h => by unfold manyN; rw [if_neg (by omega), if_pos g0]; omega
      refine fldA ?_
      refine ld (.slice A2 n2 c2) ((Bdu.ext x2).cell rfl) ?_
      refine len ?_
    case' neg0 =>
      have hM : (1 ≤ s.kind ∧ s.kind ≤ 4) → manyN d s.kind = (n1 : Int) := fun h => by unfold manyN; rw [if_pos (by omega)]; omega
    all_goals
      refine fldA ?_
      refine ld (iv s.kind) (b2.cell rfl) ?_
      refine cD (fun g1 => ?_) (fun g1 => ?_)
      · exact ret1 (.bool false) rfl (bad x2 fun h => by have := mno (by omega); omega)
      refine fldA ?_
      refine ld (iv s.kind) (b2.cell rfl) ?_
      refine cD (fun g2 => ?_) (fun g2 => ?_)
      · exact ret1 (.bool false) rfl (bad x2 fun h => by have := mno (by omega); omega)
      have hM := hM ⟨by omega, by omega⟩
      refine fldA ?_
      refine ld (iv s.index) (b2.cell rfl) ?_
      refine cD (fun g3 => ?_) (fun g3 => ?_)
      · exact ret1 (.bool false) rfl (bad x2 fun h => by omega)
      refine fldA ?_
      refine ld (iv s.index) (b2.cell rfl) ?_
      refine cD (fun g4 => ?_) (fun g4 => ?_)
      · exact ret1 (.bool false) rfl (bad x2 fun h => by omega)
      refine fldA ?_
      refine ld (iv s.most) (b2.cell rfl) ?_
      refine cD (fun g5 => ?_) (fun g5 => ?_)
      · exact ret1 (.bool false) rfl (bad x2 fun h => by omega)
      refine fldA ?_
      refine ld (iv s.most) (b2.cell rfl) ?_
      refine cD (fun g6 => ?_) (fun g6 => ?_)
      · exact ret1 (.bool false) rfl (bad x2 fun h => by omega)
      have fin : lexLt (lastK l k) (suKey s) → susB d (0, -1) l = susB d (lastK l (k + 1)) (l.drop (k + 1)) := fun h => by
        have : suB d (lastK l k) s = true := suB_iff.2 ⟨⟨by omega, by omega⟩, ⟨by omega, by omega⟩, h⟩
        rw [he, susB, this, lastK_succ hv]; rfl
      refine drawQ mx (by kernel_rfl) ?_
      refine cD (fun g7 => ?_) (fun g7 => ?_)
      rotate_left
      · have ok := fin (by have : k = 0 := by omega
                           unfold lastK lexLt; rw [if_pos this]; show (0 : Int) < s.kind ∨ _; omega)
        refine arI (by omega) ?_
        exact next (k + 1) ⟨by rw [Int.natCast_add]; rfl, trivial⟩ ⟨by omega, xu.trans x2, ok⟩ (by omega)
      have hk0 : 0 < k := by omega
      obtain ⟨b', o', cs', s', e', hv', -, -, hc', rfl⟩ := hll.at_ (k := k - 1) (by omega)
      simp only [Option.some.injEq, Addr.mk.injEq] at e'
      obtain ⟨rfl, rfl, -⟩ := e'
      have hlv : lastK l k = suKey s' := by have := lastK_succ hv'; rwa [Nat.sub_add_cancel hk0] at this
      have lx : lexLt (lastK l k) (suKey s) ↔ s'.kind < s.kind ∨ (s'.kind = s.kind ∧ s'.index < s.index) := by rw [hlv]; exact Iff.rfl
      refine fldA ?_
      refine ld (iv s.kind) (b2.cell rfl) ?_
      refine arI (by omega) ?_
      refine idx (k - 1) (by omega) (by omega) ?_
      refine fldA ?_
      refine ld (iv s'.kind) (hc' 0 _ rfl) ?_
      refine cD (fun g8 => ?_) (fun g8 => ?_)
      · exact ret1 (.bool false) rfl (bad x2 fun h => by have := lx.1 h.2.2; omega)
      refine fldA ?_
      refine ld (iv s.kind) (b2.cell rfl) ?_
      refine arI (by omega) ?_
      refine idx (k - 1) (by omega) (by omega) ?_
      refine fldA ?_
      refine ld (iv s'.kind) (hc' 0 _ rfl) ?_
      refine cE (fun g9 => ?_) (fun g9 => ?_)
      rotate_left
      · have ok := fin (lx.2 (by omega))
        refine arI (by omega) ?_
        exact next (k + 1) ⟨by rw [Int.natCast_add]; rfl, trivial⟩ ⟨by omega, xu.trans x2, ok⟩ (by omega)
      refine fldA ?_
      refine ld (iv s.index) (b2.cell rfl) ?_
      refine arI (by omega) ?_
      refine idx (k - 1) (by omega) (by omega) ?_
      refine fldA ?_
      refine ld (iv s'.index) (hc' 1 _ rfl) ?_
      refine cD (fun g10 => ?_) (fun g10 => ?_)
      · exact ret1 (.bool false) rfl (bad x2 fun h => by have := lx.1 h.2.2; omega)
      have ok := fin (lx.2 (by omega))
      refine arI (by omega) ?_
      exact next (k + 1) ⟨by rw [Int.natCast_add]; rfl, trivial⟩ ⟨by omega, xu.trans x2, ok⟩ (by omega)
  · rw [List.drop_of_length_le (by omega)] at he
    exact ret1 (.bool true) rfl ⟨by rw [he]; rfl, i1.ext.trans xu⟩
theorem c_r48Check {csd csx : List Value} {d : Dist} {x : Ev} (hd : DiR D w csd d) (hx : EvR D w csx x) : CallZ Tryz.prog 64 #[.agg csd.toArray, .agg csx.toArray] w (fun v w' => v = iv (evErr d x) ∧ Ext w w') := by
  obtain ⟨A1, n1, c1, A2, n2, c2, A3, n3, c3, A4, n4, c4, A5, n5, c5, A6, n6, c6, rfl, -⟩ := hd.ex
  obtain ⟨W1, m1, e1, S1, m2, e2, rfl, hwv, hsu, -⟩ := hx.ex
  have lw := hwv.len
  have ls := hsu.len
  refine fn_rule (args := [.agg #[.string d.name, iv d.hours, iv d.cap, iv d.start, .slice A1 n1 c1, .slice A2 n2 c2, .slice A3 n3 c3, .slice A4 n4 c4, .slice A5 n5 c5, .slice A6 n6 c6], .agg #[.slice W1 m1 e1, .slice S1 m2 e2]]) Tryz.func64 (by kernel_rfl) ?_
  refine box (fun bd w1 i1 => ?_)
  refine box (fun bx w2 i2 => ?_)
  have x2 := i1.ext.trans i2.ext
  have Bd : Blk w2 bd 31 [.string d.name, iv d.hours, iv d.cap, iv d.start, .slice A1 n1 c1, .slice A2 n2 c2, .slice A3 n3 c3, .slice A4 n4 c4, .slice A5 n5 c5, .slice A6 n6 c6] := i1.blk.ext i2.ext
  have Bx : Blk w2 bx 35 [.slice W1 m1 e1, .slice S1 m2 e2] := i2.blk
  refine ldA [.string d.name, iv d.hours, iv d.cap, iv d.start, .slice A1 n1 c1, .slice A2 n2 c2, .slice A3 n3 c3, .slice A4 n4 c4, .slice A5 n5 c5, .slice A6 n6 c6] (.blk Bd) rfl ?_
  refine call_of (c_r19Check (hd.ext x2)) ?_
  rintro _ w3 ⟨rfl, x3⟩
  have x03 := x2.trans x3
  refine cN (fun h0 => ?_) (fun h0 => ?_)
  · exact ret1 (iv (dErr d)) rfl ⟨by unfold evErr; rw [if_pos h0], x03⟩
  have h0 : dErr d = 0 := h0
  refine fldA ?_
  refine ld (.slice W1 m1 e1) ((Bx.ext x3).cell rfl) ?_
  refine len ?_
  have two : (x.waves.length > 24 ∨ x.suspects.length > 12) → iv 2 = iv (evErr d x) := fun h => by unfold evErr; rw [if_neg (by simp [h0]), if_pos h]
  refine cD (fun h1 => ?_) (fun h1 => ?_)
  · exact ret1 (iv 2) rfl ⟨two (by omega), x03⟩
  refine fldA ?_
  refine ld (.slice S1 m2 e2) ((Bx.ext x3).cell rfl) ?_
  refine len ?_
  refine cD (fun h2 => ?_) (fun h2 => ?_)
  · exact ret1 (iv 2) rfl ⟨two (by omega), x03⟩
  have ev : evErr d x = if wavesB d (-1) x.waves && susB d (0, -1) x.suspects then 0 else 480 := by unfold evErr; rw [if_neg (by simp [h0]), if_neg (by omega)]
  rw [ev]
  refine ldA [.string d.name, iv d.hours, iv d.cap, iv d.start, .slice A1 n1 c1, .slice A2 n2 c2, .slice A3 n3 c3, .slice A4 n4 c4, .slice A5 n5 c5, .slice A6 n6 c6] (.blk (Bd.ext x3)) rfl ?_
  refine fldA ?_
  refine ld (.slice W1 m1 e1) ((Bx.ext x3).cell rfl) ?_
  refine callE (c_r48waves (hd.ext x03) (hwv.ext x03)) (fun w4 q4 x4 => ?_) (fun w4 q4 x4 => ?_)
  rotate_left
  · exact ret1 (iv 480) rfl ⟨by rw [q4]; rfl, x03.trans x4⟩
  refine ldA [.string d.name, iv d.hours, iv d.cap, iv d.start, .slice A1 n1 c1, .slice A2 n2 c2, .slice A3 n3 c3, .slice A4 n4 c4, .slice A5 n5 c5, .slice A6 n6 c6] (.blk ((Bd.ext x3).ext x4)) rfl ?_
  refine fldA ?_
  refine ld (.slice S1 m2 e2) (((Bx.ext x3).ext x4).cell rfl) ?_
  refine callE (c_r48suspects (hd.ext (x03.trans x4)) (hsu.ext (x03.trans x4))) (fun w5 q5 x5 => ?_) (fun w5 q5 x5 => ?_)
  · exact ret1 (iv 0) rfl ⟨by rw [q4, q5]; rfl, (x03.trans x4).trans x5⟩
  · exact ret1 (iv 480) rfl ⟨by rw [q4, q5]; rfl, (x03.trans x4).trans x5⟩
/-- The number before a number of a set. -/
def lastI (l : List Int) (k : Nat) : Int := if k = 0 then -1 else match l[k - 1]? with | some s => s | none => -1
theorem lastI_succ {l : List Int} {k : Nat} {s : Int} (h : l[k]? = some s) : lastI l (k + 1) = s := by unfold lastI; rw [if_neg (by omega), Nat.add_sub_cancel, h]
end
end Go.Proofs.YtcpdhclnmjfldaaGreat

/- Layer 48's reference: most, True, leaves. -/
namespace Go.Proofs.YtcpdhclnmjfldaaGreat
open Go Go.RowKit

/-- Most of the suspect of a kind and an index in a set; -1 if there is none. -/
def mostN (bl : Int × Int → Option Int) (kind index : Int) : Int := match bl (kind, index) with | some n => n | none => -1
theorem meter_most {bl : Int × Int → Option Int} {kind index : Int} {y : Rg} (hb : ∀ key n, bl key = some n → 1 ≤ n ∧ n ≤ 1073741824) : meterV bl kind index y = if 0 ≤ mostN bl kind index then ⟨0, max (mostN bl kind index) y.hi⟩ else y := by
  unfold meterV mostN
  cases h : bl (kind, index) with
  | none => rw [if_neg (by decide)]
  | some n => have := hb _ _ h; rw [if_pos (by show 0 ≤ n; omega)]
theorem most_b {bl : Int × Int → Option Int} {kind index : Int} (hb : ∀ key n, bl key = some n → 1 ≤ n ∧ n ≤ 1073741824) : -1 ≤ mostN bl kind index ∧ mostN bl kind index ≤ 1073741824 := by
  unfold mostN
  cases h : bl (kind, index) with
  | none => exact ⟨by decide, by decide⟩
  | some n => have := hb _ _ h; exact ⟨by show -1 ≤ n; omega, by show n ≤ _; omega⟩
theorem bl_cons {x : Ev} {i : Int} {l : List Int} (key : Int × Int) : blF x (i :: l) key = if suKey (suAt x i) = key then some (suAt x i).most else blF x l key := by
  unfold blF
  rw [List.findSome?_cons]
  by_cases h : suKey (suAt x i) = key
  · rw [if_pos h, if_pos h]
  · rw [if_neg h, if_neg h]
section
variable {D : Nat → Prop} {w : World}
theorem c_r48most {csx : List Value} {x : Ev} {set : List Int} {A : Option Addr} {n c : Nat} {kind index : Int} (hx : EvR D w csx x) (hl : SlR tInt D w A n set) (hset : setB x.suspects.length (-1) set = true) :
    CallZ Tryz.prog 140 #[.agg csx.toArray, .slice A n c, iv kind, iv index] w (fun v w' => v = iv (mostN (blF x set) kind index) ∧ Ext w w') := by
  obtain ⟨W1, m1, e1, S1, m2, e2, rfl, -, hsu, -⟩ := hx.ex
  have ls := hsu.len
  have hle := hl.le
  have hln := hl.len
  have hsb := (setB_ok hset).2
  refine fn_rule (args := [.agg #[.slice W1 m1 e1, .slice S1 m2 e2], .slice A n c, iv kind, iv index]) Tryz.func140 (by kernel_rfl) ?_
  refine box (fun bx w1 i1 => ?_)
  have Bx : Blk w1 bx 35 [.slice W1 m1 e1, .slice S1 m2 e2] := i1.blk
  refine loop_rule (fun k : Nat => [(9, iv (k : Int))]) (fun k u => k ≤ n ∧ Ext w1 u ∧ blF x set (kind, index) = blF x (set.drop k) (kind, index)) (fun k _ => n - k) 0 ⟨rfl, trivial⟩ ⟨by omega, .refl _ _, rfl⟩ rfl ?_
  rintro G k u ⟨hk, xu, he⟩
  refine len ?_
  refine cD (fun hlt => ?_) (fun hge => ?_)
  · have hlt : k < n := by omega
    obtain ⟨b, o, cs, i, rfl, hv, hdrop, -, hc, rfl, -⟩ := ((hl.ext i1.ext).ext xu).at_ hlt
    have hi := hsb i (List.mem_of_getElem? hv)
    obtain ⟨b2, o2, cs2, s, rfl, hs, -, -, hc2, rfl⟩ := ((hsu.ext i1.ext).ext xu).at_ (k := i.toNat) (by omega)
    have hsA : suAt x i = s := by unfold suAt; rw [List.getD_eq_getElem?_getD, hs]; rfl
    rw [hdrop, bl_cons, hsA] at he
    refine drawX [0, 1, 2, 3, 4, 5, 6, 7, 8, 9] [8, 9] mx (by kernel_rfl) ?_
    refine fldA ?_
    refine ldX (.slice (some (ad b2 o2)) m2 e2) ((Bx.ext xu).cell rfl) (.refl _ _) ?_
    refine idx k rfl hlt ?_
    refine ldX (iv i) (hc 0 _ rfl) (.refl _ _) ?_
    refine idx i.toNat (by omega) (by omega) ?_
    refine ldAX s.c hc2 rfl (.refl _ _) ?_
    refine alloc (fun q u1 a1 => ?_)
    refine strS a1.ext ?_
    refine stA (vs := s.c) a1.blk rfl (Nat.le_of_ble_eq_true rfl) (by simp [Value.oneCell']) (fun u2 b2' kk2 z2 => ?_)
    have b2' : Blk u2 q 112 s.c := b2'
    have ea := a1.at_
    have x2 : Ext u u2 := a1.ext.then kk2 fun b hb _ e => by omega
    refine strS x2 ?_
    refine fldA ?_
    refine ld (iv s.kind) (b2'.cell rfl) ?_
    have no : suKey s ≠ (kind, index) → blF x set (kind, index) = blF x (set.drop (k + 1)) (kind, index) := fun h => by rw [he, if_neg h]
    refine cE (fun g1 => ?_) (fun g1 => ?_)
    · refine fldA ?_
      refine ld (iv s.index) (b2'.cell rfl) ?_
      refine cE (fun g2 => ?_) (fun g2 => ?_)
      · refine fldA ?_
        refine ld (iv s.most) (b2'.cell rfl) ?_
        refine ret1 (iv s.most) rfl ⟨?_, (i1.ext.trans xu).trans x2⟩
        unfold mostN
        rw [he, if_pos (by unfold suKey; rw [g1, g2])]
      · refine arI (by omega) ?_
        exact next (k + 1) ⟨by rw [Int.natCast_add]; rfl, trivial⟩ ⟨by omega, xu.trans x2, no fun e => g2 (by unfold suKey at e; injection e)⟩ (by omega)
    · refine arI (by omega) ?_
      exact next (k + 1) ⟨by rw [Int.natCast_add]; rfl, trivial⟩ ⟨by omega, xu.trans x2, no fun e => g1 (by unfold suKey at e; injection e)⟩ (by omega)
  · rw [List.drop_of_length_le (by omega)] at he
    refine ret1 (iv (-1)) rfl ⟨?_, i1.ext.trans xu⟩
    unfold mostN; rw [he]; rfl
theorem c_r48True {csx : List Value} {x : Ev} {set : List Int} {A : Option Addr} {n c : Nat} {kind index : Int} {y : Rg} (hx : EvR D w csx x) (hl : SlR tInt D w A n set) (hset : setB x.suspects.length (-1) set = true) (hb : ∀ key n, blF x set key = some n → 1 ≤ n ∧ n ≤ 1073741824) :
    CallZ Tryz.prog 122 #[.agg csx.toArray, .slice A n c, iv kind, iv index, y.v] w (fun v w' => v = (meterV (blF x set) kind index y).v ∧ Ext w w') := by
  obtain ⟨W1, m1, e1, S1, m2, e2, rfl, -, hsu, -⟩ := hx.ex
  have hmb := most_b (kind := kind) (index := index) hb
  rw [meter_most hb]
  refine fn_rule (args := [.agg #[.slice W1 m1 e1, .slice S1 m2 e2], .slice A n c, iv kind, iv index, .agg #[iv y.lo, iv y.hi]]) Tryz.func122 (by kernel_rfl) ?_
  refine box (fun bx w1 i1 => ?_)
  refine box (fun by_ w2 i2 => ?_)
  refine alloc (fun q w3 i3 => ?_)
  have x3 := (i1.ext.trans i2.ext).trans i3.ext
  have Bx : Blk w3 bx 35 [.slice W1 m1 e1, .slice S1 m2 e2] := (i1.blk.ext i2.ext).ext i3.ext
  have By : Blk w3 by_ 105 [iv y.lo, iv y.hi] := i2.blk.ext i3.ext
  have Bq : Blk w3 q 105 [iv 0, iv 0] := i3.blk
  have a3 := i3.at_
  have z12 := (i1.ext.trans i2.ext).size
  have byl := i2.blk.lt
  refine ldA [.slice W1 m1 e1, .slice S1 m2 e2] (.blk Bx) rfl ?_
  refine call_of (c_r48most (hx.ext x3) (hl.ext x3) hset) ?_
  rintro _ w4 ⟨rfl, x4⟩
  have z4 := x4.size
  refine cD (fun g => ?_) (fun g => ?_)
  · refine fldA ?_
    refine ld (iv y.hi) ((By.ext x4).cell rfl) ?_
    refine bld [iv 0, iv (max (mostN (blF x set) kind index) y.hi)] (by kernel_rfl) ?_
    refine stA (vs := [iv 0, iv (max (mostN (blF x set) kind index) y.hi)]) (Bq.ext x4) rfl (Nat.le_of_ble_eq_true rfl) (by simp [Value.oneCell']) (fun w5 b5 k5 z5 => ?_)
    refine ret ?_
    refine resL _ (holds_agg (.blk b5) rfl) ?_
    exact ⟨by rw [if_pos g]; rfl, (x3.trans x4).then k5 fun b hb _ e => by omega⟩
  · refine ldA [iv y.lo, iv y.hi] (.blk (By.ext x4)) rfl ?_
    refine stA (vs := [iv y.lo, iv y.hi]) (Bq.ext x4) rfl (Nat.le_of_ble_eq_true rfl) (by simp [Value.oneCell']) (fun w5 b5 k5 z5 => ?_)
    refine ret ?_
    refine resL _ (holds_agg (.blk b5) rfl) ?_
    exact ⟨by rw [if_neg g]; rfl, (x3.trans x4).then k5 fun b hb _ e => by omega⟩
end

/-! ### what the pumps add -/
theorem pump_sum {x : Ev} {set : List Int} {r : Nat} {d : Dist} (hsus : susB d (0, -1) x.suspects = true) (hset : setB x.suspects.length (-1) set = true) (hb : ∀ key n, blF x set key = some n → 1 ≤ n ∧ n ≤ 1073741824) :
    loS (pumpP x (blF x set) r x.suspects.length) = 0 ∧ hiS (pumpP x (blF x set) r x.suspects.length) = max 0 (mostN (blF x set) 4 r) := by
  have key : ∀ n, n ≤ x.suspects.length → loS (pumpP x (blF x set) r n) = 0 ∧ hiS (pumpP x (blF x set) r n) = if ∃ i, i < n ∧ suKey (suE x i) = (4, (r : Int)) then max 0 (mostN (blF x set) 4 r) else 0 := by
    intro n
    induction n with
    | zero => intro _; exact ⟨rfl, by rw [if_neg (by rintro ⟨i, hi, _⟩; omega)]; rfl⟩
    | succ n ih =>
      intro hn
      obtain ⟨h1, h2⟩ := ih (by omega)
      rw [pumpP_snoc, loS_app, hiS_app, h1, h2]
      by_cases hq : (suE x n).kind = 4 ∧ (suE x n).index = (r : Int)
      · rw [if_pos hq]
        have hk : suKey (suE x n) = (4, (r : Int)) := by unfold suKey; rw [hq.1, hq.2]
        rw [if_neg (by rintro ⟨i, hi, e⟩; exact sus_ne hsus hi (by omega) (e.trans hk.symm)), if_pos ⟨n, by omega, hk⟩]
        have e : (meterV (blF x set) 4 r g0).lo = 0 ∧ (meterV (blF x set) 4 r g0).hi = max 0 (mostN (blF x set) 4 r) := by
          rw [meter_most hb]
          split
          · exact ⟨rfl, by show max _ (0 : Int) = _; omega⟩
          · exact ⟨rfl, by show (0 : Int) = _; omega⟩
        constructor
        · show 0 + ((meterV (blF x set) 4 r g0).lo + 0) = 0; rw [e.1]; rfl
        · show 0 + ((meterV (blF x set) 4 r g0).hi + 0) = _; rw [e.2]; omega
      · rw [if_neg hq]
        have : (∃ i, i < n ∧ suKey (suE x i) = (4, (r : Int))) ↔ ∃ i, i < n + 1 ∧ suKey (suE x i) = (4, (r : Int)) := by
          constructor
          · rintro ⟨i, hi, e⟩; exact ⟨i, by omega, e⟩
          · rintro ⟨i, hi, e⟩
            by_cases h : i = n
            · subst h; unfold suKey at e; injection e with e1 e2; exact absurd ⟨e1, e2⟩ hq
            · exact ⟨i, by omega, e⟩
        constructor
        · rfl
        · simp only [this]; show _ + (0 : Int) = _; omega
  obtain ⟨h1, h2⟩ := key _ (Nat.le_refl _)
  refine ⟨h1, ?_⟩
  rw [h2]
  split
  · rfl
  · rename_i hn
    have : blF x set (4, (r : Int)) = none := by
      cases hbl : blF x set (4, (r : Int)) with
      | none => rfl
      | some m =>
        obtain ⟨i, hi, hk, -⟩ := blF_some hbl
        have := (setB_ok hset).2 i hi
        exact absurd ⟨i.toNat, by omega, hk⟩ hn
    unfold mostN; rw [this]; rfl
end Go.Proofs.YtcpdhclnmjfldaaGreat

/- Layer 48's reference: leaves. -/
namespace Go.Proofs.YtcpdhclnmjfldaaGreat
open Go Go.RowKit

section
variable {d : Dist} {x : Ev} {bl : Int × Int → Option Int} {v : Wv} {f : Nat → Rg} {r : Nat}
theorem headP_nil (hw : WavOk d x bl v) : ∀ m, m ≤ r + 1 → m ≤ d.reaches.length → headP d f r m = []
  | 0, _, _ => rfl
  | m + 1, h, h2 => by
    have := hw.up m (by omega)
    rw [headP_snoc, headP_nil hw m (by omega) (by omega), if_neg (by omega)]; rfl
theorem filt_len (q : Nat → Bool) (m : Nat) : ((List.range m).filter q).length ≤ m := by
  have := List.length_filter_le q (List.range m)
  rw [List.length_range] at this; exact this
theorem headP_b (fb : ∀ k, (0 ≤ (f k).lo ∧ (f k).lo ≤ 1073741824) ∧ -1 ≤ (f k).hi ∧ (f k).hi ≤ 1073741824) (m : Nat) : (0 ≤ loS (headP d f r m) ∧ loS (headP d f r m) ≤ m * 1073741824) ∧ -(m : Int) ≤ hiS (headP d f r m) ∧ hiS (headP d f r m) ≤ m * 1073741824 := by
  have hl : (headP d f r m).length ≤ m := by unfold headP; rw [List.length_map]; exact filt_len _ _
  have := sum_rng (l := headP d f r m) fun p hp => by
    unfold headP at hp
    obtain ⟨k, -, rfl⟩ := List.mem_map.1 hp
    exact fb k
  omega
theorem outP_b (hw : WavOk d x bl v) (m : Nat) (hm : m ≤ d.farms.length) : (0 ≤ loS (outP d bl v r m) ∧ loS (outP d bl v r m) ≤ m * 1073741824) ∧ -(m : Int) ≤ hiS (outP d bl v r m) ∧ hiS (outP d bl v r m) ≤ m * 1073741824 := by
  have hl : (outP d bl v r m).length ≤ m := by unfold outP; rw [List.length_map]; exact filt_len _ _
  have := sum_rng (l := outP d bl v r m) fun p hp => by
    unfold outP at hp
    obtain ⟨k, hk, rfl⟩ := List.mem_map.1 hp
    have hk := List.mem_range.1 (List.mem_filter.1 hk).1
    have := rgOk_iff.1 (meter_ok hw.bl (kd := 2) (ix := k) (hw.outlets k (by omega)))
    exact ⟨⟨this.1, by show (meterV bl 2 k _).lo ≤ _; omega⟩, by show -1 ≤ (meterV bl 2 k _).hi; omega, this.2.2⟩
  omega
end
section
variable {D : Nat → Prop} {w : World}
set_option maxRecDepth 8000 in
theorem c_r48leaves {csd csx cw : List Value} {d : Dist} {x : Ev} {set : List Int} {v : Wv} {hl : List Rg} {r : Nat} {A AH : Option Addr} {n c nh ch : Nat} (hd : DiR D w csd d) (hx : EvR D w csx x) (hset : SlR tInt D w A n set) (hv : tWv.rep D w cw v) (hh : SlR tRg D w AH nh hl)
    (he : askErr d x set = 0) (hw : WavOk d x (blF x set) v) (hlo : v.outlets.length = d.farms.length) (hlt : v.tails.length = d.reaches.length) (hhl : hl.length = d.reaches.length) (hr : r < d.reaches.length) (hbb : HeadsB hl) :
    CallZ Tryz.prog 119 #[.agg csd.toArray, .agg csx.toArray, .slice A n c, .agg cw.toArray, .slice AH nh ch, iv (r : Int)] w (fun u w' => u = .agg #[iv (loS (partsL d x (blF x set) v (fun k => hl.getD k g0) r)), iv (hiS (partsL d x (blF x set) v (fun k => hl.getD k g0) r))] ∧ Ext w w') := by
  obtain ⟨A1, n1, c1, A2, n2, c2, A3, n3, c3, A4, n4, c4, A5, n5, c5, A6, n6, c6, rfl, hre, hfa, -⟩ := hd.ex
  have hdx := hx
  obtain ⟨W1, m1, e1, S1, m2, e2, rfl, hwv, hsu, -⟩ := hx.ex
  obtain ⟨H1, h1, k1, O1, o1, k2, T1, t1, k3, rfl, -, p1, p2, p3⟩ := wv_open hv
  obtain ⟨hev, hsB⟩ := askErr_ok.1 he
  have hsus := (evErr_ok hev).2.2.2.2
  obtain ⟨⟨hR64, -⟩, hF600, hS12⟩ := ev_sizes hev
  have hb := hw.bl
  have hPB := parts_b hw hR64 hF600 hS12 hbb hr
  have lr := hre.len
  have lf := hfa.len
  have lp2 := p2.len
  have lp3 := p3.len
  have lhh := hh.len
  obtain ⟨f, hf⟩ : ∃ f : Nat → Rg, f = fun k => hl.getD k g0 := ⟨_, rfl⟩
  rw [← hf] at hPB ⊢
  obtain ⟨bl, hbl⟩ : ∃ bl, bl = blF x set := ⟨_, rfl⟩
  have fb : ∀ k, (0 ≤ (f k).lo ∧ (f k).lo ≤ 1073741824) ∧ -1 ≤ (f k).hi ∧ (f k).hi ≤ 1073741824 := fun k => by rw [hf]; exact hbb k
  have hps := pump_sum (r := r) (d := d) hsus hsB hb
  have hmb := most_b (kind := 4) (index := r) hb
  have rg : ∀ {y : Rg}, rgOk y 1073741824 = true → (0 ≤ y.lo ∧ y.lo ≤ 1073741824) ∧ 0 ≤ y.hi ∧ y.hi ≤ 1073741824 := fun h => by rw [rgOk_iff] at h; omega
  refine fn_rule (args := [.agg #[.string d.name, iv d.hours, iv d.cap, iv d.start, .slice A1 n1 c1, .slice A2 n2 c2, .slice A3 n3 c3, .slice A4 n4 c4, .slice A5 n5 c5, .slice A6 n6 c6], .agg #[.slice W1 m1 e1, .slice S1 m2 e2], .slice A n c, .agg #[iv v.hour, .slice H1 h1 k1, .slice O1 o1 k2, .slice T1 t1 k3], .slice AH nh ch, iv (r : Int)]) Tryz.func119 (by kernel_rfl) ?_
  refine box (fun bd w1 i1 => ?_)
  refine box (fun bx w2 i2 => ?_)
  refine box (fun bw w3 i3 => ?_)
  refine alloc (fun bo w4 i4 => ?_)
  have x4 := ((i1.ext.trans i2.ext).trans i3.ext).trans i4.ext
  have Bd : Blk w4 bd 31 [.string d.name, iv d.hours, iv d.cap, iv d.start, .slice A1 n1 c1, .slice A2 n2 c2, .slice A3 n3 c3, .slice A4 n4 c4, .slice A5 n5 c5, .slice A6 n6 c6] := ((i1.blk.ext i2.ext).ext i3.ext).ext i4.ext
  have Bx : Blk w4 bx 35 [.slice W1 m1 e1, .slice S1 m2 e2] := (i2.blk.ext i3.ext).ext i4.ext
  have Bw : Blk w4 bw 92 [iv v.hour, .slice H1 h1 k1, .slice O1 o1 k2, .slice T1 t1 k3] := i3.blk.ext i4.ext
  have Bo : Blk w4 bo 105 [iv 0, iv 0] := i4.blk
  have a4 := i4.at_
  have zw := ((i1.ext.trans i2.ext).trans i3.ext).size
  have hd4 := hd.ext x4
  have hx4 := hx.ext x4
  have hs4 := hset.ext x4
  obtain ⟨tb, to_, _, ty, rfl, hty, -, -, hct, rfl⟩ := (p3.ext x4).at_ (k := r) (by omega)
  have ety : v.tails.getD r g0 = ty := by rw [List.getD_eq_getElem?_getD, hty]; rfl
  obtain ⟨tm, htm⟩ : ∃ tm, tm = meterV (blF x set) 3 r ty := ⟨_, rfl⟩
  have htmb : rgOk tm 1073741824 = true := by rw [htm, ← ety]; exact meter_ok hb (hw.tails r hr)
  have htb := rg htmb
  refine draw_slot 13 (fun y z => ∃ b, y = ptr b ∧ Blk z b 105 [iv (meterV (blF x set) 3 r ty).lo, iv (meterV (blF x set) 3 r ty).hi] ∧ Ext w4 z ∧ w4.heap.size ≤ b) ?_ ?_
  · refine drawP (.take 0 (.take 1 (.take 2 (.take 3 (.take 4 (.take 5 (.take 6 (.take 7 (.alt 8 (.eff 9 (.eff 10 .done)) (.eff 9 (.eff 8 (.eff 10 .done)))))))))))) [] (fun z => Ext w4 z) mx (by kernel_rfl) (.refl _ _) ?_
    refine ldAX [.slice W1 m1 e1, .slice S1 m2 e2] (.blk Bx) rfl (.refl _ _) ?_
    refine fldA ?_
    refine ldX (.slice (some (ad tb to_)) t1 k3) (Bw.cell rfl) (.refl _ _) ?_
    refine idx r rfl (by omega) ?_
    refine ldAX ty.c hct rfl (.refl _ _) ?_
    refine ⟨?_, ?_⟩
    · refine call_of (c_r48True (kind := 3) (index := (r : Int)) (y := ty) hx4 hs4 hsB hb) ?_
      rintro _ z1 ⟨rfl, y1⟩
      refine strS y1 ?_
      refine alloc (fun b z2 y2 => ?_)
      refine strS (y1.trans y2.ext) ?_
      have e2 := y2.at_
      have e1 := y1.size
      refine stA (vs := [iv (meterV (blF x set) 3 r ty).lo, iv (meterV (blF x set) 3 r ty).hi]) y2.blk rfl (Nat.le_of_ble_eq_true rfl) (by simp [Value.oneCell']) (fun z3 b3 k3' s3' => ?_)
      have y3 := (y1.trans y2.ext).then k3' fun i hi _ e => by omega
      refine strS y3 ?_
      exact ⟨b, rfl, b3, y3, by omega⟩
    · refine alloc (fun b z2 y2 => ?_)
      refine strS y2.ext ?_
      refine call_of (c_r48True (kind := 3) (index := (r : Int)) (y := ty) (hx4.ext y2.ext) (hs4.ext y2.ext) hsB hb) ?_
      rintro _ z1 ⟨rfl, y1⟩
      refine strS (y2.ext.trans y1) ?_
      have e2 := y2.at_
      refine stA (vs := [iv (meterV (blF x set) 3 r ty).lo, iv (meterV (blF x set) 3 r ty).hi]) (y2.blk.ext y1) rfl (Nat.le_of_ble_eq_true rfl) (by simp [Value.oneCell']) (fun z3 b3 k3' s3' => ?_)
      have y3 := (y2.ext.trans y1).then k3' fun i hi _ e => by omega
      refine strS y3 ?_
      exact ⟨b, rfl, b3, y3, by omega⟩
  rintro G _ w5 ⟨q, rfl, Bq, x5, q5⟩
  rw [← htm] at Bq
  have qlt := Bq.lt
  have hw5 := x5.size
  -- the pumps
  refine drawP (.take 0 (.take 1 (.take 2 (.take 3 (.take 4 (.eff 5 (.take 6 (.take 7 (.take 8 (.bar (.eff 9 .done))))))))))) [9] (fun z => Ext w5 z) mx (by kernel_rfl) (.refl _ _) ?_
  refine fldA ?_
  refine ldX (iv tm.hi) (Bq.cell rfl) (.refl _ _) ?_
  refine ldAX [.slice W1 m1 e1, .slice S1 m2 e2] (.blk (Bx.ext x5)) rfl (.refl _ _) ?_
  refine call_of (c_r48most (kind := 4) (index := (r : Int)) (hx4.ext x5) (hs4.ext x5) hsB) ?_
  rintro _ w6 ⟨rfl, x6⟩
  refine strS x6 ?_
  refine arI (by omega) ?_
  refine fldA ?_
  refine barS (fun _ => True) trivial ?_
  refine st (Bq.ext x6) (Nat.le_of_ble_eq_true rfl) rfl (fun w7 B7 k7 s7 => ?_)
  refine strS trivial ?_
  obtain ⟨M, hM⟩ : ∃ M, M = max 0 (mostN (blF x set) 4 r) := ⟨_, rfl⟩
  have B7 : Blk w7 q 105 [iv tm.lo, iv (tm.hi + max 0 (mostN (blF x set) 4 r))] := B7
  rw [← hM] at B7 hps
  have zq := x6.size
  have x57 : Kept (fun b => b ≠ q) w5 w7 := (Ext.any x6 : Kept (fun b => b ≠ q) w5 w6).trans k7
  have x47 : Ext w4 w7 := x5.then x57 fun b hb _ e => by omega
  refine arI (by omega) ?_
  refine loop_rule (fun k : Nat => [(14, iv (k : Int))]) (fun k u => r + 1 ≤ k ∧ k ≤ d.reaches.length ∧ Ext w4 u ∧ Blk u q 105 [iv (tm.lo + loS (headP d f r k)), iv (tm.hi + M + hiS (headP d f r k))]) (fun k _ => d.reaches.length - k) (r + 1) ⟨by rw [Int.natCast_add]; rfl, trivial⟩ ⟨by omega, by omega, x47, ?_⟩ rfl ?_
  · rw [headP_nil hw (r + 1) (by omega) (by omega), show tm.lo + loS [] = tm.lo from Int.add_zero _, show tm.hi + M + hiS [] = tm.hi + M from Int.add_zero _]
    exact B7
  rintro G2 k u ⟨hk1, hk2, xu, Bu⟩
  have hHb := headP_b (d := d) (r := r) fb k
  have hk64 : (k : Int) ≤ 64 := by omega
  refine fldA ?_
  refine ld (.slice A1 n1 c1) ((Bd.ext xu).cell rfl) ?_
  refine len ?_
  refine cD (fun hlt => ?_) (fun hge => ?_)
  · have hlt : k < n1 := by omega
    obtain ⟨rb, ro, _, y, rfl, hy, -, -, hcy, rfl⟩ := ((hre.ext x4).ext xu).at_ hlt
    obtain ⟨hb', ho, _, m, rfl, hm, -, -, hcm, rfl⟩ := ((hh.ext x4).ext xu).at_ (k := k) (by omega)
    have ey : rcE d k = y := by unfold rcE; rw [List.getD_eq_getElem?_getD, hy]; rfl
    have em : f k = m := by rw [hf]; show hl.getD k g0 = m; rw [List.getD_eq_getElem?_getD, hm]; rfl
    have fk := fb k
    rw [em] at fk
    refine fldA ?_
    refine ld (.slice (some (ad rb ro)) n1 c1) ((Bd.ext xu).cell rfl) ?_
    refine idx k rfl hlt ?_
    refine fldA ?_
    refine ld (iv y.up) (hcy 1 _ rfl) ?_
    have hsn := headP_snoc (d := d) (f := f) (r := r) k
    rw [ey, em] at hsn
    have ulq : q < u.heap.size := Bu.lt
    refine cE (fun hup => ?_) (fun hup => ?_)
    · rw [if_pos hup] at hsn
      refine drawP (.take 0 (.take 1 (.take 2 (.take 3 (.take 4 (.take 5 (.take 6 (.take 7 (.take 8 (.bar (.eff 9 .done))))))))))) [9] (fun z => z = u) mx (by kernel_rfl) rfl ?_
      refine fldA ?_
      refine ld (iv (tm.lo + loS (headP d f r k))) (Bu.cell rfl) ?_
      refine idx k rfl (by omega) ?_
      refine fldA ?_
      refine ld (iv m.lo) (hcm 0 _ rfl) ?_
      refine arI (by omega) ?_
      refine fldA ?_
      refine barS (fun _ => True) trivial ?_
      refine st Bu (Nat.le_of_ble_eq_true rfl) rfl (fun u1 B1 kk1 s1 => ?_)
      refine strS trivial ?_
      have B1 : Blk u1 q 105 [iv (tm.lo + loS (headP d f r k) + m.lo), iv (tm.hi + M + hiS (headP d f r k))] := B1
      have hcm' := hcm
      have xu1 : Ext w4 u1 := xu.then kk1 fun b hb _ e => by omega
      obtain ⟨hb2, ho2, _, m2', e2', hm2, -, -, hcm2, rfl⟩ := ((hh.ext x4).ext xu1).at_ (k := k) (by omega)
      simp only [Option.some.injEq, Addr.mk.injEq] at e2'
      obtain ⟨rfl, rfl, -⟩ := e2'
      rw [hm] at hm2; injection hm2 with hm2; subst hm2
      refine drawP (.take 0 (.take 1 (.take 2 (.take 3 (.take 4 (.take 5 (.take 6 (.take 7 (.take 8 (.bar (.eff 9 .done))))))))))) [9] (fun z => z = u1) mx (by kernel_rfl) rfl ?_
      refine fldA ?_
      refine ld (iv (tm.hi + M + hiS (headP d f r k))) (B1.cell rfl) ?_
      refine idx k rfl (by omega) ?_
      refine fldA ?_
      refine ld (iv m.hi) (hcm2 1 _ rfl) ?_
      refine arI (by omega) ?_
      refine fldA ?_
      refine barS (fun _ => True) trivial ?_
      refine st B1 (Nat.le_of_ble_eq_true rfl) rfl (fun u2 B2 kk2 s2 => ?_)
      refine strS trivial ?_
      refine arI (by omega) ?_
      refine next (k + 1) ⟨by rw [Int.natCast_add]; rfl, trivial⟩ ⟨by omega, by omega, xu1.then kk2 (fun b hb _ e => by omega), ?_⟩ (by omega)
      have B2 : Blk u2 q 105 [iv (tm.lo + loS (headP d f r k) + m.lo), iv (tm.hi + M + hiS (headP d f r k) + m.hi)] := B2
      rw [hsn, loS_app, hiS_app, show loS [(m, Dst.head k)] = m.lo from Int.add_zero _, show hiS [(m, Dst.head k)] = m.hi from Int.add_zero _, ← Int.add_assoc, ← Int.add_assoc]
      exact B2
    · rw [if_neg hup, List.append_nil] at hsn
      refine arI (by omega) ?_
      exact next (k + 1) ⟨by rw [Int.natCast_add]; rfl, trivial⟩ ⟨by omega, by omega, xu, by rw [hsn]; exact Bu⟩ (by omega)
  have hkR : k = d.reaches.length := by omega
  obtain ⟨HL, hHL⟩ : ∃ t, t = loS (headP d f r k) := ⟨_, rfl⟩
  obtain ⟨HH, hHH⟩ : ∃ t, t = hiS (headP d f r k) := ⟨_, rfl⟩
  rw [← hHL, ← hHH] at Bu
  rw [← hHL, ← hHH] at hHb
  have hlu := Bu.lt
  refine loop_rule (fun j : Nat => [(15, iv (j : Int))]) (fun j z => j ≤ d.farms.length ∧ Ext w4 z ∧ Blk z q 105 [iv (tm.lo + HL + loS (outP d bl v r j)), iv (tm.hi + M + HH + hiS (outP d bl v r j))]) (fun j _ => d.farms.length - j) 0 ⟨rfl, trivial⟩ ⟨by omega, xu, ?_⟩ rfl ?_
  · rw [show tm.lo + HL + loS (outP d bl v r 0) = tm.lo + HL from Int.add_zero _, show tm.hi + M + HH + hiS (outP d bl v r 0) = tm.hi + M + HH from Int.add_zero _]
    exact Bu
  rintro G3 j z ⟨hj, xz, Bz⟩
  have hOb := outP_b (r := r) (by rw [hbl]; exact hw : WavOk d x bl v) j hj
  have hj600 : (j : Int) ≤ 600 := by omega
  refine fldA ?_
  refine ld (.slice A2 n2 c2) ((Bd.ext xz).cell rfl) ?_
  refine len ?_
  refine cD (fun hlt => ?_) (fun hge2 => ?_)
  · have hlt : j < n2 := by omega
    obtain ⟨fb', fo, _, y, rfl, hy, -, -, hcy, rfl⟩ := ((hfa.ext x4).ext xz).at_ hlt
    have ey : fmE d j = y := by unfold fmE; rw [List.getD_eq_getElem?_getD, hy]; rfl
    refine fldA ?_
    refine ld (.slice (some (ad fb' fo)) n2 c2) ((Bd.ext xz).cell rfl) ?_
    refine idx j rfl hlt ?_
    refine fldA ?_
    refine ld (iv y.reach) (hcy 1 _ rfl) ?_
    have hsn := outP_snoc (d := d) (bl := bl) (v := v) (r := r) j
    rw [ey] at hsn
    have zlq : q < z.heap.size := Bz.lt
    have z4z := xz.size
    refine cE (fun hup => ?_) (fun hup => ?_)
    · rw [if_pos hup] at hsn
      obtain ⟨ob, oo, _, oy, rfl, hoy, -, -, hco, rfl⟩ := ((p2.ext x4).ext xz).at_ (k := j) (by omega)
      have eoy : v.outlets.getD j g0 = oy := by rw [List.getD_eq_getElem?_getD, hoy]; rfl
      rw [eoy] at hsn
      obtain ⟨om, hom⟩ : ∃ tm, tm = meterV bl 2 j oy := ⟨_, rfl⟩
      have homb := rg (show rgOk om 1073741824 = true by rw [hom, ← eoy, hbl]; exact meter_ok hb (hw.outlets j (by omega)))
      refine draw_slot 16 (fun y z' => ∃ b, y = ptr b ∧ Blk z' b 105 [iv (meterV (blF x set) 2 j oy).lo, iv (meterV (blF x set) 2 j oy).hi] ∧ Ext z z' ∧ z.heap.size ≤ b) ?_ ?_
      · refine drawP (.take 0 (.take 1 (.take 2 (.take 3 (.take 4 (.take 5 (.take 6 (.take 7 (.alt 8 (.eff 9 (.eff 10 .done)) (.eff 9 (.eff 8 (.eff 10 .done)))))))))))) [] (fun z' => Ext z z') mx (by kernel_rfl) (.refl _ _) ?_
        refine ldAX [.slice W1 m1 e1, .slice S1 m2 e2] (.blk (Bx.ext xz)) rfl (.refl _ _) ?_
        refine fldA ?_
        refine ldX (.slice (some (ad ob oo)) o1 k2) ((Bw.ext xz).cell rfl) (.refl _ _) ?_
        refine idx j rfl (by omega) ?_
        refine ldAX oy.c hco rfl (.refl _ _) ?_
        refine ⟨?_, ?_⟩
        · refine call_of (c_r48True (kind := 2) (index := (j : Int)) (y := oy) (hx4.ext xz) (hs4.ext xz) hsB hb) ?_
          rintro _ z1 ⟨rfl, y1⟩
          refine strS y1 ?_
          refine alloc (fun b z2 y2 => ?_)
          refine strS (y1.trans y2.ext) ?_
          have e2 := y2.at_
          have e1 := y1.size
          refine stA (vs := [iv (meterV (blF x set) 2 j oy).lo, iv (meterV (blF x set) 2 j oy).hi]) y2.blk rfl (Nat.le_of_ble_eq_true rfl) (by simp [Value.oneCell']) (fun z3 b3 k3' s3' => ?_)
          have y3 := (y1.trans y2.ext).then k3' fun i hi _ e => by omega
          refine strS y3 ?_
          exact ⟨b, rfl, b3, y3, by omega⟩
        · refine alloc (fun b z2 y2 => ?_)
          refine strS y2.ext ?_
          refine call_of (c_r48True (kind := 2) (index := (j : Int)) (y := oy) ((hx4.ext xz).ext y2.ext) ((hs4.ext xz).ext y2.ext) hsB hb) ?_
          rintro _ z1 ⟨rfl, y1⟩
          refine strS (y2.ext.trans y1) ?_
          have e2 := y2.at_
          refine stA (vs := [iv (meterV (blF x set) 2 j oy).lo, iv (meterV (blF x set) 2 j oy).hi]) (y2.blk.ext y1) rfl (Nat.le_of_ble_eq_true rfl) (by simp [Value.oneCell']) (fun z3 b3 k3' s3' => ?_)
          have y3 := (y2.ext.trans y1).then k3' fun i hi _ e => by omega
          refine strS y3 ?_
          exact ⟨b, rfl, b3, y3, by omega⟩
      rintro G4 _ z1 ⟨t, rfl, Bt, xz1, ht⟩
      rw [← hbl, ← hom] at Bt
      rw [← hom] at hsn
      refine fldA ?_
      refine ld (iv (tm.lo + HL + loS (outP d bl v r j))) ((Bz.ext xz1).cell rfl) ?_
      refine fldA ?_
      refine ld (iv om.lo) (Bt.cell rfl) ?_
      refine arI (by omega) ?_
      refine fldA ?_
      refine st (Bz.ext xz1) (Nat.le_of_ble_eq_true rfl) rfl (fun z2 B2 kk2 s2 => ?_)
      have B2 : Blk z2 q 105 [iv (tm.lo + HL + loS (outP d bl v r j) + om.lo), iv (tm.hi + M + HH + hiS (outP d bl v r j))] := B2
      refine fldA ?_
      refine ld (iv (tm.hi + M + HH + hiS (outP d bl v r j))) (B2.cell rfl) ?_
      refine fldA ?_
      refine ld (iv om.hi) ((Bt.kept kk2 (by omega)).cell rfl) ?_
      refine arI (by omega) ?_
      refine fldA ?_
      refine st B2 (Nat.le_of_ble_eq_true rfl) rfl (fun z3 B3 kk3 s3 => ?_)
      have B3 : Blk z3 q 105 [iv (tm.lo + HL + loS (outP d bl v r j) + om.lo), iv (tm.hi + M + HH + hiS (outP d bl v r j) + om.hi)] := B3
      refine arI (by omega) ?_
      refine next (j + 1) ⟨by rw [Int.natCast_add]; rfl, trivial⟩ ⟨by omega, ((xz.trans xz1).then kk2 fun b hb _ e => by omega).then kk3 (fun b hb _ e => by omega), ?_⟩ (by omega)
      rw [hsn, loS_app, hiS_app, show loS [(om, Dst.outlet j)] = om.lo from Int.add_zero _, show hiS [(om, Dst.outlet j)] = om.hi from Int.add_zero _, ← Int.add_assoc, ← Int.add_assoc]
      exact B3
    · rw [if_neg hup, List.append_nil] at hsn
      refine arI (by omega) ?_
      exact next (j + 1) ⟨by rw [Int.natCast_add]; rfl, trivial⟩ ⟨by omega, xz, by rw [hsn]; exact Bz⟩ (by omega)
  have hjF : j = d.farms.length := by omega
  refine ldA [iv (tm.lo + HL + loS (outP d bl v r j)), iv (tm.hi + M + HH + hiS (outP d bl v r j))] (.blk Bz) rfl ?_
  have zo := xz.size
  have Bo4 := Bo.ext xz
  refine stA (vs := [iv (tm.lo + HL + loS (outP d bl v r j)), iv (tm.hi + M + HH + hiS (outP d bl v r j))]) Bo4 rfl (Nat.le_of_ble_eq_true rfl) (by simp [Value.oneCell']) (fun w9 B9 k9 s9 => ?_)
  refine ret ?_
  refine resL _ (holds_agg (.blk B9) rfl) ?_
  refine ⟨?_, (x4.trans xz).then k9 fun b hb _ e => by omega⟩
  have e1 : loS (partsL d x bl v f r) = tm.lo + HL + loS (outP d bl v r j) := by
    unfold partsL tailP
    rw [loS_app, loS_app, loS_app, hbl, hps.1, ety, ← htm, ← hkR, ← hHL, ← hjF, show loS [(tm, Dst.tail r)] = tm.lo from Int.add_zero _]
    omega
  have e2 : hiS (partsL d x bl v f r) = tm.hi + M + HH + hiS (outP d bl v r j) := by
    unfold partsL tailP
    rw [hiS_app, hiS_app, hiS_app, hbl, hps.2, ety, ← htm, ← hkR, ← hHH, ← hjF, show hiS [(tm, Dst.tail r)] = tm.hi from Int.add_zero _]
    omega
  rw [← hbl, e1, e2]
  rfl
end
end Go.Proofs.YtcpdhclnmjfldaaGreat

/- Layer 48's reference: heads, explains. -/
namespace Go.Proofs.YtcpdhclnmjfldaaGreat
open Go Go.RowKit

section
variable {D : Nat → Prop} {w : World}
set_option maxRecDepth 8000 in
theorem c_r48heads {csd csx cw : List Value} {d : Dist} {x : Ev} {set : List Int} {v : Wv} {A : Option Addr} {n c : Nat} (hd : DiR D w csd d) (hx : EvR D w csx x) (hset : SlR tInt D w A n set) (hv : tWv.rep D w cw v)
    (he : askErr d x set = 0) (hw : WavOk d x (blF x set) v) (hlh : v.heads.length = d.reaches.length) (hlo : v.outlets.length = d.farms.length) (htl : v.tails.length = d.reaches.length) :
    CallZ Tryz.prog 97 #[.agg csd.toArray, .agg csx.toArray, .slice A n c, .agg cw.toArray] w (fun u w' => Ext w w' ∧ ∃ A' n' c', u = .tuple #[.slice A' n' c', .bool (followV d x (blF x set) v d.reaches.length fun _ => g0).isSome]) := by
  have hd := hd.more (D' := fun b => b < w.heap.size) fun b hb _ => hb
  have hx := hx.more (D' := fun b => b < w.heap.size) fun b hb _ => hb
  have hset := hset.more (D' := fun b => b < w.heap.size) (by decide) fun b hb _ => hb
  have hv := tWv.more (fun b hb (_ : D b) => (hb : (fun b => b < w.heap.size) b)) hv
  obtain ⟨A1, n1, c1, A2, n2, c2, A3, n3, c3, A4, n4, c4, A5, n5, c5, A6, n6, c6, rfl, hre, hfa, -⟩ := hd.ex
  obtain ⟨W1, m1, e1, S1, m2, e2, rfl, hwv, hsu, -⟩ := hx.ex
  obtain ⟨H1, h1, k1, O1, o1, k2, T1, t1, k3, rfl, -, p1, p2, p3⟩ := wv_open hv
  obtain ⟨hev, hsB⟩ := askErr_ok.1 he
  obtain ⟨⟨hR64, hR0⟩, hF600, hS12⟩ := ev_sizes hev
  have hb := hw.bl
  have lr := hre.len
  have lp1 := p1.len
  obtain ⟨bl, hbl⟩ : ∃ bl, bl = blF x set := ⟨_, rfl⟩
  obtain ⟨F0, hF0⟩ : ∃ F0, F0 = followV d x (blF x set) v d.reaches.length fun _ => g0 := ⟨_, rfl⟩
  rw [← hF0]
  refine fn_rule (args := [.agg #[.string d.name, iv d.hours, iv d.cap, iv d.start, .slice A1 n1 c1, .slice A2 n2 c2, .slice A3 n3 c3, .slice A4 n4 c4, .slice A5 n5 c5, .slice A6 n6 c6], .agg #[.slice W1 m1 e1, .slice S1 m2 e2], .slice A n c, .agg #[iv v.hour, .slice H1 h1 k1, .slice O1 o1 k2, .slice T1 t1 k3]]) Tryz.func97 (by kernel_rfl) ?_
  refine box (fun bd w1 i1 => ?_)
  refine box (fun bx w2 i2 => ?_)
  refine box (fun bw w3 i3 => ?_)
  have x3 := (i1.ext.trans i2.ext).trans i3.ext
  have Bd : Blk w3 bd 31 [.string d.name, iv d.hours, iv d.cap, iv d.start, .slice A1 n1 c1, .slice A2 n2 c2, .slice A3 n3 c3, .slice A4 n4 c4, .slice A5 n5 c5, .slice A6 n6 c6] := (i1.blk.ext i2.ext).ext i3.ext
  have Bx : Blk w3 bx 35 [.slice W1 m1 e1, .slice S1 m2 e2] := i2.blk.ext i3.ext
  have Bw : Blk w3 bw 92 [iv v.hour, .slice H1 h1 k1, .slice O1 o1 k2, .slice T1 t1 k3] := i3.blk
  refine fldA ?_
  refine ld (.slice A1 n1 c1) (Bd.cell rfl) ?_
  refine len ?_
  refine mslc (sz := 2) (zv := .agg #[iv 0, iv 0]) n1 rfl rfl (by omega) (by omega) rfl (by decide) (fun bh w4 j4 => ?_)
  have Bh : Blk w4 bh 105 (rgs (List.replicate n1 g0)) := by rw [← rgs_zero]; exact j4.blk
  have ah := j4.at_
  have s4 := j4.size
  have z3 := x3.size
  have bdl := Bd.lt
  have bxl := Bx.lt
  have bwl := Bw.lt
  have x4 := x3.trans j4.ext
  refine fldA ?_
  refine ld (.slice A1 n1 c1) ((Bd.ext j4.ext).cell rfl) ?_
  refine len ?_
  refine arI (by omega) ?_
  refine loop_rule (fun k : Nat => [(11, iv ((k : Int) - 1))]) (fun k u => k ≤ n1 ∧ Kept (fun b => b ≠ bh) w4 u ∧ ∃ hl : List Rg, hl.length = n1 ∧ Blk u bh 105 (rgs hl) ∧ F0 = followV d x (blF x set) v k (fun k => hl.getD k g0) ∧ HeadsB hl) (fun k _ => k) n1 ⟨rfl, trivial⟩ ⟨by omega, .refl _ _, List.replicate n1 g0, by simp, Bh, ?_, fun k => ?_⟩ rfl ?_
  · have e : (fun _ => g0 : Nat → Rg) = fun k => (List.replicate n1 g0).getD k g0 := by
      funext k
      rw [List.getD_eq_getElem?_getD, List.getElem?_replicate]
      split <;> rfl
    rw [hF0, lr, e]
  · rw [List.getD_eq_getElem?_getD, List.getElem?_replicate]
    split
    · exact ⟨⟨by decide, by decide⟩, by decide, by decide⟩
    · exact ⟨⟨by decide, by decide⟩, by decide, by decide⟩
  rintro G k u ⟨hk, ku, hl, hll, bhu, hfo, hhb⟩
  have xu : Ext w u := x4.then ku fun b hb _ e => by omega
  refine cD (fun hlt => ?_) (fun hge => ?_)
  rotate_left
  · have hk0 : k = 0 := by omega
    rw [hk0] at hfo
    exact ret2 (.slice (some (ad bh 0)) n1 n1) (.bool true) rfl rfl ⟨xu, _, _, _, by rw [hfo]; rfl⟩
  obtain ⟨i, rfl⟩ : ∃ i, k = i + 1 := ⟨k - 1, by omega⟩
  rw [show ((i + 1 : Nat) : Int) - 1 = (i : Int) by omega]
  have hir : i < d.reaches.length := by omega
  have Bdu := (Bd.ext j4.ext).kept ku (by omega)
  have Bxu := (Bx.ext j4.ext).kept ku (by omega)
  have Bwu := (Bw.ext j4.ext).kept ku (by omega)
  have hdu := hd.ext xu
  have hxu := hx.ext xu
  have hsu' := hset.ext xu
  have hvu := tWv.kept hv xu fun _ _ _ => trivial
  have slh : SlR tRg (fun b => b < u.heap.size) u (some (ad bh 0)) n1 hl := SlR.of_cells (by omega) (by omega) bhu.lt (CellsAt.blk bhu) flat_rgs
  obtain ⟨ps, hps⟩ : ∃ ps, ps = partsL d x (blF x set) v (fun k => hl.getD k g0) i := ⟨_, rfl⟩
  have hcl : ∀ b, b < w.heap.size → b < u.heap.size := fun b h => by have := xu.size; omega
  have cc := c_r48leaves (c := c) (nh := n1) (ch := n1) (r := i) (hdu.more fun b _ h => hcl b h) (hxu.more fun b _ h => hcl b h) (hsu'.more (by decide) fun b _ h => hcl b h) (tWv.more (fun b _ h => hcl b h) hvu) slh he hw hlo htl (by omega) hir hhb
  have hPB := sum_rng (parts_b hw hR64 hF600 hS12 hhb hir).2
  have hpl := (parts_b hw hR64 hF600 hS12 hhb hir).1
  rw [← hps] at cc hPB hpl
  refine ldA [.string d.name, iv d.hours, iv d.cap, iv d.start, .slice A1 n1 c1, .slice A2 n2 c2, .slice A3 n3 c3, .slice A4 n4 c4, .slice A5 n5 c5, .slice A6 n6 c6] (.blk Bdu) rfl ?_
  refine ldA [.slice W1 m1 e1, .slice S1 m2 e2] (.blk Bxu) rfl ?_
  refine ldA [iv v.hour, .slice H1 h1 k1, .slice O1 o1 k2, .slice T1 t1 k3] (.blk Bwu) rfl ?_
  refine call_of cc ?_
  rintro _ u1 ⟨rfl, y1⟩
  obtain ⟨bo, oo, co, y, rfl, hy, -, hDy, hcy, rfl⟩ := (hre.ext xu).at_ (k := i) (by omega)
  have ey : rcE d i = y := by unfold rcE; rw [List.getD_eq_getElem?_getD, hy]; rfl
  obtain ⟨wo, wq, cq, own, rfl, hown, -, hDw, hcw, rfl⟩ := (p1.ext xu).at_ (k := i) (by omega)
  have eown : v.heads.getD i g0 = own := by rw [List.getD_eq_getElem?_getD, hown]; rfl
  have yy := y1.size
  refine alloc (fun q u2 q2 => ?_)
  refine stA (vs := [iv (loS ps), iv (hiS ps)]) q2.blk rfl (Nat.le_of_ble_eq_true rfl) (by simp [Value.oneCell']) (fun u3 Bq k3' s3' => ?_)
  have Bq : Blk u3 q 105 [iv (loS ps), iv (hiS ps)] := Bq
  have aq := q2.at_
  have y3 : Ext u u3 := (y1.trans q2.ext).then k3' fun b hb _ e => by omega
  have hstep : F0 = if loS ps > 1073741824 then none else if (reachV y (loS ps)).2 = false ∨ (headV d x (blF x set) v (fun k => hl.getD k g0) i y).lo > (headV d x (blF x set) v (fun k => hl.getD k g0) i y).hi then none else followV d x (blF x set) v i (setF (fun k => hl.getD k g0) i (headV d x (blF x set) v (fun k => hl.getD k g0) i y)) := by
    rw [hfo, followV, ey, ← hps]
  have no : ∀ {u' : World}, Ext u u' → F0 = none → (Ext w u' ∧ ∃ A' n' c', Value.tuple #[.slice none 0 0, .bool false] = .tuple #[.slice A' n' c', .bool F0.isSome]) := fun h e => ⟨xu.trans h, _, _, _, by rw [e]; rfl⟩
  refine fldA ?_
  refine ld (iv (loS ps)) (Bq.cell rfl) ?_
  refine cD (fun hgt => ?_) (fun hle => ?_)
  · exact ret2 (.slice none 0 0) (.bool false) rfl rfl (no y3 (by rw [hstep, if_pos hgt]))
  rw [if_neg hle] at hstep
  obtain ⟨rb, hrb⟩ : ∃ rb, rb = (reachV y (loS ps)).2 := ⟨_, rfl⟩
  obtain ⟨ri, hri⟩ : ∃ ri, ri = (reachV y (loS ps)).1 := ⟨_, rfl⟩
  rw [← hrb] at hstep
  refine drawX [0, 1, 2, 3, 4, 5, 6, 7, 8, 9, 10, 11, 12, 13, 14] [7] mx (by kernel_rfl) ?_
  refine fldA ?_
  refine ldX (.slice (some (ad bo oo)) n1 c1) ((Bdu.ext y3).cell rfl) (.refl _ _) ?_
  refine idx i (by omega) (by omega) ?_
  refine ldAX y.c (hcy.kept y3 trivial) rfl (.refl _ _) ?_
  refine fldA ?_
  refine ldX (iv (loS ps)) (Bq.cell rfl) (.refl _ _) ?_
  have cc := fun w => c_r21Reach (w := w) (r := y) (x := loS ps)
  rw [← hrb, ← hri] at cc
  refine call_of (cc _) ?_
  clear cc
  rintro _ u4 ⟨rfl, y4⟩
  refine strS y4 ?_
  refine drawX [0, 1, 2, 3, 4, 5, 6, 7, 8, 9, 10, 11, 12, 13] [8] mx (by kernel_rfl) ?_
  have y34 := y3.trans y4
  refine fldA ?_
  refine ldX (.slice (some (ad bo oo)) n1 c1) ((Bdu.ext y34).cell rfl) (.refl _ _) ?_
  refine idx i (by omega) (by omega) ?_
  refine ldAX y.c (hcy.kept y34 trivial) rfl (.refl _ _) ?_
  refine fldA ?_
  refine ldX (iv (hiS ps)) ((Bq.ext y4).cell rfl) (.refl _ _) ?_
  refine call_of (c_r21Most (r := y) (x := min (hiS ps) 1073741824)) ?_
  rintro _ u5 ⟨rfl, y5⟩
  refine strS y5 ?_
  have y35 := y34.trans y5
  obtain ⟨mi, hmi⟩ : ∃ mi, mi = mostV y (min (hiS ps) 1073741824) := ⟨_, rfl⟩
  rw [← hmi]
  obtain ⟨om, hom⟩ : ∃ om, om = meterV (blF x set) 1 i own := ⟨_, rfl⟩
  refine draw_slot 18 (fun y z => ∃ b, y = ptr b ∧ Blk z b 105 [iv (meterV (blF x set) 1 i own).lo, iv (meterV (blF x set) 1 i own).hi] ∧ Ext u5 z ∧ u5.heap.size ≤ b) ?_ ?_
  · refine drawP (.take 0 (.take 1 (.take 2 (.take 3 (.take 4 (.take 5 (.take 6 (.take 7 (.alt 8 (.eff 9 (.eff 10 .done)) (.eff 9 (.eff 8 (.eff 10 .done)))))))))))) [] (fun z => Ext u5 z) mx (by kernel_rfl) (.refl _ _) ?_
    refine ldAX [.slice W1 m1 e1, .slice S1 m2 e2] (.blk (Bxu.ext y35)) rfl (.refl _ _) ?_
    refine fldA ?_
    refine ldX (.slice (some (ad wo wq)) h1 k1) ((Bwu.ext y35).cell rfl) (.refl _ _) ?_
    refine idx i (by omega) (by omega) ?_
    refine ldAX own.c (hcw.kept y35 trivial) rfl (.refl _ _) ?_
    refine ⟨?_, ?_⟩
    · refine call_of (c_r48True (kind := 1) (index := (i : Int)) (y := own) (hxu.ext y35) (hsu'.ext y35) hsB hb) ?_
      rintro _ z1 ⟨rfl, y1⟩
      refine strS y1 ?_
      refine alloc (fun b z2 y2 => ?_)
      refine strS (y1.trans y2.ext) ?_
      have e2 := y2.at_
      have e1 := y1.size
      refine stA (vs := [iv (meterV (blF x set) 1 i own).lo, iv (meterV (blF x set) 1 i own).hi]) y2.blk rfl (Nat.le_of_ble_eq_true rfl) (by simp [Value.oneCell']) (fun z3 b3 k3' s3' => ?_)
      have y3 := (y1.trans y2.ext).then k3' fun i hi _ e => by omega
      refine strS y3 ?_
      exact ⟨b, rfl, b3, y3, by omega⟩
    · refine alloc (fun b z2 y2 => ?_)
      refine strS y2.ext ?_
      refine call_of (c_r48True (kind := 1) (index := (i : Int)) (y := own) ((hxu.ext y35).ext y2.ext) ((hsu'.ext y35).ext y2.ext) hsB hb) ?_
      rintro _ z1 ⟨rfl, y1⟩
      refine strS (y2.ext.trans y1) ?_
      have e2 := y2.at_
      refine stA (vs := [iv (meterV (blF x set) 1 i own).lo, iv (meterV (blF x set) 1 i own).hi]) (y2.blk.ext y1) rfl (Nat.le_of_ble_eq_true rfl) (by simp [Value.oneCell']) (fun z3 b3 k3' s3' => ?_)
      have y3 := (y2.ext.trans y1).then k3' fun i hi _ e => by omega
      refine strS y3 ?_
      exact ⟨b, rfl, b3, y3, by omega⟩
  rintro G9 _ u6 ⟨bm, rfl, Bm, y6, hbm⟩
  rw [← hom] at Bm
  have y36 := y35.trans y6
  have bh6 := bhu.ext y36
  have bhl := bhu.lt
  have z35 := y35.size
  obtain ⟨hv2, hhv⟩ : ∃ hv2 : Rg, hv2 = ⟨max ri om.lo, min mi om.hi⟩ := ⟨_, rfl⟩
  have ehv : headV d x (blF x set) v (fun k => hl.getD k g0) i y = hv2 := by
    unfold headV
    rw [hhv, ← hps, ← hri, hmi, Int.min_comm 1073741824, eown, ← hom]
  rw [ehv] at hstep
  refine fldA ?_
  refine ld (iv om.lo) (Bm.cell rfl) ?_
  refine fldA ?_
  refine ld (iv om.hi) (Bm.cell rfl) ?_
  refine bld [iv (max ri om.lo), iv (min mi om.hi)] (by kernel_rfl) ?_
  refine idx i (by omega) (by omega) ?_
  refine stA (vs := [iv (max ri om.lo), iv (min mi om.hi)]) bh6 rfl (by rw [rgs_len]; show 0 + i * 2 + 2 ≤ _; omega) (by simp [Value.oneCell']) (fun u7 B7 k7 s7 => ?_)
  have B7 : Blk u7 bh 105 (rgs (hl.set i hv2)) := by
    have e := rgs_set (l := hl) (i := i) (m := hv2) (by omega)
    rw [← e, hhv, show i * 2 = 0 + i * 2 by omega]
    exact B7
  have ku7 : Kept (fun b => b ≠ bh) w4 u7 := (ku.ext y36).then k7 fun b _ h => h
  have xu7 : Ext w u7 := x4.then ku7 fun b hb _ e => by omega
  have no7 : F0 = none → (Ext w u7 ∧ ∃ A' n' c', Value.tuple #[.slice none 0 0, .bool false] = .tuple #[.slice A' n' c', .bool F0.isSome]) := fun e => ⟨xu7, _, _, _, by rw [e]; rfl⟩
  obtain ⟨bx1, ox1, cx1, hv3, hAx, hvx, -, -, hcx, rfl⟩ := (SlR.of_cells (a := tRg) (D := fun _ => True) (n := n1) (b := bh) (o := 0) (by rw [List.length_set]; omega) (by omega) trivial (CellsAt.blk B7) flat_rgs : SlR tRg (fun _ => True) u7 (some (ad bh 0)) n1 (hl.set i hv2)).at_ (k := i) (by omega)
  injection hAx with hAx
  injection hAx with hx1 hx2
  subst hx1; subst hx2
  obtain rfl : hv3 = hv2 := by rw [List.getElem?_set_self (by omega)] at hvx; injection hvx with e; exact e.symm
  refine drawQ mx (by kernel_rfl) ?_
  cases rb with
  | false => exact ret2 (.slice none 0 0) (.bool false) rfl rfl (no7 (by rw [hstep, if_pos (.inl rfl)]))
  | true =>
    refine idx i (by omega) (by omega) ?_
    refine fldA ?_
    refine ld (iv hv3.lo) (hcx 0 _ rfl) ?_
    refine idx i (by omega) (by omega) ?_
    refine fldA ?_
    refine ld (iv hv3.hi) (hcx 1 _ rfl) ?_
    refine cD (fun hgt2 => ?_) (fun hle2 => ?_)
    · exact ret2 (.slice none 0 0) (.bool false) rfl rfl (no7 (by rw [hstep, if_pos (.inr hgt2)]))
    rw [if_neg (by simp; omega)] at hstep
    refine arI (by omega) ?_
    refine next i ⟨rfl, trivial⟩ ⟨by omega, ku7, hl.set i hv3, by rw [List.length_set]; exact hll, B7, ?_, fun k => ?_⟩ (by omega)
    · rw [hstep, getD_set (by omega)]
    · have e := congrFun (getD_set (l := hl) (i := i) (m := hv3) (by omega)) k
      rw [show (hl.set i hv3).getD k g0 = setF (fun k => hl.getD k g0) i hv3 k from e]
      unfold setF
      by_cases hki : k = i
      · rw [if_pos hki]
        have := head_b (f := fun k => hl.getD k g0) hw hir
        rw [ey, ehv] at this
        exact this
      · rw [if_neg hki]; exact hhb k
set_option maxRecDepth 8000 in
theorem c_r48explains {csd csx : List Value} {d : Dist} {x : Ev} {set : List Int} {A : Option Addr} {n c : Nat} (hd : DiR D w csd d) (hx : EvR D w csx x) (hset : SlR tInt D w A n set) (he : askErr d x set = 0) :
    CallZ Tryz.prog 65 #[.agg csd.toArray, .agg csx.toArray, .slice A n c] w (fun u w' => u = .bool (explB d x set) ∧ Ext w w') := by
  obtain ⟨A1, n1, c1, A2, n2, c2, A3, n3, c3, A4, n4, c4, A5, n5, c5, A6, n6, c6, rfl, hre, hfa, -⟩ := hd.ex
  obtain ⟨W1, m1, e1, S1, m2, e2, rfl, hwv, hsu, -⟩ := hx.ex
  have lw := hwv.len
  have lle := hwv.le
  refine fn_rule (args := [.agg #[.string d.name, iv d.hours, iv d.cap, iv d.start, .slice A1 n1 c1, .slice A2 n2 c2, .slice A3 n3 c3, .slice A4 n4 c4, .slice A5 n5 c5, .slice A6 n6 c6], .agg #[.slice W1 m1 e1, .slice S1 m2 e2], .slice A n c]) Tryz.func65 (by kernel_rfl) ?_
  refine box (fun bd w1 i1 => ?_)
  refine box (fun bx w2 i2 => ?_)
  have x2 := i1.ext.trans i2.ext
  have Bd : Blk w2 bd 31 [.string d.name, iv d.hours, iv d.cap, iv d.start, .slice A1 n1 c1, .slice A2 n2 c2, .slice A3 n3 c3, .slice A4 n4 c4, .slice A5 n5 c5, .slice A6 n6 c6] := i1.blk.ext i2.ext
  have Bx : Blk w2 bx 35 [.slice W1 m1 e1, .slice S1 m2 e2] := i2.blk
  refine loop_rule (fun k : Nat => [(7, iv (k : Int))]) (fun k u => k ≤ m1 ∧ Ext w2 u ∧ (x.waves.take k).all (fun v => (followV d x (blF x set) v d.reaches.length fun _ => g0).isSome) = true) (fun k _ => m1 - k) 0 ⟨rfl, trivial⟩ ⟨by omega, .refl _ _, rfl⟩ rfl ?_
  rintro G k u ⟨hk, xu, hall⟩
  have x0u := x2.trans xu
  refine fldA ?_
  refine ld (.slice W1 m1 e1) ((Bx.ext xu).cell rfl) ?_
  refine len ?_
  refine cD (fun hlt => ?_) (fun hge => ?_)
  · have hlt : k < m1 := by omega
    obtain ⟨b, o, cs, v, rfl, hv, -, -, hc, hrep⟩ := (hwv.ext x0u).at_ hlt
    obtain ⟨hw, l1, l2, l3⟩ := wavOk_of he (List.mem_of_getElem? hv)
    obtain ⟨H1, h1, k1, O1, o1, k2, T1, t1, k3, rfl, -⟩ := wv_open hrep
    refine drawX [0, 1, 2, 3, 4, 5, 6, 7, 8, 9, 10, 11, 12, 13] [8] mx (by kernel_rfl) ?_
    refine ldAX [.string d.name, iv d.hours, iv d.cap, iv d.start, .slice A1 n1 c1, .slice A2 n2 c2, .slice A3 n3 c3, .slice A4 n4 c4, .slice A5 n5 c5, .slice A6 n6 c6] (.blk (Bd.ext xu)) rfl (.refl _ _) ?_
    refine ldAX [.slice (some (ad b o)) m1 e1, .slice S1 m2 e2] (.blk (Bx.ext xu)) rfl (.refl _ _) ?_
    refine fldA ?_
    refine ldX (.slice (some (ad b o)) m1 e1) ((Bx.ext xu).cell rfl) (.refl _ _) ?_
    refine idx k rfl hlt ?_
    refine ldAX [iv v.hour, .slice H1 h1 k1, .slice O1 o1 k2, .slice T1 t1 k3] hc rfl (.refl _ _) ?_
    have cc := c_r48heads (c := c) (hd.ext x0u) (hx.ext x0u) (hset.ext x0u) hrep he hw l1 l2 l3
    obtain ⟨q, hq⟩ : ∃ q, q = (followV d x (blF x set) v d.reaches.length fun _ => g0).isSome := ⟨_, rfl⟩
    rw [← hq] at cc
    refine call_of cc ?_
    clear cc
    rintro _ u1 ⟨xu1, sA, sn, sc, rfl⟩
    refine strS xu1 ?_
    cases q with
    | false => exact ret1 (.bool false) rfl ⟨by unfold explB; rw [all_not hv hq.symm], x0u.trans xu1⟩
    | true =>
      refine arI (by omega) ?_
      exact next (k + 1) ⟨by rw [Int.natCast_add]; rfl, trivial⟩ ⟨by omega, xu.trans xu1, take_all hv hall hq.symm⟩ (by omega)
  · rw [List.take_of_length_le (by omega)] at hall
    exact ret1 (.bool true) rfl ⟨by unfold explB; rw [hall], x0u⟩
end
end Go.Proofs.YtcpdhclnmjfldaaGreat

/- Layer 48's reference: in, left, Fits, Accepts, Members, Table. -/
namespace Go.Proofs.YtcpdhclnmjfldaaGreat
open Go Go.RowKit

theorem getD_at {α : Type} {l : List α} {k : Nat} {y a : α} (h : l[k]? = some y) : l.getD k a = y := by rw [List.getD_eq_getElem?_getD, h]; rfl
theorem most_T {x : Ev} {bl : Int × Int → Option Int} (hb : ∀ key n, bl key = some n → 1 ≤ n ∧ n ≤ 1073741824) {i : Nat} : mostT x bl i = if (suE x i).kind = 4 then max 0 (mostN bl (suE x i).kind (suE x i).index) else 0 := by
  unfold mostT mostN
  by_cases h : (suE x i).kind = 4
  · rw [if_pos h, if_pos h]
    cases e : bl ((suE x i).kind, (suE x i).index) with
    | none => show (0 : Int) = max 0 (-1); omega
    | some n => have := hb _ _ e; show n = max 0 n; omega
  · rw [if_neg h, if_neg h]
theorem worst_eq {y : Reach} {h : Int} : worstV y h = if lErr y h = 0 then h - (lostR y h).hi else 0 := rfl
theorem best_eq {y : Reach} {h : Int} : bestV y h = if lErr y h = 0 then h - (lostR y h).lo else 0 := rfl
section
variable {D : Nat → Prop} {w : World}
theorem sum_at {q : Nat → Bool} {l : List Int} {B : Int} (h : ∀ i, i < l.length → 0 ≤ l.getD i 0 ∧ l.getD i 0 ≤ 1073741824) {k : Nat} (hk : k ≤ l.length) (hB : (k : Int) ≤ B) (_ : 0 ≤ B) : 0 ≤ sumF q (fun i => l.getD i 0) k ∧ sumF q (fun i => l.getD i 0) k ≤ B * 1073741824 := by
  have := sumF_b (q := q) (g := fun i => l.getD i 0) (k := k) fun i hi => h i (by omega)
  omega
end
end Go.Proofs.YtcpdhclnmjfldaaGreat

/- Layer 48's reference: Fits, Accepts, Members, Table. -/
namespace Go.Proofs.YtcpdhclnmjfldaaGreat
open Go Go.RowKit

section
variable {D : Nat → Prop} {w : World}
theorem c_r48Members {m many : Nat} (hm : m ≤ 4096) (hmany : many ≤ 12) : CallZ Tryz.prog 40 #[iv (m : Int), iv (many : Int)] w (fun v w' => ∃ A n c, v = .slice A n c ∧ OwnF w w' A n c 3 1 ((membersL m many).map fun v => Value.int .i64 v)) := by
  refine fn_rule (args := [iv (m : Int), iv (many : Int)]) Tryz.func40 (by kernel_rfl) ?_
  refine lit [] (fun g w1 h1 => ?_)
  refine loop4 (fun (i : Nat) (A : Option Addr) (n c : Nat) => [(6, iv (i : Int)), (0, iv ((m / 2 ^ i : Nat) : Int)), (5, .slice A n c)])
    (fun i A n c u => i ≤ many ∧ OwnF w u A n c 3 1 ((membersL m i).map fun v => Value.int .i64 v)) (fun i _ _ _ _ => many - i) 0 (some (ad g 0)) 0 0 ⟨rfl, congrArg (Value.int .i64) (by simp), rfl, trivial⟩ ⟨by omega, OwnF.lit (cs := []) (.refl _ _) h1 rfl⟩ rfl ?_
  rintro G i A n c u ⟨hi, own⟩
  have hl := own.own.len
  rw [List.length_map] at hl
  have hml := members_len m i
  refine cD (fun hlt => ?_) (fun hge => ?_)
  · have hlt : i < many := by omega
    have hq : m / 2 ^ i ≤ m := Nat.div_le_self _ _
    have hq2 : m / 2 ^ (i + 1) = m / 2 ^ i / 2 := by rw [Nat.pow_succ, Nat.div_div_eq_div_mul]
    have hb : ((m / 2 ^ i : Nat) : Int) % 2 = 1 ↔ m.testBit i = true := by
      rw [Nat.testBit_eq_decide_div_mod_eq, decide_eq_true_eq]; omega
    obtain ⟨q, hqe⟩ : ∃ q, q = m / 2 ^ i := ⟨_, rfl⟩
    rw [← hqe] at hq hq2 hb ⊢
    refine remI (by omega) (by omega) ?_
    refine cE (fun g1 => ?_) (fun g1 => ?_)
    · refine lit [iv (i : Int)] (fun q1 u1 hq1 => ?_)
      refine appF (own.then hq1.ext) (hq1.src (sz := 1) rfl) (by omega) (fun A3 c3 z2 o2 k2 hA => ?_)
      refine quoI (by omega) (by omega) (by omega) ?_
      refine arI (by omega) ?_
      refine next4 (i + 1) A3 (n + 1) c3 ⟨by rw [Int.natCast_add]; rfl, congrArg (Value.int .i64) (by rw [hq2]; omega), rfl, trivial⟩ ⟨by omega, ?_⟩ (by omega)
      rw [members_snoc, if_pos (hb.1 g1), List.map_append]; exact o2
    · refine quoI (by omega) (by omega) (by omega) ?_
      refine arI (by omega) ?_
      refine next4 (i + 1) A n c ⟨by rw [Int.natCast_add]; rfl, congrArg (Value.int .i64) (by rw [hq2]; omega), rfl, trivial⟩ ⟨by omega, ?_⟩ (by omega)
      rw [members_snoc, if_neg (fun h => g1 (hb.2 h)), List.append_nil]; exact own
  · obtain rfl : i = many := by omega
    exact ret1 (.slice A n c) rfl ⟨A, n, c, rfl, own⟩
set_option maxRecDepth 8000 in
theorem c_r48Table {csd csx : List Value} {d : Dist} {x : Ev} (hd : DiR D w csd d) (hx : EvR D w csx x) : CallZ Tryz.prog 37 #[.agg csd.toArray, .agg csx.toArray] w
    (fun v w' => ∃ A n c, v = .tuple #[.slice A n c, iv (evErr d x)] ∧ OwnF w w' A n c 4 1 ((tableV d x).map fun b => Value.bool b)) := by
  have hd := hd.more (D' := fun b => b < w.heap.size) fun b hb _ => hb
  have hx := hx.more (D' := fun b => b < w.heap.size) fun b hb _ => hb
  obtain ⟨A1, n1, c1, A2, n2, c2, A3, n3, c3, A4, n4, c4, A5, n5, c5, A6, n6, c6, rfl, -⟩ := hd.ex
  obtain ⟨W1, m1, e1, S1, m2, e2, rfl, hwv, hsu, -⟩ := hx.ex
  have ls := hsu.len
  refine fn_rule (args := [.agg #[.string d.name, iv d.hours, iv d.cap, iv d.start, .slice A1 n1 c1, .slice A2 n2 c2, .slice A3 n3 c3, .slice A4 n4 c4, .slice A5 n5 c5, .slice A6 n6 c6], .agg #[.slice W1 m1 e1, .slice S1 m2 e2]]) Tryz.func37 (by kernel_rfl) ?_
  refine box (fun bd w1 i1 => ?_)
  refine box (fun bx w2 i2 => ?_)
  have x2 := i1.ext.trans i2.ext
  have Bd : Blk w2 bd 31 [.string d.name, iv d.hours, iv d.cap, iv d.start, .slice A1 n1 c1, .slice A2 n2 c2, .slice A3 n3 c3, .slice A4 n4 c4, .slice A5 n5 c5, .slice A6 n6 c6] := i1.blk.ext i2.ext
  have Bx : Blk w2 bx 35 [.slice W1 m1 e1, .slice S1 m2 e2] := i2.blk
  refine ldA [.string d.name, iv d.hours, iv d.cap, iv d.start, .slice A1 n1 c1, .slice A2 n2 c2, .slice A3 n3 c3, .slice A4 n4 c4, .slice A5 n5 c5, .slice A6 n6 c6] (.blk Bd) rfl ?_
  refine ldA [.slice W1 m1 e1, .slice S1 m2 e2] (.blk Bx) rfl ?_
  refine call_of (c_r48Check (hd.ext x2) (hx.ext x2)) ?_
  rintro _ w3 ⟨rfl, x3⟩
  have x03 := x2.trans x3
  refine cN (fun h0 => ?_) (fun h0 => ?_)
  · exact ret2 (.slice none 0 0) (iv (evErr d x)) rfl rfl ⟨none, 0, 0, rfl, by rw [table_none h0]; exact .nil x03⟩
  have h0 : evErr d x = 0 := h0
  obtain ⟨-, -, hS⟩ := ev_sizes h0
  rw [h0]
  have tl := table_len h0
  obtain ⟨S, hSe⟩ : ∃ S, S = x.suspects.length := ⟨_, rfl⟩
  have hpow : 2 ^ S ≤ 4096 := Nat.le_trans (Nat.pow_le_pow_right (by omega) (show S ≤ 12 by omega)) (by decide)
  refine lit [] (fun g w4 h4 => ?_)
  have Bd4 := (Bd.ext x3).ext h4.ext
  have Bx4 := (Bx.ext x3).ext h4.ext
  have x04 := x03.trans h4.ext
  refine loop_rule (fun i : Nat => [(9, iv (i : Int)), (8, iv ((2 ^ i : Nat) : Int))]) (fun i u => i ≤ m2 ∧ w4 = u) (fun i _ => m2 - i) 0 ⟨rfl, rfl, trivial⟩ ⟨by omega, rfl⟩ rfl ?_
  rintro G i u ⟨hi, rfl⟩
  have hpi : 2 ^ i ≤ 2 ^ S := Nat.pow_le_pow_right (by decide) (by omega)
  refine fldA ?_
  refine ld (.slice S1 m2 e2) (Bx4.cell rfl) ?_
  refine len ?_
  refine cD (fun hlt => ?_) (fun hge => ?_)
  · have hps : 2 ^ (i + 1) = 2 ^ i * 2 := Nat.pow_succ 2 i
    obtain ⟨q, hq⟩ : ∃ q, q = 2 ^ i := ⟨_, rfl⟩
    rw [← hq] at hpi hps ⊢
    refine arI (by omega) ?_
    refine arI (by omega) ?_
    exact next (i + 1) ⟨by rw [Int.natCast_add]; rfl, congrArg (Value.int .i64) (by rw [hps]; omega), trivial⟩ ⟨by omega, rfl⟩ (by omega)
  have hiS : i = S := by omega
  rw [hiS]
  obtain ⟨pw, hpw⟩ : ∃ pw, pw = 2 ^ S := ⟨_, rfl⟩
  rw [← hpw] at hpow ⊢
  have tv : tableV d x = (List.range pw).map fun k => explV d x (membersL k S) := by rw [hpw, hSe]; unfold tableV tableL; rw [if_pos h0]
  rw [tv]
  obtain ⟨f, hf⟩ : ∃ f : Nat → Bool, f = fun k => explV d x (membersL k S) := ⟨_, rfl⟩
  rw [← hf]
  refine loop4 (fun (k : Nat) (A : Option Addr) (n c : Nat) => [(10, iv (k : Int)), (7, .slice A n c)])
    (fun k A n c u => k ≤ pw ∧ OwnF w3 u A n c 4 1 (((List.range k).map f).map fun b => Value.bool b)) (fun k _ _ _ _ => pw - k) 0 (some (ad g 0)) 0 0 ⟨rfl, rfl, trivial⟩ ⟨by omega, OwnF.lit (cs := []) (.refl _ _) h4 rfl⟩ rfl ?_
  rintro G2 k A n c u ⟨hk, own⟩
  have xu := own.ext
  have hlen := own.own.len
  rw [List.length_map, List.length_map, List.length_range] at hlen
  refine cD (fun hlt => ?_) (fun hge2 => ?_)
  rotate_left
  · obtain rfl : k = pw := by omega
    exact ret2 (.slice A n c) (iv 0) rfl rfl ⟨A, n, c, rfl, own.base x03⟩
  have hlt : k < pw := by omega
  have Bdu := (Bd.ext x3).ext xu
  have Bxu := (Bx.ext x3).ext xu
  have x0u := x03.trans xu
  have new := own.new
  have bdl := (Bd.ext x3).lt
  have bxl := (Bx.ext x3).lt
  have nA : ∀ b, b < w3.heap.size → A ≠ some (ad b 0) := fun b hb e => by have := new b e; omega
  refine drawK (fun b => A ≠ some (ad b 0)) [0, 1, 2, 3, 4, 5, 6, 7, 8, 9, 10, 11] [7, 8, 9, 10] mx (by kernel_rfl) ?_
  refine ldAK [.string d.name, iv d.hours, iv d.cap, iv d.start, .slice A1 n1 c1, .slice A2 n2 c2, .slice A3 n3 c3, .slice A4 n4 c4, .slice A5 n5 c5, .slice A6 n6 c6] (.blk Bdu) rfl (nA _ bdl) (.refl _ _) ?_
  refine ldAK [.slice W1 m1 e1, .slice S1 m2 e2] (.blk Bxu) rfl (nA _ bxl) (.refl _ _) ?_
  refine fldA ?_
  refine ldK (.slice S1 m2 e2) (Bxu.cell rfl) (nA _ bxl) (.refl _ _) ?_
  refine len ?_
  refine call_of (c_r48Members (m := k) (many := m2) (by omega) (by omega)) ?_
  rintro _ u1 ⟨A', n', c', rfl, oM⟩
  refine strK oM.ext.any ?_
  have hl2 := oM.own.len
  rw [List.length_map] at hl2
  have hml := members_len k m2
  have sset : SlR tInt (fun _ => True) u1 A' n' (membersL k m2) := OwnF.ints oM (fun v hv => by have := members_bound k m2 v hv; unfold I64; omega) (by omega) fun _ _ => trivial
  have x01 := x0u.trans oM.ext
  have hask : askErr d x (membersL k m2) = 0 := by rw [show m2 = x.suspects.length by omega]; exact ask_members h0 k
  have cc := c_r48explains (c := c') ((hd.ext x01).more (D' := fun _ => True) fun _ _ _ => trivial) ((hx.ext x01).more fun _ _ _ => trivial) sset hask
  have efk : explB d x (membersL k m2) = f k := by rw [hf, show S = m2 by omega]; show _ = explV d x _; unfold explV; rw [if_pos hask]
  rw [efk] at cc
  refine call_of cc ?_
  rintro _ u2 ⟨rfl, y2⟩
  refine strK y2.any ?_
  refine lit [.bool (f k)] (fun q u3 hq => ?_)
  refine strK hq.ext.any ?_
  have xe := (oM.ext.trans y2).trans hq.ext
  refine appF (own.then xe) (hq.src (sz := 1) rfl) (by omega) (fun A3 c3 u4 o4 k4 hA => ?_)
  refine strK k4 ?_
  refine arI (by omega) ?_
  refine next4 (k + 1) A3 (n + 1) c3 ⟨by rw [Int.natCast_add]; rfl, rfl, trivial⟩ ⟨by omega, ?_⟩ (by omega)
  rw [List.range_succ, List.map_append, List.map_append]
  exact o4
end
end Go.Proofs.YtcpdhclnmjfldaaGreat
