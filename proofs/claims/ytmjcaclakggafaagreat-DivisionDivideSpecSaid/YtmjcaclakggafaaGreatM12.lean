/- Parts of the proof: Dn Ds Za. -/
import Derived.Test.YtmjcaclakggafaaGreatM11
import Derived.Test.YtmjcaclakggafaaGreatM10
import Derived.Test.YtmjcaclakggafaaGreatM8
import Derived.Test.YtmjcaclakggafaaGreatM7
import Derived.Test.YtmjcaclakggafaaGreatRows
import Derived.Stop.LaidErr

/- Layer 41's reference: Divide, Same. (Printed by gen_XDn.py.) -/
namespace Go.Proofs.YtmjcaclakggafaaGreat
open Go Go.RowKit

/-- The reference's lists on the way: what is known is right. -/
structure RefK (d : Dist) (hd aw : List Int) (mk : List Mk) (rh ra : List Int) (rm : List Mk) (i k : Nat) : Prop where
  lh : rh.length = d.reaches.length
  la : ra.length = d.farms.length
  lm : rm.length = d.reaches.length
  oh : OkL rh
  oa : OkL ra
  don : ∀ j, j < i → clA rh j = clA hd j
  kn : ∀ j, j < d.reaches.length → (j = 0 ∨ (rcC d j).up < i ∨ ∃ q, q < k ∧ (ptsV d i)[q]? = some (false, j)) → cut d j (clA rh j) = clA hd j
  fk : ∀ f, f < d.farms.length → ((fmC d f).reach < i ∨ ∃ q, q < k ∧ (ptsV d i)[q]? = some (true, f)) → clA ra f = clA aw f
  mkk : ∀ j, j < i → mkA rm j = mkA mk j
section
variable {d : Dist} {cl hs hd aw rh ra : List Int} {mk rm : List Mk} {E : Int} {i k : Nat}
theorem cut_idem {r : Nat} {n : Int} : cut d r (cut d r n) = cut d r n := by
  unfold cut
  by_cases h : n < (rcC d r).siphon
  · rw [if_pos h]; split <;> rfl
  · rw [if_neg h, if_neg h]
theorem RefK.start (R : Rdy d cl hs) (DV : DivV d cl hs E hd aw mk) (hE : 0 ≤ E) : RefK d hd aw mk ((List.replicate d.reaches.length 0).set 0 (min E (clA hs 0))) (List.replicate d.farms.length 0) (List.replicate d.reaches.length Mk.none) 0 0 := by
  have h0 := clA_ok R.okh 0
  have hn := R.v.n
  refine ⟨by rw [List.length_set, List.length_replicate], List.length_replicate .., List.length_replicate .., okL_set okL_zero (by omega), okL_zero, fun j hj => by omega, fun j hj h => ?_, fun f hf h => ?_, fun j hj => by omega⟩
  · rcases h with rfl | h | ⟨q, hq, -⟩
    · rw [clA_set (by rw [List.length_replicate]; exact hn.1), if_pos rfl, DV.top]
    · by_cases e : j = 0
      · subst e; rw [clA_set (by rw [List.length_replicate]; exact hn.1), if_pos rfl, DV.top]
      · have := R.v.up j (by omega) hj; omega
    · omega
  · rcases h with h | ⟨q, hq, -⟩
    · have := R.v.fm f hf; omega
    · omega
/-- The head of the reach i is cut. -/
theorem RefK.cutI (K : RefK d hd aw mk rh ra rm i 0) (R : Rdy d cl hs) (hi : i < d.reaches.length) : RefK d hd aw mk (rh.set i (clA hd i)) ra rm i 0 ∧ cut d i (clA rh i) = clA hd i := by
  have hk : cut d i (clA rh i) = clA hd i := K.kn i hi (by
    by_cases e : i = 0
    · exact .inl e
    · have := R.v.up i (by omega) hi; exact .inr (.inl (by omega)))
  have hl : i < rh.length := by have := K.lh; omega
  have hb := cut_b (d := d) (r := i) (clA_ok K.oh i).1
  have := (clA_ok K.oh i).2
  refine ⟨⟨by rw [List.length_set]; exact K.lh, K.la, K.lm, okL_set K.oh (by omega), K.oa, fun j hj => ?_, fun j hj h => ?_, K.fk, K.mkk⟩, hk⟩
  · rw [clA_set hl, if_neg (by omega)]; exact K.don j hj
  · rw [clA_set hl]
    by_cases e : i = j
    · subst e; rw [if_pos rfl, ← hk, cut_idem]
    · rw [if_neg e]; exact K.kn j hj h
theorem RefK.mark (K : RefK d hd aw mk rh ra rm i 0) : ∀ (_hi : i < d.reaches.length), (∀ j, j < i → mkA (rm.set i (mkA mk i)) j = mkA mk j) ∧ (rm.set i (mkA mk i)).length = d.reaches.length ∧ mkA (rm.set i (mkA mk i)) i = mkA mk i := fun hi => by
  have hl : i < rm.length := by have := K.lm; omega
  refine ⟨fun j hj => ?_, by rw [List.length_set]; exact K.lm, by rw [mkA_set hl, if_pos rfl]⟩
  rw [mkA_set hl, if_neg (by omega)]; exact K.mkk j hj
theorem RefK.marked (K : RefK d hd aw mk rh ra rm i 0) (hi : i < d.reaches.length) : RefK d hd aw mk rh ra (rm.set i (mkA mk i)) i 0 :=
  ⟨K.lh, K.la, (K.mark hi).2.1, K.oh, K.oa, K.don, K.kn, K.fk, (K.mark hi).1⟩
theorem RefK.farm (K : RefK d hd aw mk rh ra rm i k) (DV : DivV d cl hs E hd aw mk) (hi : i < d.reaches.length) {f : Nat} (hk : (ptsV d i)[k]? = some (true, f)) {a : Int} (ha : a = ownV (mkA mk i) (clA (clmV d cl hs i) k) k) (hb : 0 ≤ a ∧ a ≤ 1073741824) : RefK d hd aw mk rh (ra.set f a) rm i (k + 1) := by
  have hf : f < d.farms.length := by
    rcases mem_ptsV.1 (List.mem_of_getElem? hk) with h | h
    · exact h.2.1
    · cases h.1
  have hl : f < ra.length := by have := K.la; omega
  have hv : clA aw f = a := by rw [ha]; exact (DV.at_ i hi).farm k f hk
  refine ⟨K.lh, by rw [List.length_set]; exact K.la, K.lm, K.oh, okL_set K.oa hb, K.don, fun j hj h => K.kn j hj ?_, fun g hg h => ?_, K.mkk⟩
  · rcases h with h | h | ⟨q, hq, hq2⟩
    · exact .inl h
    · exact .inr (.inl h)
    · by_cases e : q = k
      · subst e; rw [hk] at hq2; injection hq2 with h; injection h with h; cases h
      · exact .inr (.inr ⟨q, by omega, hq2⟩)
  · rw [clA_set hl]
    by_cases e : f = g
    · subst e; rw [if_pos rfl, hv]
    · rw [if_neg e]
      refine K.fk g hg ?_
      rcases h with h | ⟨q, hq, hq2⟩
      · exact .inl h
      · by_cases e2 : q = k
        · subst e2; rw [hk] at hq2; injection hq2 with h; injection h with _ h; exact absurd h e
        · exact .inr ⟨q, by omega, hq2⟩
theorem RefK.child (K : RefK d hd aw mk rh ra rm i k) (DV : DivV d cl hs E hd aw mk) (R : Rdy d cl hs) (hi : i < d.reaches.length) {f : Nat} (hk : (ptsV d i)[k]? = some (false, f)) {a : Int} (ha : a = ownV (mkA mk i) (clA (clmV d cl hs i) k) k) (hb : 0 ≤ a ∧ a ≤ 1073741824) : RefK d hd aw mk (rh.set f a) ra rm i (k + 1) := by
  have hc := R.v.child (List.mem_of_getElem? hk)
  have hl : f < rh.length := by have := K.lh; omega
  have hv : clA hd f = cut d f a := by rw [ha]; exact (DV.at_ i hi).child k f hk
  refine ⟨by rw [List.length_set]; exact K.lh, K.la, K.lm, okL_set K.oh hb, K.oa, fun j hj => ?_, fun j hj h => ?_, fun g hg h => K.fk g hg ?_, K.mkk⟩
  · rw [clA_set hl, if_neg (by omega)]; exact K.don j hj
  · rw [clA_set hl]
    by_cases e : f = j
    · subst e; rw [if_pos rfl, hv]
    · rw [if_neg e]
      refine K.kn j hj ?_
      rcases h with h | h | ⟨q, hq, hq2⟩
      · exact .inl h
      · exact .inr (.inl h)
      · by_cases e2 : q = k
        · subst e2; rw [hk] at hq2; injection hq2 with h; injection h with _ h; exact absurd h e
        · exact .inr (.inr ⟨q, by omega, hq2⟩)
  · rcases h with h | ⟨q, hq, hq2⟩
    · exact .inl h
    · by_cases e : q = k
      · subst e; rw [hk] at hq2; injection hq2 with h; injection h with h; cases h
      · exact .inr ⟨q, by omega, hq2⟩
theorem RefK.done (K : RefK d hd aw mk rh ra rm i k) (hk : (ptsV d i).length ≤ k) (hh : clA rh i = clA hd i) (hm : mkA rm i = mkA mk i) : RefK d hd aw mk rh ra rm (i + 1) 0 := by
  refine ⟨K.lh, K.la, K.lm, K.oh, K.oa, fun j hj => ?_, fun j hj h => K.kn j hj ?_, fun f hf h => K.fk f hf ?_, fun j hj => ?_⟩
  · by_cases e : j = i
    · rw [e]; exact hh
    · exact K.don j (by omega)
  · rcases h with h | h | ⟨q, hq, -⟩
    · exact .inl h
    · by_cases e : (rcC d j).up = i
      · obtain ⟨q, hq⟩ := List.getElem?_of_mem (mem_ptsV.2 (.inr ⟨rfl, hj, e⟩) : (false, j) ∈ ptsV d i)
        exact .inr (.inr ⟨q, by have := (List.getElem?_eq_some_iff.1 hq).1; omega, hq⟩)
      · exact .inr (.inl (by omega))
    · omega
  · rcases h with h | ⟨q, hq, -⟩
    · by_cases e : (fmC d f).reach = i
      · obtain ⟨q, hq⟩ := List.getElem?_of_mem (mem_ptsV.2 (.inl ⟨rfl, hf, e⟩) : (true, f) ∈ ptsV d i)
        exact .inr ⟨q, by have := (List.getElem?_eq_some_iff.1 hq).1; omega, hq⟩
      · exact .inl (by omega)
    · omega
  · by_cases e : j = i
    · rw [e]; exact hm
    · exact K.mkk j (by omega)
theorem RefK.fin (K : RefK d hd aw mk rh ra rm d.reaches.length 0) (R : Rdy d cl hs) (DV : DivV d cl hs E hd aw mk) : rh = hd ∧ ra = aw ∧ rm = mk := by
  have ext : ∀ {l l' : List Int} {n : Nat}, l.length = n → l'.length = n → (∀ i, i < n → clA l i = clA l' i) → l = l' := fun {l l' n} h1 h2 h => by
    refine List.ext_getElem (by omega) fun i q1 q2 => ?_
    have := h i (by omega)
    rwa [clA_at (List.getElem?_eq_getElem q1), clA_at (List.getElem?_eq_getElem q2)] at this
  refine ⟨ext K.lh DV.lh K.don, ext K.la DV.la fun f hf => K.fk f hf (.inl ?_), List.ext_getElem (by rw [K.lm, DV.lm]) fun j q1 q2 => ?_⟩
  · have := R.v.fm f hf; omega
  · have := K.mkk j (by rw [← K.lm]; exact q1)
    unfold mkA at this
    rwa [List.getD_eq_getElem?_getD, List.getD_eq_getElem?_getD, List.getElem?_eq_getElem q1, List.getElem?_eq_getElem q2] at this
end
section
variable {D : Nat → Prop} {w : World}
set_option maxRecDepth 4000 in
theorem c_r40AwardN {E : Int} {m : Mk} {l : List Int} {A : Option Addr} {n c : Nat} (hl : SlR tInt D w A n l) (hm : MarkOf E l m) : CallZ Tryz.prog 39 #[iv E, .slice A n c] w (fun v w' => ∃ A' n' c', v = .tuple #[.slice A' n' c', iv (tErr E l)] ∧ SlR tInt (fun b => w.heap.size ≤ b) w' A' n' (awX E l m) ∧ Ext w w') := by
  have l1 := hl.len
  refine fn_rule (args := [iv E, .slice A n c]) Tryz.func39 (by kernel_rfl) ?_
  refine call_of (c_r40Thr hl hm) ?_
  rintro _ w1 ⟨rfl, x1⟩
  obtain ⟨e, hee⟩ : ∃ e, e = tErr E l := ⟨_, rfl⟩
  rw [← hee]
  refine alloc (fun b w2 h2 => ?_)
  refine stA (vs := encM m) h2.blk rfl (Nat.le_of_ble_eq_true rfl) (by simp [Value.oneCell']) (fun w3 B k3 z3 => ?_)
  have B : Blk w3 b 92 (encM m) := B
  have e2 := h2.at_
  have x3 : Ext w w3 := (x1.trans h2.ext).then k3 fun b hb _ e => by have := x1.size; omega
  refine cN (fun g => ?_) (fun g => ?_)
  · exact ret2 (.slice none 0 0) (iv e) rfl rfl ⟨none, 0, 0, rfl, by unfold awX; rw [if_neg (by rw [← hee]; exact g)]; exact .nil, x3⟩
  have he : tErr E l = 0 := by rw [← hee]; exact g
  obtain ⟨hlen, hcl, -⟩ := tErr_no he
  have hvm := hm.vm he
  have aw := hm.awd he
  refine lit (n := 0) [] (fun g0 w4 h4 => ?_)
  have own0 : OwnF w3 w4 (some (ad g0 0)) 0 0 3 1 [] := .lit (.refl _ _) h4 rfl
  refine loop_rule (fun s : Nat × Option Addr × Nat => [(9, iv (s.1 : Int)), (8, .slice s.2.1 s.1 s.2.2)]) (fun s u => s.1 ≤ n ∧ OwnF w3 u s.2.1 s.1 s.2.2 3 1 ((awL m (l.take s.1)).map fun k => .int .i64 k)) (fun s _ => n - s.1) (0, some (ad g0 0), 0) ⟨rfl, rfl, trivial⟩ ⟨by omega, own0⟩ rfl ?_
  rintro G ⟨k, C, cb⟩ u ⟨hk, own⟩
  refine len ?_
  refine cD (fun hlt => ?_) (fun hge => ?_)
  · have hlt : k < n := by omega
    obtain ⟨b', o, cs, a, rfl, ha, -, -, hc, rfl, hi⟩ := (hl.ext x3).at_ hlt
    have hac := hcl a (List.mem_of_getElem? ha)
    refine drawP (.take 0 (.take 1 (.take 2 (.take 3 (.take 4 (.take 5 (.take 6 (.eff 7 (.eff 8 (.eff 9 (.take 10 .done))))))))))) [] (fun z => Ext w3 z) mx (by kernel_rfl) own.ext ?_
    refine ldAX (encM m) (.blk B) rfl (.refl _ _) ?_
    refine idx k rfl hlt ?_
    refine ldX (iv a) (hc 0 _ rfl) (.refl _ _) ?_
    refine call_of (c_r40own (m := m) (c := a) (i := (k : Int)) hvm hac) ?_
    rintro _ u1 ⟨rfl, y1⟩
    refine strS (own.ext.trans y1) ?_
    refine lit [iv (ownV m a k)] (fun g u2 hq => ?_)
    refine strS ((own.ext.trans y1).trans hq.ext) ?_
    refine appF (own.then (y1.trans hq.ext)) (hq.src (sz := 1) rfl) (by omega) (fun A' c' u3 o3 _ _ => ?_)
    refine strS o3.ext ?_
    refine arI (by omega) ?_
    refine next (k + 1, A', c') ⟨by rw [Int.natCast_add]; rfl, rfl, trivial⟩ ⟨by omega, ?_⟩ (by simp only; omega)
    rw [awL_snoc ha, List.map_append]; exact o3
  · have hkn : k = n := by omega
    subst hkn
    rw [List.take_of_length_le (by omega)] at own
    refine ret2 (.slice C k cb) (iv 0) rfl rfl ⟨C, k, cb, by rw [g], ?_, x3.trans own.ext⟩
    unfold awX
    rw [if_pos he]
    exact (own.is (awL_small aw hcl) (by omega)).more (by decide) fun b _ h => Nat.le_trans x3.size h
set_option maxRecDepth 8000 in
set_option maxHeartbeats 4000000 in
theorem c_rDiv {csd : List Value} {d : Dist} {cl hsR hd aw : List Int} {mk : List Mk} {A : Option Addr} {n c : Nat} {E : Int} (hdi : DiR D w csd d) (hl : SlR tInt D w A n cl) (hdat : dvErr d cl E = 0 → needsV d cl = some hsR ∧ Rdy d cl hsR ∧ DivV d cl hsR E hd aw mk ∧ OkL hd ∧ OkL aw) :
    CallZ Tryz.prog 15 #[.agg csd.toArray, .slice A n c, iv E] w (fun v w' => ∃ H nh ch G ng cg M nm cm, v = .tuple #[.agg #[.slice H nh ch, .slice G ng cg, .slice M nm cm], iv (dvErr d cl E)] ∧ Ext w w' ∧ (dvErr d cl E ≠ 0 → (H = none ∧ nh = 0) ∧ (G = none ∧ ng = 0) ∧ (M = none ∧ nm = 0)) ∧
      (dvErr d cl E = 0 → nh = d.reaches.length ∧ ng = d.farms.length ∧ nm = d.reaches.length ∧ ∃ bh ba bm, H = some (ad bh 0) ∧ G = some (ad ba 0) ∧ M = some (ad bm 0) ∧ Blk w' bh 3 (ivs hd) ∧ Blk w' ba 3 (ivs aw) ∧ Blk w' bm 92 (mks mk))) := by
  have hd0 := hdi
  obtain ⟨A1, n1, c1, A2, n2, c2, A3, n3, c3, A4, n4, c4, A5, n5, c5, A6, n6, c6, rfl, hr, hf, -⟩ := hdi.ex
  have lr := hr.len
  have lf := hf.len
  have ll := hl.len
  refine fn_rule (args := [.agg #[.string d.name, iv d.hours, iv d.cap, iv d.start, .slice A1 n1 c1, .slice A2 n2 c2, .slice A3 n3 c3, .slice A4 n4 c4, .slice A5 n5 c5, .slice A6 n6 c6], .slice A n c, iv E]) Tryz.func15 (by kernel_rfl) ?_
  refine box (fun b3 w1 h1 => ?_)
  refine alloc (fun b6 w2 h2 => ?_)
  have e1 := h1.at_
  have e2 := h2.at_
  have s1 := h1.size
  have s2 := h2.size
  have x2 := h1.ext.trans h2.ext
  have B3 : Blk w2 b3 31 [.string d.name, iv d.hours, iv d.cap, iv d.start, .slice A1 n1 c1, .slice A2 n2 c2, .slice A3 n3 c3, .slice A4 n4 c4, .slice A5 n5 c5, .slice A6 n6 c6] := h1.blk.ext h2.ext
  have B6 : Blk w2 b6 46 [.slice none 0 0, .slice none 0 0, .slice none 0 0] := h2.blk
  refine ldA [.string d.name, iv d.hours, iv d.cap, iv d.start, .slice A1 n1 c1, .slice A2 n2 c2, .slice A3 n3 c3, .slice A4 n4 c4, .slice A5 n5 c5, .slice A6 n6 c6] (.blk B3) rfl ?_
  refine call_of (c_rNd (hd0.ext x2) (hl.ext x2)) ?_
  rintro _ w3 ⟨Bn, nb, cb, ok, rfl, x3, hN0, hN1, hN2⟩
  have x03 := x2.trans x3
  have B3 := B3.ext x3
  have B6 := B6.ext x3
  have z3 := x3.size
  have z2 := x2.size
  have errs : ∀ e : Int, dvErr d cl E = e → e ≠ 0 → ∀ w4, Blk w4 b6 46 [.slice none 0 0, .slice none 0 0, .slice none 0 0] → Kept (fun b => b ≠ b6) w3 w4 → (∃ H nh ch G ng cg M nm cm, Value.tuple #[.agg #[.slice none 0 0, .slice none 0 0, .slice none 0 0], iv e] = .tuple #[.agg #[.slice H nh ch, .slice G ng cg, .slice M nm cm], iv (dvErr d cl E)] ∧ Ext w w4 ∧ (dvErr d cl E ≠ 0 → (H = none ∧ nh = 0) ∧ (G = none ∧ ng = 0) ∧ (M = none ∧ nm = 0)) ∧
      (dvErr d cl E = 0 → nh = d.reaches.length ∧ ng = d.farms.length ∧ nm = d.reaches.length ∧ ∃ bh ba bm, H = some (ad bh 0) ∧ G = some (ad ba 0) ∧ M = some (ad bm 0) ∧ Blk w4 bh 3 (ivs hd) ∧ Blk w4 ba 3 (ivs aw) ∧ Blk w4 bm 92 (mks mk))) := fun e he hne w4 _ k4 =>
    ⟨_, _, _, _, _, _, _, _, _, by rw [he], x03.then k4 fun b hb _ e => by omega, fun _ => ⟨⟨rfl, rfl⟩, ⟨rfl, rfl⟩, rfl, rfl⟩, fun q => absurd (he.symm.trans q) hne⟩
  refine cN (fun g => ?_) (fun g => ?_)
  · refine bld [.slice none 0 0, .slice none 0 0, .slice none 0 0] (by kernel_rfl) ?_
    refine stA (vs := [.slice none 0 0, .slice none 0 0, .slice none 0 0]) B6 rfl (Nat.le_of_ble_eq_true rfl) (by simp [Value.oneCell']) (fun w4 C4 k4 z4 => ?_)
    have C4 : Blk w4 b6 46 [.slice none 0 0, .slice none 0 0, .slice none 0 0] := C4
    refine ret ?_
    refine resL _ (holds_agg (CellsAt.blk C4) rfl) ?_
    have e0 : dvErr d cl E = divErr d cl := by
      have h : openErr d cl = divErr d cl := by unfold openErr; rw [if_pos g]
      unfold dvErr; rw [h, if_pos g]
    exact errs _ e0 g w4 C4 k4
  have g : divErr d cl = 0 := g
  rcases hN1 g with ⟨rfl, hno⟩ | ⟨rfl, hs, bs, hne, rfl, rfl, hbs, Bs⟩
  · refine bld [.slice none 0 0, .slice none 0 0, .slice none 0 0] (by kernel_rfl) ?_
    refine stA (vs := [.slice none 0 0, .slice none 0 0, .slice none 0 0]) B6 rfl (Nat.le_of_ble_eq_true rfl) (by simp [Value.oneCell']) (fun w4 C4 k4 z4 => ?_)
    have C4 : Blk w4 b6 46 [.slice none 0 0, .slice none 0 0, .slice none 0 0] := C4
    refine ret ?_
    refine resL _ (holds_agg (CellsAt.blk C4) rfl) ?_
    have e0 : dvErr d cl E = 410 := by
      have h : openErr d cl = 410 := by unfold openErr; rw [if_neg (fun h => h g), if_pos hno]
      unfold dvErr; rw [h]; rfl
    exact errs 410 e0 (by decide) w4 C4 k4
  have ho : openErr d cl = 0 := openErr_ok.2 ⟨g, hs, hne⟩
  have e0 : dvErr d cl E = if 0 ≤ E ∧ E ≤ 1099511627776 then 0 else 1 := by unfold dvErr; rw [if_neg (fun h => h ho)]
  refine cD (fun gE => ?_) (fun gE => ?_)
  · refine bld [.slice none 0 0, .slice none 0 0, .slice none 0 0] (by kernel_rfl) ?_
    refine stA (vs := [.slice none 0 0, .slice none 0 0, .slice none 0 0]) B6 rfl (Nat.le_of_ble_eq_true rfl) (by simp [Value.oneCell']) (fun w4 C4 k4 z4 => ?_)
    have C4 : Blk w4 b6 46 [.slice none 0 0, .slice none 0 0, .slice none 0 0] := C4
    refine ret ?_
    refine resL _ (holds_agg (CellsAt.blk C4) rfl) ?_
    exact errs 1 (by rw [e0, if_neg (by omega)]) (by decide) w4 C4 k4
  refine cD (fun gF => ?_) (fun gF => ?_)
  · refine bld [.slice none 0 0, .slice none 0 0, .slice none 0 0] (by kernel_rfl) ?_
    refine stA (vs := [.slice none 0 0, .slice none 0 0, .slice none 0 0]) B6 rfl (Nat.le_of_ble_eq_true rfl) (by simp [Value.oneCell']) (fun w4 C4 k4 z4 => ?_)
    have C4 : Blk w4 b6 46 [.slice none 0 0, .slice none 0 0, .slice none 0 0] := C4
    refine ret ?_
    refine resL _ (holds_agg (CellsAt.blk C4) rfl) ?_
    exact errs 1 (by rw [e0, if_neg (by omega)]) (by decide) w4 C4 k4
  have hE : 0 ≤ E ∧ E ≤ 1099511627776 := by omega
  have e0 : dvErr d cl E = 0 := by rw [e0, if_pos hE]
  obtain ⟨hne2, R, DV, oh, oa⟩ := hdat e0
  rw [hne] at hne2; injection hne2 with hne2; subst hne2
  have hvn := R.v.n
  have hvf := R.v.f
  have lbs := Bs.lt
  obtain ⟨w5, hw5⟩ : ∃ w5, w5 = w3 := ⟨_, rfl⟩
  rw [← hw5] at B3 B6 Bs x03 z3 lbs ⊢
  -- the three lists
  refine draw_slot 11 (fun v u => ∃ bh ba bm bc, v = ptr bc ∧ Ext w5 u ∧ Blk u bc 46 [.slice (some (ad bh 0)) n1 n1, .slice (some (ad ba 0)) n2 n2, .slice (some (ad bm 0)) n1 n1] ∧ Blk u bh 3 (ivs (List.replicate n1 0)) ∧ Blk u ba 3 (ivs (List.replicate n2 0)) ∧ Blk u bm 92 (mks (List.replicate n1 Mk.none)) ∧ (w5.heap.size ≤ bh ∧ w5.heap.size ≤ ba ∧ w5.heap.size ≤ bm ∧ w5.heap.size ≤ bc) ∧ (bc ≠ bh ∧ bc ≠ ba ∧ bc ≠ bm) ∧ bh ≠ ba ∧ bh ≠ bm ∧ ba ≠ bm) ?_ ?_
  · refine drawP (.take 0 (.take 1 (.take 2 (.take 4 (.take 5 (.take 6 (.take 8 (.take 9 (.take 10 (.alt 3 (.alt 7 (.alt 11 (.take 12 (.eff 13 (.eff 14 .done))) (.eff 13 (.eff 11 (.take 12 (.eff 14 .done))))) (.alt 11 (.alt 7 (.take 12 (.eff 13 (.eff 14 .done))) (.eff 13 (.eff 7 (.take 12 (.eff 14 .done))))) (.eff 13 (.alt 7 (.eff 11 (.take 12 (.eff 14 .done))) (.eff 11 (.eff 7 (.take 12 (.eff 14 .done)))))))) (.alt 7 (.alt 3 (.alt 11 (.take 12 (.eff 13 (.eff 14 .done))) (.eff 13 (.eff 11 (.take 12 (.eff 14 .done))))) (.alt 11 (.alt 3 (.take 12 (.eff 13 (.eff 14 .done))) (.eff 13 (.eff 3 (.take 12 (.eff 14 .done))))) (.eff 13 (.alt 3 (.eff 11 (.take 12 (.eff 14 .done))) (.eff 11 (.eff 3 (.take 12 (.eff 14 .done)))))))) (.alt 11 (.alt 3 (.alt 7 (.take 12 (.eff 13 (.eff 14 .done))) (.eff 13 (.eff 7 (.take 12 (.eff 14 .done))))) (.alt 7 (.alt 3 (.take 12 (.eff 13 (.eff 14 .done))) (.eff 13 (.eff 3 (.take 12 (.eff 14 .done))))) (.eff 13 (.alt 3 (.eff 7 (.take 12 (.eff 14 .done))) (.eff 7 (.eff 3 (.take 12 (.eff 14 .done)))))))) (.eff 13 (.alt 3 (.alt 7 (.eff 11 (.take 12 (.eff 14 .done))) (.eff 11 (.eff 7 (.take 12 (.eff 14 .done))))) (.alt 7 (.alt 3 (.eff 11 (.take 12 (.eff 14 .done))) (.eff 11 (.eff 3 (.take 12 (.eff 14 .done))))) (.eff 11 (.alt 3 (.eff 7 (.take 12 (.eff 14 .done))) (.eff 7 (.eff 3 (.take 12 (.eff 14 .done))))))))))))))))))))) [] (fun u => Ext w5 u) mx (by kernel_rfl) (.refl _ _) ?_
    refine fldA ?_
    refine ldK (.slice A1 n1 c1) (B3.cell rfl) trivial (.refl _ _) ?_
    refine len ?_
    refine fldA ?_
    refine ldK (.slice A2 n2 c2) (B3.cell rfl) trivial (.refl _ _) ?_
    refine len ?_
    refine fldA ?_
    refine ldK (.slice A1 n1 c1) (B3.cell rfl) trivial (.refl _ _) ?_
    refine len ?_
    refine ⟨?_, ?_⟩
    · refine mslc (sz := 1) (zv := iv 0) n1 rfl rfl (by omega) (by omega) rfl (by decide) (fun bh u1 i1 => ?_)
      refine strS i1.ext ?_
      refine ⟨?_, ?_⟩
      · refine mslc (sz := 1) (zv := iv 0) n2 rfl rfl (by omega) (by omega) rfl (by decide) (fun ba u2 i2 => ?_)
        refine strS (i1.ext.trans i2.ext) ?_
        refine ⟨?_, ?_⟩
        · refine mslc (sz := 4) (zv := .agg #[.bool false, iv 0, iv 0, iv 0]) n1 rfl rfl (by omega) (by omega) rfl (by decide) (fun bm u3 i3 => ?_)
          refine strS ((i1.ext.trans i2.ext).trans i3.ext) ?_
          refine bld [.slice (some (ad bh 0)) n1 n1, .slice (some (ad ba 0)) n2 n2, .slice (some (ad bm 0)) n1 n1] (by kernel_rfl) ?_
          refine alloc (fun bc u4 i4 => ?_)
          refine strS (((i1.ext.trans i2.ext).trans i3.ext).trans i4.ext) ?_
          have xx := (((i1.ext.trans i2.ext).trans i3.ext).trans i4.ext)
          have y1 := i1.at_
          have q1 := i1.size
          have y2 := i2.at_
          have q2 := i2.size
          have y3 := i3.at_
          have q3 := i3.size
          have y4 := i4.at_
          have q4 := i4.size
          refine stA (vs := [.slice (some (ad bh 0)) n1 n1, .slice (some (ad ba 0)) n2 n2, .slice (some (ad bm 0)) n1 n1]) i4.blk rfl (Nat.le_of_ble_eq_true rfl) (by simp [Value.oneCell']) (fun u5 b5 k5 z5 => ?_)
          have kk : Ext w5 u5 := xx.then k5 fun b hb _ e => by omega
          refine strS kk ?_
          exact ⟨bh, ba, bm, bc, rfl, kk, b5, by rw [zI']; exact (((i1.blk.ext i2.ext).ext i3.ext).ext i4.ext).kept k5 (by omega), by rw [zI']; exact ((i2.blk.ext i3.ext).ext i4.ext).kept k5 (by omega), by rw [zM]; exact (i3.blk.ext i4.ext).kept k5 (by omega), ⟨by omega, by omega, by omega, by omega⟩, ⟨by omega, by omega, by omega⟩, by omega, by omega, by omega⟩
        · refine alloc (fun bc u3 i3 => ?_)
          refine strS ((i1.ext.trans i2.ext).trans i3.ext) ?_
          refine mslc (sz := 4) (zv := .agg #[.bool false, iv 0, iv 0, iv 0]) n1 rfl rfl (by omega) (by omega) rfl (by decide) (fun bm u4 i4 => ?_)
          refine strS (((i1.ext.trans i2.ext).trans i3.ext).trans i4.ext) ?_
          refine bld [.slice (some (ad bh 0)) n1 n1, .slice (some (ad ba 0)) n2 n2, .slice (some (ad bm 0)) n1 n1] (by kernel_rfl) ?_
          have xx := (((i1.ext.trans i2.ext).trans i3.ext).trans i4.ext)
          have y1 := i1.at_
          have q1 := i1.size
          have y2 := i2.at_
          have q2 := i2.size
          have y3 := i3.at_
          have q3 := i3.size
          have y4 := i4.at_
          have q4 := i4.size
          refine stA (vs := [.slice (some (ad bh 0)) n1 n1, .slice (some (ad ba 0)) n2 n2, .slice (some (ad bm 0)) n1 n1]) (i3.blk.ext i4.ext) rfl (Nat.le_of_ble_eq_true rfl) (by simp [Value.oneCell']) (fun u5 b5 k5 z5 => ?_)
          have kk : Ext w5 u5 := xx.then k5 fun b hb _ e => by omega
          refine strS kk ?_
          exact ⟨bh, ba, bm, bc, rfl, kk, b5, by rw [zI']; exact (((i1.blk.ext i2.ext).ext i3.ext).ext i4.ext).kept k5 (by omega), by rw [zI']; exact ((i2.blk.ext i3.ext).ext i4.ext).kept k5 (by omega), by rw [zM]; exact i4.blk.kept k5 (by omega), ⟨by omega, by omega, by omega, by omega⟩, ⟨by omega, by omega, by omega⟩, by omega, by omega, by omega⟩
      · refine ⟨?_, ?_⟩
        · refine mslc (sz := 4) (zv := .agg #[.bool false, iv 0, iv 0, iv 0]) n1 rfl rfl (by omega) (by omega) rfl (by decide) (fun bm u2 i2 => ?_)
          refine strS (i1.ext.trans i2.ext) ?_
          refine ⟨?_, ?_⟩
          · refine mslc (sz := 1) (zv := iv 0) n2 rfl rfl (by omega) (by omega) rfl (by decide) (fun ba u3 i3 => ?_)
            refine strS ((i1.ext.trans i2.ext).trans i3.ext) ?_
            refine bld [.slice (some (ad bh 0)) n1 n1, .slice (some (ad ba 0)) n2 n2, .slice (some (ad bm 0)) n1 n1] (by kernel_rfl) ?_
            refine alloc (fun bc u4 i4 => ?_)
            refine strS (((i1.ext.trans i2.ext).trans i3.ext).trans i4.ext) ?_
            have xx := (((i1.ext.trans i2.ext).trans i3.ext).trans i4.ext)
            have y1 := i1.at_
            have q1 := i1.size
            have y2 := i2.at_
            have q2 := i2.size
            have y3 := i3.at_
            have q3 := i3.size
            have y4 := i4.at_
            have q4 := i4.size
            refine stA (vs := [.slice (some (ad bh 0)) n1 n1, .slice (some (ad ba 0)) n2 n2, .slice (some (ad bm 0)) n1 n1]) i4.blk rfl (Nat.le_of_ble_eq_true rfl) (by simp [Value.oneCell']) (fun u5 b5 k5 z5 => ?_)
            have kk : Ext w5 u5 := xx.then k5 fun b hb _ e => by omega
            refine strS kk ?_
            exact ⟨bh, ba, bm, bc, rfl, kk, b5, by rw [zI']; exact (((i1.blk.ext i2.ext).ext i3.ext).ext i4.ext).kept k5 (by omega), by rw [zI']; exact (i3.blk.ext i4.ext).kept k5 (by omega), by rw [zM]; exact ((i2.blk.ext i3.ext).ext i4.ext).kept k5 (by omega), ⟨by omega, by omega, by omega, by omega⟩, ⟨by omega, by omega, by omega⟩, by omega, by omega, by omega⟩
          · refine alloc (fun bc u3 i3 => ?_)
            refine strS ((i1.ext.trans i2.ext).trans i3.ext) ?_
            refine mslc (sz := 1) (zv := iv 0) n2 rfl rfl (by omega) (by omega) rfl (by decide) (fun ba u4 i4 => ?_)
            refine strS (((i1.ext.trans i2.ext).trans i3.ext).trans i4.ext) ?_
            refine bld [.slice (some (ad bh 0)) n1 n1, .slice (some (ad ba 0)) n2 n2, .slice (some (ad bm 0)) n1 n1] (by kernel_rfl) ?_
            have xx := (((i1.ext.trans i2.ext).trans i3.ext).trans i4.ext)
            have y1 := i1.at_
            have q1 := i1.size
            have y2 := i2.at_
            have q2 := i2.size
            have y3 := i3.at_
            have q3 := i3.size
            have y4 := i4.at_
            have q4 := i4.size
            refine stA (vs := [.slice (some (ad bh 0)) n1 n1, .slice (some (ad ba 0)) n2 n2, .slice (some (ad bm 0)) n1 n1]) (i3.blk.ext i4.ext) rfl (Nat.le_of_ble_eq_true rfl) (by simp [Value.oneCell']) (fun u5 b5 k5 z5 => ?_)
            have kk : Ext w5 u5 := xx.then k5 fun b hb _ e => by omega
            refine strS kk ?_
            exact ⟨bh, ba, bm, bc, rfl, kk, b5, by rw [zI']; exact (((i1.blk.ext i2.ext).ext i3.ext).ext i4.ext).kept k5 (by omega), by rw [zI']; exact i4.blk.kept k5 (by omega), by rw [zM]; exact ((i2.blk.ext i3.ext).ext i4.ext).kept k5 (by omega), ⟨by omega, by omega, by omega, by omega⟩, ⟨by omega, by omega, by omega⟩, by omega, by omega, by omega⟩
        · refine alloc (fun bc u2 i2 => ?_)
          refine strS (i1.ext.trans i2.ext) ?_
          refine ⟨?_, ?_⟩
          · refine mslc (sz := 1) (zv := iv 0) n2 rfl rfl (by omega) (by omega) rfl (by decide) (fun ba u3 i3 => ?_)
            refine strS ((i1.ext.trans i2.ext).trans i3.ext) ?_
            refine mslc (sz := 4) (zv := .agg #[.bool false, iv 0, iv 0, iv 0]) n1 rfl rfl (by omega) (by omega) rfl (by decide) (fun bm u4 i4 => ?_)
            refine strS (((i1.ext.trans i2.ext).trans i3.ext).trans i4.ext) ?_
            refine bld [.slice (some (ad bh 0)) n1 n1, .slice (some (ad ba 0)) n2 n2, .slice (some (ad bm 0)) n1 n1] (by kernel_rfl) ?_
            have xx := (((i1.ext.trans i2.ext).trans i3.ext).trans i4.ext)
            have y1 := i1.at_
            have q1 := i1.size
            have y2 := i2.at_
            have q2 := i2.size
            have y3 := i3.at_
            have q3 := i3.size
            have y4 := i4.at_
            have q4 := i4.size
            refine stA (vs := [.slice (some (ad bh 0)) n1 n1, .slice (some (ad ba 0)) n2 n2, .slice (some (ad bm 0)) n1 n1]) ((i2.blk.ext i3.ext).ext i4.ext) rfl (Nat.le_of_ble_eq_true rfl) (by simp [Value.oneCell']) (fun u5 b5 k5 z5 => ?_)
            have kk : Ext w5 u5 := xx.then k5 fun b hb _ e => by omega
            refine strS kk ?_
            exact ⟨bh, ba, bm, bc, rfl, kk, b5, by rw [zI']; exact (((i1.blk.ext i2.ext).ext i3.ext).ext i4.ext).kept k5 (by omega), by rw [zI']; exact (i3.blk.ext i4.ext).kept k5 (by omega), by rw [zM]; exact i4.blk.kept k5 (by omega), ⟨by omega, by omega, by omega, by omega⟩, ⟨by omega, by omega, by omega⟩, by omega, by omega, by omega⟩
          · refine mslc (sz := 4) (zv := .agg #[.bool false, iv 0, iv 0, iv 0]) n1 rfl rfl (by omega) (by omega) rfl (by decide) (fun bm u3 i3 => ?_)
            refine strS ((i1.ext.trans i2.ext).trans i3.ext) ?_
            refine mslc (sz := 1) (zv := iv 0) n2 rfl rfl (by omega) (by omega) rfl (by decide) (fun ba u4 i4 => ?_)
            refine strS (((i1.ext.trans i2.ext).trans i3.ext).trans i4.ext) ?_
            refine bld [.slice (some (ad bh 0)) n1 n1, .slice (some (ad ba 0)) n2 n2, .slice (some (ad bm 0)) n1 n1] (by kernel_rfl) ?_
            have xx := (((i1.ext.trans i2.ext).trans i3.ext).trans i4.ext)
            have y1 := i1.at_
            have q1 := i1.size
            have y2 := i2.at_
            have q2 := i2.size
            have y3 := i3.at_
            have q3 := i3.size
            have y4 := i4.at_
            have q4 := i4.size
            refine stA (vs := [.slice (some (ad bh 0)) n1 n1, .slice (some (ad ba 0)) n2 n2, .slice (some (ad bm 0)) n1 n1]) ((i2.blk.ext i3.ext).ext i4.ext) rfl (Nat.le_of_ble_eq_true rfl) (by simp [Value.oneCell']) (fun u5 b5 k5 z5 => ?_)
            have kk : Ext w5 u5 := xx.then k5 fun b hb _ e => by omega
            refine strS kk ?_
            exact ⟨bh, ba, bm, bc, rfl, kk, b5, by rw [zI']; exact (((i1.blk.ext i2.ext).ext i3.ext).ext i4.ext).kept k5 (by omega), by rw [zI']; exact i4.blk.kept k5 (by omega), by rw [zM]; exact (i3.blk.ext i4.ext).kept k5 (by omega), ⟨by omega, by omega, by omega, by omega⟩, ⟨by omega, by omega, by omega⟩, by omega, by omega, by omega⟩
    · refine ⟨?_, ?_⟩
      · refine mslc (sz := 1) (zv := iv 0) n2 rfl rfl (by omega) (by omega) rfl (by decide) (fun ba u1 i1 => ?_)
        refine strS i1.ext ?_
        refine ⟨?_, ?_⟩
        · refine mslc (sz := 1) (zv := iv 0) n1 rfl rfl (by omega) (by omega) rfl (by decide) (fun bh u2 i2 => ?_)
          refine strS (i1.ext.trans i2.ext) ?_
          refine ⟨?_, ?_⟩
          · refine mslc (sz := 4) (zv := .agg #[.bool false, iv 0, iv 0, iv 0]) n1 rfl rfl (by omega) (by omega) rfl (by decide) (fun bm u3 i3 => ?_)
            refine strS ((i1.ext.trans i2.ext).trans i3.ext) ?_
            refine bld [.slice (some (ad bh 0)) n1 n1, .slice (some (ad ba 0)) n2 n2, .slice (some (ad bm 0)) n1 n1] (by kernel_rfl) ?_
            refine alloc (fun bc u4 i4 => ?_)
            refine strS (((i1.ext.trans i2.ext).trans i3.ext).trans i4.ext) ?_
            have xx := (((i1.ext.trans i2.ext).trans i3.ext).trans i4.ext)
            have y1 := i1.at_
            have q1 := i1.size
            have y2 := i2.at_
            have q2 := i2.size
            have y3 := i3.at_
            have q3 := i3.size
            have y4 := i4.at_
            have q4 := i4.size
            refine stA (vs := [.slice (some (ad bh 0)) n1 n1, .slice (some (ad ba 0)) n2 n2, .slice (some (ad bm 0)) n1 n1]) i4.blk rfl (Nat.le_of_ble_eq_true rfl) (by simp [Value.oneCell']) (fun u5 b5 k5 z5 => ?_)
            have kk : Ext w5 u5 := xx.then k5 fun b hb _ e => by omega
            refine strS kk ?_
            exact ⟨bh, ba, bm, bc, rfl, kk, b5, by rw [zI']; exact ((i2.blk.ext i3.ext).ext i4.ext).kept k5 (by omega), by rw [zI']; exact (((i1.blk.ext i2.ext).ext i3.ext).ext i4.ext).kept k5 (by omega), by rw [zM]; exact (i3.blk.ext i4.ext).kept k5 (by omega), ⟨by omega, by omega, by omega, by omega⟩, ⟨by omega, by omega, by omega⟩, by omega, by omega, by omega⟩
          · refine alloc (fun bc u3 i3 => ?_)
            refine strS ((i1.ext.trans i2.ext).trans i3.ext) ?_
            refine mslc (sz := 4) (zv := .agg #[.bool false, iv 0, iv 0, iv 0]) n1 rfl rfl (by omega) (by omega) rfl (by decide) (fun bm u4 i4 => ?_)
            refine strS (((i1.ext.trans i2.ext).trans i3.ext).trans i4.ext) ?_
            refine bld [.slice (some (ad bh 0)) n1 n1, .slice (some (ad ba 0)) n2 n2, .slice (some (ad bm 0)) n1 n1] (by kernel_rfl) ?_
            have xx := (((i1.ext.trans i2.ext).trans i3.ext).trans i4.ext)
            have y1 := i1.at_
            have q1 := i1.size
            have y2 := i2.at_
            have q2 := i2.size
            have y3 := i3.at_
            have q3 := i3.size
            have y4 := i4.at_
            have q4 := i4.size
            refine stA (vs := [.slice (some (ad bh 0)) n1 n1, .slice (some (ad ba 0)) n2 n2, .slice (some (ad bm 0)) n1 n1]) (i3.blk.ext i4.ext) rfl (Nat.le_of_ble_eq_true rfl) (by simp [Value.oneCell']) (fun u5 b5 k5 z5 => ?_)
            have kk : Ext w5 u5 := xx.then k5 fun b hb _ e => by omega
            refine strS kk ?_
            exact ⟨bh, ba, bm, bc, rfl, kk, b5, by rw [zI']; exact ((i2.blk.ext i3.ext).ext i4.ext).kept k5 (by omega), by rw [zI']; exact (((i1.blk.ext i2.ext).ext i3.ext).ext i4.ext).kept k5 (by omega), by rw [zM]; exact i4.blk.kept k5 (by omega), ⟨by omega, by omega, by omega, by omega⟩, ⟨by omega, by omega, by omega⟩, by omega, by omega, by omega⟩
        · refine ⟨?_, ?_⟩
          · refine mslc (sz := 4) (zv := .agg #[.bool false, iv 0, iv 0, iv 0]) n1 rfl rfl (by omega) (by omega) rfl (by decide) (fun bm u2 i2 => ?_)
            refine strS (i1.ext.trans i2.ext) ?_
            refine ⟨?_, ?_⟩
            · refine mslc (sz := 1) (zv := iv 0) n1 rfl rfl (by omega) (by omega) rfl (by decide) (fun bh u3 i3 => ?_)
              refine strS ((i1.ext.trans i2.ext).trans i3.ext) ?_
              refine bld [.slice (some (ad bh 0)) n1 n1, .slice (some (ad ba 0)) n2 n2, .slice (some (ad bm 0)) n1 n1] (by kernel_rfl) ?_
              refine alloc (fun bc u4 i4 => ?_)
              refine strS (((i1.ext.trans i2.ext).trans i3.ext).trans i4.ext) ?_
              have xx := (((i1.ext.trans i2.ext).trans i3.ext).trans i4.ext)
              have y1 := i1.at_
              have q1 := i1.size
              have y2 := i2.at_
              have q2 := i2.size
              have y3 := i3.at_
              have q3 := i3.size
              have y4 := i4.at_
              have q4 := i4.size
              refine stA (vs := [.slice (some (ad bh 0)) n1 n1, .slice (some (ad ba 0)) n2 n2, .slice (some (ad bm 0)) n1 n1]) i4.blk rfl (Nat.le_of_ble_eq_true rfl) (by simp [Value.oneCell']) (fun u5 b5 k5 z5 => ?_)
              have kk : Ext w5 u5 := xx.then k5 fun b hb _ e => by omega
              refine strS kk ?_
              exact ⟨bh, ba, bm, bc, rfl, kk, b5, by rw [zI']; exact (i3.blk.ext i4.ext).kept k5 (by omega), by rw [zI']; exact (((i1.blk.ext i2.ext).ext i3.ext).ext i4.ext).kept k5 (by omega), by rw [zM]; exact ((i2.blk.ext i3.ext).ext i4.ext).kept k5 (by omega), ⟨by omega, by omega, by omega, by omega⟩, ⟨by omega, by omega, by omega⟩, by omega, by omega, by omega⟩
            · refine alloc (fun bc u3 i3 => ?_)
              refine strS ((i1.ext.trans i2.ext).trans i3.ext) ?_
              refine mslc (sz := 1) (zv := iv 0) n1 rfl rfl (by omega) (by omega) rfl (by decide) (fun bh u4 i4 => ?_)
              refine strS (((i1.ext.trans i2.ext).trans i3.ext).trans i4.ext) ?_
              refine bld [.slice (some (ad bh 0)) n1 n1, .slice (some (ad ba 0)) n2 n2, .slice (some (ad bm 0)) n1 n1] (by kernel_rfl) ?_
              have xx := (((i1.ext.trans i2.ext).trans i3.ext).trans i4.ext)
              have y1 := i1.at_
              have q1 := i1.size
              have y2 := i2.at_
              have q2 := i2.size
              have y3 := i3.at_
              have q3 := i3.size
              have y4 := i4.at_
              have q4 := i4.size
              refine stA (vs := [.slice (some (ad bh 0)) n1 n1, .slice (some (ad ba 0)) n2 n2, .slice (some (ad bm 0)) n1 n1]) (i3.blk.ext i4.ext) rfl (Nat.le_of_ble_eq_true rfl) (by simp [Value.oneCell']) (fun u5 b5 k5 z5 => ?_)
              have kk : Ext w5 u5 := xx.then k5 fun b hb _ e => by omega
              refine strS kk ?_
              exact ⟨bh, ba, bm, bc, rfl, kk, b5, by rw [zI']; exact i4.blk.kept k5 (by omega), by rw [zI']; exact (((i1.blk.ext i2.ext).ext i3.ext).ext i4.ext).kept k5 (by omega), by rw [zM]; exact ((i2.blk.ext i3.ext).ext i4.ext).kept k5 (by omega), ⟨by omega, by omega, by omega, by omega⟩, ⟨by omega, by omega, by omega⟩, by omega, by omega, by omega⟩
          · refine alloc (fun bc u2 i2 => ?_)
            refine strS (i1.ext.trans i2.ext) ?_
            refine ⟨?_, ?_⟩
            · refine mslc (sz := 1) (zv := iv 0) n1 rfl rfl (by omega) (by omega) rfl (by decide) (fun bh u3 i3 => ?_)
              refine strS ((i1.ext.trans i2.ext).trans i3.ext) ?_
              refine mslc (sz := 4) (zv := .agg #[.bool false, iv 0, iv 0, iv 0]) n1 rfl rfl (by omega) (by omega) rfl (by decide) (fun bm u4 i4 => ?_)
              refine strS (((i1.ext.trans i2.ext).trans i3.ext).trans i4.ext) ?_
              refine bld [.slice (some (ad bh 0)) n1 n1, .slice (some (ad ba 0)) n2 n2, .slice (some (ad bm 0)) n1 n1] (by kernel_rfl) ?_
              have xx := (((i1.ext.trans i2.ext).trans i3.ext).trans i4.ext)
              have y1 := i1.at_
              have q1 := i1.size
              have y2 := i2.at_
              have q2 := i2.size
              have y3 := i3.at_
              have q3 := i3.size
              have y4 := i4.at_
              have q4 := i4.size
              refine stA (vs := [.slice (some (ad bh 0)) n1 n1, .slice (some (ad ba 0)) n2 n2, .slice (some (ad bm 0)) n1 n1]) ((i2.blk.ext i3.ext).ext i4.ext) rfl (Nat.le_of_ble_eq_true rfl) (by simp [Value.oneCell']) (fun u5 b5 k5 z5 => ?_)
              have kk : Ext w5 u5 := xx.then k5 fun b hb _ e => by omega
              refine strS kk ?_
              exact ⟨bh, ba, bm, bc, rfl, kk, b5, by rw [zI']; exact (i3.blk.ext i4.ext).kept k5 (by omega), by rw [zI']; exact (((i1.blk.ext i2.ext).ext i3.ext).ext i4.ext).kept k5 (by omega), by rw [zM]; exact i4.blk.kept k5 (by omega), ⟨by omega, by omega, by omega, by omega⟩, ⟨by omega, by omega, by omega⟩, by omega, by omega, by omega⟩
            · refine mslc (sz := 4) (zv := .agg #[.bool false, iv 0, iv 0, iv 0]) n1 rfl rfl (by omega) (by omega) rfl (by decide) (fun bm u3 i3 => ?_)
              refine strS ((i1.ext.trans i2.ext).trans i3.ext) ?_
              refine mslc (sz := 1) (zv := iv 0) n1 rfl rfl (by omega) (by omega) rfl (by decide) (fun bh u4 i4 => ?_)
              refine strS (((i1.ext.trans i2.ext).trans i3.ext).trans i4.ext) ?_
              refine bld [.slice (some (ad bh 0)) n1 n1, .slice (some (ad ba 0)) n2 n2, .slice (some (ad bm 0)) n1 n1] (by kernel_rfl) ?_
              have xx := (((i1.ext.trans i2.ext).trans i3.ext).trans i4.ext)
              have y1 := i1.at_
              have q1 := i1.size
              have y2 := i2.at_
              have q2 := i2.size
              have y3 := i3.at_
              have q3 := i3.size
              have y4 := i4.at_
              have q4 := i4.size
              refine stA (vs := [.slice (some (ad bh 0)) n1 n1, .slice (some (ad ba 0)) n2 n2, .slice (some (ad bm 0)) n1 n1]) ((i2.blk.ext i3.ext).ext i4.ext) rfl (Nat.le_of_ble_eq_true rfl) (by simp [Value.oneCell']) (fun u5 b5 k5 z5 => ?_)
              have kk : Ext w5 u5 := xx.then k5 fun b hb _ e => by omega
              refine strS kk ?_
              exact ⟨bh, ba, bm, bc, rfl, kk, b5, by rw [zI']; exact i4.blk.kept k5 (by omega), by rw [zI']; exact (((i1.blk.ext i2.ext).ext i3.ext).ext i4.ext).kept k5 (by omega), by rw [zM]; exact (i3.blk.ext i4.ext).kept k5 (by omega), ⟨by omega, by omega, by omega, by omega⟩, ⟨by omega, by omega, by omega⟩, by omega, by omega, by omega⟩
      · refine ⟨?_, ?_⟩
        · refine mslc (sz := 4) (zv := .agg #[.bool false, iv 0, iv 0, iv 0]) n1 rfl rfl (by omega) (by omega) rfl (by decide) (fun bm u1 i1 => ?_)
          refine strS i1.ext ?_
          refine ⟨?_, ?_⟩
          · refine mslc (sz := 1) (zv := iv 0) n1 rfl rfl (by omega) (by omega) rfl (by decide) (fun bh u2 i2 => ?_)
            refine strS (i1.ext.trans i2.ext) ?_
            refine ⟨?_, ?_⟩
            · refine mslc (sz := 1) (zv := iv 0) n2 rfl rfl (by omega) (by omega) rfl (by decide) (fun ba u3 i3 => ?_)
              refine strS ((i1.ext.trans i2.ext).trans i3.ext) ?_
              refine bld [.slice (some (ad bh 0)) n1 n1, .slice (some (ad ba 0)) n2 n2, .slice (some (ad bm 0)) n1 n1] (by kernel_rfl) ?_
              refine alloc (fun bc u4 i4 => ?_)
              refine strS (((i1.ext.trans i2.ext).trans i3.ext).trans i4.ext) ?_
              have xx := (((i1.ext.trans i2.ext).trans i3.ext).trans i4.ext)
              have y1 := i1.at_
              have q1 := i1.size
              have y2 := i2.at_
              have q2 := i2.size
              have y3 := i3.at_
              have q3 := i3.size
              have y4 := i4.at_
              have q4 := i4.size
              refine stA (vs := [.slice (some (ad bh 0)) n1 n1, .slice (some (ad ba 0)) n2 n2, .slice (some (ad bm 0)) n1 n1]) i4.blk rfl (Nat.le_of_ble_eq_true rfl) (by simp [Value.oneCell']) (fun u5 b5 k5 z5 => ?_)
              have kk : Ext w5 u5 := xx.then k5 fun b hb _ e => by omega
              refine strS kk ?_
              exact ⟨bh, ba, bm, bc, rfl, kk, b5, by rw [zI']; exact ((i2.blk.ext i3.ext).ext i4.ext).kept k5 (by omega), by rw [zI']; exact (i3.blk.ext i4.ext).kept k5 (by omega), by rw [zM]; exact (((i1.blk.ext i2.ext).ext i3.ext).ext i4.ext).kept k5 (by omega), ⟨by omega, by omega, by omega, by omega⟩, ⟨by omega, by omega, by omega⟩, by omega, by omega, by omega⟩
            · refine alloc (fun bc u3 i3 => ?_)
              refine strS ((i1.ext.trans i2.ext).trans i3.ext) ?_
              refine mslc (sz := 1) (zv := iv 0) n2 rfl rfl (by omega) (by omega) rfl (by decide) (fun ba u4 i4 => ?_)
              refine strS (((i1.ext.trans i2.ext).trans i3.ext).trans i4.ext) ?_
              refine bld [.slice (some (ad bh 0)) n1 n1, .slice (some (ad ba 0)) n2 n2, .slice (some (ad bm 0)) n1 n1] (by kernel_rfl) ?_
              have xx := (((i1.ext.trans i2.ext).trans i3.ext).trans i4.ext)
              have y1 := i1.at_
              have q1 := i1.size
              have y2 := i2.at_
              have q2 := i2.size
              have y3 := i3.at_
              have q3 := i3.size
              have y4 := i4.at_
              have q4 := i4.size
              refine stA (vs := [.slice (some (ad bh 0)) n1 n1, .slice (some (ad ba 0)) n2 n2, .slice (some (ad bm 0)) n1 n1]) (i3.blk.ext i4.ext) rfl (Nat.le_of_ble_eq_true rfl) (by simp [Value.oneCell']) (fun u5 b5 k5 z5 => ?_)
              have kk : Ext w5 u5 := xx.then k5 fun b hb _ e => by omega
              refine strS kk ?_
              exact ⟨bh, ba, bm, bc, rfl, kk, b5, by rw [zI']; exact ((i2.blk.ext i3.ext).ext i4.ext).kept k5 (by omega), by rw [zI']; exact i4.blk.kept k5 (by omega), by rw [zM]; exact (((i1.blk.ext i2.ext).ext i3.ext).ext i4.ext).kept k5 (by omega), ⟨by omega, by omega, by omega, by omega⟩, ⟨by omega, by omega, by omega⟩, by omega, by omega, by omega⟩
          · refine ⟨?_, ?_⟩
            · refine mslc (sz := 1) (zv := iv 0) n2 rfl rfl (by omega) (by omega) rfl (by decide) (fun ba u2 i2 => ?_)
              refine strS (i1.ext.trans i2.ext) ?_
              refine ⟨?_, ?_⟩
              · refine mslc (sz := 1) (zv := iv 0) n1 rfl rfl (by omega) (by omega) rfl (by decide) (fun bh u3 i3 => ?_)
                refine strS ((i1.ext.trans i2.ext).trans i3.ext) ?_
                refine bld [.slice (some (ad bh 0)) n1 n1, .slice (some (ad ba 0)) n2 n2, .slice (some (ad bm 0)) n1 n1] (by kernel_rfl) ?_
                refine alloc (fun bc u4 i4 => ?_)
                refine strS (((i1.ext.trans i2.ext).trans i3.ext).trans i4.ext) ?_
                have xx := (((i1.ext.trans i2.ext).trans i3.ext).trans i4.ext)
                have y1 := i1.at_
                have q1 := i1.size
                have y2 := i2.at_
                have q2 := i2.size
                have y3 := i3.at_
                have q3 := i3.size
                have y4 := i4.at_
                have q4 := i4.size
                refine stA (vs := [.slice (some (ad bh 0)) n1 n1, .slice (some (ad ba 0)) n2 n2, .slice (some (ad bm 0)) n1 n1]) i4.blk rfl (Nat.le_of_ble_eq_true rfl) (by simp [Value.oneCell']) (fun u5 b5 k5 z5 => ?_)
                have kk : Ext w5 u5 := xx.then k5 fun b hb _ e => by omega
                refine strS kk ?_
                exact ⟨bh, ba, bm, bc, rfl, kk, b5, by rw [zI']; exact (i3.blk.ext i4.ext).kept k5 (by omega), by rw [zI']; exact ((i2.blk.ext i3.ext).ext i4.ext).kept k5 (by omega), by rw [zM]; exact (((i1.blk.ext i2.ext).ext i3.ext).ext i4.ext).kept k5 (by omega), ⟨by omega, by omega, by omega, by omega⟩, ⟨by omega, by omega, by omega⟩, by omega, by omega, by omega⟩
              · refine alloc (fun bc u3 i3 => ?_)
                refine strS ((i1.ext.trans i2.ext).trans i3.ext) ?_
                refine mslc (sz := 1) (zv := iv 0) n1 rfl rfl (by omega) (by omega) rfl (by decide) (fun bh u4 i4 => ?_)
                refine strS (((i1.ext.trans i2.ext).trans i3.ext).trans i4.ext) ?_
                refine bld [.slice (some (ad bh 0)) n1 n1, .slice (some (ad ba 0)) n2 n2, .slice (some (ad bm 0)) n1 n1] (by kernel_rfl) ?_
                have xx := (((i1.ext.trans i2.ext).trans i3.ext).trans i4.ext)
                have y1 := i1.at_
                have q1 := i1.size
                have y2 := i2.at_
                have q2 := i2.size
                have y3 := i3.at_
                have q3 := i3.size
                have y4 := i4.at_
                have q4 := i4.size
                refine stA (vs := [.slice (some (ad bh 0)) n1 n1, .slice (some (ad ba 0)) n2 n2, .slice (some (ad bm 0)) n1 n1]) (i3.blk.ext i4.ext) rfl (Nat.le_of_ble_eq_true rfl) (by simp [Value.oneCell']) (fun u5 b5 k5 z5 => ?_)
                have kk : Ext w5 u5 := xx.then k5 fun b hb _ e => by omega
                refine strS kk ?_
                exact ⟨bh, ba, bm, bc, rfl, kk, b5, by rw [zI']; exact i4.blk.kept k5 (by omega), by rw [zI']; exact ((i2.blk.ext i3.ext).ext i4.ext).kept k5 (by omega), by rw [zM]; exact (((i1.blk.ext i2.ext).ext i3.ext).ext i4.ext).kept k5 (by omega), ⟨by omega, by omega, by omega, by omega⟩, ⟨by omega, by omega, by omega⟩, by omega, by omega, by omega⟩
            · refine alloc (fun bc u2 i2 => ?_)
              refine strS (i1.ext.trans i2.ext) ?_
              refine ⟨?_, ?_⟩
              · refine mslc (sz := 1) (zv := iv 0) n1 rfl rfl (by omega) (by omega) rfl (by decide) (fun bh u3 i3 => ?_)
                refine strS ((i1.ext.trans i2.ext).trans i3.ext) ?_
                refine mslc (sz := 1) (zv := iv 0) n2 rfl rfl (by omega) (by omega) rfl (by decide) (fun ba u4 i4 => ?_)
                refine strS (((i1.ext.trans i2.ext).trans i3.ext).trans i4.ext) ?_
                refine bld [.slice (some (ad bh 0)) n1 n1, .slice (some (ad ba 0)) n2 n2, .slice (some (ad bm 0)) n1 n1] (by kernel_rfl) ?_
                have xx := (((i1.ext.trans i2.ext).trans i3.ext).trans i4.ext)
                have y1 := i1.at_
                have q1 := i1.size
                have y2 := i2.at_
                have q2 := i2.size
                have y3 := i3.at_
                have q3 := i3.size
                have y4 := i4.at_
                have q4 := i4.size
                refine stA (vs := [.slice (some (ad bh 0)) n1 n1, .slice (some (ad ba 0)) n2 n2, .slice (some (ad bm 0)) n1 n1]) ((i2.blk.ext i3.ext).ext i4.ext) rfl (Nat.le_of_ble_eq_true rfl) (by simp [Value.oneCell']) (fun u5 b5 k5 z5 => ?_)
                have kk : Ext w5 u5 := xx.then k5 fun b hb _ e => by omega
                refine strS kk ?_
                exact ⟨bh, ba, bm, bc, rfl, kk, b5, by rw [zI']; exact (i3.blk.ext i4.ext).kept k5 (by omega), by rw [zI']; exact i4.blk.kept k5 (by omega), by rw [zM]; exact (((i1.blk.ext i2.ext).ext i3.ext).ext i4.ext).kept k5 (by omega), ⟨by omega, by omega, by omega, by omega⟩, ⟨by omega, by omega, by omega⟩, by omega, by omega, by omega⟩
              · refine mslc (sz := 1) (zv := iv 0) n2 rfl rfl (by omega) (by omega) rfl (by decide) (fun ba u3 i3 => ?_)
                refine strS ((i1.ext.trans i2.ext).trans i3.ext) ?_
                refine mslc (sz := 1) (zv := iv 0) n1 rfl rfl (by omega) (by omega) rfl (by decide) (fun bh u4 i4 => ?_)
                refine strS (((i1.ext.trans i2.ext).trans i3.ext).trans i4.ext) ?_
                refine bld [.slice (some (ad bh 0)) n1 n1, .slice (some (ad ba 0)) n2 n2, .slice (some (ad bm 0)) n1 n1] (by kernel_rfl) ?_
                have xx := (((i1.ext.trans i2.ext).trans i3.ext).trans i4.ext)
                have y1 := i1.at_
                have q1 := i1.size
                have y2 := i2.at_
                have q2 := i2.size
                have y3 := i3.at_
                have q3 := i3.size
                have y4 := i4.at_
                have q4 := i4.size
                refine stA (vs := [.slice (some (ad bh 0)) n1 n1, .slice (some (ad ba 0)) n2 n2, .slice (some (ad bm 0)) n1 n1]) ((i2.blk.ext i3.ext).ext i4.ext) rfl (Nat.le_of_ble_eq_true rfl) (by simp [Value.oneCell']) (fun u5 b5 k5 z5 => ?_)
                have kk : Ext w5 u5 := xx.then k5 fun b hb _ e => by omega
                refine strS kk ?_
                exact ⟨bh, ba, bm, bc, rfl, kk, b5, by rw [zI']; exact i4.blk.kept k5 (by omega), by rw [zI']; exact (i3.blk.ext i4.ext).kept k5 (by omega), by rw [zM]; exact (((i1.blk.ext i2.ext).ext i3.ext).ext i4.ext).kept k5 (by omega), ⟨by omega, by omega, by omega, by omega⟩, ⟨by omega, by omega, by omega⟩, by omega, by omega, by omega⟩
        · refine alloc (fun bc u1 i1 => ?_)
          refine strS i1.ext ?_
          refine ⟨?_, ?_⟩
          · refine mslc (sz := 1) (zv := iv 0) n1 rfl rfl (by omega) (by omega) rfl (by decide) (fun bh u2 i2 => ?_)
            refine strS (i1.ext.trans i2.ext) ?_
            refine ⟨?_, ?_⟩
            · refine mslc (sz := 1) (zv := iv 0) n2 rfl rfl (by omega) (by omega) rfl (by decide) (fun ba u3 i3 => ?_)
              refine strS ((i1.ext.trans i2.ext).trans i3.ext) ?_
              refine mslc (sz := 4) (zv := .agg #[.bool false, iv 0, iv 0, iv 0]) n1 rfl rfl (by omega) (by omega) rfl (by decide) (fun bm u4 i4 => ?_)
              refine strS (((i1.ext.trans i2.ext).trans i3.ext).trans i4.ext) ?_
              refine bld [.slice (some (ad bh 0)) n1 n1, .slice (some (ad ba 0)) n2 n2, .slice (some (ad bm 0)) n1 n1] (by kernel_rfl) ?_
              have xx := (((i1.ext.trans i2.ext).trans i3.ext).trans i4.ext)
              have y1 := i1.at_
              have q1 := i1.size
              have y2 := i2.at_
              have q2 := i2.size
              have y3 := i3.at_
              have q3 := i3.size
              have y4 := i4.at_
              have q4 := i4.size
              refine stA (vs := [.slice (some (ad bh 0)) n1 n1, .slice (some (ad ba 0)) n2 n2, .slice (some (ad bm 0)) n1 n1]) (((i1.blk.ext i2.ext).ext i3.ext).ext i4.ext) rfl (Nat.le_of_ble_eq_true rfl) (by simp [Value.oneCell']) (fun u5 b5 k5 z5 => ?_)
              have kk : Ext w5 u5 := xx.then k5 fun b hb _ e => by omega
              refine strS kk ?_
              exact ⟨bh, ba, bm, bc, rfl, kk, b5, by rw [zI']; exact ((i2.blk.ext i3.ext).ext i4.ext).kept k5 (by omega), by rw [zI']; exact (i3.blk.ext i4.ext).kept k5 (by omega), by rw [zM]; exact i4.blk.kept k5 (by omega), ⟨by omega, by omega, by omega, by omega⟩, ⟨by omega, by omega, by omega⟩, by omega, by omega, by omega⟩
            · refine mslc (sz := 4) (zv := .agg #[.bool false, iv 0, iv 0, iv 0]) n1 rfl rfl (by omega) (by omega) rfl (by decide) (fun bm u3 i3 => ?_)
              refine strS ((i1.ext.trans i2.ext).trans i3.ext) ?_
              refine mslc (sz := 1) (zv := iv 0) n2 rfl rfl (by omega) (by omega) rfl (by decide) (fun ba u4 i4 => ?_)
              refine strS (((i1.ext.trans i2.ext).trans i3.ext).trans i4.ext) ?_
              refine bld [.slice (some (ad bh 0)) n1 n1, .slice (some (ad ba 0)) n2 n2, .slice (some (ad bm 0)) n1 n1] (by kernel_rfl) ?_
              have xx := (((i1.ext.trans i2.ext).trans i3.ext).trans i4.ext)
              have y1 := i1.at_
              have q1 := i1.size
              have y2 := i2.at_
              have q2 := i2.size
              have y3 := i3.at_
              have q3 := i3.size
              have y4 := i4.at_
              have q4 := i4.size
              refine stA (vs := [.slice (some (ad bh 0)) n1 n1, .slice (some (ad ba 0)) n2 n2, .slice (some (ad bm 0)) n1 n1]) (((i1.blk.ext i2.ext).ext i3.ext).ext i4.ext) rfl (Nat.le_of_ble_eq_true rfl) (by simp [Value.oneCell']) (fun u5 b5 k5 z5 => ?_)
              have kk : Ext w5 u5 := xx.then k5 fun b hb _ e => by omega
              refine strS kk ?_
              exact ⟨bh, ba, bm, bc, rfl, kk, b5, by rw [zI']; exact ((i2.blk.ext i3.ext).ext i4.ext).kept k5 (by omega), by rw [zI']; exact i4.blk.kept k5 (by omega), by rw [zM]; exact (i3.blk.ext i4.ext).kept k5 (by omega), ⟨by omega, by omega, by omega, by omega⟩, ⟨by omega, by omega, by omega⟩, by omega, by omega, by omega⟩
          · refine ⟨?_, ?_⟩
            · refine mslc (sz := 1) (zv := iv 0) n2 rfl rfl (by omega) (by omega) rfl (by decide) (fun ba u2 i2 => ?_)
              refine strS (i1.ext.trans i2.ext) ?_
              refine ⟨?_, ?_⟩
              · refine mslc (sz := 1) (zv := iv 0) n1 rfl rfl (by omega) (by omega) rfl (by decide) (fun bh u3 i3 => ?_)
                refine strS ((i1.ext.trans i2.ext).trans i3.ext) ?_
                refine mslc (sz := 4) (zv := .agg #[.bool false, iv 0, iv 0, iv 0]) n1 rfl rfl (by omega) (by omega) rfl (by decide) (fun bm u4 i4 => ?_)
                refine strS (((i1.ext.trans i2.ext).trans i3.ext).trans i4.ext) ?_
                refine bld [.slice (some (ad bh 0)) n1 n1, .slice (some (ad ba 0)) n2 n2, .slice (some (ad bm 0)) n1 n1] (by kernel_rfl) ?_
                have xx := (((i1.ext.trans i2.ext).trans i3.ext).trans i4.ext)
                have y1 := i1.at_
                have q1 := i1.size
                have y2 := i2.at_
                have q2 := i2.size
                have y3 := i3.at_
                have q3 := i3.size
                have y4 := i4.at_
                have q4 := i4.size
                refine stA (vs := [.slice (some (ad bh 0)) n1 n1, .slice (some (ad ba 0)) n2 n2, .slice (some (ad bm 0)) n1 n1]) (((i1.blk.ext i2.ext).ext i3.ext).ext i4.ext) rfl (Nat.le_of_ble_eq_true rfl) (by simp [Value.oneCell']) (fun u5 b5 k5 z5 => ?_)
                have kk : Ext w5 u5 := xx.then k5 fun b hb _ e => by omega
                refine strS kk ?_
                exact ⟨bh, ba, bm, bc, rfl, kk, b5, by rw [zI']; exact (i3.blk.ext i4.ext).kept k5 (by omega), by rw [zI']; exact ((i2.blk.ext i3.ext).ext i4.ext).kept k5 (by omega), by rw [zM]; exact i4.blk.kept k5 (by omega), ⟨by omega, by omega, by omega, by omega⟩, ⟨by omega, by omega, by omega⟩, by omega, by omega, by omega⟩
              · refine mslc (sz := 4) (zv := .agg #[.bool false, iv 0, iv 0, iv 0]) n1 rfl rfl (by omega) (by omega) rfl (by decide) (fun bm u3 i3 => ?_)
                refine strS ((i1.ext.trans i2.ext).trans i3.ext) ?_
                refine mslc (sz := 1) (zv := iv 0) n1 rfl rfl (by omega) (by omega) rfl (by decide) (fun bh u4 i4 => ?_)
                refine strS (((i1.ext.trans i2.ext).trans i3.ext).trans i4.ext) ?_
                refine bld [.slice (some (ad bh 0)) n1 n1, .slice (some (ad ba 0)) n2 n2, .slice (some (ad bm 0)) n1 n1] (by kernel_rfl) ?_
                have xx := (((i1.ext.trans i2.ext).trans i3.ext).trans i4.ext)
                have y1 := i1.at_
                have q1 := i1.size
                have y2 := i2.at_
                have q2 := i2.size
                have y3 := i3.at_
                have q3 := i3.size
                have y4 := i4.at_
                have q4 := i4.size
                refine stA (vs := [.slice (some (ad bh 0)) n1 n1, .slice (some (ad ba 0)) n2 n2, .slice (some (ad bm 0)) n1 n1]) (((i1.blk.ext i2.ext).ext i3.ext).ext i4.ext) rfl (Nat.le_of_ble_eq_true rfl) (by simp [Value.oneCell']) (fun u5 b5 k5 z5 => ?_)
                have kk : Ext w5 u5 := xx.then k5 fun b hb _ e => by omega
                refine strS kk ?_
                exact ⟨bh, ba, bm, bc, rfl, kk, b5, by rw [zI']; exact i4.blk.kept k5 (by omega), by rw [zI']; exact ((i2.blk.ext i3.ext).ext i4.ext).kept k5 (by omega), by rw [zM]; exact (i3.blk.ext i4.ext).kept k5 (by omega), ⟨by omega, by omega, by omega, by omega⟩, ⟨by omega, by omega, by omega⟩, by omega, by omega, by omega⟩
            · refine mslc (sz := 4) (zv := .agg #[.bool false, iv 0, iv 0, iv 0]) n1 rfl rfl (by omega) (by omega) rfl (by decide) (fun bm u2 i2 => ?_)
              refine strS (i1.ext.trans i2.ext) ?_
              refine ⟨?_, ?_⟩
              · refine mslc (sz := 1) (zv := iv 0) n1 rfl rfl (by omega) (by omega) rfl (by decide) (fun bh u3 i3 => ?_)
                refine strS ((i1.ext.trans i2.ext).trans i3.ext) ?_
                refine mslc (sz := 1) (zv := iv 0) n2 rfl rfl (by omega) (by omega) rfl (by decide) (fun ba u4 i4 => ?_)
                refine strS (((i1.ext.trans i2.ext).trans i3.ext).trans i4.ext) ?_
                refine bld [.slice (some (ad bh 0)) n1 n1, .slice (some (ad ba 0)) n2 n2, .slice (some (ad bm 0)) n1 n1] (by kernel_rfl) ?_
                have xx := (((i1.ext.trans i2.ext).trans i3.ext).trans i4.ext)
                have y1 := i1.at_
                have q1 := i1.size
                have y2 := i2.at_
                have q2 := i2.size
                have y3 := i3.at_
                have q3 := i3.size
                have y4 := i4.at_
                have q4 := i4.size
                refine stA (vs := [.slice (some (ad bh 0)) n1 n1, .slice (some (ad ba 0)) n2 n2, .slice (some (ad bm 0)) n1 n1]) (((i1.blk.ext i2.ext).ext i3.ext).ext i4.ext) rfl (Nat.le_of_ble_eq_true rfl) (by simp [Value.oneCell']) (fun u5 b5 k5 z5 => ?_)
                have kk : Ext w5 u5 := xx.then k5 fun b hb _ e => by omega
                refine strS kk ?_
                exact ⟨bh, ba, bm, bc, rfl, kk, b5, by rw [zI']; exact (i3.blk.ext i4.ext).kept k5 (by omega), by rw [zI']; exact i4.blk.kept k5 (by omega), by rw [zM]; exact ((i2.blk.ext i3.ext).ext i4.ext).kept k5 (by omega), ⟨by omega, by omega, by omega, by omega⟩, ⟨by omega, by omega, by omega⟩, by omega, by omega, by omega⟩
              · refine mslc (sz := 1) (zv := iv 0) n2 rfl rfl (by omega) (by omega) rfl (by decide) (fun ba u3 i3 => ?_)
                refine strS ((i1.ext.trans i2.ext).trans i3.ext) ?_
                refine mslc (sz := 1) (zv := iv 0) n1 rfl rfl (by omega) (by omega) rfl (by decide) (fun bh u4 i4 => ?_)
                refine strS (((i1.ext.trans i2.ext).trans i3.ext).trans i4.ext) ?_
                refine bld [.slice (some (ad bh 0)) n1 n1, .slice (some (ad ba 0)) n2 n2, .slice (some (ad bm 0)) n1 n1] (by kernel_rfl) ?_
                have xx := (((i1.ext.trans i2.ext).trans i3.ext).trans i4.ext)
                have y1 := i1.at_
                have q1 := i1.size
                have y2 := i2.at_
                have q2 := i2.size
                have y3 := i3.at_
                have q3 := i3.size
                have y4 := i4.at_
                have q4 := i4.size
                refine stA (vs := [.slice (some (ad bh 0)) n1 n1, .slice (some (ad ba 0)) n2 n2, .slice (some (ad bm 0)) n1 n1]) (((i1.blk.ext i2.ext).ext i3.ext).ext i4.ext) rfl (Nat.le_of_ble_eq_true rfl) (by simp [Value.oneCell']) (fun u5 b5 k5 z5 => ?_)
                have kk : Ext w5 u5 := xx.then k5 fun b hb _ e => by omega
                refine strS kk ?_
                exact ⟨bh, ba, bm, bc, rfl, kk, b5, by rw [zI']; exact i4.blk.kept k5 (by omega), by rw [zI']; exact (i3.blk.ext i4.ext).kept k5 (by omega), by rw [zM]; exact ((i2.blk.ext i3.ext).ext i4.ext).kept k5 (by omega), ⟨by omega, by omega, by omega, by omega⟩, ⟨by omega, by omega, by omega⟩, by omega, by omega, by omega⟩
  rintro G6 _ w6 ⟨bh, ba, bm, bc, rfl, x56, Bc, Bh, Ba, Bm, ⟨hbh, hba, hbm, hbc⟩, ⟨nch, nca, ncm⟩, nha, nhm, nam⟩
  have x06 : Ext w w6 := x03.trans x56
  have z06 := x06.size
  have z56 := x56.size
  have B3 := B3.ext x56
  have B6 := B6.ext x56
  have Bs := Bs.ext x56
  have lb3 := B3.lt
  have lb6 := B6.lt
  have lbc := Bc.lt
  have h0s := clA_ok R.okh 0
  have hr6 : SlR tReach (fun b => b < w.heap.size) w6 A1 n1 d.reaches := (hr.more (D' := fun b => b < w.heap.size) (by decide) fun b hb _ => hb).ext x06
  have hf6 : SlR tFarm (fun b => b < w.heap.size) w6 A2 n2 d.farms := (hf.more (D' := fun b => b < w.heap.size) (by decide) fun b hb _ => hb).ext x06
  have hl6 : SlR tInt (fun b => b < w.heap.size) w6 A n cl := (hl.more (D' := fun b => b < w.heap.size) (by decide) fun b hb _ => hb).ext x06
  have z05 := x03.size
  refine drawP (.take 0 (.take 1 (.take 2 (.take 3 (.take 4 (.take 5 (.take 6 (.take 7 (.bar (.eff 8 .done)))))))))) [8] (fun z => z = w6) mx (by kernel_rfl) rfl ?_
  refine fldA ?_
  refine ld (.slice (some (ad bh 0)) n1 n1) (Bc.cell rfl) ?_
  refine idx 0 rfl (by omega) ?_
  refine ld (iv (clA hs 0)) (blkI (i := 0) Bs R.okh (n := d.reaches.length) R.lh.symm (by omega) (by omega) 0 _ rfl) ?_
  refine idx 0 rfl (by omega) ?_
  refine barS (fun _ => True) trivial ?_
  refine st (v := iv (min E (clA hs 0))) Bh (by simp; omega) rfl (fun w7 Bh7 k7 z7 => ?_)
  refine strS trivial ?_
  have K0 := RefK.start R DV hE.1
  have Bh : Blk w7 bh 3 (ivs ((List.replicate d.reaches.length 0).set 0 (min E (clA hs 0)))) := by rw [← ivs_set, lr]; simpa using Bh7
  have Ba := Ba.kept k7 (by omega)
  have Bm := Bm.kept k7 (by omega)
  have Bc := Bc.kept k7 (by omega)
  have B3 := B3.kept k7 (by omega)
  have B6 := B6.kept k7 (by omega)
  have Bs := Bs.kept k7 (by omega)
  have hr7 := hr6.kept k7 fun b _ h => by omega
  have hf7 := hf6.kept k7 fun b _ h => by omega
  have hl7 := hl6.kept k7 fun b _ h => by omega
  have x07 : Ext w w7 := x06.then k7 fun b hb _ e => by omega
  have lbh := Bh.lt
  have lba := Ba.lt
  have lbm := Bm.lt
  have la0 := DV.la
  have lh0 := DV.lh
  have lm0 := DV.lm
  refine loop_rule (fun i : Nat => [(12, iv (i : Int))]) (fun i u => i ≤ n1 ∧ Kept (fun b => b ≠ bh ∧ b ≠ ba ∧ b ≠ bm) w7 u ∧ ∃ rh ra rm, RefK d hd aw mk rh ra rm i 0 ∧ Blk u bh 3 (ivs rh) ∧ Blk u ba 3 (ivs ra) ∧ Blk u bm 92 (mks rm)) (fun i _ => n1 - i) 0 ⟨rfl, trivial⟩ ⟨by omega, .refl _ _, _, _, _, K0, Bh, by rw [lf]; exact Ba, by rw [lr]; exact Bm⟩ rfl ?_
  rintro G7 i u ⟨hi1, ku, rh, ra, rm, K, bhu, bau, bmu⟩
  have Bcu := Bc.kept ku ⟨by omega, by omega, by omega⟩
  have B3u := B3.kept ku ⟨by omega, by omega, by omega⟩
  have zu := ku.size
  refine fldA ?_
  refine ld (.slice A1 n1 c1) (B3u.cell rfl) ?_
  refine len ?_
  refine cD (fun hlt => ?_) (fun hge => ?_)
  rotate_left
  · have hin : i = d.reaches.length := by omega
    rw [hin] at K
    obtain ⟨rfl, rfl, rfl⟩ := K.fin R DV
    have B6u := B6.kept ku ⟨by omega, by omega, by omega⟩
    refine ldA [.slice (some (ad bh 0)) n1 n1, .slice (some (ad ba 0)) n2 n2, .slice (some (ad bm 0)) n1 n1] (.blk Bcu) rfl ?_
    refine stA (vs := [.slice (some (ad bh 0)) n1 n1, .slice (some (ad ba 0)) n2 n2, .slice (some (ad bm 0)) n1 n1]) B6u rfl (Nat.le_of_ble_eq_true rfl) (by simp [Value.oneCell']) (fun u2 q62 k2 z2 => ?_)
    have q62 : Blk u2 b6 46 [.slice (some (ad bh 0)) n1 n1, .slice (some (ad ba 0)) n2 n2, .slice (some (ad bm 0)) n1 n1] := q62
    refine ret ?_
    refine resL _ (holds_agg (CellsAt.blk q62) rfl) ?_
    exact ⟨_, _, _, _, _, _, _, _, _, by rw [e0]; rfl, (x07.then ku fun b hb _ => ⟨by omega, by omega, by omega⟩).then k2 fun b hb _ => by omega, fun q => absurd e0 q, fun _ => ⟨by omega, by omega, by omega, bh, ba, bm, rfl, rfl, rfl, bhu.kept k2 (by omega), bau.kept k2 (by omega), bmu.kept k2 (by omega)⟩⟩
  have hin : i < d.reaches.length := by omega
  obtain ⟨K1, hcut⟩ := K.cutI R hin
  have lrh := K.lh
  have hru := hr7.kept ku fun b _ h => ⟨by omega, by omega, by omega⟩
  have hfu := hf7.kept ku fun b _ h => ⟨by omega, by omega, by omega⟩
  have hlu := hl7.kept ku fun b _ h => ⟨by omega, by omega, by omega⟩
  have Bsu := Bs.kept ku ⟨by omega, by omega, by omega⟩
  obtain ⟨br, or_, cs, r, hA, hri, -, -, hcr, rfl⟩ := hru.at_ (k := i) (by omega)
  have hrc := rcC_at hri
  obtain ⟨rl1, rl2, rl3⟩ := R.v.loss hin
  have hokh := DV.ok R hE.1 hin
  have AD := DV.at_ i hin
  obtain ⟨tE, wk0, wk1, wk2⟩ := R.work (hd := hd) hin hokh
  have okc := clmV_ok (d := d) R.okc R.okh i
  have sumB := R.sum i
  have lenB := R.v.len (cl := cl) (hs := hs) (r := i)
  have lV := ptsV_len (d := d) (r := (i : Int))
  rw [hrc] at rl1 rl2 rl3
  refine drawQ mx (by kernel_rfl) ?_
  refine fldA ?_
  refine ld (.slice (some (ad bh 0)) n1 n1) (Bcu.cell rfl) ?_
  refine idx i rfl (by omega) ?_
  refine ld (iv (clA rh i)) (blkI bhu K.oh (n := n1) (by omega) (by omega) (by omega) 0 _ rfl) ?_
  refine fldA ?_
  refine ld (.slice A1 n1 c1) (B3u.cell rfl) ?_
  rw [hA]
  refine idx i rfl (by omega) ?_
  refine fldA ?_
  refine ld (iv r.siphon) (hcr 5 _ rfl) ?_
  refine cD (fun gs => ?_) (fun gs => ?_)
  · have hz : clA hd i = 0 := by rw [← hcut]; unfold cut; rw [hrc, if_pos gs]
    refine fldA ?_
    refine ld (.slice (some (ad bh 0)) n1 n1) (Bcu.cell rfl) ?_
    refine idx i rfl (by omega) ?_
    refine st (v := iv 0) bhu (by simp; omega) rfl (fun u1 bh1 k1 z1 => ?_)
    have bh1 : Blk u1 bh 3 (ivs (rh.set i (clA hd i))) := by rw [hz, ← ivs_set]; simpa using bh1
    have hh1 : clA (rh.set i (clA hd i)) i = clA hd i := by rw [clA_set (by omega), if_pos rfl]
    have ku1 : Kept (fun b => b ≠ bh ∧ b ≠ ba ∧ b ≠ bm) w7 u1 := ku.then k1 fun b _ h => h.1
    obtain ⟨rh1, hrh1⟩ : ∃ l, l = rh.set i (clA hd i) := ⟨_, rfl⟩
    rw [← hrh1] at bh1 hh1 K1
    have zu1 := ku1.size
    have B3u := B3u.kept k1 (by omega)
    have Bcu := Bcu.kept k1 (by omega)
    have bau := bau.kept k1 (by omega)
    have bmu := bmu.kept k1 (by omega)
    have hru := hru.kept k1 fun b _ h => by omega
    have hfu := hfu.kept k1 fun b _ h => by omega
    have hlu := hlu.kept k1 fun b _ h => by omega
    have Bsu := Bsu.kept k1 (by omega)
    refine ldA [.string d.name, iv d.hours, iv d.cap, iv d.start, .slice A1 n1 c1, .slice A2 n2 c2, .slice A3 n3 c3, .slice A4 n4 c4, .slice A5 n5 c5, .slice A6 n6 c6] (.blk B3u) rfl ?_
    refine call_of (c_r41Parts (r := (i : Int)) hru hfu ⟨hvn.2, hvf⟩) ?_
    rintro _ u2 ⟨P, np, cp, rfl, oP⟩
    have lP := oP.own.len
    rw [cps_len] at lP
    have sp := oP.pts (by omega)
    have x12 := oP.ext
    refine call_of (c_r41Claims (D := fun _ => True) (sp.more (by decide) fun _ _ _ => trivial) ((hlu.ext x12).more (by decide) fun _ _ _ => trivial) (blk_ints (D := fun _ => True) (Bsu.ext x12) (n := d.reaches.length) (by rw [R.lh]) R.okh (by omega) trivial) (by omega) (fun p hp => ?_)) ?_
    · rcases mem_ptsV.1 hp with h | h
      · exact ⟨fun _ => by have := R.lc; omega, fun e => (by rw [h.1] at e; cases e)⟩
      · exact ⟨fun e => (by rw [h.1] at e; cases e), fun _ => by omega⟩
    rintro _ u3 ⟨C, cc, rfl, oC⟩
    have x13 := x12.trans oC.ext
    have sC : SlR tInt (fun b => u2.heap.size ≤ b) u3 C np (clmV d cl hs i) := oC.ints (okL_i64 okc) (by omega) fun _ h => h
    have B3v := B3u.ext x13
    have Bcv := Bcu.ext x13
    have bh3 := bh1.ext x13
    have hrv := hru.ext x13
    have sp3 := sp.ext oC.ext
    refine drawP (.take 0 (.take 1 (.take 2 (.take 3 (.take 4 (.take 5 (.take 6 (.take 7 (.take 8 (.take 9 (.eff 10 (.take 11 (.take 12 (.take 13 (.take 14 (.take 15 .done)))))))))))))))) [] (fun z => Ext u3 z) mx (by kernel_rfl) (.refl _ _) ?_
    refine fldA ?_
    refine ldK (.slice A1 n1 c1) (B3v.cell rfl) trivial (.refl _ _) ?_
    obtain ⟨br3, or3, cs3, r3, hA3, hr3, -, -, hc3, rfl⟩ := hrv.at_ (k := i) (by omega)
    obtain rfl : r = r3 := by rw [hri] at hr3; injection hr3
    rw [hA3]
    refine idx i rfl (by omega) ?_
    refine ldAK r.c hc3 rfl trivial (.refl _ _) ?_
    refine fldA ?_
    refine ldK (.slice (some (ad bh 0)) n1 n1) (Bcv.cell rfl) trivial (.refl _ _) ?_
    refine idx i rfl (by omega) ?_
    refine ldK (iv (clA rh1 i)) (blkI bh3 K1.oh (n := n1) (by have := K1.lh; omega) (by omega) (by omega) 0 _ rfl) trivial (.refl _ _) ?_
    rw [hh1]
    refine call_of (c_r21Worst (r := r) (v := clA hd i)) ?_
    rintro _ u4 ⟨rfl, x34⟩
    have eL : lErr r (clA hd i) = 0 := lErr_ok.2 ⟨rl1, hokh.1, hokh.2⟩
    rw [eL, if_pos rfl]
    refine strS x34 ?_
    refine call_of (c_r41sum (sC.ext x34) (by omega) okc) ?_
    rintro _ u5 ⟨rfl, rfl⟩
    obtain ⟨wk, hwk⟩ : ∃ wk, wk = workV d cl hs hd i := ⟨_, rfl⟩
    have ewk : min (clA hd i - (lostR r (clA hd i)).hi) (isum (clmV d cl hs i)) = wk := by rw [hwk]; unfold workV; rw [hrc]; rfl
    have hm := AD.mark
    rw [← hwk, ← ewk] at hm tE
    refine call_of (c_r40AwardN (sC.ext x34) hm) ?_
    rintro _ u6 ⟨Aw, nw, cw, rfl, sA, x46⟩
    refine call_of (c_r40Thr ((sC.ext x34).ext x46) hm) ?_
    rintro _ u7 ⟨rfl, x67⟩
    refine alloc (fun b19 u8 i8 => ?_)
    refine stA (vs := encM (mkA mk i)) i8.blk rfl (Nat.le_of_ble_eq_true rfl) (by simp [Value.oneCell']) (fun u9 B19 k9 z9 => ?_)
    have B19 : Blk u9 b19 92 (encM (mkA mk i)) := B19
    have y8 := i8.at_
    have x79 : Ext u7 u9 := i8.ext.then k9 fun b hb _ e => by omega
    have x49 := (x46.trans x67).trans x79
    have x39 := x34.trans x49
    have x19 := x13.trans x39
    have eX : awX (min (clA hd i - (lostR r (clA hd i)).hi) (isum (clmV d cl hs i))) (clmV d cl hs i) (mkA mk i) = awL (mkA mk i) (clmV d cl hs i) := by unfold awX; rw [if_pos tE]
    rw [eX] at sA
    have lA := sA.len
    rw [awL_len] at lA
    have lcm : (clmV d cl hs i).length = np := by rw [clmV_len]; omega
    have z13 := x13.size
    have z12 := x12.size
    have z39 := x39.size
    have z36 := (x34.trans x46).size
    have Bcw := Bcv.ext x39
    have bmw := bmu.ext x19
    have sA : SlR tInt (fun b => u3.heap.size ≤ b ∧ b < u6.heap.size) u9 Aw nw (awL (mkA mk i) (clmV d cl hs i)) := ((sA.more (D' := fun b => u3.heap.size ≤ b ∧ b < u6.heap.size) (by decide) fun b hb h => ⟨by have := x34.size; omega, hb⟩).ext x67).ext x79
    have sp9 : SlR tPt (fun b => u1.heap.size ≤ b) u9 P np (ptsV d (i : Int)) := sp3.ext x39
    have z19 := x19.size
    have lbm9 := bmw.lt
    have lbm1 := bmu.lt
    have lbh1 := bh1.lt
    have lba1 := bau.lt
    refine fldA ?_
    refine ld (.slice (some (ad bm 0)) n1 n1) (Bcw.cell rfl) ?_
    refine ldA (encM (mkA mk i)) (.blk B19) rfl ?_
    refine idx i rfl (by omega) ?_
    refine stA (vs := encM (mkA mk i)) bmw rfl (by rw [mks_len]; have := K1.lm; show _ + 4 ≤ _; omega) (by simp [Value.oneCell']) (fun v0 bmv kv zv => ?_)
    have bmv : Blk v0 bm 92 (mks (rm.set i (mkA mk i))) := by
      rw [← mks_set (by have := K1.lm; omega : i < rm.length)]
      simpa using bmv
    have K2 := K1.marked hin
    have hm2 := (K1.mark hin).2.2
    have Bcv0 := Bcw.kept kv (by omega)
    have bhv := (bh1.ext x19).kept kv (by omega)
    have bav := (bau.ext x19).kept kv (by omega)
    have sA := sA.kept kv fun b _ h => by omega
    have sp9 := sp9.kept kv fun b _ h => by omega
    have zv0 := kv.size
    refine loop_rule (fun k : Nat => [(21, iv (k : Int))]) (fun k z => k ≤ np ∧ ∃ rh2 ra2, RefK d hd aw mk rh2 ra2 (rm.set i (mkA mk i)) i k ∧ clA rh2 i = clA hd i ∧ Blk z bh 3 (ivs rh2) ∧ Blk z ba 3 (ivs ra2) ∧ Kept (fun b => b ≠ bh ∧ b ≠ ba) v0 z) (fun k _ => np - k) 0 ⟨rfl, trivial⟩ ⟨by omega, rh1, ra, K2, hh1, bhv, bav, .refl _ _⟩ rfl ?_
    rintro G9 k z ⟨hk, rh2, ra2, K3, hh2, bhz, baz, kz⟩
    have Bcz := Bcv0.kept kz ⟨by omega, by omega⟩
    have saz := sA.kept kz fun b _ h => ⟨by omega, by omega⟩
    have spz := sp9.kept kz fun b _ h => ⟨by omega, by omega⟩
    have bmz := bmv.kept kz ⟨by omega, by omega⟩
    refine len ?_
    refine cD (fun hlt3 => ?_) (fun hge3 => ?_)
    · have hlt3 : k < np := by omega
      obtain ⟨bp, op, csp, p, rfl, hp, -, -, hcp, rfl⟩ := spz.at_ hlt3
      obtain ⟨ba_, oa_, csa, av, rfl, hav, -, -, hca, rfl, -⟩ := saz.at_ (k := k) (by omega)
      have eav : av = ownV (mkA mk i) (clA (clmV d cl hs i) k) k := by
        have := awL_at (m := mkA mk i) (l := clmV d cl hs i) (i := k) (by omega)
        rw [hav] at this; injection this
      have bav' := own_small (hm.awd tE) okc (i := k) (by omega)
      rw [← eav] at bav'
      have lrh2 := K3.lh
      have lra2 := K3.la
      obtain ⟨pf, f⟩ := p
      cases pf with
      | true =>
        have hfl : f < d.farms.length := by
          rcases mem_ptsV.1 (List.mem_of_getElem? hp) with h | h
          · exact h.2.1
          · cases h.1
        have K4 := K3.farm DV hin hp eav bav'
        refine idx k rfl hlt3 ?_
        refine fldA ?_
        refine ld (.bool true) (hcp 0 _ rfl) ?_
        refine drawP (.take 0 (.take 1 (.take 2 (.take 3 (.take 4 (.take 5 (.take 6 (.take 7 (.take 8 (.take 9 (.take 10 (.take 11 (.bar (.eff 12 .done)))))))))))))) [12] (fun y => y = z) mx (by kernel_rfl) rfl ?_
        refine fldA ?_
        refine ld (.slice (some (ad ba 0)) n2 n2) (Bcz.cell rfl) ?_
        refine idx k rfl hlt3 ?_
        refine fldA ?_
        refine ld (iv (f : Int)) (hcp 1 _ rfl) ?_
        refine idx k rfl (by omega) ?_
        refine ld (iv av) (hca 0 _ rfl) ?_
        refine idx f rfl (by omega) ?_
        refine barS (fun _ => True) trivial ?_
        refine st (v := iv av) baz (by simp; omega) rfl (fun z3 ba3 k3 s3' => ?_)
        refine strS trivial ?_
        refine arI (by omega) ?_
        refine next (k + 1) ⟨by rw [Int.natCast_add]; rfl, trivial⟩ ⟨by omega, rh2, _, K4, hh2, bhz.kept k3 (by omega), ?_, kz.then k3 fun b _ h => h.2⟩ (by omega)
        rw [← ivs_set]
        simpa using ba3
      | false =>
        have hfl := R.v.child (List.mem_of_getElem? hp)
        have K4 := K3.child DV R hin hp eav bav'
        refine idx k rfl hlt3 ?_
        refine fldA ?_
        refine ld (.bool false) (hcp 0 _ rfl) ?_
        refine drawP (.take 0 (.take 1 (.take 2 (.take 3 (.take 4 (.take 5 (.take 6 (.take 7 (.take 8 (.take 9 (.take 10 (.take 11 (.bar (.eff 12 .done)))))))))))))) [12] (fun y => y = z) mx (by kernel_rfl) rfl ?_
        refine fldA ?_
        refine ld (.slice (some (ad bh 0)) n1 n1) (Bcz.cell rfl) ?_
        refine idx k rfl hlt3 ?_
        refine fldA ?_
        refine ld (iv (f : Int)) (hcp 1 _ rfl) ?_
        refine idx k rfl (by omega) ?_
        refine ld (iv av) (hca 0 _ rfl) ?_
        refine idx f rfl (by omega) ?_
        refine barS (fun _ => True) trivial ?_
        refine st (v := iv av) bhz (by simp; omega) rfl (fun z3 bh3' k3 s3' => ?_)
        refine strS trivial ?_
        refine arI (by omega) ?_
        refine next (k + 1) ⟨by rw [Int.natCast_add]; rfl, trivial⟩ ⟨by omega, rh2.set f av, ra2, K4, by rw [clA_set (by omega), if_neg (by omega)]; exact hh2, ?_, baz.kept k3 (by omega), kz.then k3 fun b _ h => h.1⟩ (by omega)
        rw [← ivs_set]
        simpa using bh3'
    have K5 := K3.done (by omega) hh2 hm2
    refine arI (by omega) ?_
    exact next (i + 1) ⟨by rw [Int.natCast_add]; rfl, trivial⟩ ⟨by omega, ((ku1.then x19 fun _ _ _ => trivial).then kv fun b _ h => h.2.2).then kz fun b _ h => ⟨h.1, h.2.1⟩, _, _, _, K5, bhz, baz, bmz⟩ (by omega)
  · have hz : rh.set i (clA hd i) = rh := by
      have : clA hd i = clA rh i := by rw [← hcut]; unfold cut; rw [hrc, if_neg gs]
      rw [this]
      refine List.ext_getElem (by rw [List.length_set]) fun j p1 p2 => ?_
      rw [List.getElem_set]
      split
      · rename_i e; subst e; exact clA_at (List.getElem?_eq_getElem p2)
      · rfl
    have bh1 : Blk u bh 3 (ivs (rh.set i (clA hd i))) := by rw [hz]; exact bhu
    obtain ⟨u1, hu1⟩ : ∃ u1, u1 = u := ⟨_, rfl⟩
    have k1 : Kept (fun b => b ≠ bh) u u1 := by rw [hu1]; exact .refl _ _
    rw [← hu1] at bh1 ⊢
    have hh1 : clA (rh.set i (clA hd i)) i = clA hd i := by rw [clA_set (by omega), if_pos rfl]
    have ku1 : Kept (fun b => b ≠ bh ∧ b ≠ ba ∧ b ≠ bm) w7 u1 := ku.then k1 fun b _ h => h.1
    obtain ⟨rh1, hrh1⟩ : ∃ l, l = rh.set i (clA hd i) := ⟨_, rfl⟩
    rw [← hrh1] at bh1 hh1 K1
    have zu1 := ku1.size
    have B3u := B3u.kept k1 (by omega)
    have Bcu := Bcu.kept k1 (by omega)
    have bau := bau.kept k1 (by omega)
    have bmu := bmu.kept k1 (by omega)
    have hru := hru.kept k1 fun b _ h => by omega
    have hfu := hfu.kept k1 fun b _ h => by omega
    have hlu := hlu.kept k1 fun b _ h => by omega
    have Bsu := Bsu.kept k1 (by omega)
    refine ldA [.string d.name, iv d.hours, iv d.cap, iv d.start, .slice A1 n1 c1, .slice A2 n2 c2, .slice A3 n3 c3, .slice A4 n4 c4, .slice A5 n5 c5, .slice A6 n6 c6] (.blk B3u) rfl ?_
    refine call_of (c_r41Parts (r := (i : Int)) hru hfu ⟨hvn.2, hvf⟩) ?_
    rintro _ u2 ⟨P, np, cp, rfl, oP⟩
    have lP := oP.own.len
    rw [cps_len] at lP
    have sp := oP.pts (by omega)
    have x12 := oP.ext
    refine call_of (c_r41Claims (D := fun _ => True) (sp.more (by decide) fun _ _ _ => trivial) ((hlu.ext x12).more (by decide) fun _ _ _ => trivial) (blk_ints (D := fun _ => True) (Bsu.ext x12) (n := d.reaches.length) (by rw [R.lh]) R.okh (by omega) trivial) (by omega) (fun p hp => ?_)) ?_
    · rcases mem_ptsV.1 hp with h | h
      · exact ⟨fun _ => by have := R.lc; omega, fun e => (by rw [h.1] at e; cases e)⟩
      · exact ⟨fun e => (by rw [h.1] at e; cases e), fun _ => by omega⟩
    rintro _ u3 ⟨C, cc, rfl, oC⟩
    have x13 := x12.trans oC.ext
    have sC : SlR tInt (fun b => u2.heap.size ≤ b) u3 C np (clmV d cl hs i) := oC.ints (okL_i64 okc) (by omega) fun _ h => h
    have B3v := B3u.ext x13
    have Bcv := Bcu.ext x13
    have bh3 := bh1.ext x13
    have hrv := hru.ext x13
    have sp3 := sp.ext oC.ext
    refine drawP (.take 0 (.take 1 (.take 2 (.take 3 (.take 4 (.take 5 (.take 6 (.take 7 (.take 8 (.take 9 (.eff 10 (.take 11 (.take 12 (.take 13 (.take 14 (.take 15 .done)))))))))))))))) [] (fun z => Ext u3 z) mx (by kernel_rfl) (.refl _ _) ?_
    refine fldA ?_
    refine ldK (.slice A1 n1 c1) (B3v.cell rfl) trivial (.refl _ _) ?_
    obtain ⟨br3, or3, cs3, r3, hA3, hr3, -, -, hc3, rfl⟩ := hrv.at_ (k := i) (by omega)
    obtain rfl : r = r3 := by rw [hri] at hr3; injection hr3
    rw [hA3]
    refine idx i rfl (by omega) ?_
    refine ldAK r.c hc3 rfl trivial (.refl _ _) ?_
    refine fldA ?_
    refine ldK (.slice (some (ad bh 0)) n1 n1) (Bcv.cell rfl) trivial (.refl _ _) ?_
    refine idx i rfl (by omega) ?_
    refine ldK (iv (clA rh1 i)) (blkI bh3 K1.oh (n := n1) (by have := K1.lh; omega) (by omega) (by omega) 0 _ rfl) trivial (.refl _ _) ?_
    rw [hh1]
    refine call_of (c_r21Worst (r := r) (v := clA hd i)) ?_
    rintro _ u4 ⟨rfl, x34⟩
    have eL : lErr r (clA hd i) = 0 := lErr_ok.2 ⟨rl1, hokh.1, hokh.2⟩
    rw [eL, if_pos rfl]
    refine strS x34 ?_
    refine call_of (c_r41sum (sC.ext x34) (by omega) okc) ?_
    rintro _ u5 ⟨rfl, rfl⟩
    obtain ⟨wk, hwk⟩ : ∃ wk, wk = workV d cl hs hd i := ⟨_, rfl⟩
    have ewk : min (clA hd i - (lostR r (clA hd i)).hi) (isum (clmV d cl hs i)) = wk := by rw [hwk]; unfold workV; rw [hrc]; rfl
    have hm := AD.mark
    rw [← hwk, ← ewk] at hm tE
    refine call_of (c_r40AwardN (sC.ext x34) hm) ?_
    rintro _ u6 ⟨Aw, nw, cw, rfl, sA, x46⟩
    refine call_of (c_r40Thr ((sC.ext x34).ext x46) hm) ?_
    rintro _ u7 ⟨rfl, x67⟩
    refine alloc (fun b19 u8 i8 => ?_)
    refine stA (vs := encM (mkA mk i)) i8.blk rfl (Nat.le_of_ble_eq_true rfl) (by simp [Value.oneCell']) (fun u9 B19 k9 z9 => ?_)
    have B19 : Blk u9 b19 92 (encM (mkA mk i)) := B19
    have y8 := i8.at_
    have x79 : Ext u7 u9 := i8.ext.then k9 fun b hb _ e => by omega
    have x49 := (x46.trans x67).trans x79
    have x39 := x34.trans x49
    have x19 := x13.trans x39
    have eX : awX (min (clA hd i - (lostR r (clA hd i)).hi) (isum (clmV d cl hs i))) (clmV d cl hs i) (mkA mk i) = awL (mkA mk i) (clmV d cl hs i) := by unfold awX; rw [if_pos tE]
    rw [eX] at sA
    have lA := sA.len
    rw [awL_len] at lA
    have lcm : (clmV d cl hs i).length = np := by rw [clmV_len]; omega
    have z13 := x13.size
    have z12 := x12.size
    have z39 := x39.size
    have z36 := (x34.trans x46).size
    have Bcw := Bcv.ext x39
    have bmw := bmu.ext x19
    have sA : SlR tInt (fun b => u3.heap.size ≤ b ∧ b < u6.heap.size) u9 Aw nw (awL (mkA mk i) (clmV d cl hs i)) := ((sA.more (D' := fun b => u3.heap.size ≤ b ∧ b < u6.heap.size) (by decide) fun b hb h => ⟨by have := x34.size; omega, hb⟩).ext x67).ext x79
    have sp9 : SlR tPt (fun b => u1.heap.size ≤ b) u9 P np (ptsV d (i : Int)) := sp3.ext x39
    have z19 := x19.size
    have lbm9 := bmw.lt
    have lbm1 := bmu.lt
    have lbh1 := bh1.lt
    have lba1 := bau.lt
    refine fldA ?_
    refine ld (.slice (some (ad bm 0)) n1 n1) (Bcw.cell rfl) ?_
    refine ldA (encM (mkA mk i)) (.blk B19) rfl ?_
    refine idx i rfl (by omega) ?_
    refine stA (vs := encM (mkA mk i)) bmw rfl (by rw [mks_len]; have := K1.lm; show _ + 4 ≤ _; omega) (by simp [Value.oneCell']) (fun v0 bmv kv zv => ?_)
    have bmv : Blk v0 bm 92 (mks (rm.set i (mkA mk i))) := by
      rw [← mks_set (by have := K1.lm; omega : i < rm.length)]
      simpa using bmv
    have K2 := K1.marked hin
    have hm2 := (K1.mark hin).2.2
    have Bcv0 := Bcw.kept kv (by omega)
    have bhv := (bh1.ext x19).kept kv (by omega)
    have bav := (bau.ext x19).kept kv (by omega)
    have sA := sA.kept kv fun b _ h => by omega
    have sp9 := sp9.kept kv fun b _ h => by omega
    have zv0 := kv.size
    refine loop_rule (fun k : Nat => [(21, iv (k : Int))]) (fun k z => k ≤ np ∧ ∃ rh2 ra2, RefK d hd aw mk rh2 ra2 (rm.set i (mkA mk i)) i k ∧ clA rh2 i = clA hd i ∧ Blk z bh 3 (ivs rh2) ∧ Blk z ba 3 (ivs ra2) ∧ Kept (fun b => b ≠ bh ∧ b ≠ ba) v0 z) (fun k _ => np - k) 0 ⟨rfl, trivial⟩ ⟨by omega, rh1, ra, K2, hh1, bhv, bav, .refl _ _⟩ rfl ?_
    rintro G9 k z ⟨hk, rh2, ra2, K3, hh2, bhz, baz, kz⟩
    have Bcz := Bcv0.kept kz ⟨by omega, by omega⟩
    have saz := sA.kept kz fun b _ h => ⟨by omega, by omega⟩
    have spz := sp9.kept kz fun b _ h => ⟨by omega, by omega⟩
    have bmz := bmv.kept kz ⟨by omega, by omega⟩
    refine len ?_
    refine cD (fun hlt3 => ?_) (fun hge3 => ?_)
    · have hlt3 : k < np := by omega
      obtain ⟨bp, op, csp, p, rfl, hp, -, -, hcp, rfl⟩ := spz.at_ hlt3
      obtain ⟨ba_, oa_, csa, av, rfl, hav, -, -, hca, rfl, -⟩ := saz.at_ (k := k) (by omega)
      have eav : av = ownV (mkA mk i) (clA (clmV d cl hs i) k) k := by
        have := awL_at (m := mkA mk i) (l := clmV d cl hs i) (i := k) (by omega)
        rw [hav] at this; injection this
      have bav' := own_small (hm.awd tE) okc (i := k) (by omega)
      rw [← eav] at bav'
      have lrh2 := K3.lh
      have lra2 := K3.la
      obtain ⟨pf, f⟩ := p
      cases pf with
      | true =>
        have hfl : f < d.farms.length := by
          rcases mem_ptsV.1 (List.mem_of_getElem? hp) with h | h
          · exact h.2.1
          · cases h.1
        have K4 := K3.farm DV hin hp eav bav'
        refine idx k rfl hlt3 ?_
        refine fldA ?_
        refine ld (.bool true) (hcp 0 _ rfl) ?_
        refine drawP (.take 0 (.take 1 (.take 2 (.take 3 (.take 4 (.take 5 (.take 6 (.take 7 (.take 8 (.take 9 (.take 10 (.take 11 (.bar (.eff 12 .done)))))))))))))) [12] (fun y => y = z) mx (by kernel_rfl) rfl ?_
        refine fldA ?_
        refine ld (.slice (some (ad ba 0)) n2 n2) (Bcz.cell rfl) ?_
        refine idx k rfl hlt3 ?_
        refine fldA ?_
        refine ld (iv (f : Int)) (hcp 1 _ rfl) ?_
        refine idx k rfl (by omega) ?_
        refine ld (iv av) (hca 0 _ rfl) ?_
        refine idx f rfl (by omega) ?_
        refine barS (fun _ => True) trivial ?_
        refine st (v := iv av) baz (by simp; omega) rfl (fun z3 ba3 k3 s3' => ?_)
        refine strS trivial ?_
        refine arI (by omega) ?_
        refine next (k + 1) ⟨by rw [Int.natCast_add]; rfl, trivial⟩ ⟨by omega, rh2, _, K4, hh2, bhz.kept k3 (by omega), ?_, kz.then k3 fun b _ h => h.2⟩ (by omega)
        rw [← ivs_set]
        simpa using ba3
      | false =>
        have hfl := R.v.child (List.mem_of_getElem? hp)
        have K4 := K3.child DV R hin hp eav bav'
        refine idx k rfl hlt3 ?_
        refine fldA ?_
        refine ld (.bool false) (hcp 0 _ rfl) ?_
        refine drawP (.take 0 (.take 1 (.take 2 (.take 3 (.take 4 (.take 5 (.take 6 (.take 7 (.take 8 (.take 9 (.take 10 (.take 11 (.bar (.eff 12 .done)))))))))))))) [12] (fun y => y = z) mx (by kernel_rfl) rfl ?_
        refine fldA ?_
        refine ld (.slice (some (ad bh 0)) n1 n1) (Bcz.cell rfl) ?_
        refine idx k rfl hlt3 ?_
        refine fldA ?_
        refine ld (iv (f : Int)) (hcp 1 _ rfl) ?_
        refine idx k rfl (by omega) ?_
        refine ld (iv av) (hca 0 _ rfl) ?_
        refine idx f rfl (by omega) ?_
        refine barS (fun _ => True) trivial ?_
        refine st (v := iv av) bhz (by simp; omega) rfl (fun z3 bh3' k3 s3' => ?_)
        refine strS trivial ?_
        refine arI (by omega) ?_
        refine next (k + 1) ⟨by rw [Int.natCast_add]; rfl, trivial⟩ ⟨by omega, rh2.set f av, ra2, K4, by rw [clA_set (by omega), if_neg (by omega)]; exact hh2, ?_, baz.kept k3 (by omega), kz.then k3 fun b _ h => h.1⟩ (by omega)
        rw [← ivs_set]
        simpa using bh3'
    have K5 := K3.done (by omega) hh2 hm2
    refine arI (by omega) ?_
    exact next (i + 1) ⟨by rw [Int.natCast_add]; rfl, trivial⟩ ⟨by omega, ((ku1.then x19 fun _ _ _ => trivial).then kv fun b _ h => h.2.2).then kz fun b _ h => ⟨h.1, h.2.1⟩, _, _, _, K5, bhz, baz, bmz⟩ (by omega)
end
end Go.Proofs.YtmjcaclakggafaaGreat

/- Layer 41: the reference's Same, DivisionDivideSpec. -/
namespace Go.Proofs.YtmjcaclakggafaaGreat
open Go Go.RowKit

def tMk4 : Ty Mk := tFl 4 encM fun _ => rfl
theorem flat_mks {D : Nat → Prop} {w : World} : ∀ {s : List Mk}, FlatR tMk4 D w s (mks s)
  | [] => rfl
  | x :: s => ⟨encM x, mks s, rfl, rfl, flat_mks⟩
section
variable {D : Nat → Prop} {w : World}
theorem c_r41Same {hd aw : List Int} {mk : List Mk} {H G M H' G' M' : Option Addr} {nh ch ng cg nm cm nh' ch' ng' cg' nm' cm' : Nat} (h1 : SlR tInt D w H nh hd) (h2 : SlR tInt D w G ng aw) (h3 : SlR tMk4 D w M nm mk) (h1' : SlR tInt D w H' nh' hd) (h2' : SlR tInt D w G' ng' aw) (h3' : SlR tMk4 D w M' nm' mk) :
    CallZ Tryz.prog 16 #[.agg #[.slice H nh ch, .slice G ng cg, .slice M nm cm], .agg #[.slice H' nh' ch', .slice G' ng' cg', .slice M' nm' cm']] w (fun v w' => v = .bool true ∧ Ext w w') := by
  have l3 := h3.len
  have l3' := h3'.len
  have e3 := h3.le
  refine fn_rule (args := [.agg #[.slice H nh ch, .slice G ng cg, .slice M nm cm], .agg #[.slice H' nh' ch', .slice G' ng' cg', .slice M' nm' cm']]) Tryz.func16 (by kernel_rfl) ?_
  refine box (fun b2 w1 i1 => ?_)
  refine box (fun b3 w2 i2 => ?_)
  have B2 : Blk w2 b2 46 [.slice H nh ch, .slice G ng cg, .slice M nm cm] := i1.blk.ext i2.ext
  have B3 : Blk w2 b3 46 [.slice H' nh' ch', .slice G' ng' cg', .slice M' nm' cm'] := i2.blk
  have xx := i1.ext.trans i2.ext
  refine fldA ?_
  refine ld (.slice M nm cm) (B2.cell rfl) ?_
  refine len ?_
  refine fldA ?_
  refine ld (.slice M' nm' cm') (B3.cell rfl) ?_
  refine len ?_
  refine cN (fun h => absurd (by omega) h) (fun _ => ?_)
  refine loop_rule (fun k : Nat => [(5, iv (k : Int))]) (fun k u => k ≤ nm ∧ w2 = u) (fun k _ => nm - k) 0 ⟨rfl, trivial⟩ ⟨by omega, rfl⟩ rfl ?_
  rintro G9 k u ⟨hk, rfl⟩
  refine fldA ?_
  refine ld (.slice M nm cm) (B2.cell rfl) ?_
  refine len ?_
  refine cD (fun hlt => ?_) (fun hge => ?_)
  · have hlt : k < nm := by omega
    obtain ⟨b, o, cs, m, hA, hm, -, -, hc, rfl⟩ := (h3.ext xx).at_ hlt
    obtain ⟨b', o', cs', m', hA', hm', -, -, hc', rfl⟩ := (h3'.ext xx).at_ (k := k) (by omega)
    rw [hm] at hm'; injection hm' with hm'; subst hm'
    subst hA; subst hA'
    refine drawQ mx (by kernel_rfl) ?_
    refine fldA ?_
    refine ld (.slice (some (ad b o)) nm cm) (B2.cell rfl) ?_
    refine idx k rfl hlt ?_
    refine ldA (encM m) hc rfl ?_
    refine fldA ?_
    refine ld (.slice (some (ad b' o')) nm' cm') (B3.cell rfl) ?_
    refine idx k rfl (by omega) ?_
    refine ldA (encM m) hc' rfl ?_
    refine neS ((m.late == m.late) && ((m.level == m.level) && ((m.claim == m.claim) && ((m.index == m.index) && true)))) (by kernel_rfl) (fun h => by simp at h) (fun _ => ?_)
    refine arI (by omega) ?_
    exact next (k + 1) ⟨by rw [Int.natCast_add]; rfl, trivial⟩ ⟨by omega, rfl⟩ (by omega)
  · refine fldA ?_
    refine ld (.slice H nh ch) (B2.cell rfl) ?_
    refine fldA ?_
    refine ld (.slice H' nh' ch') (B3.cell rfl) ?_
    refine callB ((c_r40Same (h1.ext xx) (h1'.ext xx)).mono fun v w' h => ⟨h.1, h.2⟩) (fun _ => ?_) (fun h => absurd (of_decide_eq_false h) (fun h => h rfl))
    refine fldA ?_
    refine ld (.slice G ng cg) (B2.cell rfl) ?_
    refine fldA ?_
    refine ld (.slice G' ng' cg') (B3.cell rfl) ?_
    refine callB ((c_r40Same (h2.ext xx) (h2'.ext xx)).mono fun v w' h => ⟨h.1, h.2⟩) (fun _ => ?_) (fun h => absurd (of_decide_eq_false h) (fun h => h rfl))
    exact ret1 (.bool true) rfl ⟨rfl, xx⟩
set_option maxRecDepth 4000 in
theorem c_DivisionDivideSpec {csd : List Value} {d : Dist} {cl : List Int} {A : Option Addr} {n c : Nat} {E : Int} (hd : DiR D w csd d) (hl : SlR tInt D w A n cl) : CallZ Tryz.prog 4 #[.agg csd.toArray, .slice A n c, iv E] w (fun v w' => v = .bool true ∧ Ext w w') := by
  have hd0 := hd
  obtain ⟨A1, n1, c1, A2, n2, c2, A3, n3, c3, A4, n4, c4, A5, n5, c5, A6, n6, c6, rfl, hr, hf, -⟩ := hd.ex
  refine fn_rule (args := [.agg #[.string d.name, iv d.hours, iv d.cap, iv d.start, .slice A1 n1 c1, .slice A2 n2 c2, .slice A3 n3 c3, .slice A4 n4 c4, .slice A5 n5 c5, .slice A6 n6 c6], .slice A n c, iv E]) Tryz.func4 (by kernel_rfl) ?_
  refine box (fun b3 w1 h1 => ?_)
  have B3 : Blk w1 b3 31 [.string d.name, iv d.hours, iv d.cap, iv d.start, .slice A1 n1 c1, .slice A2 n2 c2, .slice A3 n3 c3, .slice A4 n4 c4, .slice A5 n5 c5, .slice A6 n6 c6] := h1.blk
  refine call_of (c_ssane) ?_
  rintro _ w2 ⟨rfl, x2⟩
  have B3 := B3.ext x2
  have x02 := h1.ext.trans x2
  refine ldA [.string d.name, iv d.hours, iv d.cap, iv d.start, .slice A1 n1 c1, .slice A2 n2 c2, .slice A3 n3 c3, .slice A4 n4 c4, .slice A5 n5 c5, .slice A6 n6 c6] (.blk B3) rfl ?_
  refine call_of (c_r41Few (hd0.ext x02)) ?_
  rintro _ w3 ⟨⟨q, rfl⟩, x3⟩
  have B3 := B3.ext x3
  have x03 := x02.trans x3
  cases q with
  | false => exact ret1 (.bool true) rfl ⟨rfl, x03⟩
  | true =>
    refine ldA [.string d.name, iv d.hours, iv d.cap, iv d.start, .slice A1 n1 c1, .slice A2 n2 c2, .slice A3 n3 c3, .slice A4 n4 c4, .slice A5 n5 c5, .slice A6 n6 c6] (.blk B3) rfl ?_
    refine call_of (c_dDiv (E := E) (hd0.ext x03) (hl.ext x03)) ?_
    rintro _ w4 ⟨H, nh, ch, G, ng, cg, M, nm, cm, rfl, x4, hc⟩
    refine alloc (fun b7 w5 h5 => ?_)
    refine stA (vs := [.slice H nh ch, .slice G ng cg, .slice M nm cm]) h5.blk rfl (Nat.le_of_ble_eq_true rfl) (by simp [Value.oneCell']) (fun w6 B7 k6 z6 => ?_)
    have B7 : Blk w6 b7 46 [.slice H nh ch, .slice G ng cg, .slice M nm cm] := B7
    have e5 := h5.at_
    have x46 : Ext w4 w6 := h5.ext.then k6 fun b hb _ e => by omega
    have x36 := x4.trans x46
    have B3 := B3.ext x36
    have x06 := x03.trans x36
    obtain ⟨hs, hd1, aw, mk, hdat, hsl⟩ : ∃ hs hd1 aw mk, (dvErr d cl E = 0 → needsV d cl = some hs ∧ Rdy d cl hs ∧ DivV d cl hs E hd1 aw mk ∧ OkL hd1 ∧ OkL aw) ∧ (SlR tInt (fun _ => True) w4 H nh hd1 ∧ SlR tInt (fun _ => True) w4 G ng aw ∧ SlR tMk4 (fun _ => True) w4 M nm mk) ∧ (dvErr d cl E ≠ 0 → hd1 = [] ∧ aw = [] ∧ mk = []) := by
      by_cases g : dvErr d cl E = 0
      · obtain ⟨lh, lg, lm, hs, hd1, aw, mk, bh, ba, bm, hne, R, DV, oh, oa, rfl, rfl, rfl, Bh, Ba, Bm, -⟩ := hc.ok g
        have hvn := R.v.n
        have hvf := R.v.f
        have a1 := DV.lh
        have a2 := DV.la
        have a3 := DV.lm
        exact ⟨hs, hd1, aw, mk, fun _ => ⟨hne, R, DV, oh, oa⟩, ⟨blk_ints Bh (by omega) oh (by omega) trivial, blk_ints Ba (by omega) oa (by omega) trivial, SlR.of_cells (by omega) (by omega) trivial (CellsAt.blk Bm) flat_mks⟩, fun q => absurd g q⟩
      · obtain ⟨⟨rfl, rfl⟩, ⟨rfl, rfl⟩, rfl, rfl⟩ := hc.er g
        exact ⟨[], [], [], [], fun q => absurd q g, ⟨.nil, .nil, .nil⟩, fun _ => ⟨rfl, rfl, rfl⟩⟩
    obtain ⟨⟨s1, s2, s3⟩, hnil⟩ := hsl
    refine ldA [.string d.name, iv d.hours, iv d.cap, iv d.start, .slice A1 n1 c1, .slice A2 n2 c2, .slice A3 n3 c3, .slice A4 n4 c4, .slice A5 n5 c5, .slice A6 n6 c6] (.blk B3) rfl ?_
    refine call_of (c_rDiv (E := E) (hd0.ext x06) (hl.ext x06) hdat) ?_
    rintro _ w7 ⟨H', nh', ch', G', ng', cg', M', nm', cm', rfl, x7, hE1, hE0⟩
    refine alloc (fun b9 w8 h8 => ?_)
    refine stA (vs := [.slice H' nh' ch', .slice G' ng' cg', .slice M' nm' cm']) h8.blk rfl (Nat.le_of_ble_eq_true rfl) (by simp [Value.oneCell']) (fun w9 B9 k9 z9 => ?_)
    have B9 : Blk w9 b9 46 [.slice H' nh' ch', .slice G' ng' cg', .slice M' nm' cm'] := B9
    have e8 := h8.at_
    have x79 : Ext w7 w9 := h8.ext.then k9 fun b hb _ e => by omega
    have x69 := x7.trans x79
    have x09 := x06.trans x69
    have B7 := B7.ext x69
    have x49 := x46.trans x69
    have r3 : SlR tInt (fun _ => True) w7 H' nh' hd1 ∧ SlR tInt (fun _ => True) w7 G' ng' aw ∧ SlR tMk4 (fun _ => True) w7 M' nm' mk := by
      by_cases g : dvErr d cl E = 0
      · obtain ⟨lh, lg, lm, bh, ba, bm, rfl, rfl, rfl, Bh, Ba, Bm⟩ := hE0 g
        obtain ⟨hne, R, DV, oh, oa⟩ := hdat g
        have hvn := R.v.n
        have hvf := R.v.f
        have a1 := DV.lh
        have a2 := DV.la
        have a3 := DV.lm
        exact ⟨blk_ints Bh (by omega) oh (by omega) trivial, blk_ints Ba (by omega) oa (by omega) trivial, SlR.of_cells (by omega) (by omega) trivial (CellsAt.blk Bm) flat_mks⟩
      · obtain ⟨⟨rfl, rfl⟩, ⟨rfl, rfl⟩, rfl, rfl⟩ := hE1 g
        obtain ⟨rfl, rfl, rfl⟩ := hnil g
        exact ⟨.nil, .nil, .nil⟩
    obtain ⟨t1, t2, t3⟩ := r3
    refine ldA _ (.blk B7) rfl ?_
    refine ldA _ (.blk B9) rfl ?_
    refine call_of (c_r41Same (s1.ext x49) (s2.ext x49) (s3.ext x49) (t1.ext x79) (t2.ext x79) (t3.ext x79)) ?_
    rintro _ w10 ⟨rfl, x10⟩
    refine cE (fun _ => ?_) (fun h => absurd rfl h)
    exact ret1 (.bool true) rfl ⟨rfl, x09.trans x10⟩
end
end Go.Proofs.YtmjcaclakggafaaGreat

/- Closing: what districts and claims that are handed in read as. -/
namespace Go.Proofs.YtmjcaclakggafaaGreat
open Go Go.RowKit Go.ChangeShapes Go.WideShapes Go.ChangeAt

theorem rd_is : Rd Tryz.prog 32 (tSl tInt) := inferInstance
end Go.Proofs.YtmjcaclakggafaaGreat
