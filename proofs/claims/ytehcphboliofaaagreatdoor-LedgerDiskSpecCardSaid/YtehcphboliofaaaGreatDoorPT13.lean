/- Parts of the proof: Ne Nf Ng Nh Ni. -/
import Derived.Test.YtehcphboliofaaaGreatDoorPT12
import Derived.Test.YtehcphboliofaaaGreatDoorPT11
import Derived.Test.YtehcphboliofaaaGreatDoorPT10
import Derived.Test.YtehcphboliofaaaGreatDoorPT8
import Derived.Lib.AppendStr
namespace Go.Proofs.YtehcphboliofaaaGreatDoor
open Go Go.RowKit
theorem zc_one (z : Value) : ∀ k, Builtin.zeroCells #[z] k = (List.replicate k z).toArray := fun k => by
  apply Array.ext
  · simp [Builtin.zeroCells]
  · intro i h1 h2
    simp only [Builtin.zeroCells, Array.getElem_map, List.getElem_toArray, List.getElem_replicate]
    rw [show (Array.range (k * #[z].size))[i]'(by simpa [Builtin.zeroCells] using h1) % #[z].size = 0 from Nat.mod_one _]
    rfl
theorem run_zeros_own {P : Program} (w : World) (t tn ty e : TypeId) (i : TypeInfo) (z : Value) (kq kn : IntKind) (ht : P.underlying t = some (.slice e)) (htn : P.underlying tn = some (.int kn)) (hi : P.info? e = some i) (hz : i.zero = some z)
    (hsize : i.size = 1) (hby : i.bytes = 1) (hzc : z.cells = #[z]) (hz1 : z.oneCell' = true) (g n cap : Nat) (xs : List Value) (hown : w.ownsRow 0 e 1 (.slice (some (ad g 0)) n cap) n xs) (k : Nat) (h0 : 0 < k) (hnk : n + k ≤ 1000000) :
    ∃ v' w', (Builtin.append_ #[t, tn] ty #[.slice (some (ad g 0)) n cap, .int kq k]).run P w = .ok v' w' ∧ w'.ownsRow 0 e 1 v' (n + k) (xs ++ List.replicate k z) ∧ w.grownBy w' (some g) ∧ (v'.ownBlock = some g ∨ v'.ownBlock = some w.heap.size) := by
  have hlx : xs.length = n := by simpa using hown.1
  have hlen : (xs ++ List.replicate k z).length = (n + k) * 1 := by rw [List.length_append, List.length_replicate, hlx, Nat.mul_one]
  rcases hown.2 with ⟨h, -⟩ | ⟨g', cap', cur, hv, hbg, hg, hnc, hcm, hcs, htake⟩
  · cases h
  injection hv with hv1 hv2 hv3; injection hv1 with hv1; injection hv1 with hv1; subst hv1; subst hv3
  have hs1 : 0 < i.size := by omega
  by_cases hroom : n + k ≤ cap
  · have hst := run_storeCells_at P g n e (List.replicate k z) 0 cur w hg (by rw [List.length_replicate]; omega) (fun v hv => by rw [List.mem_replicate] at hv; rw [hv.2]; exact hz1)
    have hw : IntKind.i64.wrap (k : Int) = k := by rw [IntKind.wrap_i64]; omega
    have h48i : ¬ (281474976710656 < (k : Int) * (i.bytes : Int)) := by rw [hby]; omega
    have hneg : ¬ ((k : Int) < 0) := by omega
    have hns : ¬ (k * i.size = 0) := Nat.mul_ne_zero (by omega) (by omega)
    have hr : (Builtin.append_ #[t, tn] ty #[.slice (some (ad g 0)) n cap, .int kq k]).run P w = .ok (.slice (some (ad g 0)) (n + k) cap) (w.setRow g (cur.toList.take (n + 0) ++ List.replicate k z ++ cur.toList.drop (n + 0 + (List.replicate k z).length)).toArray) := by
      have hzc' : (Builtin.zeroCells z.cells k).toList = List.replicate k z := by rw [hzc, zc_one]
      have hk0 : ¬ k = 0 := by omega
      have had : (ad g 0).add n = ⟨g, n, none⟩ := by rw [add_ad, Nat.zero_add]
      simp only [Nat.add_zero, List.length_replicate, List.append_assoc] at hst; simp [Builtin.append_, run_underlying ht, run_underlying htn, sizeOf, typeInfo, zeroValue, hi, hz, asInt, asIntOf, hw, hk0, hsize, hneg, h48i, hroom, hzc', had, hst]
    refine ⟨_, _, hr, ⟨hlen, .inr ⟨g, cap, _, rfl, Nat.zero_le _, setRow_heap w g cur _ e _ hg, hroom, hcm, ?_, ?_⟩⟩, ⟨rfl, rfl, rfl, by simp, fun j _ hj => setRow_other w g j _ (fun q => hj (by rw [q]))⟩, .inl rfl⟩
    · simp only [List.size_toArray, List.length_append, List.length_take, List.length_drop, Array.length_toList, List.length_replicate]; omega
    · rw [Nat.mul_one] at htake; rw [Nat.add_zero, htake, ← hlen]; exact List.take_left
  · have hr := Lib.run_append_grow_zeros (P := P) w t tn ty e i z kq kn ht htn hi hz (some (ad g 0)) n cap xs (run_firstCells_some w.drew i.size n (ad g 0) n cap xs (by rw [hsize]; exact hown.1) (by simpa using hown.cells (g := g) rfl)) k h0 hs1 (by omega) (by omega) (by rw [hby]; omega) (growslice_fits (by omega) (by rw [hby]; omega)); have hge := grownCap_ge w (n + k) cap e; have hcm' : grownCap w (n + k) cap e ≤ maxLen := grownCap_le_maxLen w (n + k) cap e (by unfold maxLen; omega); refine ⟨_, _, hr, ⟨hlen, .inr ⟨w.heap.size, _, _, rfl, Nat.zero_le _, heap_alloc_new w.drew _, hge, hcm', ?_, ?_⟩⟩, ⟨rfl, rfl, rfl, by simp, fun j hj _ => heap_alloc_old w.drew _ hj⟩, .inr rfl⟩
    · simp only [Array.size_append, List.size_toArray, size_zeroCells, hzc, List.length_cons, List.length_nil]; omega
    · rw [hzc, zc_one, zc_one]; simp only [Array.toList_append, List.append_assoc]; rw [← List.append_assoc, ← hlen]; exact List.take_left
theorem appFZ {P : Program} {X : XK} {t tn e : TypeId} {zv : Value} {kn : IntKind} [h : SliceTy P t e 1] [hz : ZeroTy P e zv] [hby : BytesTy P e 1] [hn : IntTy P tn kn] {ty : TypeId} {cst : Array Bool} {kq : IntKind} {i : Int} {n c g : Nat} {cs : List Value} {w0 w : World} {K : VK} (k : Nat) (hi : i = (k : Int))
    (hown : OwnF w0 w (some (ad g 0)) n c e 1 cs) (h0 : 0 < k) (hb : n + k ≤ 1000000) (hzc : zv.cells = #[zv]) (hz1 : zv.oneCell' = true)
    (kk : ∀ A' c' w', OwnF w0 w' A' (n + k) c' e 1 (cs ++ List.replicate k zv) → Kept (fun b => b ≠ g) w w' → (A' = some (ad g 0) ∨ A' = some (ad w.heap.size 0)) → K (.slice A' (n + k) c') w') : BuiP P .append #[t, tn] ty cst #[.slice (some (ad g 0)) n c, .int kq i] K X w := by
  rw [BuiP_eq]; refine OpS.x fun w1 hw => ?_; subst hw; subst hi; obtain ⟨hu, inf, hinf, hsz⟩ := sliceOf_spec h.h; obtain ⟨i', hi', hzz⟩ := zeroOf_spec hz.h; rw [hinf] at hi'; cases hi'
  have hbb : inf.bytes = 1 := by have := hby.h; unfold bytesOf at this; rw [hinf] at this; simpa using this
  have hnu : P.underlying tn = some (.int kn) := by
    have := hn.h; unfold intOf at this; split at this <;> simp_all
  obtain ⟨v', w', hr, ho, hg, hat⟩ := run_zeros_own (P := P) w1 t tn ty e inf zv kq kn hu hnu hinf hzz hsz hbb hzc hz1 g n c cs hown.own k h0 hb; rw [show builtin .append #[t, tn] ty cst #[.slice (some (ad g 0)) n c, .int kq (k : Int)] = vS (Builtin.append_ #[t, tn] ty #[.slice (some (ad g 0)) n c, .int kq (k : Int)]) from rfl, run_vS, hr]; have hk : Kept (fun b => b ≠ g) (z w1) (z w') := ⟨hg.os, hg.tape, hg.output, hg.size, fun j hj hD => hg.block j hj (fun e => hD (Option.some.inj e))⟩; have ho : Own (z w') v' e 1 (n + k) (cs ++ List.replicate k zv) := ho
  have hx : Ext w0 (z w') := hown.ext.then hk fun j hj _ e => by have := hown.new g rfl; omega
  rcases ho.form with ⟨-, h0'⟩ | ⟨g2, cap, rfl, hc⟩
  · omega
  have hA : g2 = g ∨ g2 = w1.heap.size := by
    rcases hat with h | h
    · injection h with h; exact .inl h
    · injection h with h; exact .inr h
  refine kk (some (ad g2 0)) cap (z w') ⟨ho, hx, fun g' e' => ?_⟩ hk (hA.elim (fun h => .inl (by rw [h])) fun h => .inr (by rw [h]; rfl)); injection e' with e'; injection e' with e'; have h1 := hown.new g rfl; have h2 := hown.ext.size; rcases hA with h | h
  · omega
  · have : (z w1).heap.size = w1.heap.size := rfl; omega
theorem own_num {w0 w w' : World} {g n N : Nat} (hx : Ext w0 w) (hg : w.heap.size ≤ g) (B : Blk w' g 5 (u8s (beB n N))) (xe : Ext w w') (hn : n ≤ 8) : OwnF w0 w' (some (ad g 0)) n n 5 1 (u8s (beB n N)) :=
  ⟨Own.of_blk (rest := []) (by simpa using B) (by rw [List.length_map, beB_len, Nat.mul_one]) (by rw [List.append_nil, List.length_map, beB_len, Nat.mul_one]) (Nat.le_refl _) (by unfold maxLen; omega), hx.trans xe, fun g' e => by injection e with e; injection e with e; have := hx.size; omega⟩
section
variable {D : Nat → Prop} {w : World}
set_option maxRecDepth 4000 in
set_option maxHeartbeats 1000000 in
theorem c_r05Sector {A : Option Addr} {n c g num : Nat} {b : List Nat} (hs : SlR tU8 D w A n b) (hn : n < 112) (hg : g < 4294967296) (hnum : num ≤ 140737488355328) : CallZ Tryz.prog 115 #[uv64 g, iv (num : Int), .bool true, .bool true, .slice A n c] w (fun v w' => ∃ E ce, v = .slice E 128 ce ∧ OwnF w w' E 128 ce 5 1 (u8s (encB g num 3 b))) := by
  have hlen := hs.len; have hb8 := hs.u8b; refine fn_rule (args := [uv64 g, iv (num : Int), .bool true, .bool true, .slice A n c]) Tryz.func115 (by kernel_rfl) ?_; refine arW ?_; refine arW ?_; refine cv64 num rfl ?_; rw [Nat.mod_eq_of_lt (show num < 18446744073709551616 by omega)]; refine call_of (c_r05numeral (n := num) (many := 2) (by omega) (by omega) (by omega)) ?_; rintro _ w1 ⟨g1, rfl, hg1, B1, x1⟩; have o1 := own_num (.refl _ _) hg1 B1 x1 (by omega); refine len ?_; refine cv8 n rfl ?_; rw [Nat.mod_eq_of_lt (show n < 256 by omega)]; refine lit [uv8 3, uv8 n] (fun g2 w2 h2 => ?_); refine appF (o1.then h2.ext) (h2.src (n := 2) rfl) (by omega) (fun A3 c3 w3 o3 k3 _ => ?_); refine appF o3 (hs.ext o3.ext).u8src (by omega) (fun A4 c4 w4 o4 k4 _ => ?_) (h1 := u8s_one _); refine len ?_; refine arI (n := (112 : Int) - (n : Int)) (by omega) ?_; rw [show (112 : Int) - (n : Int) = ((112 - n : Nat) : Int) by omega]; rcases o4.form with ⟨-, h0, -⟩ | ⟨g4, rfl, -, -, -⟩
  · omega
  refine appFZ (zv := uv8 0) (112 - n) rfl o4 (by omega) (by omega) rfl rfl (fun A5 c5 w5 o5 k5 _ => ?_)
  have hbody : u8s (beB 2 num) ++ [uv8 3, uv8 n] ++ u8s b ++ List.replicate (112 - n) (uv8 0) = u8s (bodyB num 3 b) := by
    unfold bodyB; rw [u8s_app, u8s_app, u8s_app, u8s_rep, hlen, List.append_assoc, List.append_assoc]
    rfl
  have o5 : OwnF w w5 A5 (2 + 2 + n + (112 - n)) c5 5 1 (u8s (bodyB num 3 b)) := by rw [← hbody]; exact o5
  rw [show 2 + 2 + n + (112 - n) = 116 by omega] at o5 ⊢; have hbl : (bodyB num 3 b).length = 116 := bodyB_len (by omega); have hbb := bodyB_lt (num := num) (kind := 3) (b := b) (by omega) (by omega) hb8; have hcl := crcL_lt hbb; have x5 := o5.ext; refine call_of (c_r05numeral (n := g) (many := 4) (by omega) (by omega) (by omega)) ?_; rintro _ w6 ⟨g6, rfl, hg6, B6, x6⟩; have o6 := own_num (.refl _ _) hg6 B6 x6 (by omega); have s5 := (o5.u8 (D := fun _ => True) hbb (by omega) fun _ _ => trivial).ext x6; refine call_of (c_r05checksum s5) ?_; rintro _ _ ⟨rfl, rfl⟩; refine cv64 (crcL (bodyB num 3 b)) rfl ?_; rw [Nat.mod_eq_of_lt (show crcL (bodyB num 3 b) < 18446744073709551616 by omega)]; refine call_of (c_r05numeral (n := crcL (bodyB num 3 b)) (many := 4) (by omega) (by omega) (by omega)) ?_; rintro _ w7 ⟨g7, rfl, hg7, B7, x7⟩; have o7 := own_num (.refl _ _) hg7 B7 x7 (by omega); have s7 := o7.u8 (D := fun _ => True) (beB_lt _ _) (by omega) fun _ _ => trivial; refine appF (o6.then x7) s7.u8src (by omega) (fun A8 c8 w8 o8 k8 _ => ?_) (h1 := u8s_one _); have e7 := o7.new g7 rfl
  have s58 := ((((o5.u8 (D := fun _ => True) hbb (by omega) fun _ _ => trivial).more (D' := fun b => b < w5.heap.size) (by decide) fun _ h _ => h).ext x6).ext x7).kept k8 fun q _ hq e => by injection e with e; injection e with e; omega
  refine appF o8 s58.u8src (by omega) (fun A9 c9 w9 o9 k9 _ => ?_) (h1 := u8s_one _); refine call_of (c_r05numeral (n := g) (many := 4) (by omega) (by omega) (by omega)) ?_; rintro _ w10 ⟨g10, rfl, hg10, B10, x10⟩; have o10 := own_num (.refl _ _) hg10 B10 x10 (by omega); have s10 := o10.u8 (D := fun _ => True) (beB_lt _ _) (by omega) fun _ _ => trivial; refine appF (o9.then x10) s10.u8src (by omega) (fun A11 c11 w11 o11 k11 _ => ?_) (h1 := u8s_one _)
  have he : u8s (beB 4 g) ++ u8s (beB 4 (crcL (bodyB num 3 b))) ++ u8s (bodyB num 3 b) ++ u8s (beB 4 g) = u8s (encB g num 3 b) := by
    unfold encB; rw [u8s_app, u8s_app, u8s_app, List.append_assoc, List.append_assoc]
  rw [he] at o11; exact ret1 (.slice A11 128 c11) rfl ⟨A11, c11, rfl, o11.base x5⟩
end
section
variable {D : Nat → Prop} {w : World}
set_option maxRecDepth 8000 in
set_option maxHeartbeats 4000000 in
theorem c_r04Sync {d : Dsk} {cs : List Value} (hd : DskR D w cs d) : CallZ Tryz.prog 116 #[.agg cs.toArray] w (fun v w' => RetE D w w' v (syncP d)) := by
  obtain ⟨A, n, c, B, m, c2, rfl, hs, hc, hp, hc2, hId⟩ := hd.ex; have ln := hs.len; have lm := hp.len; have hs0 := hs.more (D' := fun b => D b ∧ b < w.heap.size) (by decide) fun b hb h => ⟨h, hb⟩; have hp0 := hp.more (D' := fun b => D b ∧ b < w.heap.size) (by decide) fun b hb h => ⟨h, hb⟩; refine fn_rule (args := [.agg #[.slice A n c, .slice B m c2, iv d.left, .bool d.stop]]) Tryz.func116 (by kernel_rfl) ?_; refine box (fun g w1 h1 => ?_); have G1 : Blk w1 g 44 [.slice A n c, .slice B m c2, iv d.left, .bool d.stop] := h1.blk; refine alloc (fun b2 w2 h2 => ?_); have R2 : Blk w2 b2 44 zeroDC := h2.blk; have e1 := h1.at_; have e2 := h2.at_; have x02 := h1.ext.trans h2.ext; have s1 := h1.ext.size; have s02 := x02.size; have G2 := G1.ext h2.ext; have lg := G1.lt; have lR := R2.lt; refine ldA [.slice A n c, .slice B m c2, iv d.left, .bool d.stop] (.blk G2) rfl ?_; refine call_of (c_r04Check (hd.ext x02)) ?_; rintro _ w3 ⟨rfl, x3⟩; have x03 := x02.trans x3; have R3 := R2.ext x3; have G3 := G2.ext x3; have s03 := x03.size; have s23 := x3.size; refine cN (fun h => ?_) (fun h => ?_)
  · have hno : ¬ okD d := fun q => h (dskE_0.2 q)
    have hres : syncP d = (zeroD, 40) := by unfold syncP runsB; rw [if_pos (decide_eq_false fun q => hno q.1)]
    refine bld zeroDC (by kernel_rfl) ?_; refine stA (vs := zeroDC) R3 rfl (Nat.le_of_ble_eq_true rfl) (by simp [Value.oneCell']) (fun we Be ke _ => ?_); refine ret ?_; refine resL (.agg (zeroDC).toArray) (holds_agg (.blk Be) rfl) ?_; exact ⟨zeroDC, by rw [hres]; rfl, by rw [hres]; exact zeroD_r, x03.then ke fun i hi _ e => by omega⟩
  have hok : okD d := dskE_0.1 h
  cases hst : d.stop with
  | true =>
    refine fldA ?_; refine ld (.bool true) (G3.cell (by rw [hst]; rfl)) ?_
    have hres : syncP d = (zeroD, 40) := by unfold syncP runsB; rw [if_pos (decide_eq_false fun q => by have := q.2; rw [hst] at this; cases this)]
    refine bld zeroDC (by kernel_rfl) ?_; refine stA (vs := zeroDC) R3 rfl (Nat.le_of_ble_eq_true rfl) (by simp [Value.oneCell']) (fun we Be ke _ => ?_); refine ret ?_; refine resL (.agg (zeroDC).toArray) (holds_agg (.blk Be) rfl) ?_; exact ⟨zeroDC, by rw [hres]; rfl, by rw [hres]; exact zeroD_r, x03.then ke fun i hi _ e => by omega⟩
  | false =>
  refine fldA ?_; refine ld (.bool false) (G3.cell (by rw [hst]; rfl)) ?_
  have hq' : ¬ runsB d = false := fun q => by
    have h2 : runsB d = true := by unfold runsB; exact decide_eq_true ⟨hok, hst⟩
    rw [h2] at q; cases q
  obtain ⟨k1, k2, k3, k4, k5, k6, k7'⟩ := hok
  have hat : ∀ x ∈ d.pend, 0 ≤ x.at_ ∧ x.at_ < n := fun x hx => by have := k6 x hx; rw [ln] at this; exact ⟨this.1, this.2.1⟩
  refine fldA ?_; refine ld (.slice B m c2) (G3.cell rfl) ?_; refine len ?_; refine fldA ?_; refine ld (iv d.left) (G3.cell rfl) ?_; refine cD (fun h0 => ?_) (fun h0 => ?_)
  · refine fldA ?_; refine ld (iv d.left) (G3.cell rfl) ?_; refine cD (fun hlt => ?_) (fun hge => ?_)
    · obtain ⟨l, hl⟩ : ∃ l : Nat, d.left = (l : Int) := ⟨d.left.toNat, by omega⟩
      have hlm : l < m := by omega
      refine fldA ?_; refine ld (iv (l : Int)) (G3.cell (by rw [hl]; rfl)) ?_; refine draw_has (fun s : Nat × Nat × Nat => [(6, ptr s.1)]) (fun s u => Ext w3 u ∧ w3.heap.size ≤ s.1 ∧ w3.heap.size ≤ s.2.1 ∧ s.1 ≠ s.2.1 ∧ Blk u s.1 44 [.slice (some (ad s.2.1 0)) n s.2.2, .slice none 0 0, iv d.left, .bool false] ∧ ∃ cs4 rest, Blk u s.2.1 102 (cs4 ++ rest) ∧ cs4.length = n ∧ FlatR (tSl tU8) (fun b => D b ∧ b < w.heap.size) u d.secs cs4 ∧ (cs4 ++ rest).length = s.2.2) ?_ ?_
      · have xc : Ext w3 w3 := .refl _ _; obtain ⟨cs8, src8, f8⟩ := (hs0.ext x03).srcs; have l8 := src8.1; refine drawP (.take 1 (.take 2 (.take 4 (.take 5 (.alt 0 (.alt 3 (.take 6 (.eff 7 (.eff 8 .done))) (.eff 7 (.eff 3 (.take 6 (.eff 8 .done))))) (.eff 7 (.eff 0 (.eff 3 (.take 6 (.eff 8 .done)))))))))) [] (fun y => Ext w3 y) mx (by kernel_rfl) (.refl _ _) ?_; refine fldA ?_; refine ldX (.slice A n c) (G3.cell rfl) (.refl _ _) ?_; refine fldA ?_; refine ldX (iv d.left) (G3.cell rfl) (.refl _ _) ?_; refine ⟨?ya3, ?ya4⟩
        case' ya3 =>
          refine lit [] (fun q wq hq => ?_); have oq : OwnF w3 wq (some (ad q 0)) 0 0 102 1 [] := (OwnF.lit (cs := []) (.refl _ _) hq rfl).base xc; have mq := hq.at_; have lq := hq.blk.lt; have xc := xc.trans hq.ext
          try (have B6 := Blk.ext B6 hq.ext)
          refine strS xc ?_; refine ⟨?ya1, ?ya2⟩
        case' ya1 =>
          refine appF oq (src8.ext xc) (by omega) (fun A5 c5 wr o5 k5 hA5 => ?_) (h1 := flatS_one f8); rw [List.nil_append, Nat.zero_add] at o5; rw [Nat.zero_add]; have xc := o5.ext
          try (have B6 := Blk.kept B6 k5 (show some (ad q 0) ≠ some (ad b6 0) from fun e => by injection e with e; injection e with e; omega))
          rcases o5.form with ⟨-, h, -⟩ | ⟨gA, rfl, hgA, -, -⟩
          · omega
          obtain ⟨rest4, B4, hcap, -⟩ := o5.own.blk; have l4 := B4.lt; have n4 := o5.new gA rfl; have l8 := o5.own.len
          try (have ne6 : b6 ≠ gA := by rcases hA5 with e | e | e <;> first | (injection e with e; injection e with e; omega) | cases e)
          refine strS xc ?_; refine bld [.slice (some (ad gA 0)) n c5, .slice none 0 0, iv d.left, .bool false] (by kernel_rfl) ?_; refine alloc (fun b6 wa h6 => ?_); have m6 := h6.at_
          have mm : w3.heap.size ≤ b6 := by have := xc.size; omega
          have l6 := h6.blk.lt; have B6 : Blk wa b6 44 zeroDC := h6.blk
          try (have oq := OwnF.then oq h6.ext)
          try (have B4 := Blk.ext B4 h6.ext)
          have xc := xc.trans h6.ext; refine strS xc ?_
        case' ya2 =>
          refine alloc (fun b6 wa h6 => ?_); have m6 := h6.at_
          have mm : w3.heap.size ≤ b6 := by have := xc.size; omega
          have l6 := h6.blk.lt; have B6 : Blk wa b6 44 zeroDC := h6.blk
          try (have oq := OwnF.then oq h6.ext)
          try (have B4 := Blk.ext B4 h6.ext)
          have xc := xc.trans h6.ext; refine strS xc ?_; refine appF oq (src8.ext xc) (by omega) (fun A5 c5 wr o5 k5 hA5 => ?_) (h1 := flatS_one f8); rw [List.nil_append, Nat.zero_add] at o5; rw [Nat.zero_add]; have xc := o5.ext
          try (have B6 := Blk.kept B6 k5 (show some (ad q 0) ≠ some (ad b6 0) from fun e => by injection e with e; injection e with e; omega))
          rcases o5.form with ⟨-, h, -⟩ | ⟨gA, rfl, hgA, -, -⟩
          · omega
          obtain ⟨rest4, B4, hcap, -⟩ := o5.own.blk; have l4 := B4.lt; have n4 := o5.new gA rfl; have l8 := o5.own.len
          try (have ne6 : b6 ≠ gA := by rcases hA5 with e | e | e <;> first | (injection e with e; injection e with e; omega) | cases e)
          refine strS xc ?_; refine bld [.slice (some (ad gA 0)) n c5, .slice none 0 0, iv d.left, .bool false] (by kernel_rfl) ?_
        case' ya4 =>
          refine alloc (fun b6 wa h6 => ?_); have m6 := h6.at_
          have mm : w3.heap.size ≤ b6 := by have := xc.size; omega
          have l6 := h6.blk.lt; have B6 : Blk wa b6 44 zeroDC := h6.blk
          try (have oq := OwnF.then oq h6.ext)
          try (have B4 := Blk.ext B4 h6.ext)
          have xc := xc.trans h6.ext; refine strS xc ?_; refine lit [] (fun q wq hq => ?_); have oq : OwnF w3 wq (some (ad q 0)) 0 0 102 1 [] := (OwnF.lit (cs := []) (.refl _ _) hq rfl).base xc; have mq := hq.at_; have lq := hq.blk.lt; have xc := xc.trans hq.ext
          try (have B6 := Blk.ext B6 hq.ext)
          refine strS xc ?_; refine appF oq (src8.ext xc) (by omega) (fun A5 c5 wr o5 k5 hA5 => ?_) (h1 := flatS_one f8); rw [List.nil_append, Nat.zero_add] at o5; rw [Nat.zero_add]; have xc := o5.ext
          try (have B6 := Blk.kept B6 k5 (show some (ad q 0) ≠ some (ad b6 0) from fun e => by injection e with e; injection e with e; omega))
          rcases o5.form with ⟨-, h, -⟩ | ⟨gA, rfl, hgA, -, -⟩
          · omega
          obtain ⟨rest4, B4, hcap, -⟩ := o5.own.blk; have l4 := B4.lt; have n4 := o5.new gA rfl; have l8 := o5.own.len
          try (have ne6 : b6 ≠ gA := by rcases hA5 with e | e | e <;> first | (injection e with e; injection e with e; omega) | cases e)
          refine strS xc ?_; refine bld [.slice (some (ad gA 0)) n c5, .slice none 0 0, iv d.left, .bool false] (by kernel_rfl) ?_
        all_goals
          refine stA (vs := [.slice (some (ad gA 0)) n c5, .slice none 0 0, iv d.left, .bool false]) B6 rfl (Nat.le_of_ble_eq_true rfl) (by simp [Value.oneCell']) (fun wz C6 k6 _ => ?_); have C6 : Blk wz b6 44 [.slice (some (ad gA 0)) n c5, .slice none 0 0, iv d.left, .bool false] := C6; have s3 := xc.size
          have xz : Ext w3 wz := xc.then k6 fun i hi _ e => by omega
          refine strS xz ?_; exact ⟨(b6, gA, c5), ⟨rfl, trivial⟩, xz, (show w3.heap.size ≤ b6 by omega), n4, (show b6 ≠ gA by omega), C6, cs8, rest4, B4.kept k6 (show gA ≠ b6 by omega), (show cs8.length = n by omega), f8.keep fun j hj h => xz.blk j hj trivial, by rw [hcap, Nat.mul_one]⟩
      rintro G6 ⟨b6, gA, cA⟩ w4 ⟨x4, hb6, hgA, hne, R6, cs4, rest4, B4, hcs4, f4, hc4⟩; have hb6 : w3.heap.size ≤ b6 := hb6; have hgA : w3.heap.size ≤ gA := hgA; have hne : b6 ≠ gA := hne; have hc4 : (cs4 ++ rest4).length = cA := hc4; have R6 : Blk w4 b6 44 [.slice (some (ad gA 0)) n cA, .slice none 0 0, iv d.left, .bool false] := R6; have B4 : Blk w4 gA 102 (cs4 ++ rest4) := B4; have x04 := x03.trans x4; have lG3 := G3.lt; have lR3 := R3.lt; refine loop_rule (fun k : Nat => [(7, iv (k : Int))]) (fun k u => k ≤ l ∧ Kept (fun b => b ≠ gA) w4 u ∧ ∃ cs, Blk u gA 102 (cs ++ rest4) ∧ cs.length = n ∧ FlatR (tSl tU8) (fun b => D b ∧ b < w.heap.size) u (perfP d.secs (d.pend.take k)) cs) (fun k _ => l - k) 0 ⟨rfl, trivial⟩ ⟨by omega, .refl _ _, cs4, B4, hcs4, f4⟩ rfl ?_; rintro G k u ⟨hk, ku, cs, Bu, hcl, fu⟩; have R6u := R6.kept ku hne; have Gu := (G3.ext x4).kept ku (show g ≠ gA by omega)
      have xu : Ext w u := x04.then ku fun i hi _ e => by omega
      refine cD (fun hlt => ?_) (fun hge => ?_)
      · obtain ⟨bx, o, csx, x, hB, hx, -, -, hcx, hrep⟩ := (hp0.ext xu).at_ (k := k) (by omega); subst hB; obtain ⟨A2, n2, d2, rfl, hs2, hd2, hI⟩ := wr_ex hrep; obtain ⟨hx0, hx1⟩ := hat x (List.mem_of_getElem? hx); refine drawP (.take 0 (.take 1 (.take 2 (.take 3 (.take 4 (.take 5 (.take 6 (.take 7 (.take 8 (.take 9 (.take 10 (.take 11 (.take 12 (.take 13 (.take 14 (.bar (.eff 15 .done))))))))))))))))) [15] (fun y => y = u) mx (by kernel_rfl) rfl ?_; refine fldA ?_; refine ld (.slice (some (ad gA 0)) n cA) (R6u.cell rfl) ?_; refine fldA ?_; refine ld (.slice (some (ad bx o)) m c2) (Gu.cell rfl) ?_; refine idx k rfl (by omega) ?_; refine fldA ?_; refine ld (iv x.at_) (hcx 0 _ rfl) ?_; refine fldA ?_; refine ld (.slice (some (ad bx o)) m c2) (Gu.cell rfl) ?_; refine idx k rfl (by omega) ?_; refine fldA ?_; refine ld (.slice A2 n2 d2) (hcx 1 _ rfl) ?_; refine idx x.at_.toNat (by omega) (by omega) ?_; refine barS (fun _ => True) trivial ?_
        have hi : 0 + x.at_.toNat * 1 < (cs ++ rest4).length := by rw [List.length_append]; omega
        refine st Bu hi rfl (fun w5 B5 k5 _ => ?_); rw [Nat.zero_add, Nat.mul_one, List.set_append_left _ _ (by omega)] at B5; refine strS trivial ?_; refine arI (n := (k : Int) + 1) (by omega) ?_; refine next (k + 1) ⟨by rw [Int.natCast_add]; rfl, trivial⟩ ⟨by omega, ku.trans k5, _, B5, by simp [hcl], ?_⟩ (by omega); rw [List.take_add_one, hx]; show FlatR _ _ _ (perfP d.secs (d.pend.take k ++ [x])) _; rw [perfP_snoc]; exact flatS_set (hs2.kept k5 fun b _ h => by omega) hd2 _ (fu.keep fun b hb h => k5.blk b hb (by omega))
      have hk' : k = l := by omega
      subst hk'; obtain ⟨bx, o, csx, x, hB, hx, -, -, hcx, hrep⟩ := (hp0.ext xu).at_ (k := k) (by omega); subst hB; obtain ⟨A2, n2, d2, rfl, hs2, hd2, hI⟩ := wr_ex hrep; obtain ⟨hx0, hx1⟩ := hat x (List.mem_of_getElem? hx); refine fldA ?_; refine ld (.slice (some (ad bx o)) m c2) (Gu.cell rfl) ?_; refine idx k rfl (by omega) ?_; refine ldA [iv x.at_, .slice A2 n2 d2] hcx rfl ?_; refine alloc (fun b8 v6 h6 => ?_); refine stA (vs := [iv x.at_, .slice A2 n2 d2]) h6.blk rfl (Nat.le_of_ble_eq_true rfl) (by simp [Value.oneCell']) (fun v7 B7 k7 _ => ?_); have B7 : Blk v7 b8 104 [iv x.at_, .slice A2 n2 d2] := B7; have e6 := h6.at_
      have x7 : Ext u v7 := h6.ext.then k7 fun j hj _ e => by omega
      have R7 := R6u.ext x7; have Bs7 := Bu.ext x7; have f7 := fu.keep fun j hj _ => x7.blk j hj trivial; have hs7 := hs2.ext x7; obtain ⟨i, hi⟩ : ∃ i : Nat, x.at_ = (i : Int) := ⟨x.at_.toNat, by omega⟩
      have hin : i < n := by omega
      have hpl : (perfP d.secs (d.pend.take k)).length = n := by rw [perfP_len, ln]
      obtain ⟨y, hy⟩ : ∃ y, (perfP d.secs (d.pend.take k))[i]? = some y := ⟨_, List.getElem?_eq_getElem (by omega)⟩; have hy128 : y.length = 128 := perfP_128 k7' (fun z hz => (k6 z (List.mem_of_mem_take hz)).2.2) y (List.mem_of_getElem? hy); have hx128 : x.data.length = 128 := (k6 x (List.mem_of_getElem? hx)).2.2; obtain ⟨A8, n8, c8, hcell, hs8, hc8⟩ := flatS_at f7 hy
      have hn8 : n8 = 128 := by have := hs8.len; omega
      have hn2 : n2 = 128 := by have := hs7.len; omega
      subst hn8; subst hn2
      have hcell' : (cs ++ rest4)[i]? = some (.slice A8 128 c8) := by rw [List.getElem?_append_left (by omega)]; exact hcell
      refine drawP (.take 0 (.take 1 (.take 2 (.take 3 (.take 5 (.take 6 (.take 7 (.take 9 (.take 10 (.take 11 (.take 12 (.take 13 (.take 14 (.take 15 (.eff 4 (.eff 8 (.eff 16 (.take 17 (.bar (.eff 18 .done)))))))))))))))))))) [18] (fun y => Ext v7 y) mx (by kernel_rfl) (.refl _ _) ?_; refine fldA ?_; refine ldX (.slice (some (ad gA 0)) n cA) (R7.cell rfl) (.refl _ _) ?_; refine fldA ?_; refine ldX (iv x.at_) (B7.cell rfl) (.refl _ _) ?_; refine fldA ?_; refine ldX (.slice A2 128 d2) (B7.cell rfl) (.refl _ _) ?_; refine slcR 0 64 hs7 hd2 rfl rfl (by omega) (by omega) rfl (fun A3 hA3 => ?_); refine fldA ?_; refine ldX (.slice (some (ad gA 0)) n cA) (R7.cell rfl) (.refl _ _) ?_; refine fldA ?_; refine ldX (iv x.at_) (B7.cell rfl) (.refl _ _) ?_; refine idx i hi hin ?_; refine ldX (.slice A8 128 c8) (by rw [Nat.zero_add, Nat.mul_one]; exact Bs7.cell hcell') (.refl _ _) ?_; refine slcR 64 128 hs8 hc8 rfl rfl (by omega) (by omega) rfl (fun A9 hA9 => ?_); refine lit [] (fun q v8 hq => ?_); have oq : OwnF v7 v8 (some (ad q 0)) 0 0 5 1 [] := OwnF.lit (cs := []) (.refl _ _) hq rfl; refine strS hq.ext ?_; refine appF oq (hA3 _ _ (hs7.ext oq.ext)).u8src (by omega) (fun Ae ce v9 o9 _ _ => ?_) (h1 := u8s_one _); refine strS o9.ext ?_; refine appF o9 (hA9 _ _ (hs8.ext o9.ext)).u8src (by omega) (fun Af cf v10 o10 _ _ => ?_) (h1 := u8s_one _); refine strS o10.ext ?_; refine idx i hi hin ?_; refine barS (fun _ => True) trivial ?_; have x10 := o10.ext; have Bs10 := Bs7.ext x10; have R10 := R7.ext x10; refine st Bs10 (by rw [List.length_append]; omega) rfl (fun va Ba ka _ => ?_); rw [Nat.zero_add, Nat.mul_one, List.set_append_left _ _ (by omega)] at Ba; have Ba : Blk va gA 102 (cs.set i (.slice Af 128 cf) ++ rest4) := Ba; refine strS trivial ?_; have Ra := R10.kept ka hne; refine fldA ?_; refine st Ra (Nat.le_of_ble_eq_true rfl) rfl (fun vb Rb kb _ => ?_); refine fldA ?_; refine st Rb (Nat.le_of_ble_eq_true rfl) rfl (fun vc Rc kc _ => ?_); have Rc : Blk vc b6 44 [.slice (some (ad gA 0)) n cA, .slice none 0 0, iv 0, .bool true] := Rc; have kbc : Kept (fun j => j ≠ b6) va vc := kb.trans kc; have Bc := Ba.kept kbc (show gA ≠ b6 from fun e => hne e.symm); have kac : Kept (fun j => j ≠ gA ∧ j ≠ b6) v10 vc := (ka.weak fun j _ h => h.1).trans (kbc.weak fun j _ h => h.2); have s37 := ((x4.then ku fun j hj _ e => by omega).trans x7).size
      have o10' : u8s ((x.data.take 64).drop 0) ++ u8s ((y.take 128).drop 64) = u8s (x.data.take 64 ++ y.drop 64) := by
        rw [List.drop_zero, List.take_of_length_le (by omega : y.length ≤ 128), u8s_app]
      have hb9 : ∀ z ∈ x.data.take 64 ++ y.drop 64, z < 256 := fun z hz => by
        rcases List.mem_append.1 hz with hz | hz
        · exact hs7.u8b z (List.mem_of_mem_take hz)
        · exact hs8.u8b z (List.mem_of_mem_drop hz)
      rw [List.nil_append, o10'] at o10
      have sy : SlR tU8 (fun j => v7.heap.size ≤ j) v10 Af 128 (x.data.take 64 ++ y.drop 64) := by
        have := o10.u8 (D := fun j => v7.heap.size ≤ j) hb9 (by omega) fun _ h => h; exact this
      have lR7 := R7.lt; have lB7 := Bs7.lt; have sy := sy.kept kac fun j _ h => ⟨by omega, by omega⟩; have xuv : Ext u v10 := x7.trans x10
      have fz : FlatR (tSl tU8) (fun j => (D j ∧ j < w.heap.size) ∨ w3.heap.size ≤ j) vc ((perfP d.secs (d.pend.take k)).set i (x.data.take 64 ++ y.drop 64)) (cs.set i (.slice Af 128 cf)) :=
        flatS_set (sy.more (by decide) fun j _ h => .inr (by omega)) o10.le i ((f7.keep fun j hj h => (kac.blk j (by have := x10.size; omega) ⟨by omega, by omega⟩).trans (x10.blk j hj trivial)).more fun j _ h => .inl h)
      have hres : syncP d = (⟨(perfP d.secs (d.pend.take k)).set i (x.data.take 64 ++ y.drop 64), [], 0, true⟩, 40) := by
        unfold syncP tornP; rw [if_neg hq', if_pos (by omega), hl, Int.toNat_natCast, hx]; simp only [hi, Int.toNat_natCast]; rw [List.getD_eq_getElem?_getD, hy]
        rfl
      have x3c : Ext w3 vc := (((x4.then ku fun j hj _ e => by omega).trans x7).trans x10).then kac fun j hj _ => ⟨by omega, by omega⟩; have x3v : Ext w3 vc := x3c; have xwv := x03.trans x3v; refine ldA [.slice (some (ad gA 0)) n cA, .slice none 0 0, iv (0), .bool true] (.blk Rc) rfl ?_; refine stA (vs := [.slice (some (ad gA 0)) n cA, .slice none 0 0, iv (0), .bool true]) (R3.ext x3v) rfl (Nat.le_of_ble_eq_true rfl) (by simp [Value.oneCell']) (fun we Be ke _ => ?_); refine ret ?_; refine resL (.agg #[.slice (some (ad gA 0)) n cA, .slice none 0 0, iv (0), .bool true]) (holds_agg (.blk Be) rfl) ?_
      have xe : Ext w we := xwv.then ke fun j hj _ e => by omega
      have fe := FlatR.more (D' := fun j => D j ∨ w.heap.size ≤ j) (fun j _ h => h.elim (fun h => .inl h.1) fun h => .inr (by omega)) (FlatR.keep (w' := we) (fun j hj h => ke.blk j hj (show j ≠ b2 by rcases h with h | h <;> omega)) fz); have Bz := Blk.kept Bc ke (show gA ≠ b2 by omega); refine ⟨[.slice (some (ad gA 0)) n cA, .slice none 0 0, iv (0), .bool true], by rw [hres]; rfl, ?_, xe⟩; rw [hres]; exact ⟨⟨some (ad gA 0), n, cA, none, 0, 0, rfl, SlR.of_cells (by rw [List.length_set, hpl]) (by omega) (.inr (by omega)) (fun j v hv => by rw [Nat.zero_add]; exact Bz.cell (by rw [List.getElem?_append_left (List.getElem?_eq_some_iff.1 hv).1]; exact hv)) fe, (by rw [List.length_append] at hc4; omega), .nil, Nat.le_refl _, (show I64 (0) by unfold I64 at *; omega)⟩⟩
    · have hres : syncP d = (⟨perfP d.secs d.pend, [], d.left - d.pend.length, false⟩, 0) := by
        unfold syncP; rw [if_neg hq', if_neg (by omega), if_pos (by omega)]
      rw [lm] at hres; refine draw_has (fun s : Nat × Nat × Nat => [(6, ptr s.1)]) (fun s u => Ext w3 u ∧ w3.heap.size ≤ s.1 ∧ w3.heap.size ≤ s.2.1 ∧ s.1 ≠ s.2.1 ∧ Blk u s.1 44 [.slice (some (ad s.2.1 0)) n s.2.2, .slice none 0 0, iv d.left, .bool false] ∧ ∃ cs4 rest, Blk u s.2.1 102 (cs4 ++ rest) ∧ cs4.length = n ∧ FlatR (tSl tU8) (fun b => D b ∧ b < w.heap.size) u d.secs cs4 ∧ (cs4 ++ rest).length = s.2.2) ?_ ?_
      · have xc : Ext w3 w3 := .refl _ _; obtain ⟨cs8, src8, f8⟩ := (hs0.ext x03).srcs; have l8 := src8.1; refine drawP (.take 1 (.take 2 (.take 4 (.take 5 (.alt 0 (.alt 3 (.take 6 (.eff 7 (.eff 8 .done))) (.eff 7 (.eff 3 (.take 6 (.eff 8 .done))))) (.eff 7 (.eff 0 (.eff 3 (.take 6 (.eff 8 .done)))))))))) [] (fun y => Ext w3 y) mx (by kernel_rfl) (.refl _ _) ?_; refine fldA ?_; refine ldX (.slice A n c) (G3.cell rfl) (.refl _ _) ?_; refine fldA ?_; refine ldX (iv d.left) (G3.cell rfl) (.refl _ _) ?_; refine ⟨?yb3, ?yb4⟩
        case' yb3 =>
          refine lit [] (fun q wq hq => ?_); have oq : OwnF w3 wq (some (ad q 0)) 0 0 102 1 [] := (OwnF.lit (cs := []) (.refl _ _) hq rfl).base xc; have mq := hq.at_; have lq := hq.blk.lt; have xc := xc.trans hq.ext
          try (have B6 := Blk.ext B6 hq.ext)
          refine strS xc ?_; refine ⟨?yb1, ?yb2⟩
        case' yb1 =>
          refine appF oq (src8.ext xc) (by omega) (fun A5 c5 wr o5 k5 hA5 => ?_) (h1 := flatS_one f8); rw [List.nil_append, Nat.zero_add] at o5; rw [Nat.zero_add]; have xc := o5.ext
          try (have B6 := Blk.kept B6 k5 (show some (ad q 0) ≠ some (ad b6 0) from fun e => by injection e with e; injection e with e; omega))
          rcases o5.form with ⟨-, h, -⟩ | ⟨gA, rfl, hgA, -, -⟩
          · omega
          obtain ⟨rest4, B4, hcap, -⟩ := o5.own.blk; have l4 := B4.lt; have n4 := o5.new gA rfl; have l8 := o5.own.len
          try (have ne6 : b6 ≠ gA := by rcases hA5 with e | e | e <;> first | (injection e with e; injection e with e; omega) | cases e)
          refine strS xc ?_; refine bld [.slice (some (ad gA 0)) n c5, .slice none 0 0, iv d.left, .bool false] (by kernel_rfl) ?_; refine alloc (fun b6 wa h6 => ?_); have m6 := h6.at_
          have mm : w3.heap.size ≤ b6 := by have := xc.size; omega
          have l6 := h6.blk.lt; have B6 : Blk wa b6 44 zeroDC := h6.blk
          try (have oq := OwnF.then oq h6.ext)
          try (have B4 := Blk.ext B4 h6.ext)
          have xc := xc.trans h6.ext; refine strS xc ?_
        case' yb2 =>
          refine alloc (fun b6 wa h6 => ?_); have m6 := h6.at_
          have mm : w3.heap.size ≤ b6 := by have := xc.size; omega
          have l6 := h6.blk.lt; have B6 : Blk wa b6 44 zeroDC := h6.blk
          try (have oq := OwnF.then oq h6.ext)
          try (have B4 := Blk.ext B4 h6.ext)
          have xc := xc.trans h6.ext; refine strS xc ?_; refine appF oq (src8.ext xc) (by omega) (fun A5 c5 wr o5 k5 hA5 => ?_) (h1 := flatS_one f8); rw [List.nil_append, Nat.zero_add] at o5; rw [Nat.zero_add]; have xc := o5.ext
          try (have B6 := Blk.kept B6 k5 (show some (ad q 0) ≠ some (ad b6 0) from fun e => by injection e with e; injection e with e; omega))
          rcases o5.form with ⟨-, h, -⟩ | ⟨gA, rfl, hgA, -, -⟩
          · omega
          obtain ⟨rest4, B4, hcap, -⟩ := o5.own.blk; have l4 := B4.lt; have n4 := o5.new gA rfl; have l8 := o5.own.len
          try (have ne6 : b6 ≠ gA := by rcases hA5 with e | e | e <;> first | (injection e with e; injection e with e; omega) | cases e)
          refine strS xc ?_; refine bld [.slice (some (ad gA 0)) n c5, .slice none 0 0, iv d.left, .bool false] (by kernel_rfl) ?_
        case' yb4 =>
          refine alloc (fun b6 wa h6 => ?_); have m6 := h6.at_
          have mm : w3.heap.size ≤ b6 := by have := xc.size; omega
          have l6 := h6.blk.lt; have B6 : Blk wa b6 44 zeroDC := h6.blk
          try (have oq := OwnF.then oq h6.ext)
          try (have B4 := Blk.ext B4 h6.ext)
          have xc := xc.trans h6.ext; refine strS xc ?_; refine lit [] (fun q wq hq => ?_); have oq : OwnF w3 wq (some (ad q 0)) 0 0 102 1 [] := (OwnF.lit (cs := []) (.refl _ _) hq rfl).base xc; have mq := hq.at_; have lq := hq.blk.lt; have xc := xc.trans hq.ext
          try (have B6 := Blk.ext B6 hq.ext)
          refine strS xc ?_; refine appF oq (src8.ext xc) (by omega) (fun A5 c5 wr o5 k5 hA5 => ?_) (h1 := flatS_one f8); rw [List.nil_append, Nat.zero_add] at o5; rw [Nat.zero_add]; have xc := o5.ext
          try (have B6 := Blk.kept B6 k5 (show some (ad q 0) ≠ some (ad b6 0) from fun e => by injection e with e; injection e with e; omega))
          rcases o5.form with ⟨-, h, -⟩ | ⟨gA, rfl, hgA, -, -⟩
          · omega
          obtain ⟨rest4, B4, hcap, -⟩ := o5.own.blk; have l4 := B4.lt; have n4 := o5.new gA rfl; have l8 := o5.own.len
          try (have ne6 : b6 ≠ gA := by rcases hA5 with e | e | e <;> first | (injection e with e; injection e with e; omega) | cases e)
          refine strS xc ?_; refine bld [.slice (some (ad gA 0)) n c5, .slice none 0 0, iv d.left, .bool false] (by kernel_rfl) ?_
        all_goals
          refine stA (vs := [.slice (some (ad gA 0)) n c5, .slice none 0 0, iv d.left, .bool false]) B6 rfl (Nat.le_of_ble_eq_true rfl) (by simp [Value.oneCell']) (fun wz C6 k6 _ => ?_); have C6 : Blk wz b6 44 [.slice (some (ad gA 0)) n c5, .slice none 0 0, iv d.left, .bool false] := C6; have s3 := xc.size
          have xz : Ext w3 wz := xc.then k6 fun i hi _ e => by omega
          refine strS xz ?_; exact ⟨(b6, gA, c5), ⟨rfl, trivial⟩, xz, (show w3.heap.size ≤ b6 by omega), n4, (show b6 ≠ gA by omega), C6, cs8, rest4, B4.kept k6 (show gA ≠ b6 by omega), (show cs8.length = n by omega), f8.keep fun j hj h => xz.blk j hj trivial, by rw [hcap, Nat.mul_one]⟩
      rintro G6 ⟨b6, gA, cA⟩ w4 ⟨x4, hb6, hgA, hne, R6, cs4, rest4, B4, hcs4, f4, hc4⟩; have hb6 : w3.heap.size ≤ b6 := hb6; have hgA : w3.heap.size ≤ gA := hgA; have hne : b6 ≠ gA := hne; have hc4 : (cs4 ++ rest4).length = cA := hc4; have R6 : Blk w4 b6 44 [.slice (some (ad gA 0)) n cA, .slice none 0 0, iv d.left, .bool false] := R6; have B4 : Blk w4 gA 102 (cs4 ++ rest4) := B4; have x04 := x03.trans x4; have lG3 := G3.lt; have lR3 := R3.lt; refine loop_rule (fun k : Nat => [(7, iv (k : Int))]) (fun k u => k ≤ m ∧ Kept (fun b => b ≠ gA) w4 u ∧ ∃ cs, Blk u gA 102 (cs ++ rest4) ∧ cs.length = n ∧ FlatR (tSl tU8) (fun b => D b ∧ b < w.heap.size) u (perfP d.secs (d.pend.take k)) cs) (fun k _ => m - k) 0 ⟨rfl, trivial⟩ ⟨by omega, .refl _ _, cs4, B4, hcs4, f4⟩ rfl ?_; rintro G k u ⟨hk, ku, cs, Bu, hcl, fu⟩; have R6u := R6.kept ku hne; have Gu := (G3.ext x4).kept ku (show g ≠ gA by omega)
      have xu : Ext w u := x04.then ku fun i hi _ e => by omega
      refine cD (fun hlt => ?_) (fun hge => ?_)
      · obtain ⟨bx, o, csx, x, hB, hx, -, -, hcx, hrep⟩ := (hp0.ext xu).at_ (k := k) (by omega); subst hB; obtain ⟨A2, n2, d2, rfl, hs2, hd2, hI⟩ := wr_ex hrep; obtain ⟨hx0, hx1⟩ := hat x (List.mem_of_getElem? hx); refine drawP (.take 0 (.take 1 (.take 2 (.take 3 (.take 4 (.take 5 (.take 6 (.take 7 (.take 8 (.take 9 (.take 10 (.take 11 (.take 12 (.take 13 (.take 14 (.bar (.eff 15 .done))))))))))))))))) [15] (fun y => y = u) mx (by kernel_rfl) rfl ?_; refine fldA ?_; refine ld (.slice (some (ad gA 0)) n cA) (R6u.cell rfl) ?_; refine fldA ?_; refine ld (.slice (some (ad bx o)) m c2) (Gu.cell rfl) ?_; refine idx k rfl (by omega) ?_; refine fldA ?_; refine ld (iv x.at_) (hcx 0 _ rfl) ?_; refine fldA ?_; refine ld (.slice (some (ad bx o)) m c2) (Gu.cell rfl) ?_; refine idx k rfl (by omega) ?_; refine fldA ?_; refine ld (.slice A2 n2 d2) (hcx 1 _ rfl) ?_; refine idx x.at_.toNat (by omega) (by omega) ?_; refine barS (fun _ => True) trivial ?_
        have hi : 0 + x.at_.toNat * 1 < (cs ++ rest4).length := by rw [List.length_append]; omega
        refine st Bu hi rfl (fun w5 B5 k5 _ => ?_); rw [Nat.zero_add, Nat.mul_one, List.set_append_left _ _ (by omega)] at B5; refine strS trivial ?_; refine arI (n := (k : Int) + 1) (by omega) ?_; refine next (k + 1) ⟨by rw [Int.natCast_add]; rfl, trivial⟩ ⟨by omega, ku.trans k5, _, B5, by simp [hcl], ?_⟩ (by omega); rw [List.take_add_one, hx]; show FlatR _ _ _ (perfP d.secs (d.pend.take k ++ [x])) _; rw [perfP_snoc]; exact flatS_set (hs2.kept k5 fun b _ h => by omega) hd2 _ (fu.keep fun b hb h => k5.blk b hb (by omega))
      have hk' : k = m := by omega
      subst hk'
      have x3u : Ext w3 u := x4.then ku fun j hj _ e => by omega
      refine fldA ?_; refine ld (iv d.left) (R6u.cell rfl) ?_; refine cD (fun _ => ?_) (fun h => absurd h0 h); refine fldA ?_; refine ld (iv d.left) (R6u.cell rfl) ?_; refine arI (n := d.left - (k : Int)) (by omega) ?_; refine fldA ?_; refine st R6u (Nat.le_of_ble_eq_true rfl) rfl (fun vc Rc kc _ => ?_); have Rc : Blk vc b6 44 [.slice (some (ad gA 0)) n cA, .slice none 0 0, iv (d.left - (k : Int)), .bool false] := Rc; have fz := (fu.keep fun j hj h => kc.blk j hj (show j ≠ b6 by have := h.2; omega)).more (D' := fun j => (D j ∧ j < w.heap.size) ∨ w3.heap.size ≤ j) fun j _ h => .inl h; rw [List.take_of_length_le (by omega)] at fz; have x3v : Ext w3 vc := (x3u.then kc fun j hj _ e => by omega); have xwv := x03.trans x3v; refine ldA [.slice (some (ad gA 0)) n cA, .slice none 0 0, iv (d.left - (k : Int)), .bool false] (.blk Rc) rfl ?_; refine stA (vs := [.slice (some (ad gA 0)) n cA, .slice none 0 0, iv (d.left - (k : Int)), .bool false]) (R3.ext x3v) rfl (Nat.le_of_ble_eq_true rfl) (by simp [Value.oneCell']) (fun we Be ke _ => ?_); refine ret ?_; refine resL (.agg #[.slice (some (ad gA 0)) n cA, .slice none 0 0, iv (d.left - (k : Int)), .bool false]) (holds_agg (.blk Be) rfl) ?_
      have xe : Ext w we := xwv.then ke fun j hj _ e => by omega
      have fe := FlatR.more (D' := fun j => D j ∨ w.heap.size ≤ j) (fun j _ h => h.elim (fun h => .inl h.1) fun h => .inr (by omega)) (FlatR.keep (w' := we) (fun j hj h => ke.blk j hj (show j ≠ b2 by rcases h with h | h <;> omega)) fz); have Bz := Blk.kept (Bu.kept kc (show gA ≠ b6 from fun e => hne e.symm)) ke (show gA ≠ b2 by omega); refine ⟨[.slice (some (ad gA 0)) n cA, .slice none 0 0, iv (d.left - (k : Int)), .bool false], by rw [hres]; rfl, ?_, xe⟩; rw [hres]; exact ⟨⟨some (ad gA 0), n, cA, none, 0, 0, rfl, SlR.of_cells (by rw [perfP_len, ln]) (by omega) (.inr (by omega)) (fun j v hv => by rw [Nat.zero_add]; exact Bz.cell (by rw [List.getElem?_append_left (List.getElem?_eq_some_iff.1 hv).1]; exact hv)) fe, (by rw [List.length_append] at hc4; omega), .nil, Nat.le_refl _, (show I64 (d.left - (k : Int)) by unfold I64 at *; omega)⟩⟩
  · have hres : syncP d = (⟨perfP d.secs d.pend, [], d.left, false⟩, 0) := by
      unfold syncP; rw [if_neg hq', if_neg (by omega), if_neg (by omega)]
    refine draw_has (fun s : Nat × Nat × Nat => [(6, ptr s.1)]) (fun s u => Ext w3 u ∧ w3.heap.size ≤ s.1 ∧ w3.heap.size ≤ s.2.1 ∧ s.1 ≠ s.2.1 ∧ Blk u s.1 44 [.slice (some (ad s.2.1 0)) n s.2.2, .slice none 0 0, iv d.left, .bool false] ∧ ∃ cs4 rest, Blk u s.2.1 102 (cs4 ++ rest) ∧ cs4.length = n ∧ FlatR (tSl tU8) (fun b => D b ∧ b < w.heap.size) u d.secs cs4 ∧ (cs4 ++ rest).length = s.2.2) ?_ ?_
    · have xc : Ext w3 w3 := .refl _ _; obtain ⟨cs8, src8, f8⟩ := (hs0.ext x03).srcs; have l8 := src8.1; refine drawP (.take 1 (.take 2 (.take 4 (.take 5 (.alt 0 (.alt 3 (.take 6 (.eff 7 (.eff 8 .done))) (.eff 7 (.eff 3 (.take 6 (.eff 8 .done))))) (.eff 7 (.eff 0 (.eff 3 (.take 6 (.eff 8 .done)))))))))) [] (fun y => Ext w3 y) mx (by kernel_rfl) (.refl _ _) ?_; refine fldA ?_; refine ldX (.slice A n c) (G3.cell rfl) (.refl _ _) ?_; refine fldA ?_; refine ldX (iv d.left) (G3.cell rfl) (.refl _ _) ?_; refine ⟨?yc3, ?yc4⟩
      case' yc3 =>
        refine lit [] (fun q wq hq => ?_); have oq : OwnF w3 wq (some (ad q 0)) 0 0 102 1 [] := (OwnF.lit (cs := []) (.refl _ _) hq rfl).base xc; have mq := hq.at_; have lq := hq.blk.lt; have xc := xc.trans hq.ext
        try (have B6 := Blk.ext B6 hq.ext)
        refine strS xc ?_; refine ⟨?yc1, ?yc2⟩
      case' yc1 =>
        refine appF oq (src8.ext xc) (by omega) (fun A5 c5 wr o5 k5 hA5 => ?_) (h1 := flatS_one f8); rw [List.nil_append, Nat.zero_add] at o5; rw [Nat.zero_add]; have xc := o5.ext
        try (have B6 := Blk.kept B6 k5 (show some (ad q 0) ≠ some (ad b6 0) from fun e => by injection e with e; injection e with e; omega))
        rcases o5.form with ⟨-, h, -⟩ | ⟨gA, rfl, hgA, -, -⟩
        · omega
        obtain ⟨rest4, B4, hcap, -⟩ := o5.own.blk; have l4 := B4.lt; have n4 := o5.new gA rfl; have l8 := o5.own.len
        try (have ne6 : b6 ≠ gA := by rcases hA5 with e | e | e <;> first | (injection e with e; injection e with e; omega) | cases e)
        refine strS xc ?_; refine bld [.slice (some (ad gA 0)) n c5, .slice none 0 0, iv d.left, .bool false] (by kernel_rfl) ?_; refine alloc (fun b6 wa h6 => ?_); have m6 := h6.at_
        have mm : w3.heap.size ≤ b6 := by have := xc.size; omega
        have l6 := h6.blk.lt; have B6 : Blk wa b6 44 zeroDC := h6.blk
        try (have oq := OwnF.then oq h6.ext)
        try (have B4 := Blk.ext B4 h6.ext)
        have xc := xc.trans h6.ext; refine strS xc ?_
      case' yc2 =>
        refine alloc (fun b6 wa h6 => ?_); have m6 := h6.at_
        have mm : w3.heap.size ≤ b6 := by have := xc.size; omega
        have l6 := h6.blk.lt; have B6 : Blk wa b6 44 zeroDC := h6.blk
        try (have oq := OwnF.then oq h6.ext)
        try (have B4 := Blk.ext B4 h6.ext)
        have xc := xc.trans h6.ext; refine strS xc ?_; refine appF oq (src8.ext xc) (by omega) (fun A5 c5 wr o5 k5 hA5 => ?_) (h1 := flatS_one f8); rw [List.nil_append, Nat.zero_add] at o5; rw [Nat.zero_add]; have xc := o5.ext
        try (have B6 := Blk.kept B6 k5 (show some (ad q 0) ≠ some (ad b6 0) from fun e => by injection e with e; injection e with e; omega))
        rcases o5.form with ⟨-, h, -⟩ | ⟨gA, rfl, hgA, -, -⟩
        · omega
        obtain ⟨rest4, B4, hcap, -⟩ := o5.own.blk; have l4 := B4.lt; have n4 := o5.new gA rfl; have l8 := o5.own.len
        try (have ne6 : b6 ≠ gA := by rcases hA5 with e | e | e <;> first | (injection e with e; injection e with e; omega) | cases e)
        refine strS xc ?_; refine bld [.slice (some (ad gA 0)) n c5, .slice none 0 0, iv d.left, .bool false] (by kernel_rfl) ?_
      case' yc4 =>
        refine alloc (fun b6 wa h6 => ?_); have m6 := h6.at_
        have mm : w3.heap.size ≤ b6 := by have := xc.size; omega
        have l6 := h6.blk.lt; have B6 : Blk wa b6 44 zeroDC := h6.blk
        try (have oq := OwnF.then oq h6.ext)
        try (have B4 := Blk.ext B4 h6.ext)
        have xc := xc.trans h6.ext; refine strS xc ?_; refine lit [] (fun q wq hq => ?_); have oq : OwnF w3 wq (some (ad q 0)) 0 0 102 1 [] := (OwnF.lit (cs := []) (.refl _ _) hq rfl).base xc; have mq := hq.at_; have lq := hq.blk.lt; have xc := xc.trans hq.ext
        try (have B6 := Blk.ext B6 hq.ext)
        refine strS xc ?_; refine appF oq (src8.ext xc) (by omega) (fun A5 c5 wr o5 k5 hA5 => ?_) (h1 := flatS_one f8); rw [List.nil_append, Nat.zero_add] at o5; rw [Nat.zero_add]; have xc := o5.ext
        try (have B6 := Blk.kept B6 k5 (show some (ad q 0) ≠ some (ad b6 0) from fun e => by injection e with e; injection e with e; omega))
        rcases o5.form with ⟨-, h, -⟩ | ⟨gA, rfl, hgA, -, -⟩
        · omega
        obtain ⟨rest4, B4, hcap, -⟩ := o5.own.blk; have l4 := B4.lt; have n4 := o5.new gA rfl; have l8 := o5.own.len
        try (have ne6 : b6 ≠ gA := by rcases hA5 with e | e | e <;> first | (injection e with e; injection e with e; omega) | cases e)
        refine strS xc ?_; refine bld [.slice (some (ad gA 0)) n c5, .slice none 0 0, iv d.left, .bool false] (by kernel_rfl) ?_
      all_goals
        refine stA (vs := [.slice (some (ad gA 0)) n c5, .slice none 0 0, iv d.left, .bool false]) B6 rfl (Nat.le_of_ble_eq_true rfl) (by simp [Value.oneCell']) (fun wz C6 k6 _ => ?_); have C6 : Blk wz b6 44 [.slice (some (ad gA 0)) n c5, .slice none 0 0, iv d.left, .bool false] := C6; have s3 := xc.size
        have xz : Ext w3 wz := xc.then k6 fun i hi _ e => by omega
        refine strS xz ?_; exact ⟨(b6, gA, c5), ⟨rfl, trivial⟩, xz, (show w3.heap.size ≤ b6 by omega), n4, (show b6 ≠ gA by omega), C6, cs8, rest4, B4.kept k6 (show gA ≠ b6 by omega), (show cs8.length = n by omega), f8.keep fun j hj h => xz.blk j hj trivial, by rw [hcap, Nat.mul_one]⟩
    rintro G6 ⟨b6, gA, cA⟩ w4 ⟨x4, hb6, hgA, hne, R6, cs4, rest4, B4, hcs4, f4, hc4⟩; have hb6 : w3.heap.size ≤ b6 := hb6; have hgA : w3.heap.size ≤ gA := hgA; have hne : b6 ≠ gA := hne; have hc4 : (cs4 ++ rest4).length = cA := hc4; have R6 : Blk w4 b6 44 [.slice (some (ad gA 0)) n cA, .slice none 0 0, iv d.left, .bool false] := R6; have B4 : Blk w4 gA 102 (cs4 ++ rest4) := B4; have x04 := x03.trans x4; have lG3 := G3.lt; have lR3 := R3.lt; refine loop_rule (fun k : Nat => [(7, iv (k : Int))]) (fun k u => k ≤ m ∧ Kept (fun b => b ≠ gA) w4 u ∧ ∃ cs, Blk u gA 102 (cs ++ rest4) ∧ cs.length = n ∧ FlatR (tSl tU8) (fun b => D b ∧ b < w.heap.size) u (perfP d.secs (d.pend.take k)) cs) (fun k _ => m - k) 0 ⟨rfl, trivial⟩ ⟨by omega, .refl _ _, cs4, B4, hcs4, f4⟩ rfl ?_; rintro G k u ⟨hk, ku, cs, Bu, hcl, fu⟩; have R6u := R6.kept ku hne; have Gu := (G3.ext x4).kept ku (show g ≠ gA by omega)
    have xu : Ext w u := x04.then ku fun i hi _ e => by omega
    refine cD (fun hlt => ?_) (fun hge => ?_)
    · obtain ⟨bx, o, csx, x, hB, hx, -, -, hcx, hrep⟩ := (hp0.ext xu).at_ (k := k) (by omega); subst hB; obtain ⟨A2, n2, d2, rfl, hs2, hd2, hI⟩ := wr_ex hrep; obtain ⟨hx0, hx1⟩ := hat x (List.mem_of_getElem? hx); refine drawP (.take 0 (.take 1 (.take 2 (.take 3 (.take 4 (.take 5 (.take 6 (.take 7 (.take 8 (.take 9 (.take 10 (.take 11 (.take 12 (.take 13 (.take 14 (.bar (.eff 15 .done))))))))))))))))) [15] (fun y => y = u) mx (by kernel_rfl) rfl ?_; refine fldA ?_; refine ld (.slice (some (ad gA 0)) n cA) (R6u.cell rfl) ?_; refine fldA ?_; refine ld (.slice (some (ad bx o)) m c2) (Gu.cell rfl) ?_; refine idx k rfl (by omega) ?_; refine fldA ?_; refine ld (iv x.at_) (hcx 0 _ rfl) ?_; refine fldA ?_; refine ld (.slice (some (ad bx o)) m c2) (Gu.cell rfl) ?_; refine idx k rfl (by omega) ?_; refine fldA ?_; refine ld (.slice A2 n2 d2) (hcx 1 _ rfl) ?_; refine idx x.at_.toNat (by omega) (by omega) ?_; refine barS (fun _ => True) trivial ?_
      have hi : 0 + x.at_.toNat * 1 < (cs ++ rest4).length := by rw [List.length_append]; omega
      refine st Bu hi rfl (fun w5 B5 k5 _ => ?_); rw [Nat.zero_add, Nat.mul_one, List.set_append_left _ _ (by omega)] at B5; refine strS trivial ?_; refine arI (n := (k : Int) + 1) (by omega) ?_; refine next (k + 1) ⟨by rw [Int.natCast_add]; rfl, trivial⟩ ⟨by omega, ku.trans k5, _, B5, by simp [hcl], ?_⟩ (by omega); rw [List.take_add_one, hx]; show FlatR _ _ _ (perfP d.secs (d.pend.take k ++ [x])) _; rw [perfP_snoc]; exact flatS_set (hs2.kept k5 fun b _ h => by omega) hd2 _ (fu.keep fun b hb h => k5.blk b hb (by omega))
    have hk' : k = m := by omega
    subst hk'
    have x3u : Ext w3 u := x4.then ku fun j hj _ e => by omega
    have fz := fu.more (D' := fun j => (D j ∧ j < w.heap.size) ∨ w3.heap.size ≤ j) fun j _ h => .inl h; rw [List.take_of_length_le (by omega)] at fz; refine fldA ?_; refine ld (iv d.left) (R6u.cell rfl) ?_; refine cD (fun h => absurd h h0) (fun _ => ?_); have x3v : Ext w3 u := x3u; have xwv := x03.trans x3v; refine ldA [.slice (some (ad gA 0)) n cA, .slice none 0 0, iv (d.left), .bool false] (.blk R6u) rfl ?_; refine stA (vs := [.slice (some (ad gA 0)) n cA, .slice none 0 0, iv (d.left), .bool false]) (R3.ext x3v) rfl (Nat.le_of_ble_eq_true rfl) (by simp [Value.oneCell']) (fun we Be ke _ => ?_); refine ret ?_; refine resL (.agg #[.slice (some (ad gA 0)) n cA, .slice none 0 0, iv (d.left), .bool false]) (holds_agg (.blk Be) rfl) ?_
    have xe : Ext w we := xwv.then ke fun j hj _ e => by omega
    have fe := FlatR.more (D' := fun j => D j ∨ w.heap.size ≤ j) (fun j _ h => h.elim (fun h => .inl h.1) fun h => .inr (by omega)) (FlatR.keep (w' := we) (fun j hj h => ke.blk j hj (show j ≠ b2 by rcases h with h | h <;> omega)) fz); have Bz := Blk.kept Bu ke (show gA ≠ b2 by omega); refine ⟨[.slice (some (ad gA 0)) n cA, .slice none 0 0, iv (d.left), .bool false], by rw [hres]; rfl, ?_, xe⟩; rw [hres]; exact ⟨⟨some (ad gA 0), n, cA, none, 0, 0, rfl, SlR.of_cells (by rw [perfP_len, ln]) (by omega) (.inr (by omega)) (fun j v hv => by rw [Nat.zero_add]; exact Bz.cell (by rw [List.getElem?_append_left (List.getElem?_eq_some_iff.1 hv).1]; exact hv)) fe, (by rw [List.length_append] at hc4; omega), .nil, Nat.le_refl _, (show I64 (d.left) by unfold I64 at *; omega)⟩⟩
end
section
variable {D : Nat → Prop} {w : World}
set_option maxRecDepth 8000 in
set_option maxHeartbeats 4000000 in
theorem c_r05Sync {d : Dsk} {csd csj : List Value} {R T : List (List Nat)} (hd : DskR D w csd d) (hj : JrnR (fun _ => True) w csj ⟨R ++ T, d.secs.length, R.length⟩) (hok : okD d) (hst : d.stop = false) (hpe : d.pend = [])
    (hR : R = recsD d.secs) (hsm : SmallJ (R ++ T)) (hus : usedN (R ++ T) ≤ d.secs.length) (hT : ∀ b ∈ T, b.length < 112) :
    CallZ Tryz.prog 66 #[.agg csj.toArray, .agg csd.toArray] w (fun v w' => ∃ (cj cs : List Value), v = .tuple #[.agg cj.toArray, .agg cs.toArray, iv (syncJ d R T).2] ∧ (cj.length = 3 ∧ ∀ v ∈ cj, v.oneCell' = true) ∧ DskR (fun b => D b ∨ w.heap.size ≤ b) w' cs (syncJ d R T).1 ∧ Ext w w') := by
  obtain ⟨A, n, c, B, m, c2, rfl, hs, hc, hp, hc2, hId⟩ := hd.ex; obtain ⟨AJ, nJ, cJ, rfl, hsJ, hcJ, -, -⟩ := hj.ex; have ln := hs.len; have lm := hp.len; have lJ := hsJ.len; have k1 := hok.1; have k2 := hok.2.1; have k7 := hok.2.2.2.2.2.2
  have hm0 : m = 0 := by rw [hpe] at lm; exact lm.symm
  have hs0 := hs.more (D' := fun b => D b ∧ b < w.heap.size) (by decide) fun b hb h => ⟨h, hb⟩; have hsJ0 := hsJ.more (D' := fun b => b < w.heap.size) (by decide) fun b hb _ => hb
  have hlJ : nJ = R.length + T.length := by have := lJ; rw [List.length_append] at this; omega
  have hjE : jE ⟨R ++ T, d.secs.length, R.length⟩ = 0 := by
    unfold jE; rw [if_neg]; simp only [List.length_append]; omega
  refine fn_rule (args := [.agg #[.slice AJ nJ cJ, iv (d.secs.length : Int), iv (R.length : Int)], .agg #[.slice A n c, .slice B m c2, iv d.left, .bool d.stop]]) Tryz.func66 (by kernel_rfl) ?_; refine box (fun g2 w1 h1 => ?_); have J1 : Blk w1 g2 108 [.slice AJ nJ cJ, iv (d.secs.length : Int), iv (R.length : Int)] := h1.blk; refine box (fun g3 w2 h2 => ?_); have G2 : Blk w2 g3 44 [.slice A n c, .slice B m c2, iv d.left, .bool d.stop] := h2.blk; refine alloc (fun b4 w3 h3 => ?_); have RJ3 : Blk w3 b4 108 zeroJC := h3.blk; refine alloc (fun b5 w4 h4 => ?_); have RD4 : Blk w4 b5 44 zeroDC := h4.blk; have e1 := h1.at_; have e2 := h2.at_; have e3 := h3.at_; have e4 := h4.at_; have x14 := (h2.ext.trans h3.ext).trans h4.ext; have x04 := h1.ext.trans x14; have s1 := h1.ext.size; have s2 := h2.ext.size; have s3 := h3.ext.size; have l1 := J1.lt; have l2 := G2.lt; have l3 := RJ3.lt; have l4 := RD4.lt; have J4 := J1.ext x14; have G4 := G2.ext (h3.ext.trans h4.ext); have RJ4 := RJ3.ext h4.ext; refine ldA [.slice AJ nJ cJ, iv (d.secs.length : Int), iv (R.length : Int)] (.blk J4) rfl ?_; refine call_of (c_r05Check (hj.ext x04) hsm) ?_; rintro _ w5 ⟨rfl, x5⟩; rw [hjE]; refine cN (fun h => absurd rfl h) (fun _ => ?_); refine ldA [.slice A n c, .slice B m c2, iv d.left, .bool d.stop] (.blk (G4.ext x5)) rfl ?_; refine call_of (c_r04Check (hd.ext (x04.trans x5))) ?_; rintro _ w6 ⟨rfl, x6⟩; rw [dskE_0.2 hok]; refine cN (fun h => absurd rfl h) (fun _ => ?_); have x46 := x5.trans x6; have x06 := x04.trans x46; have J6 := J4.ext x46; have G6 := G4.ext x46; refine fldA ?_; refine ld (.bool false) (G6.cell (by rw [hst]; rfl)) ?_; refine fldA ?_; refine ld (iv (d.secs.length : Int)) (J6.cell rfl) ?_; refine fldA ?_; refine ld (.slice A n c) (G6.cell rfl) ?_; refine len ?_; refine cN (fun h => absurd (show (d.secs.length : Int) = (n : Int) by omega) h) (fun _ => ?_); refine fldA ?_; refine ld (.slice B m c2) (G6.cell rfl) ?_; refine len ?_; refine cD (fun h => absurd h (by omega)) (fun _ => ?_); refine fldA ?_; refine ld (.slice A n c) (G6.cell rfl) ?_; refine call_of (c_r05generation (hs.ext x06) k7 (by omega)) ?_; rintro _ wx ⟨rfl, hwx⟩; rw [hwx]; clear hwx wx
  have hby : ∀ s ∈ d.secs, s.length = 128 ∧ ∀ x ∈ s, x < 256 := fun s hs' => by
    obtain ⟨k, hk⟩ := List.getElem?_of_mem hs'; obtain ⟨bx, o, cs, x, -, hx, -, -, -, A2, n2, c2', -, hs2, -⟩ := hs.at_ (k := k) (by have := (List.getElem?_eq_some_iff.1 hk).1; omega); rw [hk] at hx; injection hx with hx; subst hx; exact ⟨k7 s hs', hs2.u8b⟩
  obtain ⟨gen, hgen⟩ : ∃ gen, gen = genP d.secs := ⟨_, rfl⟩
  have hgl := genP_le hby
  rw [← hgen] at hgl ⊢; refine drawP (.take 0 (.take 1 (.take 3 (.take 4 (.take 5 (.take 6 (.take 7 (.eff 2 (.take 8 (.take 9 (.take 10 (.take 11 (.take 12 (.take 13 .done)))))))))))))) [] (fun y => Ext w6 y) mx (by kernel_rfl) (.refl _ _) ?_; refine fldA ?_; refine ldX (.slice A n c) (G6.cell rfl) (.refl _ _) ?_; refine fldA ?_; refine ldX (.slice AJ nJ cJ) (J6.cell rfl) (.refl _ _) ?_; refine fldA ?_; refine ldX (iv (R.length : Int)) (J6.cell rfl) (.refl _ _) ?_; have hsJ6 := hsJ.ext x06; refine slcR 0 R.length hsJ6 hcJ rfl rfl (by omega) (by omega) rfl (fun A10 hA10 => ?_)
  have e10 : ((R ++ T).take R.length).drop 0 = R := by simp
  refine call_of (c_r05Records (hs.ext x06) k7 (by omega)) ?_; rintro _ w9 ⟨x69, C, m4, d4, rfl, hm4, sC⟩; refine strT (fun y => Ext w9 y) (.refl _ _) (fun _ hu => x69.trans hu) ?_; have x09 := x06.trans x69; have hsJ9 := hsJ.ext x09; have J9 := J6.ext x69; have G9 := G6.ext x69
  have s10 : ∀ y, Ext w9 y → SlR (tSl tU8) (fun _ => True) y A10 (R.length - 0) R := fun y hy => by
    have := hA10 _ y (hsJ9.ext hy)
    rwa [e10] at this
  rw [← hR] at sC; refine callQB (b := true) (fun y hy => (c_r05Same (sC.ext hy) (s10 y hy)).mono (fun v w' h => ⟨by rw [h.1, decide_eq_true rfl], h.2⟩)) (fun _ => ?_) (fun h => by cases h); have RJ9 := RJ4.ext (x46.trans x69); have RD9 := RD4.ext (x46.trans x69); have s69 := x69.size; have s46 := x46.size; refine cD (fun hbig => ?_) (fun hbig => ?_)
  · refine bld zeroJC (by kernel_rfl) ?_; refine bld zeroDC (by kernel_rfl) ?_; refine stA (vs := zeroJC) RJ9 rfl (Nat.le_of_ble_eq_true rfl) (by simp [Value.oneCell']) (fun wa Ba ka _ => ?_); refine stA (vs := zeroDC) (RD9.kept ka (show b5 ≠ b4 by omega)) rfl (Nat.le_of_ble_eq_true rfl) (by simp [Value.oneCell']) (fun we Be ke _ => ?_); refine ret ?_; refine resL (.agg (zeroJC).toArray) (holds_agg (.blk (Ba.kept ke (show b4 ≠ b5 by omega))) rfl) ?_; refine resL (.agg (zeroDC).toArray) (holds_agg (.blk Be) rfl) ?_
    have hres : syncJ d R T = (zeroD, 50) := by unfold syncJ; rw [if_pos (by rw [← hgen]; omega)]
    rw [hres]; exact ⟨zeroJC, zeroDC, rfl, ⟨rfl, by simp [Value.oneCell']⟩, zeroD_r, (x09.then ka fun i hi _ e => by omega).then ke fun i hi _ e => by omega⟩
  have hgen2 : ¬ 4294967296 ≤ genP d.secs := by rw [← hgen]; omega
  refine fldA ?_; refine ld (iv (R.length : Int)) (J9.cell rfl) ?_; refine fldA ?_; refine ld (.slice AJ nJ cJ) (J9.cell rfl) ?_; refine len ?_; refine cE (fun heq => ?_) (fun hne => ?_)
  · have hT0 : T = [] := List.eq_nil_of_length_eq_zero (by omega); refine drawP (.take 0 (.take 1 (.eff 2 (.eff 3 (.take 4 .done))))) [] (fun y => Kept (fun i => i ≠ b4 ∧ i ≠ b5) w9 y) mx (by kernel_rfl) (.refl _ _) ?_; refine ldAK [.slice AJ nJ cJ, iv (d.secs.length : Int), iv (R.length : Int)] (.blk J9) rfl (show g2 ≠ b4 ∧ g2 ≠ b5 by omega) (.refl _ _) ?_; refine ldAK [.slice A n c, .slice B m c2, iv d.left, .bool d.stop] (.blk G9) rfl (show g3 ≠ b4 ∧ g3 ≠ b5 by omega) (.refl _ _) ?_; refine stA (vs := [.slice AJ nJ cJ, iv (d.secs.length : Int), iv (R.length : Int)]) RJ9 rfl (Nat.le_of_ble_eq_true rfl) (by simp [Value.oneCell']) (fun wa Ba ka _ => ?_); refine strS (ka.weak fun i _ h => h.1) ?_; refine stA (vs := [.slice A n c, .slice B m c2, iv d.left, .bool d.stop]) (RD9.kept ka (show b5 ≠ b4 by omega)) rfl (Nat.le_of_ble_eq_true rfl) (by simp [Value.oneCell']) (fun we Be ke _ => ?_); refine strS ((ka.weak fun i _ h => h.1).then ke fun i _ h => h.2) ?_; refine ret ?_; refine resL (.agg #[.slice AJ nJ cJ, iv (d.secs.length : Int), iv (R.length : Int)]) (holds_agg (.blk (Ba.kept ke (show b4 ≠ b5 by omega))) rfl) ?_; refine resL (.agg #[.slice A n c, .slice B m c2, iv d.left, .bool d.stop]) (holds_agg (.blk Be) rfl) ?_
    have hres : syncJ d R T = (d, 0) := by unfold syncJ; rw [if_neg hgen2, if_pos hT0]
    have xe : Ext w we := (x09.then ka fun i hi _ e => by omega).then ke fun i hi _ e => by omega
    rw [hres]; exact ⟨[.slice AJ nJ cJ, iv (d.secs.length : Int), iv (R.length : Int)], [.slice A n c, .slice B m c2, iv d.left, .bool d.stop], rfl, ⟨rfl, by simp [Value.oneCell']⟩, (hd.ext xe).more fun _ _ h => .inl h, xe⟩
  have hsR : SmallJ R := ⟨by have := hsm.1; rw [List.length_append] at this; omega, fun b hb => hsm.2 b (List.mem_append_left _ hb)⟩; refine fldA ?_; refine ld (.slice AJ nJ cJ) (J9.cell rfl) ?_; refine fldA ?_; refine ld (iv (R.length : Int)) (J9.cell rfl) ?_; refine slcR 0 R.length hsJ9 hcJ rfl rfl (by omega) (by omega) rfl (fun A11 hA11 => ?_); have s11 := hA11 _ w9 hsJ9; rw [e10] at s11; refine call_of (c_r05Used s11 hsR) ?_; rintro _ wx ⟨rfl, hwx⟩; rw [hwx]; clear hwx wx; refine fldA ?_; refine ld (iv (R.length : Int)) (J9.cell rfl) ?_; have huT : usedN R + T.length ≤ d.secs.length := Nat.le_trans (usedN_app R T) hus
  have hsmT : R.length + T.length ≤ 100000 := by have := hsm.1; rw [List.length_append] at this; omega
  have lg3 := G9.lt; refine loop_rule (fun k : Nat => [(10, iv ((usedN R + k : Nat) : Int)), (11, iv ((R.length + k : Nat) : Int))]) (fun k u => k ≤ T.length ∧ Kept (fun i => i ≠ g3) w9 u ∧ ∃ cs, Blk u g3 44 cs ∧ DskR (fun i => (D i ∧ i < w.heap.size) ∨ w9.heap.size ≤ i) u cs ⟨d.secs, wrL gen (usedN R) (T.take k), d.left, d.stop⟩) (fun k _ => T.length - k) 0 ⟨rfl, rfl, trivial⟩ ⟨by omega, .refl _ _, _, G9, ?_⟩ rfl ?_
  · rw [List.take_zero]; refine ⟨⟨A, n, c, B, m, c2, rfl, (hs0.ext x09).more (by decide) fun i _ hi => .inl hi, hc, ?_, hc2, hId⟩⟩; show SlR tWr _ w9 B m []; have := (hp.more (D' := fun b => D b ∧ b < w.heap.size) (by decide) fun b hb h => ⟨h, hb⟩).ext x09; rw [hpe] at this; exact this.more (by decide) fun i _ hi => .inl hi
  rintro GG k u ⟨hk, ku, cs, Gu, du⟩; have Ju := J9.kept ku (show g2 ≠ g3 by omega)
  have hsJu : SlR (tSl tU8) (fun b => b < w.heap.size) u AJ nJ (R ++ T) := (hsJ0.ext x09).kept ku fun i _ hi => by omega
  refine fldA ?_; refine ld (.slice AJ nJ cJ) (Ju.cell rfl) ?_; refine len ?_; refine cD (fun hlt => ?_) (fun hge => ?_)
  · have hkT : k < T.length := by omega
    obtain ⟨bx, o, csx, x, hBx, hx, -, -, hcx, A2, n2, c2', rfl, hs2, hc2'⟩ := hsJu.at_ (k := R.length + k) (by omega); subst hBx
    have hx : T[k]? = some x := by rwa [List.getElem?_append_right (by omega), Nat.add_sub_cancel_left] at hx
    refine fldA ?_; refine ld (.slice (some (ad bx o)) nJ cJ) (Ju.cell rfl) ?_; refine idx (R.length + k) rfl (by omega) ?_; refine ld (.slice A2 n2 c2') (hcx 0 _ rfl) ?_; refine len ?_; refine call_of (c_r05Sectors (n := n2) (by have := hs2.le; omega)) ?_; rintro _ wx ⟨rfl, hwx⟩; rw [hwx]; clear hwx wx; have hx112 := hT x (List.mem_of_getElem? hx); have hn2 := hs2.len
    have hsec : max 1 ((n2 + 111) / 112) = 1 := by omega
    rw [hsec]; refine loop_rule (fun j : Nat => [(14, iv (j : Int)), (10, iv ((usedN R + k + j : Nat) : Int))]) (fun j v => j ≤ 1 ∧ Kept (fun i => i ≠ g3) u v ∧ ∃ cs, Blk v g3 44 cs ∧ DskR (fun i => (D i ∧ i < w.heap.size) ∨ w9.heap.size ≤ i) v cs ⟨d.secs, wrL gen (usedN R) (T.take (k + j)), d.left, d.stop⟩) (fun j _ => 1 - j) 0 ⟨rfl, rfl, trivial⟩ ⟨Nat.zero_le _, .refl _ _, cs, Gu, du⟩ rfl ?_; rintro G3 j v ⟨hj1, kv, cs3, Gv, dv⟩; rcases (show j = 0 ∨ j = 1 by omega) with rfl | rfl
    · refine cD (fun _ => ?_) (fun h => absurd (show ((0 : Nat) : Int) < ((1 : Nat) : Int) by omega) h); obtain ⟨A', n', c', B', m', c2'', rfl, hs', hc', hp', hc2'', hI'⟩ := dv.ex
      have hs2v := hs2.kept kv fun i _ hi => by omega
      refine arI (n := 0) (by omega) ?_; refine len ?_; refine arI (n := 1) (by omega) ?_; refine arI (n := 112) (by omega) ?_; refine slcR 0 n2 hs2v hc2' rfl (by show min (n2 : Int) 112 = (n2 : Int); omega) (by omega) (Nat.le_refl _) rfl (fun A20 hA20 => ?_); have s20 := hA20 _ v hs2v; rw [List.drop_zero, List.take_of_length_le (by omega)] at s20; refine drawP (.take 0 (.take 1 (.take 2 (.take 3 (.take 4 (.take 5 (.take 6 (.take 7 (.take 8 (.take 9 (.take 10 (.eff 11 (.eff 12 (.take 13 (.take 14 (.take 15 (.bar (.eff 16 .done)))))))))))))))))) [16] (fun y => Ext v y) mx (by kernel_rfl) (.refl _ _) ?_; refine ldAX [.slice A' n' c', .slice B' m' c2'', iv d.left, .bool d.stop] (.blk Gv) rfl (.refl _ _) ?_; refine cE (fun _ => ?_) (fun h => absurd rfl h); refine arI (n := 0) (by omega) ?_; refine cE (fun _ => ?_) (fun h => absurd rfl h); refine call_of (c_r05Sector (g := gen) (num := usedN R + k + 0) s20 (by omega) (by omega) (by omega)) ?_; rintro _ v2 ⟨E, ce, rfl, oE⟩; have xv2 := oE.ext; refine strS xv2 ?_; have hbx := hs2.u8b; have hel := encB_len (g := gen) (num := usedN R + k + 0) (kind := 3) (b := x) (by omega); have sq : SlR tU8 (fun b => v.heap.size ≤ b ∧ b < v2.heap.size) v2 E 128 (encB gen (usedN R + k + 0) 3 x) := (oE.u8 (D := fun b => v.heap.size ≤ b) (encB_lt (by omega) (by omega) hbx) (by omega) fun _ h => h).more (by decide) fun b hb h => ⟨h, hb⟩
      have hwl : (wrL gen (usedN R) (T.take (k + 0))).length = k := by rw [wrL_len, List.length_take]; omega
      have hokv : okD ⟨d.secs, wrL gen (usedN R) (T.take (k + 0)), d.left, d.stop⟩ := by
        refine ⟨hok.1, hok.2.1, by show (wrL gen (usedN R) (T.take (k + 0))).length ≤ 4096; omega, hok.2.2.2.1, hok.2.2.2.2.1, fun y hy => ?_, k7⟩; obtain ⟨j, t, h1, h2, h3⟩ := wrL_mem hy
        have hj : (T.take (k + 0)).length = k := by rw [List.length_take]; omega
        subst h3; exact ⟨by show (0 : Int) ≤ ((j : Nat) : Int); omega, by show ((j : Nat) : Int) < (d.secs.length : Int); have : j < usedN R + (T.take (k + 0)).length := h2.2; omega, encB_len (by have := hT t (List.mem_of_mem_take h1); omega)⟩
      have hw : writeP ⟨d.secs, wrL gen (usedN R) (T.take (k + 0)), d.left, d.stop⟩ ((usedN R + k + 0 : Nat) : Int) (encB gen (usedN R + k + 0) 3 x) = (⟨d.secs, wrL gen (usedN R) (T.take (k + 1)), d.left, d.stop⟩, 0) := by
        unfold writeP; rw [if_neg (fun h => h ⟨by unfold runsB; exact decide_eq_true ⟨hokv, hst⟩, by unfold dhasB; exact decide_eq_true ⟨by omega, by show ((usedN R + k + 0 : Nat) : Int) < (d.secs.length : Int); omega⟩⟩), if_neg (by omega), if_neg (by show ¬ (wrL gen (usedN R) (T.take (k + 0))).length = 4096; omega)]
        have ht1 : T.take (k + 1) = T.take (k + 0) ++ [x] := by rw [List.take_add_one, hx]; rfl
        have hp128 : padB (encB gen (usedN R + k + 0) 3 x) = encB gen (usedN R + k + 0) 3 x := by unfold padB; rw [hel, Nat.sub_self, List.replicate_zero, List.append_nil]
        rw [hp128, ht1, wrL_snoc, List.length_take, show min (k + 0) T.length = k by omega]
        rfl
      refine call_of (c_r04Write (dv.ext xv2) (by unfold I64; omega) (sq.more (by decide) fun b _ h => .inr (by have := ku.size; have := kv.size; omega))) ?_; rintro _ v3 ⟨cs4, rfl, d4, x34⟩; rw [hw] at d4 ⊢
      have sv9 : w9.heap.size ≤ v2.heap.size := by have := ku.size; have := kv.size; have := xv2.size; omega
      have d4 := d4.more (D' := fun i => (D i ∧ i < w.heap.size) ∨ w9.heap.size ≤ i) fun b _ h => h.elim (fun h => h) fun h => .inr (by omega); obtain ⟨A5, n5, c5, B5, m5, c6, rfl, -⟩ := d4.ex; have xv3 := xv2.trans x34; refine strS xv3 ?_; refine barS (fun _ => True) trivial ?_; refine stA (vs := [.slice A5 n5 c5, .slice B5 m5 c6, iv d.left, .bool d.stop]) (Gv.ext xv3) rfl (Nat.le_of_ble_eq_true rfl) (by simp [Value.oneCell']) (fun v5 G5 k5 _ => ?_); have G5 : Blk v5 g3 44 [.slice A5 n5 c5, .slice B5 m5 c6, iv d.left, .bool d.stop] := G5; refine strS trivial ?_; refine arI (n := ((usedN R + k + 0 : Nat) : Int) + 1) (by omega) ?_; refine arI (n := 1) (by omega) ?_; exact next 1 ⟨rfl, by show iv (((usedN R + k + 0 : Nat) : Int) + 1) = iv ((usedN R + k + 1 : Nat) : Int); rw [Int.natCast_add (usedN R + k) 1]; rfl, trivial⟩ ⟨Nat.le_refl _, (kv.trans (Ext.any xv3)).trans k5, _, G5, d4.kept k5 fun b _ h => by omega⟩ (by omega)
    · refine cD (fun h => absurd (show ((1 : Nat) : Int) < ((1 : Nat) : Int) from h) (by omega)) (fun _ => ?_); refine arI (n := ((R.length + k : Nat) : Int) + 1) (by omega) ?_; exact next (k + 1) ⟨rfl, by show iv (((R.length + k : Nat) : Int) + 1) = iv ((R.length + (k + 1) : Nat) : Int); rw [show R.length + (k + 1) = R.length + k + 1 by omega, Int.natCast_add (R.length + k) 1]; rfl, trivial⟩ ⟨by omega, ku.trans kv, cs3, Gv, dv⟩ (by omega)
  have hkT : k = T.length := by omega
  subst hkT; rw [List.take_length] at du; have hT0 : T ≠ [] := fun e => hne (by rw [hlJ, e]; simp)
  have hres : syncJ d R T = syncP ⟨d.secs, wrL gen (usedN R) T, d.left, d.stop⟩ := by unfold syncJ; rw [if_neg hgen2, if_neg hT0, hgen]
  obtain ⟨A5, n5, c5, B5, m5, c6, rfl, -⟩ := du.ex; refine ldA [.slice A5 n5 c5, .slice B5 m5 c6, iv d.left, .bool d.stop] (.blk Gu) rfl ?_; refine call_of (c_r04Sync du) ?_; rintro _ u1 ⟨cs6, rfl, d6, xu1⟩; rw [← hres] at d6 ⊢; have su1 := ku.size; have d6 := d6.more (D' := fun i => (D i ∧ i < w.heap.size) ∨ w9.heap.size ≤ i) fun b _ h => h.elim (fun h => h) fun h => .inr (by omega); obtain ⟨A7', n7', c7', B7', m7', c8', rfl, -⟩ := d6.ex; obtain ⟨dr, hdr⟩ : ∃ dr, dr = (syncJ d R T).1 := ⟨_, rfl⟩; rw [← hdr] at d6 ⊢; obtain ⟨er, her⟩ : ∃ er, er = (syncJ d R T).2 := ⟨_, rfl⟩; rw [← her]; have sxu := xu1.size; refine alloc (fun b16 u2 h16 => ?_); refine stA (vs := [.slice A7' n7' c7', .slice B7' m7' c8', iv dr.left, .bool dr.stop]) h16.blk rfl (Nat.le_of_ble_eq_true rfl) (by simp [Value.oneCell']) (fun u3 G16 k16 _ => ?_); have G16 : Blk u3 b16 44 [.slice A7' n7' c7', .slice B7' m7' c8', iv dr.left, .bool dr.stop] := G16; have e16 := h16.at_
  have x13 : Ext u1 u3 := h16.ext.then k16 fun i hi _ e => by omega
  have xu3 := xu1.trans x13; have k93 : Kept (fun i => i ≠ g3) w9 u3 := ku.trans (Ext.any xu3); have RJ := RJ9.kept k93 (show b4 ≠ g3 by omega); have RD := RD9.kept k93 (show b5 ≠ g3 by omega); have J3 := Ju.ext xu3; have d3 := d6.ext x13; have s93 := k93.size
  have fin : ∀ we : World, Kept (fun i => i ≠ b4 ∧ i ≠ b5 ∧ i ≠ g2) u3 we → DskR (fun b => D b ∨ w.heap.size ≤ b) we [.slice A7' n7' c7', .slice B7' m7' c8', iv dr.left, .bool dr.stop] dr ∧ Ext w we := fun we kw =>
    ⟨(d3.kept (D' := fun i => i ≠ b4 ∧ i ≠ b5 ∧ i ≠ g2) kw fun b _ h => by rcases h with h | h <;> exact ⟨by omega, by omega, by omega⟩).more fun b _ h => h.elim (fun h => .inl h.1) fun h => .inr (by have := x09.size; omega), (x09.then k93 fun i hi _ e => by omega).then kw fun i hi _ => ⟨by omega, by omega, by omega⟩⟩
  have ne1 : b16 ≠ b4 ∧ b16 ≠ b5 ∧ b16 ≠ g2 := by omega
  refine cN (fun hbad => ?_) (fun hgood => ?_)
  · refine drawP (.take 0 (.take 1 (.take 2 (.eff 3 (.eff 4 (.take 5 .done)))))) [] (fun y => Kept (fun i => i ≠ b4 ∧ i ≠ b5) u3 y) mx (by kernel_rfl) (.refl _ _) ?_; refine bld zeroJC (by kernel_rfl) ?_; refine ldAK [.slice A7' n7' c7', .slice B7' m7' c8', iv dr.left, .bool dr.stop] (.blk G16) rfl (show b16 ≠ b4 ∧ b16 ≠ b5 by omega) (.refl _ _) ?_; refine stA (vs := zeroJC) RJ rfl (Nat.le_of_ble_eq_true rfl) (by simp [Value.oneCell']) (fun wa Ba ka _ => ?_); refine strS (ka.weak fun i _ h => h.1) ?_; refine stA (vs := [.slice A7' n7' c7', .slice B7' m7' c8', iv dr.left, .bool dr.stop]) (RD.kept ka (show b5 ≠ b4 by omega)) rfl (Nat.le_of_ble_eq_true rfl) (by simp [Value.oneCell']) (fun we Be ke _ => ?_); refine strS ((ka.weak fun i _ h => h.1).then ke fun i _ h => h.2) ?_; refine ret ?_; refine resL (.agg (zeroJC).toArray) (holds_agg (.blk (Ba.kept ke (show b4 ≠ b5 by omega))) rfl) ?_; refine resL (.agg #[.slice A7' n7' c7', .slice B7' m7' c8', iv dr.left, .bool dr.stop]) (holds_agg (.blk Be) rfl) ?_; have := fin we ((ka.weak fun i _ h => h.1).trans (ke.weak fun i _ h => h.2.1)); exact ⟨zeroJC, [.slice A7' n7' c7', .slice B7' m7' c8', iv dr.left, .bool dr.stop], rfl, ⟨rfl, by simp [Value.oneCell']⟩, this⟩
  · refine fldA ?_; refine ld (.slice AJ nJ cJ) (J3.cell rfl) ?_; refine len ?_; refine fldA ?_; refine st J3 (Nat.le_of_ble_eq_true rfl) rfl (fun u4 J4' k4 _ => ?_); have J4' : Blk u4 g2 108 [.slice AJ nJ cJ, iv (d.secs.length : Int), iv (nJ : Int)] := J4'; have RJ := RJ.kept k4 (show b4 ≠ g2 by omega); have RD := RD.kept k4 (show b5 ≠ g2 by omega); have G16 := G16.kept k4 (show b16 ≠ g2 by omega); refine drawP (.take 0 (.take 1 (.eff 2 (.eff 3 (.take 4 .done))))) [] (fun y => Kept (fun i => i ≠ b4 ∧ i ≠ b5) u4 y) mx (by kernel_rfl) (.refl _ _) ?_; refine ldAK [.slice AJ nJ cJ, iv (d.secs.length : Int), iv (nJ : Int)] (.blk J4') rfl (show g2 ≠ b4 ∧ g2 ≠ b5 by omega) (.refl _ _) ?_; refine ldAK [.slice A7' n7' c7', .slice B7' m7' c8', iv dr.left, .bool dr.stop] (.blk G16) rfl (show b16 ≠ b4 ∧ b16 ≠ b5 by omega) (.refl _ _) ?_; refine stA (vs := [.slice AJ nJ cJ, iv (d.secs.length : Int), iv (nJ : Int)]) RJ rfl (Nat.le_of_ble_eq_true rfl) (by simp [Value.oneCell']) (fun wa Ba ka _ => ?_); refine strS (ka.weak fun i _ h => h.1) ?_; refine stA (vs := [.slice A7' n7' c7', .slice B7' m7' c8', iv dr.left, .bool dr.stop]) (RD.kept ka (show b5 ≠ b4 by omega)) rfl (Nat.le_of_ble_eq_true rfl) (by simp [Value.oneCell']) (fun we Be ke _ => ?_); refine strS ((ka.weak fun i _ h => h.1).then ke fun i _ h => h.2) ?_; refine ret ?_; refine resL (.agg #[.slice AJ nJ cJ, iv (d.secs.length : Int), iv (nJ : Int)]) (holds_agg (.blk (Ba.kept ke (show b4 ≠ b5 by omega))) rfl) ?_; refine resL (.agg #[.slice A7' n7' c7', .slice B7' m7' c8', iv dr.left, .bool dr.stop]) (holds_agg (.blk Be) rfl) ?_
    have hg : er = 0 := by omega
    rw [hg]; have := fin we ((k4.weak fun i _ h => h.2.2).trans ((ka.weak fun i _ h => h.1).trans (ke.weak fun i _ h => h.2.1))); exact ⟨[.slice AJ nJ cJ, iv (d.secs.length : Int), iv (nJ : Int)], [.slice A7' n7' c7', .slice B7' m7' c8', iv dr.left, .bool dr.stop], rfl, ⟨rfl, by simp [Value.oneCell']⟩, this⟩
end
structure VX where
  k : Int
  n : Int
  l : List (Int × Int)
  e : List Nat
def VX.vs (x : VX) : VS := ⟨x.k, x.n, x.l⟩
abbrev kn (x : VX) : Int × Int := (x.k, x.n)
def LeafX (cs : List Value) (x : VX) : Prop := (cs = [iv 1, iv x.n, .string emp, .slice none 0 0] ∧ x.k = 1 ∧ I64 x.n ∧ x.l = [] ∧ x.e = encI x.n) ∨ ∃ s : ByteArray, s.size ≤ 1000000000 ∧ cs = [iv 2, iv 0, .string s, .slice none 0 0] ∧ x.k = 2 ∧ x.n = 0 ∧ x.l = [] ∧ x.e = 2 :: (num s.size ++ bl s)
def tVS (a : Ty VX) (hsz : 0 < a.sz) : Ty VX where
  sz := 4
  rep D w cs x := LeafX cs x ∨ ∃ A n c xs, cs = [iv 3, iv 0, .string emp, .slice A n c] ∧ x.k = 3 ∧ x.n = 0 ∧ SlR a D w A n xs ∧ n ≤ c ∧ n ≤ 1000000000 ∧ x.l = xs.map kn ∧ x.e = 3 :: (num n ++ xs.flatMap VX.e)
  len := fun h => by
    rcases h with (⟨h, -⟩ | ⟨s, -, h, -⟩) | ⟨A, n, c, xs, h, -⟩ <;> rw [h] <;> rfl
  keep hk := fun h => by
    rcases h with h | ⟨A, n, c, xs, h1, h2, h3, h4, h5⟩
    · exact .inl h
    · exact .inr ⟨A, n, c, xs, h1, h2, h3, h4.keep hk, h5⟩
  more hB := fun h => by
    rcases h with h | ⟨A, n, c, xs, h1, h2, h3, h4, h5⟩
    · exact .inl h
    · exact .inr ⟨A, n, c, xs, h1, h2, h3, h4.more hsz hB, h5⟩
def tV0 : Ty VX where
  sz := 4
  rep _ _ cs x := LeafX cs x
  len := fun h => by rcases h with ⟨h, -⟩ | ⟨s, -, h, -⟩ <;> rw [h] <;> rfl
  keep _ h := h
  more _ h := h
def tVP : Nat → { a : Ty VX // a.sz = 4 }
  | 0 => ⟨tV0, rfl⟩
  | f + 1 => ⟨tVS (tVP f).1 (by rw [(tVP f).2]; decide), rfl⟩
def tVX (f : Nat) : Ty VX := (tVP f).1
theorem tVX_sz (f : Nat) : (tVX f).sz = 4 := (tVP f).2
theorem tVX_pos (f : Nat) : 0 < (tVX f).sz := by rw [tVX_sz]; decide
theorem tVX_ex {f : Nat} {D : Nat → Prop} {w : World} {cs : List Value} {x : VX} (h : (tVX f).rep D w cs x) : LeafX cs x ∨ ∃ g A n c xs, f = g + 1 ∧ cs = [iv 3, iv 0, .string emp, .slice A n c] ∧ x.k = 3 ∧ x.n = 0 ∧ SlR (tVX g) D w A n xs ∧ n ≤ c ∧ n ≤ 1000000000 ∧ x.l = xs.map kn ∧ x.e = 3 :: (num n ++ xs.flatMap VX.e) := by
  cases f with
  | zero => exact .inl h
  | succ g =>
    rcases h with h | ⟨A, n, c, xs, h1⟩
    · exact .inl h
    · exact .inr ⟨g, A, n, c, xs, rfl, h1⟩
theorem tVX_leaf {f : Nat} {D : Nat → Prop} {w : World} {cs : List Value} {x : VX} (h : LeafX cs x) : (tVX f).rep D w cs x := by
  cases f with
  | zero => exact h
  | succ g => exact .inl h
theorem tVX_list {g : Nat} {D : Nat → Prop} {w : World} {A : Option Addr} {n c : Nat} {xs : List VX} {x : VX} (hk : x.k = 3) (hn : x.n = 0) (hs : SlR (tVX g) D w A n xs) (hc : n ≤ c) (h9 : n ≤ 1000000000) (hl : x.l = xs.map kn) (he : x.e = 3 :: (num n ++ xs.flatMap VX.e)) : (tVX (g + 1)).rep D w [iv 3, iv 0, .string emp, .slice A n c] x :=
  .inr ⟨A, n, c, xs, rfl, hk, hn, hs, hc, h9, hl, he⟩
theorem tVX_cells {f : Nat} {D : Nat → Prop} {w : World} {cs : List Value} {x : VX} (h : (tVX f).rep D w cs x) : ∃ s A n c, cs = [iv x.k, iv x.n, .string s, .slice A n c] ∧ n ≤ c ∧ I64 x.n := by
  rcases tVX_ex h with (⟨h1, h2, h3, -⟩ | ⟨s, -, h1, h2, h3, -⟩) | ⟨g, A, n, c, xs, -, h1, h2, h3, -, h4, -⟩
  · exact ⟨_, _, _, _, by rw [h1, h2], Nat.le_refl _, h3⟩
  · exact ⟨_, _, _, _, by rw [h1, h2, h3], Nat.le_refl _, by rw [h3]; unfold I64; omega⟩
  · exact ⟨_, _, _, _, by rw [h1, h2, h3], h4, by rw [h3]; unfold I64; omega⟩
theorem OwnF.src1 {w0 w : World} {A : Option Addr} {n c : Nat} {e : TypeId} {cs : List Value} (h : OwnF w0 w A n c e 1 cs) : Src w A n 1 cs := by
  refine ⟨h.own.len, fun h0 => ?_⟩; rcases h.form with ⟨-, e0, -⟩ | ⟨g, rfl, -, -, -⟩
  · omega
  · obtain ⟨rest, B, -, -⟩ := h.own.blk; exact ⟨g, 0, rfl, fun j v hv => by rw [Nat.zero_add]; exact B.cell (by rw [List.getElem?_append_left (List.getElem?_eq_some_iff.1 hv).1]; exact hv)⟩
theorem strCells_bl (s : ByteArray) : Lib.strCells s = u8s (bl s) := by
  show _ = (List.map UInt8.toNat s.data.toList).map fun n : Nat => uv8 n; rw [List.map_map]; rfl
theorem appFS {P : Program} {X : XK} {t tn e : TypeId} [h : SliceTy P t e 1] [hz : ZeroTy P e (uv8 0)] [hby : BytesTy P e 1] [hn : StrTy P tn] {ty : TypeId} {cst : Array Bool} {n c : Nat} {A : Option Addr} {s : ByteArray} {cs : List Value} {w0 w : World} {K : VK}
    (hown : OwnF w0 w A n c e 1 cs) (hb : n + s.size ≤ 140737488355328)
    (kk : ∀ A' c' w', OwnF w0 w' A' (n + s.size) c' e 1 (cs ++ u8s (bl s)) → Kept (fun b => A ≠ some (ad b 0)) w w' → K (.slice A' (n + s.size) c') w') : BuiP P .append #[t, tn] ty cst #[.slice A n c, .string s] K X w := by
  rw [BuiP_eq]; refine OpS.x fun w1 hw => ?_; subst hw; obtain ⟨hu, inf, hinf, hsz⟩ := sliceOf_spec h.h; obtain ⟨i', hi', hzz⟩ := zeroOf_spec hz.h; rw [hinf] at hi'; cases hi'
  have hbb : inf.bytes = 1 := by have := hby.h; unfold bytesOf at this; rw [hinf] at this; simpa using this
  have hrow : w1.ownsRow w0.heap.size e 1 (.slice A n c) n cs := by
    refine ⟨hown.own.1, ?_⟩; rcases hown.own.2 with h | ⟨g, cap, cur, hv, h2, h3, h4⟩
    · exact .inl h
    · injection hv with hv1 hv2 hv3; exact .inr ⟨g, cap, cur, by rw [hv1, hv3], hown.new g hv1, h3, h4⟩
  obtain ⟨v', w', hr, ho, hg, -⟩ := Lib.run_append_own_string (P := P) (w := w1) w0.heap.size t tn ty e inf hu (strOf_spec (h := hn)) hinf hzz hsz hbb (.slice A n c) n cs hrow s (by unfold maxLen; omega) hb hown.ext.size; rw [strCells_bl] at ho; rw [show builtin .append #[t, tn] ty cst #[.slice A n c, .string s] = vS (Builtin.append_ #[t, tn] ty #[.slice A n c, .string s]) from rfl, run_vS, hr]
  have hA : ∀ j, A ≠ some (ad j 0) → (Value.slice A n c).ownBlock ≠ some j := fun j hj e => by
    rcases hown.form with ⟨q, -⟩ | ⟨g', q, -⟩
    · rw [q] at e; cases e
    · rw [q] at e hj; injection e with e; exact hj (by rw [← e])
  have hk : Kept (fun b => A ≠ some (ad b 0)) (z w1) (z w') := ⟨hg.os, hg.tape, hg.output, hg.size, fun j hj hD => hg.block j hj (fun e => hA j hD e.symm)⟩
  have hx : Ext w0 (z w') := hown.ext.then hk fun j hj _ e => by have := hown.new j e; omega
  obtain ⟨hl, ho2⟩ := ho; rcases ho2 with ⟨rfl, h0⟩ | ⟨g2, cap, cur, rfl, hbase, hblk, hnc, hcm, hcs, htk⟩
  · have hnil : cs ++ u8s (bl s) = [] := List.eq_nil_of_length_eq_zero (by rw [hl, h0]); have h9 := kk none 0 (z w') (by rw [h0, hnil]; exact .nil hx) hk; rw [h0] at h9; exact h9
  · exact kk (some (ad g2 0)) cap (z w') ⟨⟨hl, .inr ⟨g2, cap, cur, rfl, Nat.zero_le _, hblk, hnc, hcm, hcs, htk⟩⟩, hx, fun g' e' => by injection e' with e'; injection e' with e'; rw [← e']; exact hbase⟩ hk
theorem numF_cons {f u : Nat} (h : ¬ u < 128) : numF (f + 1) u = (u % 128 + 128) :: numF f (u / 128) := by
  conv => lhs; unfold numF
  rw [if_neg h]
section
variable {w : World}
theorem c_r01numeral : ∀ (f : Nat) {w : World} (u : Nat), f ≤ 9 → u < 2 * 128 ^ f → CallZ Tryz.prog 220 #[uv64 u] w (fun v w' => ∃ B m d, v = .slice B m d ∧ m = (numF f u).length ∧ OwnF w w' B m d 5 1 (u8s (numF f u))) := by
  intro f
  induction f with
  | zero =>
    intro w u hf hu; refine fn_rule (args := [uv64 u]) Tryz.func220 (by kernel_rfl) ?_; refine cD (fun h => ?_) (fun h => absurd h (by simp at hu; omega)); refine cv8 u rfl ?_; rw [Nat.mod_eq_of_lt (show u < 256 by omega)]; refine lit [uv8 u] (fun g w1 h1 => ?_); exact ret1 (.slice (some (ad g 0)) 1 1) rfl ⟨_, 1, 1, rfl, rfl, OwnF.lit (cs := [uv8 u]) (.refl _ _) h1 rfl⟩
  | succ f ih =>
    intro w u hf hu
    have hu64 : u < 18446744073709551616 := by
      have : 128 ^ (f + 1) ≤ 128 ^ 9 := Nat.pow_le_pow_right (by omega) hf; omega
    refine fn_rule (args := [uv64 u]) Tryz.func220 (by kernel_rfl) ?_; refine cD (fun h => ?_) (fun h => ?_)
    · refine cv8 u rfl ?_; rw [Nat.mod_eq_of_lt (show u < 256 by omega)]; refine lit [uv8 u] (fun g w1 h1 => ?_); have e : numF (f + 1) u = [u] := numF_end (by omega); rw [e]; exact ret1 (.slice (some (ad g 0)) 1 1) rfl ⟨_, 1, 1, rfl, rfl, OwnF.lit (cs := [uv8 u]) (.refl _ _) h1 rfl⟩
    · refine remI (by omega) (Int.natCast_nonneg _) ?_; refine ar64 (by omega) ?_; refine cv8 (u % 128 + 128) (by omega) ?_; rw [Nat.mod_eq_of_lt (show u % 128 + 128 < 256 by omega)]; refine lit [uv8 (u % 128 + 128)] (fun g w1 h1 => ?_); have o1 : OwnF w w1 (some (ad g 0)) 1 1 5 1 [uv8 (u % 128 + 128)] := OwnF.lit (cs := [uv8 (u % 128 + 128)]) (.refl _ _) h1 rfl; refine quo64 (b := 128) hu64 (by omega) ?_; refine call_of (ih (u / 128) (by omega) (by rw [Nat.pow_succ] at hu; rw [Nat.div_lt_iff_lt_mul (by omega)]; omega)) ?_; rintro _ w2 ⟨B, m, d, rfl, hm, own⟩; have hml := (numF_len f (u / 128)).2; refine appF (o1.then own.ext) own.src1 (by omega) (fun B' d' w3 o3 _ _ => ?_) (h1 := u8s_one _); refine ret1 (.slice B' (1 + m) d') rfl ⟨B', 1 + m, d', rfl, ?_, ?_⟩
      · rw [numF_cons (by omega), List.length_cons]; omega
      · rw [numF_cons (by omega)]; exact o3
theorem c_r01unsigned {n : Int} (h : I64 n) : CallZ Tryz.prog 221 #[iv n] w (fun v w' => v = uv64 (uns n) ∧ w' = w) := by
  have h := h; unfold I64 at h; refine fn_rule (args := [iv n]) Tryz.func221 (by kernel_rfl) ?_; refine cD (fun h0 => ?_) (fun h0 => ?_)
  · refine cv64 n.toNat (by omega) ?_; rw [Nat.mod_eq_of_lt (by omega)]; refine ar64 (by omega) ?_; refine ret1 (.int .u64 (2 * ((n.toNat : Nat) : Int))) rfl ⟨?_, rfl⟩
    have e : ((uns n : Nat) : Int) = 2 * ((n.toNat : Nat) : Int) := by unfold uns; rw [if_pos (by omega)]; omega
    show Value.int .u64 _ = Value.int .u64 _; rw [e]
  · refine arI (n := n + 1) (by omega) ?_; refine arI (n := 0 - (n + 1)) (by omega) ?_; refine cv64 (-(n + 1)).toNat (by omega) ?_; rw [Nat.mod_eq_of_lt (by omega)]; refine ar64 (by omega) ?_; refine ar64 (by omega) ?_; refine ret1 (.int .u64 (2 * (((-(n + 1)).toNat : Nat) : Int) + 1)) rfl ⟨?_, rfl⟩
    have e : ((uns n : Nat) : Int) = 2 * (((-(n + 1)).toNat : Nat) : Int) + 1 := by unfold uns; rw [if_neg (by omega)]; omega
    show Value.int .u64 _ = Value.int .u64 _; rw [e]
theorem num_len (u : Nat) : 1 ≤ (num u).length ∧ (num u).length ≤ 10 := numF_len 9 u
theorem c_r01num {u : Nat} (hu : u < 18446744073709551616) : CallZ Tryz.prog 220 #[uv64 u] w (fun v w' => ∃ B m d, v = .slice B m d ∧ m = (num u).length ∧ OwnF w w' B m d 5 1 (u8s (num u))) := c_r01numeral 9 u (by omega) (by omega)
theorem flat_snocX {xs : List VX} {k : Nat} {x : VX} (h : xs[k]? = some x) : (xs.take (k + 1)).flatMap VX.e = (xs.take k).flatMap VX.e ++ x.e := by
  rw [List.take_add_one, h, List.flatMap_append]; simp
theorem flat_leX {xs : List VX} {x : VX} (h : x ∈ xs) : x.e.length ≤ (xs.flatMap VX.e).length := by
  induction xs with
  | nil => cases h
  | cons y xs ih =>
    rw [List.flatMap_cons, List.length_append]; rcases List.mem_cons.1 h with rfl | h
    · omega
    · have := ih h; omega
theorem flat_takeX {xs : List VX} (k : Nat) : ((xs.take k).flatMap VX.e).length ≤ (xs.flatMap VX.e).length := by
  conv => rhs; rw [← List.take_append_drop k xs, List.flatMap_append, List.length_append]
  omega
set_option maxRecDepth 4000 in
theorem c_r01encode : ∀ (f : Nat) {D : Nat → Prop} {w : World} {cs : List Value} {x : VX}, (tVX f).rep D w cs x → x.e.length ≤ 1000000000 → CallZ Tryz.prog 170 #[.agg cs.toArray] w (fun v w' => ∃ B m d, v = .slice B m d ∧ m = x.e.length ∧ OwnF w w' B m d 5 1 (u8s x.e)) := by
  intro f
  induction f using Nat.strongRecOn with
  | _ f ih =>
  intro D w cs x hx hlx; rcases tVX_ex hx with (⟨rfl, hk, hI, hl, he⟩ | ⟨s, hs, rfl, hk, h0, hl, he⟩) | ⟨g, A, n, c, xs, rfl, rfl, hk, h0, hsl, hc, hn9, hl, he⟩
  · refine fn_rule (args := [.agg #[iv 1, iv x.n, .string emp, .slice none 0 0]]) Tryz.func170 (by kernel_rfl) ?_; refine box (fun b w1 h1 => ?_); have B : Blk w1 b 113 [iv 1, iv x.n, .string emp, .slice none 0 0] := h1.blk; refine fldA ?_; refine ld (iv 1) (B.cell rfl) ?_; refine cE (fun _ => ?_) (fun h => absurd rfl h); refine lit [uv8 1] (fun g2 w2 h2 => ?_); have o2 : OwnF w1 w2 (some (ad g2 0)) 1 1 5 1 [uv8 1] := OwnF.lit (cs := [uv8 1]) (.refl _ _) h2 rfl; refine fldA ?_; refine ld (iv x.n) ((B.ext h2.ext).cell rfl) ?_; refine call_of (c_r01unsigned hI) ?_; rintro _ _ ⟨rfl, rfl⟩; refine call_of (c_r01num (uns_lt hI)) ?_; rintro _ w3 ⟨B3, m3, d3, rfl, hm3, o3⟩; have hml := num_len (uns x.n); refine appF (o2.then o3.ext) o3.src1 (by omega) (fun B4 d4 w4 o4 _ _ => ?_) (h1 := u8s_one _); refine ret1 (.slice B4 (1 + m3) d4) rfl ⟨B4, 1 + m3, d4, rfl, ?_, ?_⟩
    · rw [he]; unfold encI; rw [List.length_cons]; omega
    · rw [he]; exact o4.base h1.ext
  · have hbl := bl_len s; refine fn_rule (args := [.agg #[iv 2, iv 0, .string s, .slice none 0 0]]) Tryz.func170 (by kernel_rfl) ?_; refine box (fun b w1 h1 => ?_); have B : Blk w1 b 113 [iv 2, iv 0, .string s, .slice none 0 0] := h1.blk; have lB := B.lt; refine fldA ?_; refine ld (iv 2) (B.cell rfl) ?_; refine cE (fun h => absurd h (by omega)) (fun _ => ?_); refine cE (fun _ => ?_) (fun h => absurd rfl h); have hml := num_len s.size; refine drawP (.take 1 (.take 2 (.take 3 (.take 4 (.take 7 (.take 8 (.alt 0 (.eff 5 (.eff 6 (.eff 9 (.take 10 .done)))) (.eff 5 (.eff 0 (.eff 6 (.eff 9 (.take 10 .done)))))))))))) [] (fun y => Kept (fun q => q < w1.heap.size) w1 y) mx (by kernel_rfl) (.refl _ _) ?_; refine fldA ?_; refine ldK (.string s) (B.cell rfl) lB (.refl _ _) ?_; refine lenS ?_; refine cv64 s.size rfl ?_; rw [Nat.mod_eq_of_lt (show s.size < 18446744073709551616 by omega)]; refine fldA ?_; refine ldK (.string s) (B.cell rfl) lB (.refl _ _) ?_; refine ⟨?ea, ?eb⟩
    case' ea =>
      refine lit [uv8 2] (fun g2 w2 h2 => ?_); have o2 : OwnF w1 w2 (some (ad g2 0)) 1 1 5 1 [uv8 2] := OwnF.lit (cs := [uv8 2]) (.refl _ _) h2 rfl; refine strS h2.ext.any ?_; refine call_of (c_r01num (u := s.size) (by omega)) ?_; rintro _ w3 ⟨B3, m3, d3, rfl, hm3, o3⟩; refine strS (Ext.any (h2.ext.trans o3.ext)) ?_; have o2 := o2.then o3.ext; have s3 := o3.src1; have x3 := h2.ext.trans o3.ext
    case' eb =>
      refine call_of (c_r01num (u := s.size) (by omega)) ?_; rintro _ w2 ⟨B3, m3, d3, rfl, hm3, o3⟩; refine strS o3.ext.any ?_; refine lit [uv8 2] (fun g2 w3 h2 => ?_); have o2 : OwnF w1 w3 (some (ad g2 0)) 1 1 5 1 [uv8 2] := OwnF.lit (cs := [uv8 2]) o3.ext h2 rfl; refine strS (Ext.any (o3.ext.trans h2.ext)) ?_; have s3 := (o3.then h2.ext).src1; have x3 := o3.ext.trans h2.ext
    all_goals
      refine appF o2 s3 (by omega) (fun B4 d4 w4 o4 _ _ => ?_) (h1 := u8s_one _); refine strS (Ext.any o4.ext) ?_; refine appFS o4 (by omega) (fun B5 d5 w5 o5 _ => ?_); refine strS (Ext.any o5.ext) ?_; refine ret1 (.slice B5 (1 + m3 + s.size) d5) rfl ⟨B5, 1 + m3 + s.size, d5, rfl, ?_, ?_⟩
      · rw [he, List.length_cons, List.length_append]; omega
      · rw [he]
        have e : u8s (2 :: (num s.size ++ bl s)) = ([uv8 2] ++ u8s (num s.size)) ++ u8s (bl s) := by
          show uv8 2 :: u8s (num s.size ++ bl s) = _; rw [u8s_app]; rfl
        rw [e]; exact o5.base h1.ext
  · have hln := hsl.len; rw [he, List.length_cons, List.length_append] at hlx; refine fn_rule (args := [.agg #[iv 3, iv 0, .string emp, .slice A n c]]) Tryz.func170 (by kernel_rfl) ?_; refine box (fun b w1 h1 => ?_); have B : Blk w1 b 113 [iv 3, iv 0, .string emp, .slice A n c] := h1.blk; refine fldA ?_; refine ld (iv 3) (B.cell rfl) ?_; refine cE (fun h => absurd h (by omega)) (fun _ => ?_); refine cE (fun h => absurd h (by omega)) (fun _ => ?_); refine lit [uv8 3] (fun g2 w2 h2 => ?_); have o2 : OwnF w1 w2 (some (ad g2 0)) 1 1 5 1 [uv8 3] := OwnF.lit (cs := [uv8 3]) (.refl _ _) h2 rfl; refine fldA ?_; refine ld (.slice A n c) ((B.ext h2.ext).cell rfl) ?_; refine len ?_; refine cv64 n rfl ?_; rw [Nat.mod_eq_of_lt (show n < 18446744073709551616 by omega)]; refine call_of (c_r01num (u := n) (by omega)) ?_; rintro _ w3 ⟨B3, m3, d3, rfl, hm3, o3⟩; have hml := num_len n; refine appF (o2.then o3.ext) o3.src1 (by omega) (fun B4 d4 w4 o4 _ _ => ?_) (h1 := u8s_one _); refine loop4 (fun (k : Nat) (E : Option Addr) (q e : Nat) => [(4, iv (k : Int)), (3, .slice E q e)]) (fun k E q e u => k ≤ n ∧ q = 1 + m3 + ((xs.take k).flatMap VX.e).length ∧ OwnF w1 u E q e 5 1 (u8s (3 :: (num n ++ (xs.take k).flatMap VX.e)))) (fun k _ _ _ _ => n - k) 0 B4 (1 + m3) d4 ⟨rfl, rfl, trivial⟩ ⟨by omega, rfl, ?_⟩ rfl ?_
    · rw [List.take_zero]
      have e : u8s (3 :: (num n ++ [].flatMap VX.e)) = [uv8 3] ++ u8s (num n) := by simp
      rw [e]; exact o4
    rintro G k E q e u ⟨hkn, hq, own⟩; have own : OwnF w1 u E q e 5 1 (u8s (3 :: (num n ++ (xs.take k).flatMap VX.e))) := own; have hq : q = 1 + m3 + ((xs.take k).flatMap VX.e).length := hq; have Bu := B.ext own.ext; have htk := flat_takeX (xs := xs) k; refine fldA ?_; refine ld (.slice A n c) (Bu.cell rfl) ?_; refine len ?_; refine cD (fun hlt => ?_) (fun hge => ?_)
    · obtain ⟨bx, o, cy, y, rfl, hy, -, -, hcy, hrep⟩ := ((hsl.ext h1.ext).ext own.ext).at_ (k := k) (by omega); rw [tVX_sz] at hcy; refine fldA ?_; refine ld (.slice (some (ad bx o)) n c) (Bu.cell rfl) ?_; refine idx k rfl (by omega) ?_; refine ldA cy hcy (((tVX g).len hrep).trans (tVX_sz g)) ?_; have hyl := flat_leX (List.mem_of_getElem? hy); refine call_of (ih g (by omega) hrep (by omega)) ?_; rintro _ u2 ⟨B5, m5, d5, rfl, hm5, o5⟩; have htk1 := flat_takeX (xs := xs) (k + 1); rw [flat_snocX hy, List.length_append] at htk1; refine appF (own.then o5.ext) o5.src1 (by omega) (fun B6 d6 u6 o6 _ _ => ?_) (h1 := u8s_one _); refine arI (n := (k : Int) + 1) (by omega) ?_; refine next4 (k + 1) B6 (q + m5) d6 ⟨by rw [Int.natCast_add]; rfl, rfl, trivial⟩ ⟨by omega, ?_, ?_⟩ (by omega)
      · rw [flat_snocX hy, List.length_append]; omega
      · rw [flat_snocX hy]
        have e : u8s (3 :: (num n ++ ((xs.take k).flatMap VX.e ++ y.e))) = u8s (3 :: (num n ++ (xs.take k).flatMap VX.e)) ++ u8s y.e := by
          rw [← u8s_app, List.cons_append, List.append_assoc]
        rw [e]; exact o6
    · have hkn' : k = n := by omega
      subst hkn'; rw [List.take_of_length_le (by omega)] at own hq; refine ret1 (.slice E q e) rfl ⟨E, q, e, rfl, ?_, ?_⟩
      · rw [he, List.length_cons, List.length_append]; omega
      · rw [he]; exact own.base h1.ext
end
end Go.Proofs.YtehcphboliofaaaGreatDoor
