/- Parts of the proof: Nq Nr Ns Nt Nu Nv. -/
import Derived.Test.YtehcphboliofaaaGreatDoorPT14
import Derived.Test.YtehcphboliofaaaGreatDoorPT13
import Derived.Test.YtehcphboliofaaaGreatDoorPT7
import Derived.Test.YtehcphboliofaaaGreatDoorPT11
import Derived.Test.YtehcphboliofaaaGreatDoorPT8
namespace Go.Proofs.YtehcphboliofaaaGreatDoor
open Go Go.RowKit
section
variable {D : Nat → Prop} {w : World}
theorem c_mrows1 {lb p n c : Nat} {A : Option Addr} {ls : List (List Nat)} (K : World → Prop) (G : List (List Nat) → World → Prop) (hN : NumW w) (hgN : D 0 ∧ D 1) (hp : Blk w p 41 [.slice A n c]) (_hDp : D p) (hs : SlR (tSl tU8) D w A n ls) (hn : n ≤ 50000) (h0 : 0 < n) (hsm : ∀ b ∈ ls, 0 < b.length ∧ b.length ≤ 1000000)
    (hDn : ∀ b, w.heap.size ≤ b → D b) (hK : ∀ u u', K u → Ext u u' → K u')
    (hstep : ∀ row E m e u, Row row → 0 < m → m ≤ e → SlR tDg D u E m row → K u → w.heap.size ≤ u.heap.size → YieldP Tryz.prog lb [.slice E m e].toArray (fun v u' => v = .bool true ∧ K u' ∧ G row u' ∧ Kept D u u') u) (h0K : K w) :
    CallZ Tryz.prog 136 #[.func (.yield lb) #[] #[], ptr p] w (fun _ w' => K w' ∧ Kept D w w' ∧ ∃ row, G row w' ∧ rootL ls = row.headD []) := by
  have hl := hs.len; refine fn_rule (args := [.func (.yield lb) #[] #[], ptr p]) Tryz.func136 (by kernel_rfl) ?_; refine ld (.slice A n c) (hp.cell rfl) ?_; refine len ?_; refine loop4 (fun (k : Nat) (B : Option Addr) (m d : Nat) => [(8, iv (k : Int)), (3, .slice B m d)]) (fun k B m d u => k ≤ n ∧ m = k ∧ RowF w u B m d ((ls.take k).map leafB)) (fun k _ _ _ _ => n - k) 0 none 0 0 ⟨rfl, rfl, trivial⟩ ⟨by omega, rfl, OwnF.nil (.refl _ _), fun x hx => by cases hx⟩ rfl ?_; rintro G1 k B m d u ⟨hk, hm, own⟩; have hm : m = k := hm; subst hm; have own : RowF w u B m d ((ls.take m).map leafB) := own; have xu := own.1.ext; refine cD (fun hlt => ?_) (fun hge => ?_)
  · obtain ⟨bx, o, cs, x, rfl, hx, -, -, hc, A2, n2, c2, rfl, hs2, hc2⟩ := (hs.ext xu).at_ (k := m) (by omega); obtain ⟨hx0, hx1⟩ := hsm x (List.mem_of_getElem? hx); refine idx m rfl (by omega) ?_; refine ld (.slice A2 n2 c2) (hc 0 _ rfl) ?_; refine call_of (c_mleaf (hN.ext xu) hs2 hc2 hx0 hx1) ?_; rintro _ u2 ⟨rfl, x2⟩; have hnl : (leafB x).length = 32 := shaB_len _; refine litD hnl (by rfl) (fun g5 u3 h5 => ?_); refine appD (⟨own.1.then x2, own.2⟩ : RowF w u2 B m d ((ls.take m).map leafB)) hnl (shaB_lt _) h5 (by omega) (by rfl) (fun A' c' u4 o4 k4 => ?_); refine arI (n := (m : Int) + 1) (by omega) ?_; refine next4 (m + 1) A' (m + 1) c' ⟨by rw [Int.natCast_add]; rfl, rfl, trivial⟩ ⟨by omega, rfl, ?_⟩ (by omega); rw [List.take_add_one, hx, List.map_append]; exact o4
  have hmn : m = n := by omega
  subst hmn; rw [List.take_of_length_le (by omega)] at own
  have hnn : ¬ ls = [] := fun e => by rw [e] at hl; have : (0 : Nat) = m := hl; omega
  have hR : rootL ls = rootF m (ls.map leafB) := by unfold rootL; rw [if_neg hnn, hl]
  obtain ⟨R, hRe⟩ : ∃ R, R = rootF m (ls.map leafB) := ⟨_, rfl⟩; rw [← hRe] at hR; rw [hR]; refine loop4 (fun (f : Nat) (B : Option Addr) (q d : Nat) => [(3, .slice B q d)]) (fun f B q d y => K y ∧ Kept D w y ∧ q ≤ d ∧ 0 < q ∧ q ≤ f + 1 ∧ f ≤ m ∧ ∃ row, rootF f row = R ∧ SlR tDg D y B q row ∧ Row row) (fun f _ _ _ _ => f) m B m d ⟨rfl, trivial⟩ ⟨hK _ _ h0K xu, xu.any, own.1.le, h0, by omega, Nat.le_refl _, ls.map leafB, hRe.symm, own.rd (by omega) fun b hb => hDn b hb, own.2⟩ rfl ?_; rintro G2 f B q d y ⟨ky, kwy, hqd, hq0, hqf, hfm, row, hrow, sr, hrw⟩; have hqd : q ≤ d := hqd; have hq0 : 0 < q := hq0; have hqf : q ≤ f + 1 := hqf; have sr : SlR tDg D y B q row := sr; have hlr := sr.len; refine yield_of (hstep row B q d y hrw hq0 hqd sr ky kwy.size) ?_; rintro _ y2 ⟨rfl, ky2, g2, k2⟩; have kw2 := kwy.trans k2; have sr2 := sr.kept k2 fun b _ h => h; refine len ?_; refine cD (fun hlt => ?_) (fun hge => ?_)
  · have hlt : 1 < q := by
      have h : ((q : Nat) : Int) > 1 := hlt; omega
    obtain ⟨f, rfl⟩ : ∃ g, f = g + 1 := ⟨f - 1, by omega⟩; refine call_of (c_mup (hN.kept kw2 hgN.1 hgN.2) sr2 hqd (by omega)) ?_; rintro _ y3 ⟨B3, m3, d3, rfl, o3⟩; have hm3 := o3.len; rw [upL_len] at hm3; have s2 := kw2.size; refine next4 f B3 m3 d3 ⟨rfl, trivial⟩ ⟨hK _ _ ky2 o3.1.ext, kw2.trans o3.1.ext.any, o3.1.le, by omega, by omega, by omega, upL row, ?_, o3.rd (by omega) fun b hb => hDn b (by omega), o3.2⟩ (by omega); rw [← hrow, rootF_step (by omega)]
  · have hge : q ≤ 1 := by
      have h : ¬ ((q : Nat) : Int) > 1 := hge; omega
    refine ret0 ⟨ky2, kw2, row, g2, ?_⟩; rw [← hrow, rootF_one (by omega)]
set_option maxRecDepth 4000 in
theorem c_mRoot {A : Option Addr} {n c : Nat} {ls : List (List Nat)} (hN : NumW w) (hs : SlR (tSl tU8) D w A n ls) (hn : n ≤ 50000) (hsm : ∀ b ∈ ls, 0 < b.length ∧ b.length ≤ 1000000) : CallZ Tryz.prog 40 #[.slice A n c] w (fun v w' => v = .agg (u8s (rootL ls)).toArray ∧ Ext w w') := by
  have hs := hs.more (D' := fun b => b < w.heap.size) (by decide) fun b hb _ => hb; have hl := hs.len; rcases Nat.eq_zero_or_pos n with h0 | h0
  · subst h0; have hnil : ls = [] := List.eq_nil_of_length_eq_zero hl
    have eR : rootL ls = tagB (bl noneT) [] := by unfold rootL; rw [if_pos hnil]
    rw [eR]; exact c_mRoot0 hN
  have hNl := hN.lt; refine fn_rule (args := [.slice A n c]) Tryz.func40 (by kernel_rfl) ?_; refine alloc (fun b2 w1 h1 => ?_); have R1 : Blk w1 b2 47 (List.replicate 32 (uv8 0)) := h1.blk; have e1 := h1.at_; refine len ?_; refine cE (fun h => absurd h (by omega)) (fun _ => ?_); refine call_of c_mrows ?_; rintro _ w5 ⟨p, rfl, x5, Bp, hp⟩; have R5 := R1.ext x5; have lR := R5.lt; have lp := Bp.lt; have x05 := h1.ext.trans x5; have s05 := x05.size; have s1 := h1.ext.size; have lR1 := R1.lt; refine range (gf := 136) (lb := #[ptr p]) rfl (fun fn tmps w6 R hRR hF hwf x6 z6 hD6 hl6 => ?_); show CallZ _ _ #[.func (.yield (w5.heap.size + 1)) #[] #[], ptr p] w6 _; have x06 := x05.trans x6; have s6 := x6.size; have hs6 : SlR (tSl tU8) (fun b => b ≠ b2 ∧ b ≠ w5.heap.size + 1) w6 A n ls := (hs.ext x06).more (by decide) fun b _ h => ⟨by omega, by omega⟩; refine (c_mrows1 (D := fun b => b ≠ b2 ∧ b ≠ w5.heap.size + 1) (fun u => LoopAt u (w5.heap.size + 1) R ∧ Kept (fun b => b ≠ b2 ∧ b ≠ w5.heap.size + 1) w6 u ∧ ∃ z, Blk u b2 47 (u8s z) ∧ z.length = 32) (fun row u => ∃ x, row.headD [] = x ∧ x.length = 32 ∧ Blk u b2 47 (u8s x)) (hN.ext x06) ⟨⟨by omega, by omega⟩, by omega, by omega⟩ (Bp.ext x6) ⟨by omega, by omega⟩ hs6 hn h0 hsm (fun b hb => ⟨by omega, by omega⟩) ?_ ?_ ⟨hl6, .refl _ _, List.replicate 32 0, R5.ext x6, rfl⟩).mono ?_
  · rintro u u' ⟨l1, k1, z, B1, hz⟩ x; exact ⟨l1.kept x trivial, k1.trans x.any, z, B1.ext x, hz⟩
  · rintro row E m e u hrw hm0 hme sr ⟨ly, ky, z, Bz, hz⟩ hsz; subst hRR; obtain ⟨bx, o, x, hE, hx, -, hDx, hcx, hxl, hx2⟩ := sr.dig (k := 0) (by omega); subst hE
    have hxh : row.headD [] = x := by
      cases row with
      | nil => simp at hx
      | cons y r => simp at hx; subst hx; rfl
    refine yield_rule (args := [.slice (some (ad bx o)) m e]) ly rfl rfl hF hwf ?_; refine mid' ly (fun u3 k3 _ l3 => ?_); have B3 := Bz.kept k3 (by omega); have hc3 : CellsAt u3 bx (o + 0 * 32) (u8s x) := CellsAt.kept hcx k3 hDx.2
    have hxl2 : (u8s x).length = 32 := by rw [List.length_map]; exact hxl
    have hzl2 : (u8s z).length = 32 := by rw [List.length_map]; exact hz
    refine idx 0 rfl (by omega) ?_; refine ldA (u8s x) hc3 hxl2 ?_; refine stA (vs := u8s x) B3 hxl2 (by rw [hxl2, hzl2]; exact Nat.le_refl _) (fun v hv => List.all_eq_true.1 (u8s_one _) v hv) (fun u4 B4 k4 _ => ?_)
    have B4 : Blk u4 b2 47 (u8s x) := by
      rw [List.take_zero, List.nil_append, List.drop_of_length_le (by rw [hxl2, hzl2]; exact Nat.le_refl _), List.append_nil] at B4; exact B4
    refine roundN' _ (l3.kept k4 (by omega)) (fun u5 k5 l5 => ?_); have kk : Kept (fun b => b ≠ b2 ∧ b ≠ w5.heap.size + 1) u u5 := ((k3.weak fun _ _ h => h.2).trans (k4.weak fun _ _ h => h.1)).trans (k5.weak fun _ _ h => h.2); have B5 := B4.kept k5 (by omega); exact ⟨rfl, ⟨l5, ky.trans kk, x, B5, hxl⟩, ⟨x, hxh, hxl, B5⟩, kk⟩
  · rintro _ y ⟨⟨ly, ky, -⟩, -, row, ⟨x, hxh, hxl, Bx⟩, hroot⟩; subst hRR
    have hxl2 : (u8s x).length = 32 := by rw [List.length_map]; exact hxl
    refine range_end _ ly (by simp) (fun y1 k1 => ?_); have B1 := Bx.kept k1 (by omega); refine ldA (u8s x) (.blk B1) hxl2 ?_; refine stA (vs := u8s x) B1 hxl2 (by rw [hxl2]; exact Nat.le_refl _) (fun v hv => List.all_eq_true.1 (u8s_one _) v hv) (fun y2 B2 k2 _ => ?_)
    have B2 : Blk y2 b2 47 (u8s x) := by
      rw [List.take_zero, List.nil_append, List.drop_of_length_le (by rw [hxl2]; exact Nat.le_refl _), List.append_nil] at B2; exact B2
    have k62 : Kept (fun b => b ≠ b2 ∧ b ≠ w5.heap.size + 1) w6 y2 := (ky.trans (k1.weak fun _ _ h => h.2)).trans (k2.weak fun _ _ h => h.1); have hD7 : y2.heap[w5.heap.size]? = some (.deferred (some [])) := (k62.blk _ (by omega) ⟨by omega, by omega⟩).trans hD6; refine retM hD7 ?_; have k8 := Kept.putObj y2 w5.heap.size (.deferred none); refine resL (.agg (u8s x).toArray) (holds_agg (.blk (B2.kept k8 (by omega))) hxl2) ?_; exact ⟨by rw [hroot, hxh]; rfl, ((x06.then k62 fun b hb _ => ⟨by omega, by omega⟩).then k8 fun b hb _ => by omega)⟩
theorem txt_lens {l : List Post} (p : List Nat) (h : p ∈ l.map txt) : 0 < p.length ∧ p.length ≤ 1000000 := by
  obtain ⟨q, -, rfl⟩ := List.mem_map.1 h; have := txt_len q; omega
noncomputable def rootP (l : List Post) : List Nat × Int := if ldgErr l = 0 then (rootL (l.map txt), 0) else (List.replicate 32 0, ldgErr l)
end
section
variable {w : World}
set_option maxRecDepth 4000 in
theorem c_r01Formed : ∀ (f : Nat) {D : Nat → Prop} {w : World} {cs : List Value} {x : VX}, (tVX f).rep D w cs x → CallZ Tryz.prog 218 #[.agg cs.toArray] w (fun v w' => v = .bool true ∧ Ext w w') := by
  intro f
  induction f using Nat.strongRecOn with
  | _ f ih =>
  intro D w cs x hx; rcases tVX_ex hx with (⟨rfl, hk, hI, hl, he⟩ | ⟨s, hs, rfl, hk, h0, hl, he⟩) | ⟨g, A, n, c, xs, rfl, rfl, hk, h0, hsl, hc, hn9, hl, he⟩
  · refine fn_rule (args := [.agg #[iv 1, iv x.n, .string emp, .slice none 0 0]]) Tryz.func218 (by kernel_rfl) ?_; refine box (fun b w1 h1 => ?_); have B : Blk w1 b 113 [iv 1, iv x.n, .string emp, .slice none 0 0] := h1.blk; refine fldA ?_; refine ld (iv 1) (B.cell rfl) ?_; refine cE (fun _ => ?_) (fun h => absurd rfl h); refine fldA ?_; refine ld (.string emp) (B.cell rfl) ?_; refine eqStr (fun _ => ?_) (fun h => absurd rfl h); refine fldA ?_; refine ld (.slice none 0 0) (B.cell rfl) ?_; refine len ?_; refine cE (fun _ => ?_) (fun h => absurd rfl h); exact ret1 (.bool true) rfl ⟨rfl, h1.ext⟩
  · refine fn_rule (args := [.agg #[iv 2, iv 0, .string s, .slice none 0 0]]) Tryz.func218 (by kernel_rfl) ?_; refine box (fun b w1 h1 => ?_); have B : Blk w1 b 113 [iv 2, iv 0, .string s, .slice none 0 0] := h1.blk; refine fldA ?_; refine ld (iv 2) (B.cell rfl) ?_; refine cE (fun h => absurd h (by omega)) (fun _ => ?_); refine cE (fun _ => ?_) (fun h => absurd rfl h); refine fldA ?_; refine ld (iv 0) (B.cell rfl) ?_; refine cE (fun _ => ?_) (fun h => absurd rfl h); refine fldA ?_; refine ld (.slice none 0 0) (B.cell rfl) ?_; refine len ?_; refine cE (fun _ => ?_) (fun h => absurd rfl h); exact ret1 (.bool true) rfl ⟨rfl, h1.ext⟩
  · refine fn_rule (args := [.agg #[iv 3, iv 0, .string emp, .slice A n c]]) Tryz.func218 (by kernel_rfl) ?_; refine box (fun b w1 h1 => ?_); have B : Blk w1 b 113 [iv 3, iv 0, .string emp, .slice A n c] := h1.blk; refine fldA ?_; refine ld (iv 3) (B.cell rfl) ?_; refine cE (fun h => absurd h (by omega)) (fun _ => ?_); refine cE (fun h => absurd h (by omega)) (fun _ => ?_); refine cE (fun _ => ?_) (fun h => absurd rfl h); refine loop_rule (fun k : Nat => [(3, iv (k : Int))]) (fun k u => k ≤ n ∧ Ext w1 u) (fun k _ => n - k) 0 ⟨rfl, trivial⟩ ⟨by omega, .refl _ _⟩ rfl ?_; rintro G k u ⟨hkn, xu⟩; have Bu := B.ext xu; refine fldA ?_; refine ld (.slice A n c) (Bu.cell rfl) ?_; refine len ?_; refine cD (fun hlt => ?_) (fun hge => ?_)
    · obtain ⟨bx, o, cy, y, rfl, hy, -, -, hcy, hrep⟩ := ((hsl.ext h1.ext).ext xu).at_ (k := k) (by omega); rw [tVX_sz] at hcy; refine fldA ?_; refine ld (.slice (some (ad bx o)) n c) (Bu.cell rfl) ?_; refine idx k rfl (by omega) ?_; refine ldA cy hcy (((tVX g).len hrep).trans (tVX_sz g)) ?_; refine call_of (ih g (by omega) hrep) ?_; rintro _ u2 ⟨rfl, x2⟩; refine arI (n := (k : Int) + 1) (by omega) ?_; exact next (k + 1) ⟨by rw [Int.natCast_add]; rfl, trivial⟩ ⟨by omega, xu.trans x2⟩ (by omega)
    · refine fldA ?_; refine ld (iv 0) (Bu.cell rfl) ?_; refine cE (fun _ => ?_) (fun h => absurd rfl h); refine fldA ?_; refine ld (.string emp) (Bu.cell rfl) ?_; refine eqStr (fun _ => ?_) (fun h => absurd rfl h); exact ret1 (.bool true) rfl ⟨rfl, h1.ext.trans xu⟩
set_option maxRecDepth 4000 in
theorem c_r01Depth : ∀ (f : Nat) {D : Nat → Prop} {w : World} {cs : List Value} {x : VX}, f ≤ 1000 → (tVX f).rep D w cs x → CallZ Tryz.prog 219 #[.agg cs.toArray] w (fun v w' => ∃ n : Int, v = iv n ∧ 0 ≤ n ∧ n ≤ f ∧ Ext w w') := by
  intro f
  induction f using Nat.strongRecOn with
  | _ f ih =>
  intro D w cs x hf hx; rcases tVX_ex hx with (⟨rfl, hk, hI, hl, he⟩ | ⟨s, hs, rfl, hk, h0, hl, he⟩) | ⟨g, A, n, c, xs, rfl, rfl, hk, h0, hsl, hc, hn9, hl, he⟩
  · refine fn_rule (args := [.agg #[iv 1, iv x.n, .string emp, .slice none 0 0]]) Tryz.func219 (by kernel_rfl) ?_; refine box (fun b w1 h1 => ?_); have B : Blk w1 b 113 [iv 1, iv x.n, .string emp, .slice none 0 0] := h1.blk; refine fldA ?_; refine ld (iv 1) (B.cell rfl) ?_; refine cN (fun _ => ?_) (fun h => absurd h (by omega)); exact ret1 (iv 0) rfl ⟨0, rfl, by omega, by omega, h1.ext⟩
  · refine fn_rule (args := [.agg #[iv 2, iv 0, .string s, .slice none 0 0]]) Tryz.func219 (by kernel_rfl) ?_; refine box (fun b w1 h1 => ?_); have B : Blk w1 b 113 [iv 2, iv 0, .string s, .slice none 0 0] := h1.blk; refine fldA ?_; refine ld (iv 2) (B.cell rfl) ?_; refine cN (fun _ => ?_) (fun h => absurd h (by omega)); exact ret1 (iv 0) rfl ⟨0, rfl, by omega, by omega, h1.ext⟩
  · refine fn_rule (args := [.agg #[iv 3, iv 0, .string emp, .slice A n c]]) Tryz.func219 (by kernel_rfl) ?_; refine box (fun b w1 h1 => ?_); have B : Blk w1 b 113 [iv 3, iv 0, .string emp, .slice A n c] := h1.blk; refine fldA ?_; refine ld (iv 3) (B.cell rfl) ?_; refine cN (fun h => absurd rfl h) (fun _ => ?_); refine loop_rule (fun p : Nat × Int => [(4, iv (p.1 : Int)), (3, iv p.2)]) (fun p u => p.1 ≤ n ∧ 0 ≤ p.2 ∧ p.2 ≤ g ∧ Ext w1 u) (fun p _ => n - p.1) (0, 0) ⟨rfl, rfl, trivial⟩ ⟨Nat.zero_le _, by show (0 : Int) ≤ 0; omega, by show (0 : Int) ≤ g; omega, .refl _ _⟩ rfl ?_; rintro G ⟨k, m⟩ u ⟨hkn, hm0, hm1, xu⟩; have hkn : k ≤ n := hkn; have hm0 : 0 ≤ m := hm0; have hm1 : m ≤ g := hm1; have Bu := B.ext xu; refine fldA ?_; refine ld (.slice A n c) (Bu.cell rfl) ?_; refine len ?_; refine cD (fun hlt => ?_) (fun hge => ?_)
    · have hlt : k < n := by have h : ((k : Nat) : Int) < (n : Int) := hlt; omega
      obtain ⟨bx, o, cy, y, rfl, hy, -, -, hcy, hrep⟩ := ((hsl.ext h1.ext).ext xu).at_ (k := k) hlt; rw [tVX_sz] at hcy; refine fldA ?_; refine ld (.slice (some (ad bx o)) n c) (Bu.cell rfl) ?_; refine idx k rfl hlt ?_; refine ldA cy hcy (((tVX g).len hrep).trans (tVX_sz g)) ?_; refine call_of (ih g (by omega) (by omega) hrep) ?_; rintro _ u2 ⟨q, rfl, hq0, hq1, x2⟩; refine arI (n := (k : Int) + 1) (by omega) ?_; refine next (k + 1, max m q) ⟨by show iv ((k : Int) + 1) = iv ((k + 1 : Nat) : Int); rw [Int.natCast_add]; rfl, rfl, trivial⟩ ⟨by show k + 1 ≤ n; omega, by show 0 ≤ max m q; omega, by show max m q ≤ (g : Int); omega, xu.trans x2⟩ (by show n - (k + 1) < n - k; omega)
    · refine arI (n := m + 1) (by omega) ?_; exact ret1 (iv (m + 1)) rfl ⟨m + 1, rfl, by omega, by omega, h1.ext.trans xu⟩
theorem c_r01Check {f : Nat} {D : Nat → Prop} {cs : List Value} {x : VX} (hf : f ≤ 16) (hx : (tVX f).rep D w cs x) : CallZ Tryz.prog 169 #[.agg cs.toArray] w (fun v w' => v = iv 0 ∧ Ext w w') := by
  have hl : cs.length = 4 := ((tVX f).len hx).trans (tVX_sz f); refine fn_rule (args := [.agg cs.toArray]) Tryz.func169 (by kernel_rfl) ?_; refine box (fun b w1 h1 => ?_); have B : Blk w1 b 113 cs := h1.blk; refine ldA cs (.blk B) hl ?_; refine call_of (c_r01Formed f ((tVX f).ext hx h1.ext)) ?_; rintro _ w2 ⟨rfl, x2⟩; refine ldA cs (.blk (B.ext x2)) hl ?_; refine call_of (c_r01Depth f (by omega) ((tVX f).ext hx (h1.ext.trans x2))) ?_; rintro _ w3 ⟨n, rfl, h0, h1', x3⟩; refine cD (fun h => absurd h (by omega)) (fun _ => ?_); exact ret1 (iv 0) rfl ⟨rfl, (h1.ext.trans x2).trans x3⟩
theorem c_r01Encode {f : Nat} {D : Nat → Prop} {cs : List Value} {x : VX} (hf : f ≤ 16) (hx : (tVX f).rep D w cs x) (he : x.e.length ≤ 1000000000) : CallZ Tryz.prog 153 #[.agg cs.toArray] w (fun v w' => ∃ B m d, v = .tuple #[.slice B m d, iv 0] ∧ m = x.e.length ∧ OwnF w w' B m d 5 1 (u8s x.e)) := by
  have hl : cs.length = 4 := ((tVX f).len hx).trans (tVX_sz f); refine fn_rule (args := [.agg cs.toArray]) Tryz.func153 (by kernel_rfl) ?_; refine box (fun b w1 h1 => ?_); have B : Blk w1 b 113 cs := h1.blk; refine ldA cs (.blk B) hl ?_; refine call_of (c_r01Check hf ((tVX f).ext hx h1.ext)) ?_; rintro _ w2 ⟨rfl, x2⟩; refine cN (fun h => absurd rfl h) (fun _ => ?_); refine ldA cs (.blk (B.ext x2)) hl ?_; refine call_of (c_r01encode f ((tVX f).ext hx (h1.ext.trans x2)) he) ?_; rintro _ w3 ⟨E, m, d, rfl, hm, own⟩; exact ret2 (.slice E m d) (iv 0) rfl rfl ⟨E, m, d, rfl, hm, own.base (h1.ext.trans x2)⟩
theorem c_r01Int {n : Int} : CallZ Tryz.prog 212 #[iv n] w (fun v w' => v = .agg #[iv 1, iv n, .string emp, .slice none 0 0] ∧ Ext w w') := by
  refine fn_rule (args := [iv n]) Tryz.func212 (by kernel_rfl) ?_; refine alloc (fun b w1 h1 => ?_); have e1 := h1.at_; refine bld (intC n) (by kernel_rfl) ?_; refine stA (vs := intC n) h1.blk rfl (Nat.le_of_ble_eq_true rfl) (by simp [Value.oneCell']) (fun we Be ke _ => ?_); have Be : Blk we b 113 (intC n) := Be; refine ret ?_; refine resL (.agg (intC n).toArray) (holds_agg (.blk Be) rfl) ?_; exact ⟨rfl, h1.ext.then ke fun i hi _ e => by omega⟩
def intX (n : Int) : VX := ⟨1, n, [], encI n⟩
theorem flat_intX {D : Nat → Prop} {w : World} : ∀ {ns : List Int}, (∀ n ∈ ns, I64 n) → FlatR (tVX 0) D w (ns.map intX) (ns.flatMap intC)
  | [], _ => rfl
  | n :: ns, h => ⟨intC n, ns.flatMap intC, rfl, tVX_leaf (.inl ⟨rfl, rfl, h n List.mem_cons_self, rfl, rfl⟩), flat_intX fun m hm => h m (List.mem_cons_of_mem _ hm)⟩
theorem encIs_X (ns : List Int) : encIs ns = 3 :: (num ns.length ++ (ns.map intX).flatMap VX.e) := by
  unfold encIs; rw [List.flatMap_map]
  rfl
def intsX (ns : List Int) : VX := ⟨3, 0, (ns.map intX).map kn, encIs ns⟩
set_option maxRecDepth 4000 in
theorem c_r01Ints {D : Nat → Prop} {A : Option Addr} {n c : Nat} {ns : List Int} (hs : SlR tInt D w A n ns) (hn : n ≤ 1000) (hI : ∀ x ∈ ns, I64 x) : CallZ Tryz.prog 154 #[.slice A n c] w (fun v w' => ∃ cs, v = .agg cs.toArray ∧ (tVX 1).rep (fun b => w.heap.size ≤ b) w' cs (intsX ns) ∧ Ext w w') := by
  have hs := hs.more (D' := fun b => b < w.heap.size) (by decide) fun b hb _ => hb; have hl := hs.len; refine fn_rule (args := [.slice A n c]) Tryz.func154 (by kernel_rfl) ?_; refine alloc (fun b2 w1 h1 => ?_); have R1 := h1.blk; have e1 := h1.at_; refine bld [iv 3, iv 0, .string emp, .slice none 0 0] (by kernel_rfl) ?_; refine alloc (fun b3 w2 h2 => ?_); refine stA (vs := [iv 3, iv 0, .string emp, .slice none 0 0]) h2.blk rfl (Nat.le_of_ble_eq_true rfl) (by simp [Value.oneCell']) (fun w3 B3 k3 _ => ?_); have B3 : Blk w3 b3 113 [iv 3, iv 0, .string emp, .slice none 0 0] := B3; have e2 := h2.at_
  have x13 : Ext w1 w3 := h2.ext.then k3 fun i hi _ e => by omega
  have x03 := h1.ext.trans x13; have lB3 := B3.lt; have s1 := h1.ext.size; have s13 := x13.size; refine loop4 (fun (k : Nat) (B : Option Addr) (m d : Nat) => [(4, iv (k : Int))]) (fun k B m d u => k ≤ n ∧ m = k ∧ Blk u b3 113 [iv 3, iv 0, .string emp, .slice B m d] ∧ OwnF w1 u B m d 113 4 ((ns.take k).flatMap intC) ∧ Kept (fun b => b ≠ b3) w3 u ∧ (∀ b, B = some (ad b 0) → w3.heap.size ≤ b)) (fun k _ _ _ _ => n - k) 0 none 0 0 ⟨rfl, trivial⟩ ⟨by omega, rfl, B3, OwnF.nil x13, .refl _ _, fun b h => by cases h⟩ rfl ?_; rintro G k B m d u ⟨hk, hm, Bu, own, ku, hB⟩; have hm : m = k := hm; subst hm; have Bu : Blk u b3 113 [iv 3, iv 0, .string emp, .slice B m d] := Bu; have own : OwnF w1 u B m d 113 4 ((ns.take m).flatMap intC) := own; have hB : ∀ b, B = some (ad b 0) → w3.heap.size ≤ b := hB
  have hsu : SlR tInt (fun b => b < w.heap.size) u A n ns := (hs.ext x03).kept ku fun b _ hb => by omega
  refine len ?_; refine cD (fun hlt => ?_) (fun hge => ?_)
  · obtain ⟨bx, o, cs, x, rfl, hx, -, hDx, hcx, hcs⟩ := hsu.at_ (k := m) (by omega); obtain ⟨rfl, hI64⟩ := hcs
    have n3 : B ≠ some (ad b3 0) := fun e => by have := hB _ e; omega
    have nx : B ≠ some (ad bx 0) := fun e => by have := hB _ e; omega
    refine drawP (.take 0 (.take 1 (.take 2 (.take 3 (.take 4 (.take 5 (.eff 6 (.eff 7 (.eff 8 (.take 9 (.bar (.eff 10 .done)))))))))))) [10] (fun y => Kept (fun q => B ≠ some (ad q 0)) u y) mx (by kernel_rfl) (.refl _ _) ?_; refine fldA ?_; refine ldK (.slice B m d) (Bu.cell rfl) n3 (.refl _ _) ?_; refine idx m rfl (by omega) ?_; refine ldK (iv x) (hcx 0 _ rfl) nx (.refl _ _) ?_; refine call_of c_r01Int ?_; rintro _ u1 ⟨rfl, x1⟩; refine strS x1.any ?_; refine lit [.agg (intC x).toArray] (fun g5 u2 h5 => ?_); have B5 : Blk u2 g5 113 (intC x) := h5.blk; have x12 := x1.trans h5.ext; refine strS (Ext.any x12) ?_; refine appF (own.then x12) (⟨rfl, fun _ => ⟨g5, 0, rfl, .blk B5⟩⟩ : Src u2 (some (ad g5 0)) 1 4 (intC x)) (by omega) (fun A' d' u3 o3 k3 hA' => ?_); have k03 := (Ext.any (D := fun q => B ≠ some (ad q 0)) x12).trans k3; have s2 := x12.size; have su := ku.size
    have hA3 : ∀ b, A' = some (ad b 0) → w3.heap.size ≤ b := fun b e => by
      rcases hA' with q | q | q
      · exact hB b (q.symm.trans e)
      · rw [q] at e; cases e
      · rw [q] at e; injection e with e; injection e with e; omega
    refine strS k03 ?_; refine fldA ?_; refine barS (fun _ => True) trivial ?_; refine st (Bu.kept k03 n3) (Nat.le_of_ble_eq_true rfl) rfl (fun u4 B4 k4 _ => ?_); have B4 : Blk u4 b3 113 [iv 3, iv 0, .string emp, .slice A' (m + 1) d'] := B4; refine strS trivial ?_; refine arI (n := (m : Int) + 1) (by omega) ?_; refine next4 (m + 1) A' (m + 1) d' ⟨by rw [Int.natCast_add]; rfl, trivial⟩ ⟨by omega, rfl, B4, ?_, (ku.then k03 fun i hi _ e => by have := hB i e; omega).trans k4, hA3⟩ (by omega); rw [List.take_add_one, hx, List.flatMap_append]; refine OwnF.thenK (by simpa using o3) k4 (fun q e => by have := hA3 q e; omega) (o3.ext.then k4 fun i hi _ e => by omega)
  · have hm : m = n := by omega
    subst hm; rw [List.take_of_length_le (by omega)] at own; refine ldA [iv 3, iv 0, .string emp, .slice B m d] (.blk Bu) rfl ?_; have su := ku.size; refine stA (vs := [iv 3, iv 0, .string emp, .slice B m d]) (R1.ext own.ext) rfl (Nat.le_of_ble_eq_true rfl) (by simp [Value.oneCell']) (fun we Be ke _ => ?_); have Be : Blk we b2 113 [iv 3, iv 0, .string emp, .slice B m d] := Be; refine ret ?_; refine resL (.agg #[iv 3, iv 0, .string emp, .slice B m d]) (holds_agg (.blk Be) rfl) ?_; have lR1 := R1.lt; have sl : SlR (tVX 0) (fun b => w3.heap.size ≤ b) u B m (ns.map intX) := own.own.rd (a := tVX 0) (flat_intX hI) (by rw [List.length_map]; omega) (by omega) hB
    have sl := sl.kept ke fun b _ hb => by omega
    exact ⟨[iv 3, iv 0, .string emp, .slice B m d], rfl, tVX_list rfl rfl (sl.more (tVX_pos 0) fun b _ hb => by omega) own.le (by omega) rfl (by rw [← hl]; exact encIs_X ns), (h1.ext.trans own.ext).then ke fun i hi _ e => by omega⟩
end
section
variable {D : Nat → Prop} {w : World}
theorem c_r56Text {p : Post} (hp : ∀ x ∈ p.ns, I64 x) : CallZ Tryz.prog 89 #[.agg p.c.toArray] w (fun v w' => ∃ B m d, v = .slice B m d ∧ OwnF w w' B m d 5 1 (u8s (txt p))) := by
  refine fn_rule (args := [.agg p.c.toArray]) Tryz.func89 (by kernel_rfl) ?_; refine box (fun g w1 h1 => ?_); have B : Blk w1 g 26 p.c := h1.blk; refine fldA ?_; refine ld (iv p.no) (B.cell rfl) ?_; refine fldA ?_; refine ld (iv p.hour) (B.cell rfl) ?_; refine fldA ?_; refine ld (iv p.sort) (B.cell rfl) ?_; refine fldA ?_; refine ld (iv p.frm) (B.cell rfl) ?_; refine fldA ?_; refine ld (iv p.to) (B.cell rfl) ?_; refine fldA ?_; refine ld (iv p.n) (B.cell rfl) ?_; refine lit (p.ns.map iv) (fun g2 w2 h2 => ?_); have x02 := h1.ext.trans h2.ext; have sl : SlR tInt (fun _ => True) w2 (some (ad g2 0)) 6 p.ns := SlR.of_cells rfl (by omega) trivial (.blk h2.blk) (flat_ints hp); refine call_of (c_r01Ints sl (by omega) hp) ?_; rintro _ w3 ⟨cs, rfl, hrep, x3⟩; have hel : (intsX p.ns).e = txt p := rfl; have htl := txt_len p; refine call_of (c_r01Encode (by omega) hrep (by rw [hel]; omega)) ?_; rintro _ w4 ⟨E, m, d, rfl, hm, own⟩; rw [hel] at own; exact ret1 (.slice E m d) rfl ⟨E, m, d, rfl, own.base (x02.trans x3)⟩
theorem PosI.i64q {p : Post} (h : PosI p) : ∀ x ∈ p.ns, I64 x := fun x hx => by have := h x hx; unfold I64; omega
set_option maxRecDepth 4000 in
theorem c_r56Texts {A : Option Addr} {n c : Nat} {l : List Post} (hs : SlR tPost D w A n l) (hp : ∀ p ∈ l, PosI p) (hn : n ≤ 100000) : CallZ Tryz.prog 51 #[.slice A n c] w (fun v w' => ∃ B d, v = .slice B n d ∧ n ≤ d ∧ Ext w w' ∧ SlR (tSl tU8) (fun b => w.heap.size ≤ b) w' B n (l.map txt)) := by
  have hlen := hs.len; refine fn_rule (args := [.slice A n c]) Tryz.func51 (by kernel_rfl) ?_; refine lit [] (fun g w1 h1 => ?_); have o1 : OwnF w w1 (some (ad g 0)) 0 0 102 1 [] := OwnF.lit (cs := []) (.refl _ _) h1 rfl; refine loop4 (fun (k : Nat) (B : Option Addr) (m d : Nat) => [(4, iv (k : Int)), (3, .slice B m d)]) (fun k B m d u => k ≤ n ∧ m = k ∧ LBx (fun b => w.heap.size ≤ b) w u B m d ((l.take k).map txt)) (fun k _ _ _ _ => n - k) 0 (some (ad g 0)) 0 0 ⟨rfl, rfl, trivial⟩ ⟨by omega, rfl, [], o1, rfl⟩ rfl ?_; rintro G k B m d u ⟨hk, hm, own⟩; have hm : m = k := hm; subst hm; have own : LBx (fun b => w.heap.size ≤ b) w u B m d ((l.take m).map txt) := own; have xu := own.ex; refine len ?_; refine cD (fun hlt => ?_) (fun hge => ?_)
  · obtain ⟨bx, o, cs, p, rfl, hx, -, -, hc, hcs⟩ := (hs.ext xu).at_ (k := m) (by omega); have hcs : cs = p.c := hcs; subst hcs; refine idx m rfl (by omega) ?_; refine ldA p.c hc rfl ?_; have hpp := hp p (List.mem_of_getElem? hx); refine call_of (c_r56Text hpp.i64q) ?_; rintro _ u2 ⟨E, me, de, rfl, oE⟩; refine lit [.slice E me de] (fun q u3 hq => ?_); have sxu := xu.size; have hml := txt_len p; have hmE := oE.own.len; rw [List.length_map] at hmE
    have hne : ∀ b, u.heap.size ≤ b → B ≠ some (ad b 0) := fun b hb e => by
      obtain ⟨cs, o', -⟩ := own; rcases o'.form with ⟨q, -⟩ | ⟨q, h2, -, h3, -⟩
      · rw [q] at e; cases e
      · rw [h2] at e; injection e with e; injection e with e; omega
    refine appX (own.then oE.ext) (oE.u8 (D := fun b => B ≠ some (ad b 0) ∧ w.heap.size ≤ b) (txt_byte hpp.i64q) (by omega) fun b hb => ⟨hne b hb, by omega⟩) oE.le hq (by omega) (fun A' c' u4 own' k' hA' => ?_); refine arI (n := (m : Int) + 1) (by omega) ?_; refine next4 (m + 1) A' (m + 1) c' ⟨by rw [Int.natCast_add]; rfl, rfl, trivial⟩ ⟨by omega, rfl, ?_⟩ (by omega); rw [List.take_add_one, hx]
    simpa using own'
  · have hm : m = n := by omega
    subst hm; rw [List.take_of_length_le (by omega)] at own; refine ret1 (.slice B m d) rfl ⟨B, d, rfl, own.le, own.ex, ?_⟩; have hln := own.len; obtain ⟨cs, o, f⟩ := own; exact o.own.rd (a := tSl tU8) (f.more fun b _ h => h.2) hln (by omega) fun g hg => o.new g hg
theorem rootF_len : ∀ {f : Nat} {l : List (List Nat)}, Row l → 0 < l.length → (rootF f l).length = 32
  | 0, [], _, h => by simp at h
  | 0, x :: l, hr, _ => (hr x List.mem_cons_self).1
  | f + 1, l, hr, h => by
    unfold rootF
    split
    · exact rootF_len hr.up (by rw [upL_len]; omega)
    · cases l with
      | nil => simp at h
      | cons x l => exact (hr x List.mem_cons_self).1
theorem rootL_len (l : List (List Nat)) : (rootL l).length = 32 := by
  unfold rootL
  split
  · exact shaB_len _
  · rename_i h; refine rootF_len (.leaf l) ?_; rw [List.length_map]
    cases l with
    | nil => exact absurd rfl h
    | cons x l => simp
theorem c_lRoot {A : Option Addr} {n c : Nat} {l : List Post} (hN : NumW w) (hs : SlR tPost D w A n l) : CallZ Tryz.prog 23 #[.agg #[.slice A n c]] w (fun v w' => v = .tuple #[.agg (u8s (rootP l).1).toArray, iv (rootP l).2] ∧ Ext w w') := by
  have hln := hs.len; refine fn_rule (args := [.agg #[.slice A n c]]) Tryz.func23 (by kernel_rfl) ?_; refine box (fun b1 w1 h1 => ?_); have B1 : Blk w1 b1 24 [.slice A n c] := h1.blk; refine alloc (fun b2 w2 h2 => ?_); have R2 : Blk w2 b2 47 (u8s (List.replicate 32 0)) := h2.blk; have x02 := h1.ext.trans h2.ext; have e1 := h1.at_; have e2 := h2.at_; have s1 := h1.ext.size; refine ldA [.slice A n c] (.blk (B1.ext h2.ext)) rfl ?_; refine call_of (c_gCheck (hs.ext x02)) ?_; rintro _ w3 ⟨rfl, x3⟩; have R3 := R2.ext x3; refine cN (fun he => ?_) (fun he => ?_)
  · have hres : rootP l = (List.replicate 32 0, ldgErr l) := by unfold rootP; rw [if_neg he]
    rw [hres]; refine ldA (u8s (List.replicate 32 0)) (.blk R3) rfl ?_; have hdl : (List.replicate 32 0).length = 32 := List.length_replicate
    have htl : (u8s (List.replicate 32 0)).length = 32 := by rw [List.length_map]; exact hdl
    refine stA (vs := u8s (List.replicate 32 0)) R3 htl (by rw [htl]; exact Nat.le_refl _) (fun v hv => List.all_eq_true.1 (u8s_one _) v hv) (fun we Be ke _ => ?_)
    have Be : Blk we b2 47 (u8s (List.replicate 32 0)) := by
      have e : ∀ X : List Value, X.length = 32 → X.drop (0 + (u8s (List.replicate 32 0)).length) = [] := fun X hX => List.drop_of_length_le (by rw [htl]; omega); rw [List.take_zero, List.nil_append, e _ rfl, List.append_nil] at Be; exact Be
    refine ret ?_; refine resL (.agg (u8s (List.replicate 32 0)).toArray) (holds_agg (.blk Be) htl) ?_; exact ⟨rfl, (x02.trans x3).then ke fun i hi _ e => by omega⟩
  have he : ldgErr l = 0 := by omega
  obtain ⟨h4096, hLok⟩ := ldgErr_0.1 he
  have hres : rootP l = (rootL (l.map txt), 0) := by unfold rootP; rw [if_pos he]
  rw [hres]; refine ldA [.slice A n c] (.blk ((B1.ext h2.ext).ext x3)) rfl ?_; refine call_of (c_textsX (hs.ext (x02.trans x3)) hLok.pos (by omega)) ?_; rintro _ w4 ⟨T, cT, rfl, hcT, x4, ht⟩; have x04 := (x02.trans x3).trans x4; refine call_of (c_mRoot (hN.ext x04) ht (by omega) (fun b hb => txt_lens b hb)) ?_; rintro _ w5 ⟨rfl, x5⟩; have R5 := (R3.ext x4).ext x5; have hdl : (rootL (l.map txt)).length = 32 := rootL_len _
  have htl : (u8s (rootL (l.map txt))).length = 32 := by rw [List.length_map]; exact hdl
  refine stA (vs := u8s (rootL (l.map txt))) R5 htl (by rw [htl]; exact Nat.le_refl _) (fun v hv => List.all_eq_true.1 (u8s_one _) v hv) (fun we Be ke _ => ?_)
  have Be : Blk we b2 47 (u8s (rootL (l.map txt))) := by
    have e : ∀ X : List Value, X.length = 32 → X.drop (0 + (u8s (rootL (l.map txt))).length) = [] := fun X hX => List.drop_of_length_le (by rw [htl]; omega); rw [List.take_zero, List.nil_append, e _ rfl, List.append_nil] at Be; exact Be
  refine ret ?_; refine resL (.agg (u8s (rootL (l.map txt))).toArray) (holds_agg (.blk Be) htl) ?_; exact ⟨rfl, (x04.trans x5).then ke fun i hi _ e => by omega⟩
theorem c_r56Root {A : Option Addr} {n c : Nat} {l : List Post} (hs : SlR tPost D w A n l) (hc : n ≤ c) : CallZ Tryz.prog 24 #[.agg #[.slice A n c]] w (fun v w' => v = .tuple #[.agg (u8s (rootP l).1).toArray, iv (rootP l).2] ∧ Ext w w') := by
  have hln := hs.len; refine fn_rule (args := [.agg #[.slice A n c]]) Tryz.func24 (by kernel_rfl) ?_; refine box (fun b1 w1 h1 => ?_); have B1 : Blk w1 b1 24 [.slice A n c] := h1.blk; refine alloc (fun b2 w2 h2 => ?_); have R2 : Blk w2 b2 47 (u8s (List.replicate 32 0)) := h2.blk; have x02 := h1.ext.trans h2.ext; have e1 := h1.at_; have e2 := h2.at_; have s1 := h1.ext.size; refine ldA [.slice A n c] (.blk (B1.ext h2.ext)) rfl ?_; refine call_of (c_r56Check (hs.ext x02) hc) ?_; rintro _ w3 ⟨rfl, x3⟩; have R3 := R2.ext x3; refine cN (fun he => ?_) (fun he => ?_)
  · have hres : rootP l = (List.replicate 32 0, ldgErr l) := by unfold rootP; rw [if_neg he]
    rw [hres]; refine bld (u8s (List.replicate 32 0)) (by kernel_rfl) ?_; have hdl : (List.replicate 32 0).length = 32 := List.length_replicate
    have htl : (u8s (List.replicate 32 0)).length = 32 := by rw [List.length_map]; exact hdl
    refine stA (vs := u8s (List.replicate 32 0)) R3 htl (by rw [htl]; exact Nat.le_refl _) (fun v hv => List.all_eq_true.1 (u8s_one _) v hv) (fun we Be ke _ => ?_)
    have Be : Blk we b2 47 (u8s (List.replicate 32 0)) := by
      have e : ∀ X : List Value, X.length = 32 → X.drop (0 + (u8s (List.replicate 32 0)).length) = [] := fun X hX => List.drop_of_length_le (by rw [htl]; omega); rw [List.take_zero, List.nil_append, e _ rfl, List.append_nil] at Be; exact Be
    refine ret ?_; refine resL (.agg (u8s (List.replicate 32 0)).toArray) (holds_agg (.blk Be) htl) ?_; exact ⟨rfl, (x02.trans x3).then ke fun i hi _ e => by omega⟩
  have he : ldgErr l = 0 := by omega
  obtain ⟨h4096, hLok⟩ := ldgErr_0.1 he
  have hres : rootP l = (rootL (l.map txt), 0) := by unfold rootP; rw [if_pos he]
  rw [hres]; refine fldA ?_; refine ld (.slice A n c) (((B1.ext h2.ext).ext x3).cell rfl) ?_; refine call_of (c_r56Texts (hs.ext (x02.trans x3)) hLok.pos (by omega)) ?_; rintro _ w4 ⟨T, cT, rfl, hcT, x4, ht⟩; have x04 := (x02.trans x3).trans x4; refine call_of (c_r07Root ht (by omega) (fun b hb => (txt_lens b hb).2)) ?_; rintro _ w5 ⟨rfl, x5⟩; have R5 := (R3.ext x4).ext x5; have hdl : (rootL (l.map txt)).length = 32 := rootL_len _
  have htl : (u8s (rootL (l.map txt))).length = 32 := by rw [List.length_map]; exact hdl
  refine stA (vs := u8s (rootL (l.map txt))) R5 htl (by rw [htl]; exact Nat.le_refl _) (fun v hv => List.all_eq_true.1 (u8s_one _) v hv) (fun we Be ke _ => ?_)
  have Be : Blk we b2 47 (u8s (rootL (l.map txt))) := by
    have e : ∀ X : List Value, X.length = 32 → X.drop (0 + (u8s (rootL (l.map txt))).length) = [] := fun X hX => List.drop_of_length_le (by rw [htl]; omega); rw [List.take_zero, List.nil_append, e _ rfl, List.append_nil] at Be; exact Be
  refine ret ?_; refine resL (.agg (u8s (rootL (l.map txt))).toArray) (holds_agg (.blk Be) htl) ?_; exact ⟨rfl, (x04.trans x5).then ke fun i hi _ e => by omega⟩
end
structure Rd1 (D : Nat → Prop) (w : World) (r : Nat) (b : List Nat) (a : Nat) (bad : Bool) : Prop where
  of_ ::
  ex : ∃ A n c, Blk w r 241 [.slice A n c, iv (a : Int), .bool bad] ∧ SlR tU8 D w A n b ∧ n ≤ c ∧ a ≤ n ∧ n ≤ 1000000000
  ne : ∀ g, D g → g ≠ r
theorem Rd1.kept {D D' : Nat → Prop} {w w' : World} {r : Nat} {b : List Nat} {a : Nat} {bad : Bool} (h : Rd1 D w r b a bad) (k : Kept D' w w') (h1 : ∀ g, g < w.heap.size → D g → D' g) (h2 : D' r) : Rd1 D w' r b a bad := by
  obtain ⟨⟨A, n, c, B, hs, hc, ha⟩, hne⟩ := h; exact ⟨⟨A, n, c, B.kept k h2, hs.kept k h1, hc, ha⟩, hne⟩
theorem Rd1.ext {D : Nat → Prop} {w w' : World} {r : Nat} {b : List Nat} {a : Nat} {bad : Bool} (h : Rd1 D w r b a bad) (k : Ext w w') : Rd1 D w' r b a bad := h.kept k (fun _ _ _ => trivial) trivial
theorem Rd1.lt {D : Nat → Prop} {w : World} {r : Nat} {b : List Nat} {a : Nat} {bad : Bool} (h : Rd1 D w r b a bad) : r < w.heap.size := let ⟨⟨_, _, _, B, _⟩, _⟩ := h; B.lt
theorem Rd1.bys {D : Nat → Prop} {w : World} {r : Nat} {b : List Nat} {a : Nat} {bad : Bool} (h : Rd1 D w r b a bad) : Bys b := let ⟨⟨_, _, _, _, hs, _⟩, _⟩ := h; hs.u8b
section
variable {D : Nat → Prop} {w : World}
theorem c_r01next {r a : Nat} {b : List Nat} (h : Rd1 D w r b a false) : CallZ Tryz.prog 216 #[ptr r] w (fun v w' => Kept (fun g => g ≠ r) w w' ∧ w'.heap.size = w.heap.size ∧ ((a = b.length ∧ v = uv8 0 ∧ Rd1 D w' r b a true) ∨ ∃ x t, b.drop a = x :: t ∧ t = b.drop (a + 1) ∧ x < 256 ∧ v = uv8 x ∧ Rd1 D w' r b (a + 1) false)) := by
  obtain ⟨⟨A, n, c, B, hs, hc, ha, hn9⟩, hne⟩ := h; have hl := hs.len; refine fn_rule (args := [ptr r]) Tryz.func216 (by kernel_rfl) ?_; refine drawP (.take 0 (.take 1 (.take 2 (.take 3 (.take 4 (.take 5 (.take 6 (.take 7 (.take 8 (.take 9 .done)))))))))) [] (fun y => y = w) mx (by kernel_rfl) rfl ?_; refine fldA ?_; refine ld (iv (a : Int)) (B.cell rfl) ?_; refine fldA ?_; refine ld (.slice A n c) (B.cell rfl) ?_; refine len ?_; refine cD (fun hge => ?_) (fun hlt => ?_)
  · refine fldA ?_; refine st B (Nat.le_of_ble_eq_true rfl) rfl (fun w2 B2 k2 z2 => ?_); exact ret1 (uv8 0) rfl ⟨k2, z2, .inl ⟨by omega, rfl, ⟨⟨A, n, c, B2, hs.kept k2 fun g _ hg => hne g hg, hc, ha, hn9⟩, hne⟩⟩⟩
  · refine fldA ?_; refine ld (iv (a : Int)) (B.cell rfl) ?_; refine arI (n := (a : Int) + 1) (by omega) ?_; refine fldA ?_; refine st B (Nat.le_of_ble_eq_true rfl) rfl (fun w2 B2 k2 z2 => ?_); have B2 : Blk w2 r 241 [.slice A n c, iv ((a : Int) + 1), .bool false] := B2; have hs2 := hs.kept k2 fun g _ hg => hne g hg; obtain ⟨bx, o, cs, x, hA, hx, hd, -, hcx, rfl, hx2⟩ := hs2.at_ (k := a) (by omega); subst hA; refine drawP (.take 0 (.take 1 (.take 2 (.take 3 (.take 4 (.take 5 (.take 6 (.take 7 (.take 8 (.take 9 (.take 10 (.take 11 .done)))))))))))) [] (fun y => y = w2) mx (by kernel_rfl) rfl ?_; refine fldA ?_; refine ld (.slice (some (ad bx o)) n c) (B2.cell rfl) ?_; refine fldA ?_; refine ld (iv ((a : Int) + 1)) (B2.cell rfl) ?_; refine arI (n := (a : Int) + 1 - 1) (by omega) ?_; refine idx a (by omega) (by omega) ?_; refine ld (uv8 x) (hcx 0 _ rfl) ?_
    have B2' : Blk w2 r 241 [.slice (some (ad bx o)) n c, iv ((a + 1 : Nat) : Int), .bool false] := by rw [Int.natCast_add]; exact B2
    exact ret1 (uv8 x) rfl ⟨k2, z2, .inr ⟨x, _, hd, rfl, by omega, rfl, ⟨⟨_, n, c, B2', hs2, hc, by omega, hn9⟩, hne⟩⟩⟩
theorem pow128 (i : Nat) : (128 : Nat) ^ i = 2 ^ (7 * i) := by rw [Nat.pow_mul]
theorem c_r01number {r a : Nat} {b : List Nat} (h : Rd1 D w r b a false) : CallZ Tryz.prog 217 #[ptr r] w (fun v w' => Kept (fun g => g ≠ r) w w' ∧ ∃ u a' bad, v = uv64 u ∧ u < 18446744073709551616 ∧ Rd1 D w' r b a' bad ∧ (bad = false → prsN 0 0 (b.drop a) = some (u, b.drop a')) ∧ (bad = true → prsN 0 0 (b.drop a) = none)) := by
  refine fn_rule (args := [ptr r]) Tryz.func217 (by kernel_rfl) ?_; refine loop_rule (fun p : Nat × Nat × Nat => [(4, iv (p.1 : Int)), (3, uv64 p.2.1)]) (fun p u => p.1 ≤ 9 ∧ p.2.1 < 128 ^ p.1 ∧ Kept (fun g => g ≠ r) w u ∧ Rd1 D u r b p.2.2 false ∧ prsN p.1 p.2.1 (b.drop p.2.2) = prsN 0 0 (b.drop a)) (fun p _ => 10 - p.1) (0, 0, a) ⟨rfl, rfl, trivial⟩ ⟨Nat.zero_le _, by show (0 : Nat) < 1; omega, .refl _ _, h, rfl⟩ rfl ?_; rintro G ⟨i, acc, q⟩ u ⟨hi, hacc, ku, hr, hp⟩; have hi : i ≤ 9 := hi; have hacc : acc < 128 ^ i := hacc; have hr : Rd1 D u r b q false := hr; have hp : prsN i acc (b.drop q) = prsN 0 0 (b.drop a) := hp; have hpow : 128 ^ i ≤ 128 ^ 9 := Nat.pow_le_pow_right (by omega) hi
  have h9 : (128 : Nat) ^ 9 = 9223372036854775808 := by decide
  obtain ⟨A, n, c, B, -⟩ := hr.ex; refine fldA ?_; refine ld (.bool false) (B.cell rfl) ?_; refine call_of (c_r01next hr) ?_; rintro _ u2 ⟨k2, z2, ⟨hq, rfl, hr2⟩ | ⟨x, t, hd, ht, hx, rfl, hr2⟩⟩
  · -- at the end
    have hnil : b.drop q = [] := List.drop_of_length_le (by omega); rw [hnil] at hp
    have hnone : prsN 0 0 (b.drop a) = none := by rw [← hp]; rfl
    obtain ⟨A2, n2, c2, B2, hs2, hc2, ha2⟩ := hr2.ex; refine cE (fun hi9 => ?_) (fun hi9 => ?_)
    · refine cD (fun h => absurd h (by omega)) (fun _ => ?_); refine cD (fun _ => ?_) (fun h => absurd h (by omega)); refine cE (fun _ => ?_) (fun h => absurd rfl h); refine fldA ?_; refine st B2 (Nat.le_of_ble_eq_true rfl) rfl (fun u3 B3 k3 _ => ?_); exact ret1 (uv64 0) rfl ⟨(ku.trans k2).trans k3, 0, q, true, rfl, by omega, ⟨⟨A2, n2, c2, B3, hs2.kept k3 fun g _ hg => hr2.ne g hg, hc2, ha2⟩, hr2.ne⟩, (fun h => by cases h), fun _ => hnone⟩
    · refine cD (fun hi0 => ?_) (fun hi0 => ?_)
      · refine cE (fun _ => ?_) (fun h => absurd rfl h); refine fldA ?_; refine st B2 (Nat.le_of_ble_eq_true rfl) rfl (fun u3 B3 k3 _ => ?_); exact ret1 (uv64 0) rfl ⟨(ku.trans k2).trans k3, 0, q, true, rfl, by omega, ⟨⟨A2, n2, c2, B3, hs2.kept k3 fun g _ hg => hr2.ne g hg, hc2, ha2⟩, hr2.ne⟩, (fun h => by cases h), fun _ => hnone⟩
      · have hi0 : i = 0 := by
          have h : ¬ ((i : Nat) : Int) > 0 := hi0; omega
        subst hi0
        have hacc0 : acc = 0 := by have : (128 : Nat) ^ 0 = 1 := rfl; omega
        subst hacc0; refine remI (by omega) (by omega) ?_; refine cv64 0 rfl ?_; refine arI (n := 0) (by omega) ?_; refine shl64 0 rfl (by omega) ?_; refine ar64 (by show (0 : Int) ≤ 0 + 0 ∧ (0 : Int) + 0 < 18446744073709551616; omega) ?_; refine cD (fun _ => ?_) (fun h => absurd h (by omega)); exact ret1 (uv64 0) rfl ⟨ku.trans k2, 0, q, true, rfl, by omega, hr2, (fun h => by cases h), fun _ => hnone⟩
  · have hx8 : ((x : Nat) : Int) < 256 := by omega
    have hp' : prsN i acc (b.drop q) = if (i = 0 ∨ x ≠ 0) ∧ (i < 9 ∨ x ≤ 1) then (if x < 128 then some (acc + x % 128 * 128 ^ i, b.drop (q + 1)) else prsN (i + 1) (acc + x % 128 * 128 ^ i) (b.drop (q + 1))) else none := by
      rw [hd, ht]
      conv => lhs; unfold prsN
    rw [hp'] at hp; obtain ⟨A2, n2, c2, B2, hs2, hc2, ha2⟩ := hr2.ex; have k02 := ku.trans k2
    have bad : ¬ ((i = 0 ∨ x ≠ 0) ∧ (i < 9 ∨ x ≤ 1)) → prsN 0 0 (b.drop a) = none := fun hq => by rw [← hp, if_neg hq]
    have good : ((i = 0 ∨ x ≠ 0) ∧ (i < 9 ∨ x ≤ 1)) → prsN 0 0 (b.drop a) = if x < 128 then some (acc + x % 128 * 128 ^ i, b.drop (q + 1)) else prsN (i + 1) (acc + x % 128 * 128 ^ i) (b.drop (q + 1)) := fun hq => by rw [← hp, if_pos hq]
    have hm : x % 128 * 128 ^ i < 18446744073709551616 - acc ∨ ¬ ((i = 0 ∨ x ≠ 0) ∧ (i < 9 ∨ x ≤ 1)) := by
      by_cases h8 : i < 9
      · left; have e1 : 128 ^ (i + 1) ≤ 128 ^ 9 := Nat.pow_le_pow_right (by omega) (by omega); have e2 : x % 128 * 128 ^ i ≤ 127 * 128 ^ i := Nat.mul_le_mul_right _ (by omega); rw [Nat.pow_succ] at e1; omega
      · have hi9 : i = 9 := by omega
        subst hi9
        by_cases hx1 : x ≤ 1
        · left; have e2 : x % 128 * 128 ^ 9 ≤ 1 * 128 ^ 9 := Nat.mul_le_mul_right _ (by omega); omega
        · right; omega
    have tail : ((i = 0 ∨ x ≠ 0) ∧ (i < 9 ∨ x ≤ 1)) → (((x % 128) <<< (7 * i)) % 18446744073709551616 = x % 128 * 128 ^ i ∧ acc + x % 128 * 128 ^ i < 18446744073709551616) := fun hq => by
      have := hm.resolve_right (fun h => h hq); rw [Nat.shiftLeft_eq, ← pow128]; exact ⟨Nat.mod_eq_of_lt (by omega), by omega⟩
    have hstep : ((i = 0 ∨ x ≠ 0) ∧ (i < 9 ∨ x ≤ 1)) → ¬ x < 128 → acc + x % 128 * 128 ^ i < 128 ^ (i + 1) := fun _ _ => by
      have e2 : x % 128 * 128 ^ i ≤ 127 * 128 ^ i := Nat.mul_le_mul_right _ (by omega); rw [Nat.pow_succ]; omega
    refine cE (fun hi9 => ?_) (fun hi9 => ?_)
    · have hi9 : i = 9 := by
        have h : ((i : Nat) : Int) = 9 := hi9; omega
      refine cD (fun hx1 => ?_) (fun hx1 => ?_)
      · refine fldA ?_; refine st B2 (Nat.le_of_ble_eq_true rfl) rfl (fun u3 B3 k3 _ => ?_); exact ret1 (uv64 0) rfl ⟨k02.trans k3, 0, q + 1, true, rfl, by omega, ⟨⟨A2, n2, c2, B3, hs2.kept k3 fun g _ hg => hr2.ne g hg, hc2, ha2⟩, hr2.ne⟩, (fun h => by cases h), fun _ => bad (by omega)⟩
      · refine cD (fun _ => ?_) (fun h => absurd (show ((i : Nat) : Int) > 0 by omega) h); refine cE (fun hx0 => ?_) (fun hx0 => ?_)
        · refine fldA ?_; refine st B2 (Nat.le_of_ble_eq_true rfl) rfl (fun u3 B3 k3 _ => ?_); exact ret1 (uv64 0) rfl ⟨k02.trans k3, 0, q + 1, true, rfl, by omega, ⟨⟨A2, n2, c2, B3, hs2.kept k3 fun g _ hg => hr2.ne g hg, hc2, ha2⟩, hr2.ne⟩, (fun h => by cases h), fun _ => bad (by omega)⟩
        · have hq : (i = 0 ∨ x ≠ 0) ∧ (i < 9 ∨ x ≤ 1) := (by omega); have hgood := good hq; obtain ⟨ht1, ht2⟩ := tail hq; refine remI (by omega) (by omega) ?_; refine cv64 (x % 128) rfl ?_; rw [Nat.mod_eq_of_lt (show x % 128 < 18446744073709551616 by omega)]; refine arI (n := 7 * (i : Int)) (by omega) ?_; refine shl64 (7 * i) (by omega) (by omega) ?_; rw [ht1]; refine add64 (a := acc) ht2 ?_; refine cD (fun hlt => ?_) (fun hge => ?_)
          · have hlt : x < 128 := by omega
            rw [if_pos hlt] at hgood; exact ret1 (uv64 (acc + x % 128 * 128 ^ i)) rfl ⟨k02, _, q + 1, false, rfl, ht2, hr2, (fun _ => hgood), fun h => by cases h⟩
          · have hge : ¬ x < 128 := by omega
            rw [if_neg hge] at hgood
            have hi8 : i < 9 := by omega
            refine arI (n := (i : Int) + 1) (by omega) ?_; exact next (i + 1, acc + x % 128 * 128 ^ i, q + 1) ⟨by show iv ((i : Int) + 1) = iv ((i + 1 : Nat) : Int); rw [Int.natCast_add]; rfl, rfl, trivial⟩ ⟨by show i + 1 ≤ 9; omega, hstep hq hge, k02, hr2, hgood.symm⟩ (by show 10 - (i + 1) < 10 - i; omega)
    · have hi9 : i ≠ 9 := fun h => hi9 (show ((i : Nat) : Int) = 9 by omega); refine cD (fun hi0 => ?_) (fun hi0 => ?_)
      · have hi0 : 0 < i := by
          have h : ((i : Nat) : Int) > 0 := hi0; omega
        refine cE (fun hx0 => ?_) (fun hx0 => ?_)
        · refine fldA ?_; refine st B2 (Nat.le_of_ble_eq_true rfl) rfl (fun u3 B3 k3 _ => ?_); exact ret1 (uv64 0) rfl ⟨k02.trans k3, 0, q + 1, true, rfl, by omega, ⟨⟨A2, n2, c2, B3, hs2.kept k3 fun g _ hg => hr2.ne g hg, hc2, ha2⟩, hr2.ne⟩, (fun h => by cases h), fun _ => bad (by omega)⟩
        · have hq : (i = 0 ∨ x ≠ 0) ∧ (i < 9 ∨ x ≤ 1) := (by omega); have hgood := good hq; obtain ⟨ht1, ht2⟩ := tail hq; refine remI (by omega) (by omega) ?_; refine cv64 (x % 128) rfl ?_; rw [Nat.mod_eq_of_lt (show x % 128 < 18446744073709551616 by omega)]; refine arI (n := 7 * (i : Int)) (by omega) ?_; refine shl64 (7 * i) (by omega) (by omega) ?_; rw [ht1]; refine add64 (a := acc) ht2 ?_; refine cD (fun hlt => ?_) (fun hge => ?_)
          · have hlt : x < 128 := by omega
            rw [if_pos hlt] at hgood; exact ret1 (uv64 (acc + x % 128 * 128 ^ i)) rfl ⟨k02, _, q + 1, false, rfl, ht2, hr2, (fun _ => hgood), fun h => by cases h⟩
          · have hge : ¬ x < 128 := by omega
            rw [if_neg hge] at hgood
            have hi8 : i < 9 := by omega
            refine arI (n := (i : Int) + 1) (by omega) ?_; exact next (i + 1, acc + x % 128 * 128 ^ i, q + 1) ⟨by show iv ((i : Int) + 1) = iv ((i + 1 : Nat) : Int); rw [Int.natCast_add]; rfl, rfl, trivial⟩ ⟨by show i + 1 ≤ 9; omega, hstep hq hge, k02, hr2, hgood.symm⟩ (by show 10 - (i + 1) < 10 - i; omega)
      · have hi0 : i = 0 := by
          have h : ¬ ((i : Nat) : Int) > 0 := hi0; omega
        have hq : (i = 0 ∨ x ≠ 0) ∧ (i < 9 ∨ x ≤ 1) := (by omega); have hgood := good hq; obtain ⟨ht1, ht2⟩ := tail hq; refine remI (by omega) (by omega) ?_; refine cv64 (x % 128) rfl ?_; rw [Nat.mod_eq_of_lt (show x % 128 < 18446744073709551616 by omega)]; refine arI (n := 7 * (i : Int)) (by omega) ?_; refine shl64 (7 * i) (by omega) (by omega) ?_; rw [ht1]; refine add64 (a := acc) ht2 ?_; refine cD (fun hlt => ?_) (fun hge => ?_)
        · have hlt : x < 128 := by omega
          rw [if_pos hlt] at hgood; exact ret1 (uv64 (acc + x % 128 * 128 ^ i)) rfl ⟨k02, _, q + 1, false, rfl, ht2, hr2, (fun _ => hgood), fun h => by cases h⟩
        · have hge : ¬ x < 128 := by omega
          rw [if_neg hge] at hgood
          have hi8 : i < 9 := by omega
          refine arI (n := (i : Int) + 1) (by omega) ?_; exact next (i + 1, acc + x % 128 * 128 ^ i, q + 1) ⟨by show iv ((i : Int) + 1) = iv ((i + 1 : Nat) : Int); rw [Int.natCast_add]; rfl, rfl, trivial⟩ ⟨by show i + 1 ≤ 9; omega, hstep hq hge, k02, hr2, hgood.symm⟩ (by show 10 - (i + 1) < 10 - i; omega)
end
def FV (g : Nat) (E : Nat → Prop) (u : World) (A : Option Addr) (xs : List VX) (cs : List Value) : Prop := FlatR (tVX g) (fun b => A ≠ some (ad b 0) ∧ E b) u xs cs
theorem Rd1.more {D D' : Nat → Prop} {w : World} {r : Nat} {b : List Nat} {a : Nat} {bad : Bool} (h : Rd1 D w r b a bad) (h1 : ∀ g, g < w.heap.size → D g → D' g) (hne : ∀ g, D' g → g ≠ r) : Rd1 D' w r b a bad := by
  obtain ⟨⟨A, n, c, B, hs, hc, ha⟩, _⟩ := h; exact ⟨⟨A, n, c, B, hs.more (by decide) h1, hc, ha⟩, hne⟩
def Cel (cs : List Value) : Prop := ∃ (k n : Int) (s : ByteArray) (A : Option Addr) (m c : Nat), cs = [iv k, iv n, .string s, .slice A m c]
theorem Cel.len {cs : List Value} (h : Cel cs) : cs.length = 4 := by obtain ⟨_, _, _, _, _, _, rfl⟩ := h; rfl
theorem Cel.one {cs : List Value} (h : Cel cs) : ∀ v ∈ cs, v.oneCell' = true := by
  obtain ⟨_, _, _, _, _, _, rfl⟩ := h; intro v hv; simp only [List.mem_cons, List.not_mem_nil, or_false] at hv; rcases hv with rfl | rfl | rfl | rfl <;> rfl
def ValA (f : Nat) (D : Nat → Prop) (w w' : World) (r : Nat) (b : List Nat) (a : Nat) (v : Value) : Prop :=
  Kept (fun g => g ≠ r) w w' ∧ ∃ cs a' bad, v = .agg cs.toArray ∧ Cel cs ∧ Rd1 D w' r b a' bad ∧ (bad = true → prsV f (b.drop a) = none) ∧
    (bad = false → ∃ x, prsV f (b.drop a) = some (x.vs, b.drop a') ∧ (tVX f).rep (fun g => w.heap.size ≤ g) w' cs x ∧ b.drop a = x.e ++ b.drop a')
def RVal1 (f : Nat) : Prop := ∀ {D : Nat → Prop} {w : World} {r a : Nat} {b : List Nat}, f ≤ 16 → Rd1 D w r b a false → CallZ Tryz.prog 168 #[ptr r, iv (((16 - f : Nat) : Nat) : Int)] w (fun v w' => ValA f D w w' r b a v)
theorem prsV_n1 {f : Nat} {t : List Nat} (h : prsN 0 0 t = none) : prsV f (1 :: t) = none := by unfold prsV; rw [if_pos rfl, h]
theorem prsV_s1 {f u : Nat} {t r : List Nat} (h : prsN 0 0 t = some (u, r)) : prsV f (1 :: t) = some (⟨1, sgn u, []⟩, r) := by unfold prsV; rw [if_pos rfl, h]
theorem prsV_n2 {f : Nat} {t : List Nat} (h : prsL t = none) : prsV f (2 :: t) = none := by unfold prsV; rw [if_neg (by omega), if_pos rfl, h]
theorem prsV_s2 {f n : Nat} {t r : List Nat} (h : prsL t = some (n, r)) : prsV f (2 :: t) = some (⟨2, 0, []⟩, r.drop n) := by unfold prsV; rw [if_neg (by omega), if_pos rfl, h]
theorem prsV_n3 {f : Nat} {t : List Nat} (h : prsL t = none) : prsV f (3 :: t) = none := by
  unfold prsV; rw [if_neg (by omega), if_neg (by omega), if_pos rfl]
  cases f with
  | zero => rfl
  | succ g => simp only [h]
theorem prsV_03 {t : List Nat} : prsV 0 (3 :: t) = none := by
  unfold prsV; rw [if_neg (by omega), if_neg (by omega), if_pos rfl]
theorem prsV_s3 {g n : Nat} {t r : List Nat} (h : prsL t = some (n, r)) : prsV (g + 1) (3 :: t) = match prsM (prsV g) n r with | some (l, r'') => some (⟨3, 0, l⟩, r'') | none => none := by
  conv => lhs; unfold prsV
  rw [if_neg (by omega), if_neg (by omega), if_pos rfl]; simp only [h]
  cases prsM (prsV g) n r with
  | none => rfl
  | some p => rfl
theorem prsV_x {f c : Nat} {t : List Nat} (h1 : c ≠ 1) (h2 : c ≠ 2) (h3 : c ≠ 3) : prsV f (c :: t) = none := by unfold prsV; rw [if_neg h1, if_neg h2, if_neg h3]
theorem prsL_none {t : List Nat} (h : prsN 0 0 t = none) : prsL t = none := by unfold prsL; rw [h]
theorem prsL_big {t r : List Nat} {n : Nat} (h : prsN 0 0 t = some (n, r)) (hn : ¬ n ≤ r.length) : prsL t = none := by unfold prsL; rw [h]; simp only; rw [if_neg hn]
theorem prsL_some {t r : List Nat} {n : Nat} (h : prsN 0 0 t = some (n, r)) (hn : n ≤ r.length) : prsL t = some (n, r) := by unfold prsL; rw [h]; simp only; rw [if_pos hn]
section
set_option maxRecDepth 8000 in
set_option maxHeartbeats 4000000 in
theorem val_step (f : Nat) (ih : ∀ g, f = g + 1 → RVal1 g) : RVal1 f := by
  intro D0 w r a b hf h0; have hlr := h0.lt; refine fn_rule (args := [ptr r, iv (((16 - f : Nat) : Nat) : Int)]) Tryz.func168 (by kernel_rfl) ?_; refine alloc (fun b4 w1 h1 => ?_); have e1 := h1.at_; have R1 : Blk w1 b4 113 zeroV := h1.blk; have x1 := h1.ext; have s1 := x1.size; have lR1 := R1.lt; obtain ⟨D, hD⟩ : ∃ D : Nat → Prop, D = fun g => D0 g ∧ g < w.heap.size := ⟨_, rfl⟩
  have hne : ∀ g, D g → g ≠ r ∧ g ≠ b4 := fun g hg => by rw [hD] at hg; exact ⟨h0.ne g hg.1, by have := hg.2; omega⟩
  have hDlt : ∀ g, D g → g < w.heap.size := fun g hg => by rw [hD] at hg; exact hg.2
  have h0' : Rd1 D w r b a false := h0.more (fun g hg hd => by rw [hD]; exact ⟨hd, hg⟩) fun g hg => (hne g hg).1; have back : ∀ {w' : World} {a' : Nat} {bad : Bool}, Rd1 D w' r b a' bad → Rd1 D0 w' r b a' bad := fun h => h.more (fun g _ hg => by rw [hD] at hg; exact hg.1) h0.ne; refine call_of (c_r01next (h0'.ext x1)) ?_; rintro _ w2 ⟨k12, z2, ⟨hq, rfl, hr2⟩ | ⟨x, t, hd, ht, hx, rfl, hr2⟩⟩
  · obtain ⟨A2, n2, c2, B2, hs2, hc2, ha2⟩ := hr2.ex; have hnil : b.drop a = [] := List.drop_of_length_le (by omega)
    have hnone : prsV f (b.drop a) = none := by rw [hnil]; unfold prsV; rfl
    have R2 := R1.kept k12 (show b4 ≠ r by omega); have k02 : Kept (fun g => g ≠ r) w w2 := (Ext.any x1).trans k12; refine cE (fun h => absurd h (by omega)) (fun _ => ?_); refine cE (fun h => absurd h (by omega)) (fun _ => ?_); refine cE (fun h => absurd h (by omega)) (fun _ => ?_); refine fldA ?_; refine st B2 (Nat.le_of_ble_eq_true rfl) rfl (fun u8 B8 k8 _ => ?_); have R8 := Blk.kept R2 k8 (show b4 ≠ r by omega); refine bld zeroV (by kernel_rfl) ?_; refine stA (vs := zeroV) R8 rfl (Nat.le_of_ble_eq_true rfl) (by simp [Value.oneCell']) (fun we Be ke _ => ?_); refine ret ?_; refine resL (.agg (zeroV).toArray) (holds_agg (.blk Be) rfl) ?_; exact ⟨(Kept.trans k02 k8).then ke fun i hi _ => by omega, zeroV, a, true, rfl, ⟨0, 0, emp, none, 0, 0, rfl⟩, back ⟨⟨_, _, _, B8.kept ke (show r ≠ b4 by omega), (hs2.kept k8 fun g _ hg => (hne g hg).1).kept ke fun g _ hg => (hne g hg).2, hc2, ha2⟩, fun g hg => (hne g hg).1⟩, fun _ => hnone, fun h => by cases h⟩
  have R2 := R1.kept k12 (show b4 ≠ r by omega); have k02 : Kept (fun g => g ≠ r) w w2 := (Ext.any x1).trans k12; have hbys := hr2.bys; have hbt : ∀ y ∈ b.drop (a + 1), y < 256 := fun y hy => hbys y (List.mem_of_mem_drop hy); rw [ht] at hd; refine cE (fun hx1 => ?_) (fun hx1 => ?_)
  · have hx1 : x = 1 := by omega
    subst hx1; refine call_of (c_r01number hr2) ?_; rintro _ w3 ⟨k23, u, a3, bad, rfl, hu, hr3, hgood, hbad⟩; have R3 := R2.kept k23 (show b4 ≠ r by omega); have k03 := k02.trans k23
    have fin : ∀ (we : World), Kept (fun g => g ≠ b4) w3 we → ValA f D0 w we r b a (.agg (intC (sgn u)).toArray) := fun we ke => by
      refine ⟨k03.then ke fun i hi _ => by omega, intC (sgn u), a3, bad, rfl, ⟨1, sgn u, emp, none, 0, 0, rfl⟩, back (hr3.kept ke (fun g _ hg => (hne g hg).2) (show r ≠ b4 by omega)), fun hb => ?_, fun hb => ?_⟩
      · rw [hd]; exact prsV_n1 (hbad hb)
      · have hg := hgood hb; refine ⟨⟨1, sgn u, [], encI (sgn u)⟩, ?_, tVX_leaf (.inl ⟨rfl, rfl, sgn_I64 hu, rfl, rfl⟩), ?_⟩
        · rw [hd]; exact prsV_s1 hg
        · have := ((prsN_num hbt).1 hg).2; rw [hd]; show 1 :: b.drop (a + 1) = encI (sgn u) ++ b.drop a3; unfold encI; rw [uns_sgn, this]
          rfl
    refine remI (by omega) (Int.natCast_nonneg _) ?_; refine cE (fun h2 => ?_) (fun h2 => ?_)
    · refine quo64 (b := 2) hu (by omega) ?_; refine cvI (by omega) ?_; refine arI (n := 0 - ((u / 2 : Nat) : Int)) (by omega) ?_; refine arI (n := 0 - ((u / 2 : Nat) : Int) - 1) (by omega) ?_
      have e : 0 - ((u / 2 : Nat) : Int) - 1 = sgn u := by unfold sgn; rw [if_neg (by omega)]; omega
      rw [e]; refine bld (intC (sgn u)) (by kernel_rfl) ?_; refine stA (vs := intC (sgn u)) R3 rfl (Nat.le_of_ble_eq_true rfl) (by simp [Value.oneCell']) (fun we Be ke _ => ?_); have Be : Blk we b4 113 (intC (sgn u)) := Be; refine ret ?_; refine resL (.agg (intC (sgn u)).toArray) (holds_agg (.blk Be) rfl) ?_; exact fin we ke
    · refine quo64 (b := 2) hu (by omega) ?_; refine cvI (by omega) ?_
      have e : ((u / 2 : Nat) : Int) = sgn u := by unfold sgn; rw [if_pos (by omega)]
      rw [e]; refine bld (intC (sgn u)) (by kernel_rfl) ?_; refine stA (vs := intC (sgn u)) R3 rfl (Nat.le_of_ble_eq_true rfl) (by simp [Value.oneCell']) (fun we Be ke _ => ?_); have Be : Blk we b4 113 (intC (sgn u)) := Be; refine ret ?_; refine resL (.agg (intC (sgn u)).toArray) (holds_agg (.blk Be) rfl) ?_; exact fin we ke
  have hx1 : x ≠ 1 := fun h => hx1 (by omega); refine cE (fun hx2 => ?_) (fun hx2 => ?_)
  · have hx2 : x = 2 := by omega
    subst hx2; refine call_of (c_r01number hr2) ?_; rintro _ w3 ⟨k23, u, a3, bad, rfl, hu, hr3, hgood, hbad⟩; have R3 := R2.kept k23 (show b4 ≠ r by omega); have k03 := k02.trans k23; obtain ⟨A2, n2, c2, B2, hs2, hc2, ha2⟩ := hr3.ex; have hl2 := hs2.len; refine drawP (.take 0 (.take 1 (.take 2 (.take 3 (.take 4 (.take 5 (.take 6 (.take 7 (.take 8 (.take 9 (.take 10 (.take 11 (.take 12 (.take 13 (.take 14 (.take 15 (.take 16 (.take 17 (.take 18 .done))))))))))))))))))) [] (fun y => y = w3) mx (by kernel_rfl) rfl ?_
    cases hb : bad with
    | true =>
      refine fldA ?_; refine ld (.bool true) (B2.cell (by rw [hb]; rfl)) ?_
      have hnone : prsV f (b.drop a) = none := by rw [hd]; exact prsV_n2 (prsL_none (hbad hb))
      refine fldA ?_; refine st B2 (Nat.le_of_ble_eq_true rfl) rfl (fun u8 B8 k8 _ => ?_); have R8 := Blk.kept R3 k8 (show b4 ≠ r by omega); refine bld zeroV (by kernel_rfl) ?_; refine stA (vs := zeroV) R8 rfl (Nat.le_of_ble_eq_true rfl) (by simp [Value.oneCell']) (fun we Be ke _ => ?_); refine ret ?_; refine resL (.agg (zeroV).toArray) (holds_agg (.blk Be) rfl) ?_; exact ⟨(Kept.trans k03 k8).then ke fun i hi _ => by omega, zeroV, a3, true, rfl, ⟨0, 0, emp, none, 0, 0, rfl⟩, back ⟨⟨_, _, _, B8.kept ke (show r ≠ b4 by omega), (hs2.kept k8 fun g _ hg => (hne g hg).1).kept ke fun g _ hg => (hne g hg).2, hc2, ha2⟩, fun g hg => (hne g hg).1⟩, fun _ => hnone, fun h => by cases h⟩
    | false =>
    have hg := hgood hb; refine fldA ?_; refine ld (.bool false) (B2.cell (by rw [hb]; rfl)) ?_; refine fldA ?_; refine ld (.slice A2 n2 c2) (B2.cell rfl) ?_; refine len ?_; refine fldA ?_; refine ld (iv (a3 : Int)) (B2.cell rfl) ?_; refine arI (n := (n2 : Int) - (a3 : Int)) (by omega) ?_; refine cv64 (n2 - a3) (by omega) ?_; rw [Nat.mod_eq_of_lt (show n2 - a3 < 18446744073709551616 by omega)]; refine cD (fun hbig => ?_) (fun hbig => ?_)
    · have hnone : prsV f (b.drop a) = none := by rw [hd]; exact prsV_n2 (prsL_big hg (by rw [List.length_drop]; omega))
      refine fldA ?_; refine st B2 (Nat.le_of_ble_eq_true rfl) rfl (fun u8 B8 k8 _ => ?_); have R8 := Blk.kept R3 k8 (show b4 ≠ r by omega); refine bld zeroV (by kernel_rfl) ?_; refine stA (vs := zeroV) R8 rfl (Nat.le_of_ble_eq_true rfl) (by simp [Value.oneCell']) (fun we Be ke _ => ?_); refine ret ?_; refine resL (.agg (zeroV).toArray) (holds_agg (.blk Be) rfl) ?_; exact ⟨(Kept.trans k03 k8).then ke fun i hi _ => by omega, zeroV, a3, true, rfl, ⟨0, 0, emp, none, 0, 0, rfl⟩, back ⟨⟨_, _, _, B8.kept ke (show r ≠ b4 by omega), (hs2.kept k8 fun g _ hg => (hne g hg).1).kept ke fun g _ hg => (hne g hg).2, hc2, ha2⟩, fun g hg => (hne g hg).1⟩, fun _ => hnone, fun h => by cases h⟩
    have hfit : u ≤ n2 - a3 := by omega
    refine fldA ?_; refine ld (iv (a3 : Int)) (B2.cell rfl) ?_; refine cvI (by omega) ?_; refine arI (n := (a3 : Int) + (u : Int)) (by omega) ?_; refine fldA ?_; refine st B2 (Nat.le_of_ble_eq_true rfl) rfl (fun w4 B4 k4 _ => ?_)
    have B4 : Blk w4 r 241 [.slice A2 n2 c2, iv ((a3 + u : Nat) : Int), .bool false] := by rw [hb] at B4; rw [Int.natCast_add]; exact B4
    have hs4 := hs2.kept k4 fun g _ hg => (hne g hg).1; have R4 := R3.kept k4 (show b4 ≠ r by omega); have k04 := k03.trans k4; refine drawP (.take 0 (.take 1 (.take 2 (.take 3 (.take 4 (.take 5 (.take 6 (.take 7 (.take 8 (.take 9 (.take 10 (.take 11 (.take 12 (.take 13 (.take 14 (.take 15 (.eff 16 (.take 17 (.bar (.eff 18 .done)))))))))))))))))))) [18] (fun y => y = w4) mx (by kernel_rfl) rfl ?_; refine fldA ?_; refine ld (.slice A2 n2 c2) (B4.cell rfl) ?_; refine fldA ?_; refine ld (iv ((a3 + u : Nat) : Int)) (B4.cell rfl) ?_; refine cvI (by omega) ?_; refine arI (n := ((a3 + u : Nat) : Int) - (u : Int)) (by omega) ?_; refine fldA ?_; refine ld (iv ((a3 + u : Nat) : Int)) (B4.cell rfl) ?_; refine slcR a3 (a3 + u) hs4 hc2 (by show ((a3 + u : Nat) : Int) - (u : Int) = (a3 : Int); omega) rfl (by omega) (by omega) rfl (fun A5 hA5 => ?_); have s5 := hA5 _ w4 hs4; refine cvBS rfl s5 ?_; refine strS rfl ?_; obtain ⟨s, hs⟩ : ∃ s, s = strB ((b.take (a3 + u)).drop a3) := ⟨_, rfl⟩; rw [← hs]
    have hlb : ((b.take (a3 + u)).drop a3).length = u := by rw [List.length_drop, List.length_take]; omega
    have hbl : bl s = (b.take (a3 + u)).drop a3 := by rw [hs]; exact bl_strB fun y hy => hbys y (List.mem_of_mem_take (List.mem_of_mem_drop hy))
    have hsz : s.size = u := by rw [← bl_len, hbl, hlb]
    refine bld [iv 2, iv 0, .string s, .slice none 0 0] (by kernel_rfl) ?_; refine barS (fun _ => True) trivial ?_; refine stA (vs := [iv 2, iv 0, .string s, .slice none 0 0]) R4 rfl (Nat.le_of_ble_eq_true rfl) (by simp [Value.oneCell']) (fun we Be ke _ => ?_); have Be : Blk we b4 113 [iv 2, iv 0, .string s, .slice none 0 0] := Be; refine strS trivial ?_; refine ret ?_; refine resL (.agg #[iv 2, iv 0, .string s, .slice none 0 0]) (holds_agg (.blk Be) rfl) ?_; refine ⟨k04.then ke fun i hi _ => by omega, [iv 2, iv 0, .string s, .slice none 0 0], a3 + u, false, rfl, ⟨2, 0, s, none, 0, 0, rfl⟩, back ⟨⟨_, _, _, B4.kept ke (show r ≠ b4 by omega), hs4.kept ke fun g _ hg => (hne g hg).2, hc2, by omega, ha2.2⟩, fun g hg => (hne g hg).1⟩, fun h => (by cases h), fun _ => ⟨⟨2, 0, [], 2 :: (num s.size ++ bl s)⟩, ?_, tVX_leaf (.inr ⟨s, by omega, rfl, rfl, rfl, rfl, rfl⟩), ?_⟩⟩
    · rw [hd, prsV_s2 (prsL_some hg (by rw [List.length_drop]; omega)), List.drop_drop]
      rfl
    · have := ((prsN_num hbt).1 hg).2; rw [hd]; show 2 :: b.drop (a + 1) = (2 :: (num s.size ++ bl s)) ++ b.drop (a3 + u); rw [this, hsz, hbl, List.cons_append, List.append_assoc]
      have e : (b.take (a3 + u)).drop a3 ++ b.drop (a3 + u) = b.drop a3 := by
        rw [List.drop_take, show a3 + u - a3 = u by omega, ← List.drop_drop, List.take_append_drop]
      rw [e]
  have hx2 : x ≠ 2 := fun h => hx2 (by omega); refine cE (fun hx3 => ?_) (fun hx3 => ?_); rotate_left
  · have hx3 : x ≠ 3 := fun h => hx3 (by omega); obtain ⟨A2, n2, c2, B2, hs2, hc2, ha2⟩ := hr2.ex
    have hnone : prsV f (b.drop a) = none := by rw [hd]; exact prsV_x hx1 hx2 hx3
    refine fldA ?_; refine st B2 (Nat.le_of_ble_eq_true rfl) rfl (fun u8 B8 k8 _ => ?_); have R8 := Blk.kept R2 k8 (show b4 ≠ r by omega); refine bld zeroV (by kernel_rfl) ?_; refine stA (vs := zeroV) R8 rfl (Nat.le_of_ble_eq_true rfl) (by simp [Value.oneCell']) (fun we Be ke _ => ?_); refine ret ?_; refine resL (.agg (zeroV).toArray) (holds_agg (.blk Be) rfl) ?_; exact ⟨(Kept.trans k02 k8).then ke fun i hi _ => by omega, zeroV, (a + 1), true, rfl, ⟨0, 0, emp, none, 0, 0, rfl⟩, back ⟨⟨_, _, _, B8.kept ke (show r ≠ b4 by omega), (hs2.kept k8 fun g _ hg => (hne g hg).1).kept ke fun g _ hg => (hne g hg).2, hc2, ha2⟩, fun g hg => (hne g hg).1⟩, fun _ => hnone, fun h => by cases h⟩
  have hx3 : x = 3 := by omega
  subst hx3; refine call_of (c_r01number hr2) ?_; rintro _ w3 ⟨k23, N, a3, bad, rfl, hu, hr3, hgood, hbad⟩; have R3 := R2.kept k23 (show b4 ≠ r by omega); have k03 := k02.trans k23; obtain ⟨A2, n2, c2, B2, hs2, hc2, ha2⟩ := hr3.ex; have hl2 := hs2.len; refine drawP (.take 0 (.take 1 (.take 2 (.take 3 (.take 4 (.take 5 (.take 6 (.take 7 (.take 8 (.take 9 (.take 10 (.take 11 (.take 12 (.take 13 (.take 14 (.take 15 (.take 16 (.take 17 (.take 18 (.take 19 (.take 20 (.take 21 (.take 22 .done))))))))))))))))))))))) [] (fun y => y = w3) mx (by kernel_rfl) rfl ?_
  cases hb : bad with
  | true =>
    refine fldA ?_; refine ld (.bool true) (B2.cell (by rw [hb]; rfl)) ?_
    have hnone : prsV f (b.drop a) = none := by rw [hd]; exact prsV_n3 (prsL_none (hbad hb))
    refine fldA ?_; refine st B2 (Nat.le_of_ble_eq_true rfl) rfl (fun u8 B8 k8 _ => ?_); have R8 := Blk.kept R3 k8 (show b4 ≠ r by omega); refine bld zeroV (by kernel_rfl) ?_; refine stA (vs := zeroV) R8 rfl (Nat.le_of_ble_eq_true rfl) (by simp [Value.oneCell']) (fun we Be ke _ => ?_); refine ret ?_; refine resL (.agg (zeroV).toArray) (holds_agg (.blk Be) rfl) ?_; exact ⟨(Kept.trans k03 k8).then ke fun i hi _ => by omega, zeroV, a3, true, rfl, ⟨0, 0, emp, none, 0, 0, rfl⟩, back ⟨⟨_, _, _, B8.kept ke (show r ≠ b4 by omega), (hs2.kept k8 fun g _ hg => (hne g hg).1).kept ke fun g _ hg => (hne g hg).2, hc2, ha2⟩, fun g hg => (hne g hg).1⟩, fun _ => hnone, fun h => by cases h⟩
  | false =>
  have hg := hgood hb; rw [hb] at hr3 B2; refine fldA ?_; refine ld (.bool false) (B2.cell rfl) ?_; refine fldA ?_; refine ld (.slice A2 n2 c2) (B2.cell rfl) ?_; refine len ?_; refine fldA ?_; refine ld (iv (a3 : Int)) (B2.cell rfl) ?_; refine arI (n := (n2 : Int) - (a3 : Int)) (by omega) ?_; refine cv64 (n2 - a3) (by omega) ?_; rw [Nat.mod_eq_of_lt (show n2 - a3 < 18446744073709551616 by omega)]; refine cD (fun hbig => ?_) (fun hbig => ?_)
  · have hnone : prsV f (b.drop a) = none := by rw [hd]; exact prsV_n3 (prsL_big hg (by rw [List.length_drop]; omega))
    refine fldA ?_; refine st B2 (Nat.le_of_ble_eq_true rfl) rfl (fun u8 B8 k8 _ => ?_); have R8 := Blk.kept R3 k8 (show b4 ≠ r by omega); refine bld zeroV (by kernel_rfl) ?_; refine stA (vs := zeroV) R8 rfl (Nat.le_of_ble_eq_true rfl) (by simp [Value.oneCell']) (fun we Be ke _ => ?_); refine ret ?_; refine resL (.agg (zeroV).toArray) (holds_agg (.blk Be) rfl) ?_; exact ⟨(Kept.trans k03 k8).then ke fun i hi _ => by omega, zeroV, a3, true, rfl, ⟨0, 0, emp, none, 0, 0, rfl⟩, back ⟨⟨_, _, _, B8.kept ke (show r ≠ b4 by omega), (hs2.kept k8 fun g _ hg => (hne g hg).1).kept ke fun g _ hg => (hne g hg).2, hc2, ha2⟩, fun g hg => (hne g hg).1⟩, fun _ => hnone, fun h => by cases h⟩
  have hfit : N ≤ n2 - a3 := by omega
  refine cE (fun hf0 => ?_) (fun hf0 => ?_)
  · have hf0 : f = 0 := by omega
    have hnone : prsV f (b.drop a) = none := by rw [hd, hf0]; exact prsV_03
    refine fldA ?_; refine st B2 (Nat.le_of_ble_eq_true rfl) rfl (fun u8 B8 k8 _ => ?_); have R8 := Blk.kept R3 k8 (show b4 ≠ r by omega); refine bld zeroV (by kernel_rfl) ?_; refine stA (vs := zeroV) R8 rfl (Nat.le_of_ble_eq_true rfl) (by simp [Value.oneCell']) (fun we Be ke _ => ?_); refine ret ?_; refine resL (.agg (zeroV).toArray) (holds_agg (.blk Be) rfl) ?_; exact ⟨(Kept.trans k03 k8).then ke fun i hi _ => by omega, zeroV, a3, true, rfl, ⟨0, 0, emp, none, 0, 0, rfl⟩, back ⟨⟨_, _, _, B8.kept ke (show r ≠ b4 by omega), (hs2.kept k8 fun g _ hg => (hne g hg).1).kept ke fun g _ hg => (hne g hg).2, hc2, ha2⟩, fun g hg => (hne g hg).1⟩, fun _ => hnone, fun h => by cases h⟩
  obtain ⟨g, rfl⟩ : ∃ g, f = g + 1 := ⟨f - 1, by omega⟩; have ihg : RVal1 g := ih g rfl; have hL := prsL_some hg (by rw [List.length_drop]; omega); have hprs := prsV_s3 (g := g) hL; refine bld [iv 3, iv 0, .string emp, .slice none 0 0] (by kernel_rfl) ?_; refine alloc (fun b8 w4 h4 => ?_); refine stA (vs := [iv 3, iv 0, .string emp, .slice none 0 0]) h4.blk rfl (Nat.le_of_ble_eq_true rfl) (by simp [Value.oneCell']) (fun w5 V5 k5 _ => ?_); have V5 : Blk w5 b8 113 [iv 3, iv 0, .string emp, .slice none 0 0] := V5; have e8 := h4.at_
  have x35 : Ext w3 w5 := h4.ext.then k5 fun i hi _ e => by omega
  have k05 := k03.trans (Ext.any x35); have s03 := k03.size; have s12 := k12.size; have s23 := k23.size; have s35 := x35.size; have lV5 := V5.lt; obtain ⟨F, hF⟩ : ∃ F, F = prsV g := ⟨_, rfl⟩; rw [← hF] at hprs; refine loop_rule (fun p : Nat × (Option Addr × Nat × Nat) × Nat × Bool => [(9, uv64 p.1)]) (fun p u => p.1 ≤ N ∧ p.2.1.2.1 = p.1 ∧ Kept (fun q => q ≠ r ∧ q ≠ b8) w5 u ∧ Blk u b8 113 [iv 3, iv 0, .string emp, .slice p.2.1.1 p.2.1.2.1 p.2.1.2.2] ∧ Rd1 D u r b p.2.2.1 p.2.2.2 ∧ ∃ cells, Own u (.slice p.2.1.1 p.2.1.2.1 p.2.1.2.2) 113 4 p.2.1.2.1 cells ∧ (∀ q, p.2.1.1 = some (ad q 0) → w5.heap.size ≤ q) ∧ (p.2.2.2 = true → prsM F N (b.drop a3) = none) ∧ (p.2.2.2 = false → ∃ xs : List VX, xs.length = p.1 ∧ FV g (fun q => w.heap.size ≤ q ∧ q ≠ b8 ∧ q ≠ b4) u p.2.1.1 xs cells ∧ b.drop a3 = xs.flatMap VX.e ++ b.drop p.2.2.1 ∧ prsM F N (b.drop a3) = (match prsM F (N - p.1) (b.drop p.2.2.1) with | some (l', r') => some (xs.map kn ++ l', r') | none => none))) (fun p _ => if p.2.2.2 = true then 0 else N + 1 - p.1) (0, (none, 0, 0), a3, false) ⟨rfl, trivial⟩ ⟨Nat.zero_le _, rfl, .refl _ _, V5, hr3.ext x35, [], Own.nil _ _ _, (fun q h => by cases h), (fun h => by cases h), fun _ => ⟨[], rfl, rfl, rfl, ?_⟩⟩ rfl ?_
  · show prsM F N (b.drop a3) = _
    cases prsM F N (b.drop a3) with
    | none => rfl
    | some p => rfl
  rintro G ⟨k, ⟨A, m, c⟩, q, bd⟩ u ⟨hk, hm, ku, Vu, hru, cells, own, hA, hbd1, hbd0⟩; have hk : k ≤ N := hk; have hm : m = k := hm; subst hm; have Vu : Blk u b8 113 [iv 3, iv 0, .string emp, .slice A m c] := Vu; have hru : Rd1 D u r b q bd := hru; have own : Own u (.slice A m c) 113 4 m cells := own; have hA : ∀ q, A = some (ad q 0) → w5.heap.size ≤ q := hA; have hbd1 : bd = true → prsM F N (b.drop a3) = none := hbd1; have hbd0 : bd = false → ∃ xs : List VX, xs.length = m ∧ FV g (fun q => w.heap.size ≤ q ∧ q ≠ b8 ∧ q ≠ b4) u A xs cells ∧ b.drop a3 = xs.flatMap VX.e ++ b.drop q ∧ prsM F N (b.drop a3) = (match prsM F (N - m) (b.drop q) with | some (l', r') => some (xs.map kn ++ l', r') | none => none) := hbd0; have su := ku.size; have k0u : Kept (fun g => g ≠ r) w u := k05.then ku fun i hi h => ⟨h, by omega⟩; have k5u := ku; have Ru := (R3.ext x35).kept ku (show b4 ≠ r ∧ b4 ≠ b8 by omega); obtain ⟨A6, n6, c6, B6, hs6, hc6, ha6⟩ := hru.ex; have hl6 := hs6.len
  have fin : ∀ (we : World), Kept (fun g => g ≠ b4) u we → (bd = true ∨ m = N) → ValA (g + 1) D0 w we r b a (.agg #[iv 3, iv 0, .string emp, .slice A m c]) := fun we ke hend => by
    have hcm : m ≤ c := by
      rcases own.form with ⟨e, e0⟩ | ⟨_, _, e, hle⟩
      · injection e with _ e2 e3; omega
      · injection e with _ _ e3; omega
    refine ⟨k0u.then ke fun i hi _ => by omega, [iv 3, iv 0, .string emp, .slice A m c], q, bd, rfl, ⟨3, 0, emp, A, m, c, rfl⟩, back (hru.kept ke (fun g _ hg => (hne g hg).2) (show r ≠ b4 by omega)), fun hb => ?_, fun hb => ?_⟩
    · rw [hd, hprs, hbd1 hb]
    · have hmN : m = N := hend.resolve_left (by rw [hb]; decide); obtain ⟨xs, hxl, hfv, hby, hpm⟩ := hbd0 hb; subst hmN; rw [Nat.sub_self] at hpm; have hpm : prsM F m (b.drop a3) = some (xs.map kn ++ [], b.drop q) := hpm; rw [List.append_nil] at hpm
      have hN9 : m ≤ 1000000000 := by omega
      have sl : SlR (tVX g) (fun b => w.heap.size ≤ b ∧ b ≠ b4) u A m xs := by
        refine Own.rd (a := tVX g) (by rw [tVX_sz]; exact own) (hfv.more fun b _ h => ⟨h.2.1, h.2.2.2⟩) hxl.symm (by omega) fun b hb => ?_; have := hA b hb; omega
      refine ⟨⟨3, 0, xs.map kn, 3 :: (num m ++ xs.flatMap VX.e)⟩, ?_, tVX_list rfl rfl ((sl.kept ke fun b _ h => h.2).more (tVX_pos g) fun b _ h => h.1) hcm hN9 rfl rfl, ?_⟩
      · rw [hd, hprs, hpm]
        rfl
      · have := ((prsN_num hbt).1 hg).2; rw [hd]; show 3 :: b.drop (a + 1) = (3 :: (num m ++ xs.flatMap VX.e)) ++ b.drop q; rw [this, hby, List.cons_append, List.append_assoc]
  refine cD (fun hlt => ?_) (fun hge => ?_); rotate_left
  · have hmN : m = N := by
      have h : ¬ ((m : Nat) : Int) < (N : Int) := hge; omega
    refine ldA [iv 3, iv 0, .string emp, .slice A m c] (.blk Vu) rfl ?_; refine stA (vs := [iv 3, iv 0, .string emp, .slice A m c]) Ru rfl (Nat.le_of_ble_eq_true rfl) (by simp [Value.oneCell']) (fun we Be ke _ => ?_); have Be : Blk we b4 113 [iv 3, iv 0, .string emp, .slice A m c] := Be; refine ret ?_; refine resL (.agg #[iv 3, iv 0, .string emp, .slice A m c]) (holds_agg (.blk Be) rfl) ?_; exact fin we ke (.inr hmN)
  have hlt : m < N := by
    have h : ((m : Nat) : Int) < (N : Int) := hlt; omega
  cases hbd : bd with
  | true =>
    refine fldA ?_; refine ld (.bool true) (B6.cell (by rw [hbd]; rfl)) ?_; refine ldA [iv 3, iv 0, .string emp, .slice A m c] (.blk Vu) rfl ?_; refine stA (vs := [iv 3, iv 0, .string emp, .slice A m c]) Ru rfl (Nat.le_of_ble_eq_true rfl) (by simp [Value.oneCell']) (fun we Be ke _ => ?_); have Be : Blk we b4 113 [iv 3, iv 0, .string emp, .slice A m c] := Be; refine ret ?_; refine resL (.agg #[iv 3, iv 0, .string emp, .slice A m c]) (holds_agg (.blk Be) rfl) ?_; exact fin we ke (.inl hbd)
  | false =>
  obtain ⟨xs, hxl, hfv, hby, hpm⟩ := hbd0 hbd; rw [hbd] at hru B6; refine fldA ?_; refine ld (.bool false) (B6.cell rfl) ?_; have hA8 : ∀ q, A = some (ad q 0) → w5.heap.size ≤ q ∧ q < u.heap.size := fun q h => ⟨hA q h, own.lt (by rw [h]; rfl)⟩; have n8 : b8 ≠ r ∧ A ≠ some (ad b8 0) := ⟨by omega, fun h => by have := hA b8 h; omega⟩; refine drawP (.take 0 (.take 1 (.take 2 (.take 3 (.take 4 (.eff 5 (.eff 6 (.eff 7 (.take 8 (.bar (.eff 9 .done))))))))))) [9] (fun y => Kept (fun q => q ≠ r ∧ A ≠ some (ad q 0)) u y) mx (by kernel_rfl) (.refl _ _) ?_; refine fldA ?_; refine ldK (.slice A m c) (Vu.cell rfl) n8 (.refl _ _) ?_; refine arI (n := (((16 - (g + 1) : Nat) : Nat) : Int) + 1) (by omega) ?_; rw [show (((16 - (g + 1) : Nat) : Nat) : Int) + 1 = ((16 - g : Nat) : Int) by omega]; refine call_of (ihg (by omega) hru) ?_; rintro _ u1 ⟨k1, cs1, a', bad', rfl, ⟨ck, cn, cst, cA, cm, cc, rfl⟩, hr1, hb1, hb0⟩; refine strS (k1.weak fun _ _ h => h.1) ?_; refine lit [.agg #[iv ck, iv cn, .string cst, .slice cA cm cc]] (fun g5 u2 h5 => ?_); have B5 : Blk u2 g5 113 [iv ck, iv cn, .string cst, .slice cA cm cc] := h5.blk; have k02' : Kept (fun q => q ≠ r) u u2 := k1.trans (Ext.any h5.ext); refine strS (k02'.weak fun _ _ h => h.1) ?_
  have own2 := own.kept k02' (D := fun q => q ≠ r) (fun q h => by
    have hq : A = some (ad q 0) := by
      rcases own.form with ⟨e, _⟩ | ⟨g', cap, e, _⟩
      · injection e with e; rw [e] at h; cases h
      · injection e with e; rw [e] at h ⊢; injection h with h; have h : g' = q := h; rw [h]
    have := hA q hq
    omega)
  have s2 := k02'.size; have hsc : Src u2 (some (ad g5 0)) 1 4 [iv ck, iv cn, .string cst, .slice cA cm cc] := ⟨rfl, fun _ => ⟨g5, 0, rfl, .blk B5⟩⟩; refine app own2 hsc (by simp [Value.oneCell']) rfl (by omega) (by omega) (by omega) (fun v' u3 ha => ?_); rcases ha.own.form with ⟨-, h0⟩ | ⟨gA, cap, rfl, hcap⟩
  · omega
  have hAo : ∀ q, A = some (ad q 0) ↔ (Value.slice A m c).ownBlock = some q := fun q => by
    rcases own.form with ⟨e, _⟩ | ⟨g', cap', e, _⟩
    · injection e with e; rw [e]; exact ⟨(fun h => by cases h), fun h => by cases h⟩
    · injection e with e; rw [e]; exact ⟨(fun h => by injection h with h; injection h with h; rw [h]; rfl), fun h => by injection h with h; have h : g' = q := h; rw [h]⟩
  have k3 : Kept (fun q => A ≠ some (ad q 0)) u2 u3 := by
    have hak : Kept (fun q => (Value.slice A m c).ownBlock ≠ some q) u2 u3 := ha.kept; exact hak.weak fun q _ h e => h ((hAo q).2 e)
  have hgA : A = some (ad gA 0) ∨ gA = u2.heap.size := by
    have hat : (Value.slice (some (ad gA 0)) (m + 1) cap).ownBlock = (Value.slice A m c).ownBlock ∨ (Value.slice (some (ad gA 0)) (m + 1) cap).ownBlock = some u2.heap.size := ha.at_; rcases hat with h | h
    · exact .inl ((hAo gA).2 h.symm)
    · right; injection h
  have hgA5 : w5.heap.size ≤ gA := by
    rcases hgA with h | h
    · exact hA gA h
    · omega
  have k03' : Kept (fun q => q ≠ r ∧ A ≠ some (ad q 0)) u u3 := (k02'.weak fun _ _ h => h.1).trans (k3.weak fun _ _ h => h.2); refine strS k03' ?_; refine fldA ?_; refine barS (fun _ => True) trivial ?_; refine st (Vu.kept k03' n8) (Nat.le_of_ble_eq_true rfl) rfl (fun u4 V4 k4 _ => ?_); have V4 : Blk u4 b8 113 [iv 3, iv 0, .string emp, .slice (some (ad gA 0)) (m + 1) cap] := V4; refine strS trivial ?_; refine add64 (a := m) (b := 1) (by omega) ?_; have k13 : Kept (fun q => A ≠ some (ad q 0)) u1 u3 := (Ext.any h5.ext).trans k3; have s01 := k1.size; have s12' := h5.ext.size; refine next (m + 1, (some (ad gA 0), m + 1, cap), a', bad') ⟨rfl, trivial⟩ ⟨by show m + 1 ≤ N; omega, rfl, (ku.then k03' fun i hi h => ⟨h.1, fun e => by have := hA i e; omega⟩).trans (k4.weak fun _ _ h => h.2), V4, ?_, cells ++ [iv ck, iv cn, .string cst, .slice cA cm cc], ha.own.kept k4 (fun q h => by injection h with h; have h : gA = q := h; omega), fun q h => by injection h with h; injection h with h; omega, fun hb => ?_, fun hb => ?_⟩ ?_
  · exact (hr1.kept k13 (fun q _ hq e => by have := hDlt q hq; have := hA q e; omega) (fun e => by have := hA r e; omega)).kept k4 (fun q _ hq e => by have := hDlt q hq; omega) (by omega)
  · have hn := hb1 hb; obtain ⟨n', hn'⟩ : ∃ n', N - m = n' + 1 := ⟨N - m - 1, by omega⟩; rw [hpm, hn']
    have e : prsM F (n' + 1) (b.drop q) = none := by
      conv => lhs; unfold prsM
      rw [hF, hn]
    rw [e]
  · obtain ⟨x1', hx1', hrep, hbx⟩ := hb0 hb; refine ⟨xs ++ [x1'], by rw [List.length_append, hxl]; rfl, ?_, ?_, ?_⟩
    · have hold : FV g (fun q => w.heap.size ≤ q ∧ q ≠ b8 ∧ q ≠ b4) u4 (some (ad gA 0)) xs cells := by
        have h1 : FlatR (tVX g) (fun b => (A ≠ some (ad b 0) ∧ w.heap.size ≤ b ∧ b ≠ b8 ∧ b ≠ b4) ∧ b < u.heap.size) u xs cells := hfv.more fun b hb h => ⟨h, hb⟩
        have h2 := h1.keep (w' := u4) fun j hj h => by
          have a1 := k03'.blk j hj ⟨by omega, h.1.1⟩; exact (k4.blk j (by have := k03'.size; omega) h.1.2.2.1).trans a1
        refine h2.more fun j _ h => ⟨fun e => ?_, h.1.2⟩; injection e with e; injection e with e; subst e; rcases hgA with h' | h'
        · exact h.1.1 h'
        · omega
      have hnew : FV g (fun q => w.heap.size ≤ q ∧ q ≠ b8 ∧ q ≠ b4) u4 (some (ad gA 0)) [x1'] [iv ck, iv cn, .string cst, .slice cA cm cc] := by
        have r1 := (tVX g).more (D' := fun q => u.heap.size ≤ q ∧ q < u1.heap.size) (fun b hb h => ⟨h, hb⟩) hrep; have k14 : Kept (fun q => A ≠ some (ad q 0) ∧ q ≠ b8) u1 u4 := (k13.weak fun q _ h => h.1).trans (k4.weak fun q _ h => h.2); have r2 := (tVX g).kept r1 k14 fun q _ h => ⟨fun e => by have := (hA8 q e).2; omega, by omega⟩; refine FlatR.one ((tVX g).more (fun q _ h => ⟨fun e => ?_, by omega, by omega, by omega⟩) r2); injection e with e; injection e with e; subst e; rcases hgA with h' | h'
        · have := (hA8 gA h').2; omega
        · omega
      exact hold.app hnew
    · rw [List.flatMap_append, hby, hbx]; simp
    · have := u_step (F := F) (n := N - m - 1) (l := xs.map kn) (x := x1'.vs) (r1 := b.drop a') (k := m) (by omega) hpm (by rw [hF]; exact hx1'); rw [this, List.map_append]
      rfl
  · cases bad' with
    | true => show 0 < N + 1 - m; omega
    | false => show N + 1 - (m + 1) < N + 1 - m; omega
theorem c_r01Value (f : Nat) : RVal1 f := by
  induction f with
  | zero => exact val_step 0 fun g h => by cases h
  | succ f ih => exact val_step (f + 1) fun g h => by cases h; exact ih
end
def DecA (w w' : World) (b : List Nat) (v : Value) : Prop := ∃ cs e, v = .tuple #[.agg cs.toArray, iv e] ∧ Cel cs ∧ Ext w w' ∧ ((e = 0 ∧ ∃ x : VX, prsV 16 b = some (x.vs, []) ∧ (tVX 16).rep (fun g => w.heap.size ≤ g) w' cs x) ∨ (e = 10 ∧ ∀ x, prsV 16 b ≠ some (x, [])))
section
variable {D : Nat → Prop} {w : World}
set_option maxRecDepth 8000 in
set_option maxHeartbeats 4000000 in
theorem c_r01Decode {A : Option Addr} {n c : Nat} {b : List Nat} (hs : SlR tU8 D w A n b) (hc : n ≤ c) (hbl : b.length ≤ 1000000000) : CallZ Tryz.prog 99 #[.slice A n c] w (fun v w' => DecA w w' b v) := by
  have hs := hs.more (D' := fun g => g < w.heap.size) (by decide) fun g hg _ => hg; have hl := hs.len; have hby := hs.u8b; refine fn_rule (args := [.slice A n c]) Tryz.func99 (by kernel_rfl) ?_; refine alloc (fun b2 w1 h1 => ?_); have R1 : Blk w1 b2 113 zeroV := h1.blk; have e1 := h1.at_; refine bld [.slice A n c, iv 0, .bool false] (by kernel_rfl) ?_; refine box (fun r w2 h2 => ?_); have B2 : Blk w2 r 241 [.slice A n c, iv ((0 : Nat) : Int), .bool false] := h2.blk; have e2 := h2.at_; have x02 := h1.ext.trans h2.ext; have lR := R1.lt; have s1 := h1.ext.size; have s2 := h2.ext.size; have hr : Rd1 (fun g => g < w.heap.size) w2 r b 0 false := ⟨⟨A, n, c, B2, hs.ext x02, hc, by omega, by omega⟩, fun g hg => by omega⟩; refine call_of (c_r01Value 16 (by omega) hr) ?_; rintro _ w3 ⟨k23, cs, a', bad, rfl, hcel, hr3, hbad, hgood⟩; rw [List.drop_zero] at hbad hgood; have hcl := hcel.len; have s23 := k23.size; refine alloc (fun b5 w4 h4 => ?_); refine stA (vs := cs) h4.blk hcl (by rw [hcl]; exact Nat.le_refl _) hcel.one (fun w5 V5 k5 _ => ?_)
  have V5 : Blk w5 b5 113 cs := by
    have e : ∀ X : List Value, X.length = 4 → X.drop (0 + cs.length) = [] := fun X hX => List.drop_of_length_le (by rw [hcl]; omega); rw [List.take_zero, List.nil_append, e _ rfl, List.append_nil] at V5; exact V5
  have e5 := h4.at_
  have x35 : Ext w3 w5 := h4.ext.then k5 fun i hi _ e => by omega
  have k25 : Kept (fun g => g ≠ r) w2 w5 := k23.trans (Ext.any x35)
  have x05 : Ext w w5 := x02.then k25 fun i hi _ e => by omega
  have hr5 := hr3.ext x35; obtain ⟨A6, n6, c6, B6, hs6, hc6, ha6, hn6⟩ := hr5.ex; have hl6 := hs6.len; have R5 := (R1.ext h2.ext).kept k25 (show b2 ≠ r by omega); have hs5 := hs.ext x05; have s25 := k25.size; have lV := V5.lt; have lR5 := R5.lt; refine draw_has (fun s : Bool => [(36, .bool s)]) (fun s u => Ext w5 u ∧ (s = true ↔ (bad = true ∨ a' ≠ n))) ?_ ?_
  · refine drawP (.take 0 (.take 1 (.take 2 (.take 3 (.take 4 (.take 5 (.take 6 (.take 7 (.take 8 (.take 9 (.take 10 (.take 11 (.take 12 (.take 13 (.take 14 (.eff 15 (.take 16 (.take 17 (.take 18 (.take 19 (.take 22 (.alt 20 (.alt 21 (.eff 23 (.take 24 (.take 25 .done))) (.eff 23 (.eff 21 (.take 24 (.take 25 .done))))) (.eff 23 (.eff 20 (.eff 21 (.take 24 (.take 25 .done))))))))))))))))))))))))))) [] (fun y => Ext w5 y) mx (by kernel_rfl) (.refl _ _) ?_
    cases hb : bad with
    | true =>
      refine fldA ?_; refine ldX (.bool true) (B6.cell (by rw [hb]; rfl)) (.refl _ _) ?_; refine strS (.refl _ _) ?_; refine ⟨?ya, ?yb⟩
      case' ya =>
        refine strS (.refl _ _) ?_; refine ⟨?yc, ?yd⟩
      case' yc =>
        refine strS (.refl _ _) ?_; refine strS (.refl _ _) ?_
      case' yd =>
        refine strS (.refl _ _) ?_; refine strS (.refl _ _) ?_
      case' yb =>
        refine strS (.refl _ _) ?_; refine strS (.refl _ _) ?_; refine strS (.refl _ _) ?_
      all_goals exact ⟨true, ⟨rfl, trivial⟩, .refl _ _, fun _ => .inl rfl, fun _ => rfl⟩
    | false =>
    refine fldA ?_; refine ldX (.bool false) (B6.cell (by rw [hb]; rfl)) (.refl _ _) ?_; refine fldA ?_; refine ldX (iv (a' : Int)) (B6.cell rfl) (.refl _ _) ?_; refine len ?_; refine cN (fun hne => ?_) (fun heq => ?_)
    · have hne : a' ≠ n := fun h => hne (by rw [h]); refine strS (.refl _ _) ?_; refine ⟨?za, ?zb⟩
      case' za =>
        refine strS (.refl _ _) ?_; refine ⟨?zc, ?zd⟩
      case' zc =>
        refine strS (.refl _ _) ?_; refine strS (.refl _ _) ?_
      case' zd =>
        refine strS (.refl _ _) ?_; refine strS (.refl _ _) ?_
      case' zb =>
        refine strS (.refl _ _) ?_; refine strS (.refl _ _) ?_; refine strS (.refl _ _) ?_
      all_goals exact ⟨true, ⟨rfl, trivial⟩, .refl _ _, fun _ => .inr hne, fun _ => rfl⟩
    · have heq : a' = n := by
        have h : ((a' : Nat) : Int) = (n : Int) := heq; omega
      obtain ⟨x, hx, hrep, hbx⟩ := hgood hb; have hnil : b.drop a' = [] := List.drop_of_length_le (by omega); rw [hnil, List.append_nil] at hbx; have hrep5 := (tVX 16).ext hrep x35; refine ldAX cs (.blk V5) hcl (.refl _ _) ?_; refine call_of (c_r01Check (by omega) hrep5) ?_; rintro _ u ⟨rfl, xu⟩; refine strS xu ?_; refine cN (fun h => absurd rfl h) (fun _ => ?_); refine ldAX cs (.blk V5) hcl (.refl _ _) ?_; have hrepu := (tVX 16).ext hrep5 xu; have sb : ∀ y, Ext w5 y → SlR tU8 (fun g => g < w.heap.size) y A n b := fun y hy => hs5.ext hy; refine ⟨?xa, ?xb⟩
      case' xa =>
        refine call_of (c_r01encode 16 hrepu (by rw [← hbx]; exact hbl)) ?_; rintro _ u1 ⟨E, m, d, rfl, hm, oE⟩; have x1 := xu.trans oE.ext
        have sE : SlR tU8 (fun _ => True) u1 E m b := by
          rw [← hbx] at oE hm; exact oE.u8 hby (by omega) fun _ _ => trivial
        refine strS x1 ?_; refine ⟨?xc, ?xd⟩
      case' xc =>
        refine cvBS rfl sE ?_; refine strS x1 ?_; refine cvBS rfl (sb _ x1) ?_; refine strS x1 ?_
      case' xd =>
        refine cvBS rfl (sb _ x1) ?_; refine strS x1 ?_; refine cvBS rfl sE ?_; refine strS x1 ?_
      case' xb =>
        refine cvBS rfl (sb _ xu) ?_; refine strS xu ?_; refine call_of (c_r01encode 16 hrepu (by rw [← hbx]; exact hbl)) ?_; rintro _ u1 ⟨E, m, d, rfl, hm, oE⟩; have x1 := xu.trans oE.ext
        have sE : SlR tU8 (fun _ => True) u1 E m b := by
          rw [← hbx] at oE hm; exact oE.u8 hby (by omega) fun _ _ => trivial
        refine strS x1 ?_; refine cvBS rfl sE ?_; refine strS x1 ?_
      all_goals
        refine neStr (fun h => absurd rfl h) (fun _ => ?_)
        exact ⟨false, ⟨rfl, trivial⟩, x1, fun h => (by cases h), fun h => (by rcases h with h | h; · cases h
                                                                              · exact absurd heq h)⟩
  rintro G36 s u ⟨xu, hsb⟩; have Ru := R5.ext xu; have x0u := x05.trans xu
  cases s with
  | true =>
    refine bld zeroV (by kernel_rfl) ?_; refine stA (vs := zeroV) Ru rfl (Nat.le_of_ble_eq_true rfl) (by simp [Value.oneCell']) (fun we Be ke _ => ?_); refine ret ?_; refine resL (.agg (zeroV).toArray) (holds_agg (.blk Be) rfl) ?_; refine ⟨zeroV, 10, rfl, ⟨0, 0, emp, none, 0, 0, rfl⟩, x0u.then ke fun i hi _ e => by omega, .inr ⟨rfl, fun x hx => ?_⟩⟩; rcases hsb.1 rfl with h | h
    · rw [hbad h] at hx; cases hx
    · cases hb : bad with
      | true => rw [hbad hb] at hx; cases hx
      | false =>
        obtain ⟨y, hy, -, -⟩ := hgood hb; rw [hy] at hx; simp only [Option.some.injEq, Prod.mk.injEq] at hx; have hl0 := congrArg List.length hx.2; rw [List.length_drop, List.length_nil] at hl0; omega
  | false =>
    have hno : ¬ (bad = true ∨ a' ≠ n) := fun h => by have := hsb.2 h; cases this
    have hbf : bad = false := by
      cases hb : bad with
      | true => exact absurd (.inl hb) hno
      | false => rfl
    have han : a' = n := Decidable.byContradiction fun h => hno (.inr h); obtain ⟨x, hx, hrep, hbx⟩ := hgood hbf; have hnil : b.drop a' = [] := List.drop_of_length_le (by omega); rw [hnil] at hx; refine ldA cs (.blk (V5.ext xu)) hcl ?_; refine stA (vs := cs) Ru hcl (by rw [hcl]; exact Nat.le_refl _) hcel.one (fun we Be ke _ => ?_)
    have Be : Blk we b2 113 cs := by
      rw [List.take_zero, List.nil_append, List.drop_of_length_le (by rw [hcl]; exact Nat.le_refl _), List.append_nil] at Be; exact Be
    refine ret ?_; refine resL (.agg cs.toArray) (holds_agg (.blk Be) hcl) ?_
    have hrepe := (tVX 16).kept ((tVX 16).ext hrep (x35.trans xu)) ke fun g _ hg => by omega
    exact ⟨cs, 0, rfl, hcel, x0u.then ke fun i hi _ e => by omega, .inl ⟨rfl, x, hx, (tVX 16).more (fun g _ hg => by omega) hrepe⟩⟩
end
end Go.Proofs.YtehcphboliofaaaGreatDoor
