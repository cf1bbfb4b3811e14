/- Contracts: the reference's best tree. -/
import Derived.Test.YtpmmhcgghldaaaaDoorP5
import Derived.Test.YtpmmhcgghldaaaaDoorPt
namespace Go.Proofs.YtpmmhcgghldaaaaDoor
open Go Go.RowKit

def rgood (l : List (List Int)) (c : Nat → Int) (list : List Nat) (x : Int × List Int) : Bool :=
  decide (0 < (partL l x list false).length ∧ 0 < (partL l x list true).length ∧ x.1 + max (c (bitsL (partL l x list false))) (c (bitsL (partL l x list true))) = c (bitsL list))
def firstFrom {α : Type} (f : α → Bool) (k : Nat) : List α → Option (Nat × α)
  | [] => none
  | x :: r => if f x then some (k, x) else firstFrom f (k + 1) r
def rtreeF (l : List (List Int)) (p : List (Int × List Int)) (c : Nat → Int) : Nat → List Nat → Tr
  | 0, _ => .mk 0 [] []
  | f + 1, list => match firstFrom (rgood l c list) 0 p with
    | some (i, x) => .mk i [] [rtreeF l p c f (partL l x list false), rtreeF l p c f (partL l x list true)]
    | none => .mk 0 (list.map fun k : Nat => (k : Int)) []
theorem part_split {l : List (List Int)} {x : Int × List Int} {list : List Nat} : (partL l x list true).length + (partL l x list false).length = list.length := by
  unfold partL
  induction list with
  | nil => rfl
  | cons i r ih => rw [List.filter_cons, List.filter_cons]; cases shw l x i <;> simp at ih ⊢ <;> omega
theorem part_bits_split {l : List (List Int)} {x : Int × List Int} {list : List Nat} : bitsL (partL l x list true) + bitsL (partL l x list false) = bitsL list := by
  unfold partL
  induction list with
  | nil => rfl
  | cons i r ih => rw [List.filter_cons, List.filter_cons, bitsL_cons]; cases shw l x i <;> simp [bitsL_cons] at ih ⊢ <;> omega
theorem part_bits_le' {l : List (List Int)} {x : Int × List Int} {list : List Nat} {som : Bool} : bitsL (partL l x list som) ≤ bitsL list := by
  have := part_bits_split (l := l) (x := x) (list := list)
  cases som <;> omega
abbrev All : Nat → Prop := fun _ => True

theorem c_rtree {l : List (List Int)} {p : List (Int × List Int)} {ct : List Int} {n m : Nat} (hN : n ≤ 12) (hm : m ≤ 1000) (hok : prOk p) (htab : tabOk ct) (hct : ct.length = 2 ^ n) :
    ∀ (f : Nat) (list : List Nat) (D D' D4 : Nat → Prop) (w : World) (A A2 A3 A4 : Option Addr) (q k c e d g : Nat), SlR tInts D w A n l → SlR tPr D w A2 m p → SlR tInt D' w A3 q ct → SlR tNat D4 w A4 k list → (∀ i ∈ list, i < n) → k ≤ n → bitsL list < 2 ^ n → list.length < f →
    k ≤ g → CallZ Tryd.prog 31 #[.slice A n c, .slice A2 m e, .slice A3 q d, .slice A4 k g] w (fun v w' => ∃ cs, v = .agg cs.toArray ∧ (tTr f).rep (fun b => D4 b ∨ w.heap.size ≤ b) w' cs (rtreeF l p (fun k => ct.getD k 0) f list) ∧ Ext w w') := by
  intro f
  induction f with
  | zero => exact fun list _ _ _ _ _ _ _ _ _ _ _ _ _ _ _ _ _ _ _ _ _ hf _ => absurd hf (Nat.not_lt_zero _)
  | succ f ih =>
    intro list D D' D4 w A A2 A3 A4 q k c e d g hl hp hc hs hin hk hbl hf hkg
    have hkl := hs.1
    have hq := hc.1
    have hpl := hp.1
    generalize hcf : (fun k => ct.getD k 0) = cf
    refine fn_rule (args := [.slice A n c, .slice A2 m e, .slice A3 q d, .slice A4 k g]) Tryd.func31 (by kernel_rfl) ?_
    refine alloc (fun gr w1 hb => ?_)
    have hx1 := hb.ext
    refine call_of (c_bits (hs.ext hx1) (fun i hi => by have := hin i hi; omega) (by omega)) ?_
    rintro _ w1 ⟨rfl, rfl⟩
    refine loop_rule (fun i : Nat => [(10, .int .i64 i)]) (fun i w' => i ≤ m ∧ Ext w1 w' ∧ firstFrom (rgood l cf list) 0 p = firstFrom (rgood l cf list) i (p.drop i)) (fun i _ => m - i) 0 ⟨rfl, trivial⟩ ⟨by omega, .refl _ _, rfl⟩ rfl ?_
    rintro G i w2 ⟨hi, hx2, he⟩
    have hw2 := hx1.trans hx2
    have hblk2 : Blk w2 gr 29 [.int .i64 0, .slice none 0 0, .slice none 0 0] := hb.blk.ext hx2
    refine len ?_
    refine cD (fun hlt => ?_) (fun hge => ?_)
    · have hlt : i < m := by omega
      obtain ⟨b, o, cs, x, rfl, hx, hdx, hbB, hcc, hr⟩ := (hp.ext hw2).at_ hlt
      rw [hdx, firstFrom] at he
      have hxok := hok x (List.mem_of_getElem? hx)
      refine idx i rfl hlt ?_
      refine ldA cs hcc (tPr.len hr) ?_
      refine call_of (c_rPart (som := false) (hl.ext hw2) hr (hs.ext hw2) hin (by omega)) ?_
      rintro _ w3 ⟨hx3, A5, n5, c5, rfl, hle5, hnob⟩
      have hw3 := hw2.trans hx3
      refine idx i rfl hlt ?_
      refine ldA cs (hcc.kept hx3 trivial) (tPr.len hr) ?_
      refine call_of (c_rPart (som := true) (hl.ext hw3) (tPr.ext hr hx3) (hs.ext hw3) hin (by omega)) ?_
      rintro _ w4 ⟨hx4, A6, n6, c6, rfl, hle6, hsom⟩
      have hw4 := hw3.trans hx4
      have hnob4 := hnob.ext hx4
      have hsp := part_split (l := l) (x := x) (list := list)
      have hbsp := part_bits_split (l := l) (x := x) (list := list)
      have hin5 : ∀ i ∈ partL l x list false, i < n := fun i hi => hin i (partL_sub i hi)
      have hin6 : ∀ i ∈ partL l x list true, i < n := fun i hi => hin i (partL_sub i hi)
      have hl5 := hnob4.1
      have hl6 := hsom.1
      refine drawQ mx (by kernel_rfl) ?_
      refine len ?_
      refine cD (fun h1 => ?_) (fun h1 => ?_)
      · refine len ?_
        refine cD (fun h2 => ?_) (fun h2 => ?_)
        · obtain ⟨Ax, nx, cx, rfl, hxi, hxs, -⟩ := pr_open hr
          have hcc4 := hcc.kept (hx3.trans hx4) trivial
          have hc4 := hc.ext hw4
          generalize hb5 : bitsL (partL l x list false) = b5 at *
          generalize hb6 : bitsL (partL l x list true) = b6 at *
          obtain ⟨b1, o1, _, v1, rfl, hv1, -, -, hc1, rfl, -⟩ := hc4.at_ (k := b5) (by omega)
          obtain ⟨b2, o2, _, v2, e2, hv2, -, -, hc2, rfl, -⟩ := hc4.at_ (k := b6) (by omega)
          simp only [Option.some.injEq, Addr.mk.injEq] at e2
          obtain ⟨rfl, rfl, _⟩ := e2
          obtain ⟨b3, o3, _, v3, e3, hv3, -, -, hc3, rfl, -⟩ := hc4.at_ (k := bitsL list) (by omega)
          simp only [Option.some.injEq, Addr.mk.injEq] at e3
          obtain ⟨rfl, rfl, _⟩ := e3
          have ht1 := htab _ _ hv1
          have ht2 := htab _ _ hv2
          have hpow : 2 ^ n ≤ 2 ^ 12 := Nat.pow_le_pow_right (by omega) hN
          have hcf1 : cf b5 = v1 := by rw [← hcf]; simp [hv1]
          have hcf2 : cf b6 = v2 := by rw [← hcf]; simp [hv2]
          have hcf3 : cf (bitsL list) = v3 := by rw [← hcf]; simp [hv3]
          refine idx i rfl hlt ?_
          refine fldA ?_
          refine ld _ (hcc4 0 _ rfl) ?_
          refine callQ (fun u hu => by subst hu; exact c_bits hnob4 (fun i hi => by have := hin5 i hi; omega) (by omega)) ?_
          refine idx b5 (by rw [hb5]) (by omega) ?_
          refine ld _ (hc1 0 _ rfl) ?_
          refine callQ (fun u hu => by subst hu; exact c_bits hsom (fun i hi => by have := hin6 i hi; omega) (by omega)) ?_
          refine idx b6 (by rw [hb6]) (by omega) ?_
          refine ld _ (hc2 0 _ rfl) ?_
          refine arI (by omega) ?_
          refine idx (bitsL list) rfl (by omega) ?_
          refine ld _ (hc3 0 _ rfl) ?_
          refine cE (fun h3 => ?_) (fun h3 => ?_)
          · have hgd : rgood l cf list x = true := by unfold rgood; rw [hb5, hb6, hcf1, hcf2, hcf3]; exact decide_eq_true ⟨by omega, by omega, h3⟩
            rw [hgd, if_pos rfl] at he
            refine call_of (ih _ D D' _ _ _ _ _ _ _ _ _ _ _ _ (hl.ext hw4) (hp.ext hw4) hc4 hnob4 hin5 (by omega) (by omega) (by omega) hle5) ?_
            rintro _ w5 ⟨cs5, rfl, hr5, hx5⟩
            rw [hcf] at hr5
            have hw5 := hw4.trans hx5
            refine call_of (ih _ D D' _ _ _ _ _ _ _ _ _ _ _ _ (hl.ext hw5) (hp.ext hw5) (hc.ext hw5) (hsom.ext hx5) hin6 (by omega) (by omega) (by omega) hle6) ?_
            rintro _ w6 ⟨cs6, rfl, hr6, hx6⟩
            rw [hcf] at hr6
            obtain ⟨f, rfl⟩ := tr_pos hr5
            have hr5' := (tTr (f + 1)).ext hr5 hx6
            obtain ⟨_, _, _, _, _, _, rfl, -⟩ := tr_open hr5
            obtain ⟨_, _, _, _, _, _, rfl, -⟩ := tr_open hr6
            refine lit [.agg _, .agg _] (fun g7 w7 hb7 => ?_)
            refine bld [.int .i64 i, .slice none 0 0, .slice (some (ad g7 0)) 2 2] (by kernel_rfl) ?_
            have hx67 := hb7.ext
            have hblk7 := ((hblk2.ext (hx3.trans hx4)).ext (hx5.trans hx6)).ext hx67
            refine stA (vs := [.int .i64 i, .slice none 0 0, .slice (some (ad g7 0)) 2 2]) hblk7 rfl (Nat.le_of_ble_eq_true rfl) (by simp [Value.oneCell']) (fun w8 hb8 hk8 hz8 => ?_)
            have hb8 : Blk w8 gr 29 [.int .i64 i, .slice none 0 0, .slice (some (ad g7 0)) 2 2] := hb8
            have hbl7 : Blk w7 g7 29 ([.int .i64 _, .slice _ _ _, .slice _ _ _] ++ [.int .i64 _, .slice _ _ _, .slice _ _ _]) := hb7.blk
            have hgs : gr < w7.heap.size := hblk7.lt
            have hg7 : g7 ≠ gr := by
              have := hb7.at_; have := (hb.blk.ext (hx2.trans ((hx3.trans hx4).trans (hx5.trans hx6)))).lt
              omega
            have hx8 : Ext w w8 := by
              have := hb.at_
              exact (hw4.trans ((hx5.trans hx6).trans hx67)).then hk8 (fun b hb _ e => by omega)
            refine ret ?_
            refine resL _ (holds_agg (.blk hb8) rfl) ?_
            refine ⟨_, rfl, ?_, hx8⟩
            have hgr1 : gr < w1.heap.size := hb.blk.lt
            have hs1 := hx2.size
            have hs2 := hx3.size
            have hs3 := hx4.size
            have hs4 := hx5.size
            have hgw := hb.at_
            have hk68 : Kept (fun b => b ≠ gr) w6 w8 := hx67.any.trans hk8
            have r5 := (tTr (f + 1)).more (D' := fun b => w1.heap.size ≤ b) (fun b _ h => by rcases h with h | h <;> omega) hr5'
            have r6 := (tTr (f + 1)).more (D' := fun b => w1.heap.size ≤ b) (fun b _ h => by rcases h with h | h <;> omega) hr6
            have r5 := (tTr (f + 1)).kept r5 hk68 (fun b _ h e => by omega)
            have r6 := (tTr (f + 1)).kept r6 hk68 (fun b _ h e => by omega)
            have r5 := (tTr (f + 1)).more (D' := fun b => D4 b ∨ w.heap.size ≤ b) (fun b _ h => .inr (by omega)) r5
            have r6 := (tTr (f + 1)).more (D' := fun b => D4 b ∨ w.heap.size ≤ b) (fun b _ h => .inr (by omega)) r6
            rw [rtreeF, he]
            refine tr_mk (t := .mk i [] [_, _]) ⟨by show (-9223372036854775808 : Int) ≤ (i : Int); omega, by show (i : Int) ≤ 9223372036854775807; omega⟩ .nil (Nat.le_refl _) ?_ (Nat.le_refl _)
            have hs7 := hx6.size
            exact SlR.of_cells rfl (by decide) (.inr (by rw [hb7.at_]; omega)) (.blk (hbl7.kept hk8 hg7)) ⟨_, _, rfl, r5, _, [], rfl, r6, rfl⟩
          · have hgd : rgood l cf list x = false := by unfold rgood; rw [hb5, hb6, hcf1, hcf2, hcf3]; exact decide_eq_false (fun h => h3 h.2.2)
            rw [hgd] at he
            refine arI (by omega) ?_
            exact next (i + 1) ⟨rfl, trivial⟩ ⟨by omega, hx2.trans (hx3.trans hx4), he⟩ (by omega)
        · have hgd : rgood l cf list x = false := decide_eq_false (fun h => by omega)
          rw [hgd] at he
          refine arI (by omega) ?_
          exact next (i + 1) ⟨rfl, trivial⟩ ⟨by omega, hx2.trans (hx3.trans hx4), he⟩ (by omega)
      · have hgd : rgood l cf list x = false := decide_eq_false (fun h => by omega)
        rw [hgd] at he
        refine arI (by omega) ?_
        exact next (i + 1) ⟨rfl, trivial⟩ ⟨by omega, hx2.trans (hx3.trans hx4), he⟩ (by omega)
    · rw [drop_end (by rw [hp.len]; omega), firstFrom] at he
      refine bld [.int .i64 0, .slice A4 k g, .slice none 0 0] (by kernel_rfl) ?_
      refine stA (vs := [.int .i64 0, .slice A4 k g, .slice none 0 0]) hblk2 rfl (Nat.le_of_ble_eq_true rfl) (by simp [Value.oneCell']) (fun w8 hb8 hk8 hz8 => ?_)
      have hb8 : Blk w8 gr 29 [.int .i64 0, .slice A4 k g, .slice none 0 0] := hb8
      have hx8 : Ext w w8 := by
        have := hb.at_
        exact hw2.then hk8 (fun b hb _ e => by omega)
      refine ret ?_
      refine resL _ (holds_agg (.blk hb8) rfl) ?_
      refine ⟨_, rfl, ?_, hx8⟩
      rw [rtreeF, he]
      exact tr_mk (t := .mk 0 _ []) (show I64 0 from ⟨by decide, by decide⟩) (((hs.ext hx8).more (by decide) (fun _ _ h => .inl h)).nats) hkg .nil (Nat.le_refl _)
end Go.Proofs.YtpmmhcgghldaaaaDoor
