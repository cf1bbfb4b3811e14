/- Contracts of the program: what a tree is worth. -/
import Derived.Test.YtpmmhcgghldaaaaDoorQ4
namespace Go.Proofs.YtpmmhcgghldaaaaDoor
open Go Go.RowKit

def cAt (ps : List (Int × Nat)) (i : Int) : Int := (ps.getD i.toNat (0, 0)).1
/-- The worst cost of a tree, by sets of bits; -1 if it is not right. -/
def pworth (ps : List (Int × Nat)) : Nat → Tr → Nat → Int
  | 0, _, _ => -1
  | d + 1, t, S =>
    if t.kids = [] then (if (ps.any fun x => psep x.2 S) = true ∨ t.probe ≠ 0 ∨ t.rest ≠ ofNats (mem S 12) then -1 else 0)
    else if t.rest ≠ [] ∨ t.kids.length ≠ 2 ∨ t.probe < 0 ∨ t.probe ≥ ps.length then -1
    else if mAt ps t.probe &&& S = 0 ∨ mAt ps t.probe &&& S = S then -1
    else if pworth ps d (kid t 0) (S - (mAt ps t.probe &&& S)) < 0 ∨ pworth ps d (kid t 1) (mAt ps t.probe &&& S) < 0 then -1
    else cAt ps t.probe + max (pworth ps d (kid t 0) (S - (mAt ps t.probe &&& S))) (pworth ps d (kid t 1) (mAt ps t.probe &&& S))
theorem pworth_le {ps : List (Int × Nat)} (hp : psOk ps) : ∀ (d : Nat) (t : Tr) (S : Nat), -1 ≤ pworth ps d t S ∧ pworth ps d t S ≤ S * 1048576
  | 0, t, S => by unfold pworth; omega
  | d + 1, t, S => by
    unfold pworth
    split
    · split <;> omega
    split
    · omega
    rename_i h1 h2
    split
    · omega
    rename_i h3
    split
    · omega
    have e1 := pworth_le hp d (kid t 0) (S - (mAt ps t.probe &&& S))
    have e2 := pworth_le hp d (kid t 1) (mAt ps t.probe &&& S)
    have hle : mAt ps t.probe &&& S ≤ S := Nat.and_le_right
    have hx : 1 ≤ cAt ps t.probe ∧ cAt ps t.probe ≤ 1048576 := by
      unfold cAt
      have hi : t.probe.toNat < ps.length := by omega
      rw [List.getD_eq_getElem?_getD, List.getElem?_eq_getElem hi]
      exact hp _ (List.getElem_mem hi)
    omega
def wval (v : Int) : Value := .tuple #[.int .i64 (if v < 0 then 0 else v), .bool (decide (0 ≤ v))]
theorem wval_neg {v : Int} (h : v < 0) : wval v = .tuple #[.int .i64 0, .bool false] := by unfold wval; rw [if_pos h, decide_eq_false (by omega)]
theorem wval_pos {v : Int} (h : 0 ≤ v) : wval v = .tuple #[.int .i64 v, .bool true] := by unfold wval; rw [if_neg (by omega), decide_eq_true h]
noncomputable def ordBar (es os1 os2 : List Nat) : Plan := List.rec (motive := fun _ => Plan) (.bar (ordPlan es os2)) (fun i _ ih => bif es.any (Nat.beq i) then .eff i ih else .take i ih) os1

theorem c_worth {b g : Nat} {h : PH} {pd : PD} (hok : PdOk pd) : ∀ (f : Nat) (t : Tr) (S : Nat) (Dt : Nat → Prop) (cs : List Value) (w : World), S < 4096 → PlanAt w b g h pd → TabW w → (tTr f).rep Dt w cs t →
    CallZ Tryd.prog 35 #[ptr b, .agg cs.toArray, .int .i64 (S : Int)] w (fun v w' => v = wval (pworth pd.ps f t S) ∧ Ext w w') := by
  intro f
  induction f with
  | zero => exact fun t S Dt cs w _ _ _ h => h.elim
  | succ f ih =>
    intro t S Dt cs w hS hp hT ht
    have hF := pworth.eq_2 pd.ps t S f
    obtain ⟨A5, n5, c5, A6, n6, c6, rfl, hti, hrs, -, hkd, -⟩ := tr_open ht
    have hr5 := hrs.1
    have hk6 := hkd.1
    have hkle := hkd.le
    refine fn_rule (args := [ptr b, .agg #[.int .i64 t.probe, .slice A5 n5 c5, .slice A6 n6 c6], .int .i64 (S : Int)]) Tryd.func35 (by kernel_rfl) ?_
    refine box (fun r4 w1 h1 => ?_)
    refine alloc (fun r6 w2 h2 => ?_)
    refine alloc (fun r7 w3 h3 => ?_)
    have e4 := h1.at_
    have e6 := h2.at_
    have e7 := h3.at_
    have s1 := h1.size
    have s2 := h2.size
    have s3 := h3.size
    have hx3 : Ext w w3 := (h1.ext.trans h2.ext).trans h3.ext
    have b4 : Blk w3 r4 29 [.int .i64 t.probe, .slice A5 n5 c5, .slice A6 n6 c6] := (h1.blk.ext h2.ext).ext h3.ext
    have b6 : Blk w3 r6 3 [.int .i64 0] := h2.blk.ext h3.ext
    have b7 : Blk w3 r7 4 [.bool false] := h3.blk
    have hp3 := hp.kept hx3.any
    refine fldA ?_
    refine ld _ (b4.cell rfl) ?_
    refine len ?_
    refine cE (fun h0 => ?_) (fun h0 => ?_)
    · have hk0 : t.kids = [] := List.eq_nil_of_length_eq_zero (by omega)
      rw [if_pos hk0] at hF
      refine call_of c_separating ?_
      rintro _ w4 ⟨b1, b2, rfl, hx4, hc1, hc2, hb1, hb2⟩
      have hw4 := hx3.trans hx4
      have sz4 := hx4.size
      have hsz := hw4.size
      refine range (gf := 49) (lb := #[ptr b1, ptr b2]) rfl (fun fn tmps w5 R hR hF5 hwf hx5 hsz5 hD5 hl5 => ?_)
      show CallZ _ _ #[.func (.yield (w4.heap.size + 1)) #[] #[], ptr b1, ptr b2] w5 _
      obtain ⟨l, hl⟩ : ∃ l, l = w4.heap.size + 1 := ⟨_, rfl⟩
      have hlen := hok.len
      have hw5 := hw4.trans hx5
      have hEx : ∀ w', Kept (fun x => x ≠ l ∧ x ≠ r6 ∧ x ≠ r7) w5 w' → Ext w w' := fun w' k => hw5.then k (fun b hb _ => ⟨by omega, by omega, by omega⟩)
      have bl1 := lt_of_cell hc1
      have bl2 := lt_of_cell hc2
      have b64 := (b6.ext hx4).ext hx5
      have b74 := (b7.ext hx4).ext hx5
      have wk : ∀ w', Kept (fun x => x ≠ l) w5 w' → Kept (fun x => x ≠ l ∧ x ≠ r6 ∧ x ≠ r7) w5 w' := fun w' k => k.weak (fun _ _ h => h.1)
      refine (c_separating1 (b := b) (g := g) (bx := b1) (bs := b2) (S := S) (h := h) hok hS
        (fun k w' => Kept (fun x => x ≠ l) w5 w' ∧ LoopAt w' (w4.heap.size + 1) R ∧ ((pd.ps.take k).any fun x => psep x.2 S) = false)
        (fun w' => Kept (fun x => x ≠ l ∧ x ≠ r6 ∧ x ≠ r7) w5 w' ∧ LoopAt w' (w4.heap.size + 1) { R with state := .done, pending := some .ret } ∧ Blk w' r6 3 [.int .i64 0] ∧ Blk w' r7 4 [.bool false] ∧ (pd.ps.any fun x => psep x.2 S) = true) ?_ ?_ ?_ ?_).mono ?_
      · rintro k w' ⟨hk, -, -⟩
        exact ⟨hp.kept (hEx w' (wk w' hk)).any, hk.cell (hx5.cell hc1 trivial) (show b1 ≠ l by omega), hk.cell (hx5.cell hc2 trivial) (show b2 ≠ l by omega)⟩
      · rintro k w' m ⟨hk, hlp, hno⟩ hmk hsep T hT'
        have hkl := (List.getElem?_eq_some_iff.1 hmk).1
        obtain ⟨cst, hck⟩ : ∃ c, pd.costs[k]? = some c := ⟨_, List.getElem?_eq_getElem (by omega)⟩
        have hmem : (cst, m) ∈ pd.ps := List.mem_of_getElem? (List.getElem?_zip_eq_some.2 ⟨hck, hmk⟩)
        subst hR
        refine yield_rule (args := [.int .i64 (k : Int), .int .i64 (T : Int)]) hlp rfl rfl hF5 hwf ?_
        refine mid' hlp (fun w9 kp hsz9 hl9 => ?_)
        have k9 : Kept (fun x => x ≠ l) w5 w9 := hk.then kp (fun b _ h e => h (by omega))
        refine st (b64.kept k9 (show r6 ≠ l by omega)) (by decide) rfl (fun w10 hb10 k10 hz10 => ?_)
        refine st ((b74.kept k9 (show r7 ≠ l by omega)).kept k10 (by omega)) (by decide) rfl (fun w11 hb11 k11 hz11 => ?_)
        refine roundR' _ ((hl9.kept k10 (show w4.heap.size + 1 ≠ r6 by omega)).kept k11 (show w4.heap.size + 1 ≠ r7 by omega)) (fun w12 k12 hl12 => ?_)
        refine .inr ⟨rfl, (((wk w9 k9).then k10 (fun b _ h => h.2.1)).then k11 (fun b _ h => h.2.2)).then k12 (fun b _ h e => h.1 (by omega)), hl12, ?_, ?_, ?_⟩
        · exact ((show Blk w10 r6 3 [.int .i64 0] from hb10).kept k11 (by omega)).kept k12 (by omega)
        · exact (show Blk w11 r7 4 [.bool false] from hb11).kept k12 (by omega)
        · exact List.any_eq_true.2 ⟨_, hmem, hsep⟩
      · rintro k w' m ⟨hk, hlp, hno⟩ hmk hsep
        have hkl := (List.getElem?_eq_some_iff.1 hmk).1
        obtain ⟨cst, hck⟩ : ∃ c, pd.costs[k]? = some c := ⟨_, List.getElem?_eq_getElem (by omega)⟩
        have hz : pd.ps[k]? = some (cst, m) := List.getElem?_zip_eq_some.2 ⟨hck, hmk⟩
        refine ⟨hk, hlp, ?_⟩
        rw [take_succ' hz, List.any_append, hno]
        simp [hsep]
      · exact ⟨.refl _ _, hl5, by simp⟩
      · rintro v w6 (⟨hk, hlp, hno⟩ | ⟨hk, hlp, hb6, hb7, hyes⟩)
        · have hno : (pd.ps.any fun x => psep x.2 S) = false := by
            rwa [List.take_of_length_le (by unfold PD.ps; rw [List.length_zip]; omega)] at hno
          refine range_end _ hlp (by rw [hR]; simp) (fun w7 k7 => ?_)
          subst hR
          have k57 : Kept (fun x => x ≠ l) w5 w7 := hk.then k7 (fun b _ h e => h (by omega))
          have hD7 : w7.heap[w4.heap.size]? = some (.deferred (some [])) := (k57.blk _ (by omega) (show w4.heap.size ≠ l by omega)).trans hD5
          have hx7 := hEx w7 (wk w7 k57)
          have b47 := ((b4.ext hx4).ext hx5).kept k57 (show r4 ≠ l by omega)
          have b67 := b64.kept k57 (show r6 ≠ l by omega)
          have b77 := b74.kept k57 (show r7 ≠ l by omega)
          have z7 := hx7.size
          have lt6 := b67.lt
          have lt7 := b77.lt
          have ltD := (Array.getElem?_eq_some_iff.1 hD7).1
          have stores : ∀ (w8 : World) (bb : Bool), Ext w7 w8 → wval (pworth pd.ps (f + 1) t S) = .tuple #[.int .i64 0, .bool bb] →
              ∀ w9, Blk w9 r6 3 [.int .i64 0] → Kept (fun x => x ≠ r6) w8 w9 → ∀ w10, Blk w10 r7 4 [.bool bb] → Kept (fun x => x ≠ r7) w9 w10 →
              (Ext w (w10.putObj w4.heap.size (.deferred none)) ∧ w10.heap[w4.heap.size]? = some (.deferred (some [])) ∧ (w10.putObj w4.heap.size (.deferred none)).cell? (ad r6 0) = some (.int .i64 0) ∧ (w10.putObj w4.heap.size (.deferred none)).cell? (ad r7 0) = some (.bool bb)) := fun w8 bb hx8 _ w9 hb9 k9 w10 hb10 k10 => by
            have kD := Kept.putObj w10 w4.heap.size (.deferred none)
            have z8 := hx8.size
            have z9 := k9.size
            exact ⟨(((hx7.trans hx8).then k9 (fun b hb _ e => by omega)).then k10 (fun b hb _ e => by omega)).then kD (fun b hb _ e => by omega),
              (k10.blk _ (by omega) (by omega)).trans ((k9.blk _ (by omega) (by omega)).trans ((hx8.blk _ ltD trivial).trans hD7)),
              ((hb9.kept k10 (by omega)).kept kD (by omega)).cell rfl, (hb10.kept kD (by omega)).cell rfl⟩
          refine drawK (fun x => x ≠ r6 ∧ x ≠ r7) [0, 1, 2, 3, 4, 5, 6, 7, 8, 9, 10, 11] [7, 8, 10, 11] mx (by kernel_rfl) ?_
          refine fldA ?_
          refine ldK _ (b47.cell rfl) ⟨show r4 ≠ r6 by omega, show r4 ≠ r7 by omega⟩ (.refl _ _) ?_
          refine cE (fun h1 => ?_) (fun h1 => ?_)
          · refine fldA ?_
            refine ldK _ (b47.cell rfl) ⟨show r4 ≠ r6 by omega, show r4 ≠ r7 by omega⟩ (.refl _ _) ?_
            refine call_of (c_list hS (hT.ext hx7)) ?_
            rintro _ w8 ⟨hx8, A8, n8, c8, rfl, hle8, hl8⟩
            refine strK hx8.any ?_
            have b68 := b67.ext hx8
            have b78 := b77.ext hx8
            refine callB (c_Equal (hrs.ext (hx7.trans hx8)).toAll hl8.nats.toAll) (fun h2 => ?_) (fun h2 => ?_)
            all_goals (
              refine strK (.refl _ _) ?_
              refine st b68 (by decide) rfl (fun w9 hb9 k9 hz9 => ?_)
              refine strK (k9.weak fun _ _ h => h.1) ?_
              refine st (b78.kept k9 (by omega)) (by decide) rfl (fun w10 hb10 k10 hz10 => ?_)
              refine strK (k10.weak fun _ _ h => h.2) ?_)
            · have h2 : t.rest = ofNats (mem S 12) := eq_of_beq h2
              rw [if_neg (by rintro (h | h | h); rw [hno] at h; cases h; exact h h1; exact h h2)] at hF
              obtain ⟨q1, q2, q3, q4⟩ := stores w8 true hx8 (by rw [hF]; rfl) w9 hb9 k9 w10 hb10 k10
              refine retM q2 ?_
              refine resL _ (holds_cell q3) ?_
              refine resL _ (holds_cell q4) ?_
              exact ⟨by rw [hF]; rfl, q1⟩
            · have h2 : t.rest ≠ ofNats (mem S 12) := ne_of_beq_false h2
              rw [if_pos (.inr (.inr h2))] at hF
              obtain ⟨q1, q2, q3, q4⟩ := stores w8 false hx8 (by rw [hF]; rfl) w9 hb9 k9 w10 hb10 k10
              refine retM q2 ?_
              refine resL _ (holds_cell q3) ?_
              refine resL _ (holds_cell q4) ?_
              exact ⟨by rw [hF]; rfl, q1⟩
          · rw [if_pos (.inr (.inl h1))] at hF
            refine strK (.refl _ _) ?_
            refine strK (.refl _ _) ?_
            refine st b67 (by decide) rfl (fun w9 hb9 k9 hz9 => ?_)
            refine strK (k9.weak fun _ _ h => h.1) ?_
            refine st (b77.kept k9 (by omega)) (by decide) rfl (fun w10 hb10 k10 hz10 => ?_)
            refine strK (k10.weak fun _ _ h => h.2) ?_
            obtain ⟨q1, q2, q3, q4⟩ := stores w7 false (.refl _ _) (by rw [hF]; rfl) w9 hb9 k9 w10 hb10 k10
            refine retM q2 ?_
            refine resL _ (holds_cell q3) ?_
            refine resL _ (holds_cell q4) ?_
            exact ⟨by rw [hF]; rfl, q1⟩
        · rw [if_pos (.inl hyes)] at hF
          refine range_end _ hlp (by simp) (fun w7 k7 => ?_)
          have k57 : Kept (fun x => x ≠ l ∧ x ≠ r6 ∧ x ≠ r7) w5 w7 := hk.then k7 (fun b _ h e => h.1 (by omega))
          have hD7 : w7.heap[w4.heap.size]? = some (.deferred (some [])) := (k57.blk _ (by omega) ⟨show w4.heap.size ≠ l by omega, by omega, by omega⟩).trans hD5
          have hx7 := hEx w7 k57
          have kD := Kept.putObj w7 w4.heap.size (.deferred none)
          have b67 := hb6.kept k7 (show r6 ≠ w4.heap.size + 1 by omega)
          have b77 := hb7.kept k7 (show r7 ≠ w4.heap.size + 1 by omega)
          refine retM hD7 ?_
          refine resL _ (holds_cell ((b67.kept kD (by omega)).cell rfl)) ?_
          refine resL _ (holds_cell ((b77.kept kD (by omega)).cell rfl)) ?_
          exact ⟨by rw [hF]; rfl, hx7.then kD (fun b hb _ e => by omega)⟩
    · have hk0 : t.kids ≠ [] := fun h => by rw [h] at hk6; simp at hk6; omega
      rw [if_neg hk0] at hF
      have hlen := hok.len
      have hpl : pd.ps.length = pd.shown.length := by unfold PD.ps; rw [List.length_zip]; omega
      have hn1 := hp3.shown.1
      have hn2 := hp3.costs.1
      have hle12 := hok.le
      refine drawQ mx (by kernel_rfl) ?_
      refine fldA ?_
      refine ld _ (b4.cell rfl) ?_
      refine len ?_
      refine cD (fun h1 => ?_) (fun h1 => ?_)
      · have : t.rest ≠ [] := fun h => by rw [h] at hr5; simp at hr5; omega
        rw [if_pos (.inl this)] at hF
        refine st b6 (by decide) rfl (fun wa hba ka hza => ?_)
        refine st (Blk.kept b7 ka (by omega)) (by decide) rfl (fun wb hbb kb hzb => ?_)
        refine ret ?_
        refine resL _ (holds_cell (((show Blk wa r6 3 [.int .i64 0] from hba).kept kb (by omega)).cell rfl)) ?_
        refine resL _ (holds_cell ((show Blk wb r7 4 [.bool false] from hbb).cell rfl)) ?_
        exact ⟨by rw [hF]; rfl, (Kept.then hx3 ka (fun b hb _ e => by omega)).then kb (fun b hb _ e => by omega)⟩
      refine fldA ?_
      refine ld _ (b4.cell rfl) ?_
      refine len ?_
      refine cN (fun h2 => ?_) (fun h2 => ?_)
      · rw [if_pos (.inr (.inl (by omega)))] at hF
        refine st b6 (by decide) rfl (fun wa hba ka hza => ?_)
        refine st (Blk.kept b7 ka (by omega)) (by decide) rfl (fun wb hbb kb hzb => ?_)
        refine ret ?_
        refine resL _ (holds_cell (((show Blk wa r6 3 [.int .i64 0] from hba).kept kb (by omega)).cell rfl)) ?_
        refine resL _ (holds_cell ((show Blk wb r7 4 [.bool false] from hbb).cell rfl)) ?_
        exact ⟨by rw [hF]; rfl, (Kept.then hx3 ka (fun b hb _ e => by omega)).then kb (fun b hb _ e => by omega)⟩
      refine fldA ?_
      refine ld _ (b4.cell rfl) ?_
      refine cD (fun h3 => ?_) (fun h3 => ?_)
      · rw [if_pos (.inr (.inr (.inl h3)))] at hF
        refine st b6 (by decide) rfl (fun wa hba ka hza => ?_)
        refine st (Blk.kept b7 ka (by omega)) (by decide) rfl (fun wb hbb kb hzb => ?_)
        refine ret ?_
        refine resL _ (holds_cell (((show Blk wa r6 3 [.int .i64 0] from hba).kept kb (by omega)).cell rfl)) ?_
        refine resL _ (holds_cell ((show Blk wb r7 4 [.bool false] from hbb).cell rfl)) ?_
        exact ⟨by rw [hF]; rfl, (Kept.then hx3 ka (fun b hb _ e => by omega)).then kb (fun b hb _ e => by omega)⟩
      refine fldA ?_
      refine ld _ (b4.cell rfl) ?_
      refine fldA ?_
      refine ld (.slice h.A1 h.n1 h.c1) (hp3.blk.cell rfl) ?_
      refine len ?_
      refine cD (fun h4 => ?_) (fun h4 => ?_)
      · rw [if_pos (.inr (.inr (.inr (by omega))))] at hF
        refine st b6 (by decide) rfl (fun wa hba ka hza => ?_)
        refine st (Blk.kept b7 ka (by omega)) (by decide) rfl (fun wb hbb kb hzb => ?_)
        refine ret ?_
        refine resL _ (holds_cell (((show Blk wa r6 3 [.int .i64 0] from hba).kept kb (by omega)).cell rfl)) ?_
        refine resL _ (holds_cell ((show Blk wb r7 4 [.bool false] from hbb).cell rfl)) ?_
        exact ⟨by rw [hF]; rfl, (Kept.then hx3 ka (fun b hb _ e => by omega)).then kb (fun b hb _ e => by omega)⟩
      have hrest : t.rest = [] := List.eq_nil_of_length_eq_zero (by omega)
      rw [if_neg (by rintro (h | h | h | h); exact h hrest; all_goals omega)] at hF
      obtain ⟨bs, os, cs, m, hA1, hm, -, -, hc, hr⟩ := hp3.shown.at_ (k := t.probe.toNat) (by omega)
      obtain ⟨rfl, -⟩ := tNat_rep hr
      obtain ⟨bc, oc, cc, cst, hA2, hcst, -, -, hcc, rfl, -⟩ := hp3.costs.at_ (k := t.probe.toNat) (by omega)
      have hx : pd.ps[t.probe.toNat]? = some (cst, m) := List.getElem?_zip_eq_some.2 ⟨hcst, hm⟩
      have hmA : mAt pd.ps t.probe = m := by unfold mAt; rw [List.getD_eq_getElem?_getD, hx]; rfl
      have hcA : cAt pd.ps t.probe = cst := by unfold cAt; rw [List.getD_eq_getElem?_getD, hx]; rfl
      have hm12 := hok.lt m (List.mem_of_getElem? hm)
      have hcok := hok.cost cst (List.mem_of_getElem? hcst)
      rw [hmA, hcA] at hF
      refine drawQ mx (by kernel_rfl) ?_
      refine fldA ?_
      refine ld (.slice (some (ad bs os)) h.n1 h.c1) (by rw [← hA1]; exact hp3.blk.cell rfl) ?_
      refine fldA ?_
      refine ld _ (b4.cell rfl) ?_
      refine idx t.probe.toNat (by omega) (by omega) ?_
      refine ld _ (hc 0 _ rfl) ?_
      refine andV (fun T hTT => ?_)
      rw [← hTT] at hF
      have hTle : T ≤ S := by rw [hTT]; exact Nat.and_le_right
      refine cE (fun h5 => ?_) (fun h5 => ?_)
      · rw [if_pos (.inl (by omega))] at hF
        refine st b6 (by decide) rfl (fun wa hba ka hza => ?_)
        refine st (Blk.kept b7 ka (by omega)) (by decide) rfl (fun wb hbb kb hzb => ?_)
        refine ret ?_
        refine resL _ (holds_cell (((show Blk wa r6 3 [.int .i64 0] from hba).kept kb (by omega)).cell rfl)) ?_
        refine resL _ (holds_cell ((show Blk wb r7 4 [.bool false] from hbb).cell rfl)) ?_
        exact ⟨by rw [hF]; rfl, (Kept.then hx3 ka (fun b hb _ e => by omega)).then kb (fun b hb _ e => by omega)⟩
      refine cE (fun h6 => ?_) (fun h6 => ?_)
      · rw [if_pos (.inr (by omega))] at hF
        refine st b6 (by decide) rfl (fun wa hba ka hza => ?_)
        refine st (Blk.kept b7 ka (by omega)) (by decide) rfl (fun wb hbb kb hzb => ?_)
        refine ret ?_
        refine resL _ (holds_cell (((show Blk wa r6 3 [.int .i64 0] from hba).kept kb (by omega)).cell rfl)) ?_
        refine resL _ (holds_cell ((show Blk wb r7 4 [.bool false] from hbb).cell rfl)) ?_
        exact ⟨by rw [hF]; rfl, (Kept.then hx3 ka (fun b hb _ e => by omega)).then kb (fun b hb _ e => by omega)⟩
      rw [if_neg (by omega)] at hF
      refine andNotV (fun q hq => ?_)
      have hqT : q = S - T := by rw [hq, hTT, and_and_self']
      rw [← hqT] at hF
      refine lit [.int .i64 (q : Int), .int .i64 (T : Int)] (fun g5 w4 h4' => ?_)
      have e5 := h4'.at_
      have sz4 := h4'.size
      have hw4 := hx3.trans h4'.ext
      have b64 := b6.ext h4'.ext
      have b74 := b7.ext h4'.ext
      have b44 := b4.ext h4'.ext
      have b5 : Blk w4 g5 3 [.int .i64 (q : Int), .int .i64 (T : Int)] := h4'.blk
      refine len ?_
      have hv0 := pworth_le (ps := pd.ps) hok.psOk f (kid t 0) q
      have hv1 := pworth_le (ps := pd.ps) hok.psOk f (kid t 1) T
      generalize hva : pworth pd.ps f (kid t 0) q = va at hF hv0
      generalize hvb : pworth pd.ps f (kid t 1) T = vb at hF hv1
      refine loop_rule (fun k : Nat => [(80, .int .i64 k)]) (fun k w' => k ≤ 2 ∧ Kept (fun x => x ≠ r6) w4 w' ∧ ∃ wst : Int, Blk w' r6 3 [.int .i64 wst] ∧ (k = 0 → wst = 0) ∧ (1 ≤ k → 0 ≤ va) ∧ (2 ≤ k → 0 ≤ vb) ∧ (k = 1 → wst = va) ∧ (k = 2 → wst = max va vb)) (fun k _ => 2 - k) 0 ⟨rfl, trivial⟩
        ⟨by omega, .refl _ _, 0, b64, fun _ => rfl, fun h => absurd h (by omega), fun h => absurd h (by omega), fun h => absurd h (by omega), fun h => absurd h (by omega)⟩ rfl ?_
      rintro G k w5 ⟨hk2, k5, wst, b65, i0, i1, i2, i3, i4⟩
      have hx5 : Ext w w5 := hw4.then k5 (fun b hb _ e => by omega)
      have sz5 := k5.size
      have b45 := b44.kept k5 (show r4 ≠ r6 by omega)
      have b55 := b5.kept k5 (show g5 ≠ r6 by omega)
      have b75 := b74.kept k5 (show r7 ≠ r6 by omega)
      refine cD (fun hlt => ?_) (fun hge => ?_)
      · have hk01 : k = 0 ∨ k = 1 := by omega
        refine idx k rfl (by omega) ?_
        obtain ⟨part, v, hpart, hpS, hv, hvl, hnm⟩ : ∃ (part : Nat) (v : Int), w5.cell? (ad g5 (0 + k * 1)) = some (.int .i64 (part : Int)) ∧ part < 4096 ∧ pworth pd.ps f (kid t k) part = v ∧ v ≤ 4294967296 ∧ ((k = 0 → v = va) ∧ (k = 1 → v = vb)) := by
          rcases hk01 with rfl | rfl
          · exact ⟨q, va, b55.cell rfl, by omega, hva, by omega, fun _ => rfl, fun h => absurd h (by omega)⟩
          · exact ⟨T, vb, b55.cell rfl, by omega, hvb, by omega, fun h => absurd h (by omega), fun _ => rfl⟩
        refine ld _ hpart ?_
        obtain ⟨bk, ok, ck, kd, rfl, hkk, -, -, hck, hrk⟩ := (hkd.ext hx5).at_ (k := k) (by omega)
        rw [tTr_sz] at hck
        rw [kid_of hkk] at hv
        refine fldA ?_
        refine ld _ (b45.cell rfl) ?_
        refine idx k rfl (by omega) ?_
        refine ldA ck hck ((tTr f).len hrk |>.trans (tTr_sz f)) ?_
        refine call_of (ih kd part Dt ck w5 hpS (hp.kept hx5.any) (hT.ext hx5) hrk) ?_
        rintro _ w6 ⟨rfl, hx6⟩
        rw [hv]
        have b66 := b65.ext hx6
        have b76 := b75.ext hx6
        have hx56 := hx5.trans hx6
        have sz6 := hx6.size
        rcases Int.lt_or_le v 0 with hneg | hpos
        · rw [wval_neg hneg]
          rw [if_pos (by rcases hk01 with rfl | rfl; exact .inl (by have := hnm.1 rfl; omega); exact .inr (by have := hnm.2 rfl; omega))] at hF
          refine st b66 (Nat.zero_lt_one) rfl (fun wa hba ka hza => ?_)
          refine st (Blk.kept b76 ka (by omega)) (by decide) rfl (fun wb hbb kb hzb => ?_)
          refine ret ?_
          refine resL _ (holds_cell (((show Blk wa r6 3 [.int .i64 0] from hba).kept kb (by omega)).cell rfl)) ?_
          refine resL _ (holds_cell ((show Blk wb r7 4 [.bool false] from hbb).cell rfl)) ?_
          exact ⟨by rw [hF]; rfl, (Kept.then hx56 ka (fun b hb _ e => by omega)).then kb (fun b hb _ e => by omega)⟩
        · rw [wval_pos hpos]
          refine ld _ (b66.cell rfl) ?_
          refine st b66 (Nat.zero_lt_one) rfl (fun w7 hb7 k7 hz7 => ?_)
          have hb7 : Blk w7 r6 3 [.int .i64 (max wst v)] := hb7
          refine arI (by omega) ?_
          refine next (k + 1) ⟨rfl, trivial⟩ ⟨by omega, (k5.ext hx6).trans k7, max wst v, hb7, fun h => absurd h (by omega), fun _ => ?_, fun _ => ?_, fun h => ?_, fun h => ?_⟩ (by omega)
          · rcases hk01 with rfl | rfl
            · have := hnm.1 rfl; omega
            · exact i1 (by omega)
          · have : k = 1 := by omega
            subst this
            have := hnm.2 rfl; omega
          · have : k = 0 := by omega
            subst this
            have := hnm.1 rfl; have := i0 rfl; omega
          · have : k = 1 := by omega
            subst this
            have := hnm.2 rfl; have := i3 rfl; rw [this, hnm.2 rfl]
      · have hk : k = 2 := by omega
        subst hk
        have hw := i4 rfl
        have ha := i1 (by omega)
        have hb := i2 (by omega)
        rw [if_neg (by omega), ← hw] at hF
        have hp5 := hp.kept hx5.any
        refine drawP (ordBar [10, 11] [0, 1, 2, 3, 4, 5, 6, 7, 8, 9] [10, 11]) [10, 11] (fun u => u = w5) mx (by kernel_rfl) rfl ?_
        refine fldA ?_
        refine ld (.slice (some (ad bc oc)) h.n2 h.c2) (by rw [← hA2]; exact hp5.blk.cell rfl) ?_
        refine fldA ?_
        refine ld _ (b45.cell rfl) ?_
        refine idx t.probe.toNat (by omega) (by omega) ?_
        refine ld (.int .i64 cst) ?_ ?_
        · obtain ⟨b2, o2, _, c2', e2, hc2', -, -, hcc2, rfl, -⟩ := hp5.costs.at_ (k := t.probe.toNat) (by omega)
          rw [hA2] at e2
          simp only [Option.some.injEq, Addr.mk.injEq] at e2
          obtain ⟨rfl, rfl, _⟩ := e2
          obtain rfl : c2' = cst := by rw [hcst] at hc2'; injection hc2' with e; exact e.symm
          exact hcc2 0 _ rfl
        refine ld _ (b65.cell rfl) ?_
        refine arI (by omega) ?_
        refine barS (fun _ => True) trivial ?_
        refine st b65 (Nat.zero_lt_one) rfl (fun wa hba ka hza => ?_)
        refine strS trivial ?_
        refine st (b75.kept ka (by omega)) (by decide) rfl (fun wb hbb kb hzb => ?_)
        refine strS trivial ?_
        refine ret ?_
        refine resL _ (holds_cell (((show Blk wa r6 3 [.int .i64 (cst + wst)] from hba).kept kb (by omega)).cell rfl)) ?_
        refine resL _ (holds_cell ((show Blk wb r7 4 [.bool true] from hbb).cell rfl)) ?_
        exact ⟨by rw [hF, wval_pos (by omega)]; rfl, (hx5.then ka (fun b hb _ e => by omega)).then kb (fun b hb _ e => by omega)⟩
end Go.Proofs.YtpmmhcgghldaaaaDoor
