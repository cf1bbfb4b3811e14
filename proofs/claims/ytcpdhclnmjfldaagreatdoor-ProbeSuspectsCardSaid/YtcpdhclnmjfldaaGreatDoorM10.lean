/- Parts of the proof: Q5 Ps Q6 Q7 Q8 Q9 R1 Rp. -/
import Derived.Test.YtcpdhclnmjfldaaGreatDoorM9
import Derived.Laws.Cover3

/- Contracts of the program: what a tree is worth. -/
namespace Go.Proofs.YtcpdhclnmjfldaaGreatDoor
open Go Go.RowKit

def cAt (ps : List (Int × Nat)) (i : Int) : Int := (ps.getD i.toNat (0, 0)).1
/-- The worst cost of a tree, by sets of bits; -1 if it is not right. -/
def pworth (ps : List (Int × Nat)) : Nat → Tr → Nat → Int
  | 0, _, _ => -1
  | d + 1, t, S =>
    if t.kids = [] then (if (ps.any fun x => psep x.2 S) = true ∨ t.probe ≠ 0 ∨ t.rest ≠ ofNats (mem S 12) then -1 else 0)
    else if t.rest ≠ [] ∨ t.kids.length ≠ 2 ∨ t.probe < 0 ∨ t.probe ≥ ps.length then -1
    else if mAt ps t.probe &&& S = 0 ∨ mAt ps t.probe &&& S = S then -1
    else if pworth ps d (kid t 0) (S - (mAt ps t.probe &&& S)) < 0 ∨ pworth ps d (kid t 1) (mAt ps t.probe &&& S) < 0 then -1
    else cAt ps t.probe + max (pworth ps d (kid t 0) (S - (mAt ps t.probe &&& S))) (pworth ps d (kid t 1) (mAt ps t.probe &&& S))
theorem pworth_le {ps : List (Int × Nat)} (hp : psOk ps) : ∀ (d : Nat) (t : Tr) (S : Nat), -1 ≤ pworth ps d t S ∧ pworth ps d t S ≤ S * 1048576
  | 0, t, S => by unfold pworth; omega
  | d + 1, t, S => by
    unfold pworth
    split
    · split <;> omega
    split
    · omega
    rename_i h1 h2
    split
    · omega
    rename_i h3
    split
    · omega
    have e1 := pworth_le hp d (kid t 0) (S - (mAt ps t.probe &&& S))
    have e2 := pworth_le hp d (kid t 1) (mAt ps t.probe &&& S)
    have hle : mAt ps t.probe &&& S ≤ S := Nat.and_le_right
    have hx : 1 ≤ cAt ps t.probe ∧ cAt ps t.probe ≤ 1048576 := by
      unfold cAt
      have hi : t.probe.toNat < ps.length := by omega
      rw [List.getD_eq_getElem?_getD, List.getElem?_eq_getElem hi]
      exact hp _ (List.getElem_mem hi)
    omega
def wval (v : Int) : Value := .tuple #[.int .i64 (if v < 0 then 0 else v), .bool (decide (0 ≤ v))]
theorem wval_neg {v : Int} (h : v < 0) : wval v = .tuple #[.int .i64 0, .bool false] := by unfold wval; rw [if_pos h, decide_eq_false (by omega)]
theorem wval_pos {v : Int} (h : 0 ≤ v) : wval v = .tuple #[.int .i64 v, .bool true] := by unfold wval; rw [if_neg (by omega), decide_eq_true h]
noncomputable def ordBar (es os1 os2 : List Nat) : Plan := List.rec (motive := fun _ => Plan) (.bar (ordPlan es os2)) (fun i _ ih => bif es.any (Nat.beq i) then .eff i ih else .take i ih) os1

theorem c_worth {b g : Nat} {h : PH} {pd : PD} (hok : PdOk pd) : ∀ (f : Nat) (t : Tr) (S : Nat) (Dt : Nat → Prop) (cs : List Value) (w : World), S < 4096 → PlanAt w b g h pd → TabW w → (tTr f).rep Dt w cs t →
    CallZ Tryz.prog 27 #[ptrQ b, .agg cs.toArray, .int .i64 (S : Int)] w (fun v w' => v = wval (pworth pd.ps f t S) ∧ Ext w w') := by
  intro f
  induction f with
  | zero => exact fun t S Dt cs w _ _ _ h => h.elim
  | succ f ih =>
    intro t S Dt cs w hS hp hT ht
    have hF := pworth.eq_2 pd.ps t S f
    obtain ⟨A5, n5, c5, A6, n6, c6, rfl, hti, hrs, -, hkd, -⟩ := tr_open ht
    have hr5 := hrs.1
    have hk6 := hkd.1
    have hkle := hkd.le
    refine fn_rule (args := [ptrQ b, .agg #[.int .i64 t.probe, .slice A5 n5 c5, .slice A6 n6 c6], .int .i64 (S : Int)]) Tryz.func27 (by kernel_rfl) ?_
    refine box (fun r4 w1 h1 => ?_)
    refine alloc (fun r6 w2 h2 => ?_)
    refine alloc (fun r7 w3 h3 => ?_)
    have e4 := h1.at_
    have e6 := h2.at_
    have e7 := h3.at_
    have s1 := h1.size
    have s2 := h2.size
    have s3 := h3.size
    have hx3 : Ext w w3 := (h1.ext.trans h2.ext).trans h3.ext
    have b4 : Blk w3 r4 48 [.int .i64 t.probe, .slice A5 n5 c5, .slice A6 n6 c6] := (h1.blk.ext h2.ext).ext h3.ext
    have b6 : Blk w3 r6 3 [.int .i64 0] := h2.blk.ext h3.ext
    have b7 : Blk w3 r7 4 [.bool false] := h3.blk
    have hp3 := hp.kept hx3.any
    refine fldA ?_
    refine ld _ (b4.cell rfl) ?_
    refine len ?_
    refine cE (fun h0 => ?_) (fun h0 => ?_)
    · have hk0 : t.kids = [] := List.eq_nil_of_length_eq_zero (by omega)
      rw [if_pos hk0] at hF
      refine call_of c_separating ?_
      rintro _ w4 ⟨b1, b2, rfl, hx4, hc1, hc2, hb1, hb2⟩
      have hw4 := hx3.trans hx4
      have sz4 := hx4.size
      have hsz := hw4.size
      refine range (gf := 59) (lb := #[ptrQ b1, ptrQ b2]) rfl (fun fn tmps w5 R hR hF5 hwf hx5 hsz5 hD5 hl5 => ?_)
      show CallZ _ _ #[.func (.yield (w4.heap.size + 1)) #[] #[], ptrQ b1, ptrQ b2] w5 _
      obtain ⟨l, hl⟩ : ∃ l, l = w4.heap.size + 1 := ⟨_, rfl⟩
      have hlen := hok.len
      have hw5 := hw4.trans hx5
      have hEx : ∀ w', Kept (fun x => x ≠ l ∧ x ≠ r6 ∧ x ≠ r7) w5 w' → Ext w w' := fun w' k => hw5.then k (fun b hb _ => ⟨by omega, by omega, by omega⟩)
      have bl1 := lt_of_cell hc1
      have bl2 := lt_of_cell hc2
      have b64 := (b6.ext hx4).ext hx5
      have b74 := (b7.ext hx4).ext hx5
      have wk : ∀ w', Kept (fun x => x ≠ l) w5 w' → Kept (fun x => x ≠ l ∧ x ≠ r6 ∧ x ≠ r7) w5 w' := fun w' k => k.weak (fun _ _ h => h.1)
      refine (c_separating1 (b := b) (g := g) (bx := b1) (bs := b2) (S := S) (h := h) hok hS
        (fun k w' => Kept (fun x => x ≠ l) w5 w' ∧ LoopAt w' (w4.heap.size + 1) R ∧ ((pd.ps.take k).any fun x => psep x.2 S) = false)
        (fun w' => Kept (fun x => x ≠ l ∧ x ≠ r6 ∧ x ≠ r7) w5 w' ∧ LoopAt w' (w4.heap.size + 1) { R with state := .done, pending := some .ret } ∧ Blk w' r6 3 [.int .i64 0] ∧ Blk w' r7 4 [.bool false] ∧ (pd.ps.any fun x => psep x.2 S) = true) ?_ ?_ ?_ ?_).mono ?_
      · rintro k w' ⟨hk, -, -⟩
        exact ⟨hp.kept (hEx w' (wk w' hk)).any, hk.cell (hx5.cell hc1 trivial) (show b1 ≠ l by omega), hk.cell (hx5.cell hc2 trivial) (show b2 ≠ l by omega)⟩
      · rintro k w' m ⟨hk, hlp, hno⟩ hmk hsep T hT'
        have hkl := (List.getElem?_eq_some_iff.1 hmk).1
        obtain ⟨cst, hck⟩ : ∃ c, pd.costs[k]? = some c := ⟨_, List.getElem?_eq_getElem (by omega)⟩
        have hmem : (cst, m) ∈ pd.ps := List.mem_of_getElem? (List.getElem?_zip_eq_some.2 ⟨hck, hmk⟩)
        subst hR
        refine yield_rule (args := [.int .i64 (k : Int), .int .i64 (T : Int)]) hlp rfl rfl hF5 hwf ?_
        refine mid' hlp (fun w9 kp hsz9 hl9 => ?_)
        have k9 : Kept (fun x => x ≠ l) w5 w9 := hk.then kp (fun b _ h e => h (by omega))
        refine st (b64.kept k9 (show r6 ≠ l by omega)) (by decide) rfl (fun w10 hb10 k10 hz10 => ?_)
        refine st ((b74.kept k9 (show r7 ≠ l by omega)).kept k10 (by omega)) (by decide) rfl (fun w11 hb11 k11 hz11 => ?_)
        refine roundR' _ ((hl9.kept k10 (show w4.heap.size + 1 ≠ r6 by omega)).kept k11 (show w4.heap.size + 1 ≠ r7 by omega)) (fun w12 k12 hl12 => ?_)
        refine .inr ⟨rfl, (((wk w9 k9).then k10 (fun b _ h => h.2.1)).then k11 (fun b _ h => h.2.2)).then k12 (fun b _ h e => h.1 (by omega)), hl12, ?_, ?_, ?_⟩
        · exact ((show Blk w10 r6 3 [.int .i64 0] from hb10).kept k11 (by omega)).kept k12 (by omega)
        · exact (show Blk w11 r7 4 [.bool false] from hb11).kept k12 (by omega)
        · exact List.any_eq_true.2 ⟨_, hmem, hsep⟩
      · rintro k w' m ⟨hk, hlp, hno⟩ hmk hsep
        have hkl := (List.getElem?_eq_some_iff.1 hmk).1
        obtain ⟨cst, hck⟩ : ∃ c, pd.costs[k]? = some c := ⟨_, List.getElem?_eq_getElem (by omega)⟩
        have hz : pd.ps[k]? = some (cst, m) := List.getElem?_zip_eq_some.2 ⟨hck, hmk⟩
        refine ⟨hk, hlp, ?_⟩
        rw [take_succ' hz, List.any_append, hno]
        simp [hsep]
      · exact ⟨.refl _ _, hl5, by simp⟩
      · rintro v w6 (⟨hk, hlp, hno⟩ | ⟨hk, hlp, hb6, hb7, hyes⟩)
        · have hno : (pd.ps.any fun x => psep x.2 S) = false := by
            rwa [List.take_of_length_le (by unfold PD.ps; rw [List.length_zip]; omega)] at hno
          refine range_end _ hlp (by rw [hR]; simp) (fun w7 k7 => ?_)
          subst hR
          have k57 : Kept (fun x => x ≠ l) w5 w7 := hk.then k7 (fun b _ h e => h (by omega))
          have hD7 : w7.heap[w4.heap.size]? = some (.deferred (some [])) := (k57.blk _ (by omega) (show w4.heap.size ≠ l by omega)).trans hD5
          have hx7 := hEx w7 (wk w7 k57)
          have b47 := ((b4.ext hx4).ext hx5).kept k57 (show r4 ≠ l by omega)
          have b67 := b64.kept k57 (show r6 ≠ l by omega)
          have b77 := b74.kept k57 (show r7 ≠ l by omega)
          have z7 := hx7.size
          have lt6 := b67.lt
          have lt7 := b77.lt
          have ltD := (Array.getElem?_eq_some_iff.1 hD7).1
          have stores : ∀ (w8 : World) (bb : Bool), Ext w7 w8 → wval (pworth pd.ps (f + 1) t S) = .tuple #[.int .i64 0, .bool bb] →
              ∀ w9, Blk w9 r6 3 [.int .i64 0] → Kept (fun x => x ≠ r6) w8 w9 → ∀ w10, Blk w10 r7 4 [.bool bb] → Kept (fun x => x ≠ r7) w9 w10 →
              (Ext w (w10.putObj w4.heap.size (.deferred none)) ∧ w10.heap[w4.heap.size]? = some (.deferred (some [])) ∧ (w10.putObj w4.heap.size (.deferred none)).cell? (ad r6 0) = some (.int .i64 0) ∧ (w10.putObj w4.heap.size (.deferred none)).cell? (ad r7 0) = some (.bool bb)) := fun w8 bb hx8 _ w9 hb9 k9 w10 hb10 k10 => by
            have kD := Kept.putObj w10 w4.heap.size (.deferred none)
            have z8 := hx8.size
            have z9 := k9.size
            exact ⟨(((hx7.trans hx8).then k9 (fun b hb _ e => by omega)).then k10 (fun b hb _ e => by omega)).then kD (fun b hb _ e => by omega),
              (k10.blk _ (by omega) (by omega)).trans ((k9.blk _ (by omega) (by omega)).trans ((hx8.blk _ ltD trivial).trans hD7)),
              ((hb9.kept k10 (by omega)).kept kD (by omega)).cell rfl, (hb10.kept kD (by omega)).cell rfl⟩
          refine drawK (fun x => x ≠ r6 ∧ x ≠ r7) [0, 1, 2, 3, 4, 5, 6, 7, 8, 9, 10, 11] [7, 8, 10, 11] mx (by kernel_rfl) ?_
          refine fldA ?_
          refine ldK _ (b47.cell rfl) ⟨show r4 ≠ r6 by omega, show r4 ≠ r7 by omega⟩ (.refl _ _) ?_
          refine cE (fun h1 => ?_) (fun h1 => ?_)
          · refine fldA ?_
            refine ldK _ (b47.cell rfl) ⟨show r4 ≠ r6 by omega, show r4 ≠ r7 by omega⟩ (.refl _ _) ?_
            refine call_of (c_list hS (hT.ext hx7)) ?_
            rintro _ w8 ⟨hx8, A8, n8, c8, rfl, hle8, hl8⟩
            refine strK hx8.any ?_
            have b68 := b67.ext hx8
            have b78 := b77.ext hx8
            refine callB (c_Equal (hrs.ext (hx7.trans hx8)).toAll hl8.nats.toAll) (fun h2 => ?_) (fun h2 => ?_)
            all_goals (
              refine strK (.refl _ _) ?_
              refine st b68 (by decide) rfl (fun w9 hb9 k9 hz9 => ?_)
              refine strK (k9.weak fun _ _ h => h.1) ?_
              refine st (b78.kept k9 (by omega)) (by decide) rfl (fun w10 hb10 k10 hz10 => ?_)
              refine strK (k10.weak fun _ _ h => h.2) ?_)
            · have h2 : t.rest = ofNats (mem S 12) := eq_of_beq h2
              rw [if_neg (by rintro (h | h | h); rw [hno] at h; cases h; exact h h1; exact h h2)] at hF
              obtain ⟨q1, q2, q3, q4⟩ := stores w8 true hx8 (by rw [hF]; rfl) w9 hb9 k9 w10 hb10 k10
              refine retM q2 ?_
              refine resL _ (holds_cell q3) ?_
              refine resL _ (holds_cell q4) ?_
              exact ⟨by rw [hF]; rfl, q1⟩
            · have h2 : t.rest ≠ ofNats (mem S 12) := ne_of_beq_false h2
              rw [if_pos (.inr (.inr h2))] at hF
              obtain ⟨q1, q2, q3, q4⟩ := stores w8 false hx8 (by rw [hF]; rfl) w9 hb9 k9 w10 hb10 k10
              refine retM q2 ?_
              refine resL _ (holds_cell q3) ?_
              refine resL _ (holds_cell q4) ?_
              exact ⟨by rw [hF]; rfl, q1⟩
          · rw [if_pos (.inr (.inl h1))] at hF
            refine strK (.refl _ _) ?_
            refine strK (.refl _ _) ?_
            refine st b67 (by decide) rfl (fun w9 hb9 k9 hz9 => ?_)
            refine strK (k9.weak fun _ _ h => h.1) ?_
            refine st (b77.kept k9 (by omega)) (by decide) rfl (fun w10 hb10 k10 hz10 => ?_)
            refine strK (k10.weak fun _ _ h => h.2) ?_
            obtain ⟨q1, q2, q3, q4⟩ := stores w7 false (.refl _ _) (by rw [hF]; rfl) w9 hb9 k9 w10 hb10 k10
            refine retM q2 ?_
            refine resL _ (holds_cell q3) ?_
            refine resL _ (holds_cell q4) ?_
            exact ⟨by rw [hF]; rfl, q1⟩
        · rw [if_pos (.inl hyes)] at hF
          refine range_end _ hlp (by simp) (fun w7 k7 => ?_)
          have k57 : Kept (fun x => x ≠ l ∧ x ≠ r6 ∧ x ≠ r7) w5 w7 := hk.then k7 (fun b _ h e => h.1 (by omega))
          have hD7 : w7.heap[w4.heap.size]? = some (.deferred (some [])) := (k57.blk _ (by omega) ⟨show w4.heap.size ≠ l by omega, by omega, by omega⟩).trans hD5
          have hx7 := hEx w7 k57
          have kD := Kept.putObj w7 w4.heap.size (.deferred none)
          have b67 := hb6.kept k7 (show r6 ≠ w4.heap.size + 1 by omega)
          have b77 := hb7.kept k7 (show r7 ≠ w4.heap.size + 1 by omega)
          refine retM hD7 ?_
          refine resL _ (holds_cell ((b67.kept kD (by omega)).cell rfl)) ?_
          refine resL _ (holds_cell ((b77.kept kD (by omega)).cell rfl)) ?_
          exact ⟨by rw [hF]; rfl, hx7.then kD (fun b hb _ e => by omega)⟩
    · have hk0 : t.kids ≠ [] := fun h => by rw [h] at hk6; simp at hk6; omega
      rw [if_neg hk0] at hF
      have hlen := hok.len
      have hpl : pd.ps.length = pd.shown.length := by unfold PD.ps; rw [List.length_zip]; omega
      have hn1 := hp3.shown.1
      have hn2 := hp3.costs.1
      have hle12 := hok.le
      refine drawQ mx (by kernel_rfl) ?_
      refine fldA ?_
      refine ld _ (b4.cell rfl) ?_
      refine len ?_
      refine cD (fun h1 => ?_) (fun h1 => ?_)
      · have : t.rest ≠ [] := fun h => by rw [h] at hr5; simp at hr5; omega
        rw [if_pos (.inl this)] at hF
        refine st b6 (by decide) rfl (fun wa hba ka hza => ?_)
        refine st (Blk.kept b7 ka (by omega)) (by decide) rfl (fun wb hbb kb hzb => ?_)
        refine ret ?_
        refine resL _ (holds_cell (((show Blk wa r6 3 [.int .i64 0] from hba).kept kb (by omega)).cell rfl)) ?_
        refine resL _ (holds_cell ((show Blk wb r7 4 [.bool false] from hbb).cell rfl)) ?_
        exact ⟨by rw [hF]; rfl, (Kept.then hx3 ka (fun b hb _ e => by omega)).then kb (fun b hb _ e => by omega)⟩
      refine fldA ?_
      refine ld _ (b4.cell rfl) ?_
      refine len ?_
      refine cN (fun h2 => ?_) (fun h2 => ?_)
      · rw [if_pos (.inr (.inl (by omega)))] at hF
        refine st b6 (by decide) rfl (fun wa hba ka hza => ?_)
        refine st (Blk.kept b7 ka (by omega)) (by decide) rfl (fun wb hbb kb hzb => ?_)
        refine ret ?_
        refine resL _ (holds_cell (((show Blk wa r6 3 [.int .i64 0] from hba).kept kb (by omega)).cell rfl)) ?_
        refine resL _ (holds_cell ((show Blk wb r7 4 [.bool false] from hbb).cell rfl)) ?_
        exact ⟨by rw [hF]; rfl, (Kept.then hx3 ka (fun b hb _ e => by omega)).then kb (fun b hb _ e => by omega)⟩
      refine fldA ?_
      refine ld _ (b4.cell rfl) ?_
      refine cD (fun h3 => ?_) (fun h3 => ?_)
      · rw [if_pos (.inr (.inr (.inl h3)))] at hF
        refine st b6 (by decide) rfl (fun wa hba ka hza => ?_)
        refine st (Blk.kept b7 ka (by omega)) (by decide) rfl (fun wb hbb kb hzb => ?_)
        refine ret ?_
        refine resL _ (holds_cell (((show Blk wa r6 3 [.int .i64 0] from hba).kept kb (by omega)).cell rfl)) ?_
        refine resL _ (holds_cell ((show Blk wb r7 4 [.bool false] from hbb).cell rfl)) ?_
        exact ⟨by rw [hF]; rfl, (Kept.then hx3 ka (fun b hb _ e => by omega)).then kb (fun b hb _ e => by omega)⟩
      refine fldA ?_
      refine ld _ (b4.cell rfl) ?_
      refine fldA ?_
      refine ld (.slice h.A1 h.n1 h.c1) (hp3.blk.cell rfl) ?_
      refine len ?_
      refine cD (fun h4 => ?_) (fun h4 => ?_)
      · rw [if_pos (.inr (.inr (.inr (by omega))))] at hF
        refine st b6 (by decide) rfl (fun wa hba ka hza => ?_)
        refine st (Blk.kept b7 ka (by omega)) (by decide) rfl (fun wb hbb kb hzb => ?_)
        refine ret ?_
        refine resL _ (holds_cell (((show Blk wa r6 3 [.int .i64 0] from hba).kept kb (by omega)).cell rfl)) ?_
        refine resL _ (holds_cell ((show Blk wb r7 4 [.bool false] from hbb).cell rfl)) ?_
        exact ⟨by rw [hF]; rfl, (Kept.then hx3 ka (fun b hb _ e => by omega)).then kb (fun b hb _ e => by omega)⟩
      have hrest : t.rest = [] := List.eq_nil_of_length_eq_zero (by omega)
      rw [if_neg (by rintro (h | h | h | h); exact h hrest; all_goals omega)] at hF
      obtain ⟨bs, os, cs, m, hA1, hm, -, -, hc, hr⟩ := hp3.shown.at_ (k := t.probe.toNat) (by omega)
      obtain ⟨rfl, -⟩ := tNat_rep hr
      obtain ⟨bc, oc, cc, cst, hA2, hcst, -, -, hcc, rfl, -⟩ := hp3.costs.at_ (k := t.probe.toNat) (by omega)
      have hx : pd.ps[t.probe.toNat]? = some (cst, m) := List.getElem?_zip_eq_some.2 ⟨hcst, hm⟩
      have hmA : mAt pd.ps t.probe = m := by unfold mAt; rw [List.getD_eq_getElem?_getD, hx]; rfl
      have hcA : cAt pd.ps t.probe = cst := by unfold cAt; rw [List.getD_eq_getElem?_getD, hx]; rfl
      have hm12 := hok.lt m (List.mem_of_getElem? hm)
      have hcok := hok.cost cst (List.mem_of_getElem? hcst)
      rw [hmA, hcA] at hF
      refine drawQ mx (by kernel_rfl) ?_
      refine fldA ?_
      refine ld (.slice (some (ad bs os)) h.n1 h.c1) (by rw [← hA1]; exact hp3.blk.cell rfl) ?_
      refine fldA ?_
      refine ld _ (b4.cell rfl) ?_
      refine idx t.probe.toNat (by omega) (by omega) ?_
      refine ld _ (hc 0 _ rfl) ?_
      refine andV (fun T hTT => ?_)
      rw [← hTT] at hF
      have hTle : T ≤ S := by rw [hTT]; exact Nat.and_le_right
      refine cE (fun h5 => ?_) (fun h5 => ?_)
      · rw [if_pos (.inl (by omega))] at hF
        refine st b6 (by decide) rfl (fun wa hba ka hza => ?_)
        refine st (Blk.kept b7 ka (by omega)) (by decide) rfl (fun wb hbb kb hzb => ?_)
        refine ret ?_
        refine resL _ (holds_cell (((show Blk wa r6 3 [.int .i64 0] from hba).kept kb (by omega)).cell rfl)) ?_
        refine resL _ (holds_cell ((show Blk wb r7 4 [.bool false] from hbb).cell rfl)) ?_
        exact ⟨by rw [hF]; rfl, (Kept.then hx3 ka (fun b hb _ e => by omega)).then kb (fun b hb _ e => by omega)⟩
      refine cE (fun h6 => ?_) (fun h6 => ?_)
      · rw [if_pos (.inr (by omega))] at hF
        refine st b6 (by decide) rfl (fun wa hba ka hza => ?_)
        refine st (Blk.kept b7 ka (by omega)) (by decide) rfl (fun wb hbb kb hzb => ?_)
        refine ret ?_
        refine resL _ (holds_cell (((show Blk wa r6 3 [.int .i64 0] from hba).kept kb (by omega)).cell rfl)) ?_
        refine resL _ (holds_cell ((show Blk wb r7 4 [.bool false] from hbb).cell rfl)) ?_
        exact ⟨by rw [hF]; rfl, (Kept.then hx3 ka (fun b hb _ e => by omega)).then kb (fun b hb _ e => by omega)⟩
      rw [if_neg (by omega)] at hF
      refine andNotV (fun q hq => ?_)
      have hqT : q = S - T := by rw [hq, hTT, and_and_self']
      rw [← hqT] at hF
      refine lit [.int .i64 (q : Int), .int .i64 (T : Int)] (fun g5 w4 h4' => ?_)
      have e5 := h4'.at_
      have sz4 := h4'.size
      have hw4 := hx3.trans h4'.ext
      have b64 := b6.ext h4'.ext
      have b74 := b7.ext h4'.ext
      have b44 := b4.ext h4'.ext
      have b5 : Blk w4 g5 3 [.int .i64 (q : Int), .int .i64 (T : Int)] := h4'.blk
      refine len ?_
      have hv0 := pworth_le (ps := pd.ps) hok.psOk f (kid t 0) q
      have hv1 := pworth_le (ps := pd.ps) hok.psOk f (kid t 1) T
      generalize hva : pworth pd.ps f (kid t 0) q = va at hF hv0
      generalize hvb : pworth pd.ps f (kid t 1) T = vb at hF hv1
      refine loop_rule (fun k : Nat => [(80, .int .i64 k)]) (fun k w' => k ≤ 2 ∧ Kept (fun x => x ≠ r6) w4 w' ∧ ∃ wst : Int, Blk w' r6 3 [.int .i64 wst] ∧ (k = 0 → wst = 0) ∧ (1 ≤ k → 0 ≤ va) ∧ (2 ≤ k → 0 ≤ vb) ∧ (k = 1 → wst = va) ∧ (k = 2 → wst = max va vb)) (fun k _ => 2 - k) 0 ⟨rfl, trivial⟩
        ⟨by omega, .refl _ _, 0, b64, fun _ => rfl, fun h => absurd h (by omega), fun h => absurd h (by omega), fun h => absurd h (by omega), fun h => absurd h (by omega)⟩ rfl ?_
      rintro G k w5 ⟨hk2, k5, wst, b65, i0, i1, i2, i3, i4⟩
      have hx5 : Ext w w5 := hw4.then k5 (fun b hb _ e => by omega)
      have sz5 := k5.size
      have b45 := b44.kept k5 (show r4 ≠ r6 by omega)
      have b55 := b5.kept k5 (show g5 ≠ r6 by omega)
      have b75 := b74.kept k5 (show r7 ≠ r6 by omega)
      refine cD (fun hlt => ?_) (fun hge => ?_)
      · have hk01 : k = 0 ∨ k = 1 := by omega
        refine idx k rfl (by omega) ?_
        obtain ⟨part, v, hpart, hpS, hv, hvl, hnm⟩ : ∃ (part : Nat) (v : Int), w5.cell? (ad g5 (0 + k * 1)) = some (.int .i64 (part : Int)) ∧ part < 4096 ∧ pworth pd.ps f (kid t k) part = v ∧ v ≤ 4294967296 ∧ ((k = 0 → v = va) ∧ (k = 1 → v = vb)) := by
          rcases hk01 with rfl | rfl
          · exact ⟨q, va, b55.cell rfl, by omega, hva, by omega, fun _ => rfl, fun h => absurd h (by omega)⟩
          · exact ⟨T, vb, b55.cell rfl, by omega, hvb, by omega, fun h => absurd h (by omega), fun _ => rfl⟩
        refine ld _ hpart ?_
        obtain ⟨bk, ok, ck, kd, rfl, hkk, -, -, hck, hrk⟩ := (hkd.ext hx5).at_ (k := k) (by omega)
        rw [tTr_sz] at hck
        rw [kid_of hkk] at hv
        refine fldA ?_
        refine ld _ (b45.cell rfl) ?_
        refine idx k rfl (by omega) ?_
        refine ldA ck hck ((tTr f).len hrk |>.trans (tTr_sz f)) ?_
        refine call_of (ih kd part Dt ck w5 hpS (hp.kept hx5.any) (hT.ext hx5) hrk) ?_
        rintro _ w6 ⟨rfl, hx6⟩
        rw [hv]
        have b66 := b65.ext hx6
        have b76 := b75.ext hx6
        have hx56 := hx5.trans hx6
        have sz6 := hx6.size
        rcases Int.lt_or_le v 0 with hneg | hpos
        · rw [wval_neg hneg]
          rw [if_pos (by rcases hk01 with rfl | rfl; exact .inl (by have := hnm.1 rfl; omega); exact .inr (by have := hnm.2 rfl; omega))] at hF
          refine st b66 (Nat.zero_lt_one) rfl (fun wa hba ka hza => ?_)
          refine st (Blk.kept b76 ka (by omega)) (by decide) rfl (fun wb hbb kb hzb => ?_)
          refine ret ?_
          refine resL _ (holds_cell (((show Blk wa r6 3 [.int .i64 0] from hba).kept kb (by omega)).cell rfl)) ?_
          refine resL _ (holds_cell ((show Blk wb r7 4 [.bool false] from hbb).cell rfl)) ?_
          exact ⟨by rw [hF]; rfl, (Kept.then hx56 ka (fun b hb _ e => by omega)).then kb (fun b hb _ e => by omega)⟩
        · rw [wval_pos hpos]
          refine ld _ (b66.cell rfl) ?_
          refine st b66 (Nat.zero_lt_one) rfl (fun w7 hb7 k7 hz7 => ?_)
          have hb7 : Blk w7 r6 3 [.int .i64 (max wst v)] := hb7
          refine arI (by omega) ?_
          refine next (k + 1) ⟨rfl, trivial⟩ ⟨by omega, (k5.ext hx6).trans k7, max wst v, hb7, fun h => absurd h (by omega), fun _ => ?_, fun _ => ?_, fun h => ?_, fun h => ?_⟩ (by omega)
          · rcases hk01 with rfl | rfl
            · have := hnm.1 rfl; omega
            · exact i1 (by omega)
          · have : k = 1 := by omega
            subst this
            have := hnm.2 rfl; omega
          · have : k = 0 := by omega
            subst this
            have := hnm.1 rfl; have := i0 rfl; omega
          · have : k = 1 := by omega
            subst this
            have := hnm.2 rfl; have := i3 rfl; rw [this, hnm.2 rfl]
      · have hk : k = 2 := by omega
        subst hk
        have hw := i4 rfl
        have ha := i1 (by omega)
        have hb := i2 (by omega)
        rw [if_neg (by omega), ← hw] at hF
        have hp5 := hp.kept hx5.any
        refine drawP (ordBar [10, 11] [0, 1, 2, 3, 4, 5, 6, 7, 8, 9] [10, 11]) [10, 11] (fun u => u = w5) mx (by kernel_rfl) rfl ?_
        refine fldA ?_
        refine ld (.slice (some (ad bc oc)) h.n2 h.c2) (by rw [← hA2]; exact hp5.blk.cell rfl) ?_
        refine fldA ?_
        refine ld _ (b45.cell rfl) ?_
        refine idx t.probe.toNat (by omega) (by omega) ?_
        refine ld (.int .i64 cst) ?_ ?_
        · obtain ⟨b2, o2, _, c2', e2, hc2', -, -, hcc2, rfl, -⟩ := hp5.costs.at_ (k := t.probe.toNat) (by omega)
          rw [hA2] at e2
          simp only [Option.some.injEq, Addr.mk.injEq] at e2
          obtain ⟨rfl, rfl, _⟩ := e2
          obtain rfl : c2' = cst := by rw [hcst] at hc2'; injection hc2' with e; exact e.symm
          exact hcc2 0 _ rfl
        refine ld _ (b65.cell rfl) ?_
        refine arI (by omega) ?_
        refine barS (fun _ => True) trivial ?_
        refine st b65 (Nat.zero_lt_one) rfl (fun wa hba ka hza => ?_)
        refine strS trivial ?_
        refine st (b75.kept ka (by omega)) (by decide) rfl (fun wb hbb kb hzb => ?_)
        refine strS trivial ?_
        refine ret ?_
        refine resL _ (holds_cell (((show Blk wa r6 3 [.int .i64 (cst + wst)] from hba).kept kb (by omega)).cell rfl)) ?_
        refine resL _ (holds_cell ((show Blk wb r7 4 [.bool true] from hbb).cell rfl)) ?_
        exact ⟨by rw [hF, wval_pos (by omega)]; rfl, (hx5.then ka (fun b hb _ e => by omega)).then kb (fun b hb _ e => by omega)⟩
end Go.Proofs.YtcpdhclnmjfldaaGreatDoor

/- What the functions of probe compute, in plain Lean: part 6, sets of suspects as numbers. -/
namespace Go.Proofs.YtcpdhclnmjfldaaGreatDoor

theorem set_nats : ∀ {l : List Int} {last : Int}, setFrom last l = true → -1 ≤ last → ∃ L : List Nat, l = ofNats L ∧ L.Pairwise (· < ·) ∧ ∀ i ∈ L, last < (i : Int) ∧ i < 12
  | [], _, _, _ => ⟨[], rfl, List.Pairwise.nil, fun _ h => by cases h⟩
  | x :: r, last, h, hl => by
    simp only [setFrom, Bool.and_eq_true, decide_eq_true_eq] at h
    obtain ⟨L, h1, h2, h3⟩ := set_nats h.2 (by omega)
    refine ⟨x.toNat :: L, ?_, List.pairwise_cons.2 ⟨fun i hi => by have := h3 i hi; omega, h2⟩, fun i hi => ?_⟩
    · rw [h1]; unfold ofNats; rw [List.map_cons]; congr 1; omega
    · rcases List.mem_cons.1 hi with rfl | hi
      · omega
      · have := h3 i hi; omega
theorem maskFrom_bit (i : Nat) : ∀ (L : List Nat) (m : Nat), (maskFrom m (ofNats L)).testBit i = (m.testBit i || L.contains i)
  | [], m => by simp [ofNats, maskFrom]
  | x :: r, m => by
    show (maskFrom (m ||| 2 ^ ((x : Int)).toNat) (ofNats r)).testBit i = _
    rw [maskFrom_bit i r, Int.toNat_natCast, Nat.testBit_or, Nat.testBit_two_pow, List.contains_cons]
    by_cases h : x = i
    · subst h; simp
    · have : (i == x) = false := beq_eq_false_iff_ne.2 (fun e => h e.symm)
      rw [this, decide_eq_false h]; simp
theorem mask_bit (L : List Nat) (i : Nat) : (mask (ofNats L)).testBit i = L.contains i := by
  unfold mask; rw [maskFrom_bit]; simp
theorem sorted_extP : ∀ {a b : List Nat}, a.Pairwise (· < ·) → b.Pairwise (· < ·) → (∀ i, i ∈ a ↔ i ∈ b) → a = b
  | [], [], _, _, _ => rfl
  | [], y :: s, _, _, h => by have := (h y).2 List.mem_cons_self; cases this
  | x :: r, [], _, _, h => by have := (h x).1 List.mem_cons_self; cases this
  | x :: r, y :: s, ha, hb, h => by
    obtain ⟨a1, a2⟩ := List.pairwise_cons.1 ha
    obtain ⟨b1, b2⟩ := List.pairwise_cons.1 hb
    have hxy : x = y := by
      have h1 := (h x).1 List.mem_cons_self
      have h2 := (h y).2 List.mem_cons_self
      rcases List.mem_cons.1 h1 with e | h1
      · exact e
      · rcases List.mem_cons.1 h2 with e | h2
        · exact e.symm
        · have := b1 x h1; have := a1 y h2; omega
    subst hxy
    rw [sorted_extP a2 b2 (fun i => ?_)]
    constructor
    · intro hi
      have := (h i).1 (List.mem_cons_of_mem _ hi)
      rcases List.mem_cons.1 this with e | h'
      · subst e; have := a1 i hi; omega
      · exact h'
    · intro hi
      have := (h i).2 (List.mem_cons_of_mem _ hi)
      rcases List.mem_cons.1 this with e | h'
      · subst e; have := b1 i hi; omega
      · exact h'
theorem mask_inj {a b : List Int} (ha : setOk a = true) (hb : setOk b = true) (h : mask a = mask b) : a = b := by
  obtain ⟨A, rfl, a1, a2⟩ := set_nats ha (by omega)
  obtain ⟨B, rfl, b1, b2⟩ := set_nats hb (by omega)
  rw [sorted_extP a1 b1 (fun i => ?_)]
  have e := congrArg (fun m => m.testBit i) h
  simp only [mask_bit] at e
  rw [← List.contains_iff_mem, ← List.contains_iff_mem, e]
/-- The hypothesis is there already: by its number. -/
theorem any_mask {x : List Int} (hx : setOk x = true) : ∀ {pre : List (List Int)}, (∀ y ∈ pre, setOk y = true) → pre.any (fun y => x == y) = (ofNats (pre.map mask)).contains ((mask x : Nat) : Int)
  | [], _ => rfl
  | y :: r, h => by
    have ih := any_mask hx (pre := r) (fun z hz => h z (List.mem_cons_of_mem _ hz))
    show (x == y || r.any (fun y => x == y)) = ((((mask y : Nat) : Int) :: ofNats (r.map mask)).contains ((mask x : Nat) : Int))
    rw [List.contains_cons, ih]
    congr 1
    rw [Bool.eq_iff_iff, beq_iff_eq, beq_iff_eq]
    constructor
    · rintro rfl; rfl
    · intro e; exact mask_inj hx (h y List.mem_cons_self) (by omega)
theorem and_ne_zero {a b : Nat} : a &&& b ≠ 0 ↔ ∃ i, a.testBit i = true ∧ b.testBit i = true := by
  constructor
  · intro h
    apply Classical.byContradiction
    intro hn
    apply h
    apply Nat.eq_of_testBit_eq
    intro i
    rw [Nat.testBit_and, Nat.zero_testBit]
    cases h1 : a.testBit i with
    | false => rfl
    | true =>
      cases h2 : b.testBit i with
      | false => rfl
      | true => exact absurd ⟨i, h1, h2⟩ hn
  · rintro ⟨i, h1, h2⟩ e
    have : (a &&& b).testBit i = true := by rw [Nat.testBit_and, h1, h2]; rfl
    rw [e, Nat.zero_testBit] at this; cases this
/-- A measurement shows somebody: by the numbers. -/
theorem shows_mask {a b : List Int} (ha : setOk a = true) (hb : setOk b = true) : showsL a b = true ↔ mask a &&& mask b ≠ 0 := by
  obtain ⟨A, rfl, _, _⟩ := set_nats ha (by omega)
  obtain ⟨B, rfl, _, _⟩ := set_nats hb (by omega)
  rw [and_ne_zero]
  simp only [mask_bit, List.contains_iff_mem]
  unfold showsL ofNats
  rw [List.any_eq_true]
  constructor
  · rintro ⟨x, hx, h⟩
    obtain ⟨y, hy, e⟩ := List.any_eq_true.1 h
    obtain ⟨i, hi, rfl⟩ := List.mem_map.1 hx
    obtain ⟨j, hj, rfl⟩ := List.mem_map.1 hy
    have : i = j := by have := eq_of_beq e; omega
    subst this
    exact ⟨i, hi, hj⟩
  · rintro ⟨i, h1, h2⟩
    exact ⟨(i : Int), List.mem_map.2 ⟨i, h1, rfl⟩, List.any_eq_true.2 ⟨(i : Int), List.mem_map.2 ⟨i, h2, rfl⟩, beq_self_eq_true _⟩⟩

/-- The hypotheses for which a measurement shows somebody. -/
def shownFrom (s : Nat) : Nat → Nat → List Nat → Nat
  | _, acc, [] => acc
  | i, acc, t :: r => shownFrom s (i + 1) (if s &&& t ≠ 0 then acc ||| 2 ^ i else acc) r
def shownM (truths : List Nat) (s : Nat) : Nat := shownFrom s 0 0 truths
theorem shownFrom_bit (s j : Nat) : ∀ (ts : List Nat) (i acc : Nat), (shownFrom s i acc ts).testBit j = (acc.testBit j || (decide (i ≤ j ∧ j < i + ts.length) && decide (s &&& ts.getD (j - i) 0 ≠ 0)))
  | [], i, acc => by
    show acc.testBit j = _
    have f1 : decide (i ≤ j ∧ j < i + ([] : List Nat).length) = false := decide_eq_false (fun h => by have := h.2; simp at this; omega)
    rw [f1]; simp
  | t :: r, i, acc => by
    unfold shownFrom
    rw [shownFrom_bit s j r (i + 1)]
    by_cases hji : j = i
    · subst hji
      have e1 : decide (j + 1 ≤ j ∧ j < j + 1 + r.length) = false := decide_eq_false (by omega)
      have e2 : decide (j ≤ j ∧ j < j + (t :: r).length) = true := decide_eq_true (by simp)
      rw [e1, e2, Nat.sub_self]
      by_cases hs : s &&& t ≠ 0
      · rw [if_pos hs, Nat.testBit_or, Nat.testBit_two_pow_self]; simp [hs]
      · rw [if_neg hs]
        have : s &&& t = 0 := by omega
        simp [this]
    · have e3 : (if s &&& t ≠ 0 then acc ||| 2 ^ i else acc).testBit j = acc.testBit j := by
        split
        · rw [Nat.testBit_or, Nat.testBit_two_pow, decide_eq_false (fun e => hji e.symm), Bool.or_false]
        · rfl
      rw [e3]
      by_cases hlt : j < i
      · have f1 : decide (i + 1 ≤ j ∧ j < i + 1 + r.length) = false := decide_eq_false (by omega)
        have f2 : decide (i ≤ j ∧ j < i + (t :: r).length) = false := decide_eq_false (by omega)
        rw [f1, f2]; simp
      · have e4 : decide (i + 1 ≤ j ∧ j < i + 1 + r.length) = decide (i ≤ j ∧ j < i + (t :: r).length) := by
          rw [decide_eq_decide, List.length_cons]; omega
        rw [e4, show j - i = (j - (i + 1)) + 1 from by omega]
        simp
theorem shownM_bit (ts : List Nat) (s j : Nat) : (shownM ts s).testBit j = (decide (j < ts.length) && decide (s &&& ts.getD j 0 ≠ 0)) := by
  unfold shownM
  rw [shownFrom_bit]
  simp
theorem shownFrom_lt {s : Nat} : ∀ {ts : List Nat} {i acc : Nat}, acc < 4096 → i + ts.length ≤ 12 → shownFrom s i acc ts < 4096
  | [], _, _, h, _ => h
  | t :: r, i, acc, h, hl => by
    unfold shownFrom
    rw [List.length_cons] at hl
    refine shownFrom_lt ?_ (by omega)
    split
    · have : 2 ^ i ≤ 2 ^ 11 := Nat.pow_le_pow_right (by omega) (by omega)
      exact or_lt h (by omega)
    · exact h
theorem shownM_lt {ts : List Nat} {s : Nat} (h : ts.length ≤ 12) : shownM ts s < 4096 := shownFrom_lt (by omega) (by omega)
end Go.Proofs.YtcpdhclnmjfldaaGreatDoor

/- Contracts of the program: reading hypotheses and measurements. -/
namespace Go.Proofs.YtcpdhclnmjfldaaGreatDoor
open Go Go.RowKit

def pdOf (l : List (List Int)) (p : List Pr) : PD := { truths := l.map mask, shown := p.map fun x => shownM (l.map mask) (mask x.2), costs := p.map (·.1), sets := p.map fun x => mask x.2 }
/-- A slice of the call's own is no block of another type. -/
theorem OwnF.ne {w0 w : World} {A : Option Addr} {n c : Nat} {e t : TypeId} {sz b : Nat} {cs cs' : List Value} (h : OwnF w0 w A n c e sz cs) (hb : Blk w b t cs') (hne : e ≠ t) : ∀ x, A = some (ad x 0) → x ≠ b := fun x hx e' => by
  subst e'
  rcases h.form with ⟨hA, _⟩ | ⟨g, hA, _⟩
  · rw [hA] at hx; cases hx
  · have hown := h.own
    rw [hx] at hown
    obtain ⟨rest, hbl, _⟩ := hown.blk
    exact hne (hbl.uniq hb).1
theorem OwnF.neMap {w0 w : World} {A : Option Addr} {n c : Nat} {e : TypeId} {sz g : Nat} {cs : List Value} {f : Int → Option Value} (h : OwnF w0 w A n c e sz cs) (hm : MapFn .i64 w g f) : ∀ x, A = some (ad x 0) → x ≠ g := fun x hx e' => by
  subst e'
  have hown := h.own
  rw [hx] at hown
  obtain ⟨rest, hbl, _⟩ := hown.blk
  obtain ⟨L, cl, hL, _⟩ := hm
  unfold Blk at hbl
  rw [hbl] at hL; cases hL

/-- The plan while it is read: four lists of the call's own. -/
structure RdInv (w0 w : World) (b g : Nat) (xs0 xs1 : List Nat) (xs2 : List Int) (xs3 : List Nat) (h : PH) : Prop where
  ext : Ext w0 w
  blk : Blk w b 88 (h.cells g)
  map : MapFn .i64 w g (fun _ => none)
  nb : w0.heap.size ≤ b
  ng : w0.heap.size ≤ g
  o0 : OwnF w0 w h.A0 h.n0 h.c0 3 1 (xs0.map nv)
  o1 : OwnF w0 w h.A1 h.n1 h.c1 3 1 (xs1.map nv)
  o2 : OwnF w0 w h.A2 h.n2 h.c2 3 1 (xs2.map fun v => .int .i64 v)
  o3 : OwnF w0 w h.A3 h.n3 h.c3 3 1 (xs3.map nv)
  d01 : ∀ x, h.A0 = some (ad x 0) → h.A1 ≠ some (ad x 0)
  d02 : ∀ x, h.A0 = some (ad x 0) → h.A2 ≠ some (ad x 0)
  d03 : ∀ x, h.A0 = some (ad x 0) → h.A3 ≠ some (ad x 0)
  d12 : ∀ x, h.A1 = some (ad x 0) → h.A2 ≠ some (ad x 0)
  d13 : ∀ x, h.A1 = some (ad x 0) → h.A3 ≠ some (ad x 0)
  d23 : ∀ x, h.A2 = some (ad x 0) → h.A3 ≠ some (ad x 0)
theorem RdInv.then {w0 w w' : World} {b g : Nat} {xs0 xs1 : List Nat} {xs2 : List Int} {xs3 : List Nat} {h : PH} (i : RdInv w0 w b g xs0 xs1 xs2 xs3 h) (k : Ext w w') : RdInv w0 w' b g xs0 xs1 xs2 xs3 h :=
  ⟨i.ext.trans k, i.blk.ext k, i.map.kept k trivial, i.nb, i.ng, i.o0.then k, i.o1.then k, i.o2.then k, i.o3.then k, i.d01, i.d02, i.d03, i.d12, i.d13, i.d23⟩
theorem RdInv.ne {w0 w : World} {b g : Nat} {xs0 xs1 : List Nat} {xs2 : List Int} {xs3 : List Nat} {h : PH} (i : RdInv w0 w b g xs0 xs1 xs2 xs3 h) : b ≠ g := fun e => by
  obtain ⟨L, cl, hL, _⟩ := i.map
  have := i.blk; unfold Blk at this; rw [e] at this; rw [this] at hL; cases hL
theorem RdInv.plan {w0 w : World} {b g : Nat} {xs0 xs1 : List Nat} {xs2 : List Int} {xs3 : List Nat} {h : PH} (i : RdInv w0 w b g xs0 xs1 xs2 xs3 h) (h0 : ∀ x ∈ xs0, x < 4096) (h1 : ∀ x ∈ xs1, x < 4096) (h2 : ∀ x ∈ xs2, I64 x) (h3 : ∀ x ∈ xs3, x < 4096)
    (l0 : xs0.length ≤ 12) (l1 : xs1.length ≤ 12) (l2 : xs2.length ≤ 12) (l3 : xs3.length ≤ 12) : PlanAt w b g h { truths := xs0, shown := xs1, costs := xs2, sets := xs3 } := by
  have cut : ∀ {xs : List Nat} {A : Option Addr} {n c : Nat} (o : OwnF w0 w A n c 3 1 (xs.map nv)), (∀ x ∈ xs, x < 4096) → xs.length ≤ 12 → SlR tNat (fun x => x ≠ g) w A n xs := fun o hx hl =>
    Own.rd (a := tNat) (e := 3) o.own (flat_nats fun x hx' => by have := hx x hx'; omega) (by have := o.cnt; omega) (by have := o.cnt; omega) (fun x hx => o.neMap i.map x hx)
  have n2 : h.n2 = xs2.length := by have := i.o2.own.len; simpa using this.symm
  exact ⟨i.blk, i.ne, cut i.o0 h0 l0, cut i.o1 h1 l1, Own.rd (a := tInt) (e := 3) i.o2.own (flat_ints h2) n2 (by omega) (fun x hx => i.o2.neMap i.map x hx), cut i.o3 h3 l3⟩

theorem mask_zero {x : List Int} (hs : setOk x = true) (h : mask x = 0) : x = [] := by
  obtain ⟨L, rfl, _, _⟩ := set_nats hs (by omega)
  cases L with
  | nil => rfl
  | cons i r =>
    have := mask_bit (i :: r) i
    rw [h, Nat.zero_testBit] at this
    simp at this
/-- What is said of a region that draws, if it is of the world alone. -/
theorem draw_world {P : Program} {X : XK} {ops : Array Oper} {K : Fr → World → Prop} {F : Fr} {w : World} (K' : World → Prop) (h : DrawH P ops (fun _ w' => K' w') X F w) (k : ∀ G w', K' w' → K (mix (wr ops.toList) F G) w') : DrawH P ops K X F w :=
  draw_then h fun F' w' hoff hk => by
    have e : mix (wr ops.toList) F F' = F' := funext fun j => by
      show (bif memN j (wr ops.toList) then F' j else F j) = F' j
      cases hb : memN j (wr ops.toList) with
      | true => rfl
      | false => exact (hoff j hb).symm
    rw [← e]; exact k F' w' hk

/-! The one region of read with three appends: whatever the order. -/
noncomputable def rdEnd : Plan := .bar (ordPlan [27, 30, 33] [25, 26, 27, 28, 29, 30, 31, 32, 33])
noncomputable def rdTree : Plan := (.alt 8 (.alt 9 (.alt 15 (.alt 16 (.eff 23 (.eff 24 rdEnd)) (.eff 23 (.eff 16 (.eff 24 rdEnd)))) (.eff 23 (.eff 15 (.eff 16 (.eff 24 rdEnd))))) (.alt 15 (.alt 9 (.alt 16 (.eff 23 (.eff 24 rdEnd)) (.eff 23 (.eff 16 (.eff 24 rdEnd)))) (.eff 23 (.eff 9 (.eff 16 (.eff 24 rdEnd))))) (.eff 23 (.alt 9 (.eff 15 (.eff 16 (.eff 24 rdEnd))) (.eff 15 (.eff 9 (.eff 16 (.eff 24 rdEnd)))))))) (.alt 15 (.alt 8 (.alt 9 (.alt 16 (.eff 23 (.eff 24 rdEnd)) (.eff 23 (.eff 16 (.eff 24 rdEnd)))) (.eff 23 (.eff 9 (.eff 16 (.eff 24 rdEnd))))) (.eff 23 (.eff 8 (.eff 9 (.eff 16 (.eff 24 rdEnd)))))) (.eff 23 (.alt 8 (.alt 9 (.eff 15 (.eff 16 (.eff 24 rdEnd))) (.eff 15 (.eff 9 (.eff 16 (.eff 24 rdEnd))))) (.eff 15 (.eff 8 (.eff 9 (.eff 16 (.eff 24 rdEnd)))))))))
noncomputable def takesP (p : Plan) (is : List Nat) : Plan := List.rec (motive := fun _ => Plan) p (fun i _ ih => .take i ih) is
structure RS (w0 : World) (b g b11 : Nat) (xs0 : List Nat) (hc pc : List Value) (A0 : Option Addr) (n0 c0 : Nat) (w : World) (A1 : Option Addr) (n1 c1 : Nat) (ys1 : List Value) (A2 : Option Addr) (n2 c2 : Nat) (ys2 : List Value) (A3 : Option Addr) (n3 c3 : Nat) (ys3 : List Value) (L : List (Nat × Value)) : Prop where
  ext : Ext w0 w
  blk : Blk w b 88 hc
  pb : Blk w b11 54 pc
  map : MapFn .i64 w g (fun _ => none)
  nb : w0.heap.size ≤ b
  ng : w0.heap.size ≤ g
  o0 : OwnF w0 w A0 n0 c0 3 1 (xs0.map nv)
  o1 : OwnF w0 w A1 n1 c1 3 1 ys1
  o2 : OwnF w0 w A2 n2 c2 3 1 ys2
  o3 : OwnF w0 w A3 n3 c3 3 1 ys3
  d01 : ∀ x, A0 = some (ad x 0) → A1 ≠ some (ad x 0)
  d02 : ∀ x, A0 = some (ad x 0) → A2 ≠ some (ad x 0)
  d03 : ∀ x, A0 = some (ad x 0) → A3 ≠ some (ad x 0)
  d12 : ∀ x, A1 = some (ad x 0) → A2 ≠ some (ad x 0)
  d13 : ∀ x, A1 = some (ad x 0) → A3 ≠ some (ad x 0)
  d23 : ∀ x, A2 = some (ad x 0) → A3 ≠ some (ad x 0)
  lt : ∀ q ∈ L, Blk w q.1 3 [q.2] ∧ A1 ≠ some (ad q.1 0) ∧ A2 ≠ some (ad q.1 0) ∧ A3 ≠ some (ad q.1 0)
theorem OwnF.lt {w0 w : World} {A : Option Addr} {n c : Nat} {e : TypeId} {sz : Nat} {cs : List Value} (o : OwnF w0 w A n c e sz cs) : ∀ x, A = some (ad x 0) → x < w.heap.size := fun x hx => by
  rcases o.form with ⟨hA, _⟩ | ⟨g, hA, _, h2, _⟩
  · rw [hA] at hx; cases hx
  · rw [hA] at hx; simp only [Option.some.injEq, Addr.mk.injEq] at hx; omega
section
variable {w0 w : World} {b g b11 : Nat} {xs0 : List Nat} {hc pc : List Value} {A0 A1 A2 A3 : Option Addr} {n0 c0 n1 c1 n2 c2 n3 c3 : Nat} {ys1 ys2 ys3 : List Value} {L : List (Nat × Value)}
theorem RS.stepLit (hS : RS w0 b g b11 xs0 hc pc A0 n0 c0 w A1 n1 c1 ys1 A2 n2 c2 ys2 A3 n3 c3 ys3 L) {i : Int} {K : VK}
    (k : ∀ g' w', RS w0 b g b11 xs0 hc pc A0 n0 c0 w' A1 n1 c1 ys1 A2 n2 c2 ys2 A3 n3 c3 ys3 ((g', .int .i64 i) :: L) → Kept (fun x => x = b ∨ x = b11) w w' → K (.slice (some (ad g' 0)) 1 1) w') : BSlcP Tryz.prog 45 1 #[(0, .int .i64 i)] K w := by
  refine lit [.int .i64 i] (fun g' w' hb => ?_)
  have x := hb.ext
  have e := hb.at_
  refine k g' w' ⟨hS.ext.trans x, hS.blk.ext x, hS.pb.ext x, hS.map.kept x trivial, hS.nb, hS.ng, hS.o0.then x, hS.o1.then x, hS.o2.then x, hS.o3.then x, hS.d01, hS.d02, hS.d03, hS.d12, hS.d13, hS.d23, fun q hq => ?_⟩ x.any
  rcases List.mem_cons.1 hq with rfl | hq
  · exact ⟨hb.blk, fun h => by have := hS.o1.lt _ h; simp at this; omega, fun h => by have := hS.o2.lt _ h; simp at this; omega, fun h => by have := hS.o3.lt _ h; simp at this; omega⟩
  · obtain ⟨q1, q2⟩ := hS.lt q hq
    exact ⟨q1.ext x, q2⟩
/-- An append to one of the lists. -/
theorem RS.step1 {X : XK} (hS : RS w0 b g b11 xs0 hc pc A0 n0 c0 w A1 n1 c1 ys1 A2 n2 c2 ys2 A3 n3 c3 ys3 L) {gl : Nat} {i : Int} {ty : TypeId} {cst : Array Bool} {K : VK} (hm : (gl, Value.int .i64 i) ∈ L) (hn : n1 ≤ 1000)
    (k : ∀ A' c' w', RS w0 b g b11 xs0 hc pc A0 n0 c0 w' A' (n1 + 1) c' (ys1 ++ [.int .i64 i]) A2 n2 c2 ys2 A3 n3 c3 ys3 L → Kept (fun x => x = b ∨ x = b11) w w' → K (.slice A' (n1 + 1) c') w') : BuiP Tryz.prog .append #[45, 45] ty cst #[.slice A1 n1 c1, .slice (some (ad gl 0)) 1 1] K X w := by
  obtain ⟨hl, -⟩ := hS.lt _ hm
  refine appF hS.o1 (B := some (ad gl 0)) (news := [.int .i64 i]) ⟨rfl, fun _ => ⟨gl, 0, rfl, .blk hl⟩⟩ (by omega) (fun A' c' w' o k' hA => ?_)
  have nB := hS.o1.ne hS.blk (by decide)
  have nP := hS.o1.ne hS.pb (by decide)
  have fr : ∀ {A : Option Addr}, (∀ x, A = some (ad x 0) → x < w.heap.size) → (∀ x, A1 = some (ad x 0) → A ≠ some (ad x 0)) → ∀ x, A' = some (ad x 0) → A ≠ some (ad x 0) := fun hlt hd x hx e => by
    rcases hA with h1 | h1 | h1
    · exact hd x (h1 ▸ hx) e
    · rw [h1] at hx; cases hx
    · rw [h1] at hx; simp only [Option.some.injEq, Addr.mk.injEq] at hx; have := hlt x e; omega
  refine k A' c' w' ⟨o.ext, hS.blk.kept k' (fun e => nB b e rfl), hS.pb.kept k' (fun e => nP b11 e rfl), hS.map.kept k' (fun e => hS.o1.neMap hS.map g e rfl), hS.nb, hS.ng,
    hS.o0.thenK k' (fun x hx e => hS.d01 x hx e) o.ext, o, hS.o2.thenK k' (fun x hx e => hS.d12 x e hx) o.ext, hS.o3.thenK k' (fun x hx e => hS.d13 x e hx) o.ext,
    fun x hx e => fr hS.o0.lt (fun y hy e' => hS.d01 y e' hy) x e hx, hS.d02, hS.d03, fr hS.o2.lt hS.d12, fr hS.o3.lt hS.d13, hS.d23, fun q hq => ?_⟩ (k'.weak fun x _ hx e => by rcases hx with rfl | rfl; exact nB _ e rfl; exact nP _ e rfl)
  obtain ⟨q1, q2, q3, q4⟩ := hS.lt q hq
  refine ⟨q1.kept k' q2, fun e => ?_, q3, q4⟩
  rcases hA with h1 | h1 | h1
  · exact q2 (h1 ▸ e)
  · rw [h1] at e; cases e
  · rw [h1] at e; simp only [Option.some.injEq, Addr.mk.injEq] at e; have := q1.lt; omega
/-- The lists change places. -/
theorem RS.swap12 (hS : RS w0 b g b11 xs0 hc pc A0 n0 c0 w A1 n1 c1 ys1 A2 n2 c2 ys2 A3 n3 c3 ys3 L) : RS w0 b g b11 xs0 hc pc A0 n0 c0 w A2 n2 c2 ys2 A1 n1 c1 ys1 A3 n3 c3 ys3 L :=
  ⟨hS.ext, hS.blk, hS.pb, hS.map, hS.nb, hS.ng, hS.o0, hS.o2, hS.o1, hS.o3, hS.d02, hS.d01, hS.d03, fun x h e => hS.d12 x e h, hS.d23, hS.d13, fun q hq => let ⟨a, b, c, d⟩ := hS.lt q hq; ⟨a, c, b, d⟩⟩
theorem RS.swap13 (hS : RS w0 b g b11 xs0 hc pc A0 n0 c0 w A1 n1 c1 ys1 A2 n2 c2 ys2 A3 n3 c3 ys3 L) : RS w0 b g b11 xs0 hc pc A0 n0 c0 w A3 n3 c3 ys3 A2 n2 c2 ys2 A1 n1 c1 ys1 L :=
  ⟨hS.ext, hS.blk, hS.pb, hS.map, hS.nb, hS.ng, hS.o0, hS.o3, hS.o2, hS.o1, hS.d03, hS.d02, hS.d01, fun x h e => hS.d23 x e h, fun x h e => hS.d13 x e h, fun x h e => hS.d12 x e h, fun q hq => let ⟨a, b, c, d⟩ := hS.lt q hq; ⟨a, d, c, b⟩⟩
theorem RS.step2 {X : XK} (hS : RS w0 b g b11 xs0 hc pc A0 n0 c0 w A1 n1 c1 ys1 A2 n2 c2 ys2 A3 n3 c3 ys3 L) {gl : Nat} {i : Int} {ty : TypeId} {cst : Array Bool} {K : VK} (hm : (gl, Value.int .i64 i) ∈ L) (hn : n2 ≤ 1000)
    (k : ∀ A' c' w', RS w0 b g b11 xs0 hc pc A0 n0 c0 w' A1 n1 c1 ys1 A' (n2 + 1) c' (ys2 ++ [.int .i64 i]) A3 n3 c3 ys3 L → Kept (fun x => x = b ∨ x = b11) w w' → K (.slice A' (n2 + 1) c') w') : BuiP Tryz.prog .append #[45, 45] ty cst #[.slice A2 n2 c2, .slice (some (ad gl 0)) 1 1] K X w :=
  hS.swap12.step1 hm hn fun A' c' w' h kk => k A' c' w' h.swap12 kk
theorem RS.step3 {X : XK} (hS : RS w0 b g b11 xs0 hc pc A0 n0 c0 w A1 n1 c1 ys1 A2 n2 c2 ys2 A3 n3 c3 ys3 L) {gl : Nat} {i : Int} {ty : TypeId} {cst : Array Bool} {K : VK} (hm : (gl, Value.int .i64 i) ∈ L) (hn : n3 ≤ 1000)
    (k : ∀ A' c' w', RS w0 b g b11 xs0 hc pc A0 n0 c0 w' A1 n1 c1 ys1 A2 n2 c2 ys2 A' (n3 + 1) c' (ys3 ++ [.int .i64 i]) L → Kept (fun x => x = b ∨ x = b11) w w' → K (.slice A' (n3 + 1) c') w') : BuiP Tryz.prog .append #[45, 45] ty cst #[.slice A3 n3 c3, .slice (some (ad gl 0)) 1 1] K X w :=
  hS.swap13.step1 hm hn fun A' c' w' h kk => k A' c' w' h.swap13 kk
theorem RS.fin {w' : World} {xs1 xs3 : List Nat} {xs2 : List Int} {h : PH} (hS : RS w0 b g b11 xs0 (h.cells g) pc h.A0 h.n0 h.c0 w A1 n1 c1 ys1 A2 n2 c2 ys2 A3 n3 c3 ys3 L) (e1 : ys1 = xs1.map nv) (e2 : ys2 = xs2.map fun v => .int .i64 v) (e3 : ys3 = xs3.map nv)
    (hb : Blk w' b 88 [.slice h.A0 h.n0 h.c0, .slice A1 n1 c1, .slice A2 n2 c2, .slice A3 n3 c3, .map (some g)]) (k : Kept (fun x => x ≠ b) w w') : ∃ h', RdInv w0 w' b g xs0 xs1 xs2 xs3 h' := by
  subst e1; subst e2; subst e3
  have ex : Ext w0 w' := hS.ext.then k (fun x hx _ e => by have := hS.nb; omega)
  have ng : b ≠ g := fun e => by
    obtain ⟨Lm, cl, hL, _⟩ := hS.map
    have := hS.blk; unfold Blk at this; rw [e] at this; rw [this] at hL; cases hL
  exact ⟨{ A0 := h.A0, n0 := h.n0, c0 := h.c0, A1 := A1, n1 := n1, c1 := c1, A2 := A2, n2 := n2, c2 := c2, A3 := A3, n3 := n3, c3 := c3 },
    ex, hb, hS.map.kept k (fun e => ng e.symm), hS.nb, hS.ng, hS.o0.thenK k (hS.o0.ne hS.blk (by decide)) ex, hS.o1.thenK k (hS.o1.ne hS.blk (by decide)) ex, hS.o2.thenK k (hS.o2.ne hS.blk (by decide)) ex, hS.o3.thenK k (hS.o3.ne hS.blk (by decide)) ex,
    hS.d01, hS.d02, hS.d03, hS.d12, hS.d13, hS.d23⟩
end

section
variable {D : Nat → Prop} {w : World} {A A' : Option Addr} {n m c d : Nat}
theorem c_setT {xs : List Int} (ha : SlR tInt D w A n xs) (hs : setOk xs = true) : CallZ Tryz.prog 26 #[.slice A n c] w (fun v w' => v = .tuple #[.int .i64 ((mask xs : Nat) : Int), .bool true] ∧ w' = w) :=
  (c_set ha).mono fun v w' ⟨h1, h2⟩ => ⟨by rw [h1, hs]; rfl, h2⟩
theorem c_setF {xs : List Int} (ha : SlR tInt D w A n xs) (hs : setOk xs = false) : CallZ Tryz.prog 26 #[.slice A n c] w (fun v w' => v = .tuple #[.int .i64 0, .bool false] ∧ w' = w) :=
  (c_set ha).mono fun v w' ⟨h1, h2⟩ => ⟨by rw [h1, hs]; rfl, h2⟩
theorem RdInv.put0 {w0 w w1 w2 : World} {b g : Nat} {xs0 xs1 ys : List Nat} {xs2 : List Int} {xs3 : List Nat} {h : PH} {A' : Option Addr} {n' c' : Nat} (i : RdInv w0 w b g xs0 xs1 xs2 xs3 h)
    (o : OwnF w0 w1 A' n' c' 3 1 (ys.map nv)) (k1 : Kept (fun x => h.A0 ≠ some (ad x 0)) w w1) (hA : A' = h.A0 ∨ A' = none ∨ A' = some (ad w.heap.size 0))
    (hb : Blk w2 b 88 ((h.cells g).set 0 (.slice A' n' c'))) (k2 : Kept (fun x => x ≠ b) w1 w2) : RdInv w0 w2 b g ys xs1 xs2 xs3 { h with A0 := A', n0 := n', c0 := c' } := by
  have hlt : ∀ {A n c cs}, OwnF w0 w A n c 3 1 cs → ∀ x, A = some (ad x 0) → x < w.heap.size := fun o x hx => by
    rcases o.form with ⟨hA, _⟩ | ⟨g, hA, _, h2, _⟩
    · rw [hA] at hx; cases hx
    · rw [hA] at hx; simp only [Option.some.injEq, Addr.mk.injEq] at hx; omega
  have hgl := i.map.lt
  have hb1 : Blk w1 b 88 (h.cells g) := i.blk.kept k1 (fun e => i.o0.ne i.blk (by decide) b e rfl)
  have ex2 : Ext w0 w2 := o.ext.then k2 (fun x hx _ e => by have := i.nb; omega)
  have mv : ∀ {A n c cs}, OwnF w0 w A n c 3 1 cs → (∀ x, h.A0 = some (ad x 0) → A ≠ some (ad x 0)) → OwnF w0 w2 A n c 3 1 cs := fun q hd =>
    (q.thenK k1 (fun x hx e => hd x e hx) o.ext).thenK k2 (fun x hx => (q.thenK k1 (fun x hx e => hd x e hx) o.ext).ne hb1 (by decide) x hx) ex2
  have fresh : ∀ {A n c cs}, OwnF w0 w A n c 3 1 cs → (∀ x, h.A0 = some (ad x 0) → A ≠ some (ad x 0)) → ∀ x, A' = some (ad x 0) → A ≠ some (ad x 0) := fun q hd x hx e => by
    rcases hA with h1 | h1 | h1
    · exact hd x (h1 ▸ hx) e
    · rw [h1] at hx; cases hx
    · rw [h1] at hx; simp only [Option.some.injEq, Addr.mk.injEq] at hx; have := hlt q x e; omega
  exact ⟨ex2, hb, (i.map.kept k1 (fun e => i.o0.neMap i.map g e rfl)).kept k2 (fun e => i.ne e.symm), i.nb, i.ng, o.thenK k2 (fun x hx => o.ne hb1 (by decide) x hx) ex2, mv i.o1 i.d01, mv i.o2 i.d02, mv i.o3 i.d03,
    fresh i.o1 i.d01, fresh i.o2 i.d02, fresh i.o3 i.d03, i.d12, i.d13, i.d23⟩

theorem c_read {l : List (List Int)} {p : List Pr} (hl : SlR tInts D w A n l) (hp : SlR tPr D w A' m p) :
    CallZ Tryz.prog 22 #[.slice A n c, .slice A' m d] w (fun v w' => Ext w w' ∧ ((checkL l p ≠ 0 ∧ v = .tuple #[.pointer none, .int .i64 (checkL l p)]) ∨
      (checkL l p = 0 ∧ ∃ b g h, v = .tuple #[ptrQ b, .int .i64 0] ∧ w.heap.size ≤ b ∧ w.heap.size ≤ g ∧ PlanAt w' b g h (pdOf l p) ∧ MapFn .i64 w' g (fun _ => none) ∧ SlR tInt (fun x => w.heap.size ≤ x) w' h.A2 h.n2 (pdOf l p).costs ∧ SlR tNat (fun x => w.heap.size ≤ x) w' h.A3 h.n3 (pdOf l p).sets))) := by
  have hll := hl.1
  have hpl := hp.1
  refine fn_rule (args := [.slice A n c, .slice A' m d]) Tryz.func22 (by kernel_rfl) ?_
  refine len ?_
  refine cD (fun h1 => ?_) (fun h1 => ?_)
  · have e : checkL l p = 2 := by unfold checkL; rw [if_pos (by omega)]
    exact ret2 (.pointer none) (.int .i64 2) rfl rfl ⟨.refl _ _, .inl ⟨by rw [e]; decide, by rw [e]⟩⟩
  refine len ?_
  refine cD (fun h2 => ?_) (fun h2 => ?_)
  · have e : checkL l p = 2 := by unfold checkL; rw [if_pos (by omega)]
    exact ret2 (.pointer none) (.int .i64 2) rfl rfl ⟨.refl _ _, .inl ⟨by rw [e]; decide, by rw [e]⟩⟩
  have hck : checkL l p = if hypsOk l && p.all probeOk then 0 else 500 := by unfold checkL; rw [if_neg (by omega)]
  refine mmap (fun g w1 hg hw1 => ?_)
  refine bld [.slice none 0 0, .slice none 0 0, .slice none 0 0, .slice none 0 0, .map (some g)] (by kernel_rfl) ?_
  refine box (fun b w2 hb => ?_)
  have x1 : Ext w w1 := by rw [hw1]; exact Kept.alloc _ _ _
  have sz1 : w1.heap.size = w.heap.size + 1 := by rw [hw1]; simp
  have m1 : MapFn .i64 w1 g (fun _ => none) := by rw [hw1, hg]; exact MapFn.new _ _
  have x2 := x1.trans hb.ext
  have nd : ∀ x, (none : Option Addr) = some (ad x 0) → (none : Option Addr) ≠ some (ad x 0) := fun _ h => nomatch h
  have hinv : RdInv w w2 b g [] [] [] [] { A0 := none, n0 := 0, c0 := 0, A1 := none, n1 := 0, c1 := 0, A2 := none, n2 := 0, c2 := 0, A3 := none, n3 := 0, c3 := 0 } :=
    ⟨x2, hb.blk, m1.kept hb.ext trivial, by rw [hb.at_]; omega, by omega, .nil x2, .nil x2, .nil x2, .nil x2, nd, nd, nd, nd, nd, nd⟩
  have bad : ∀ w', Ext w w' → (hypsOk l && p.all probeOk) = false → (Ext w w' ∧ ((checkL l p ≠ 0 ∧ (Value.tuple #[.pointer none, .int .i64 500]) = .tuple #[.pointer none, .int .i64 (checkL l p)]) ∨
      (checkL l p = 0 ∧ ∃ b g h, (Value.tuple #[.pointer none, .int .i64 500]) = .tuple #[ptrQ b, .int .i64 0] ∧ w.heap.size ≤ b ∧ w.heap.size ≤ g ∧ PlanAt w' b g h (pdOf l p) ∧ MapFn .i64 w' g (fun _ => none) ∧ SlR tInt (fun x => w.heap.size ≤ x) w' h.A2 h.n2 (pdOf l p).costs ∧ SlR tNat (fun x => w.heap.size ≤ x) w' h.A3 h.n3 (pdOf l p).sets))) := fun w' hx hf =>
    ⟨hx, .inl ⟨by rw [hck, hf]; decide, by rw [hck, hf]; rfl⟩⟩
  refine len ?_
  refine loop_rule (fun k : Nat => [(30, .int .i64 k), (4, ptrQ b)]) (fun k w' => k ≤ n ∧ hypsOk l = hypsFrom (l.take k) (l.drop k) ∧ (∀ y ∈ l.take k, setOk y = true) ∧ ∃ h, RdInv w w' b g ((l.take k).map mask) [] [] [] h) (fun k _ => n - k) 0 ⟨rfl, rfl, trivial⟩
    ⟨by omega, rfl, fun y hy => by simp at hy, _, hinv⟩ rfl ?_
  rintro G k w3 ⟨hk, he, hall, h, inv⟩
  have hx3 := inv.ext
  refine cD (fun hlt => ?_) (fun hge => ?_)
  · have hlt : k < n := by omega
    obtain ⟨b', o', cs, x, rfl, hx, hdx, -, hc, Ax, nx, cx, rfl, hxs, -⟩ := (hl.ext hx3).at_ hlt
    rw [hdx] at he
    have hh : hypsOk l = (setOk x && !((l.take k).any (fun y => x == y)) && hypsFrom (l.take k ++ [x]) (l.drop (k + 1))) := he
    refine idx k rfl hlt ?_
    refine ld _ (hc 0 _ rfl) ?_
    cases hs : setOk x with
    | false =>
      rw [hs] at hh
      refine call_of (c_setF hxs hs) ?_
      rintro _ w3 ⟨rfl, rfl⟩
      exact ret2 (.pointer none) (.int .i64 500) rfl rfl (bad _ hx3 (by rw [hh]; rfl))
    | true =>
      rw [hs, any_mask hs hall] at hh
      refine call_of (c_setT hxs hs) ?_
      rintro _ w3 ⟨rfl, rfl⟩
      refine fldA ?_
      refine ld (.slice h.A0 h.n0 h.c0) (inv.blk.cell rfl) ?_
      have hlk : ((l.take k).map mask).length ≤ 12 := by rw [List.length_map, List.length_take]; omega
      have hm12 : ∀ y ∈ (l.take k).map mask, y < 4096 := fun y hy => by
        obtain ⟨z, hz, rfl⟩ := List.mem_map.1 hy
        exact mask_lt (hall z hz)
      have htr : SlR tNat All w3 h.A0 h.n0 ((l.take k).map mask) := inv.o0.nats (fun y hy => by have := hm12 y hy; omega) (by have := inv.o0.cnt; omega) (fun _ _ => trivial)
      refine callB (c_Contains (v := ((mask x : Nat) : Int)) htr.nats) (fun h3 => ?_) (fun h3 => ?_)
      · have h3 : (ofNats ((l.take k).map mask)).contains ((mask x : Nat) : Int) = true := h3
        rw [h3] at hh
        exact ret2 (.pointer none) (.int .i64 500) rfl rfl (bad _ hx3 (by rw [hh]; rfl))
      · have h3 : (ofNats ((l.take k).map mask)).contains ((mask x : Nat) : Int) = false := h3
        rw [h3] at hh
        refine fldA ?_
        refine ld (.slice h.A0 h.n0 h.c0) (inv.blk.cell rfl) ?_
        refine lit [.int .i64 ((mask x : Nat) : Int)] (fun g4 w4 h4 => ?_)
        have inv4 := inv.then h4.ext
        have hcnt := inv4.o0.cnt
        refine appF inv4.o0 (h4.src (sz := 1) rfl) (by omega) (fun A'' c'' w5 o5 k5 hA5 => ?_)
        refine fldA ?_
        have hb5 : Blk w5 b 88 (h.cells g) := inv4.blk.kept k5 (fun e => inv4.o0.ne inv4.blk (by decide) b e rfl)
        refine st hb5 (Nat.le_of_ble_eq_true rfl) rfl (fun w6 hb6 k6 hz6 => ?_)
        have hmp : (l.take (k + 1)).map mask = (l.take k).map mask ++ [mask x] := by rw [take_succ' hx, List.map_append]; rfl
        have inv6 := inv4.put0 (ys := (l.take (k + 1)).map mask) (by rw [hmp, List.map_append]; exact o5) k5 hA5 hb6 k6
        refine arI (by omega) ?_
        refine next (k + 1) ⟨rfl, rfl, trivial⟩ ⟨by omega, by rw [hh, take_succ' hx]; rfl, fun y hy => ?_, _, inv6⟩ (by omega)
        rw [take_succ' hx] at hy
        rcases List.mem_append.1 hy with hy | hy
        · exact hall y hy
        · simp at hy; subst hy; exact hs
  · have hkn : k = n := by omega
    subst hkn
    rw [drop_end (by rw [hl.len]; omega)] at he
    have he : hypsOk l = true := he
    rw [List.take_of_length_le (by omega)] at inv hall
    rw [he, Bool.true_and] at hck bad
    have hml : ∀ y ∈ l.map mask, y < 4096 := fun y hy => by
      obtain ⟨z, hz, rfl⟩ := List.mem_map.1 hy
      exact mask_lt (hall z hz)
    have hll12 : (l.map mask).length ≤ 12 := by rw [List.length_map]; omega
    refine len ?_
    refine loop_rule (fun j : Nat => [(62, .int .i64 j), (4, ptrQ b)]) (fun j w' => j ≤ m ∧ p.all probeOk = (p.drop j).all probeOk ∧ (∀ x ∈ p.take j, probeOk x = true) ∧
      ∃ h, RdInv w w' b g (l.map mask) ((p.take j).map fun x => shownM (l.map mask) (mask x.2)) ((p.take j).map (·.1)) ((p.take j).map fun x => mask x.2) h) (fun j _ => m - j) 0 ⟨rfl, rfl, trivial⟩
      ⟨by omega, rfl, fun y hy => by simp at hy, _, inv⟩ rfl ?_
    clear inv hx3 h w3
    rintro G j w3 ⟨hj, hpe, hpa, h, inv⟩
    have hx3 := inv.ext
    refine cD (fun hlt => ?_) (fun hge => ?_)
    · have hlt : j < m := by omega
      obtain ⟨b', o', cs, x, rfl, hx, hdx, -, hc, hr⟩ := (hp.ext hx3).at_ hlt
      rw [hdx, List.all_cons] at hpe
      obtain ⟨Ax, nx, cx, rfl, hxi, hxs, -⟩ := pr_open hr
      refine idx j rfl hlt ?_
      refine ldA [.int .i64 x.1, .slice Ax nx cx] hc rfl ?_
      refine alloc (fun b11 w4 h4 => ?_)
      refine stA (vs := [.int .i64 x.1, .slice Ax nx cx]) h4.blk rfl (Nat.le_of_ble_eq_true rfl) (by simp [Value.oneCell']) (fun w5 hb5 k5 hz5 => ?_)
      have hb5 : Blk w5 b11 54 [.int .i64 x.1, .slice Ax nx cx] := hb5
      have e4 := h4.at_
      have x35 : Ext w3 w5 := h4.ext.then k5 (fun b hb _ e => by omega)
      have inv5 := inv.then x35
      have hx5 := inv5.ext
      have bad5 : probeOk x = false → _ := fun hf => bad w5 hx5 (by rw [hpe, hf]; rfl)
      refine fldA ?_
      refine ld _ (hb5.cell rfl) ?_
      cases hs : setOk x.2 with
      | false =>
        refine call_of (c_setF (hxs.ext x35) hs) ?_
        rintro _ w5 ⟨rfl, rfl⟩
        exact ret2 (.pointer none) (.int .i64 500) rfl rfl (bad5 (by unfold probeOk; rw [hs, Bool.and_false]))
      | true =>
        refine call_of (c_setT (hxs.ext x35) hs) ?_
        rintro _ w5 ⟨rfl, rfl⟩
        have hms := mask_lt hs
        have hpo : probeOk x = (decide (1 ≤ x.1) && decide (x.1 ≤ 1048576) && !x.2.isEmpty) := by unfold probeOk; rw [hs, Bool.and_true]
        generalize hmm : mask x.2 = mm at *
        refine cE (fun h3 => ?_) (fun h3 => ?_)
        · have : x.2 = [] := mask_zero hs (by omega)
          exact ret2 (.pointer none) (.int .i64 500) rfl rfl (bad5 (by rw [hpo, this]; simp))
        have hne : x.2.isEmpty = false := by
          cases hx2 : x.2 with
          | nil => exfalso; apply h3; rw [← hmm, hx2]; rfl
          | cons _ _ => rfl
        refine fldA ?_
        refine ld _ (hb5.cell rfl) ?_
        refine cD (fun h4 => ?_) (fun h4 => ?_)
        · exact ret2 (.pointer none) (.int .i64 500) rfl rfl (bad5 (by rw [hpo, decide_eq_false (by omega)]; rfl))
        refine fldA ?_
        refine ld _ (hb5.cell rfl) ?_
        refine cD (fun h5 => ?_) (fun h5 => ?_)
        · exact ret2 (.pointer none) (.int .i64 500) rfl rfl (bad5 (by rw [hpo, decide_eq_false (show ¬ x.1 ≤ 1048576 by omega), Bool.and_false]; rfl))
        have hpx : probeOk x = true := by rw [hpo, hne, decide_eq_true (show (1 : Int) ≤ x.1 by omega), decide_eq_true (show x.1 ≤ 1048576 by omega)]; rfl
        rw [hpx, Bool.true_and] at hpe
        have htr : SlR tNat All w5 h.A0 h.n0 (l.map mask) := inv5.o0.nats (fun y hy => by have := hml y hy; omega) (by have := inv5.o0.cnt; omega) (fun _ _ => trivial)
        have hn0 := htr.1
        refine fldA ?_
        refine ld (.slice h.A0 h.n0 h.c0) (inv5.blk.cell rfl) ?_
        refine len ?_
        refine loop2 (fun (i acc : Nat) => [(93, .int .i64 i), (14, .int .i64 acc)]) (fun i acc w' => i ≤ h.n0 ∧ w5 = w' ∧ acc < 4096 ∧ shownM (l.map mask) mm = shownFrom mm i acc ((l.map mask).drop i)) (fun i _ _ => h.n0 - i) 0 0 ⟨rfl, rfl, trivial⟩ ⟨by omega, rfl, by omega, rfl⟩ rfl ?_
        rintro G2 i acc _ ⟨hi, rfl, hacc, hsh⟩
        refine cD (fun hlt2 => ?_) (fun hge2 => ?_)
        · have hlt2 : i < h.n0 := by omega
          obtain ⟨bt, ot, ct, t, hA0, ht, hdt, -, hct, hrt⟩ := htr.at_ hlt2
          obtain ⟨rfl, -⟩ := tNat_rep hrt
          have ht12 := hml t (List.mem_of_getElem? ht)
          rw [hdt, shownFrom] at hsh
          rw [hA0]
          refine idx i rfl hlt2 ?_
          refine ld _ (hct 0 _ rfl) ?_
          refine andV (fun q hq => ?_)
          rw [← hq] at hsh
          have hi12 : i < 12 := by omega
          refine cN (fun h6 => ?_) (fun h6 => ?_)
          · rw [if_pos (by omega)] at hsh
            refine shl1 (fun z hz _ => ?_)
            rw [Int.toNat_natCast] at hz
            have hz12 : z < 4096 := by
              rw [hz]
              have : 2 ^ i ≤ 2 ^ 11 := Nat.pow_le_pow_right (by omega) (by omega)
              omega
            rw [← hz] at hsh
            refine orV (fun y hy => ?_)
            rw [← hy] at hsh
            refine arI (by omega) ?_
            exact next2 (i + 1) y ⟨rfl, rfl, trivial⟩ ⟨by omega, rfl, by rw [hy]; exact or_lt hacc hz12, hsh⟩ (by omega)
          · rw [if_neg (by omega)] at hsh
            refine arI (by omega) ?_
            exact next2 (i + 1) acc ⟨rfl, rfl, trivial⟩ ⟨by omega, rfl, hacc, hsh⟩ (by omega)
        · rw [drop_end (by omega)] at hsh
          have hsh : shownM (l.map mask) mm = acc := hsh
          refine draw_world (fun w' => ∃ h', RdInv w w' b g (l.map mask) ((p.take (j + 1)).map fun x => shownM (l.map mask) (mask x.2)) ((p.take (j + 1)).map (·.1)) ((p.take (j + 1)).map fun x => mask x.2) h') ?_ ?_
          · have hS5 : RS w b g b11 (l.map mask) (h.cells g) [.int .i64 x.1, .slice Ax nx cx] h.A0 h.n0 h.c0 w5 h.A1 h.n1 h.c1 _ h.A2 h.n2 h.c2 _ h.A3 h.n3 h.c3 _ [] :=
              ⟨inv5.ext, inv5.blk, hb5, inv5.map, inv5.nb, inv5.ng, inv5.o0, inv5.o1, inv5.o2, inv5.o3, inv5.d01, inv5.d02, inv5.d03, inv5.d12, inv5.d13, inv5.d23, fun _ hq => nomatch hq⟩
            have hn1 : h.n1 ≤ 1000 := by have := inv5.o1.cnt; rw [List.length_map, List.length_take] at this; omega
            have hn3 : h.n3 ≤ 1000 := by have := inv5.o3.cnt; rw [List.length_map, List.length_take] at this; omega
            have hn2 : h.n2 ≤ 1000 := by have := inv5.o2.own.len; rw [List.length_map, List.length_map, List.length_take] at this; omega
            have hbne : b ≠ b11 := fun e => by
              have := (inv5.blk.uniq (e ▸ hb5)).1
              exact absurd this (by decide)
            have f1 : ((p.take j).map fun x => shownM (l.map mask) (mask x.2)).map nv ++ [.int .i64 (acc : Int)] = ((p.take (j + 1)).map fun x => shownM (l.map mask) (mask x.2)).map nv := by
              rw [take_succ' hx, List.map_append, List.map_append, ← hsh, ← hmm]; rfl
            have f2 : (((p.take j).map (·.1)).map fun v => Value.int .i64 v) ++ [.int .i64 x.1] = ((p.take (j + 1)).map (·.1)).map fun v => Value.int .i64 v := by
              rw [take_succ' hx, List.map_append, List.map_append]; rfl
            have f3 : ((p.take j).map fun x => mask x.2).map nv ++ [.int .i64 (mm : Int)] = ((p.take (j + 1)).map fun x => mask x.2).map nv := by
              rw [take_succ' hx, List.map_append, List.map_append, ← hmm]; rfl
            clear inv inv5 bad5 bad hinv
            refine drawP (takesP rdTree [0, 1, 2, 3, 4, 5, 6, 7, 10, 11, 12, 13, 14, 17, 18, 19, 20, 21, 22]) [25, 26, 27, 28, 29, 30, 31, 32, 33] (fun u => Kept (fun x => x = b ∨ x = b11) w5 u) mx (by kernel_rfl) (.refl _ _) ?_
            refine fldA ?_
            refine ldK (.slice h.A3 h.n3 h.c3) (hS5.blk.cell rfl) (.inl rfl) (.refl _ _) ?_
            refine fldA ?_
            refine ldK (.slice h.A1 h.n1 h.c1) (hS5.blk.cell rfl) (.inl rfl) (.refl _ _) ?_
            refine fldA ?_
            refine ldK (.slice h.A2 h.n2 h.c2) (hS5.blk.cell rfl) (.inl rfl) (.refl _ _) ?_
            refine fldA ?_
            refine ldK (.int .i64 x.1) (hb5.cell rfl) (.inr rfl) (.refl _ _) ?_
            repeat' (first
              | refine RS.stepLit (by assumption) (fun _ _ _ hk => strK hk ?_)
              | refine RS.step1 (by assumption) (by first | exact List.mem_cons_self | exact List.mem_cons_of_mem _ List.mem_cons_self | exact List.mem_cons_of_mem _ (List.mem_cons_of_mem _ List.mem_cons_self)) (by omega) (fun _ _ _ _ hk => strK hk ?_)
              | refine RS.step2 (by assumption) (by first | exact List.mem_cons_self | exact List.mem_cons_of_mem _ List.mem_cons_self | exact List.mem_cons_of_mem _ (List.mem_cons_of_mem _ List.mem_cons_self)) (by omega) (fun _ _ _ _ hk => strK hk ?_)
              | refine RS.step3 (by assumption) (by first | exact List.mem_cons_self | exact List.mem_cons_of_mem _ List.mem_cons_self | exact List.mem_cons_of_mem _ (List.mem_cons_of_mem _ List.mem_cons_self)) (by omega) (fun _ _ _ _ hk => strK hk ?_)
              | refine And.intro ?_ ?_)
            all_goals (
              refine barS (fun _ => True) trivial ?_
              refine fldA ?_
              refine st (RS.blk (by assumption)) (Nat.le_of_ble_eq_true rfl) rfl (fun w7 hb7 k7 hz7 => ?_)
              refine strS trivial ?_
              refine fldA ?_
              refine st hb7 (Nat.le_of_ble_eq_true rfl) rfl (fun w8 hb8 k8 hz8 => ?_)
              refine strS trivial ?_
              refine fldA ?_
              refine st hb8 (Nat.le_of_ble_eq_true rfl) rfl (fun w9 hb9 k9 hz9 => ?_)
              refine strS trivial ?_
              exact RS.fin (by assumption) f1 f2 f3 hb9 ((k7.trans k8).trans k9))
          · rintro G3 w6 ⟨h', inv6⟩
            refine arI (by omega) ?_
            refine next (j + 1) ⟨rfl, rfl, trivial⟩ ⟨by omega, hpe, fun y hy => ?_, h', inv6⟩ (by omega)
            rw [take_succ' hx] at hy
            rcases List.mem_append.1 hy with hy | hy
            · exact hpa y hy
            · simp at hy; subst hy; exact hpx
    · rw [drop_end (by rw [hp.len]; omega)] at hpe
      have hpe : p.all probeOk = true := hpe
      rw [List.take_of_length_le (by omega)] at inv
      rw [hpe] at hck
      refine ret2 (ptrQ b) (.int .i64 0) rfl rfl ⟨hx3, .inr ⟨hck, b, g, h, rfl, inv.nb, inv.ng, ?_, inv.map, inv.o2.ints (fun y hy => ?_) (by have := inv.o2.own.len; rw [List.length_map, List.length_map] at this; omega) (fun _ h => h), inv.o3.nats (fun y hy => ?_) (by have := inv.o3.cnt; rw [List.length_map] at this; omega) (fun _ h => h)⟩⟩
      · refine inv.plan hml (fun y hy => ?_) (fun y hy => ?_) (fun y hy => ?_) hll12 (by rw [List.length_map]; omega) (by rw [List.length_map]; omega) (by rw [List.length_map]; omega)
        · obtain ⟨z, hz, rfl⟩ := List.mem_map.1 hy
          exact shownM_lt hll12
        · obtain ⟨z, hz, rfl⟩ := List.mem_map.1 hy
          have := prOk_of hpe z hz
          constructor <;> omega
        · obtain ⟨z, hz, rfl⟩ := List.mem_map.1 hy
          have := List.all_eq_true.1 hpe z hz
          unfold probeOk at this
          simp at this
          exact mask_lt this.2
      · obtain ⟨z, hz, rfl⟩ := List.mem_map.1 hy
        have := prOk_of hpe z hz
        constructor <;> omega
      · obtain ⟨z, hz, rfl⟩ := List.mem_map.1 hy
        have := List.all_eq_true.1 hpe z hz
        unfold probeOk at this
        simp at this
        have := mask_lt this.2
        omega
end
end Go.Proofs.YtcpdhclnmjfldaaGreatDoor

/- Contracts of the program: Check, Best, Next. -/
namespace Go.Proofs.YtcpdhclnmjfldaaGreatDoor
open Go Go.RowKit

theorem pdOk_of {l : List (List Int)} {p : List Pr} (h : checkL l p = 0) : PdOk (pdOf l p) := by
  obtain ⟨hN, hm, hh, hpo⟩ := checkL_ok h
  have hok := prOk_of hpo
  refine ⟨by simp [pdOf], by simp [pdOf]; omega, fun m hm => ?_, fun c hc => ?_⟩
  · obtain ⟨x, _, rfl⟩ := List.mem_map.1 hm
    exact shownM_lt (by simp; omega)
  · obtain ⟨x, hx, rfl⟩ := List.mem_map.1 hc
    exact hok x hx
def pbestL (l : List (List Int)) (p : List Pr) : Tr × Int × Int :=
  if checkL l p ≠ 0 then (.mk 0 [] [], 0, checkL l p) else (ptree (pdOf l p).ps (2 ^ l.length) (2 ^ l.length - 1), (B (pdOf l p).ps (2 ^ l.length - 1)).1, 0)
def pnextL (l : List (List Int)) (p : List Pr) : Int × Bool × Int :=
  if checkL l p ≠ 0 then (0, false, checkL l p) else if 0 ≤ (B (pdOf l p).ps (2 ^ l.length - 1)).2 then ((B (pdOf l p).ps (2 ^ l.length - 1)).2, true, 0) else (0, false, 0)

section
variable {D : Nat → Prop} {w : World} {A A' : Option Addr} {n m c d : Nat}
theorem c_pall {b g : Nat} {h : PH} {pd : PD} (hp : PlanAt w b g h pd) (hl : pd.truths.length ≤ 12) : CallZ Tryz.prog 24 #[ptrQ b] w (fun v w' => v = .int .i64 ((2 ^ pd.truths.length - 1 : Nat) : Int) ∧ w' = w) := by
  refine fn_rule (args := [ptrQ b]) Tryz.func24 (by kernel_rfl) ?_
  have hn := hp.truths.1
  refine fldA ?_
  refine ld (.slice h.A0 h.n0 h.c0) (hp.blk.cell rfl) ?_
  refine len ?_
  refine shl1 (fun q hq _ => ?_)
  rw [Int.toNat_natCast] at hq
  have hq0 : 0 < q := by rw [hq]; exact Nat.two_pow_pos _
  refine arN (q - 1) (by omega) (by omega) ?_
  refine ret1 (.int .i64 ((q - 1 : Nat) : Int)) rfl ⟨?_, rfl⟩
  rw [hq, hn]
theorem c_Check {l : List (List Int)} {p : List Pr} (hl : SlR tInts D w A n l) (hp : SlR tPr D w A' m p) : CallZ Tryz.prog 8 #[.slice A n c, .slice A' m d] w (fun v w' => v = .int .i64 (checkL l p) ∧ Ext w w') := by
  refine fn_rule (args := [.slice A n c, .slice A' m d]) Tryz.func8 (by kernel_rfl) ?_
  refine call_of (c_read hl hp) ?_
  rintro _ w1 ⟨hx, ⟨hne, rfl⟩ | ⟨heq, b, g, h, rfl, -⟩⟩
  · exact ret1 (.int .i64 (checkL l p)) rfl ⟨rfl, hx⟩
  · exact ret1 (.int .i64 0) rfl ⟨by rw [heq], hx⟩
theorem c_Next {l : List (List Int)} {p : List Pr} (hl : SlR tInts D w A n l) (hp : SlR tPr D w A' m p) : CallZ Tryz.prog 12 #[.slice A n c, .slice A' m d] w (fun v w' => v = .tuple #[.int .i64 (pnextL l p).1, .bool (pnextL l p).2.1, .int .i64 (pnextL l p).2.2] ∧ Ext w w') := by
  refine fn_rule (args := [.slice A n c, .slice A' m d]) Tryz.func12 (by kernel_rfl) ?_
  have hcv := checkL_val l p
  refine call_of (c_read hl hp) ?_
  rintro _ w1 ⟨hx, ⟨hne, rfl⟩ | ⟨heq, b, g, h, rfl, hb, hg, hpl, hm, hfc, hfs⟩⟩
  · refine cN (fun _ => ?_) (fun h => absurd h hne)
    refine ret3 (.int .i64 0) (.bool false) (.int .i64 (checkL l p)) rfl rfl rfl ⟨?_, hx⟩
    unfold pnextL; rw [if_pos hne]
  · obtain ⟨hN, hm12, hh, hpo⟩ := checkL_ok heq
    have hok := pdOk_of heq
    have htl : (pdOf l p).truths.length = l.length := by simp [pdOf]
    have hpow := two_pow_le hN
    have hp0 : 0 < 2 ^ l.length := Nat.two_pow_pos _
    refine cN (fun h => absurd rfl h) (fun _ => ?_)
    refine call_of (c_pall hpl (by omega)) ?_
    rintro _ w1 ⟨rfl, rfl⟩
    rw [htl]
    have hmo : MapOk w1 g (pdOf l p).ps := ⟨_, hm, fun _ _ h => nomatch h⟩
    refine call_of (c_choose hok (S := 2 ^ l.length - 1) (by omega) hpl hmo) ?_
    rintro _ w2 ⟨rfl, k2, m2⟩
    have hx2 : Ext w w2 := hx.then k2 (fun b hb _ e => by omega)
    refine alloc (fun r8 w3 h3 => ?_)
    refine stA (vs := [.int .i64 _, .int .i64 _]) h3.blk rfl (Nat.le_of_ble_eq_true rfl) (by simp [Value.oneCell']) (fun w4 hb4 k4 hz4 => ?_)
    have hb4 : Blk w4 r8 81 [.int .i64 _, .int .i64 _] := hb4
    have e3 := h3.at_
    have hz := hx2.size
    have hx4 : Ext w w4 := (hx2.trans h3.ext).then k4 (fun b hb _ e => by omega)
    refine fldA ?_
    refine ld _ (hb4.cell rfl) ?_
    have hR : pnextL l p = if 0 ≤ (B (pdOf l p).ps (2 ^ l.length - 1)).2 then ((B (pdOf l p).ps (2 ^ l.length - 1)).2, true, 0) else (0, false, 0) := by unfold pnextL; rw [if_neg (by omega)]
    refine cD (fun hge => ?_) (fun hlt => ?_)
    · refine fldA ?_
      refine ld _ (hb4.cell rfl) ?_
      refine ret3 (.int .i64 _) (.bool true) (.int .i64 0) rfl rfl rfl ⟨?_, hx4⟩
      rw [hR, if_pos (by omega)]
    · refine ret3 (.int .i64 0) (.bool false) (.int .i64 0) rfl rfl rfl ⟨?_, hx4⟩
      rw [hR, if_neg (by omega)]
theorem c_Best {l : List (List Int)} {p : List Pr} (hl : SlR tInts D w A n l) (hp : SlR tPr D w A' m p) (hT : TabW w) :
    CallZ Tryz.prog 9 #[.slice A n c, .slice A' m d] w (fun v w' => ∃ cs f, v = .tuple #[.agg cs.toArray, .int .i64 (pbestL l p).2.1, .int .i64 (pbestL l p).2.2] ∧ (tTr f).rep (fun b => w.heap.size ≤ b) w' cs (pbestL l p).1 ∧ f ≤ 4096 ∧ Ext w w') := by
  refine fn_rule (args := [.slice A n c, .slice A' m d]) Tryz.func9 (by kernel_rfl) ?_
  refine alloc (fun r4 w0 h0 => ?_)
  have e0 := h0.at_
  have s0 := h0.size
  have x0 := h0.ext
  refine call_of (c_read (hl.ext x0) (hp.ext x0)) ?_
  rintro _ w1 ⟨hx, ⟨hne, rfl⟩ | ⟨heq, b, g, h, rfl, hb, hg, hpl, hm, hfc, hfs⟩⟩
  · have b4 : Blk w1 r4 48 [.int .i64 0, .slice none 0 0, .slice none 0 0] := h0.blk.ext hx
    have e : pbestL l p = (.mk 0 [] [], 0, checkL l p) := by unfold pbestL; rw [if_pos hne]
    refine cN (fun _ => ?_) (fun h => absurd h hne)
    refine ldA [.int .i64 0, .slice none 0 0, .slice none 0 0] (.blk b4) rfl ?_
    refine stA (vs := [.int .i64 0, .slice none 0 0, .slice none 0 0]) b4 rfl (Nat.le_of_ble_eq_true rfl) (by simp [Value.oneCell']) (fun w2 hb2 k2 hz2 => ?_)
    have hb2 : Blk w2 r4 48 [.int .i64 0, .slice none 0 0, .slice none 0 0] := hb2
    refine ret ?_
    refine resL _ (holds_agg (.blk hb2) rfl) ?_
    exact ⟨_, 1, by rw [e]; rfl, by rw [e]; exact tr_leaf, by omega, (x0.trans hx).then k2 (fun b hb _ e => by omega)⟩
  · obtain ⟨hN, hm12, hh, hpo⟩ := checkL_ok heq
    have hok := pdOk_of heq
    have htl : (pdOf l p).truths.length = l.length := by simp [pdOf]
    have hpow := two_pow_le hN
    have hp0 : 0 < 2 ^ l.length := Nat.two_pow_pos _
    have e : pbestL l p = (ptree (pdOf l p).ps (2 ^ l.length) (2 ^ l.length - 1), (B (pdOf l p).ps (2 ^ l.length - 1)).1, 0) := by unfold pbestL; rw [if_neg (by omega)]
    refine cN (fun h => absurd rfl h) (fun _ => ?_)
    have b41 : Blk w1 r4 48 [.int .i64 0, .slice none 0 0, .slice none 0 0] := h0.blk.ext hx
    have hx1 := x0.trans hx
    have s1 := hx.size
    refine call_of (c_pall hpl (by omega)) ?_
    rintro _ w1 ⟨rfl, rfl⟩
    rw [htl]
    have hmo : MapOk w1 g (pdOf l p).ps := ⟨_, hm, fun _ _ h => nomatch h⟩
    have hT1 : TabW w1 := hT.ext hx1
    have ht1 : 1 < w.heap.size := by
      have := hT 0 _ rfl
      exact lt_of_cell this
    have env : PEnv w1 b g h (pdOf l p) := ⟨hpl, hmo, hT1, by omega⟩
    refine call_of (c_tree hok (2 ^ l.length) (2 ^ l.length - 1) (by omega) (by omega) w1 env) ?_
    rintro _ w2 ⟨cs, rfl, hr, k2, m2⟩
    have env2 := env.kept k2 m2
    have s2 := k2.size
    refine call_of (c_pall env2.plan (by omega)) ?_
    rintro _ w2 ⟨rfl, rfl⟩
    rw [htl]
    refine call_of (c_choose hok (S := 2 ^ l.length - 1) (by omega) env2.plan env2.map) ?_
    rintro _ w3 ⟨rfl, k3, m3⟩
    have s3 := k3.size
    refine fldV (cs := [.int .i64 _, .int .i64 _]) _ rfl ?_
    obtain ⟨ff, hff⟩ := tr_pos hr
    rw [hff] at hr
    have hgl := hm.lt
    obtain ⟨_, _, _, _, _, _, rfl, -⟩ := tr_open hr
    have b43 := (b41.kept k2 (by omega)).kept k3 (by omega)
    refine stA (vs := [_, _, _]) b43 rfl (Nat.le_of_ble_eq_true rfl) (by simp [Value.oneCell']) (fun w4 hb4 k4 hz4 => ?_)
    have hb4 : Blk w4 r4 48 [.int .i64 _, .slice _ _ _, .slice _ _ _] := hb4
    refine ret ?_
    refine resL _ (holds_agg (.blk hb4) rfl) ?_
    have hx4 : Ext w w4 := ((hx1.then k2 (fun b hb _ e => by omega)).then k3 (fun b hb _ e => by omega)).then k4 (fun b hb _ e => by omega)
    refine ⟨[_, _, _], ff + 1, by rw [e]; rfl, ?_, by omega, hx4⟩
    rw [e, hff]
    have r := (tTr (ff + 1)).kept ((tTr (ff + 1)).kept hr k3 (fun b _ h e => by omega)) k4 (fun b _ h e => by omega)
    exact (tTr (ff + 1)).more (fun b _ h => by omega) r
def pworthL (l : List (List Int)) (p : List Pr) (f : Nat) (t : Tr) : Int × Bool × Int :=
  if checkL l p ≠ 0 then (0, false, checkL l p) else if pworth (pdOf l p).ps f t (2 ^ l.length - 1) < 0 then (0, false, 0) else (pworth (pdOf l p).ps f t (2 ^ l.length - 1), true, 0)
theorem c_Worth {l : List (List Int)} {p : List Pr} {f : Nat} {t : Tr} {Dt : Nat → Prop} {cs : List Value} (hl : SlR tInts D w A n l) (hp : SlR tPr D w A' m p) (hT : TabW w) (ht : (tTr f).rep Dt w cs t) :
    CallZ Tryz.prog 13 #[.slice A n c, .slice A' m d, .agg cs.toArray] w (fun v w' => v = .tuple #[.int .i64 (pworthL l p f t).1, .bool (pworthL l p f t).2.1, .int .i64 (pworthL l p f t).2.2] ∧ Ext w w') := by
  obtain ⟨f, rfl⟩ := tr_pos ht
  obtain ⟨A5, n5, c5, A6, n6, c6, rfl, -⟩ := tr_open ht
  refine fn_rule (args := [.slice A n c, .slice A' m d, .agg #[.int .i64 t.probe, .slice A5 n5 c5, .slice A6 n6 c6]]) Tryz.func13 (by kernel_rfl) ?_
  refine box (fun r5 w0 h0 => ?_)
  have e0 := h0.at_
  have s0 := h0.size
  have x0 := h0.ext
  refine call_of (c_read (hl.ext x0) (hp.ext x0)) ?_
  rintro _ w1 ⟨hx, ⟨hne, rfl⟩ | ⟨heq, b, g, h, rfl, hb, hg, hpl, hm, hfc, hfs⟩⟩
  · refine cN (fun _ => ?_) (fun h => absurd h hne)
    refine ret3 (.int .i64 0) (.bool false) (.int .i64 (checkL l p)) rfl rfl rfl ⟨?_, x0.trans hx⟩
    unfold pworthL; rw [if_pos hne]
  · obtain ⟨hN, hm12, hh, hpo⟩ := checkL_ok heq
    have hok := pdOk_of heq
    have htl : (pdOf l p).truths.length = l.length := by simp [pdOf]
    have hpow := two_pow_le hN
    have hp0 : 0 < 2 ^ l.length := Nat.two_pow_pos _
    have hx1 := x0.trans hx
    have hcb : CellsAt w1 r5 0 [.int .i64 t.probe, .slice A5 n5 c5, .slice A6 n6 c6] := .blk (h0.blk.ext hx)
    refine cN (fun h => absurd rfl h) (fun _ => ?_)
    refine drawX [0, 1, 2, 3, 4, 5, 6, 7, 8, 9] [3, 4] mx (by kernel_rfl) ?_
    refine ldAX _ hcb rfl (.refl _ _) ?_
    refine call_of (c_pall hpl (by omega)) ?_
    rintro _ w1 ⟨rfl, rfl⟩
    rw [htl]
    refine strS (.refl _ _) ?_
    refine call_of (c_worth hok (f + 1) t (2 ^ l.length - 1) Dt [.int .i64 t.probe, .slice A5 n5 c5, .slice A6 n6 c6] w1 (by omega) hpl (hT.ext hx1) ((tTr (f + 1)).ext ht hx1)) ?_
    rintro _ w2 ⟨rfl, hx2⟩
    have hR : pworthL l p (f + 1) t = if pworth (pdOf l p).ps (f + 1) t (2 ^ l.length - 1) < 0 then (0, false, 0) else (pworth (pdOf l p).ps (f + 1) t (2 ^ l.length - 1), true, 0) := by unfold pworthL; rw [if_neg (by omega)]
    rcases Int.lt_or_le (pworth (pdOf l p).ps (f + 1) t (2 ^ l.length - 1)) 0 with hneg | hpos
    · rw [wval_neg hneg]
      refine strS hx2 ?_
      refine ret3 (.int .i64 0) (.bool false) (.int .i64 0) rfl rfl rfl ⟨?_, hx1.trans hx2⟩
      rw [hR, if_pos hneg]
    · rw [wval_pos hpos]
      refine strS hx2 ?_
      refine ret3 (.int .i64 _) (.bool true) (.int .i64 0) rfl rfl rfl ⟨?_, hx1.trans hx2⟩
      rw [hR, if_neg (by omega)]
end
end Go.Proofs.YtcpdhclnmjfldaaGreatDoor

/- Contracts of the program: copies. -/
namespace Go.Proofs.YtcpdhclnmjfldaaGreatDoor
open Go Go.RowKit

theorem eqNil {P : Program} {t e : TypeId} {sz : Nat} [h : SliceTy P t e sz] {xo yo : Operand} {A : Option Addr} {n c : Nat} {K : Value → Prop} (k1 : A = none → K (.bool true)) (k2 : A ≠ none → K (.bool false)) : BinP P .eql t xo yo (.slice A n c) (.slice none 0 0) K := by
  rw [BinP_eq]
  obtain ⟨hu, _⟩ := sliceOf_spec h.h
  refine pure_vval (x := .bool A.isNone) (fun w => ?_) ?_
  · have h1 : (eqGuard .eql t xo yo (.slice A n c) (.slice none 0 0)).run P w = .ok () w := rfl
    have h2 : binOp .eql t (.slice A n c) (.slice none 0 0) = (do pure (.bool (← Op.equal t (.slice A n c) (.slice none 0 0)))) := rfl
    rw [Sem.run_bind, h1, h2]
    simp only [Result.andThen_ok, Sem.run_bind, run_equal_slice_nil w t e A n c hu, Sem.run_pure]
  · cases A with
    | none => exact k1 rfl
    | some a => exact k2 (by simp)

theorem flat_ints_eq {D : Nat → Prop} {w : World} : ∀ {xs : List Int} {cs : List Value}, FlatR tInt D w xs cs → cs = xs.map fun v => Value.int .i64 v
  | [], _, h => h
  | y :: r, _, ⟨c1, r1, h, ⟨h1, _⟩, h2⟩ => by rw [h, h1, flat_ints_eq h2]; rfl

section
variable {D : Nat → Prop} {w : World} {A A' : Option Addr} {n m c d : Nat}
theorem c_Clone {xs : List Int} (ha : SlR tInt D w A n xs) (hn : n ≤ 1000) : CallZ Tryz.prog 28 #[.slice A n c] w (fun v w' => Ext w w' ∧ ∃ A2 n2 c2, v = .slice A2 n2 c2 ∧ SlR tInt (fun b => w.heap.size ≤ b) w' A2 n2 xs) := by
  refine fn_rule (args := [.slice A n c]) Tryz.func28 (by kernel_rfl) ?_
  refine eqNil (fun hA => ?_) (fun hA => ?_)
  · have hx : xs = [] := by
      cases xs with
      | nil => rfl
      | cons x r => obtain ⟨b, o, cs, e, _⟩ := ha.2.2 0 x rfl; rw [hA] at e; cases e
    subst hx
    exact ret1 (.slice none 0 0) rfl ⟨.refl _ _, none, 0, 0, rfl, .nil⟩
  · refine lit [] (fun g w1 h1 => ?_)
    have ha1 := ha.ext h1.ext
    have o1 : OwnF w w1 (some (ad g 0)) 0 0 3 1 [] := OwnF.lit (cs := []) (.refl _ _) h1 rfl
    have hsrc : Src w1 A n 1 (xs.map fun v => Value.int .i64 v) := by
      refine ⟨by rw [List.length_map]; have := ha.1; omega, fun hn0 => ?_⟩
      obtain ⟨b, o, cs, x, rfl, _⟩ := ha1.at_ hn0
      obtain ⟨cs2, hf, hc⟩ := ha1.cells
      refine ⟨b, o, rfl, ?_⟩
      rw [← flat_ints_eq hf]; exact hc
    refine appF o1 hsrc (by omega) (fun A' c' w2 o2 _ _ => ?_) (h1 := by rw [List.all_map]; exact List.all_eq_true.2 fun _ _ => rfl)
    refine ret1 (.slice A' (0 + n) c') rfl ⟨o2.ext, A', 0 + n, c', rfl, ?_⟩
    refine o2.ints (xs := xs) (fun v hv => ?_) (by omega) (fun _ h => h)
    obtain ⟨k, hk⟩ := List.getElem?_of_mem hv
    obtain ⟨_, _, _, _, _, _, _, h⟩ := ha.2.2 k v hk
    exact h
end
end Go.Proofs.YtcpdhclnmjfldaaGreatDoor

/- Contracts of the program: Follow. -/
namespace Go.Proofs.YtcpdhclnmjfldaaGreatDoor
open Go Go.RowKit

theorem pworth_inv {ps : List (Int × Nat)} {d : Nat} {t : Tr} {S : Nat} (h : 0 ≤ pworth ps (d + 1) t S) (hk : t.kids ≠ []) :
    t.rest = [] ∧ t.kids.length = 2 ∧ 0 ≤ t.probe ∧ t.probe < ps.length ∧ mAt ps t.probe &&& S ≠ 0 ∧ mAt ps t.probe &&& S ≠ S ∧
      0 ≤ pworth ps d (kid t 0) (S - (mAt ps t.probe &&& S)) ∧ 0 ≤ pworth ps d (kid t 1) (mAt ps t.probe &&& S) ∧
      pworth ps (d + 1) t S = cAt ps t.probe + max (pworth ps d (kid t 0) (S - (mAt ps t.probe &&& S))) (pworth ps d (kid t 1) (mAt ps t.probe &&& S)) := by
  rw [pworth.eq_2, if_neg hk] at h ⊢
  split at h
  · omega
  rename_i h1
  rw [if_neg h1]
  split at h
  · omega
  rename_i h2
  rw [if_neg h2]
  split at h
  · omega
  rename_i h3
  rw [if_neg h3]
  have h2' := not_or.1 h2
  have h1' := not_or.1 h1
  have hr : t.rest = [] := Classical.byContradiction h1'.1
  exact ⟨hr, by omega, by omega, by omega, h2'.1, h2'.2, by omega, by omega, rfl⟩
def sAt (pd : PD) (i : Int) : Nat := pd.sets.getD i.toNat 0
def pfollowF (pd : PD) (s : Nat) : Nat → Tr → Int → List Int × Int
  | 0, t, c => (t.rest, c)
  | d + 1, t, c => if t.kids = [] then (t.rest, c) else pfollowF pd s d (kid t (if sAt pd t.probe &&& s ≠ 0 then 1 else 0)) (c + cAt pd.ps t.probe)
theorem pfollowF_s {pd : PD} {s d : Nat} {t : Tr} {c : Int} : pfollowF pd s (d + 1) t c = if t.kids = [] then (t.rest, c) else pfollowF pd s d (kid t (if sAt pd t.probe &&& s ≠ 0 then 1 else 0)) (c + cAt pd.ps t.probe) := rfl
def pfollowL (l : List (List Int)) (p : List Pr) (d : Nat) (t : Tr) (truth : List Int) : List Int × Int × Int :=
  if checkL l p ≠ 0 then ([], 0, checkL l p)
  else if pworth (pdOf l p).ps d t (2 ^ l.length - 1) < 0 ∨ setOk truth = false then ([], 0, 500)
  else ((pfollowF (pdOf l p) (mask truth) d t 0).1, (pfollowF (pdOf l p) (mask truth) d t 0).2, 0)

section
variable {D Dt Du : Nat → Prop} {w : World} {A A' A2 A4 : Option Addr} {n m k c d e g' : Nat}
theorem c_Follow {l : List (List Int)} {p : List Pr} {f : Nat} {t : Tr} {cs : List Value} {truth : List Int} (hl : SlR tInts D w A n l) (hp : SlR tPr D w A' m p) (hT : TabW w) (ht : (tTr f).rep Dt w cs t) (hu : SlR tInt Du w A4 k truth) :
    CallZ Tryz.prog 10 #[.slice A n c, .slice A' m d, .agg cs.toArray, .slice A4 k e] w (fun v w' => ∃ A5 n5 c5, v = .tuple #[.slice A5 n5 c5, .int .i64 (pfollowL l p f t truth).2.1, .int .i64 (pfollowL l p f t truth).2.2] ∧ SlR tInt All w' A5 n5 (pfollowL l p f t truth).1 ∧ Ext w w') := by
  obtain ⟨f, rfl⟩ := tr_pos ht
  have ht0 : (tTr (f + 1)).rep (fun b => b < w.heap.size) w cs t := (tTr (f + 1)).more (fun b hb _ => hb) ht
  obtain ⟨A5, n5, c5, A6, n6, c6, rfl, -⟩ := tr_open ht
  refine fn_rule (args := [.slice A n c, .slice A' m d, .agg #[.int .i64 t.probe, .slice A5 n5 c5, .slice A6 n6 c6], .slice A4 k e]) Tryz.func10 (by kernel_rfl) ?_
  refine box (fun r6 w0 h0 => ?_)
  have e0 := h0.at_
  have s0 := h0.size
  have x0 := h0.ext
  refine call_of (c_read (hl.ext x0) (hp.ext x0)) ?_
  rintro _ w1 ⟨hx, ⟨hne, rfl⟩ | ⟨heq, b, g, h, rfl, hb, hg, hpl, hm, hfc, hfs⟩⟩
  · refine cN (fun _ => ?_) (fun h => absurd h hne)
    refine ret3 (.slice none 0 0) (.int .i64 0) (.int .i64 (checkL l p)) rfl rfl rfl ⟨none, 0, 0, ?_, ?_, x0.trans hx⟩
    · unfold pfollowL; rw [if_pos hne]
    · unfold pfollowL; rw [if_pos hne]; exact .nil
  · obtain ⟨hN, hm12, hh, hpo⟩ := checkL_ok heq
    have hok := pdOk_of heq
    have htl : (pdOf l p).truths.length = l.length := by simp [pdOf]
    have hpow := two_pow_le hN
    have hp0 : 0 < 2 ^ l.length := Nat.two_pow_pos _
    have hx1 := x0.trans hx
    have hblk : Blk w1 r6 48 [.int .i64 t.probe, .slice A5 n5 c5, .slice A6 n6 c6] := h0.blk.ext hx
    have hcb : CellsAt w1 r6 0 [.int .i64 t.probe, .slice A5 n5 c5, .slice A6 n6 c6] := .blk hblk
    have hR : pfollowL l p (f + 1) t truth = if pworth (pdOf l p).ps (f + 1) t (2 ^ l.length - 1) < 0 ∨ setOk truth = false then ([], 0, 500) else ((pfollowF (pdOf l p) (mask truth) (f + 1) t 0).1, (pfollowF (pdOf l p) (mask truth) (f + 1) t 0).2, 0) := by unfold pfollowL; rw [if_neg (by omega)]
    refine cN (fun h => absurd rfl h) (fun _ => ?_)
    have hcall := c_worth hok (f + 1) t (2 ^ l.length - 1) Dt [.int .i64 t.probe, .slice A5 n5 c5, .slice A6 n6 c6] w1 (by omega) hpl (hT.ext hx1) ((tTr (f + 1)).ext ht hx1)
    cases hs : setOk truth with
    | false =>
      rw [if_pos (.inr hs)] at hR
      refine call_of (c_setF (hu.ext hx1) hs) ?_
      rintro _ w1 ⟨rfl, rfl⟩
      refine drawX [0, 1, 2, 3, 4, 5, 6, 7, 8, 9] [3, 4] mx (by kernel_rfl) ?_
      refine ldAX _ hcb rfl (.refl _ _) ?_
      refine call_of (c_pall hpl (by omega)) ?_
      rintro _ w1 ⟨rfl, rfl⟩
      rw [htl]
      refine strS (.refl _ _) ?_
      refine call_of hcall ?_
      rintro _ w2 ⟨rfl, hx2⟩
      rcases Int.lt_or_le (pworth (pdOf l p).ps (f + 1) t (2 ^ l.length - 1)) 0 with hneg | hpos
      · rw [wval_neg hneg]
        refine strS hx2 ?_
        refine ret3 (.slice none 0 0) (.int .i64 0) (.int .i64 500) rfl rfl rfl ⟨none, 0, 0, by rw [hR], by rw [hR]; exact .nil, hx1.trans hx2⟩
      · rw [wval_pos hpos]
        refine strS hx2 ?_
        refine ret3 (.slice none 0 0) (.int .i64 0) (.int .i64 500) rfl rfl rfl ⟨none, 0, 0, by rw [hR], by rw [hR]; exact .nil, hx1.trans hx2⟩
    | true =>
      have hms := mask_lt hs
      refine call_of (c_setT (hu.ext hx1) hs) ?_
      rintro _ w1 ⟨rfl, rfl⟩
      refine drawX [0, 1, 2, 3, 4, 5, 6, 7, 8, 9] [3, 4] mx (by kernel_rfl) ?_
      refine ldAX _ hcb rfl (.refl _ _) ?_
      refine call_of (c_pall hpl (by omega)) ?_
      rintro _ w1 ⟨rfl, rfl⟩
      rw [htl]
      refine strS (.refl _ _) ?_
      refine call_of hcall ?_
      rintro _ w2 ⟨rfl, hx2⟩
      rcases Int.lt_or_le (pworth (pdOf l p).ps (f + 1) t (2 ^ l.length - 1)) 0 with hneg | hpos
      · rw [if_pos (.inl hneg)] at hR
        rw [wval_neg hneg]
        refine strS hx2 ?_
        refine ret3 (.slice none 0 0) (.int .i64 0) (.int .i64 500) rfl rfl rfl ⟨none, 0, 0, by rw [hR], by rw [hR]; exact .nil, hx1.trans hx2⟩
      · rw [if_neg (by rw [hs]; simp; omega)] at hR
        rw [wval_pos hpos]
        refine strS hx2 ?_
        have hpl2 := hpl.kept hx2.any
        have hgl := hm.lt
        have s1' := hx.size
        have s2 := hx2.size
        refine loop2 (fun (d : Nat) (cost : Int) => [(9, .int .i64 cost)])
          (fun d' cost w' => Ext w w' ∧ Kept (fun b => b ≠ r6) w2 w' ∧ ∃ t' S' cells, Blk w' r6 48 cells ∧ (tTr d').rep (fun b => b < w.heap.size) w' cells t' ∧ 0 ≤ pworth (pdOf l p).ps d' t' S' ∧ pfollowF (pdOf l p) (mask truth) (f + 1) t 0 = pfollowF (pdOf l p) (mask truth) d' t' cost ∧ 0 ≤ cost ∧ cost + S' * 1048576 ≤ 4096 * 1048576)
          (fun d _ _ => d) (f + 1) 0 ⟨rfl, trivial⟩ ⟨hx1.trans hx2, .refl _ _, t, 2 ^ l.length - 1, _, hblk.ext hx2, (tTr (f + 1)).ext ht0 (hx1.trans hx2), hpos, rfl, by omega, by omega⟩ rfl ?_
        rintro G d' cost w3 ⟨hx3, hk13, t', S', cells, hb3, ht3, hwp3, he, hc0, hc1⟩
        obtain ⟨d', rfl⟩ := tr_pos ht3
        obtain ⟨A7, n7, c7, A8, n8, c8, rfl, -, hrs, -, hkd, -⟩ := tr_open ht3
        have hk8 := hkd.1
        rw [pfollowF_s (t := t') (d := d')] at he
        refine fldA ?_
        refine ld _ (hb3.cell rfl) ?_
        refine len ?_
        have hplan : ∀ (x : Nat) (v : Value), x < 5 → (h.cells g)[x]? = some v → w3.cell? (ad b x) = some v := fun x v _ hv => hk13.cell (hpl2.blk.cell hv) (show b ≠ r6 by omega)
        refine cD (fun hlt => ?_) (fun hge => ?_)
        · have hk0 : t'.kids ≠ [] := fun h => by rw [h] at hk8; simp at hk8; omega
          rw [if_neg hk0] at he
          obtain ⟨q1, q2, q3, q4, q5, q6, q7, q8, q9⟩ := pworth_inv hwp3 hk0
          have hnl : (pdOf l p).ps.length = p.length := by unfold PD.ps pdOf; simp
          have hfc3 := (hfc.ext hx2).kept hk13 (fun b _ h e => by omega)
          have hfs3 := (hfs.ext hx2).kept hk13 (fun b _ h e => by omega)
          have hn2 := hfc3.1
          have hn3 := hfs3.1
          have hl2 : (pdOf l p).costs.length = p.length := by unfold pdOf; simp
          have hl3 : (pdOf l p).sets.length = p.length := by unfold pdOf; simp
          obtain ⟨bc, oc, _, cst, hA2, hcst, -, -, hcc, rfl, -⟩ := hfc3.at_ (k := t'.probe.toNat) (by omega)
          obtain ⟨bs, os, cs, m3, hA3, hm3, -, -, hcs, hrs3⟩ := hfs3.at_ (k := t'.probe.toNat) (by omega)
          obtain ⟨rfl, -⟩ := tNat_rep hrs3
          have hcok := hok.cost cst (List.mem_of_getElem? hcst)
          obtain ⟨msh, hmsh⟩ : ∃ x, (pdOf l p).shown[t'.probe.toNat]? = some x := ⟨_, List.getElem?_eq_getElem (by have := hok.len; omega)⟩
          have hxx : (pdOf l p).ps[t'.probe.toNat]? = some (cst, msh) := List.getElem?_zip_eq_some.2 ⟨hcst, hmsh⟩
          have hcA : cAt (pdOf l p).ps t'.probe = cst := by unfold cAt; rw [List.getD_eq_getElem?_getD, hxx]; rfl
          have hsA : sAt (pdOf l p) t'.probe = m3 := by unfold sAt; rw [List.getD_eq_getElem?_getD, hm3]; rfl
          have hm312 : m3 < 4096 := by
            obtain ⟨z, hz, rfl⟩ := List.mem_map.1 (List.mem_of_getElem? hm3)
            have := List.all_eq_true.1 hpo z hz
            unfold probeOk at this
            simp at this
            exact mask_lt this.2
          rw [hcA, hsA] at he
          generalize hm2 : mAt (pdOf l p).ps t'.probe = m2 at *
          have hle2 : m2 &&& S' ≤ S' := Nat.and_le_right
          refine drawQ mx (by kernel_rfl) ?_
          refine fldA ?_
          refine ld (.slice (some (ad bc oc)) h.n2 h.c2) (by rw [← hA2]; exact hplan 2 _ (by decide) rfl) ?_
          refine fldA ?_
          refine ld _ (hb3.cell rfl) ?_
          refine idx t'.probe.toNat (by omega) (by omega) ?_
          refine ld _ (hcc 0 _ rfl) ?_
          refine arI (by omega) ?_
          refine drawQ mx (by kernel_rfl) ?_
          refine fldA ?_
          refine ld (.slice (some (ad bs os)) h.n3 h.c3) (by rw [← hA3]; exact hplan 3 _ (by decide) rfl) ?_
          refine fldA ?_
          refine ld _ (hb3.cell rfl) ?_
          refine idx t'.probe.toNat (by omega) (by omega) ?_
          refine ld _ (hcs 0 _ rfl) ?_
          refine andV (fun y hy => ?_)
          rw [← hy] at he
          obtain ⟨b0, o0, ca, a, rfl, ha, -, -, hca, hra⟩ := hkd.at_ (k := 0) (by omega)
          obtain ⟨b1, o1, cb, a2, e1, ha2, -, -, hcb', hrb⟩ := hkd.at_ (k := 1) (by omega)
          simp only [Option.some.injEq, Addr.mk.injEq] at e1
          obtain ⟨rfl, rfl, _⟩ := e1
          rw [tTr_sz] at hca hcb'
          rw [kid_of ha] at q7
          rw [kid_of ha2] at q8
          refine cN (fun h5 => ?_) (fun h5 => ?_)
          · rw [if_pos (by omega), kid_of ha2] at he
            refine fldA ?_
            refine ld _ (hb3.cell rfl) ?_
            refine idx 1 rfl (by omega) ?_
            obtain ⟨d', rfl⟩ := tr_pos hrb
            obtain ⟨_, _, _, _, _, _, rfl, -⟩ := tr_open hrb
            refine ldA [_, _, _] hcb' rfl ?_
            refine stA (vs := [_, _, _]) hb3 rfl (Nat.le_of_ble_eq_true rfl) (by simp [Value.oneCell']) (fun w5 hb5 hk5 hz5 => ?_)
            have hx5 : Ext w w5 := hx3.then hk5 (fun b hb _ e => by omega)
            have hr5 := (tTr (d' + 1)).kept hrb hk5 (fun b _ h e => by omega)
            exact next2 (d' + 1) (cost + cst) ⟨rfl, trivial⟩ ⟨hx5, hk13.trans hk5, a2, (m2 &&& S'), _, hb5, hr5, q8, he, by omega, by omega⟩ (by omega)
          · rw [if_neg (by omega), kid_of ha] at he
            refine fldA ?_
            refine ld _ (hb3.cell rfl) ?_
            refine idx 0 rfl (by omega) ?_
            obtain ⟨d', rfl⟩ := tr_pos hra
            obtain ⟨_, _, _, _, _, _, rfl, -⟩ := tr_open hra
            refine ldA [_, _, _] hca rfl ?_
            refine stA (vs := [_, _, _]) hb3 rfl (Nat.le_of_ble_eq_true rfl) (by simp [Value.oneCell']) (fun w5 hb5 hk5 hz5 => ?_)
            have hx5 : Ext w w5 := hx3.then hk5 (fun b hb _ e => by omega)
            have hr5 := (tTr (d' + 1)).kept hra hk5 (fun b _ h e => by omega)
            exact next2 (d' + 1) (cost + cst) ⟨rfl, trivial⟩ ⟨hx5, hk13.trans hk5, a, (S' - (m2 &&& S')), _, hb5, hr5, q7, he, by omega, by omega⟩ (by omega)
        · rw [if_pos (List.eq_nil_of_length_eq_zero (by omega))] at he
          rw [he] at hR
          have hkn : t'.kids = [] := List.eq_nil_of_length_eq_zero (by omega)
          have hrl : t'.rest.length ≤ 12 := by
            rw [pworth.eq_2, if_pos hkn] at hwp3
            split at hwp3
            · omega
            · rename_i h1
              have h3 : t'.rest = ofNats (mem S' 12) := Classical.byContradiction fun h => h1 (.inr (.inr h))
              rw [h3]; unfold ofNats; rw [List.length_map]; exact mem_len _ _
          have hr7 := hrs.1
          refine fldA ?_
          refine ld _ (hb3.cell rfl) ?_
          refine call_of (c_Clone hrs (by omega)) ?_
          rintro _ w4 ⟨hx4, A9, n9, c9, rfl, h9⟩
          refine ret3 (.slice A9 n9 c9) (.int .i64 cost) (.int .i64 0) rfl rfl rfl ⟨A9, n9, c9, by rw [hR], by rw [hR]; exact h9.toAll, hx3.trans hx4⟩
end
end Go.Proofs.YtcpdhclnmjfldaaGreatDoor

/- Contracts: the law's own helpers. -/
namespace Go.Proofs.YtcpdhclnmjfldaaGreatDoor
open Go Go.RowKit

section
variable {D D' : Nat → Prop} {w : World} {A A' : Option Addr} {n m c d : Nat}
theorem c_shows {x : Pr} {set : List Int} {cs : List Value} (hx : tPr.rep D w cs x) (hs : SlR tInt D' w A n set) : CallZ Tryz.prog 11 #[.agg cs.toArray, .slice A n c] w (fun v w' => v = .bool (showsL x.2 set) ∧ Ext w w') := by
  obtain ⟨Ax, nx, cx, rfl, hxi, hxs, -⟩ := pr_open hx
  have hn := hs.le
  have hm := hxs.le
  refine fn_rule (args := [.agg #[.int .i64 x.1, .slice Ax nx cx], .slice A n c]) Tryz.func11 (by kernel_rfl) ?_
  refine box (fun gb w1 hb => ?_)
  have x1 := hb.ext
  refine mmap (fun g w2 hg hw2 => ?_)
  have x2 : Ext w1 w2 := by rw [hw2]; exact Kept.alloc _ _ _
  have m2 : MapFn .i64 w2 g (fun _ => none) := by rw [hw2, hg]; exact MapFn.new _ _
  have hsz := hb.size
  have hgb := hb.at_
  have hw := x1.trans x2
  refine len ?_
  refine loop_rule (fun k : Nat => [(13, .int .i64 k)]) (fun k w' => k ≤ n ∧ Kept (fun b => b ≠ g) w2 w' ∧ ∃ f, MapFn .i64 w' g f ∧ ∀ y, f y = if (set.take k).contains y then some (.bool true) else none) (fun k _ => n - k) 0 ⟨rfl, trivial⟩ ⟨by omega, .refl _ _, _, m2, fun y => by simp⟩ rfl ?_
  rintro G k w3 ⟨hk, k3, f, hf, hfy⟩
  have hx3 : Ext w w3 := hw.then k3 (fun b hb _ e => by omega)
  refine cD (fun hlt => ?_) (fun hge => ?_)
  · have hlt : k < n := by omega
    obtain ⟨b, o, cs, y, rfl, hy, hdy, -, hc, rfl, -⟩ := (hs.ext hx3).at_ hlt
    refine idx k rfl hlt ?_
    refine ld _ (hc 0 _ rfl) ?_
    refine mupd hf (fun w4 hf4 k4 hz4 => ?_)
    refine arI (by omega) ?_
    refine next (k + 1) ⟨rfl, trivial⟩ ⟨by omega, k3.trans k4, _, hf4, fun z => ?_⟩ (by omega)
    unfold fset
    rw [hfy, take_succ' hy]
    by_cases h : z = y
    · subst h
      have hcn : (set.take k ++ [z]).contains z = true := by simp
      rw [hcn, if_pos rfl, if_pos rfl]; rfl
    · have hcn : (set.take k ++ [y]).contains z = (set.take k).contains z := by simp [h]
      rw [hcn]; simp [h]
  · rw [List.take_of_length_le (by have := hs.1; omega)] at hfy
    have hcb : CellsAt w3 gb 0 [.int .i64 x.1, .slice Ax nx cx] := CellsAt.kept (.blk (hb.blk.ext x2)) k3 (show gb ≠ g by omega)
    refine fldA ?_
    refine ld _ (hcb 1 _ rfl) ?_
    refine len ?_
    refine loop_rule (fun j : Nat => [(23, .int .i64 j)]) (fun j w' => j ≤ nx ∧ w3 = w' ∧ showsL x.2 set = showsL (x.2.drop j) set) (fun j _ => nx - j) 0 ⟨rfl, trivial⟩ ⟨by omega, rfl, rfl⟩ rfl ?_
    rintro G j _ ⟨hj, rfl, he⟩
    refine cD (fun hlt => ?_) (fun hge => ?_)
    · have hlt : j < nx := by omega
      obtain ⟨b, o, cs, y, rfl, hy, hdy, -, hc, rfl, -⟩ := (hxs.ext hx3).at_ hlt
      rw [hdy] at he
      have he : showsL x.2 set = ((set.any fun z => y == z) || showsL (x.2.drop (j + 1)) set) := he
      have hany : (set.any fun z => y == z) = set.contains y := by rw [List.contains_eq_any_beq]
      refine idx j rfl hlt ?_
      refine ld _ (hc 0 _ rfl) ?_
      cases hcy : set.contains y with
      | true =>
        refine look1 (.bool true) (fun u hu => by subst hu; exact hf) (by rw [hfy, if_pos hcy]; rfl) ?_
        exact ret1 (.bool true) rfl ⟨by rw [he, hany, hcy]; rfl, hx3⟩
      | false =>
        refine look1 (.bool false) (fun u hu => by subst hu; exact hf) (by rw [hfy, if_neg (by rw [hcy]; simp)]; rfl) ?_
        refine arI (by omega) ?_
        exact next (j + 1) ⟨rfl, trivial⟩ ⟨by omega, rfl, by rw [he, hany, hcy]; rfl⟩ (by omega)
    · exact ret1 (.bool false) rfl ⟨by rw [he, drop_end (by have := hxs.1; omega)]; rfl, hx3⟩
end
end Go.Proofs.YtcpdhclnmjfldaaGreatDoor

/- The program's way is the reference's: sets of bits against lists. -/
namespace Go.Proofs.YtcpdhclnmjfldaaGreatDoor

/-- What a measurement shows of a hypothesis, by the numbers. -/
theorem shw_mask {l : List (List Int)} {x : Pr} {i : Nat} (hi : i < l.length) (hl : ∀ y ∈ l, setOk y = true) (hx : setOk x.2 = true) : shw l x i = decide (mask x.2 &&& (l.map mask).getD i 0 ≠ 0) := by
  unfold shw
  have e : l.getD i [] = l[i] := by rw [List.getD_eq_getElem?_getD, List.getElem?_eq_getElem hi]; rfl
  have e2 : (l.map mask).getD i 0 = mask l[i] := by rw [List.getD_eq_getElem?_getD, List.getElem?_map, List.getElem?_eq_getElem hi]; rfl
  rw [e, e2, Bool.eq_iff_iff, decide_eq_true_iff]
  exact shows_mask hx (hl _ (List.getElem_mem hi))
theorem shown_bit {l : List (List Int)} {x : Pr} (hl : ∀ y ∈ l, setOk y = true) (hx : setOk x.2 = true) (i : Nat) : (shownM (l.map mask) (mask x.2)).testBit i = (decide (i < l.length) && shw l x i) := by
  rw [shownM_bit, List.length_map]
  by_cases hi : i < l.length
  · rw [shw_mask hi hl hx]
  · rw [decide_eq_false hi]; rfl
/-- The part of a set for which a measurement shows somebody. -/
theorem part_true {l : List (List Int)} {x : Pr} {S : Nat} (hl : ∀ y ∈ l, setOk y = true) (hx : setOk x.2 = true) : partL l x (mem S l.length) true = mem (shownM (l.map mask) (mask x.2) &&& S) l.length := by
  unfold partL mem
  rw [List.filter_filter]
  refine List.filter_congr fun i hi => ?_
  have hi := List.mem_range.1 hi
  rw [Nat.testBit_and, shown_bit hl hx, decide_eq_true hi]
  cases shw l x i <;> simp
theorem part_false {l : List (List Int)} {x : Pr} {S : Nat} (hS : S < 2 ^ l.length) (hl : ∀ y ∈ l, setOk y = true) (hx : setOk x.2 = true) : partL l x (mem S l.length) false = mem (S - (shownM (l.map mask) (mask x.2) &&& S)) l.length := by
  have h1 := part_bits_split (l := l) (x := x) (list := mem S l.length)
  rw [part_true hl hx, bitsL_mem hS, bitsL_mem (Nat.lt_of_le_of_lt Nat.and_le_right hS)] at h1
  have h2 : partL l x (mem S l.length) false = (List.range l.length).filter (fun i => S.testBit i && !shw l x i) := by
    unfold partL mem
    rw [List.filter_filter]
    refine List.filter_congr fun i _ => ?_
    cases shw l x i <;> simp
  have h3 : S - (shownM (l.map mask) (mask x.2) &&& S) = bitsL (partL l x (mem S l.length) false) := by omega
  rw [h3, h2]
  unfold mem
  refine List.filter_congr fun i hi => ?_
  rw [filter_testBit, decide_eq_true (List.mem_range.1 hi)]; simp

theorem psOfEq (l : List (List Int)) (p : List Pr) : (pdOf l p).ps = p.map fun x => (x.1, shownM (l.map mask) (mask x.2)) := by
  unfold PD.ps pdOf
  induction p with
  | nil => rfl
  | cons x r ih => simp only [List.map_cons, List.zip_cons_cons]; rw [ih]
theorem part_bits {l : List (List Int)} {x : Pr} {S : Nat} (hS : S < 2 ^ l.length) (hl : ∀ y ∈ l, setOk y = true) (hx : setOk x.2 = true) : bitsL (partL l x (mem S l.length) true) = shownM (l.map mask) (mask x.2) &&& S := by
  rw [part_true hl hx, bitsL_mem (Nat.lt_of_le_of_lt Nat.and_le_right hS)]
/-- One measurement's turn: the reference's and the program's. -/
theorem step_eq {l : List (List Int)} {x : Pr} {S i : Nat} {c : Nat → Int} {rec : Nat → Int × Int} {a : Int × Bool} {b : Int × Int} (hS : S < 2 ^ l.length) (hl : ∀ y ∈ l, setOk y = true) (hx : setOk x.2 = true)
    (hc : ∀ T, T < S → c T = (rec T).1) (h1 : a.1 = b.1) (h2 : a.2 = decide (0 ≤ b.2)) :
    (rstep l c S a x).1 = (pstep rec S i (x.1, shownM (l.map mask) (mask x.2)) b).1 ∧ (rstep l c S a x).2 = decide (0 ≤ (pstep rec S i (x.1, shownM (l.map mask) (mask x.2)) b).2) := by
  rw [rstep_eq (part_bits hS hl hx)]
  unfold pstep
  by_cases hs : psep (shownM (l.map mask) (mask x.2)) S = true
  · obtain ⟨p1, p2, p3⟩ := psep_lt hs
    rw [if_neg (by omega), if_pos hs, hc _ p1, hc _ p2, h1]
    by_cases hcnd : b.2 < 0 ∨ x.1 + max (rec (shownM (l.map mask) (mask x.2) &&& S)).1 (rec (S - (shownM (l.map mask) (mask x.2) &&& S))).1 < b.1
    · rw [if_pos hcnd, if_pos (by rcases hcnd with h | h; left; rw [h2, decide_eq_false (by omega)]; right; exact h)]
      exact ⟨rfl, (decide_eq_true (by omega)).symm⟩
    · rw [if_neg hcnd, if_neg (by rintro (h | h); rw [h2, decide_eq_false_iff_not] at h; exact hcnd (.inl (by omega)); exact hcnd (.inr h))]
      exact ⟨h1, h2⟩
  · rw [if_neg hs, if_pos (by
      unfold psep at hs
      simp at hs
      by_cases h0 : shownM (l.map mask) (mask x.2) &&& S = 0
      · exact .inl h0
      · exact .inr (hs h0))]
    exact ⟨h1, h2⟩
theorem fold_eq {l : List (List Int)} {S : Nat} {c : Nat → Int} {rec : Nat → Int × Int} (hS : S < 2 ^ l.length) (hl : ∀ y ∈ l, setOk y = true) (hc : ∀ T, T < S → c T = (rec T).1) :
    ∀ (p : List Pr) (i : Nat) (a : Int × Bool) (b : Int × Int), (∀ x ∈ p, setOk x.2 = true) → a.1 = b.1 → a.2 = decide (0 ≤ b.2) →
      (p.foldl (rstep l c S) a).1 = (pfold rec S i (p.map fun x => (x.1, shownM (l.map mask) (mask x.2))) b).1
  | [], _, _, _, _, h, _ => h
  | x :: r, i, a, b, hp, h1, h2 => by
    obtain ⟨e1, e2⟩ := step_eq (i := i) hS hl (hp x List.mem_cons_self) hc h1 h2
    exact fold_eq hS hl hc r (i + 1) _ _ (fun y hy => hp y (List.mem_cons_of_mem _ hy)) e1 e2
/-- The reference's table of costs is the program's. -/
theorem tab_eq {l : List (List Int)} {p : List Pr} (hl : ∀ y ∈ l, setOk y = true) (hp : ∀ x ∈ p, setOk x.2 = true) : ∀ s, s ≤ 2 ^ l.length → ∀ T, T < s → (rtab l p s).getD T 0 = (B (pdOf l p).ps T).1
  | 0, _, T, h => absurd h (Nat.not_lt_zero _)
  | s + 1, hs, T, h => by
    have ih := tab_eq hl hp s (by omega)
    have hlen := rtab_len l p s
    rw [rtab, List.getD_eq_getElem?_getD]
    by_cases hT : T < s
    · rw [List.getElem?_append_left (by omega), ← List.getD_eq_getElem?_getD]; exact ih T hT
    · have : T = s := by omega
      subst this
      rw [List.getElem?_append_right (by omega), hlen, Nat.sub_self]
      show (rcost l p (fun k => (rtab l p T).getD k 0) T).1 = _
      unfold rcost
      rw [B_eq, psOfEq, ← psOfEq]
      have := fold_eq (S := T) (c := fun k => (rtab l p T).getD k 0) (rec := B (pdOf l p).ps) (by omega) hl (fun k hk => ih k hk) p 0 (0, false) (0, -1) hp rfl rfl
      rw [this, ← psOfEq]

/-- What the best choice is: the least cost, at the first measurement that has it. -/
def pval (rec : Nat → Int × Int) (S : Nat) (x : Int × Nat) : Int := x.1 + max (rec (x.2 &&& S)).1 (rec (S - (x.2 &&& S))).1
theorem pfold_first {rec : Nat → Int × Int} {S : Nat} : ∀ (ps : List (Int × Nat)) (i : Nat) (acc : Int × Int), (acc.2 < 0 ∨ acc.2 < i) →
    let res := pfold rec S i ps acc
    (res = acc ∧ (acc.2 < 0 → ∀ x ∈ ps, psep x.2 S = false) ∧ (0 ≤ acc.2 → ∀ x ∈ ps, psep x.2 S = true → acc.1 ≤ pval rec S x)) ∨
    (∃ (j : Nat) (x : Int × Nat), ps[j]? = some x ∧ res = (pval rec S x, ((i + j : Nat) : Int)) ∧ psep x.2 S = true ∧ (0 ≤ acc.2 → pval rec S x < acc.1) ∧
      (∀ (k : Nat) (y : Int × Nat), k < j → ps[k]? = some y → psep y.2 S = true → pval rec S x < pval rec S y) ∧ (∀ (k : Nat) (y : Int × Nat), ps[k]? = some y → psep y.2 S = true → pval rec S x ≤ pval rec S y))
  | [], i, acc, _ => .inl ⟨rfl, fun _ _ h => (by cases h), fun _ _ h => (by cases h)⟩
  | x :: r, i, acc, ha => by
    intro res
    have hres : res = pfold rec S (i + 1) r (pstep rec S i x acc) := rfl
    by_cases hs : psep x.2 S = true
    · by_cases hc : acc.2 < 0 ∨ pval rec S x < acc.1
      · have he : pstep rec S i x acc = (pval rec S x, (i : Int)) := by unfold pstep; rw [if_pos hs]; unfold pval at hc ⊢; rw [if_pos hc]
        rw [he] at hres
        rcases pfold_first (rec := rec) (S := S) r (i + 1) (pval rec S x, (i : Int)) (.inr (by show (i : Int) < ((i + 1 : Nat) : Int); omega)) with ⟨h1, h2, h3⟩ | ⟨j, y, hj, h1, h2, h3, h4, h5⟩
        · refine .inr ⟨0, x, rfl, by rw [hres, h1]; rfl, hs, fun h => by rcases hc with h' | h'; omega; exact h', fun k y hk => absurd hk (Nat.not_lt_zero _), fun k y hk hy => ?_⟩
          cases k with
          | zero => simp at hk; subst hk; exact Int.le_refl _
          | succ k => exact h3 (by show (0 : Int) ≤ (i : Int); omega) y (List.mem_of_getElem? (by simpa using hk)) hy
        · have h3 := h3 (by show (0 : Int) ≤ (i : Int); omega)
          refine .inr ⟨j + 1, y, by simpa using hj, by rw [hres, h1]; congr 2; omega, h2, fun h => by rcases hc with h' | h'; omega; exact Int.lt_trans h3 h', fun k z hk hz hzs => ?_, fun k z hz hzs => ?_⟩
          · cases k with
            | zero => simp at hz; subst hz; exact h3
            | succ k => exact h4 k z (by omega) (by simpa using hz) hzs
          · cases k with
            | zero => simp at hz; subst hz; exact Int.le_of_lt h3
            | succ k => exact h5 k z (by simpa using hz) hzs
      · have he : pstep rec S i x acc = acc := by unfold pstep; rw [if_pos hs]; unfold pval at hc; rw [if_neg hc]
        have hc' := not_or.1 hc
        rw [he] at hres
        rcases pfold_first (rec := rec) (S := S) r (i + 1) acc (by rcases ha with h | h; exact .inl h; right; omega) with ⟨h1, h2, h3⟩ | ⟨j, y, hj, h1, h2, h3, h4, h5⟩
        · refine .inl ⟨by rw [hres, h1], fun h => absurd h hc'.1, fun h z hz hzs => ?_⟩
          rcases List.mem_cons.1 hz with rfl | hz
          · have := hc'.2; omega
          · exact h3 h z hz hzs
        · refine .inr ⟨j + 1, y, by simpa using hj, by rw [hres, h1]; congr 2; omega, h2, h3, fun k z hk hz hzs => ?_, fun k z hz hzs => ?_⟩
          · cases k with
            | zero => simp at hz; subst hz; have := h3 (by omega); have := hc'.2; omega
            | succ k => exact h4 k z (by omega) (by simpa using hz) hzs
          · cases k with
            | zero => simp at hz; subst hz; have := h3 (by omega); have := hc'.2; omega
            | succ k => exact h5 k z (by simpa using hz) hzs
    · have he : pstep rec S i x acc = acc := by unfold pstep; rw [if_neg hs]
      rw [he] at hres
      rcases pfold_first (rec := rec) (S := S) r (i + 1) acc (by rcases ha with h | h; exact .inl h; right; omega) with ⟨h1, h2, h3⟩ | ⟨j, y, hj, h1, h2, h3, h4, h5⟩
      · refine .inl ⟨by rw [hres, h1], fun h z hz => ?_, fun h z hz hzs => ?_⟩
        · rcases List.mem_cons.1 hz with rfl | hz
          · simpa using hs
          · exact h2 h z hz
        · rcases List.mem_cons.1 hz with rfl | hz
          · exact absurd hzs hs
          · exact h3 h z hz hzs
      · refine .inr ⟨j + 1, y, by simpa using hj, by rw [hres, h1]; congr 2; omega, h2, h3, fun k z hk hz hzs => ?_, fun k z hz hzs => ?_⟩
        · cases k with
          | zero => simp at hz; subst hz; exact absurd hzs hs
          | succ k => exact h4 k z (by omega) (by simpa using hz) hzs
        · cases k with
          | zero => simp at hz; subst hz; exact absurd hzs hs
          | succ k => exact h5 k z (by simpa using hz) hzs
end Go.Proofs.YtcpdhclnmjfldaaGreatDoor
