/- Parts of the proof: Dd De Df Dg Dh Di Dk Za. -/
import Derived.Test.YtmjcaclakggafaaM8
import Derived.Test.YtmjcaclakggafaaM7
import Derived.Test.YtmjcaclakggafaaM5
import Derived.Test.YtmjcaclakggafaaRows
import Derived.Stop.LaidErr

/- Layer 41: contracts in one form; the laws' small district; sane. -/
namespace Go.Proofs.Ytmjcaclakggafaa
open Go Go.RowKit

/-- A slice of a division's. -/
structure CutR (w w' : World) (d : Dist) (cl : List Int) (E : Int) (H G M : Option Addr) (nh ng nm : Nat) : Prop where
  er : dvErr d cl E ≠ 0 → (H = none ∧ nh = 0) ∧ (G = none ∧ ng = 0) ∧ (M = none ∧ nm = 0)
  ok : dvErr d cl E = 0 → nh = d.reaches.length ∧ ng = d.farms.length ∧ nm = d.reaches.length ∧ ∃ hs hd aw mk bh ba bm, needsV d cl = some hs ∧ Rdy d cl hs ∧ DivV d cl hs E hd aw mk ∧ OkL hd ∧ OkL aw ∧ H = some (ad bh 0) ∧ G = some (ad ba 0) ∧ M = some (ad bm 0) ∧
    Blk w' bh 3 (ivs hd) ∧ Blk w' ba 3 (ivs aw) ∧ Blk w' bm 50 (mks mk) ∧ w.heap.size ≤ bh ∧ w.heap.size ≤ ba ∧ w.heap.size ≤ bm
theorem dvErr_ok {d : Dist} {cl : List Int} {E : Int} : dvErr d cl E = 0 ↔ openErr d cl = 0 ∧ 0 ≤ E ∧ E ≤ 1099511627776 := by
  unfold dvErr
  by_cases h : openErr d cl = 0
  · rw [if_neg (fun q => q h)]
    by_cases h2 : 0 ≤ E ∧ E ≤ 1099511627776
    · rw [if_pos h2]; simp [h, h2]
    · rw [if_neg h2]; simp only [h, true_and]; exact ⟨fun e => (by cases e), fun e => absurd e h2⟩
  · rw [if_pos h]; simp [h]
section
variable {D : Nat → Prop} {w : World}
theorem c_dDiv {csd : List Value} {d : Dist} {cl : List Int} {A : Option Addr} {n c : Nat} {E : Int} (hd : DiR D w csd d) (hl : SlR tInt D w A n cl) : CallZ Try.prog 10 #[.agg csd.toArray, .slice A n c, iv E] w (fun v w' => ∃ H nh ch G ng cg M nm cm, v = .tuple #[.agg #[.slice H nh ch, .slice G ng cg, .slice M nm cm], iv (dvErr d cl E)] ∧ Ext w w' ∧ CutR w w' d cl E H G M nh ng nm) :=
  (c_dDivide hd hl).mono (by
    rintro v w' ⟨x, ⟨h, rfl⟩ | ⟨h, hs, hd', aw, mk, bh, ba, bm, h1, h2, h3, h4, h5, rfl, h6, h7, h8, h9, h10, h11⟩⟩
    · exact ⟨_, _, _, _, _, _, _, _, _, rfl, x, ⟨fun _ => ⟨⟨rfl, rfl⟩, ⟨rfl, rfl⟩, rfl, rfl⟩, fun q => absurd q h⟩⟩
    · exact ⟨_, _, _, _, _, _, _, _, _, by rw [h], x, ⟨fun q => absurd h q, fun _ => ⟨rfl, rfl, rfl, hs, hd', aw, mk, bh, ba, bm, h1, h2, h3, h4, h5, rfl, rfl, rfl, h6, h7, h8, h9, h10, h11⟩⟩⟩)
/-- With enough each reach has its need. -/
theorem DivV.full {d : Dist} {cl hs hd aw : List Int} {mk : List Mk} {E : Int} (D : DivV d cl hs E hd aw mk) (R : Rdy d cl hs) (hE : 0 ≤ E) (hq : clA hs 0 ≤ E) : ∀ (r : Nat), r < d.reaches.length → clA hd r = clA hs r := by
  have nb : ∀ j, j < d.reaches.length → 0 ≤ clA hs j ∧ (clA hs j = 0 ∨ (rcC d j).siphon ≤ clA hs j) ∧ isum (clmV d cl hs j) ≤ arrW (rcC d j) (clA hs j) := fun j hj => by
    obtain ⟨l1, l2, l3⟩ := R.v.loss hj
    obtain ⟨b1, -, b3, b4⟩ := needV_b _ _ ⟨l2, l3⟩ l1 (R.nd j hj)
    exact ⟨b1, b3, b4 (R.sum j).1⟩
  intro r
  induction r using Nat.strongRecOn with
  | ind r ih =>
    intro hr
    by_cases h0 : r = 0
    · subst h0
      rw [D.top]
      have := nb 0 hr
      unfold cut; split <;> omega
    · obtain ⟨p, k, hp, hk⟩ := R.v.par (by omega) hr
      have hp' : p < d.reaches.length := by omega
      obtain ⟨e1, e2⟩ := pt_at (cl := cl) (hs := hs) hk
      have hw : workV d cl hs hd p = isum (clmV d cl hs p) := by
        have := nb p hp'
        unfold workV
        rw [ih p hp hp']; omega
      rw [(D.at_ p hp').child k r hk, (D.awd R hE hp').all hw k e2, e1]
      show cut d r (clA hs r) = clA hs r
      have := nb r hr
      unfold cut; split <;> omega
/-! ### the small district -/
def rc41 (up : Int) : Reach := ⟨ByteArray.empty, up, 1, 50, 50, 0, ⟨0, 0⟩, ⟨0, 1⟩, ⟨0, 1⟩⟩
def sd41 : Dist := ⟨ByteArray.empty, 4, 0, 0, [rc41 (-1), rc41 0], [⟨ByteArray.empty, 0, 0, -1⟩, ⟨ByteArray.empty, 1, 0, -1⟩, ⟨ByteArray.empty, 0, 0, -1⟩], [], [], [], []⟩
theorem c_sreach {up : Int} : CallZ Try.prog 46 #[iv up] w (fun v w' => v = (rc41 up).v ∧ Ext w w') := by
  refine fn_rule (args := [iv up]) Try.func46 (by kernel_rfl) ?_
  refine alloc (fun b w1 h1 => ?_)
  refine bld [iv 0, iv 1] (by kernel_rfl) ?_
  refine bld [iv 0, iv 1] (by kernel_rfl) ?_
  refine bld [iv 0, iv 1, iv 0, iv 1] (by kernel_rfl) ?_
  refine bld (rc41 up).c (by kernel_rfl) ?_
  refine stA (vs := (rc41 up).c) h1.blk rfl (Nat.le_of_ble_eq_true rfl) (by simp [Value.oneCell']) (fun w2 B2 k2 z2 => ?_)
  have B2 : Blk w2 b 66 (rc41 up).c := B2
  have e1 := h1.at_
  refine ret ?_
  refine resL _ (holds_agg (CellsAt.blk B2) rfl) ?_
  exact ⟨rfl, h1.ext.then k2 fun b hb _ e => by omega⟩
theorem c_ssmall : CallZ Try.prog 22 #[] w (fun v w' => ∃ csd, v = .agg csd.toArray ∧ Ext w w' ∧ DiR (fun _ => True) w' csd sd41) := by
  refine fn_rule (args := []) Try.func22 (by kernel_rfl) ?_
  refine alloc (fun b w1 h1 => ?_)
  refine call_of (c_sreach (up := -1)) ?_
  rintro _ w2 ⟨rfl, x2⟩
  refine call_of (c_sreach (up := 0)) ?_
  rintro _ w3 ⟨rfl, x3⟩
  refine lit [(rc41 (-1)).v, (rc41 0).v] (fun q7 w4 h7 => ?_)
  refine bld [.string ByteArray.empty, iv 0, iv 0, iv (-1)] (by kernel_rfl) ?_
  refine bld [.string ByteArray.empty, iv 1, iv 0, iv (-1)] (by kernel_rfl) ?_
  refine bld [.string ByteArray.empty, iv 0, iv 0, iv (-1)] (by kernel_rfl) ?_
  refine lit [.agg #[.string ByteArray.empty, iv 0, iv 0, iv (-1)], .agg #[.string ByteArray.empty, iv 1, iv 0, iv (-1)], .agg #[.string ByteArray.empty, iv 0, iv 0, iv (-1)]] (fun q8 w5 h8 => ?_)
  refine bld [.string ByteArray.empty, iv 4, iv 0, iv 0, .slice (some (ad q7 0)) 2 2, .slice (some (ad q8 0)) 3 3, .slice none 0 0, .slice none 0 0, .slice none 0 0, .slice none 0 0] (by kernel_rfl) ?_
  have xx := ((x2.trans x3).trans h7.ext).trans h8.ext
  refine stA (vs := [.string ByteArray.empty, iv 4, iv 0, iv 0, .slice (some (ad q7 0)) 2 2, .slice (some (ad q8 0)) 3 3, .slice none 0 0, .slice none 0 0, .slice none 0 0, .slice none 0 0]) (h1.blk.ext xx) rfl (Nat.le_of_ble_eq_true rfl) (by simp [Value.oneCell']) (fun w6 B6 k6 z6 => ?_)
  have B6 : Blk w6 b 31 [.string ByteArray.empty, iv 4, iv 0, iv 0, .slice (some (ad q7 0)) 2 2, .slice (some (ad q8 0)) 3 3, .slice none 0 0, .slice none 0 0, .slice none 0 0, .slice none 0 0] := B6
  have e1 := h1.at_
  have s1 := h1.size
  have z2 := x2.size
  have z3 := x3.size
  have e7 := h7.at_
  have e8 := h8.at_
  have s7 := h7.size
  have g7 := CellsAt.blk ((h7.blk.ext h8.ext).kept k6 (by omega))
  have g8 := CellsAt.blk (h8.blk.kept k6 (by omega))
  refine ret ?_
  refine resL _ (holds_agg (CellsAt.blk B6) rfl) ?_
  refine ⟨_, rfl, (h1.ext.trans xx).then k6 fun b hb _ e => by omega, DiR.of_ ⟨_, _, _, _, _, _, _, _, _, _, _, _, _, _, _, _, _, _, rfl, ?_, ?_, SlR.nil, SlR.nil, SlR.nil, SlR.nil⟩⟩
  · exact SlR.of_cells rfl (by decide) trivial g7 ⟨_, _, rfl, rfl, _, _, rfl, rfl, rfl⟩
  · exact SlR.of_cells rfl (by decide) trivial g8 ⟨_, _, rfl, rfl, _, _, rfl, rfl, _, _, rfl, rfl, rfl⟩
/-! ### what it answers -/
theorem sd1 : divErr sd41 [6, 0, 4] = 0 := by kernel_rfl
theorem sd2 : needsV sd41 [6, 0, 4] = some [10, 0] := by kernel_rfl
theorem sd3 : shErr sd41 [6, 2, 4] 0 = 0 := by kernel_rfl
theorem sd4 : needsV sd41 [6, 2, 4] = some [12, 2] := by kernel_rfl
theorem sd5 : clmV sd41 [6, 2, 4] [12, 2] 0 = [6, 4, 2] := by kernel_rfl
theorem sd6 : dvErr sd41 [6, 0, 4] 5 = 0 := by kernel_rfl
theorem sd7 : dvErr sd41 [0, 7, 0] 9 = 0 := by kernel_rfl
theorem sd8 : needsV sd41 [0, 7, 0] = some [7, 7] := by kernel_rfl
theorem sd9 : ptErr sd41 2 = 0 := by kernel_rfl
theorem sda : ptErr sd41 3 = 1 := by kernel_rfl
theorem sdb : divErr sd41 [-1, 0, 0] = 410 := by kernel_rfl
theorem sdc : dvErr sd41 [6, 0, 4] (-1) = 1 := by kernel_rfl
theorem sdd : ptsV sd41 0 = [(true, 0), (true, 2), (false, 1)] := by kernel_rfl
theorem sde {hd aw : List Int} {mk : List Mk} (R : Rdy sd41 [6, 0, 4] [10, 0]) (V : DivV sd41 [6, 0, 4] [10, 0] 5 hd aw mk) : aw = [3, 0, 2] := by
  have A := (V.at_ 0 (by decide))
  have m1 := A.mark
  have t : clA hd 0 = 5 := V.top
  have hw : workV sd41 [6, 0, 4] [10, 0] hd 0 = 5 := by unfold workV; rw [t]; kernel_rfl
  have hc : clmV sd41 [6, 0, 4] [10, 0] 0 = [6, 4, 0] := by kernel_rfl
  rw [hw, hc] at m1
  have m2 : MarkOf 5 [6, 4, 0] ⟨false, 3, 6, 0⟩ := by
    unfold MarkOf
    rw [if_pos ⟨by decide, by decide⟩]
    exact ⟨⟨⟨by decide, by decide, by decide⟩, by decide, by decide⟩, by decide⟩
  have em := m1.uniq m2
  have f0 := A.farm 0 0 (by rw [show ((0 : Nat) : Int) = 0 from rfl, sdd]; rfl)
  have f1 := A.farm 1 2 (by rw [show ((0 : Nat) : Int) = 0 from rfl, sdd]; rfl)
  rw [em, hc] at f0 f1
  have g := V.met R (by decide) 1 (by decide)
  have la := V.la
  have h1 : clA [6, 0, 4] 1 = 0 := rfl
  have f0 : clA aw 0 = 3 := f0
  have f1 : clA aw 2 = 2 := f1
  have g : clA aw 1 = 0 := by omega
  match aw, la, f0, f1, g with
  | [a, b, c], _, f0, f1, g =>
    have f0 : a = 3 := f0
    have f1 : c = 2 := f1
    have g : b = 0 := g
    rw [f0, f1, g]
theorem sdf {hd aw : List Int} {mk : List Mk} (R : Rdy sd41 [0, 7, 0] [7, 7]) (V : DivV sd41 [0, 7, 0] [7, 7] 9 hd aw mk) : aw = [0, 7, 0] ∧ hd = [7, 7] := by
  have f := V.full R (by decide) (by decide)
  have g := V.met R (by decide)
  have la := V.la
  have lh := V.lh
  have f0 : clA hd 0 = 7 := f 0 (by decide)
  have f1 : clA hd 1 = 7 := f 1 (by decide)
  have g0 : clA aw 0 = 0 := (g 0 (by decide)).2.2 (by decide)
  have g1 : clA aw 1 = 7 := (g 1 (by decide)).2.2 (by decide)
  have g2 : clA aw 2 = 0 := (g 2 (by decide)).2.2 (by decide)
  constructor
  · match aw, la, g0, g1, g2 with
    | [a, b, c], _, g0, g1, g2 =>
      have g0 : a = 0 := g0
      have g1 : b = 7 := g1
      have g2 : c = 0 := g2
      rw [g0, g1, g2]
  · match hd, lh, f0, f1 with
    | [a, b], _, f0, f1 =>
      have f0 : a = 7 := f0
      have f1 : b = 7 := f1
      rw [f0, f1]
end
end Go.Proofs.Ytmjcaclakggafaa

/- Layer 41: contract of the laws' sane; Few, shaped. -/
namespace Go.Proofs.Ytmjcaclakggafaa
open Go Go.RowKit

section
variable {w : World} {csd : List Value}
theorem lit3 {w w' : World} {a b c : Int} {g : Nat} {t : TypeId} (h : NewB w t [iv a, iv b, iv c] g w') (ha : -1000 ≤ a ∧ a ≤ 1000) (hb : -1000 ≤ b ∧ b ≤ 1000) (hc : -1000 ≤ c ∧ c ≤ 1000) : SlR tInt (fun _ => True) w' (some (ad g 0)) 3 [a, b, c] :=
  SlR.of_cells rfl (by decide) trivial (.blk h.blk) (flat_ints fun x hx => by
    simp only [List.mem_cons, List.not_mem_nil, or_false] at hx
    rcases hx with rfl | rfl | rfl
    all_goals (unfold I64; omega))
theorem sm_needs {A : Option Addr} {c : Nat} (hd : DiR (fun _ => True) w csd sd41) (hl : SlR tInt (fun _ => True) w A 3 [6, 0, 4]) : CallZ Try.prog 20 #[.agg csd.toArray, .slice A 3 c] w (fun v w' => Ext w w' ∧ ∃ bh, v = .tuple #[.slice (some (ad bh 0)) 2 2, .bool true, iv 0] ∧ Blk w' bh 3 [iv 10, iv 0]) :=
  (c_dNeeds hd hl).mono (by
    rintro v w' ⟨x, ⟨h, -⟩ | ⟨-, h, -⟩ | ⟨-, hs, bh, h, rfl, -, hb⟩⟩
    · exact absurd sd1 h
    · rw [sd2] at h; cases h
    · rw [sd2] at h; injection h with h; subst h; exact ⟨x, bh, rfl, hb⟩)
theorem sm_needs2 {A : Option Addr} {c : Nat} (hd : DiR (fun _ => True) w csd sd41) (hl : SlR tInt (fun _ => True) w A 3 [-1, 0, 0]) : CallZ Try.prog 20 #[.agg csd.toArray, .slice A 3 c] w (fun v w' => Ext w w' ∧ v = .tuple #[.slice none 0 0, .bool false, iv 410]) :=
  (c_dNeeds hd hl).mono (by
    rintro v w' ⟨x, ⟨h, rfl⟩ | ⟨h, -⟩ | ⟨h, -⟩⟩
    · exact ⟨x, by rw [sdb]⟩
    · rw [sdb] at h; cases h
    · rw [sdb] at h; cases h)
theorem sm_shares {A : Option Addr} {c : Nat} (hd : DiR (fun _ => True) w csd sd41) (hl : SlR tInt (fun _ => True) w A 3 [6, 2, 4]) : CallZ Try.prog 12 #[.agg csd.toArray, .slice A 3 c, iv 0] w (fun v w' => Ext w w' ∧ ∃ B k, v = .tuple #[.slice B 3 k, iv 0] ∧ SlR tInt (fun _ => True) w' B 3 [6, 4, 2]) :=
  (c_dShares hd hl).mono (by
    rintro v w' ⟨x, ⟨h, -⟩ | ⟨-, hs, B, n', c', h, rfl, o⟩⟩
    · exact absurd sd3 h
    · rw [sd4] at h; injection h with h; subst h
      rw [show (0 : Int).toNat = 0 from rfl, sd5] at o
      have hn := o.own.len
      have hn : n' = 3 := by have : 3 = n' * 1 := hn; omega
      subst hn
      exact ⟨x, B, c', rfl, o.ints (by intro x hx; simp only [List.mem_cons, List.not_mem_nil, or_false] at hx; rcases hx with rfl | rfl | rfl <;> (unfold I64; omega)) (by decide) fun _ _ => trivial⟩)
theorem sm_div {A : Option Addr} {c : Nat} (hd : DiR (fun _ => True) w csd sd41) (hl : SlR tInt (fun _ => True) w A 3 [6, 0, 4]) : CallZ Try.prog 10 #[.agg csd.toArray, .slice A 3 c, iv 5] w (fun v w' => Ext w w' ∧ ∃ bh ba bm ch ca cm, v = .tuple #[.agg #[.slice (some (ad bh 0)) 2 ch, .slice (some (ad ba 0)) 3 ca, .slice (some (ad bm 0)) 2 cm], iv 0] ∧ Blk w' ba 3 [iv 3, iv 0, iv 2]) :=
  (c_dDiv hd hl).mono (by
    rintro v w' ⟨H, nh, ch, G, ng, cg, M, nm, cm, rfl, x, hc⟩
    obtain ⟨rfl, rfl, rfl, hs, hd', aw, mk, bh, ba, bm, h1, h2, h3, h4, h5, rfl, rfl, rfl, h6, h7, h8, -⟩ := hc.ok sd6
    rw [sd2] at h1; injection h1 with h1; subst h1
    have := sde h2 h3
    subst this
    rw [sd6]
    exact ⟨x, bh, ba, bm, ch, cg, cm, rfl, h7⟩)
theorem sm_div2 {A : Option Addr} {c : Nat} (hd : DiR (fun _ => True) w csd sd41) (hl : SlR tInt (fun _ => True) w A 3 [0, 7, 0]) : CallZ Try.prog 10 #[.agg csd.toArray, .slice A 3 c, iv 9] w (fun v w' => Ext w w' ∧ ∃ bh ba bm ch ca cm, v = .tuple #[.agg #[.slice (some (ad bh 0)) 2 ch, .slice (some (ad ba 0)) 3 ca, .slice (some (ad bm 0)) 2 cm], iv 0] ∧ Blk w' ba 3 [iv 0, iv 7, iv 0] ∧ Blk w' bh 3 [iv 7, iv 7]) :=
  (c_dDiv hd hl).mono (by
    rintro v w' ⟨H, nh, ch, G, ng, cg, M, nm, cm, rfl, x, hc⟩
    obtain ⟨rfl, rfl, rfl, hs, hd', aw, mk, bh, ba, bm, h1, h2, h3, h4, h5, rfl, rfl, rfl, h6, h7, h8, -⟩ := hc.ok sd7
    rw [sd8] at h1; injection h1 with h1; subst h1
    obtain ⟨e1, e2⟩ := sdf h2 h3
    subst e1; subst e2
    rw [sd7]
    exact ⟨x, bh, ba, bm, ch, cg, cm, rfl, h7, h6⟩)
theorem sm_div3 {A : Option Addr} {c : Nat} (hd : DiR (fun _ => True) w csd sd41) (hl : SlR tInt (fun _ => True) w A 3 [6, 0, 4]) : CallZ Try.prog 10 #[.agg csd.toArray, .slice A 3 c, iv (-1)] w (fun v w' => Ext w w' ∧ ∃ H nh ch G ng cg M nm cm, v = .tuple #[.agg #[.slice H nh ch, .slice G ng cg, .slice M nm cm], iv 1]) :=
  (c_dDiv hd hl).mono (by
    rintro v w' ⟨H, nh, ch, G, ng, cg, M, nm, cm, rfl, x, hc⟩
    rw [sdc]
    exact ⟨x, H, nh, ch, G, ng, cg, M, nm, cm, rfl⟩)
theorem sm_part (hd : DiR (fun _ => True) w csd sd41) : CallZ Try.prog 15 #[.agg csd.toArray, iv 2] w (fun v w' => Ext w w' ∧ v = .tuple #[iv 0, iv 1, iv 0]) :=
  (c_dPart hd).mono (by
    rintro v w' ⟨x, ⟨h, -⟩ | ⟨-, k, rfl, hk⟩⟩
    · exact absurd sd9 h
    · refine ⟨x, ?_⟩
      have e : (fmC sd41 (2 : Int).toNat).reach = 0 := by kernel_rfl
      rw [e, sdd] at hk
      rw [e]
      match k, hk with
      | 0, hk => simp at hk
      | 1, _ => rfl
      | 2, hk => simp at hk
      | k + 3, hk => simp at hk)
theorem sm_part2 (hd : DiR (fun _ => True) w csd sd41) : CallZ Try.prog 15 #[.agg csd.toArray, iv 3] w (fun v w' => Ext w w' ∧ v = .tuple #[iv 0, iv 0, iv 1]) :=
  (c_dPart hd).mono (by
    rintro v w' ⟨x, ⟨h, rfl⟩ | ⟨h, -⟩⟩
    · exact ⟨x, by rw [sda]⟩
    · rw [sda] at h; cases h)
set_option maxRecDepth 8000 in
theorem c_ssane : CallZ Try.prog 8 #[] w (fun v w' => v = .bool true ∧ Ext w w') := by
  refine fn_rule (args := []) Try.func8 (by kernel_rfl) ?_
  refine call_of c_ssmall ?_
  rintro _ w1 ⟨csd, rfl, x1, hd⟩
  have hd0 := hd.ex
  obtain ⟨A1, n1, c1, A2, n2, c2, A3, n3, c3, A4, n4, c4, A5, n5, c5, A6, n6, c6, rfl, -⟩ := hd0
  refine alloc (fun q1 w2 h2 => ?_)
  refine stA (vs := [.string sd41.name, iv sd41.hours, iv sd41.cap, iv sd41.start, .slice A1 n1 c1, .slice A2 n2 c2, .slice A3 n3 c3, .slice A4 n4 c4, .slice A5 n5 c5, .slice A6 n6 c6]) h2.blk rfl (Nat.le_of_ble_eq_true rfl) (by simp [Value.oneCell']) (fun w3 B k3 z3 => ?_)
  have B : Blk w3 q1 31 [.string sd41.name, iv sd41.hours, iv sd41.cap, iv sd41.start, .slice A1 n1 c1, .slice A2 n2 c2, .slice A3 n3 c3, .slice A4 n4 c4, .slice A5 n5 c5, .slice A6 n6 c6] := B
  have e2 := h2.at_
  have x3 : Ext w1 w3 := h2.ext.then k3 fun b hb _ e => by omega
  have hd := hd.ext x3
  have x0 := x1.trans x3
  refine ldA _ (.blk B) rfl ?_
  refine lit [iv 6, iv 0, iv 4] (fun g4 w4 h4 => ?_)
  refine call_of (sm_needs (hd.ext h4.ext) (lit3 h4 (by decide) (by decide) (by decide))) ?_
  rintro _ w5 ⟨x5, bN, rfl, BN⟩
  have x35 := h4.ext.trans x5
  refine ldA _ (.blk (B.ext x35)) rfl ?_
  refine lit [iv 6, iv 2, iv 4] (fun g6 w6 h6 => ?_)
  refine call_of (sm_shares (hd.ext (x35.trans h6.ext)) (lit3 h6 (by decide) (by decide) (by decide))) ?_
  rintro _ w7 ⟨x7, BS, kS, rfl, sS⟩
  have x57 := h6.ext.trans x7
  have x37 := x35.trans x57
  refine ldA _ (.blk (B.ext x37)) rfl ?_
  refine lit [iv 6, iv 0, iv 4] (fun g8 w8 h8 => ?_)
  refine call_of (sm_div (hd.ext (x37.trans h8.ext)) (lit3 h8 (by decide) (by decide) (by decide))) ?_
  rintro _ w9 ⟨x9, bh, ba, bm, ch, ca, cm, rfl, Ba⟩
  refine alloc (fun q7 w10 h10 => ?_)
  refine stA (vs := [.slice (some (ad bh 0)) 2 ch, .slice (some (ad ba 0)) 3 ca, .slice (some (ad bm 0)) 2 cm]) h10.blk rfl (Nat.le_of_ble_eq_true rfl) (by simp [Value.oneCell']) (fun w11 C7 k11 z11 => ?_)
  have C7 : Blk w11 q7 37 [.slice (some (ad bh 0)) 2 ch, .slice (some (ad ba 0)) 3 ca, .slice (some (ad bm 0)) 2 cm] := C7
  have e10 := h10.at_
  have x911 : Ext w9 w11 := h10.ext.then k11 fun b hb _ e => by omega
  have x711 := (h8.ext.trans x9).trans x911
  have x3b := x37.trans x711
  refine ldA _ (.blk (B.ext x3b)) rfl ?_
  refine lit [iv 0, iv 7, iv 0] (fun g12 w12 h12 => ?_)
  refine call_of (sm_div2 (hd.ext (x3b.trans h12.ext)) (lit3 h12 (by decide) (by decide) (by decide))) ?_
  rintro _ w13 ⟨x13, dh, da, dm, eh, ea, em, rfl, Da, Dh⟩
  refine alloc (fun q9 w14 h14 => ?_)
  refine stA (vs := [.slice (some (ad dh 0)) 2 eh, .slice (some (ad da 0)) 3 ea, .slice (some (ad dm 0)) 2 em]) h14.blk rfl (Nat.le_of_ble_eq_true rfl) (by simp [Value.oneCell']) (fun w15 C9 k15 z15 => ?_)
  have C9 : Blk w15 q9 37 [.slice (some (ad dh 0)) 2 eh, .slice (some (ad da 0)) 3 ea, .slice (some (ad dm 0)) 2 em] := C9
  have e14 := h14.at_
  have x1315 : Ext w13 w15 := h14.ext.then k15 fun b hb _ e => by omega
  have xb15 := (h12.ext.trans x13).trans x1315
  have x3f := x3b.trans xb15
  refine ldA _ (.blk (B.ext x3f)) rfl ?_
  refine call_of (sm_part (hd.ext x3f)) ?_
  rintro _ w16 ⟨x16, rfl⟩
  refine ldA _ (.blk ((B.ext x3f).ext x16)) rfl ?_
  refine call_of (sm_part2 ((hd.ext x3f).ext x16)) ?_
  rintro _ w17 ⟨x17, rfl⟩
  have xf17 := x16.trans x17
  have x3h := x3f.trans xf17
  refine ldA _ (.blk (B.ext x3h)) rfl ?_
  refine lit [iv (-1), iv 0, iv 0] (fun g18 w18 h18 => ?_)
  refine call_of (sm_needs2 (hd.ext (x3h.trans h18.ext)) (lit3 h18 (by decide) (by decide) (by decide))) ?_
  rintro _ w19 ⟨x19, rfl⟩
  have xh19 := h18.ext.trans x19
  have x3j := x3h.trans xh19
  refine ldA _ (.blk (B.ext x3j)) rfl ?_
  refine lit [iv 6, iv 0, iv 4] (fun g20 w20 h20 => ?_)
  refine call_of (sm_div3 (hd.ext (x3j.trans h20.ext)) (lit3 h20 (by decide) (by decide) (by decide))) ?_
  rintro _ w21 ⟨x21, H, nh, fh, G, ng, cg, M, nm, fm, rfl⟩
  refine alloc (fun q20 w22 h22 => ?_)
  refine stA (vs := [.slice H nh fh, .slice G ng cg, .slice M nm fm]) h22.blk rfl (Nat.le_of_ble_eq_true rfl) (by simp [Value.oneCell']) (fun w23 C20 k23 z23 => ?_)
  have e22 := h22.at_
  have x2123 : Ext w21 w23 := h22.ext.then k23 fun b hb _ e => by omega
  have xj23 := (h20.ext.trans x21).trans x2123
  have xf23 := (xf17.trans xh19).trans xj23
  have xb23 := xb15.trans xf23
  have x723 := x711.trans xb23
  have x523 := x57.trans x723
  have BN := BN.ext x523
  have sS := sS.ext x723
  have Ba := Ba.ext (x911.trans xb23)
  have C7 := C7.ext xb23
  have Da := Da.ext (x1315.trans xf23)
  have Dh := Dh.ext (x1315.trans xf23)
  have C9 := C9.ext xf23
  have xall := (x0.trans x3j).trans xj23
  have at3 : ∀ (k : Nat) (hk : k < 3), ∃ b o x, BS = some (ad b o) ∧ ([6, 4, 2] : List Int)[k]? = some x ∧ CellsAt w23 b (o + k * tInt.sz) [iv x] := fun k hk => by
    obtain ⟨b, o, cs, x, e, hx, -, -, hc, rfl, -⟩ := sS.at_ (k := k) hk
    exact ⟨b, o, x, e, hx, hc⟩
  obtain ⟨sb, so, x0', hBS, hx0, hc0⟩ := at3 0 (by decide)
  obtain ⟨sb1, so1, x1', hBS1, hx1, hc1⟩ := at3 1 (by decide)
  obtain ⟨sb2, so2, x2', hBS2, hx2, hc2⟩ := at3 2 (by decide)
  rw [hBS] at hBS1 hBS2
  injection hBS1 with hBS1
  injection hBS1 with p1 p2
  injection hBS2 with hBS2
  injection hBS2 with p3 p4
  subst p1; subst p2; subst p3; subst p4
  have q0 : x0' = 6 := by injection hx0 with h; exact h.symm
  have q1' : x1' = 4 := by injection hx1 with h; exact h.symm
  have q2 : x2' = 2 := by injection hx2 with h; exact h.symm
  subst q0; subst q1'; subst q2
  subst hBS
  refine cN (fun h => absurd rfl h) (fun _ => ?_)
  refine cN (fun h => absurd rfl h) (fun _ => ?_)
  refine cN (fun h => absurd rfl h) (fun _ => ?_)
  refine cN (fun h => absurd rfl h) (fun _ => ?_)
  refine cN (fun h => absurd rfl h) (fun _ => ?_)
  refine cN (fun h => absurd rfl h) (fun _ => ?_)
  refine cN (fun h => absurd rfl h) (fun _ => ?_)
  refine cN (fun h => absurd rfl h) (fun _ => ?_)
  refine len ?_
  refine cN (fun h => absurd rfl h) (fun _ => ?_)
  refine len ?_
  refine cN (fun h => absurd rfl h) (fun _ => ?_)
  refine fldA ?_
  refine ld (.slice (some (ad ba 0)) 3 ca) (C7.cell rfl) ?_
  refine len ?_
  refine cN (fun h => absurd rfl h) (fun _ => ?_)
  refine fldA ?_
  refine ld (.slice (some (ad da 0)) 3 ea) (C9.cell rfl) ?_
  refine len ?_
  refine cN (fun h => absurd rfl h) (fun _ => ?_)
  refine fldA ?_
  refine ld (.slice (some (ad dh 0)) 2 eh) (C9.cell rfl) ?_
  refine len ?_
  refine cN (fun h => absurd rfl h) (fun _ => ?_)
  refine idx 0 rfl (by decide) ?_
  refine ld (iv 10) (BN.cell rfl) ?_
  refine cE (fun _ => ?_) (fun h => absurd rfl h)
  refine idx 1 rfl (by decide) ?_
  refine ld (iv 0) (BN.cell rfl) ?_
  refine cE (fun _ => ?_) (fun h => absurd rfl h)
  refine idx 0 rfl (by decide) ?_
  refine ld (iv 6) (hc0 0 _ rfl) ?_
  refine cE (fun _ => ?_) (fun h => absurd rfl h)
  refine idx 1 rfl (by decide) ?_
  refine ld (iv 4) (hc1 0 _ rfl) ?_
  refine cE (fun _ => ?_) (fun h => absurd rfl h)
  refine idx 2 rfl (by decide) ?_
  refine ld (iv 2) (hc2 0 _ rfl) ?_
  refine cE (fun _ => ?_) (fun h => absurd rfl h)
  refine fldA ?_
  refine ld (.slice (some (ad ba 0)) 3 ca) (C7.cell rfl) ?_
  refine idx 0 rfl (by decide) ?_
  refine ld (iv 3) (Ba.cell rfl) ?_
  refine cE (fun _ => ?_) (fun h => absurd rfl h)
  refine fldA ?_
  refine ld (.slice (some (ad ba 0)) 3 ca) (C7.cell rfl) ?_
  refine idx 1 rfl (by decide) ?_
  refine ld (iv 0) (Ba.cell rfl) ?_
  refine cE (fun _ => ?_) (fun h => absurd rfl h)
  refine fldA ?_
  refine ld (.slice (some (ad ba 0)) 3 ca) (C7.cell rfl) ?_
  refine idx 2 rfl (by decide) ?_
  refine ld (iv 2) (Ba.cell rfl) ?_
  refine cE (fun _ => ?_) (fun h => absurd rfl h)
  refine fldA ?_
  refine ld (.slice (some (ad da 0)) 3 ea) (C9.cell rfl) ?_
  refine idx 1 rfl (by decide) ?_
  refine ld (iv 7) (Da.cell rfl) ?_
  refine cE (fun _ => ?_) (fun h => absurd rfl h)
  refine fldA ?_
  refine ld (.slice (some (ad dh 0)) 2 eh) (C9.cell rfl) ?_
  refine idx 0 rfl (by decide) ?_
  refine ld (iv 7) (Dh.cell rfl) ?_
  refine cE (fun _ => ?_) (fun h => absurd rfl h)
  refine fldA ?_
  refine ld (.slice (some (ad dh 0)) 2 eh) (C9.cell rfl) ?_
  refine idx 1 rfl (by decide) ?_
  refine ld (iv 7) (Dh.cell rfl) ?_
  refine cE (fun _ => ?_) (fun h => absurd rfl h)
  refine cE (fun _ => ?_) (fun h => absurd rfl h)
  refine cE (fun _ => ?_) (fun h => absurd rfl h)
  exact ret1 (.bool true) rfl ⟨rfl, xall⟩
end
end Go.Proofs.Ytmjcaclakggafaa

/- Layers 41, 20: contracts of Few, shaped, canals.Farms, canals.Children, got. -/
namespace Go.Proofs.Ytmjcaclakggafaa
open Go Go.RowKit

section
variable {D : Nat → Prop} {w : World}
theorem c_r41Few {csd : List Value} {d : Dist} {A : Option Addr} {n c : Nat} (hd : DiR D w csd d) : CallZ Try.prog 9 #[.agg csd.toArray, .slice A n c] w (fun v w' => (∃ q, v = .bool q) ∧ Ext w w') := by
  have hd0 := hd
  obtain ⟨A1, n1, c1, A2, n2, c2, A3, n3, c3, A4, n4, c4, A5, n5, c5, A6, n6, c6, rfl, hr, hf, -⟩ := hd.ex
  refine fn_rule (args := [.agg #[.string d.name, iv d.hours, iv d.cap, iv d.start, .slice A1 n1 c1, .slice A2 n2 c2, .slice A3 n3 c3, .slice A4 n4 c4, .slice A5 n5 c5, .slice A6 n6 c6], .slice A n c]) Try.func9 (by kernel_rfl) ?_
  refine box (fun b1 w1 h1 => ?_)
  have B1 : Blk w1 b1 31 [.string d.name, iv d.hours, iv d.cap, iv d.start, .slice A1 n1 c1, .slice A2 n2 c2, .slice A3 n3 c3, .slice A4 n4 c4, .slice A5 n5 c5, .slice A6 n6 c6] := h1.blk
  refine ldA [.string d.name, iv d.hours, iv d.cap, iv d.start, .slice A1 n1 c1, .slice A2 n2 c2, .slice A3 n3 c3, .slice A4 n4 c4, .slice A5 n5 c5, .slice A6 n6 c6] (.blk B1) rfl ?_
  refine callE (c_r19Few (hd0.ext h1.ext)) (fun w2 g x2 => ?_) (fun w2 g x2 => ?_)
  · have xx := h1.ext.trans x2
    have B1 := B1.ext x2
    refine len ?_
    refine cD (fun g1 => ?_) (fun g1 => ?_)
    · exact ret1 (.bool false) rfl ⟨⟨_, rfl⟩, xx⟩
    refine fldA ?_
    refine ld (.slice A1 n1 c1) (B1.cell rfl) ?_
    refine len ?_
    refine cD (fun g2 => ?_) (fun g2 => ?_)
    · refine fldA ?_
      refine ld (.slice A2 n2 c2) (B1.cell rfl) ?_
      refine len ?_
      refine cD (fun g3 => ?_) (fun g3 => ?_)
      · exact ret1 (.bool true) rfl ⟨⟨_, rfl⟩, xx⟩
      refine fldA ?_
      refine ld (.slice A2 n2 c2) (B1.cell rfl) ?_
      refine len ?_
      refine cD (fun g4 => ?_) (fun g4 => ?_)
      · exact ret1 (.bool true) rfl ⟨⟨_, rfl⟩, xx⟩
      · exact ret1 (.bool false) rfl ⟨⟨_, rfl⟩, xx⟩
    · refine fldA ?_
      refine ld (.slice A1 n1 c1) (B1.cell rfl) ?_
      refine len ?_
      refine cD (fun g3 => ?_) (fun g3 => ?_)
      · refine fldA ?_
        refine ld (.slice A2 n2 c2) (B1.cell rfl) ?_
        refine len ?_
        refine cD (fun g4 => ?_) (fun g4 => ?_)
        · exact ret1 (.bool true) rfl ⟨⟨_, rfl⟩, xx⟩
        refine fldA ?_
        refine ld (.slice A2 n2 c2) (B1.cell rfl) ?_
        refine len ?_
        refine cD (fun g5 => ?_) (fun g5 => ?_)
        · exact ret1 (.bool true) rfl ⟨⟨_, rfl⟩, xx⟩
        · exact ret1 (.bool false) rfl ⟨⟨_, rfl⟩, xx⟩
      · exact ret1 (.bool false) rfl ⟨⟨_, rfl⟩, xx⟩
  · exact ret1 (.bool false) rfl ⟨⟨_, rfl⟩, h1.ext.trans x2⟩
theorem c_sshaped {csd : List Value} {d : Dist} {H G M : Option Addr} {nh ch ng cg nm cm : Nat} (hd : DiR D w csd d) (h : nh = d.reaches.length ∧ ng = d.farms.length ∧ nm = d.reaches.length) : CallZ Try.prog 14 #[.agg csd.toArray, .agg #[.slice H nh ch, .slice G ng cg, .slice M nm cm]] w (fun v w' => v = .bool true ∧ Ext w w') := by
  obtain ⟨A1, n1, c1, A2, n2, c2, A3, n3, c3, A4, n4, c4, A5, n5, c5, A6, n6, c6, rfl, hr, hf, -⟩ := hd.ex
  have lr := hr.len
  have lf := hf.len
  refine fn_rule (args := [.agg #[.string d.name, iv d.hours, iv d.cap, iv d.start, .slice A1 n1 c1, .slice A2 n2 c2, .slice A3 n3 c3, .slice A4 n4 c4, .slice A5 n5 c5, .slice A6 n6 c6], .agg #[.slice H nh ch, .slice G ng cg, .slice M nm cm]]) Try.func14 (by kernel_rfl) ?_
  refine box (fun b1 w1 h1 => ?_)
  refine box (fun b2 w2 h2 => ?_)
  have B1 : Blk w2 b1 31 [.string d.name, iv d.hours, iv d.cap, iv d.start, .slice A1 n1 c1, .slice A2 n2 c2, .slice A3 n3 c3, .slice A4 n4 c4, .slice A5 n5 c5, .slice A6 n6 c6] := h1.blk.ext h2.ext
  have B2 : Blk w2 b2 37 [.slice H nh ch, .slice G ng cg, .slice M nm cm] := h2.blk
  refine fldA ?_
  refine ld (.slice H nh ch) (B2.cell rfl) ?_
  refine len ?_
  refine fldA ?_
  refine ld (.slice A1 n1 c1) (B1.cell rfl) ?_
  refine len ?_
  refine cD (fun g => ?_) (fun g => absurd (by omega) g)
  refine fldA ?_
  refine ld (.slice G ng cg) (B2.cell rfl) ?_
  refine len ?_
  refine fldA ?_
  refine ld (.slice A2 n2 c2) (B1.cell rfl) ?_
  refine len ?_
  refine cD (fun g => ?_) (fun g => absurd (by omega) g)
  refine fldA ?_
  refine ld (.slice M nm cm) (B2.cell rfl) ?_
  refine len ?_
  refine fldA ?_
  refine ld (.slice A1 n1 c1) (B1.cell rfl) ?_
  refine len ?_
  refine cD (fun g => ?_) (fun g => absurd (by omega) g)
  exact ret1 (.bool true) rfl ⟨rfl, h1.ext.trans h2.ext⟩
theorem c_canFarms1 {i r : Int} {x : Farm} {b : Nat} {t : TypeId} (hb : Blk w b t [iv r]) : CallZ Try.prog 41 #[iv i, .agg x.c.toArray, ptr b] w (fun v w' => v = .bool (decide (x.reach = r)) ∧ Ext w w') := by
  refine fn_rule (args := [iv i, .agg #[.string x.name, iv x.reach, iv x.area, iv x.crop], ptr b]) Try.func41 (by kernel_rfl) ?_
  refine box (fun b1 w1 h1 => ?_)
  have B1 : Blk w1 b1 48 x.c := h1.blk
  refine fldA ?_
  refine ld (iv x.reach) (B1.cell rfl) ?_
  refine ld (iv r) ((hb.ext h1.ext).cell rfl) ?_
  refine cD (fun g => ?_) (fun g => ?_)
  · exact ret1 (.bool true) rfl ⟨by rw [decide_eq_true g], h1.ext⟩
  · exact ret1 (.bool false) rfl ⟨by rw [decide_eq_false g], h1.ext⟩
theorem c_canChildren1 {i r : Int} {x : Reach} {b : Nat} {t : TypeId} (hb : Blk w b t [iv r]) : CallZ Try.prog 64 #[iv i, .agg x.c.toArray, ptr b] w (fun v w' => v = .bool (decide (x.up = r)) ∧ Ext w w') := by
  refine fn_rule (args := [iv i, .agg #[.string x.name, iv x.up, iv x.delay, iv x.cap, iv x.bank, iv x.siphon, iv x.evap.lo, iv x.evap.hi, iv x.s0.n, iv x.s0.d, iv x.s1.n, iv x.s1.d], ptr b]) Try.func64 (by kernel_rfl) ?_
  refine box (fun b1 w1 h1 => ?_)
  have B1 : Blk w1 b1 66 x.c := h1.blk
  refine fldA ?_
  refine ld (iv x.up) (B1.cell rfl) ?_
  refine ld (iv r) ((hb.ext h1.ext).cell rfl) ?_
  refine cD (fun g => ?_) (fun g => ?_)
  · exact ret1 (.bool true) rfl ⟨by rw [decide_eq_true g], h1.ext⟩
  · exact ret1 (.bool false) rfl ⟨by rw [decide_eq_false g], h1.ext⟩
abbrev pix (l : List Pt) : List Int := l.map fun p => (p.2 : Int)
theorem c_whereF {d : Dist} {r : Int} {A : Option Addr} {n c b : Nat} {t : TypeId} (hf : SlR tFarm D w A n d.farms) (hn : n ≤ 600) (hb : Blk w b t [iv r]) : CallZ Try.prog 40 #[.slice A n c, .func (.func 41) #[] #[ptr b]] w (fun v w' => ∃ A' n' c', v = .slice A' n' c' ∧ OwnF w w' A' n' c' 3 1 (ivs (pix (ptsF d r n)))) := by
  have lf := hf.len
  refine fn_rule (args := [.slice A n c, .func (.func 41) #[] #[ptr b]]) Try.func40 (by kernel_rfl) ?_
  refine len ?_
  refine loop_rule (fun s : Nat × Option Addr × Nat × Nat => [(9, iv (s.1 : Int)), (4, .slice s.2.1 s.2.2.1 s.2.2.2)]) (fun s u => s.1 ≤ n ∧ OwnF w u s.2.1 s.2.2.1 s.2.2.2 3 1 (ivs (pix (ptsF d r s.1)))) (fun s _ => n - s.1) (0, none, 0, 0) ⟨rfl, rfl, trivial⟩ ⟨by omega, .nil (.refl _ _)⟩ rfl ?_
  rintro G ⟨k, E, ne, ce⟩ u ⟨hk, own⟩
  have hk : k ≤ n := hk
  have own : OwnF w u E ne ce 3 1 (ivs (pix (ptsF d r k))) := own
  have lo := own.own.len
  rw [List.length_map, List.length_map] at lo
  have lk := ptsF_len (d := d) (r := r) (k := k)
  refine cD (fun hlt => ?_) (fun hge => ?_)
  · have hlt : k < n := by omega
    obtain ⟨bb, o, cs, x, rfl, hx, -, -, hc, rfl⟩ := (hf.ext own.ext).at_ hlt
    have hfm := fmC_at hx
    refine idx k rfl hlt ?_
    refine ldA x.c hc rfl ?_
    refine alloc (fun q u1 a1 => ?_)
    refine stA (vs := x.c) a1.blk rfl (Nat.le_of_ble_eq_true rfl) (by simp [Value.oneCell']) (fun u2 b2 k2 z2 => ?_)
    have b2 : Blk u2 q 48 x.c := b2
    have ea := a1.at_
    have x2 : Ext u u2 := a1.ext.then k2 fun b hb _ e => by omega
    have own := own.then x2
    refine ldA x.c (.blk b2) rfl ?_
    refine callE (c_canFarms1 (i := (k : Int)) (x := x) (hb.ext own.ext)) (fun u3 g x3 => ?_) (fun u3 g x3 => ?_)
    · refine lit [iv (k : Int)] (fun g4 u4 h4 => ?_)
      refine appF (n := ne) (A := E) (c := ce) ((own.then x3).then h4.ext) (h4.src (sz := 1) rfl) (by omega) (fun A' c' u5 o5 _ _ => ?_)
      refine arI (by omega) ?_
      refine next (k + 1, A', ne + 1, c') ⟨by rw [Int.natCast_add]; rfl, rfl, trivial⟩ ⟨by show k + 1 ≤ n; omega, ?_⟩ (by show n - (k + 1) < n - k; omega)
      show OwnF w u5 A' (ne + 1) c' 3 1 (ivs (pix (ptsF d r (k + 1))))
      rw [ptsF_yes (by rw [hfm]; exact of_decide_eq_true g)]
      unfold pix ivs
      rw [List.map_append, List.map_append]; exact o5
    · refine arI (by omega) ?_
      refine next (k + 1, E, ne, ce) ⟨by rw [Int.natCast_add]; rfl, rfl, trivial⟩ ⟨by show k + 1 ≤ n; omega, ?_⟩ (by show n - (k + 1) < n - k; omega)
      show OwnF w u3 E ne ce 3 1 (ivs (pix (ptsF d r (k + 1))))
      rw [ptsF_no (by rw [hfm]; exact of_decide_eq_false g)]
      exact own.then x3
  · obtain rfl : k = n := by omega
    exact ret1 (.slice E ne ce) rfl ⟨E, ne, ce, rfl, own⟩
theorem c_whereR {d : Dist} {r : Int} {A : Option Addr} {n c b : Nat} {t : TypeId} (hf : SlR tReach D w A n d.reaches) (hn : n ≤ 600) (hb : Blk w b t [iv r]) : CallZ Try.prog 63 #[.slice A n c, .func (.func 64) #[] #[ptr b]] w (fun v w' => ∃ A' n' c', v = .slice A' n' c' ∧ OwnF w w' A' n' c' 3 1 (ivs (pix (ptsC d r n)))) := by
  have lf := hf.len
  refine fn_rule (args := [.slice A n c, .func (.func 64) #[] #[ptr b]]) Try.func63 (by kernel_rfl) ?_
  refine len ?_
  refine loop_rule (fun s : Nat × Option Addr × Nat × Nat => [(9, iv (s.1 : Int)), (4, .slice s.2.1 s.2.2.1 s.2.2.2)]) (fun s u => s.1 ≤ n ∧ OwnF w u s.2.1 s.2.2.1 s.2.2.2 3 1 (ivs (pix (ptsC d r s.1)))) (fun s _ => n - s.1) (0, none, 0, 0) ⟨rfl, rfl, trivial⟩ ⟨by omega, .nil (.refl _ _)⟩ rfl ?_
  rintro G ⟨k, E, ne, ce⟩ u ⟨hk, own⟩
  have hk : k ≤ n := hk
  have own : OwnF w u E ne ce 3 1 (ivs (pix (ptsC d r k))) := own
  have lo := own.own.len
  rw [List.length_map, List.length_map] at lo
  have lk := ptsC_len (d := d) (r := r) (k := k)
  refine cD (fun hlt => ?_) (fun hge => ?_)
  · have hlt : k < n := by omega
    obtain ⟨bb, o, cs, x, rfl, hx, -, -, hc, rfl⟩ := (hf.ext own.ext).at_ hlt
    have hfm := rcC_at hx
    refine idx k rfl hlt ?_
    refine ldA x.c hc rfl ?_
    refine alloc (fun q u1 a1 => ?_)
    refine stA (vs := x.c) a1.blk rfl (Nat.le_of_ble_eq_true rfl) (by simp [Value.oneCell']) (fun u2 b2 k2 z2 => ?_)
    have b2 : Blk u2 q 66 x.c := b2
    have ea := a1.at_
    have x2 : Ext u u2 := a1.ext.then k2 fun b hb _ e => by omega
    have own := own.then x2
    refine ldA x.c (.blk b2) rfl ?_
    refine callE (c_canChildren1 (i := (k : Int)) (x := x) (hb.ext own.ext)) (fun u3 g x3 => ?_) (fun u3 g x3 => ?_)
    · refine lit [iv (k : Int)] (fun g4 u4 h4 => ?_)
      refine appF (n := ne) (A := E) (c := ce) ((own.then x3).then h4.ext) (h4.src (sz := 1) rfl) (by omega) (fun A' c' u5 o5 _ _ => ?_)
      refine arI (by omega) ?_
      refine next (k + 1, A', ne + 1, c') ⟨by rw [Int.natCast_add]; rfl, rfl, trivial⟩ ⟨by show k + 1 ≤ n; omega, ?_⟩ (by show n - (k + 1) < n - k; omega)
      show OwnF w u5 A' (ne + 1) c' 3 1 (ivs (pix (ptsC d r (k + 1))))
      rw [ptsC_yes (by rw [hfm]; exact of_decide_eq_true g)]
      unfold pix ivs
      rw [List.map_append, List.map_append]; exact o5
    · refine arI (by omega) ?_
      refine next (k + 1, E, ne, ce) ⟨by rw [Int.natCast_add]; rfl, rfl, trivial⟩ ⟨by show k + 1 ≤ n; omega, ?_⟩ (by show n - (k + 1) < n - k; omega)
      show OwnF w u3 E ne ce 3 1 (ivs (pix (ptsC d r (k + 1))))
      rw [ptsC_no (by rw [hfm]; exact of_decide_eq_false g)]
      exact own.then x3
  · obtain rfl : k = n := by omega
    exact ret1 (.slice E ne ce) rfl ⟨E, ne, ce, rfl, own⟩
end
end Go.Proofs.Ytmjcaclakggafaa

/- Layers 20, 41: contracts of canals.Farms, canals.Children, got. -/
namespace Go.Proofs.Ytmjcaclakggafaa
open Go Go.RowKit

theorem canE_yes {d : Dist} {r : Int} (h : dErr d = 0) (hr : 0 ≤ r ∧ r < d.reaches.length) : canE d [r] = 0 := by
  unfold canE
  rw [if_pos h, if_pos]
  show (decide (0 ≤ r ∧ r < d.reaches.length) && true) = true
  rw [decide_eq_true hr]; rfl
section
variable {D : Nat → Prop} {w : World}
theorem c_canFarms {csd : List Value} {d : Dist} {r : Int} (hd : DiR D w csd d) (h0 : dErr d = 0) (hrn : 0 ≤ r ∧ r < d.reaches.length) : CallZ Try.prog 18 #[.agg csd.toArray, iv r] w (fun v w' => ∃ A' n' c', v = .tuple #[.slice A' n' c', iv 0] ∧ OwnF w w' A' n' c' 3 1 (ivs (pix (ptsF d r d.farms.length)))) := by
  have hd0 := hd
  have V := val_of h0
  have hvn := V.n
  obtain ⟨A1, n1, c1, A2, n2, c2, A3, n3, c3, A4, n4, c4, A5, n5, c5, A6, n6, c6, rfl, hr, hf, -⟩ := hd.ex
  have lr := hr.len
  have lf := hf.len
  have hvf := V.f
  refine fn_rule (args := [.agg #[.string d.name, iv d.hours, iv d.cap, iv d.start, .slice A1 n1 c1, .slice A2 n2 c2, .slice A3 n3 c3, .slice A4 n4 c4, .slice A5 n5 c5, .slice A6 n6 c6], iv r]) Try.func18 (by kernel_rfl) ?_
  refine box (fun b1 w1 h1 => ?_)
  refine box (fun b2 w2 h2 => ?_)
  have x2 := h1.ext.trans h2.ext
  have B1 : Blk w2 b1 31 [.string d.name, iv d.hours, iv d.cap, iv d.start, .slice A1 n1 c1, .slice A2 n2 c2, .slice A3 n3 c3, .slice A4 n4 c4, .slice A5 n5 c5, .slice A6 n6 c6] := h1.blk.ext h2.ext
  have B2 : Blk w2 b2 3 [iv r] := h2.blk
  refine ldA [.string d.name, iv d.hours, iv d.cap, iv d.start, .slice A1 n1 c1, .slice A2 n2 c2, .slice A3 n3 c3, .slice A4 n4 c4, .slice A5 n5 c5, .slice A6 n6 c6] (.blk B1) rfl ?_
  refine ld (iv r) (B2.cell rfl) ?_
  refine lit [iv r] (fun g w3 h3 => ?_)
  refine call_of (c_cancheck (D := fun _ => True) (rs := [r]) ((hd0.ext (x2.trans h3.ext)).more fun _ _ _ => trivial) (SlR.of_cells rfl (by decide) trivial (.blk h3.blk) (flat_ints fun x hx => by rw [List.mem_singleton] at hx; rw [hx]; unfold I64; omega))) ?_
  rintro _ w4 ⟨rfl, x4⟩
  rw [canE_yes h0 hrn]
  have x24 := h3.ext.trans x4
  have x04 := x2.trans x24
  refine cN (fun h => absurd rfl h) (fun _ => ?_)
  refine fldA ?_
  refine ld (.slice A2 n2 c2) ((B1.ext x24).cell rfl) ?_
  refine call_of (c_whereF (hf.ext x04) (by omega) (B2.ext x24)) ?_
  rintro _ w5 ⟨A', n', c', rfl, o⟩
  exact ret2 (.slice A' n' c') (iv 0) rfl rfl ⟨A', n', c', rfl, by rw [lf]; exact o.base x04⟩
theorem c_canChildren {csd : List Value} {d : Dist} {r : Int} (hd : DiR D w csd d) (h0 : dErr d = 0) (hrn : 0 ≤ r ∧ r < d.reaches.length) : CallZ Try.prog 38 #[.agg csd.toArray, iv r] w (fun v w' => ∃ A' n' c', v = .tuple #[.slice A' n' c', iv 0] ∧ OwnF w w' A' n' c' 3 1 (ivs (pix (ptsC d r d.reaches.length)))) := by
  have hd0 := hd
  have V := val_of h0
  have hvn := V.n
  obtain ⟨A1, n1, c1, A2, n2, c2, A3, n3, c3, A4, n4, c4, A5, n5, c5, A6, n6, c6, rfl, hr, hf, -⟩ := hd.ex
  have lr := hr.len
  refine fn_rule (args := [.agg #[.string d.name, iv d.hours, iv d.cap, iv d.start, .slice A1 n1 c1, .slice A2 n2 c2, .slice A3 n3 c3, .slice A4 n4 c4, .slice A5 n5 c5, .slice A6 n6 c6], iv r]) Try.func38 (by kernel_rfl) ?_
  refine box (fun b1 w1 h1 => ?_)
  refine box (fun b2 w2 h2 => ?_)
  have x2 := h1.ext.trans h2.ext
  have B1 : Blk w2 b1 31 [.string d.name, iv d.hours, iv d.cap, iv d.start, .slice A1 n1 c1, .slice A2 n2 c2, .slice A3 n3 c3, .slice A4 n4 c4, .slice A5 n5 c5, .slice A6 n6 c6] := h1.blk.ext h2.ext
  have B2 : Blk w2 b2 3 [iv r] := h2.blk
  refine ldA [.string d.name, iv d.hours, iv d.cap, iv d.start, .slice A1 n1 c1, .slice A2 n2 c2, .slice A3 n3 c3, .slice A4 n4 c4, .slice A5 n5 c5, .slice A6 n6 c6] (.blk B1) rfl ?_
  refine ld (iv r) (B2.cell rfl) ?_
  refine lit [iv r] (fun g w3 h3 => ?_)
  refine call_of (c_cancheck (D := fun _ => True) (rs := [r]) ((hd0.ext (x2.trans h3.ext)).more fun _ _ _ => trivial) (SlR.of_cells rfl (by decide) trivial (.blk h3.blk) (flat_ints fun x hx => by rw [List.mem_singleton] at hx; rw [hx]; unfold I64; omega))) ?_
  rintro _ w4 ⟨rfl, x4⟩
  rw [canE_yes h0 hrn]
  have x24 := h3.ext.trans x4
  have x04 := x2.trans x24
  refine cN (fun h => absurd rfl h) (fun _ => ?_)
  refine fldA ?_
  refine ld (.slice A1 n1 c1) ((B1.ext x24).cell rfl) ?_
  refine call_of (c_whereR (hr.ext x04) (by omega) (B2.ext x24)) ?_
  rintro _ w5 ⟨A', n', c', rfl, o⟩
  exact ret2 (.slice A' n' c') (iv 0) rfl rfl ⟨A', n', c', rfl, by rw [lr]; exact o.base x04⟩
theorem pix_I64 {l : List Pt} {m : Nat} (h : ∀ p ∈ l, p.2 < m) (hm : m ≤ 1000) : ∀ x ∈ pix l, I64 x := fun x hx => by
  obtain ⟨p, hp, rfl⟩ := List.mem_map.1 hx
  have := h p hp
  unfold I64; omega
set_option maxRecDepth 4000 in
theorem c_sgot {csd : List Value} {d : Dist} {r : Nat} {hh aw : List Int} {H G M : Option Addr} {nh ch ng cg nm cm : Nat} (hd : DiR D w csd d) (h0 : dErr d = 0) (hrn : r < d.reaches.length) (hH : SlR tInt D w H nh hh) (hG : SlR tInt D w G ng aw) (lH : nh = d.reaches.length) (lG : ng = d.farms.length) :
    CallZ Try.prog 17 #[.agg csd.toArray, .agg #[.slice H nh ch, .slice G ng cg, .slice M nm cm], iv (r : Int)] w (fun v w' => ∃ A' n' c', v = .tuple #[.slice A' n' c', .bool true] ∧ OwnF w w' A' n' c' 3 1 (ivs (clmV d aw hh r))) := by
  have hd0 := hd
  have V := val_of h0
  have hvn := V.n
  have hvf := V.f
  have llH := hH.len
  have llG := hG.len
  obtain ⟨A1, n1, c1, A2, n2, c2, A3, n3, c3, A4, n4, c4, A5, n5, c5, A6, n6, c6, rfl, hr, hf, -⟩ := hd.ex
  refine fn_rule (args := [.agg #[.string d.name, iv d.hours, iv d.cap, iv d.start, .slice A1 n1 c1, .slice A2 n2 c2, .slice A3 n3 c3, .slice A4 n4 c4, .slice A5 n5 c5, .slice A6 n6 c6], .agg #[.slice H nh ch, .slice G ng cg, .slice M nm cm], iv (r : Int)]) Try.func17 (by kernel_rfl) ?_
  refine box (fun b1 w1 h1 => ?_)
  refine box (fun b2 w2 h2 => ?_)
  have x2 := h1.ext.trans h2.ext
  have B1 : Blk w2 b1 31 [.string d.name, iv d.hours, iv d.cap, iv d.start, .slice A1 n1 c1, .slice A2 n2 c2, .slice A3 n3 c3, .slice A4 n4 c4, .slice A5 n5 c5, .slice A6 n6 c6] := h1.blk.ext h2.ext
  have B2 : Blk w2 b2 37 [.slice H nh ch, .slice G ng cg, .slice M nm cm] := h2.blk
  refine ldA [.string d.name, iv d.hours, iv d.cap, iv d.start, .slice A1 n1 c1, .slice A2 n2 c2, .slice A3 n3 c3, .slice A4 n4 c4, .slice A5 n5 c5, .slice A6 n6 c6] (.blk B1) rfl ?_
  refine call_of (c_canFarms (hd0.ext x2) h0 (by omega)) ?_
  rintro _ w3 ⟨F, nF, cF, rfl, oF⟩
  have x3 := oF.ext
  refine ldA [.string d.name, iv d.hours, iv d.cap, iv d.start, .slice A1 n1 c1, .slice A2 n2 c2, .slice A3 n3 c3, .slice A4 n4 c4, .slice A5 n5 c5, .slice A6 n6 c6] (.blk (B1.ext x3)) rfl ?_
  refine call_of (c_canChildren ((hd0.ext x2).ext x3) h0 (by omega)) ?_
  rintro _ w4 ⟨C, nC, cC, rfl, oC⟩
  have x4 := oC.ext
  have x24 := x3.trans x4
  have x04 := x2.trans x24
  have B2 := B2.ext x24
  have hH := hH.ext x04
  have hG := hG.ext x04
  have lF := oF.own.len
  rw [List.length_map, List.length_map] at lF
  have lC := oC.own.len
  rw [List.length_map, List.length_map] at lC
  have lF' := ptsF_len (d := d) (r := (r : Int)) (k := d.farms.length)
  have lC' := ptsC_len (d := d) (r := (r : Int)) (k := d.reaches.length)
  have sF : SlR tInt (fun _ => True) w4 F nF (pix (ptsF d r d.farms.length)) := (oF.then x4).ints (pix_I64 (fun p hp => (mem_ptsF.1 hp).2.1) (by omega)) (by omega) fun _ _ => trivial
  have sC : SlR tInt (fun _ => True) w4 C nC (pix (ptsC d r d.reaches.length)) := oC.ints (pix_I64 (fun p hp => (mem_ptsC.1 hp).2.1) (by omega)) (by omega) fun _ _ => trivial
  refine cN (fun h => absurd rfl h) (fun _ => ?_)
  refine cN (fun h => absurd rfl h) (fun _ => ?_)
  refine len ?_
  refine loop_rule (fun s : Nat × Option Addr × Nat => [(36, iv (s.1 : Int)), (6, .slice s.2.1 s.1 s.2.2)]) (fun s u => s.1 ≤ nF ∧ OwnF w4 u s.2.1 s.1 s.2.2 3 1 (ivs (((ptsF d r d.farms.length).take s.1).map (clP aw hh)))) (fun s _ => nF - s.1) (0, none, 0) ⟨rfl, rfl, trivial⟩ ⟨by omega, .nil (.refl _ _)⟩ rfl ?_
  rintro G1 ⟨k, E, ce⟩ u ⟨hk, own⟩
  have hk : k ≤ nF := hk
  have own : OwnF w4 u E k ce 3 1 (ivs (((ptsF d r d.farms.length).take k).map (clP aw hh))) := own
  refine cD (fun hlt => ?_) (fun hge => ?_)
  · have hlt : k < nF := by omega
    obtain ⟨b, o, cs, x, rfl, hx, -, -, hc, rfl, -⟩ := (sF.ext own.ext).at_ hlt
    obtain ⟨p, hp, rfl⟩ : ∃ p, (ptsF d r d.farms.length)[k]? = some p ∧ x = (p.2 : Int) := by
      rw [List.getElem?_map] at hx
      cases hp : (ptsF d r d.farms.length)[k]? with
      | none => rw [hp] at hx; cases hx
      | some p => rw [hp] at hx; injection hx with hx; exact ⟨p, rfl, hx.symm⟩
    have hpm := mem_ptsF.1 (List.mem_of_getElem? hp)
    obtain ⟨pf, f⟩ := p
    obtain ⟨rfl, hf2, -⟩ := hpm
    have hf2 : f < d.farms.length := hf2
    obtain ⟨b', o', cs', y, rfl, hy, -, -, hc', rfl, -⟩ := (hG.ext own.ext).at_ (k := f) (by omega)
    have B2 := B2.ext own.ext
    refine idx k rfl hlt ?_
    refine ld (iv (f : Int)) (hc 0 _ rfl) ?_
    refine cD (fun g => absurd (show (f : Int) < 0 from g) (by omega)) (fun _ => ?_)
    refine fldA ?_
    refine ld (.slice (some (ad b' o')) ng cg) (B2.cell rfl) ?_
    refine len ?_
    refine cD (fun g => absurd (show (f : Int) ≥ (ng : Int) from g) (by omega)) (fun _ => ?_)
    refine fldA ?_
    refine ld (.slice (some (ad b' o')) ng cg) (B2.cell rfl) ?_
    refine idx f rfl (by omega) ?_
    refine ld (iv y) (hc' 0 _ rfl) ?_
    refine lit [iv y] (fun g4 u4 h4 => ?_)
    refine appF (n := k) (A := E) (c := ce) (own.then h4.ext) (h4.src (sz := 1) rfl) (by omega) (fun A' c' u5 o5 _ _ => ?_)
    refine arI (by omega) ?_
    refine next (k + 1, A', c') ⟨by rw [Int.natCast_add]; rfl, rfl, trivial⟩ ⟨by show k + 1 ≤ nF; omega, ?_⟩ (by show nF - (k + 1) < nF - k; omega)
    show OwnF w4 u5 A' (k + 1) c' 3 1 (ivs (((ptsF d r d.farms.length).take (k + 1)).map (clP aw hh)))
    rw [List.take_add_one, hp]
    unfold ivs
    rw [List.map_append, List.map_append]
    have e : clP aw hh (true, f) = y := clA_at hy
    show OwnF w4 u5 A' (k + 1) c' 3 1 (_ ++ [iv (clP aw hh (true, f))])
    rw [e]; exact o5
  · have hkF : k = nF := by omega
    rw [List.take_of_length_le (by omega)] at own
    refine len ?_
    refine loop_rule (fun s : Nat × Option Addr × Nat => [(60, iv (s.1 : Int)), (6, .slice s.2.1 (nF + s.1) s.2.2)]) (fun s u => s.1 ≤ nC ∧ OwnF w4 u s.2.1 (nF + s.1) s.2.2 3 1 (ivs ((ptsF d r d.farms.length ++ (ptsC d r d.reaches.length).take s.1).map (clP aw hh)))) (fun s _ => nC - s.1) (0, E, ce) ⟨rfl, by rw [hkF]; rfl, trivial⟩ ⟨by omega, by rw [hkF] at own; simpa using own⟩ rfl ?_
    rintro G2 ⟨j, E2, ce2⟩ z ⟨hj, own2⟩
    have hj : j ≤ nC := hj
    have own2 : OwnF w4 z E2 (nF + j) ce2 3 1 (ivs ((ptsF d r d.farms.length ++ (ptsC d r d.reaches.length).take j).map (clP aw hh))) := own2
    refine cD (fun hlt => ?_) (fun hge2 => ?_)
    · have hlt : j < nC := by omega
      obtain ⟨b, o, cs, x, rfl, hx, -, -, hc, rfl, -⟩ := (sC.ext own2.ext).at_ hlt
      obtain ⟨p, hp, rfl⟩ : ∃ p, (ptsC d r d.reaches.length)[j]? = some p ∧ x = (p.2 : Int) := by
        rw [List.getElem?_map] at hx
        cases hp : (ptsC d r d.reaches.length)[j]? with
        | none => rw [hp] at hx; cases hx
        | some p => rw [hp] at hx; injection hx with hx; exact ⟨p, rfl, hx.symm⟩
      have hpm := mem_ptsC.1 (List.mem_of_getElem? hp)
      obtain ⟨pf, f⟩ := p
      obtain ⟨rfl, hf2, -⟩ := hpm
      have hf2 : f < d.reaches.length := hf2
      obtain ⟨b', o', cs', y, rfl, hy, -, -, hc', rfl, -⟩ := (hH.ext own2.ext).at_ (k := f) (by omega)
      have B2 := B2.ext own2.ext
      refine idx j rfl hlt ?_
      refine ld (iv (f : Int)) (hc 0 _ rfl) ?_
      refine cD (fun g => absurd (show (f : Int) < 0 from g) (by omega)) (fun _ => ?_)
      refine fldA ?_
      refine ld (.slice (some (ad b' o')) nh ch) (B2.cell rfl) ?_
      refine len ?_
      refine cD (fun g => absurd (show (f : Int) ≥ (nh : Int) from g) (by omega)) (fun _ => ?_)
      refine fldA ?_
      refine ld (.slice (some (ad b' o')) nh ch) (B2.cell rfl) ?_
      refine idx f rfl (by omega) ?_
      refine ld (iv y) (hc' 0 _ rfl) ?_
      refine lit [iv y] (fun g4 u4 h4 => ?_)
      refine appF (n := nF + j) (A := E2) (c := ce2) (own2.then h4.ext) (h4.src (sz := 1) rfl) (by omega) (fun A' c' u5 o5 _ _ => ?_)
      refine arI (by omega) ?_
      refine next (j + 1, A', c') ⟨by rw [Int.natCast_add]; rfl, rfl, trivial⟩ ⟨by show j + 1 ≤ nC; omega, ?_⟩ (by show nC - (j + 1) < nC - j; omega)
      show OwnF w4 u5 A' (nF + (j + 1)) c' 3 1 (ivs ((ptsF d r d.farms.length ++ (ptsC d r d.reaches.length).take (j + 1)).map (clP aw hh)))
      rw [List.take_add_one, hp, ← List.append_assoc]
      unfold ivs
      rw [List.map_append, List.map_append]
      have e : clP aw hh (false, f) = y := clA_at hy
      show OwnF w4 u5 A' (nF + j + 1) c' 3 1 (_ ++ [iv (clP aw hh (false, f))])
      rw [e]; exact o5
    · have hjC : j = nC := by omega
      rw [List.take_of_length_le (by omega)] at own2
      exact ret2 (.slice E2 (nF + j) ce2) (.bool true) rfl rfl ⟨E2, nF + j, ce2, rfl, own2.base x04⟩
end
end Go.Proofs.Ytmjcaclakggafaa

/- Layer 41: DivisionMore, DivisionShown. -/
namespace Go.Proofs.Ytmjcaclakggafaa
open Go Go.RowKit

theorem blkI {w : World} {b n i : Nat} {t : TypeId} {l : List Int} (h : Blk w b t (ivs l)) (ok : OkL l) (hn : n = l.length) (hi : i < n) (hb : n ≤ 1000) : CellsAt w b (0 + i * tInt.sz) [iv (clA l i)] := by
  obtain ⟨b', o, cs, x, e, hx, -, -, hc, rfl, -⟩ := (blk_ints (D := fun _ => True) h hn ok (by omega) trivial).at_ hi
  injection e with e
  injection e with e1 e2
  subst e1; subst e2
  rw [clA_at hx]
  exact hc
theorem blkM {w : World} {b i : Nat} {t : TypeId} {l : List Mk} (h : Blk w b t (mks l)) (hi : i < l.length) : CellsAt w b (0 + i * 4) (encM (mkA l i)) := fun k v hv => by
  have e : mkA l i = l[i] := by unfold mkA; rw [List.getD_eq_getElem?_getD, List.getElem?_eq_getElem hi]; rfl
  rw [e] at hv
  have hk : k < 4 := (List.getElem?_eq_some_iff.1 hv).1
  refine h.cell ?_
  rw [Nat.zero_add]
  have hd : (mks l).drop (i * 4) = encM l[i] ++ mks (l.drop (i + 1)) := by
    rw [mks_drop, List.drop_eq_getElem_cons hi]; rfl
  have : (mks l)[i * 4 + k]? = ((mks l).drop (i * 4))[k]? := by rw [List.getElem?_drop]
  rw [this, hd, List.getElem?_append_left hk]
  exact hv
section
variable {D : Nat → Prop} {w : World}
set_option maxRecDepth 4000 in
theorem c_DivisionMore {csd : List Value} {d : Dist} {cl : List Int} {A : Option Addr} {n c : Nat} {a b : Int} (hd : DiR D w csd d) (hl : SlR tInt D w A n cl) : CallZ Try.prog 3 #[.agg csd.toArray, .slice A n c, iv a, iv b] w (fun v w' => v = .bool true ∧ Ext w w') := by
  have hd0 := hd
  obtain ⟨A1, n1, c1, A2, n2, c2, A3, n3, c3, A4, n4, c4, A5, n5, c5, A6, n6, c6, rfl, hr, hf, -⟩ := hd.ex
  have ll := hl.len
  refine fn_rule (args := [.agg #[.string d.name, iv d.hours, iv d.cap, iv d.start, .slice A1 n1 c1, .slice A2 n2 c2, .slice A3 n3 c3, .slice A4 n4 c4, .slice A5 n5 c5, .slice A6 n6 c6], .slice A n c, iv a, iv b]) Try.func3 (by kernel_rfl) ?_
  refine box (fun b4 w1 h1 => ?_)
  have B4 : Blk w1 b4 31 [.string d.name, iv d.hours, iv d.cap, iv d.start, .slice A1 n1 c1, .slice A2 n2 c2, .slice A3 n3 c3, .slice A4 n4 c4, .slice A5 n5 c5, .slice A6 n6 c6] := h1.blk
  refine call_of (c_ssane) ?_
  rintro _ w2 ⟨rfl, x2⟩
  have B4 := B4.ext x2
  have x02 := h1.ext.trans x2
  refine ldA [.string d.name, iv d.hours, iv d.cap, iv d.start, .slice A1 n1 c1, .slice A2 n2 c2, .slice A3 n3 c3, .slice A4 n4 c4, .slice A5 n5 c5, .slice A6 n6 c6] (.blk B4) rfl ?_
  refine call_of (c_r41Few (hd0.ext x02)) ?_
  rintro _ w3 ⟨⟨q, rfl⟩, x3⟩
  have B4 := B4.ext x3
  have x03 := x02.trans x3
  cases q with
  | false => exact ret1 (.bool true) rfl ⟨rfl, x03⟩
  | true =>
    refine ldA [.string d.name, iv d.hours, iv d.cap, iv d.start, .slice A1 n1 c1, .slice A2 n2 c2, .slice A3 n3 c3, .slice A4 n4 c4, .slice A5 n5 c5, .slice A6 n6 c6] (.blk B4) rfl ?_
    refine call_of (c_dDiv (E := min a b) (hd0.ext x03) (hl.ext x03)) ?_
    rintro _ w4 ⟨H, nh, ch, G, ng, cg, M, nm, cm, rfl, x4, hc⟩
    refine alloc (fun b9 w5 h5 => ?_)
    refine stA (vs := [.slice H nh ch, .slice G ng cg, .slice M nm cm]) h5.blk rfl (Nat.le_of_ble_eq_true rfl) (by simp [Value.oneCell']) (fun w6 B9 k6 z6 => ?_)
    have B9 : Blk w6 b9 37 [.slice H nh ch, .slice G ng cg, .slice M nm cm] := B9
    have e5 := h5.at_
    have x46 : Ext w4 w6 := h5.ext.then k6 fun b hb _ e => by omega
    have x36 := x4.trans x46
    have B4 := B4.ext x36
    have x06 := x03.trans x36
    refine ldA [.string d.name, iv d.hours, iv d.cap, iv d.start, .slice A1 n1 c1, .slice A2 n2 c2, .slice A3 n3 c3, .slice A4 n4 c4, .slice A5 n5 c5, .slice A6 n6 c6] (.blk B4) rfl ?_
    refine call_of (c_dDiv (E := max a b) (hd0.ext x06) (hl.ext x06)) ?_
    rintro _ w7 ⟨H', nh', ch', G', ng', cg', M', nm', cm', rfl, x7, hc'⟩
    refine alloc (fun b11 w8 h8 => ?_)
    refine stA (vs := [.slice H' nh' ch', .slice G' ng' cg', .slice M' nm' cm']) h8.blk rfl (Nat.le_of_ble_eq_true rfl) (by simp [Value.oneCell']) (fun w9 B11 k9 z9 => ?_)
    have B11 : Blk w9 b11 37 [.slice H' nh' ch', .slice G' ng' cg', .slice M' nm' cm'] := B11
    have e8 := h8.at_
    have x79 : Ext w7 w9 := h8.ext.then k9 fun b hb _ e => by omega
    have x69 := x7.trans x79
    have x09 := x06.trans x69
    have B9 := B9.ext x69
    refine cN (fun _ => ?_) (fun g1 => ?_)
    · exact ret1 (.bool true) rfl ⟨rfl, x09⟩
    refine cN (fun _ => ?_) (fun g2 => ?_)
    · exact ret1 (.bool true) rfl ⟨rfl, x09⟩
    obtain ⟨-, lg, -, hs, hd1, aw, mk, bh, ba, bm, hne, R, DV, oh, oa, rfl, rfl, rfl, Bh, Ba, Bm, -⟩ := hc.ok g1
    obtain ⟨-, lg', -, hs', hd2, aw', mk', bh', ba', bm', hne', R', DV', oh', oa', rfl, rfl, rfl, Bh', Ba', Bm', -⟩ := hc'.ok g2
    rw [hne] at hne'
    injection hne' with hne'
    subst hne'
    have lcl := R.lc
    have hvf := R.v.f
    have hE := (dvErr_ok.1 g1).2
    have Ba := Ba.ext (x46.trans x69)
    have Ba' := Ba'.ext x79
    have la := DV.la
    have la' := DV'.la
    have more := DV.more DV' R hE.1 (by omega)
    refine fldA ?_
    refine ld (.slice (some (ad ba 0)) ng cg) (B9.cell rfl) ?_
    refine len ?_
    refine len ?_
    refine cN (fun h => absurd (by omega) h) (fun _ => ?_)
    refine fldA ?_
    refine ld (.slice (some (ad ba' 0)) ng' cg') (B11.cell rfl) ?_
    refine len ?_
    refine len ?_
    refine cN (fun h => absurd (by omega) h) (fun _ => ?_)
    refine len ?_
    refine loop_rule (fun k : Nat => [(60, iv (k : Int))]) (fun k u => k ≤ n ∧ w9 = u) (fun k _ => n - k) 0 ⟨rfl, trivial⟩ ⟨by omega, rfl⟩ rfl ?_
    rintro G9 k u ⟨hk, rfl⟩
    refine cD (fun hlt => ?_) (fun hge => ?_)
    · have hlt : k < n := by omega
      refine drawQ mx (by kernel_rfl) ?_
      refine fldA ?_
      refine ld (.slice (some (ad ba 0)) ng cg) (B9.cell rfl) ?_
      refine idx k rfl (by omega) ?_
      refine ld (iv (clA aw k)) (blkI Ba oa (n := ng) (by omega) (by omega) (by omega) 0 _ rfl) ?_
      refine fldA ?_
      refine ld (.slice (some (ad ba' 0)) ng' cg') (B11.cell rfl) ?_
      refine idx k rfl (by omega) ?_
      refine ld (iv (clA aw' k)) (blkI Ba' oa' (n := ng') (by omega) (by omega) (by omega) 0 _ rfl) ?_
      have := more k (by omega)
      refine cD (fun h => absurd h (by omega)) (fun _ => ?_)
      refine arI (by omega) ?_
      exact next (k + 1) ⟨by rw [Int.natCast_add]; rfl, trivial⟩ ⟨by omega, rfl⟩ (by omega)
    · exact ret1 (.bool true) rfl ⟨rfl, x09⟩
set_option maxRecDepth 4000 in
theorem c_DivisionShown {csd : List Value} {d : Dist} {cl : List Int} {A : Option Addr} {n c : Nat} {E fm : Int} (hd : DiR D w csd d) (hl : SlR tInt D w A n cl) (hfm : 0 ≤ fm ∧ fm ≤ 255) : CallZ Try.prog 5 #[.agg csd.toArray, .slice A n c, iv E, .int .u8 fm] w (fun v w' => v = .bool true ∧ Ext w w') := by
  have hd0 := hd
  obtain ⟨A1, n1, c1, A2, n2, c2, A3, n3, c3, A4, n4, c4, A5, n5, c5, A6, n6, c6, rfl, hr, hf, -⟩ := hd.ex
  have ll := hl.len
  have lf := hf.len
  refine fn_rule (args := [.agg #[.string d.name, iv d.hours, iv d.cap, iv d.start, .slice A1 n1 c1, .slice A2 n2 c2, .slice A3 n3 c3, .slice A4 n4 c4, .slice A5 n5 c5, .slice A6 n6 c6], .slice A n c, iv E, .int .u8 fm]) Try.func5 (by kernel_rfl) ?_
  refine box (fun b4 w1 h1 => ?_)
  have B4 : Blk w1 b4 31 [.string d.name, iv d.hours, iv d.cap, iv d.start, .slice A1 n1 c1, .slice A2 n2 c2, .slice A3 n3 c3, .slice A4 n4 c4, .slice A5 n5 c5, .slice A6 n6 c6] := h1.blk
  refine call_of (c_ssane) ?_
  rintro _ w2 ⟨rfl, x2⟩
  have B4 := B4.ext x2
  have x02 := h1.ext.trans x2
  refine ldA [.string d.name, iv d.hours, iv d.cap, iv d.start, .slice A1 n1 c1, .slice A2 n2 c2, .slice A3 n3 c3, .slice A4 n4 c4, .slice A5 n5 c5, .slice A6 n6 c6] (.blk B4) rfl ?_
  refine call_of (c_r41Few (hd0.ext x02)) ?_
  rintro _ w3 ⟨⟨q, rfl⟩, x3⟩
  have B4 := B4.ext x3
  have x03 := x02.trans x3
  cases q with
  | false => exact ret1 (.bool true) rfl ⟨rfl, x03⟩
  | true =>
    refine fldA ?_
    refine ld (.slice A2 n2 c2) (B4.cell rfl) ?_
    refine len ?_
    refine cE (fun _ => ?_) (fun hn0 => ?_)
    · exact ret1 (.bool true) rfl ⟨rfl, x03⟩
    refine ldA [.string d.name, iv d.hours, iv d.cap, iv d.start, .slice A1 n1 c1, .slice A2 n2 c2, .slice A3 n3 c3, .slice A4 n4 c4, .slice A5 n5 c5, .slice A6 n6 c6] (.blk B4) rfl ?_
    refine call_of (c_dDiv (E := E) (hd0.ext x03) (hl.ext x03)) ?_
    rintro _ w4 ⟨H, nh, ch, G, ng, cg, M, nm, cm, rfl, x4, hc⟩
    refine alloc (fun b9 w5 h5 => ?_)
    refine stA (vs := [.slice H nh ch, .slice G ng cg, .slice M nm cm]) h5.blk rfl (Nat.le_of_ble_eq_true rfl) (by simp [Value.oneCell']) (fun w6 B9 k6 z6 => ?_)
    have B9 : Blk w6 b9 37 [.slice H nh ch, .slice G ng cg, .slice M nm cm] := B9
    have e5 := h5.at_
    have x46 : Ext w4 w6 := h5.ext.then k6 fun b hb _ e => by omega
    have x36 := x4.trans x46
    have B4 := B4.ext x36
    have x06 := x03.trans x36
    refine cN (fun _ => ?_) (fun g1 => ?_)
    · exact ret1 (.bool true) rfl ⟨rfl, x06⟩
    obtain ⟨lh, lg, lm, hs, hd1, aw, mk, bh, ba, bm, hne, R, DV, oh, oa, rfl, rfl, rfl, Bh, Ba, Bm, -⟩ := hc.ok g1
    have lcl := R.lc
    have hvf := R.v.f
    have hvn := R.v.n
    obtain ⟨gO, hE⟩ := dvErr_ok.1 g1
    obtain ⟨gD, -⟩ := openErr_ok.1 gO
    obtain ⟨g0, -⟩ := divErr_ok.1 gD
    have Ba := Ba.ext x46
    have Bm := Bm.ext x46
    have la := DV.la
    have lmk := DV.lm
    have hn0 : n2 ≠ 0 := fun e => hn0 (by rw [e]; rfl)
    refine convI (by omega) ?_
    refine fldA ?_
    refine ld (.slice A2 n2 c2) (B4.cell rfl) ?_
    refine len ?_
    refine remT (by omega) ?_
    obtain ⟨i, hi, hin⟩ : ∃ i : Nat, fm.tmod (n2 : Int) = (i : Int) ∧ i < n2 := by
      rw [Int.tmod_eq_emod_of_nonneg hfm.1]
      have a1 := Int.emod_nonneg fm (show (n2 : Int) ≠ 0 by omega)
      have a2 := Int.emod_lt_of_pos fm (show (0 : Int) < n2 by omega)
      exact ⟨(fm % (n2 : Int)).toNat, by omega, by omega⟩
    rw [hi]
    refine ldA [.string d.name, iv d.hours, iv d.cap, iv d.start, .slice A1 n1 c1, .slice A2 n2 c2, .slice A3 n3 c3, .slice A4 n4 c4, .slice A5 n5 c5, .slice A6 n6 c6] (.blk B4) rfl ?_
    refine call_of (c_dPart (i := (i : Int)) (hd0.ext x06)) ?_
    have hp0 : ptErr d (i : Int) = 0 := by unfold ptErr; rw [if_neg (fun h => h g0), if_pos (by omega)]
    rintro _ w7 ⟨x7, ⟨h, -⟩ | ⟨-, k, rfl, hk⟩⟩
    · exact absurd hp0 h
    rw [show (i : Int).toNat = i from rfl] at hk
    have hfi := R.v.fm i (by omega)
    obtain ⟨r, hr'⟩ : ∃ r : Nat, (fmC d i).reach = r := ⟨(fmC d i).reach.toNat, by omega⟩
    rw [show (i : Int).toNat = i from rfl, hr']
    rw [hr'] at hk
    have hrn : r < d.reaches.length := by omega
    have B4 := B4.ext x7
    have B9 := B9.ext x7
    have x07 := x06.trans x7
    have hok := DV.ok R hE.1 hrn
    obtain ⟨tE, -⟩ := R.work (hd := hd1) hrn hok
    have A0 := DV.at_ r hrn
    have hV := A0.mark.vm tE
    obtain ⟨pe, pl⟩ := pt_at (cl := cl) (hs := hs) hk
    have pe : clA (clmV d cl hs r) k = clA cl i := pe
    have hown := A0.farm k i hk
    rw [pe] at hown
    have clb := clA_ok R.okc i
    have lenB := R.v.len (cl := cl) (hs := hs) (r := r)
    refine cN (fun h => absurd rfl h) (fun _ => ?_)
    refine ldA [.string d.name, iv d.hours, iv d.cap, iv d.start, .slice A1 n1 c1, .slice A2 n2 c2, .slice A3 n3 c3, .slice A4 n4 c4, .slice A5 n5 c5, .slice A6 n6 c6] (.blk B4) rfl ?_
    refine ldA _ (.blk B9) rfl ?_
    refine call_of (c_sshaped (hd0.ext x07) ⟨lh, lg, lm⟩) ?_
    rintro _ w8 ⟨rfl, x8⟩
    have B9 := B9.ext x8
    have x08 := x07.trans x8
    have Ba := (Ba.ext x7).ext x8
    have Bm := (Bm.ext x7).ext x8
    refine len ?_
    refine fldA ?_
    refine ld (.slice (some (ad ba 0)) ng cg) (B9.cell rfl) ?_
    refine len ?_
    refine cN (fun h => absurd (by omega) h) (fun _ => ?_)
    refine cD (fun h => absurd (show (r : Int) < 0 from h) (by omega)) (fun _ => ?_)
    refine fldA ?_
    refine ld (.slice (some (ad bm 0)) nm cm) (B9.cell rfl) ?_
    refine len ?_
    refine cD (fun h => absurd (show (r : Int) ≥ (nm : Int) from h) (by omega)) (fun _ => ?_)
    obtain ⟨bc, oc, csc, x, rfl, hx, -, -, hcc, rfl, -⟩ := (hl.ext x08).at_ (k := i) (by omega)
    have ex : x = clA cl i := (clA_at hx).symm
    refine drawP (.take 0 (.take 1 (.take 2 (.take 3 (.take 4 (.take 5 (.take 6 (.take 7 (.take 8 (.take 9 (.eff 10 (.take 11 (.take 12 (.take 13 (.take 14 (.take 15 .done)))))))))))))))) [] (fun z => Ext w8 z) mx (by kernel_rfl) (.refl _ _) ?_
    refine fldA ?_
    refine ldK (.slice (some (ad bm 0)) nm cm) (B9.cell rfl) trivial (.refl _ _) ?_
    refine idx r rfl (by omega) ?_
    refine ldAK (encM (mkA mk r)) (blkM Bm (by omega)) rfl trivial (.refl _ _) ?_
    refine idx i rfl (by omega) ?_
    refine ldK (iv x) (hcc 0 _ rfl) trivial (.refl _ _) ?_
    refine call_of (c_gOwn (m := mkA mk r) (i := (k : Int)) (c := x)) ?_
    rintro _ w9 ⟨rfl, x9⟩
    rw [own_ok hV (by omega), if_pos rfl]
    refine strS x9 ?_
    refine cE (fun _ => ?_) (fun h => absurd rfl h)
    refine fldA ?_
    refine ld (.slice (some (ad ba 0)) ng cg) ((B9.ext x9).cell rfl) ?_
    refine idx i rfl (by omega) ?_
    refine ld (iv (clA aw i)) (blkI (Ba.ext x9) oa (n := ng) (by omega) (by omega) (by omega) 0 _ rfl) ?_
    refine cE (fun _ => ?_) (fun h => absurd (by rw [hown, ex]) h)
    exact ret1 (.bool true) rfl ⟨rfl, x08.trans x9⟩
end
end Go.Proofs.Ytmjcaclakggafaa

/- Layer 41: DivisionOthers. -/
namespace Go.Proofs.Ytmjcaclakggafaa
open Go Go.RowKit

section
variable {D : Nat → Prop} {w : World}
theorem shErr_open {d : Dist} {cl : List Int} {r : Int} (h : shErr d cl r = 0) : openErr d cl = 0 ∧ 0 ≤ r ∧ r < d.reaches.length := by
  unfold shErr at h
  by_cases h1 : openErr d cl = 0
  · rw [if_neg (fun q => q h1)] at h
    by_cases h2 : 0 ≤ r ∧ r < d.reaches.length
    · exact ⟨h1, h2⟩
    · rw [if_neg h2] at h; cases h
  · rw [if_pos h1] at h; exact absurd h h1
theorem c_dSh {csd : List Value} {d : Dist} {cl : List Int} {A : Option Addr} {n c : Nat} {r : Int} (hd : DiR D w csd d) (hl : SlR tInt D w A n cl) : CallZ Try.prog 12 #[.agg csd.toArray, .slice A n c, iv r] w (fun v w' => ∃ P np cp, v = .tuple #[.slice P np cp, iv (shErr d cl r)] ∧ Ext w w' ∧ (shErr d cl r ≠ 0 → P = none ∧ np = 0) ∧ (shErr d cl r = 0 → ∃ hs, needsV d cl = some hs ∧ np ≤ 664 ∧ SlR tInt (fun _ => True) w' P np (clmV d cl hs r.toNat))) :=
  (c_dShares hd hl).mono (by
    rintro v w' ⟨x, ⟨h, rfl⟩ | ⟨h, hs, P, np, cp, hne, rfl, o⟩⟩
    · exact ⟨_, _, _, rfl, x, fun _ => ⟨rfl, rfl⟩, fun q => absurd q h⟩
    · have gd := (openErr_ok.1 (shErr_open h).1).1
      have R := rdy_of gd hne
      have lo := o.own.len
      rw [List.length_map] at lo
      have lB := R.v.len (cl := cl) (hs := hs) (r := r.toNat)
      exact ⟨P, np, cp, by rw [h], x, fun q => absurd h q, fun _ => ⟨hs, hne, by omega, o.ints (okL_i64 (clmV_ok R.okc R.okh _)) (by omega) fun _ _ => trivial⟩⟩)
set_option maxRecDepth 4000 in
set_option maxHeartbeats 1000000 in
theorem c_DivisionOthers {csd : List Value} {d : Dist} {cl ol : List Int} {A B : Option Addr} {n c nb cb : Nat} {E : Int} (hd : DiR D w csd d) (hl : SlR tInt D w A n cl) (ho : SlR tInt D w B nb ol) : CallZ Try.prog 4 #[.agg csd.toArray, .slice A n c, .slice B nb cb, iv E] w (fun v w' => v = .bool true ∧ Ext w w') := by
  have hd0 := hd
  obtain ⟨A1, n1, c1, A2, n2, c2, A3, n3, c3, A4, n4, c4, A5, n5, c5, A6, n6, c6, rfl, hr, hf, -⟩ := hd.ex
  have ll := hl.len
  have lf := hf.len
  refine fn_rule (args := [.agg #[.string d.name, iv d.hours, iv d.cap, iv d.start, .slice A1 n1 c1, .slice A2 n2 c2, .slice A3 n3 c3, .slice A4 n4 c4, .slice A5 n5 c5, .slice A6 n6 c6], .slice A n c, .slice B nb cb, iv E]) Try.func4 (by kernel_rfl) ?_
  refine box (fun b4 w1 h1 => ?_)
  have B4 : Blk w1 b4 31 [.string d.name, iv d.hours, iv d.cap, iv d.start, .slice A1 n1 c1, .slice A2 n2 c2, .slice A3 n3 c3, .slice A4 n4 c4, .slice A5 n5 c5, .slice A6 n6 c6] := h1.blk
  refine call_of (c_ssane) ?_
  rintro _ w2 ⟨rfl, x2⟩
  have B4 := B4.ext x2
  have x02 := h1.ext.trans x2
  refine ldA [.string d.name, iv d.hours, iv d.cap, iv d.start, .slice A1 n1 c1, .slice A2 n2 c2, .slice A3 n3 c3, .slice A4 n4 c4, .slice A5 n5 c5, .slice A6 n6 c6] (.blk B4) rfl ?_
  refine call_of (c_r41Few (hd0.ext x02)) ?_
  rintro _ w3 ⟨⟨q, rfl⟩, x3⟩
  have B4 := B4.ext x3
  have x03 := x02.trans x3
  cases q with
  | false => exact ret1 (.bool true) rfl ⟨rfl, x03⟩
  | true =>
    refine len ?_
    refine len ?_
    refine cN (fun _ => ?_) (fun _ => ?_)
    · exact ret1 (.bool true) rfl ⟨rfl, x03⟩
    refine ldA [.string d.name, iv d.hours, iv d.cap, iv d.start, .slice A1 n1 c1, .slice A2 n2 c2, .slice A3 n3 c3, .slice A4 n4 c4, .slice A5 n5 c5, .slice A6 n6 c6] (.blk B4) rfl ?_
    refine call_of (c_eCheck (hd0.ext x03)) ?_
    rintro _ w4 ⟨rfl, x4⟩
    have B4 := B4.ext x4
    have x04 := x03.trans x4
    refine cN (fun _ => ?_) (fun g0 => ?_)
    · exact ret1 (.bool true) rfl ⟨rfl, x04⟩
    refine ldA [.string d.name, iv d.hours, iv d.cap, iv d.start, .slice A1 n1 c1, .slice A2 n2 c2, .slice A3 n3 c3, .slice A4 n4 c4, .slice A5 n5 c5, .slice A6 n6 c6] (.blk B4) rfl ?_
    refine call_of (c_dSh (r := 0) (hd0.ext x04) (hl.ext x04)) ?_
    rintro _ w5 ⟨P, np, cp, rfl, x5, -, hS⟩
    have B4 := B4.ext x5
    have x05 := x04.trans x5
    refine ldA [.string d.name, iv d.hours, iv d.cap, iv d.start, .slice A1 n1 c1, .slice A2 n2 c2, .slice A3 n3 c3, .slice A4 n4 c4, .slice A5 n5 c5, .slice A6 n6 c6] (.blk B4) rfl ?_
    refine call_of (c_dSh (r := 0) (hd0.ext x05) (ho.ext x05)) ?_
    rintro _ w6 ⟨Q, nq, cq, rfl, x6, -, hT⟩
    have B4 := B4.ext x6
    have x06 := x05.trans x6
    refine cN (fun _ => ?_) (fun g1 => ?_)
    · exact ret1 (.bool true) rfl ⟨rfl, x06⟩
    refine cN (fun _ => ?_) (fun g2 => ?_)
    · exact ret1 (.bool true) rfl ⟨rfl, x06⟩
    obtain ⟨hs, hne, -, sP⟩ := hS g1
    obtain ⟨hs', hne', -, sQ⟩ := hT g2
    refine callE ((c_r40Same (c := cp) (c' := cq) (sP.ext x6) sQ).mono fun v w' h => ⟨h.1, by rw [h.2]; exact Kept.refl _ _⟩) (fun w7 gS x7 => ?_) (fun w7 gS x7 => ?_)
    rotate_left
    · exact ret1 (.bool true) rfl ⟨rfl, x06.trans x7⟩
    have gS := of_decide_eq_true gS
    have B4 := B4.ext x7
    have x07 := x06.trans x7
    refine ldA [.string d.name, iv d.hours, iv d.cap, iv d.start, .slice A1 n1 c1, .slice A2 n2 c2, .slice A3 n3 c3, .slice A4 n4 c4, .slice A5 n5 c5, .slice A6 n6 c6] (.blk B4) rfl ?_
    refine call_of (c_dDiv (E := E) (hd0.ext x07) (hl.ext x07)) ?_
    rintro _ w8 ⟨H, nh, ch, G, ng, cg, M, nm, cm, rfl, x8, hc⟩
    refine alloc (fun b13 w9 h9 => ?_)
    refine stA (vs := [.slice H nh ch, .slice G ng cg, .slice M nm cm]) h9.blk rfl (Nat.le_of_ble_eq_true rfl) (by simp [Value.oneCell']) (fun w10 B13 k10 z10 => ?_)
    have B13 : Blk w10 b13 37 [.slice H nh ch, .slice G ng cg, .slice M nm cm] := B13
    have e9 := h9.at_
    have x810 : Ext w8 w10 := h9.ext.then k10 fun b hb _ e => by omega
    have x710 := x8.trans x810
    have B4 := B4.ext x710
    have x0a := x07.trans x710
    refine ldA [.string d.name, iv d.hours, iv d.cap, iv d.start, .slice A1 n1 c1, .slice A2 n2 c2, .slice A3 n3 c3, .slice A4 n4 c4, .slice A5 n5 c5, .slice A6 n6 c6] (.blk B4) rfl ?_
    refine call_of (c_dDiv (E := E) (hd0.ext x0a) (ho.ext x0a)) ?_
    rintro _ w11 ⟨H', nh', ch', G', ng', cg', M', nm', cm', rfl, x11, hc'⟩
    refine alloc (fun b15 w12 h12 => ?_)
    refine stA (vs := [.slice H' nh' ch', .slice G' ng' cg', .slice M' nm' cm']) h12.blk rfl (Nat.le_of_ble_eq_true rfl) (by simp [Value.oneCell']) (fun w13 B15 k13 z13 => ?_)
    have B15 : Blk w13 b15 37 [.slice H' nh' ch', .slice G' ng' cg', .slice M' nm' cm'] := B15
    have e12 := h12.at_
    have x1113 : Ext w11 w13 := h12.ext.then k13 fun b hb _ e => by omega
    have xa13 := x11.trans x1113
    have x0d := x0a.trans xa13
    have B4 := B4.ext xa13
    have B13 := B13.ext xa13
    have same : dvErr d cl E = dvErr d ol E := by
      have a := (shErr_open g1).1
      have b := (shErr_open g2).1
      unfold dvErr
      rw [if_neg (fun h : openErr d cl ≠ 0 => h a), if_neg (fun h : openErr d ol ≠ 0 => h b)]
    refine cN (fun g3 => ?_) (fun g3 => ?_)
    · refine cE (fun _ => ?_) (fun h => absurd same h)
      exact ret1 (.bool true) rfl ⟨rfl, x0d⟩
    have g4 : dvErr d ol E = 0 := by rw [← same]; exact g3
    refine cN (fun h => absurd g4 h) (fun _ => ?_)
    obtain ⟨lh, lg, lm, hs1, hd1, aw, mk, bh, ba, bm, hn1, R, DV, oh, oa, rfl, rfl, rfl, Bh, Ba, Bm, -⟩ := hc.ok g3
    obtain ⟨lh', lg', lm', hs2, hd2, aw', mk', bh', ba', bm', hn2, R', DV', oh', oa', rfl, rfl, rfl, Bh', Ba', Bm', -⟩ := hc'.ok g4
    rw [hne] at hn1; injection hn1 with hn1; subst hn1
    rw [hne'] at hn2; injection hn2 with hn2; subst hn2
    have x1013 := x810.trans xa13
    have Bh := Bh.ext x1013
    have Ba := Ba.ext x1013
    have Bm := Bm.ext x1013
    have Bh' := Bh'.ext x1113
    have Ba' := Ba'.ext x1113
    have Bm' := Bm'.ext x1113
    obtain ⟨o1, o2, o3⟩ := DV.others DV' R R' gS
    have hvn := R.v.n
    have hvf := R.v.f
    have la := DV.la
    have la' := DV'.la
    have lmk := DV.lm
    have lmk' := DV'.lm
    have lhd := DV.lh
    have lhd' := DV'.lh
    refine ldA [.string d.name, iv d.hours, iv d.cap, iv d.start, .slice A1 n1 c1, .slice A2 n2 c2, .slice A3 n3 c3, .slice A4 n4 c4, .slice A5 n5 c5, .slice A6 n6 c6] (.blk B4) rfl ?_
    refine ldA _ (.blk B13) rfl ?_
    refine call_of (c_sshaped (hd0.ext x0d) ⟨lh, lg, lm⟩) ?_
    rintro _ w14 ⟨rfl, x14⟩
    have B4 := B4.ext x14
    have B13 := B13.ext x14
    have B15 := B15.ext x14
    refine ldA [.string d.name, iv d.hours, iv d.cap, iv d.start, .slice A1 n1 c1, .slice A2 n2 c2, .slice A3 n3 c3, .slice A4 n4 c4, .slice A5 n5 c5, .slice A6 n6 c6] (.blk B4) rfl ?_
    refine ldA _ (.blk B15) rfl ?_
    refine call_of (c_sshaped (hd0.ext (x0d.trans x14)) ⟨lh', lg', lm'⟩) ?_
    rintro _ w15 ⟨rfl, x15⟩
    have x1315 := x14.trans x15
    have x0f := x0d.trans x1315
    have B4 := B4.ext x15
    have B13 := B13.ext x15
    have B15 := B15.ext x15
    refine fldA ?_
    refine ld (.slice A2 n2 c2) (B4.cell rfl) ?_
    refine len ?_
    refine loop_rule (fun k : Nat => [(97, iv (k : Int))]) (fun k u => k ≤ n2 ∧ Ext w15 u) (fun k _ => n2 - k) 0 ⟨rfl, trivial⟩ ⟨by omega, .refl _ _⟩ rfl ?_
    rintro G9 k u ⟨hk, xu⟩
    have xdu := x1315.trans xu
    have Bh := Bh.ext xdu
    have Ba := Ba.ext xdu
    have Bm := Bm.ext xdu
    have Bh' := Bh'.ext xdu
    have Ba' := Ba'.ext xdu
    have Bm' := Bm'.ext xdu
    have B13 := B13.ext xu
    have B15 := B15.ext xu
    refine cD (fun hlt => ?_) (fun hge => ?_)
    · have hlt : k < n2 := by omega
      obtain ⟨b, o, cs, x, rfl, hx, -, -, hcx, rfl⟩ := ((hf.ext x0f).ext xu).at_ hlt
      have hfm := fmC_at hx
      refine idx k rfl hlt ?_
      refine ldA x.c hcx rfl ?_
      refine alloc (fun b18 u1 i1 => ?_)
      refine stA (vs := x.c) i1.blk rfl (Nat.le_of_ble_eq_true rfl) (by simp [Value.oneCell']) (fun u2 B18 k2 z2 => ?_)
      have B18 : Blk u2 b18 48 x.c := B18
      have y1 := i1.at_
      have xu2 : Ext u u2 := i1.ext.then k2 fun b hb _ e => by omega
      refine drawQ mx (by kernel_rfl) ?_
      refine fldA ?_
      refine ld (iv x.reach) (B18.cell rfl) ?_
      refine cE (fun g => ?_) (fun g => ?_)
      · have ho3 := o3 k (by omega) (by rw [hfm]; exact g)
        refine fldA ?_
        refine ld (.slice (some (ad ba 0)) ng cg) ((B13.ext xu2).cell rfl) ?_
        refine idx k rfl (by omega) ?_
        refine ld (iv (clA aw k)) (blkI (Ba.ext xu2) oa (n := ng) (by omega) (by omega) (by omega) 0 _ rfl) ?_
        refine fldA ?_
        refine ld (.slice (some (ad ba' 0)) ng' cg') ((B15.ext xu2).cell rfl) ?_
        refine idx k rfl (by omega) ?_
        refine ld (iv (clA aw' k)) (blkI (Ba'.ext xu2) oa' (n := ng') (by omega) (by omega) (by omega) 0 _ rfl) ?_
        refine cN (fun h => absurd ho3 h) (fun _ => ?_)
        refine arI (by omega) ?_
        exact next (k + 1) ⟨by rw [Int.natCast_add]; rfl, trivial⟩ ⟨by omega, xu.trans xu2⟩ (by omega)
      · refine arI (by omega) ?_
        exact next (k + 1) ⟨by rw [Int.natCast_add]; rfl, trivial⟩ ⟨by omega, xu.trans xu2⟩ (by omega)
    · refine drawQ mx (by kernel_rfl) ?_
      refine fldA ?_
      refine ld (.slice (some (ad bh 0)) nh ch) (B13.cell rfl) ?_
      refine idx 0 rfl (by omega) ?_
      refine ld (iv (clA hd1 0)) (blkI (i := 0) Bh oh (n := nh) (by omega) (by omega) (by omega) 0 _ rfl) ?_
      refine fldA ?_
      refine ld (.slice (some (ad bh' 0)) nh' ch') (B15.cell rfl) ?_
      refine idx 0 rfl (by omega) ?_
      refine ld (iv (clA hd2 0)) (blkI (i := 0) Bh' oh' (n := nh') (by omega) (by omega) (by omega) 0 _ rfl) ?_
      refine cE (fun _ => ?_) (fun h => absurd o1 h)
      refine fldA ?_
      refine ld (.slice (some (ad bm 0)) nm cm) (B13.cell rfl) ?_
      refine idx 0 rfl (by omega) ?_
      refine ldA (encM (mkA mk 0)) (blkM (i := 0) Bm (by omega)) rfl ?_
      refine fldA ?_
      refine ld (.slice (some (ad bm' 0)) nm' cm') (B15.cell rfl) ?_
      refine idx 0 rfl (by omega) ?_
      refine ldA (encM (mkA mk' 0)) (blkM (i := 0) Bm' (by omega)) rfl ?_
      rw [← o2]
      obtain ⟨m, hm⟩ : ∃ m, m = mkA mk 0 := ⟨_, rfl⟩
      rw [← hm]
      refine eqS ((m.late == m.late) && ((m.level == m.level) && ((m.claim == m.claim) && ((m.index == m.index) && true)))) (by kernel_rfl) (fun _ => ?_) (fun h => by simp at h)
      exact ret1 (.bool true) rfl ⟨rfl, x0f.trans xu⟩
end
end Go.Proofs.Ytmjcaclakggafaa

/- Layer 41: DivisionMet. -/
namespace Go.Proofs.Ytmjcaclakggafaa
open Go Go.RowKit

section
variable {D : Nat → Prop} {w : World}
theorem c_dNd {csd : List Value} {d : Dist} {cl : List Int} {A : Option Addr} {n c : Nat} (hd : DiR D w csd d) (hl : SlR tInt D w A n cl) : CallZ Try.prog 20 #[.agg csd.toArray, .slice A n c] w (fun v w' => ∃ B nb cb ok, v = .tuple #[.slice B nb cb, .bool ok, iv (divErr d cl)] ∧ Ext w w' ∧ (ok = false → B = none ∧ nb = 0) ∧ (divErr d cl = 0 → (ok = false ∧ needsV d cl = none) ∨ (ok = true ∧ ∃ hs bh, needsV d cl = some hs ∧ B = some (ad bh 0) ∧ nb = d.reaches.length ∧ Blk w' bh 3 (ivs hs))) ∧ (divErr d cl ≠ 0 → ok = false)) :=
  (c_dNeeds hd hl).mono (by
    rintro v w' ⟨x, ⟨h, rfl⟩ | ⟨h, hn, rfl⟩ | ⟨h, hs, bh, hn, rfl, hb, Bh⟩⟩
    · exact ⟨_, _, _, _, rfl, x, fun _ => ⟨rfl, rfl⟩, fun q => absurd q h, fun _ => rfl⟩
    · exact ⟨_, _, _, _, by rw [h], x, fun _ => ⟨rfl, rfl⟩, fun _ => .inl ⟨rfl, hn⟩, fun q => absurd h q⟩
    · exact ⟨_, _, _, _, by rw [h], x, fun q => (by cases q), fun _ => .inr ⟨rfl, hs, bh, hn, rfl, rfl, Bh⟩, fun q => absurd h q⟩)
set_option maxRecDepth 8000 in
set_option maxHeartbeats 2000000 in
theorem c_DivisionMet {csd : List Value} {d : Dist} {cl : List Int} {A : Option Addr} {n c : Nat} {E : Int} (hd : DiR D w csd d) (hl : SlR tInt D w A n cl) : CallZ Try.prog 7 #[.agg csd.toArray, .slice A n c, iv E] w (fun v w' => v = .bool true ∧ Ext w w') := by
  have hd0 := hd
  obtain ⟨A1, n1, c1, A2, n2, c2, A3, n3, c3, A4, n4, c4, A5, n5, c5, A6, n6, c6, rfl, hr, hf, -⟩ := hd.ex
  have ll := hl.len
  have lf := hf.len
  have lr := hr.len
  refine fn_rule (args := [.agg #[.string d.name, iv d.hours, iv d.cap, iv d.start, .slice A1 n1 c1, .slice A2 n2 c2, .slice A3 n3 c3, .slice A4 n4 c4, .slice A5 n5 c5, .slice A6 n6 c6], .slice A n c, iv E]) Try.func7 (by kernel_rfl) ?_
  refine box (fun b3 w1 h1 => ?_)
  have B3 : Blk w1 b3 31 [.string d.name, iv d.hours, iv d.cap, iv d.start, .slice A1 n1 c1, .slice A2 n2 c2, .slice A3 n3 c3, .slice A4 n4 c4, .slice A5 n5 c5, .slice A6 n6 c6] := h1.blk
  refine call_of (c_ssane) ?_
  rintro _ w2 ⟨rfl, x2⟩
  have B3 := B3.ext x2
  have x02 := h1.ext.trans x2
  refine ldA [.string d.name, iv d.hours, iv d.cap, iv d.start, .slice A1 n1 c1, .slice A2 n2 c2, .slice A3 n3 c3, .slice A4 n4 c4, .slice A5 n5 c5, .slice A6 n6 c6] (.blk B3) rfl ?_
  refine call_of (c_r41Few (hd0.ext x02)) ?_
  rintro _ w3 ⟨⟨q, rfl⟩, x3⟩
  have B3 := B3.ext x3
  have x03 := x02.trans x3
  cases q with
  | false => exact ret1 (.bool true) rfl ⟨rfl, x03⟩
  | true =>
    refine ldA [.string d.name, iv d.hours, iv d.cap, iv d.start, .slice A1 n1 c1, .slice A2 n2 c2, .slice A3 n3 c3, .slice A4 n4 c4, .slice A5 n5 c5, .slice A6 n6 c6] (.blk B3) rfl ?_
    refine call_of (c_eCheck (hd0.ext x03)) ?_
    rintro _ w4 ⟨rfl, x4⟩
    have B3 := B3.ext x4
    have x04 := x03.trans x4
    refine cN (fun _ => ?_) (fun g0 => ?_)
    · exact ret1 (.bool true) rfl ⟨rfl, x04⟩
    have g0 : dErr d = 0 := g0
    refine ldA [.string d.name, iv d.hours, iv d.cap, iv d.start, .slice A1 n1 c1, .slice A2 n2 c2, .slice A3 n3 c3, .slice A4 n4 c4, .slice A5 n5 c5, .slice A6 n6 c6] (.blk B3) rfl ?_
    refine call_of (c_dNd (hd0.ext x04) (hl.ext x04)) ?_
    rintro _ w5 ⟨B, nb, cb, ok, rfl, x5, hN0, hN1, hN2⟩
    have B3 := B3.ext x5
    have x05 := x04.trans x5
    refine ldA [.string d.name, iv d.hours, iv d.cap, iv d.start, .slice A1 n1 c1, .slice A2 n2 c2, .slice A3 n3 c3, .slice A4 n4 c4, .slice A5 n5 c5, .slice A6 n6 c6] (.blk B3) rfl ?_
    refine call_of (c_dDiv (E := E) (hd0.ext x05) (hl.ext x05)) ?_
    rintro _ w6 ⟨H, nh, ch, G, ng, cg, M, nm, cm, rfl, x6, hc⟩
    refine alloc (fun b10 w7 h7 => ?_)
    refine stA (vs := [.slice H nh ch, .slice G ng cg, .slice M nm cm]) h7.blk rfl (Nat.le_of_ble_eq_true rfl) (by simp [Value.oneCell']) (fun w8 B10 k8 z8 => ?_)
    have B10 : Blk w8 b10 37 [.slice H nh ch, .slice G ng cg, .slice M nm cm] := B10
    have e7 := h7.at_
    have x68 : Ext w6 w8 := h7.ext.then k8 fun b hb _ e => by omega
    have x58 := x6.trans x68
    have B3 := B3.ext x58
    have x08 := x05.trans x58
    refine cN (fun ge => ?_) (fun ge => ?_)
    · have ee : dvErr d cl E = divErr d cl := by
        have : openErr d cl = divErr d cl := by unfold openErr; rw [if_pos ge]
        unfold dvErr
        rw [this, if_pos ge]
      refine cE (fun _ => ?_) (fun h => absurd ee.symm h)
      exact ret1 (.bool true) rfl ⟨rfl, x08⟩
    have ge : divErr d cl = 0 := ge
    refine cN (fun gf => ?_) (fun gf => ?_)
    · refine cE (fun _ => ?_) (fun _ => ?_)
      · exact ret1 (.bool true) rfl ⟨rfl, x08⟩
      refine cE (fun _ => ?_) (fun h => absurd ge h)
      refine cE (fun _ => ?_) (fun gf1 => ?_)
      · exact ret1 (.bool true) rfl ⟨rfl, x08⟩
      refine cE (fun _ => ?_) (fun h => absurd ge h)
      cases ok with
      | false => exact ret1 (.bool true) rfl ⟨rfl, x08⟩
      | true =>
        exfalso
        rcases hN1 ge with ⟨h, -⟩ | ⟨-, hs, bs, hne, -⟩
        · cases h
        · have ho : openErr d cl = 0 := openErr_ok.2 ⟨ge, hs, hne⟩
          refine gf1 ?_
          unfold dvErr
          rw [if_neg (fun h => h ho), if_neg (fun h => gf (dvErr_ok.2 ⟨ho, h⟩))]
    have gf : dvErr d cl E = 0 := gf
    obtain ⟨lh, lg, lm, hs, hd1, aw, mk, bh, ba, bm, hne, R, DV, oh, oa, rfl, rfl, rfl, Bh, Ba, Bm, -⟩ := hc.ok gf
    rcases hN1 ge with ⟨-, h⟩ | ⟨rfl, hs', bs, hne', rfl, rfl, Bs⟩
    · rw [h] at hne; cases hne
    rw [hne] at hne'; injection hne' with hne'; subst hne'
    obtain ⟨gO, hE⟩ := dvErr_ok.1 gf
    have hvn := R.v.n
    have hvf := R.v.f
    have lcl := R.lc
    have Bh := Bh.ext x68
    have Ba := Ba.ext x68
    have Bs := Bs.ext x58
    have la := DV.la
    have lhd := DV.lh
    have lhs := R.lh
    have met := DV.met R hE.1
    have head := DV.head R hE.1
    have sums := fun r hr => DV.sum R hE.1 (r := r) hr
    refine len ?_
    refine fldA ?_
    refine ld (.slice A1 n1 c1) (B3.cell rfl) ?_
    refine len ?_
    refine cN (fun h => absurd (by omega) h) (fun _ => ?_)
    refine ldA [.string d.name, iv d.hours, iv d.cap, iv d.start, .slice A1 n1 c1, .slice A2 n2 c2, .slice A3 n3 c3, .slice A4 n4 c4, .slice A5 n5 c5, .slice A6 n6 c6] (.blk B3) rfl ?_
    refine ldA _ (.blk B10) rfl ?_
    refine call_of (c_sshaped (hd0.ext x08) ⟨lh, lg, lm⟩) ?_
    rintro _ w9 ⟨rfl, x9⟩
    have B3 := B3.ext x9
    have B10 := B10.ext x9
    have x09 := x08.trans x9
    have Bh := Bh.ext x9
    have Ba := Ba.ext x9
    have Bs := Bs.ext x9
    have hl9 := hl.ext x09
    refine len ?_
    refine fldA ?_
    refine ld (.slice (some (ad ba 0)) ng cg) (B10.cell rfl) ?_
    refine len ?_
    refine cN (fun h => absurd (by omega) h) (fun _ => ?_)
    -- the awards
    refine fldA ?_
    refine ld (.slice (some (ad ba 0)) ng cg) (B10.cell rfl) ?_
    refine len ?_
    refine loop_rule (fun k : Nat => [(100, iv (k : Int))]) (fun k u => k ≤ ng ∧ w9 = u) (fun k _ => ng - k) 0 ⟨rfl, trivial⟩ ⟨by omega, rfl⟩ rfl ?_
    rintro G1 k u ⟨hk, rfl⟩
    refine cD (fun hlt => ?_) (fun hge => ?_)
    · have hlt : k < ng := by omega
      obtain ⟨bc, oc, csc, x, rfl, hx, -, -, hcc, rfl, -⟩ := hl9.at_ (k := k) (by omega)
      have ex : clA cl k = x := clA_at hx
      have m := met k (by omega)
      rw [ex] at m
      refine idx k rfl (by omega) ?_
      refine ld (iv (clA aw k)) (blkI Ba oa (n := ng) (by omega) (by omega) (by omega) 0 _ rfl) ?_
      refine cD (fun h => absurd h (by omega)) (fun _ => ?_)
      refine idx k rfl (by omega) ?_
      refine ld (iv x) (hcc 0 _ rfl) ?_
      refine cD (fun h => absurd h (by omega)) (fun _ => ?_)
      refine idx 0 rfl (by omega) ?_
      refine ld (iv (clA hs 0)) (blkI (i := 0) Bs R.okh (n := d.reaches.length) (by omega) (by omega) (by omega) 0 _ rfl) ?_
      refine cD (fun hq => ?_) (fun hq => ?_)
      · refine idx k rfl (by omega) ?_
        refine ld (iv x) (hcc 0 _ rfl) ?_
        refine cN (fun h => absurd (m.2.2 hq) h) (fun _ => ?_)
        refine arI (by omega) ?_
        exact next (k + 1) ⟨by rw [Int.natCast_add]; rfl, trivial⟩ ⟨by omega, rfl⟩ (by omega)
      · refine arI (by omega) ?_
        exact next (k + 1) ⟨by rw [Int.natCast_add]; rfl, trivial⟩ ⟨by omega, rfl⟩ (by omega)
    -- the reaches
    refine fldA ?_
    refine ld (.slice A1 n1 c1) (B3.cell rfl) ?_
    refine len ?_
    refine loop_rule (fun k : Nat => [(134, iv (k : Int))]) (fun k u => k ≤ n1 ∧ Ext w9 u) (fun k _ => n1 - k) 0 ⟨rfl, trivial⟩ ⟨by omega, .refl _ _⟩ rfl ?_
    rintro G2 r u ⟨hr1, xu⟩
    have B10 := B10.ext xu
    have B3 := B3.ext xu
    have Bh := Bh.ext xu
    have Bs := Bs.ext xu
    have Ba := Ba.ext xu
    refine cD (fun hlt => ?_) (fun hge => ?_)
    rotate_left
    · refine fldA ?_
      refine ld (.slice (some (ad bh 0)) nh ch) (B10.cell rfl) ?_
      refine idx 0 rfl (by omega) ?_
      refine ld (iv (clA hd1 0)) (blkI (i := 0) Bh oh (n := nh) (by omega) (by omega) (by omega) 0 _ rfl) ?_
      have t := DV.top
      have cb := cut_b (d := d) (r := 0) (n := min E (clA hs 0)) (by have := clA_ok R.okh 0; omega)
      refine cD (fun _ => ?_) (fun h => absurd (show clA hd1 0 ≤ E by omega) h)
      exact ret1 (.bool true) rfl ⟨rfl, x09.trans xu⟩
    have hlt : r < n1 := by omega
    have hrn : r < d.reaches.length := by omega
    obtain ⟨b, o, cs, x, rfl, hx, -, -, hcx, rfl⟩ := ((hr.ext x09).ext xu).at_ hlt
    have hrc := rcC_at hx
    have hh := head r hrn
    rw [hrc] at hh
    have okr := clA_ok oh r
    obtain ⟨rl1, rl2, rl3⟩ := R.v.loss hrn
    rw [hrc] at rl1 rl2 rl3
    refine idx r rfl hlt ?_
    refine ldA x.c hcx rfl ?_
    refine alloc (fun b15 u1 i1 => ?_)
    refine stA (vs := x.c) i1.blk rfl (Nat.le_of_ble_eq_true rfl) (by simp [Value.oneCell']) (fun u2 B15 k2 z2 => ?_)
    have B15 : Blk u2 b15 66 x.c := B15
    have y1 := i1.at_
    have xu2 : Ext u u2 := i1.ext.then k2 fun b hb _ e => by omega
    have B10 := B10.ext xu2
    have B3 := B3.ext xu2
    have Bh := Bh.ext xu2
    have Bs := Bs.ext xu2
    have Ba := Ba.ext xu2
    have x02' := (x09.trans xu).trans xu2
    refine drawQ mx (by kernel_rfl) ?_
    refine fldA ?_
    refine ld (.slice (some (ad bh 0)) nh ch) (B10.cell rfl) ?_
    refine idx r rfl (by omega) ?_
    refine ld (iv (clA hd1 r)) (blkI Bh oh (n := nh) (by omega) (by omega) (by omega) 0 _ rfl) ?_
    refine cD (fun h => absurd h (by omega)) (fun _ => ?_)
    refine fldA ?_
    refine ld (.slice (some (ad bh 0)) nh ch) (B10.cell rfl) ?_
    refine idx r rfl (by omega) ?_
    refine ld (iv (clA hd1 r)) (blkI Bh oh (n := nh) (by omega) (by omega) (by omega) 0 _ rfl) ?_
    refine idx r rfl (by omega) ?_
    refine ld (iv (clA hs r)) (blkI Bs R.okh (n := d.reaches.length) (by omega) (by omega) (by omega) 0 _ rfl) ?_
    refine cD (fun h => absurd h (by omega)) (fun _ => ?_)
    refine fldA ?_
    refine ld (.slice (some (ad bh 0)) nh ch) (B10.cell rfl) ?_
    refine idx r rfl (by omega) ?_
    refine ld (iv (clA hd1 r)) (blkI Bh oh (n := nh) (by omega) (by omega) (by omega) 0 _ rfl) ?_
    refine cD (fun hpos => ?_) (fun hpos => ?_)
    · refine fldA ?_
      refine ld (.slice (some (ad bh 0)) nh ch) (B10.cell rfl) ?_
      refine idx r rfl (by omega) ?_
      refine ld (iv (clA hd1 r)) (blkI Bh oh (n := nh) (by omega) (by omega) (by omega) 0 _ rfl) ?_
      refine fldA ?_
      refine ld (iv x.siphon) (B15.cell rfl) ?_
      refine cD (fun h => absurd h (by omega)) (fun _ => ?_)
      refine ldA _ (.blk B3) rfl ?_
      refine ldA _ (.blk B10) rfl ?_
      refine call_of (c_sgot (D := fun _ => True) (r := r) ((hd0.ext x02').more fun _ _ _ => trivial) g0 hrn (blk_ints Bh (by omega) oh (by omega) trivial) (blk_ints Ba (by omega) oa (by omega) trivial) lh lg) ?_
      rintro _ u3 ⟨Q, nq, cq, rfl, oQ⟩
      have okg : OkL (clmV d aw hd1 r) := clmV_ok oa oh r
      have lgot : (clmV d aw hd1 r).length = (ptsV d r).length := clmV_len
      have l664 := ptsV_len (d := d) (r := r)
      have lQ := oQ.own.len
      rw [List.length_map] at lQ
      have x3' := oQ.ext
      have sQ : SlR tInt (fun _ => True) u3 Q nq (clmV d aw hd1 r) := oQ.ints (okL_i64 okg) (by omega) fun _ _ => trivial
      have B10 := B10.ext x3'
      have B15 := B15.ext x3'
      have Bh := Bh.ext x3'
      refine drawP (.take 0 (.take 1 (.take 2 (.take 3 (.take 4 (.take 5 (.eff 6 (.take 7 (.take 8 (.take 9 (.take 10 (.take 11 .done)))))))))))) [] (fun z => Ext u3 z) mx (by kernel_rfl) (.refl _ _) ?_
      refine ldAK x.c (.blk B15) rfl trivial (.refl _ _) ?_
      refine fldA ?_
      refine ldK (.slice (some (ad bh 0)) nh ch) (B10.cell rfl) trivial (.refl _ _) ?_
      refine idx r rfl (by omega) ?_
      refine ldK (iv (clA hd1 r)) (blkI Bh oh (n := nh) (by omega) (by omega) (by omega) 0 _ rfl) trivial (.refl _ _) ?_
      refine call_of (c_lWorst (r := x) (v := clA hd1 r)) ?_
      rintro _ u4 ⟨rfl, x4'⟩
      have eL : lErr x (clA hd1 r) = 0 := lErr_ok.2 ⟨rl1, okr.1, okr.2⟩
      rw [eL, if_pos rfl]
      refine strS x4' ?_
      have sQ := sQ.ext x4'
      have lst := sQ.len
      refine len ?_
      refine loop_rule (fun k : Nat => [(20, iv (isum ((clmV d aw hd1 r).take k))), (194, iv (k : Int))]) (fun k z => k ≤ nq ∧ u4 = z) (fun k _ => nq - k) 0 ⟨rfl, rfl, trivial⟩ ⟨by omega, rfl⟩ rfl ?_
      rintro G3 k z ⟨hk, rfl⟩
      have okt : OkL ((clmV d aw hd1 r).take k) := fun x hx => okg x (List.mem_of_mem_take hx)
      have sb := isum_b okt
      rw [List.length_take] at sb
      refine cD (fun hlt3 => ?_) (fun hge3 => ?_)
      · have hlt3 : k < nq := by omega
        obtain ⟨b6, o6, cs6, y, rfl, hy, -, -, hcy, rfl, -⟩ := sQ.at_ hlt3
        have yb := okg y (List.mem_of_getElem? hy)
        have htk : (clmV d aw hd1 r).take (k + 1) = (clmV d aw hd1 r).take k ++ [y] := by rw [List.take_add_one, hy]; rfl
        refine idx k rfl hlt3 ?_
        refine ld (iv y) (hcy 0 _ rfl) ?_
        refine arI (by omega) ?_
        refine arI (by omega) ?_
        exact next (k + 1) ⟨by rw [htk, isum_snoc]; rfl, by rw [Int.natCast_add]; rfl, trivial⟩ ⟨by omega, rfl⟩ (by omega)
      rw [List.take_of_length_le (by omega)]
      have sm := sums r hrn
      rw [hrc] at sm
      have sm : isum (clmV d aw hd1 r) ≤ clA hd1 r - (lostR x (clA hd1 r)).hi := sm
      refine cN (fun h => absurd rfl h) (fun _ => ?_)
      refine cD (fun h => absurd h (by omega)) (fun _ => ?_)
      refine arI (by omega) ?_
      exact next (r + 1) ⟨by rw [Int.natCast_add]; rfl, trivial⟩ ⟨by omega, ((xu.trans xu2).trans x3').trans x4'⟩ (by omega)
    · refine ldA _ (.blk B3) rfl ?_
      refine ldA _ (.blk B10) rfl ?_
      refine call_of (c_sgot (D := fun _ => True) (r := r) ((hd0.ext x02').more fun _ _ _ => trivial) g0 hrn (blk_ints Bh (by omega) oh (by omega) trivial) (blk_ints Ba (by omega) oa (by omega) trivial) lh lg) ?_
      rintro _ u3 ⟨Q, nq, cq, rfl, oQ⟩
      have okg : OkL (clmV d aw hd1 r) := clmV_ok oa oh r
      have lgot : (clmV d aw hd1 r).length = (ptsV d r).length := clmV_len
      have l664 := ptsV_len (d := d) (r := r)
      have lQ := oQ.own.len
      rw [List.length_map] at lQ
      have x3' := oQ.ext
      have sQ : SlR tInt (fun _ => True) u3 Q nq (clmV d aw hd1 r) := oQ.ints (okL_i64 okg) (by omega) fun _ _ => trivial
      have B10 := B10.ext x3'
      have B15 := B15.ext x3'
      have Bh := Bh.ext x3'
      refine drawP (.take 0 (.take 1 (.take 2 (.take 3 (.take 4 (.take 5 (.eff 6 (.take 7 (.take 8 (.take 9 (.take 10 (.take 11 .done)))))))))))) [] (fun z => Ext u3 z) mx (by kernel_rfl) (.refl _ _) ?_
      refine ldAK x.c (.blk B15) rfl trivial (.refl _ _) ?_
      refine fldA ?_
      refine ldK (.slice (some (ad bh 0)) nh ch) (B10.cell rfl) trivial (.refl _ _) ?_
      refine idx r rfl (by omega) ?_
      refine ldK (iv (clA hd1 r)) (blkI Bh oh (n := nh) (by omega) (by omega) (by omega) 0 _ rfl) trivial (.refl _ _) ?_
      refine call_of (c_lWorst (r := x) (v := clA hd1 r)) ?_
      rintro _ u4 ⟨rfl, x4'⟩
      have eL : lErr x (clA hd1 r) = 0 := lErr_ok.2 ⟨rl1, okr.1, okr.2⟩
      rw [eL, if_pos rfl]
      refine strS x4' ?_
      have sQ := sQ.ext x4'
      have lst := sQ.len
      refine len ?_
      refine loop_rule (fun k : Nat => [(20, iv (isum ((clmV d aw hd1 r).take k))), (194, iv (k : Int))]) (fun k z => k ≤ nq ∧ u4 = z) (fun k _ => nq - k) 0 ⟨rfl, rfl, trivial⟩ ⟨by omega, rfl⟩ rfl ?_
      rintro G3 k z ⟨hk, rfl⟩
      have okt : OkL ((clmV d aw hd1 r).take k) := fun x hx => okg x (List.mem_of_mem_take hx)
      have sb := isum_b okt
      rw [List.length_take] at sb
      refine cD (fun hlt3 => ?_) (fun hge3 => ?_)
      · have hlt3 : k < nq := by omega
        obtain ⟨b6, o6, cs6, y, rfl, hy, -, -, hcy, rfl, -⟩ := sQ.at_ hlt3
        have yb := okg y (List.mem_of_getElem? hy)
        have htk : (clmV d aw hd1 r).take (k + 1) = (clmV d aw hd1 r).take k ++ [y] := by rw [List.take_add_one, hy]; rfl
        refine idx k rfl hlt3 ?_
        refine ld (iv y) (hcy 0 _ rfl) ?_
        refine arI (by omega) ?_
        refine arI (by omega) ?_
        exact next (k + 1) ⟨by rw [htk, isum_snoc]; rfl, by rw [Int.natCast_add]; rfl, trivial⟩ ⟨by omega, rfl⟩ (by omega)
      rw [List.take_of_length_le (by omega)]
      have sm := sums r hrn
      rw [hrc] at sm
      have sm : isum (clmV d aw hd1 r) ≤ clA hd1 r - (lostR x (clA hd1 r)).hi := sm
      refine cN (fun h => absurd rfl h) (fun _ => ?_)
      refine cD (fun h => absurd h (by omega)) (fun _ => ?_)
      refine arI (by omega) ?_
      exact next (r + 1) ⟨by rw [Int.natCast_add]; rfl, trivial⟩ ⟨by omega, ((xu.trans xu2).trans x3').trans x4'⟩ (by omega)
end
end Go.Proofs.Ytmjcaclakggafaa

/- Closing: what districts and claims that are handed in read as. -/
namespace Go.Proofs.Ytmjcaclakggafaa
open Go Go.RowKit Go.ChangeShapes Go.WideShapes Go.ChangeAt

theorem rd_is : Rd Try.prog 32 (tSl tInt) := inferInstance
end Go.Proofs.Ytmjcaclakggafaa
