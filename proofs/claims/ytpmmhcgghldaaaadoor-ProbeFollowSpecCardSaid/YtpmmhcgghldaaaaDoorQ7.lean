/- Contracts of the program: Check, Best, Next. -/
import Derived.Test.YtpmmhcgghldaaaaDoorQ6
namespace Go.Proofs.YtpmmhcgghldaaaaDoor
open Go Go.RowKit

theorem pdOk_of {l : List (List Int)} {p : List Pr} (h : checkL l p = 0) : PdOk (pdOf l p) := by
  obtain ⟨hN, hm, hh, hpo⟩ := checkL_ok h
  have hok := prOk_of hpo
  refine ⟨by simp [pdOf], by simp [pdOf]; omega, fun m hm => ?_, fun c hc => ?_⟩
  · obtain ⟨x, _, rfl⟩ := List.mem_map.1 hm
    exact shownM_lt (by simp; omega)
  · obtain ⟨x, hx, rfl⟩ := List.mem_map.1 hc
    exact hok x hx
def pbestL (l : List (List Int)) (p : List Pr) : Tr × Int × Int :=
  if checkL l p ≠ 0 then (.mk 0 [] [], 0, checkL l p) else (ptree (pdOf l p).ps (2 ^ l.length) (2 ^ l.length - 1), (B (pdOf l p).ps (2 ^ l.length - 1)).1, 0)
def pnextL (l : List (List Int)) (p : List Pr) : Int × Bool × Int :=
  if checkL l p ≠ 0 then (0, false, checkL l p) else if 0 ≤ (B (pdOf l p).ps (2 ^ l.length - 1)).2 then ((B (pdOf l p).ps (2 ^ l.length - 1)).2, true, 0) else (0, false, 0)

section
variable {D : Nat → Prop} {w : World} {A A' : Option Addr} {n m c d : Nat}
theorem c_pall {b g : Nat} {h : PH} {pd : PD} (hp : PlanAt w b g h pd) (hl : pd.truths.length ≤ 12) : CallZ Tryd.prog 27 #[ptr b] w (fun v w' => v = .int .i64 ((2 ^ pd.truths.length - 1 : Nat) : Int) ∧ w' = w) := by
  refine fn_rule (args := [ptr b]) Tryd.func27 (by kernel_rfl) ?_
  have hn := hp.truths.1
  refine fldA ?_
  refine ld (.slice h.A0 h.n0 h.c0) (hp.blk.cell rfl) ?_
  refine len ?_
  refine shl1 (fun q hq _ => ?_)
  rw [Int.toNat_natCast] at hq
  have hq0 : 0 < q := by rw [hq]; exact Nat.two_pow_pos _
  refine arN (q - 1) (by omega) (by omega) ?_
  refine ret1 (.int .i64 ((q - 1 : Nat) : Int)) rfl ⟨?_, rfl⟩
  rw [hq, hn]
theorem c_Check {l : List (List Int)} {p : List Pr} (hl : SlR tInts D w A n l) (hp : SlR tPr D w A' m p) : CallZ Tryd.prog 14 #[.slice A n c, .slice A' m d] w (fun v w' => v = .int .i64 (checkL l p) ∧ Ext w w') := by
  refine fn_rule (args := [.slice A n c, .slice A' m d]) Tryd.func14 (by kernel_rfl) ?_
  refine call_of (c_read hl hp) ?_
  rintro _ w1 ⟨hx, ⟨hne, rfl⟩ | ⟨heq, b, g, h, rfl, -⟩⟩
  · exact ret1 (.int .i64 (checkL l p)) rfl ⟨rfl, hx⟩
  · exact ret1 (.int .i64 0) rfl ⟨by rw [heq], hx⟩
theorem c_Next {l : List (List Int)} {p : List Pr} (hl : SlR tInts D w A n l) (hp : SlR tPr D w A' m p) : CallZ Tryd.prog 12 #[.slice A n c, .slice A' m d] w (fun v w' => v = .tuple #[.int .i64 (pnextL l p).1, .bool (pnextL l p).2.1, .int .i64 (pnextL l p).2.2] ∧ Ext w w') := by
  refine fn_rule (args := [.slice A n c, .slice A' m d]) Tryd.func12 (by kernel_rfl) ?_
  have hcv := checkL_val l p
  refine call_of (c_read hl hp) ?_
  rintro _ w1 ⟨hx, ⟨hne, rfl⟩ | ⟨heq, b, g, h, rfl, hb, hg, hpl, hm, hfc, hfs⟩⟩
  · refine cN (fun _ => ?_) (fun h => absurd h hne)
    refine ret3 (.int .i64 0) (.bool false) (.int .i64 (checkL l p)) rfl rfl rfl ⟨?_, hx⟩
    unfold pnextL; rw [if_pos hne]
  · obtain ⟨hN, hm12, hh, hpo⟩ := checkL_ok heq
    have hok := pdOk_of heq
    have htl : (pdOf l p).truths.length = l.length := by simp [pdOf]
    have hpow := two_pow_le hN
    have hp0 : 0 < 2 ^ l.length := Nat.two_pow_pos _
    refine cN (fun h => absurd rfl h) (fun _ => ?_)
    refine call_of (c_pall hpl (by omega)) ?_
    rintro _ w1 ⟨rfl, rfl⟩
    rw [htl]
    have hmo : MapOk w1 g (pdOf l p).ps := ⟨_, hm, fun _ _ h => nomatch h⟩
    refine call_of (c_choose hok (S := 2 ^ l.length - 1) (by omega) hpl hmo) ?_
    rintro _ w2 ⟨rfl, k2, m2⟩
    have hx2 : Ext w w2 := hx.then k2 (fun b hb _ e => by omega)
    refine alloc (fun r8 w3 h3 => ?_)
    refine stA (vs := [.int .i64 _, .int .i64 _]) h3.blk rfl (Nat.le_of_ble_eq_true rfl) (by simp [Value.oneCell']) (fun w4 hb4 k4 hz4 => ?_)
    have hb4 : Blk w4 r8 57 [.int .i64 _, .int .i64 _] := hb4
    have e3 := h3.at_
    have hz := hx2.size
    have hx4 : Ext w w4 := (hx2.trans h3.ext).then k4 (fun b hb _ e => by omega)
    refine fldA ?_
    refine ld _ (hb4.cell rfl) ?_
    have hR : pnextL l p = if 0 ≤ (B (pdOf l p).ps (2 ^ l.length - 1)).2 then ((B (pdOf l p).ps (2 ^ l.length - 1)).2, true, 0) else (0, false, 0) := by unfold pnextL; rw [if_neg (by omega)]
    refine cD (fun hge => ?_) (fun hlt => ?_)
    · refine fldA ?_
      refine ld _ (hb4.cell rfl) ?_
      refine ret3 (.int .i64 _) (.bool true) (.int .i64 0) rfl rfl rfl ⟨?_, hx4⟩
      rw [hR, if_pos (by omega)]
    · refine ret3 (.int .i64 0) (.bool false) (.int .i64 0) rfl rfl rfl ⟨?_, hx4⟩
      rw [hR, if_neg (by omega)]
theorem c_Best {l : List (List Int)} {p : List Pr} (hl : SlR tInts D w A n l) (hp : SlR tPr D w A' m p) (hT : TabW w) :
    CallZ Tryd.prog 10 #[.slice A n c, .slice A' m d] w (fun v w' => ∃ cs f, v = .tuple #[.agg cs.toArray, .int .i64 (pbestL l p).2.1, .int .i64 (pbestL l p).2.2] ∧ (tTr f).rep (fun b => w.heap.size ≤ b) w' cs (pbestL l p).1 ∧ f ≤ 4096 ∧ Ext w w') := by
  refine fn_rule (args := [.slice A n c, .slice A' m d]) Tryd.func10 (by kernel_rfl) ?_
  refine alloc (fun r4 w0 h0 => ?_)
  have e0 := h0.at_
  have s0 := h0.size
  have x0 := h0.ext
  refine call_of (c_read (hl.ext x0) (hp.ext x0)) ?_
  rintro _ w1 ⟨hx, ⟨hne, rfl⟩ | ⟨heq, b, g, h, rfl, hb, hg, hpl, hm, hfc, hfs⟩⟩
  · have b4 : Blk w1 r4 29 [.int .i64 0, .slice none 0 0, .slice none 0 0] := h0.blk.ext hx
    have e : pbestL l p = (.mk 0 [] [], 0, checkL l p) := by unfold pbestL; rw [if_pos hne]
    refine cN (fun _ => ?_) (fun h => absurd h hne)
    refine ldA [.int .i64 0, .slice none 0 0, .slice none 0 0] (.blk b4) rfl ?_
    refine stA (vs := [.int .i64 0, .slice none 0 0, .slice none 0 0]) b4 rfl (Nat.le_of_ble_eq_true rfl) (by simp [Value.oneCell']) (fun w2 hb2 k2 hz2 => ?_)
    have hb2 : Blk w2 r4 29 [.int .i64 0, .slice none 0 0, .slice none 0 0] := hb2
    refine ret ?_
    refine resL _ (holds_agg (.blk hb2) rfl) ?_
    exact ⟨_, 1, by rw [e]; rfl, by rw [e]; exact tr_leaf, by omega, (x0.trans hx).then k2 (fun b hb _ e => by omega)⟩
  · obtain ⟨hN, hm12, hh, hpo⟩ := checkL_ok heq
    have hok := pdOk_of heq
    have htl : (pdOf l p).truths.length = l.length := by simp [pdOf]
    have hpow := two_pow_le hN
    have hp0 : 0 < 2 ^ l.length := Nat.two_pow_pos _
    have e : pbestL l p = (ptree (pdOf l p).ps (2 ^ l.length) (2 ^ l.length - 1), (B (pdOf l p).ps (2 ^ l.length - 1)).1, 0) := by unfold pbestL; rw [if_neg (by omega)]
    refine cN (fun h => absurd rfl h) (fun _ => ?_)
    have b41 : Blk w1 r4 29 [.int .i64 0, .slice none 0 0, .slice none 0 0] := h0.blk.ext hx
    have hx1 := x0.trans hx
    have s1 := hx.size
    refine call_of (c_pall hpl (by omega)) ?_
    rintro _ w1 ⟨rfl, rfl⟩
    rw [htl]
    have hmo : MapOk w1 g (pdOf l p).ps := ⟨_, hm, fun _ _ h => nomatch h⟩
    have hT1 : TabW w1 := hT.ext hx1
    have ht1 : 1 < w.heap.size := by
      have := hT 0 _ rfl
      exact lt_of_cell this
    have env : PEnv w1 b g h (pdOf l p) := ⟨hpl, hmo, hT1, by omega⟩
    refine call_of (c_tree hok (2 ^ l.length) (2 ^ l.length - 1) (by omega) (by omega) w1 env) ?_
    rintro _ w2 ⟨cs, rfl, hr, k2, m2⟩
    have env2 := env.kept k2 m2
    have s2 := k2.size
    refine call_of (c_pall env2.plan (by omega)) ?_
    rintro _ w2 ⟨rfl, rfl⟩
    rw [htl]
    refine call_of (c_choose hok (S := 2 ^ l.length - 1) (by omega) env2.plan env2.map) ?_
    rintro _ w3 ⟨rfl, k3, m3⟩
    have s3 := k3.size
    refine fldV (cs := [.int .i64 _, .int .i64 _]) _ rfl ?_
    obtain ⟨ff, hff⟩ := tr_pos hr
    rw [hff] at hr
    have hgl := hm.lt
    obtain ⟨_, _, _, _, _, _, rfl, -⟩ := tr_open hr
    have b43 := (b41.kept k2 (by omega)).kept k3 (by omega)
    refine stA (vs := [_, _, _]) b43 rfl (Nat.le_of_ble_eq_true rfl) (by simp [Value.oneCell']) (fun w4 hb4 k4 hz4 => ?_)
    have hb4 : Blk w4 r4 29 [.int .i64 _, .slice _ _ _, .slice _ _ _] := hb4
    refine ret ?_
    refine resL _ (holds_agg (.blk hb4) rfl) ?_
    have hx4 : Ext w w4 := ((hx1.then k2 (fun b hb _ e => by omega)).then k3 (fun b hb _ e => by omega)).then k4 (fun b hb _ e => by omega)
    refine ⟨[_, _, _], ff + 1, by rw [e]; rfl, ?_, by omega, hx4⟩
    rw [e, hff]
    have r := (tTr (ff + 1)).kept ((tTr (ff + 1)).kept hr k3 (fun b _ h e => by omega)) k4 (fun b _ h e => by omega)
    exact (tTr (ff + 1)).more (fun b _ h => by omega) r
def pworthL (l : List (List Int)) (p : List Pr) (f : Nat) (t : Tr) : Int × Bool × Int :=
  if checkL l p ≠ 0 then (0, false, checkL l p) else if pworth (pdOf l p).ps f t (2 ^ l.length - 1) < 0 then (0, false, 0) else (pworth (pdOf l p).ps f t (2 ^ l.length - 1), true, 0)
theorem c_Worth {l : List (List Int)} {p : List Pr} {f : Nat} {t : Tr} {Dt : Nat → Prop} {cs : List Value} (hl : SlR tInts D w A n l) (hp : SlR tPr D w A' m p) (hT : TabW w) (ht : (tTr f).rep Dt w cs t) :
    CallZ Tryd.prog 17 #[.slice A n c, .slice A' m d, .agg cs.toArray] w (fun v w' => v = .tuple #[.int .i64 (pworthL l p f t).1, .bool (pworthL l p f t).2.1, .int .i64 (pworthL l p f t).2.2] ∧ Ext w w') := by
  obtain ⟨f, rfl⟩ := tr_pos ht
  obtain ⟨A5, n5, c5, A6, n6, c6, rfl, -⟩ := tr_open ht
  refine fn_rule (args := [.slice A n c, .slice A' m d, .agg #[.int .i64 t.probe, .slice A5 n5 c5, .slice A6 n6 c6]]) Tryd.func17 (by kernel_rfl) ?_
  refine box (fun r5 w0 h0 => ?_)
  have e0 := h0.at_
  have s0 := h0.size
  have x0 := h0.ext
  refine call_of (c_read (hl.ext x0) (hp.ext x0)) ?_
  rintro _ w1 ⟨hx, ⟨hne, rfl⟩ | ⟨heq, b, g, h, rfl, hb, hg, hpl, hm, hfc, hfs⟩⟩
  · refine cN (fun _ => ?_) (fun h => absurd h hne)
    refine ret3 (.int .i64 0) (.bool false) (.int .i64 (checkL l p)) rfl rfl rfl ⟨?_, x0.trans hx⟩
    unfold pworthL; rw [if_pos hne]
  · obtain ⟨hN, hm12, hh, hpo⟩ := checkL_ok heq
    have hok := pdOk_of heq
    have htl : (pdOf l p).truths.length = l.length := by simp [pdOf]
    have hpow := two_pow_le hN
    have hp0 : 0 < 2 ^ l.length := Nat.two_pow_pos _
    have hx1 := x0.trans hx
    have hcb : CellsAt w1 r5 0 [.int .i64 t.probe, .slice A5 n5 c5, .slice A6 n6 c6] := .blk (h0.blk.ext hx)
    refine cN (fun h => absurd rfl h) (fun _ => ?_)
    refine drawX [0, 1, 2, 3, 4, 5, 6, 7, 8, 9] [3, 4] mx (by kernel_rfl) ?_
    refine ldAX _ hcb rfl (.refl _ _) ?_
    refine call_of (c_pall hpl (by omega)) ?_
    rintro _ w1 ⟨rfl, rfl⟩
    rw [htl]
    refine strS (.refl _ _) ?_
    refine call_of (c_worth hok (f + 1) t (2 ^ l.length - 1) Dt [.int .i64 t.probe, .slice A5 n5 c5, .slice A6 n6 c6] w1 (by omega) hpl (hT.ext hx1) ((tTr (f + 1)).ext ht hx1)) ?_
    rintro _ w2 ⟨rfl, hx2⟩
    have hR : pworthL l p (f + 1) t = if pworth (pdOf l p).ps (f + 1) t (2 ^ l.length - 1) < 0 then (0, false, 0) else (pworth (pdOf l p).ps (f + 1) t (2 ^ l.length - 1), true, 0) := by unfold pworthL; rw [if_neg (by omega)]
    rcases Int.lt_or_le (pworth (pdOf l p).ps (f + 1) t (2 ^ l.length - 1)) 0 with hneg | hpos
    · rw [wval_neg hneg]
      refine strS hx2 ?_
      refine ret3 (.int .i64 0) (.bool false) (.int .i64 0) rfl rfl rfl ⟨?_, hx1.trans hx2⟩
      rw [hR, if_pos hneg]
    · rw [wval_pos hpos]
      refine strS hx2 ?_
      refine ret3 (.int .i64 _) (.bool true) (.int .i64 0) rfl rfl rfl ⟨?_, hx1.trans hx2⟩
      rw [hR, if_neg (by omega)]
end
end Go.Proofs.YtpmmhcgghldaaaaDoor
