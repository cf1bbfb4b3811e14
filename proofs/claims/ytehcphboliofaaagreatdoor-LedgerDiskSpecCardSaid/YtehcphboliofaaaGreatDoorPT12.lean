/- Parts of the proof: N2 N3 N4 N5 N6 N7 N8 N9 Na Nb Nc Nd. -/
import Derived.Test.YtehcphboliofaaaGreatDoorPT11
import Derived.Test.YtehcphboliofaaaGreatDoorPT10
namespace Go.Proofs.YtehcphboliofaaaGreatDoor
open Go Go.RowKit
theorem beB2 (g : Nat) : beB 2 g = [g / 256 % 256, g % 256] := by
  unfold beB; simp [List.range_succ, Nat.shiftRight_eq_div_pow]
theorem getB_4 {a b c d : Nat} (ha : a < 256) (hb : b < 256) (hc : c < 256) (hd : d < 256) : getB [a, b, c, d] = ((a * 256 + b) * 256 + c) * 256 + d := by
  unfold getB; simp only [List.foldl]; rw [get_step (n := 0) (c := a) (by omega) ha, get_step (n := 0 * 256 + a) (c := b) (by omega) hb, get_step (n := (0 * 256 + a) * 256 + b) (c := c) (by omega) hc, get_step (n := ((0 * 256 + a) * 256 + b) * 256 + c) (c := d) (by omega) hd]; omega
theorem getB_2 {a b : Nat} (ha : a < 256) (hb : b < 256) : getB [a, b] = a * 256 + b := by
  unfold getB; simp only [List.foldl]; rw [get_step (n := 0) (c := a) (by omega) ha, get_step (n := 0 * 256 + a) (c := b) (by omega) hb]; omega
theorem list4 {x : List Nat} (h : x.length = 4) : ∃ a b c d, x = [a, b, c, d] := by
  match x, h with
  | [a, b, c, d], _ => exact ⟨a, b, c, d, rfl⟩
theorem list2 {x : List Nat} (h : x.length = 2) : ∃ a b, x = [a, b] := by
  match x, h with
  | [a, b], _ => exact ⟨a, b, rfl⟩
theorem be4_iff {x : List Nat} (h : x.length = 4) (hx : ∀ y ∈ x, y < 256) {g : Nat} (hg : g < 4294967296) : x = beB 4 g ↔ getB x = g := by
  obtain ⟨a, b, c, d, rfl⟩ := list4 h; have ha := hx a (by simp); have hb := hx b (by simp); have hc := hx c (by simp); have hd := hx d (by simp); rw [getB_4 ha hb hc hd, beB4]; simp only [List.cons.injEq, and_true]; omega
theorem be2_iff {x : List Nat} (h : x.length = 2) (hx : ∀ y ∈ x, y < 256) {g : Nat} (hg : g < 65536) : x = beB 2 g ↔ getB x = g := by
  obtain ⟨a, b, rfl⟩ := list2 h; have ha := hx a (by simp); have hb := hx b (by simp); rw [getB_2 ha hb, beB2]; simp only [List.cons.injEq, and_true]; omega
structure Good5 (s : List Nat) (k : Nat) : Prop where
  g0 : getB (s.take 4) ≠ 0
  g1 : getB (s.take 4) = getB (s.drop 124)
  crc : getB ((s.drop 4).take 4) = crcL ((s.drop 8).take 116)
  num : getB ((s.drop 8).take 2) = k
  kind : at8 s 10 ≤ 3
  len : at8 s 11 ≤ 112
  full : ¬ (at8 s 10 < 2 ∧ at8 s 11 ≠ 112)
  some : ¬ (at8 s 10 % 2 = 0 ∧ at8 s 11 = 0)
  zero : ∀ i, 12 + at8 s 11 ≤ i → i < 124 → at8 s i = 0
theorem at8_get {s : List Nat} {i : Nat} (h : i < s.length) : s[i]? = some (at8 s i) := by
  unfold at8; rw [List.getD_eq_getElem?_getD, List.getElem?_eq_getElem h]
  rfl
theorem drop2 {s : List Nat} {i : Nat} (h : i < s.length) : s.drop i = at8 s i :: s.drop (i + 1) := by
  rw [List.drop_eq_getElem_cons h]
  congr 1
  have := at8_get h; rw [List.getElem?_eq_getElem h] at this; injection this
theorem good5_iff {s : List Nat} {k : Nat} (hl : s.length = 128) (hb : ∀ x ∈ s, x < 256) (hk : k < 65536) : goodP s k ↔ Good5 s k := by
  obtain ⟨kd, hkd⟩ : ∃ kd, kd = at8 s 10 := ⟨_, rfl⟩; obtain ⟨n, hn⟩ : ∃ n, n = at8 s 11 := ⟨_, rfl⟩; obtain ⟨p, hp⟩ : ∃ p, p = (s.drop 12).take n := ⟨_, rfl⟩; obtain ⟨g, hg⟩ : ∃ g, g = getB (s.take 4) := ⟨_, rfl⟩; have ht := fun (i j : Nat) (x : Nat) (h : x ∈ (s.drop i).take j) => hb x (List.mem_of_mem_drop (List.mem_of_mem_take h)); have ht4 := fun (x : Nat) (h : x ∈ s.take 4) => hb x (List.mem_of_mem_take h)
  have hg4 : g < 4294967296 := by rw [hg]; exact get4 ht4 (by rw [List.length_take]; omega)
  have h10 : at8 s 10 < 256 := hb _ (List.mem_of_getElem? (at8_get (by omega)))
  -- the sector in its parts
  have e1 : s = s.take 4 ++ ((s.drop 4).take 4 ++ ((s.drop 8).take 116 ++ s.drop 124)) := by
    have a1 : s.drop 8 = (s.drop 8).take 116 ++ s.drop 124 := by
      conv => lhs; rw [← List.take_append_drop 116 (s.drop 8)]
      rw [List.drop_drop]
    have a2 : s.drop 4 = (s.drop 4).take 4 ++ s.drop 8 := by
      conv => lhs; rw [← List.take_append_drop 4 (s.drop 4)]
      rw [List.drop_drop]
    rw [← a1, ← a2, List.take_append_drop]
  have e2 : (s.drop 8).take 116 = (s.drop 8).take 2 ++ (kd :: n :: (s.drop 12).take 112) := by
    have b1 : s.drop 8 = (s.drop 8).take 2 ++ s.drop 10 := by
      conv => lhs; rw [← List.take_append_drop 2 (s.drop 8)]
      rw [List.drop_drop]
    rw [b1, List.take_append, List.length_take, List.length_drop, show min 2 (s.length - 8) = 2 by omega, drop2 (i := 10) (by omega), drop2 (i := 11) (by omega), ← hkd, ← hn, List.take_of_length_le (l := (s.drop 8).take 2) (by rw [List.length_take]; omega)]; show _ ++ (kd :: n :: (s.drop 12).take 112) = _; rw [List.take_append_of_le_length (by rw [List.length_take, List.length_drop]; omega), List.take_take]
    rfl
  have hl4 : (s.take 4).length = 4 := by rw [List.length_take]; omega
  have hl44 : ((s.drop 4).take 4).length = 4 := by rw [List.length_take, List.length_drop]; omega
  have hl116 : ((s.drop 8).take 116).length = 116 := by rw [List.length_take, List.length_drop]; omega
  have hl124 : (s.drop 124).length = 4 := by rw [List.length_drop]; omega
  have hl2 : ((s.drop 8).take 2).length = 2 := by rw [List.length_take, List.length_drop]; omega
  have hl112 : ((s.drop 12).take 112).length = 112 := by rw [List.length_take, List.length_drop]; omega
  have hb124 : ∀ x ∈ s.drop 124, x < 256 := fun x h => hb x (List.mem_of_mem_drop h); have hcl : crcL ((s.drop 8).take 116) < 4294967296 := crcL_lt (ht 8 116)
  have hpl : n ≤ 112 → p.length = n := fun h => by rw [hp, List.length_take, List.length_drop]; omega
  have hrest : n ≤ 112 → ((s.drop 12).take 112 = p ++ List.replicate (112 - n) 0 ↔ ∀ i, 12 + n ≤ i → i < 124 → at8 s i = 0) := fun hn112 => by
    have hpl := hpl hn112; constructor
    · intro h i h1 h2
      have a1 : ((s.drop 12).take 112)[i - 12]? = some (at8 s i) := by
        rw [List.getElem?_take, if_pos (by omega), List.getElem?_drop, show 12 + (i - 12) = i by omega]; exact at8_get (by omega)
      rw [h, List.getElem?_append_right (by omega), List.getElem?_replicate_of_lt (by omega)] at a1; injection a1 with a1; exact a1.symm
    · intro h; refine List.ext_getElem? fun j => ?_
      by_cases hj : j < 112
      · rw [List.getElem?_take, if_pos hj]
        by_cases hjn : j < n
        · rw [List.getElem?_append_left (by omega), hp, List.getElem?_take, if_pos hjn]
        · rw [List.getElem?_append_right (by omega), List.getElem?_replicate_of_lt (by omega), List.getElem?_drop, at8_get (by omega), h (12 + j) (by omega) (by omega)]
      · rw [List.getElem?_eq_none (by omega), List.getElem?_eq_none (by rw [List.length_append, List.length_replicate]; omega)]
  have hbody : n ≤ 112 → ((s.drop 8).take 116 = bodyB k kd p ↔ getB ((s.drop 8).take 2) = k ∧ ∀ i, 12 + n ≤ i → i < 124 → at8 s i = 0) := fun hn112 => by
    have hpl := hpl hn112; rw [← hrest hn112, ← be2_iff hl2 (ht 8 2) hk, e2]; unfold bodyB; rw [hpl]; constructor
    · intro h; obtain ⟨h1, h2⟩ := List.append_inj h (by rw [hl2, beB_len]); simp only [List.cons_append, List.nil_append, List.cons.injEq, true_and] at h2; exact ⟨h1, h2⟩
    · rintro ⟨h1, h2⟩; rw [h1, h2]
      rfl
  have henc : n ≤ 112 → (s = encB g k kd p ↔ getB (s.drop 124) = g ∧ getB ((s.drop 4).take 4) = crcL ((s.drop 8).take 116) ∧ (s.drop 8).take 116 = bodyB k kd p) := fun hn112 => by
    rw [← be4_iff hl124 hb124 hg4, ← be4_iff hl44 (ht 4 4) hcl]; unfold encB; constructor
    · intro h; rw [e1] at h; obtain ⟨h1, h2⟩ := List.append_inj h (by rw [hl4, beB_len]); obtain ⟨h3, h4⟩ := List.append_inj h2 (by rw [hl44, beB_len]); obtain ⟨h5, h6⟩ := List.append_inj h4 (by rw [hl116, bodyB_len (by rw [hpl hn112]; exact hn112)]); exact ⟨h6, by rw [h5]; exact h3, h5⟩
    · rintro ⟨h6, h3, h5⟩; have h1 : s.take 4 = beB 4 g := (be4_iff hl4 ht4 hg4).2 hg.symm; rw [← h5, ← h3, ← h1]
      conv => lhs; rw [e1]
      rw [show s.take 4 = s.drop 124 from h1.trans h6.symm]
  have hbits : kd ≤ 3 → ((kd &&& 2 = 0 ↔ kd < 2) ∧ (kd &&& 1 = 0 ↔ kd % 2 = 0)) := fun h => by
    have : kd = 0 ∨ kd = 1 ∨ kd = 2 ∨ kd = 3 := by omega
    rcases this with h | h | h | h <;> rw [h] <;> decide
  unfold goodP; rw [← hn, ← hkd, ← hg, ← hp]; constructor
  · rintro ⟨h1, h2, h3, h4, h5, h6⟩; obtain ⟨q1, q2, q3⟩ := (henc h1).1 h6; obtain ⟨q4, q5⟩ := (hbody h1).1 q3; obtain ⟨t1, t2⟩ := hbits h2; exact ⟨by rw [← hg]; omega, by rw [← hg, q1], q2, q4, by rw [← hkd]; exact h2, by rw [← hn]; exact h1, by rw [← hkd, ← hn, ← t1]; exact fun q => h3 ⟨q.1, by omega⟩, by rw [← hkd, ← hn, ← t2]; exact h4, by rw [← hn]; exact q5⟩
  · intro h; have h1 := h.len; have h2 := h.kind; have h3 := h.full; have h4 := h.some; have h5 := h.g0; have h6 := h.g1; have h7 := h.zero; rw [← hn] at h1 h3 h4 h7; rw [← hkd] at h2 h3 h4; rw [← hg] at h5 h6; obtain ⟨t1, t2⟩ := hbits h2; exact ⟨h1, h2, fun q => h3 ⟨t1.1 q.1, by omega⟩, fun q => h4 ⟨t2.1 q.1, q.2⟩, by omega, (henc h1).2 ⟨h6.symm, h.crc, (hbody h1).2 ⟨h.num, h7⟩⟩⟩
section
variable {D : Nat → Prop} {w : World}
set_option maxRecDepth 8000 in
set_option maxHeartbeats 4000000 in
theorem c_r05good {A : Option Addr} {c k : Nat} {s : List Nat} (hs : SlR tU8 D w A 128 s) (hc : 128 ≤ c) (hk : k < 65536) : CallZ Tryz.prog 215 #[.slice A 128 c, iv (k : Int)] w (fun v w' => v = .bool (decide (goodP s k)) ∧ w' = w) := by
  have h128 : s.length = 128 := hs.len; have hb := hs.u8b; obtain ⟨b, o, cs0, x0, rfl, -⟩ := hs.at_ (k := 0) (by omega); refine fn_rule (args := [.slice (some (ad b o)) 128 c, iv (k : Int)]) Tryz.func215 (by kernel_rfl) ?_; obtain ⟨c10, l10⟩ := u8_cell hs (k := 10) (by omega); obtain ⟨c11, l11⟩ := u8_cell hs (k := 11) (by omega); have ht := fun (i j : Nat) (x : Nat) (h : x ∈ (s.drop i).take j) => hb x (List.mem_of_mem_drop (List.mem_of_mem_take h)); refine idx 11 rfl (by omega) ?_; refine ld (uv8 (at8 s 11)) c11 ?_; refine cvI (by omega) ?_; refine drawP (.take 0 (.take 1 (.take 2 (.take 3 (.take 4 (.take 5 (.take 6 (.take 7 (.take 8 (.take 9 (.take 10 (.take 11 (.take 12 (.take 13 (.take 14 (.take 15 (.take 16 (.take 17 (.take 18 (.take 19 (.take 20 (.take 21 (.take 22 (.take 23 (.take 24 (.take 25 (.take 26 (.take 27 (.take 28 (.take 29 (.take 30 (.take 31 (.take 32 (.take 33 (.take 34 (.take 35 (.take 36 (.take 37 (.take 38 (.take 39 (.take 40 (.take 41 (.take 42 (.take 43 (.take 44 (.take 45 (.take 46 (.take 47 (.take 48 (.take 49 (.take 50 (.take 51 (.take 52 (.take 53 (.take 54 (.take 55 (.take 56 (.take 57 (.take 58 (.take 59 (.take 60 (.take 61 .done)))))))))))))))))))))))))))))))))))))))))))))))))))))))))))))) [] (fun y => y = w) mx (by kernel_rfl) rfl ?_; refine slcR 0 4 hs hc rfl rfl (by omega) (by omega) rfl (fun A1 hA1 => ?_); have s1 := hA1 _ w hs; rw [List.drop_zero] at s1; refine callQ (fun y hy => by have hy : y = w := hy; rw [hy]; exact c_r05number s1 (by omega)) ?_; refine cE (fun a0 => ?_) (fun a0 => ?_)
  · exact ret1 (.bool false) rfl ⟨by rw [decide_eq_false (fun q => (fun g => g.g0 (by omega)) ((good5_iff h128 hb hk).1 q))], rfl⟩
  have a0 : getB (s.take 4) ≠ 0 := by omega
  refine slcR 0 4 hs hc rfl rfl (by omega) (by omega) rfl (fun A2 hA2 => ?_); have s2 := hA2 _ w hs; rw [List.drop_zero] at s2; refine callQ (fun y hy => by have hy : y = w := hy; rw [hy]; exact c_r05number s2 (by omega)) ?_; refine slcR 124 128 hs hc rfl rfl (by omega) (by omega) rfl (fun A3 hA3 => ?_); have s3 := hA3 _ w hs; rw [List.take_of_length_le (by omega)] at s3; refine callQ (fun y hy => by have hy : y = w := hy; rw [hy]; exact c_r05number s3 (by omega)) ?_; refine cN (fun a1 => ?_) (fun a1 => ?_)
  · exact ret1 (.bool false) rfl ⟨by rw [decide_eq_false (fun q => (fun g => a1 (by rw [g.g1])) ((good5_iff h128 hb hk).1 q))], rfl⟩
  have a1 : getB (s.take 4) = getB (s.drop 124) := by omega
  refine slcR 4 8 hs hc rfl rfl (by omega) (by omega) rfl (fun A4 hA4 => ?_); have s4 := hA4 _ w hs; rw [List.drop_take] at s4; refine callQ (fun y hy => by have hy : y = w := hy; rw [hy]; exact c_r05number s4 (by omega)) ?_; have g4 : getB ((s.drop 4).take (8 - 4)) < 4294967296 := get4 (ht 4 _) (by rw [List.length_take]; omega); refine cv32 (getB ((s.drop 4).take (8 - 4))) rfl ?_; rw [Nat.mod_eq_of_lt g4]; refine slcR 8 124 hs hc rfl rfl (by omega) (by omega) rfl (fun A5 hA5 => ?_); have s5 := hA5 _ w hs; rw [List.drop_take] at s5; refine callQ (fun y hy => by have hy : y = w := hy; rw [hy]; exact c_r05checksum s5) ?_; refine cN (fun a2 => ?_) (fun a2 => ?_)
  · exact ret1 (.bool false) rfl ⟨by rw [decide_eq_false (fun q => (fun g => a2 (by have := g.crc; exact congrArg _ this)) ((good5_iff h128 hb hk).1 q))], rfl⟩
  have a2 : getB ((s.drop 4).take 4) = crcL ((s.drop 8).take 116) := by
    have a2 : ((getB ((s.drop 4).take (8 - 4)) : Nat) : Int) = ((crcL ((s.drop 8).take (124 - 8)) : Nat) : Int) := a2; exact Int.ofNat.inj a2
  refine slcR 8 10 hs hc rfl rfl (by omega) (by omega) rfl (fun A6 hA6 => ?_); have s6 := hA6 _ w hs; rw [List.drop_take] at s6; refine callQ (fun y hy => by have hy : y = w := hy; rw [hy]; exact c_r05number s6 (by omega)) ?_; refine cv64 k rfl ?_; rw [Nat.mod_eq_of_lt (show k < 18446744073709551616 by omega)]; refine cN (fun a3 => ?_) (fun a3 => ?_)
  · exact ret1 (.bool false) rfl ⟨by rw [decide_eq_false (fun q => (fun g => a3 (by have := g.num; exact congrArg _ this)) ((good5_iff h128 hb hk).1 q))], rfl⟩
  have a3 : getB ((s.drop 8).take 2) = k := by
    have a3 : ((getB ((s.drop 8).take (10 - 8)) : Nat) : Int) = ((k : Nat) : Int) := a3; exact Int.ofNat.inj a3
  refine idx 10 rfl (by omega) ?_; refine ld (uv8 (at8 s 10)) c10 ?_; refine cD (fun a4 => ?_) (fun a4 => ?_)
  · exact ret1 (.bool false) rfl ⟨by rw [decide_eq_false (fun q => (fun g => by have := g.kind; omega) ((good5_iff h128 hb hk).1 q))], rfl⟩
  have a4 : at8 s 10 ≤ 3 := by omega
  refine cD (fun a5 => ?_) (fun a5 => ?_)
  · exact ret1 (.bool false) rfl ⟨by rw [decide_eq_false (fun q => (fun g => by have := g.len; omega) ((good5_iff h128 hb hk).1 q))], rfl⟩
  have a5 : at8 s 11 ≤ 112 := by omega
  refine idx 10 rfl (by omega) ?_; refine ld (uv8 (at8 s 10)) c10 ?_; refine cD (fun a6 => ?_) (fun a6 => ?_)
  · refine cN (fun a7 => ?_) (fun a7 => ?_)
    · exact ret1 (.bool false) rfl ⟨by rw [decide_eq_false (fun q => (fun g => g.full ⟨by omega, by omega⟩) ((good5_iff h128 hb hk).1 q))], rfl⟩
    refine idx 10 rfl (by omega) ?_; refine ld (uv8 (at8 s 10)) c10 ?_; refine remI (by omega) (by omega) ?_; refine cE (fun a8 => ?_) (fun a8 => ?_)
    · refine cE (fun a9 => absurd a9 (by omega)) (fun a9 => ?_); refine arI (n := 12 + (at8 s 11 : Int)) (by omega) ?_; refine loop_rule (fun j : Nat => [(6, iv ((12 + at8 s 11 + j : Nat) : Int))]) (fun j u => 12 + at8 s 11 + j ≤ 124 ∧ w = u ∧ ∀ i, 12 + at8 s 11 ≤ i → i < 12 + at8 s 11 + j → at8 s i = 0) (fun j _ => 124 - j) 0 ⟨rfl, trivial⟩ ⟨by omega, rfl, fun i h1 h2 => by omega⟩ rfl ?_; rintro G j u ⟨hj, rfl, hz⟩; refine cD (fun hlt => ?_) (fun hge => ?_)
      · obtain ⟨cj, lj⟩ := u8_cell hs (k := 12 + at8 s 11 + j) (by omega); refine idx (12 + at8 s 11 + j) rfl (by omega) ?_; refine ld (uv8 (at8 s (12 + at8 s 11 + j))) cj ?_; refine cN (fun hne => ?_) (fun heq => ?_)
        · exact ret1 (.bool false) rfl ⟨by rw [decide_eq_false (fun q => (fun g => hne (by rw [g.zero (12 + at8 s 11 + j) (by omega) (by omega)]; rfl)) ((good5_iff h128 hb hk).1 q))], rfl⟩
        · refine arI (n := ((12 + at8 s 11 + j : Nat) : Int) + 1) (by omega) ?_; refine next (j + 1) ⟨by show iv (((12 + at8 s 11 + j : Nat) : Int) + 1) = iv ((12 + at8 s 11 + (j + 1) : Nat) : Int); rw [← Nat.add_assoc, Int.natCast_add (12 + at8 s 11 + j) 1]; rfl, trivial⟩ ⟨by omega, rfl, fun i h1 h2 => ?_⟩ (by omega)
          by_cases hi : i = 12 + at8 s 11 + j
          · rw [hi]; omega
          · exact hz i h1 (by omega)
      · refine ret1 (.bool true) rfl ⟨?_, rfl⟩; rw [decide_eq_true ((good5_iff h128 hb hk).2 ⟨a0, a1, a2, a3, a4, a5, (fun q => q.2 (by omega)), (fun q => by omega), fun i h1 h2 => hz i h1 (by omega)⟩)]
    · refine arI (n := 12 + (at8 s 11 : Int)) (by omega) ?_; refine loop_rule (fun j : Nat => [(6, iv ((12 + at8 s 11 + j : Nat) : Int))]) (fun j u => 12 + at8 s 11 + j ≤ 124 ∧ w = u ∧ ∀ i, 12 + at8 s 11 ≤ i → i < 12 + at8 s 11 + j → at8 s i = 0) (fun j _ => 124 - j) 0 ⟨rfl, trivial⟩ ⟨by omega, rfl, fun i h1 h2 => by omega⟩ rfl ?_; rintro G j u ⟨hj, rfl, hz⟩; refine cD (fun hlt => ?_) (fun hge => ?_)
      · obtain ⟨cj, lj⟩ := u8_cell hs (k := 12 + at8 s 11 + j) (by omega); refine idx (12 + at8 s 11 + j) rfl (by omega) ?_; refine ld (uv8 (at8 s (12 + at8 s 11 + j))) cj ?_; refine cN (fun hne => ?_) (fun heq => ?_)
        · exact ret1 (.bool false) rfl ⟨by rw [decide_eq_false (fun q => (fun g => hne (by rw [g.zero (12 + at8 s 11 + j) (by omega) (by omega)]; rfl)) ((good5_iff h128 hb hk).1 q))], rfl⟩
        · refine arI (n := ((12 + at8 s 11 + j : Nat) : Int) + 1) (by omega) ?_; refine next (j + 1) ⟨by show iv (((12 + at8 s 11 + j : Nat) : Int) + 1) = iv ((12 + at8 s 11 + (j + 1) : Nat) : Int); rw [← Nat.add_assoc, Int.natCast_add (12 + at8 s 11 + j) 1]; rfl, trivial⟩ ⟨by omega, rfl, fun i h1 h2 => ?_⟩ (by omega)
          by_cases hi : i = 12 + at8 s 11 + j
          · rw [hi]; omega
          · exact hz i h1 (by omega)
      · refine ret1 (.bool true) rfl ⟨?_, rfl⟩; rw [decide_eq_true ((good5_iff h128 hb hk).2 ⟨a0, a1, a2, a3, a4, a5, (fun q => q.2 (by omega)), (fun q => by omega), fun i h1 h2 => hz i h1 (by omega)⟩)]
  · refine idx 10 rfl (by omega) ?_; refine ld (uv8 (at8 s 10)) c10 ?_; refine remI (by omega) (by omega) ?_; refine cE (fun a8 => ?_) (fun a8 => ?_)
    · refine cE (fun a9 => ?_) (fun a9 => ?_)
      · exact ret1 (.bool false) rfl ⟨by rw [decide_eq_false (fun q => (fun g => g.some ⟨by omega, by omega⟩) ((good5_iff h128 hb hk).1 q))], rfl⟩
      refine arI (n := 12 + (at8 s 11 : Int)) (by omega) ?_; refine loop_rule (fun j : Nat => [(6, iv ((12 + at8 s 11 + j : Nat) : Int))]) (fun j u => 12 + at8 s 11 + j ≤ 124 ∧ w = u ∧ ∀ i, 12 + at8 s 11 ≤ i → i < 12 + at8 s 11 + j → at8 s i = 0) (fun j _ => 124 - j) 0 ⟨rfl, trivial⟩ ⟨by omega, rfl, fun i h1 h2 => by omega⟩ rfl ?_; rintro G j u ⟨hj, rfl, hz⟩; refine cD (fun hlt => ?_) (fun hge => ?_)
      · obtain ⟨cj, lj⟩ := u8_cell hs (k := 12 + at8 s 11 + j) (by omega); refine idx (12 + at8 s 11 + j) rfl (by omega) ?_; refine ld (uv8 (at8 s (12 + at8 s 11 + j))) cj ?_; refine cN (fun hne => ?_) (fun heq => ?_)
        · exact ret1 (.bool false) rfl ⟨by rw [decide_eq_false (fun q => (fun g => hne (by rw [g.zero (12 + at8 s 11 + j) (by omega) (by omega)]; rfl)) ((good5_iff h128 hb hk).1 q))], rfl⟩
        · refine arI (n := ((12 + at8 s 11 + j : Nat) : Int) + 1) (by omega) ?_; refine next (j + 1) ⟨by show iv (((12 + at8 s 11 + j : Nat) : Int) + 1) = iv ((12 + at8 s 11 + (j + 1) : Nat) : Int); rw [← Nat.add_assoc, Int.natCast_add (12 + at8 s 11 + j) 1]; rfl, trivial⟩ ⟨by omega, rfl, fun i h1 h2 => ?_⟩ (by omega)
          by_cases hi : i = 12 + at8 s 11 + j
          · rw [hi]; omega
          · exact hz i h1 (by omega)
      · refine ret1 (.bool true) rfl ⟨?_, rfl⟩; rw [decide_eq_true ((good5_iff h128 hb hk).2 ⟨a0, a1, a2, a3, a4, a5, (fun q => by omega), (fun q => by omega), fun i h1 h2 => hz i h1 (by omega)⟩)]
    · refine arI (n := 12 + (at8 s 11 : Int)) (by omega) ?_; refine loop_rule (fun j : Nat => [(6, iv ((12 + at8 s 11 + j : Nat) : Int))]) (fun j u => 12 + at8 s 11 + j ≤ 124 ∧ w = u ∧ ∀ i, 12 + at8 s 11 ≤ i → i < 12 + at8 s 11 + j → at8 s i = 0) (fun j _ => 124 - j) 0 ⟨rfl, trivial⟩ ⟨by omega, rfl, fun i h1 h2 => by omega⟩ rfl ?_; rintro G j u ⟨hj, rfl, hz⟩; refine cD (fun hlt => ?_) (fun hge => ?_)
      · obtain ⟨cj, lj⟩ := u8_cell hs (k := 12 + at8 s 11 + j) (by omega); refine idx (12 + at8 s 11 + j) rfl (by omega) ?_; refine ld (uv8 (at8 s (12 + at8 s 11 + j))) cj ?_; refine cN (fun hne => ?_) (fun heq => ?_)
        · exact ret1 (.bool false) rfl ⟨by rw [decide_eq_false (fun q => (fun g => hne (by rw [g.zero (12 + at8 s 11 + j) (by omega) (by omega)]; rfl)) ((good5_iff h128 hb hk).1 q))], rfl⟩
        · refine arI (n := ((12 + at8 s 11 + j : Nat) : Int) + 1) (by omega) ?_; refine next (j + 1) ⟨by show iv (((12 + at8 s 11 + j : Nat) : Int) + 1) = iv ((12 + at8 s 11 + (j + 1) : Nat) : Int); rw [← Nat.add_assoc, Int.natCast_add (12 + at8 s 11 + j) 1]; rfl, trivial⟩ ⟨by omega, rfl, fun i h1 h2 => ?_⟩ (by omega)
          by_cases hi : i = 12 + at8 s 11 + j
          · rw [hi]; omega
          · exact hz i h1 (by omega)
      · refine ret1 (.bool true) rfl ⟨?_, rfl⟩; rw [decide_eq_true ((good5_iff h128 hb hk).2 ⟨a0, a1, a2, a3, a4, a5, (fun q => by omega), (fun q => by omega), fun i h1 h2 => hz i h1 (by omega)⟩)]
end
def secR (s : List Nat) (n : Nat) (cur : Option (Nat × List Nat)) : Prop := goodP s n ∧ (at8 s 10 &&& 1 ≠ 0 ↔ cur = none) ∧ genS s = curG cur s
instance (s : List Nat) (n : Nat) (cur : Option (Nat × List Nat)) : Decidable (secR s n cur) := by
  unfold secR
  cases cur <;> infer_instance
def recP : List (List Nat) → Nat → Option (Nat × List Nat) → Option (List Nat × Nat)
  | [], _, _ => none
  | s :: r, n, cur => if secR s n cur then (if at8 s 10 &&& 2 ≠ 0 then some (curB cur ++ pieceB s, n + 1) else recP r (n + 1) (some (curG cur s, curB cur ++ pieceB s))) else none
theorem secOk_R {s : List Nat} {n last : Nat} {cur : Option (Nat × List Nat)} : secOk s n cur last ↔ secR s n cur ∧ last ≤ genS s := by
  unfold secOk secR; constructor
  · rintro ⟨a, b, c, d⟩; exact ⟨⟨a, b, c⟩, d⟩
  · rintro ⟨⟨a, b, c⟩, d⟩; exact ⟨a, b, c, d⟩
theorem recP_lt : ∀ {l : List (List Nat)} {n : Nat} {cur : Option (Nat × List Nat)} {b : List Nat} {m : Nat}, recP l n cur = some (b, m) → n < m ∧ m ≤ n + l.length
  | [], _, _, _, _, h => by cases h
  | s :: r, n, cur, b, m, h => by
    unfold recP at h
    rw [List.length_cons]
    split at h
    · split at h
      · injection h with h; injection h with _ h; omega
      · have := recP_lt h; omega
    · cases h
theorem recG_cons (s : List Nat) (r : List (List Nat)) (n : Nat) (cur : Option (Nat × List Nat)) (last : Nat) : recG (s :: r) n cur last = if secOk s n cur last then (if at8 s 10 &&& 2 ≠ 0 then (n + 1, curB cur ++ pieceB s) :: recG r (n + 1) none (genS s) else recG r (n + 1) (some (curG cur s, curB cur ++ pieceB s)) last) else [] := by rw [recG]
theorem recP_cons (s : List Nat) (r : List (List Nat)) (n : Nat) (cur : Option (Nat × List Nat)) : recP (s :: r) n cur = if secR s n cur then (if at8 s 10 &&& 2 ≠ 0 then some (curB cur ++ pieceB s, n + 1) else recP r (n + 1) (some (curG cur s, curB cur ++ pieceB s))) else none := by rw [recP]
theorem recG_some : ∀ (l : List (List Nat)) (n g last : Nat) (b0 : List Nat), last ≤ g → recG l n (some (g, b0)) last = match recP l n (some (g, b0)) with | some (b, m) => (m, b) :: recG (l.drop (m - n)) m none g | none => []
  | [], n, g, last, b0, _ => rfl
  | s :: r, n, g, last, b0, hg => by
    rw [recG_cons, recP_cons]
    by_cases h : secR s n (some (g, b0))
    · have hgs : genS s = g := h.2.2
      rw [if_pos (secOk_R.2 ⟨h, by omega⟩), if_pos h]
      by_cases h2 : at8 s 10 &&& 2 ≠ 0
      · rw [if_pos h2, if_pos h2]
        dsimp only
        rw [hgs, Nat.add_sub_cancel_left]
        rfl
      · rw [if_neg h2, if_neg h2]
        have hcg : curG (some (g, b0)) s = g := rfl
        rw [hcg, recG_some r (n + 1) g last _ hg]
        cases hq : recP r (n + 1) (some (g, curB (some (g, b0)) ++ pieceB s)) with
        | none => rfl
        | some p =>
          obtain ⟨b, m⟩ := p
          have := recP_lt hq
          dsimp only
          rw [show m - n = (m - (n + 1)) + 1 by omega]
          rfl
    · rw [if_neg (fun q => h (secOk_R.1 q).1), if_neg h]
theorem recG_none {l : List (List Nat)} {n last : Nat} : recG l n none last = match recP l n none with | some (b, m) => if last ≤ genS (l.getD 0 []) then (m, b) :: recG (l.drop (m - n)) m none (genS (l.getD 0 [])) else [] | none => [] := by
  cases l with
  | nil => rfl
  | cons s r =>
    show recG (s :: r) n none last = match recP (s :: r) n none with | some (b, m) => if last ≤ genS s then (m, b) :: recG ((s :: r).drop (m - n)) m none (genS s) else [] | none => []
    rw [recG_cons, recP_cons]
    by_cases h : secR s n none
    · rw [if_pos h]
      by_cases hl : last ≤ genS s
      · rw [if_pos (secOk_R.2 ⟨h, hl⟩)]
        by_cases h2 : at8 s 10 &&& 2 ≠ 0
        · rw [if_pos h2, if_pos h2]
          dsimp only
          rw [if_pos hl, Nat.add_sub_cancel_left]
          rfl
        · rw [if_neg h2, if_neg h2]; have hcg : curG none s = genS s := rfl; rw [hcg, recG_some r (n + 1) (genS s) last _ hl]
          cases hq : recP r (n + 1) (some (genS s, curB none ++ pieceB s)) with
          | none => rfl
          | some p =>
            obtain ⟨b, m⟩ := p; have := recP_lt hq
            dsimp only
            rw [if_pos hl, show m - n = (m - (n + 1)) + 1 by omega]
            rfl
      · rw [if_neg (fun q => hl (secOk_R.1 q).2)]
        split
        · rw [if_neg hl]
        · rfl
    · rw [if_neg (fun q => h (secOk_R.1 q).1), if_neg h]
theorem kind_bits {kd : Nat} (h : kd ≤ 3) : (kd &&& 2 = 0 ↔ kd < 2) ∧ (kd &&& 1 = 0 ↔ kd % 2 = 0) := by
  have : kd = 0 ∨ kd = 1 ∨ kd = 2 ∨ kd = 3 := by omega
  rcases this with h | h | h | h <;> rw [h] <;> decide
def RecA (w w' : World) (v : Value) (at_ : Nat) (r : Option (List Nat × Nat)) : Prop := match r with
  | some (b, m) => ∃ B k d, v = .tuple #[.slice B k d, iv ((m - at_ : Nat) : Int)] ∧ OwnF w w' B k d 5 1 (u8s b)
  | none => v = .tuple #[.slice none 0 0, iv 0]
def curO (k : Nat) (s0 : List Nat) (ob : List Nat) : Option (Nat × List Nat) := match k with | 0 => none | _ + 1 => some (genS s0, ob)
theorem curB_O {k : Nat} {s0 ob : List Nat} (h : k = 0 → ob = []) : curB (curO k s0 ob) = ob := by
  cases k with
  | zero => exact (h rfl).symm
  | succ k => rfl
section
variable {D : Nat → Prop} {w : World}
set_option maxRecDepth 8000 in
set_option maxHeartbeats 4000000 in
theorem c_r05record {A : Option Addr} {n c a : Nat} {l : List (List Nat)} (hs : SlR (tSl tU8) D w A n l) (h128 : ∀ s ∈ l, s.length = 128) (hn : n ≤ 5000) (ha : a ≤ n) :
    CallZ Tryz.prog 166 #[.slice A n c, iv (a : Int)] w (fun v w' => Ext w w' ∧ RecA w w' v a (recP (l.drop a) a none)) := by
  have hln := hs.len; have hs := hs.more (D' := fun b => b < w.heap.size) (by decide) fun b hb _ => hb; refine fn_rule (args := [.slice A n c, iv (a : Int)]) Tryz.func166 (by kernel_rfl) ?_; refine lit [] (fun g w1 h1 => ?_); have o1 : OwnF w w1 (some (ad g 0)) 0 0 5 1 [] := OwnF.lit (cs := []) (.refl _ _) h1 rfl; obtain ⟨s0, hs0⟩ : ∃ s0, s0 = l.getD a [] := ⟨_, rfl⟩; refine loop4 (fun (k : Nat) (B : Option Addr) (m d : Nat) => [(6, .slice B m d), (7, iv (k : Int))]) (fun k B m d u => a + k ≤ n ∧ ∃ ob, OwnF w u B m d 5 1 (u8s ob) ∧ recP (l.drop a) a none = recP (l.drop (a + k)) (a + k) (curO k s0 ob) ∧ ob.length ≤ 116 * k ∧ (k = 0 → ob = [])) (fun k _ _ _ _ => n - k) 0 (some (ad g 0)) 0 0 ⟨rfl, rfl, trivial⟩ ⟨by omega, [], o1, rfl, Nat.zero_le _, fun _ => rfl⟩ rfl ?_; rintro G k B m d u ⟨hk, ob, own, hrec, hobl, hk0⟩; have own : OwnF w u B m d 5 1 (u8s ob) := own
  have hm : m = ob.length := by have := own.own.len; rw [List.length_map] at this; omega
  have xu := own.ext; have hsu := hs.ext xu
  have hBn : ∀ i, i < w.heap.size → B ≠ some (ad i 0) := fun i hi e => by have := own.new i e; omega
  refine arI (n := (a : Int) + (k : Int)) (by omega) ?_; refine len ?_; refine cD (fun hlt => ?_) (fun hge => ?_)
  · obtain ⟨bx, o, cs, s, hA, hx, hdr, -, hc, A2, n2, c2, rfl, hs2, hc2⟩ := hsu.at_ (k := a + k) (by omega); subst hA; have hs128 := h128 s (List.mem_of_getElem? hx)
    have hn2 : n2 = 128 := by have := hs2.len; omega
    subst hn2; refine arI (n := (a : Int) + (k : Int)) (by omega) ?_; refine idx (a + k) (by omega) (by omega) ?_; refine ld (.slice A2 128 c2) (hc 0 _ rfl) ?_; obtain ⟨bs, os, csx, x0, rfl, -⟩ := hs2.at_ (k := 0) (by omega); obtain ⟨c10, l10⟩ := u8_cell hs2 (k := 10) (by omega); obtain ⟨c11, l11⟩ := u8_cell hs2 (k := 11) (by omega); refine drawP (.take 0 (.take 1 (.take 2 (.take 3 (.take 4 (.take 5 (.take 6 (.take 7 (.take 8 (.take 9 (.take 10 (.take 11 (.take 12 (.take 13 (.take 14 (.take 15 (.take 16 (.take 17 (.take 18 (.take 19 (.take 20 (.take 21 (.take 22 (.take 23 (.take 24 (.take 25 (.take 26 (.take 27 (.take 28 (.take 29 (.take 30 (.take 31 .done)))))))))))))))))))))))))))))))) [] (fun y => y = u) mx (by kernel_rfl) rfl ?_; refine arI (n := ((a + k : Nat) : Int)) (by omega) ?_; refine callQB (b := decide (goodP s (a + k))) (fun y hy => by have hy : y = u := hy; rw [hy]; exact c_r05good hs2 hc2 (by omega)) (fun hgood => ?_) (fun hgood => ?_); rotate_left
    · refine ret2 (.slice none 0 0) (iv 0) rfl rfl ⟨xu, ?_⟩; rw [hrec, hdr, recP_cons, if_neg (fun q => (of_decide_eq_false hgood) q.1)]
      rfl
    have hgP := of_decide_eq_true hgood; have hkb1 := (kind_bits hgP.2.1).2; refine idx 10 rfl (by omega) ?_; refine ld (uv8 (at8 s 10)) c10 ?_; refine remI (by omega) (by omega) ?_; refine cE (fun e1 => ?_) (fun e1 => ?_)
    · refine cE (fun e2 => ?_) (fun e2 => ?_)
      · refine neB (fun h => absurd rfl h) (fun _ => ?_); refine cD (fun h => absurd h (by omega)) (fun _ => ?_)
        have hk00 : k = 0 := by omega
        subst hk00
        have hgen : genS s = genS s0 := by
          rw [hs0, List.getD_eq_getElem?_getD, show l[a]? = some s from hx]; rfl
        have hg := of_decide_eq_true hgood; have hsR : secR s (a + (0)) (curO (0) s0 ob) := ⟨hg, ⟨fun _ => rfl, fun _ => by rw [Ne, hkb1]; omega⟩, rfl⟩; refine idx 11 rfl (by omega) ?_; refine ld (uv8 (at8 s 11)) c11 ?_; refine cvI (by omega) ?_; refine arI (n := 12 + (at8 s 11 : Int)) (by omega) ?_; have h112 := hg.1; refine slcR 12 (12 + at8 s 11) hs2 hc2 rfl (by show 12 + (at8 s 11 : Int) = ((12 + at8 s 11 : Nat) : Int); omega) (by omega) (by omega) rfl (fun A8 hA8 => ?_); have s8 := hA8 _ u hs2; rw [List.drop_take, Nat.add_sub_cancel_left] at s8; rw [Nat.add_sub_cancel_left]; refine appF own s8.u8src (by omega) (fun B' d' u2 own2 k2 hB => ?_) (h1 := u8s_one _)
        have own2 : OwnF w u2 B' (m + at8 s 11) d' 5 1 (u8s (ob ++ pieceB s)) := by
          have e : u8s (ob ++ pieceB s) = u8s ob ++ u8s (pieceB s) := List.map_append; rw [e]; exact own2
        have hok10 : u2.cell? (ad bs (os + 10 * 1)) = some (uv8 (at8 s 10)) := (u8_cell (hs2.kept k2 fun i hi h => hBn i h) (k := 10) (by omega)).1; have hob : ob = curB (curO (0) s0 ob) := (curB_O hk0).symm; refine idx 10 rfl (by omega) ?_; refine ld (uv8 (at8 s 10)) hok10 ?_; have hkb := (kind_bits hg.2.1).1; refine cD (fun h2 => ?_) (fun h2 => ?_)
        · refine arI (n := (((0) : Nat) : Int) + 1) (by omega) ?_; refine ret2 (.slice B' (m + at8 s 11) d') (iv ((((0) : Nat) : Int) + 1)) rfl rfl ⟨own2.ext, ?_⟩; rw [hrec, hdr, recP_cons, if_pos hsR, if_pos (by rw [Ne, hkb]; omega), ← hob]; refine ⟨B', m + at8 s 11, d', ?_, own2⟩; rw [show ((a + (0) + 1 - a : Nat) : Int) = (((0) : Nat) : Int) + 1 by omega]
        · refine arI (n := (((0) : Nat) : Int) + 1) (by omega) ?_; refine next4 ((0) + 1) B' (m + at8 s 11) d' ⟨rfl, by rw [Int.natCast_add]; rfl, trivial⟩ ⟨by omega, ob ++ pieceB s, own2, ?_, by rw [List.length_append]; unfold pieceB; rw [List.length_take, List.length_drop, hs128]; omega, fun h => by omega⟩ (by omega); rw [hrec, hdr, recP_cons, if_pos hsR, if_neg (by rw [Ne, hkb]; omega), ← hob]; show recP (l.drop (a + (0) + 1)) (a + (0) + 1) (some (curG (curO (0) s0 ob) s, ob ++ pieceB s)) = recP (l.drop (a + ((0) + 1))) (a + ((0) + 1)) (some (genS s0, ob ++ pieceB s)); rw [← hsR.2.2, hgen]
          try rfl
      · refine neB (fun _ => ?_) (fun h => by cases h); obtain ⟨k', rfl⟩ : ∃ k', k = k' + 1 := ⟨k - 1, by omega⟩; refine ret2 (.slice none 0 0) (iv 0) rfl rfl ⟨xu, ?_⟩; rw [hrec, hdr, recP_cons, if_neg (fun q => by have := q.2.1.1 (by rw [Ne, hkb1]; omega); cases this)]
        rfl
    · refine cE (fun e2 => ?_) (fun e2 => ?_)
      · refine neB (fun _ => ?_) (fun h => by cases h)
        have hk00 : k = 0 := by omega
        subst hk00; refine ret2 (.slice none 0 0) (iv 0) rfl rfl ⟨xu, ?_⟩; rw [hrec, hdr, recP_cons, if_neg (fun q => (q.2.1.2 rfl) (by rw [hkb1]; omega))]
        rfl
      · refine neB (fun h => absurd rfl h) (fun _ => ?_); refine cD (fun _ => ?_) (fun h => absurd h (by omega)); obtain ⟨k', rfl⟩ : ∃ k', k = k' + 1 := ⟨k - 1, by omega⟩; obtain ⟨bx', o', cs', s', hA', hx', -, -, hc', A3, n3, c3, rfl, hs3, hc3⟩ := hsu.at_ (k := a) (by omega); injection hA' with hA'; injection hA' with q1 q2; subst q1; subst q2
        have hs'0 : s' = s0 := by rw [hs0, List.getD_eq_getElem?_getD, hx']; rfl
        subst hs'0
        have hn3 : n3 = 128 := by have h1 := hs3.len; have h2 := h128 s' (List.mem_of_getElem? hx'); omega
        subst hn3; refine slcR 0 4 hs2 hc2 rfl rfl (by omega) (by omega) rfl (fun A4 hA4 => ?_); have s4 := hA4 _ u hs2; rw [List.drop_zero] at s4; refine callQ (fun y hy => by have hy : y = u := hy; rw [hy]; exact c_r05number s4 (by omega)) ?_; refine idx a rfl (by omega) ?_; refine ld (.slice A3 128 c3) (hc' 0 _ rfl) ?_; refine slcR 0 4 hs3 hc3 rfl rfl (by omega) (by omega) rfl (fun A5 hA5 => ?_); have s5 := hA5 _ u hs3; rw [List.drop_zero] at s5; refine callQ (fun y hy => by have hy : y = u := hy; rw [hy]; exact c_r05number s5 (by omega)) ?_; refine cN (fun hne => ?_) (fun heq => ?_)
        · refine ret2 (.slice none 0 0) (iv 0) rfl rfl ⟨xu, ?_⟩; rw [hrec, hdr, recP_cons, if_neg (fun q => hne (by have := q.2.2; exact congrArg _ (show getB (s.take 4) = getB (s'.take 4) from this)))]
          rfl
        · have hgen : genS s = genS s' := by
            have heq : ((getB (s.take 4) : Nat) : Int) = ((getB (s'.take 4) : Nat) : Int) := heq; exact Int.ofNat.inj heq
          have hg := of_decide_eq_true hgood; have hsR : secR s (a + (k' + 1)) (curO (k' + 1) s' ob) := ⟨hg, ⟨fun h => absurd (hkb1.2 (by omega)) h, fun h => by cases h⟩, hgen⟩; refine idx 11 rfl (by omega) ?_; refine ld (uv8 (at8 s 11)) c11 ?_; refine cvI (by omega) ?_; refine arI (n := 12 + (at8 s 11 : Int)) (by omega) ?_; have h112 := hg.1; refine slcR 12 (12 + at8 s 11) hs2 hc2 rfl (by show 12 + (at8 s 11 : Int) = ((12 + at8 s 11 : Nat) : Int); omega) (by omega) (by omega) rfl (fun A8 hA8 => ?_); have s8 := hA8 _ u hs2; rw [List.drop_take, Nat.add_sub_cancel_left] at s8; rw [Nat.add_sub_cancel_left]; refine appF own s8.u8src (by omega) (fun B' d' u2 own2 k2 hB => ?_) (h1 := u8s_one _)
          have own2 : OwnF w u2 B' (m + at8 s 11) d' 5 1 (u8s (ob ++ pieceB s)) := by
            have e : u8s (ob ++ pieceB s) = u8s ob ++ u8s (pieceB s) := List.map_append; rw [e]; exact own2
          have hok10 : u2.cell? (ad bs (os + 10 * 1)) = some (uv8 (at8 s 10)) := (u8_cell (hs2.kept k2 fun i hi h => hBn i h) (k := 10) (by omega)).1; have hob : ob = curB (curO (k' + 1) s' ob) := (curB_O hk0).symm; refine idx 10 rfl (by omega) ?_; refine ld (uv8 (at8 s 10)) hok10 ?_; have hkb := (kind_bits hg.2.1).1; refine cD (fun h2 => ?_) (fun h2 => ?_)
          · refine arI (n := (((k' + 1) : Nat) : Int) + 1) (by omega) ?_; refine ret2 (.slice B' (m + at8 s 11) d') (iv ((((k' + 1) : Nat) : Int) + 1)) rfl rfl ⟨own2.ext, ?_⟩; rw [hrec, hdr, recP_cons, if_pos hsR, if_pos (by rw [Ne, hkb]; omega), ← hob]; refine ⟨B', m + at8 s 11, d', ?_, own2⟩; rw [show ((a + (k' + 1) + 1 - a : Nat) : Int) = (((k' + 1) : Nat) : Int) + 1 by omega]
          · refine arI (n := (((k' + 1) : Nat) : Int) + 1) (by omega) ?_; refine next4 ((k' + 1) + 1) B' (m + at8 s 11) d' ⟨rfl, by rw [Int.natCast_add]; rfl, trivial⟩ ⟨by omega, ob ++ pieceB s, own2, ?_, by rw [List.length_append]; unfold pieceB; rw [List.length_take, List.length_drop, hs128]; omega, fun h => by omega⟩ (by omega); rw [hrec, hdr, recP_cons, if_pos hsR, if_neg (by rw [Ne, hkb]; omega), ← hob]; show recP (l.drop (a + (k' + 1) + 1)) (a + (k' + 1) + 1) (some (curG (curO (k' + 1) s' ob) s, ob ++ pieceB s)) = recP (l.drop (a + ((k' + 1) + 1))) (a + ((k' + 1) + 1)) (some (genS s', ob ++ pieceB s)); rw [← hsR.2.2, hgen]
            try rfl
  · refine ret2 (.slice none 0 0) (iv 0) rfl rfl ⟨xu, ?_⟩; rw [hrec, List.drop_of_length_le (by omega)]
    rfl
end
theorem recP_b : ∀ {l : List (List Nat)} {n : Nat} {cur : Option (Nat × List Nat)} {b : List Nat} {m : Nat}, (∀ s ∈ l, s.length = 128 ∧ ∀ x ∈ s, x < 256) → (∀ x ∈ curB cur, x < 256) → recP l n cur = some (b, m) → (∀ x ∈ b, x < 256) ∧ b.length ≤ (curB cur).length + 128 * l.length
  | [], _, _, _, _, _, _, h => by cases h
  | s :: r, n, cur, b, m, hs, hc, h => by
    obtain ⟨h128, hb⟩ := hs s List.mem_cons_self
    have hpl : (pieceB s).length ≤ 128 := by unfold pieceB; rw [List.length_take, List.length_drop]; omega
    have hcb : ∀ x ∈ curB cur ++ pieceB s, x < 256 := fun x hx => by
      rcases List.mem_append.1 hx with hx | hx
      · exact hc x hx
      · exact hb x (List.mem_of_mem_drop (List.mem_of_mem_take hx))
    rw [recP_cons] at h
    rw [List.length_cons]
    split at h
    · split at h
      · injection h with h; injection h with h _
        rw [← h, List.length_append]
        exact ⟨hcb, by omega⟩
      · obtain ⟨a1, a2⟩ := recP_b (cur := some (curG cur s, curB cur ++ pieceB s)) (fun t ht => hs t (List.mem_cons_of_mem _ ht)) hcb h
        have e : (curB (some (curG cur s, curB cur ++ pieceB s))).length = (curB cur).length + (pieceB s).length := List.length_append
        exact ⟨a1, by omega⟩
    · cases h
section
variable {D : Nat → Prop} {w : World}
theorem c_recN {A : Option Addr} {n c a : Nat} {l : List (List Nat)} (hs : SlR (tSl tU8) D w A n l) (h128 : ∀ s ∈ l, s.length = 128) (hn : n ≤ 5000) (ha : a ≤ n) (hp : recP (l.drop a) a none = none) :
    CallZ Tryz.prog 166 #[.slice A n c, iv (a : Int)] w (fun v w' => v = .tuple #[.slice none 0 0, iv 0] ∧ Ext w w') :=
  (c_r05record hs h128 hn ha).mono fun v w' ⟨x, h⟩ => by rw [hp] at h; exact ⟨h, x⟩
theorem c_recS {A : Option Addr} {n c a e : Nat} {b : List Nat} {l : List (List Nat)} (hs : SlR (tSl tU8) D w A n l) (h128 : ∀ s ∈ l, s.length = 128) (hn : n ≤ 5000) (ha : a ≤ n) (hp : recP (l.drop a) a none = some (b, e)) :
    CallZ Tryz.prog 166 #[.slice A n c, iv (a : Int)] w (fun v w' => ∃ B k d, v = .tuple #[.slice B k d, iv ((e - a : Nat) : Int)] ∧ OwnF w w' B k d 5 1 (u8s b)) :=
  (c_r05record hs h128 hn ha).mono fun v w' ⟨_, h⟩ => by rw [hp] at h; exact h
set_option maxRecDepth 8000 in
set_option maxHeartbeats 2000000 in
theorem c_r05Records {A : Option Addr} {n c : Nat} {l : List (List Nat)} (hs : SlR (tSl tU8) D w A n l) (h128 : ∀ s ∈ l, s.length = 128) (hn : n ≤ 5000) :
    CallZ Tryz.prog 98 #[.slice A n c] w (fun v w' => Ext w w' ∧ ∃ B m d, v = .slice B m d ∧ m ≤ d ∧ SlR (tSl tU8) (fun b => w.heap.size ≤ b) w' B m (recsD l)) := by
  have hln := hs.len
  have hby : ∀ s ∈ l, s.length = 128 ∧ ∀ x ∈ s, x < 256 := fun s hs' => by
    obtain ⟨k, hk⟩ := List.getElem?_of_mem hs'; obtain ⟨bx, o, cs, x, -, hx, -, -, -, A2, n2, c2', -, hs2, -⟩ := hs.at_ (k := k) (by have := (List.getElem?_eq_some_iff.1 hk).1; omega); rw [hk] at hx; injection hx with hx; subst hx; exact ⟨h128 s hs', hs2.u8b⟩
  refine fn_rule (args := [.slice A n c]) Tryz.func98 (by kernel_rfl) ?_; refine lit [] (fun g w1 h1 => ?_); have o1 : LBx (fun b => w.heap.size ≤ b) w w1 (some (ad g 0)) 0 0 [] := ⟨[], OwnF.lit (cs := []) (.refl _ _) h1 rfl, rfl⟩; refine loop4 (fun (s : Nat × Nat) (B : Option Addr) (m d : Nat) => [(3, .slice B m d), (4, iv (s.1 : Int)), (5, uv64 s.2)]) (fun s B m d u => s.1 ≤ n ∧ s.2 < 4294967296 ∧ ∃ done, LBx (fun b => w.heap.size ≤ b) w u B m d done ∧ done.length ≤ s.1 ∧ recsD l = done ++ (recG (l.drop s.1) s.1 none s.2).map (·.2)) (fun s _ _ _ _ => n - s.1) (0, 0) (some (ad g 0)) 0 0 ⟨rfl, rfl, rfl, trivial⟩ ⟨Nat.zero_le _, by show 0 < 4294967296; omega, [], o1, Nat.zero_le _, rfl⟩ rfl ?_; rintro G ⟨a, last⟩ B m d u ⟨ha, hlast, dn, own, hdl, hrec⟩; have ha : a ≤ n := ha; have hlast : last < 4294967296 := hlast; have hdl : dn.length ≤ a := hdl; have hrec : recsD l = dn ++ (recG (l.drop a) a none last).map (·.2) := hrec; have own : LBx (fun b => w.heap.size ≤ b) w u B m d dn := own; have hm := own.len; have xu := own.ex; have su := xu.size
  have fin : ∀ u1, Ext u u1 → recG (l.drop a) a none last = [] → SlR (tSl tU8) (fun b => w.heap.size ≤ b) u1 B m (recsD l) ∧ m ≤ d := fun u1 x1 h => by
    rw [hrec, h, List.map_nil, List.append_nil]; obtain ⟨cs, o, f⟩ := own.then x1; exact ⟨o.own.rd (a := tSl tU8) (f.more fun _ _ h => h.2) hm (by omega) fun g hg => o.new g hg, o.le⟩
  cases hp : recP (l.drop a) a none with
  | none =>
    refine call_of (c_recN (hs.ext xu) h128 hn ha hp) ?_; rintro _ u1 ⟨rfl, x1⟩
    have h0 : recG (l.drop a) a none last = [] := by rw [recG_none, hp]
    refine cE (fun _ => ?_) (fun h => absurd rfl h); obtain ⟨f1, f2⟩ := fin u1 x1 h0; exact ret1 (.slice B m d) rfl ⟨xu.trans x1, B, m, d, rfl, f2, f1⟩
  | some r =>
    obtain ⟨b, e⟩ := r; refine call_of (c_recS (hs.ext xu) h128 hn ha hp) ?_; rintro _ u1 ⟨B8, m8, d8, rfl, own8⟩; have x1 := own8.ext; have s1 := x1.size; obtain ⟨he1, he2⟩ := recP_lt hp; rw [List.length_drop] at he2; obtain ⟨bx, o, cs, s, hA, hx, -, -, hc, A2, n2, c2, rfl, hs2, hc2⟩ := ((hs.ext xu).ext x1).at_ (k := a) (by omega); subst hA; have hs128 := h128 s (List.mem_of_getElem? hx)
    have hn2 : n2 = 128 := by have := hs2.len; omega
    subst hn2; have hb8 := hs2.u8b
    have hgs : genS ((l.drop a).getD 0 []) = genS s := by rw [List.getD_eq_getElem?_getD, List.getElem?_drop, Nat.add_zero, hx]; rfl
    have hgl : genS s < 4294967296 := get4 (fun x hx => hb8 x (List.mem_of_mem_take hx)) (by rw [List.length_take]; omega); have hG := recG_none (l := l.drop a) (n := a) (last := last); rw [hp, hgs] at hG; refine cE (fun h => absurd h (by omega)) (fun _ => ?_); refine idx a rfl (by omega) ?_; refine ld (.slice A2 128 c2) (hc 0 _ rfl) ?_; refine slcR 0 4 hs2 hc2 rfl rfl (by omega) (by omega) rfl (fun A4 hA4 => ?_); have s4 := hA4 _ u1 hs2; rw [List.drop_zero] at s4; refine call_of (c_r05number s4 (by omega)) ?_; rintro _ wx ⟨rfl, hwx⟩; rw [hwx]; clear hwx wx; refine cD (fun hlt => ?_) (fun hge => ?_)
    · have hlt : genS s < last := Int.ofNat_lt.1 hlt; obtain ⟨f1, f2⟩ := fin u1 x1 (by rw [hG]; exact if_neg (by omega)); exact ret1 (.slice B m d) rfl ⟨xu.trans x1, B, m, d, rfl, f2, f1⟩
    · have hge : ¬ genS s < last := fun h => hge (Int.ofNat_lt.2 h); refine idx a rfl (by omega) ?_; refine ld (.slice A2 128 c2) (hc 0 _ rfl) ?_; refine slcR 0 4 hs2 hc2 rfl rfl (by omega) (by omega) rfl (fun A5 hA5 => ?_); have s5 := hA5 _ u1 hs2; rw [List.drop_zero] at s5; refine call_of (c_r05number s5 (by omega)) ?_; rintro _ wx ⟨rfl, hwx⟩; rw [hwx]; clear hwx wx; refine lit [.slice B8 m8 d8] (fun q u2 hq => ?_); obtain ⟨hbl, hbn⟩ := recP_b (l := l.drop a) (cur := none) (fun t ht => hby t (List.mem_of_mem_drop ht)) (fun x hx => by cases hx) hp
      have hm8 : m8 ≤ 1000000 := by
        have h1 := own8.own.len; rw [List.length_map] at h1; have h2 : (curB none).length = 0 := rfl; rw [List.length_drop] at hbn; omega
      refine appX (own.then x1) (own8.u8 (D := fun i => B ≠ some (ad i 0) ∧ w.heap.size ≤ i) hbl (by omega) fun i hi => ⟨fun e => by have := (own.lt e).2; omega, by omega⟩) own8.le hq (by omega) (fun B' d' u3 own3 _ _ => ?_); refine arI (n := (a : Int) + ((e - a : Nat) : Int)) (by omega) ?_; refine next4 (e, genS s) B' (m + 1) d' ⟨rfl, by show iv ((a : Int) + ((e - a : Nat) : Int)) = iv (e : Int); rw [show (a : Int) + ((e - a : Nat) : Int) = (e : Int) by omega], rfl, trivial⟩ ⟨by show e ≤ n; omega, hgl, dn ++ [b], own3, by rw [List.length_append, List.length_singleton]; show dn.length + 1 ≤ e; omega, ?_⟩ (by show n - e < n - a; omega); rw [hrec, hG]; show dn ++ (if last ≤ genS s then (e, b) :: recG ((l.drop a).drop (e - a)) e none (genS s) else []).map (·.2) = dn ++ [b] ++ (recG (l.drop e) e none (genS s)).map (·.2); rw [if_pos (by omega), List.map_cons, List.drop_drop, show a + (e - a) = e by omega, List.append_assoc]
      rfl
end
section
variable {D : Nat → Prop} {w : World}
set_option maxRecDepth 4000 in
theorem c_r04Check {d : Dsk} {cs : List Value} (hd : DskR D w cs d) : CallZ Tryz.prog 97 #[.agg cs.toArray] w (fun v w' => v = iv (dskE d) ∧ Ext w w') := by
  obtain ⟨A, n, c, B, m, c2, rfl, hs, hc, hp, hc2, hI⟩ := hd.ex; have l1 := hs.len; have l2 := hp.len; have e1 := hs.le; have e2 := hp.le; refine fn_rule (args := [.agg #[.slice A n c, .slice B m c2, iv d.left, .bool d.stop]]) Tryz.func97 (by kernel_rfl) ?_; refine box (fun g w1 h1 => ?_); have G1 : Blk w1 g 44 [.slice A n c, .slice B m c2, iv d.left, .bool d.stop] := h1.blk; have x1 := h1.ext; have bad : ∀ {u : World}, Ext w u → ¬ okD d → Value.int .i64 40 = iv (dskE d) ∧ Ext w u := fun xu h => ⟨by unfold dskE; rw [if_neg h], xu⟩; refine fldA ?_; refine ld (.slice A n c) (G1.cell rfl) ?_; refine len ?_; refine cD (fun h => ?_) (fun a1 => ?_)
  · exact ret1 (iv 40) rfl (bad x1 fun q => by have := q.1; omega)
  refine cD (fun h => ?_) (fun a2 => ?_)
  · exact ret1 (iv 40) rfl (bad x1 fun q => by have := q.2.1; omega)
  refine fldA ?_; refine ld (.slice B m c2) (G1.cell rfl) ?_; refine len ?_; refine cD (fun h => ?_) (fun a3 => ?_)
  · exact ret1 (iv 40) rfl (bad x1 fun q => by have := q.2.2.1; omega)
  refine fldA ?_; refine ld (iv d.left) (G1.cell rfl) ?_; refine cD (fun h => ?_) (fun a4 => ?_)
  · exact ret1 (iv 40) rfl (bad x1 fun q => by have := q.2.2.2.1; omega)
  refine fldA ?_; refine ld (iv d.left) (G1.cell rfl) ?_; refine cD (fun h => ?_) (fun a5 => ?_)
  · exact ret1 (iv 40) rfl (bad x1 fun q => by have := q.2.2.2.2.1; omega)
  refine loop_rule (fun k : Nat => [(4, iv (k : Int))]) (fun k u => k ≤ n ∧ w1 = u ∧ ∀ s ∈ d.secs.take k, s.length = 128) (fun k _ => n - k) 0 ⟨rfl, trivial⟩ ⟨by omega, rfl, fun s h => by simp at h⟩ rfl ?_; rintro G k u ⟨hk, rfl, ha⟩; refine cD (fun hlt => ?_) (fun hge => ?_)
  · obtain ⟨bx, o, csx, s, rfl, hx, -, -, hcx, A2, n2, c2', rfl, hs2, -⟩ := (hs.ext x1).at_ (k := k) (by omega); have hl := hs2.len; refine fldA ?_; refine ld (.slice (some (ad bx o)) n c) (G1.cell rfl) ?_; refine idx k rfl (by omega) ?_; refine ld (.slice A2 n2 c2') (hcx 0 _ rfl) ?_; refine len ?_; refine cN (fun hne => ?_) (fun heq => ?_)
    · exact ret1 (iv 40) rfl (bad x1 fun q => by have := q.2.2.2.2.2.2 s (List.mem_of_getElem? hx); omega)
    · refine arI (n := (k : Int) + 1) (by omega) ?_; refine next (k + 1) ⟨by rw [Int.natCast_add]; rfl, trivial⟩ ⟨by omega, rfl, fun t ht => ?_⟩ (by omega); rw [List.take_add_one, hx] at ht; rcases List.mem_append.1 ht with ht | ht
      · exact ha t ht
      · have : t = s := by simpa using ht
        rw [this]; omega
  rw [List.take_of_length_le (by omega)] at ha; refine loop_rule (fun k : Nat => [(5, iv (k : Int))]) (fun k u => k ≤ m ∧ Ext w1 u ∧ ∀ x ∈ d.pend.take k, okW n x) (fun k _ => m - k) 0 ⟨rfl, trivial⟩ ⟨by omega, .refl _ _, fun s h => by simp at h⟩ rfl ?_; rintro G2 k u ⟨hk2, xu, hw⟩; have Gu := G1.ext xu; have x0u := x1.trans xu; refine fldA ?_; refine ld (.slice B m c2) (Gu.cell rfl) ?_; refine len ?_; refine cD (fun hlt => ?_) (fun hge => ?_)
  · obtain ⟨bx, o, csx, x, rfl, hx, -, -, hcx, hrep⟩ := (hp.ext x0u).at_ (k := k) (by omega); obtain ⟨A3, n3, c3, rfl, hs3, -, hI3⟩ := wr_ex hrep; have hl3 := hs3.len; refine fldA ?_; refine ld (.slice (some (ad bx o)) m c2) (Gu.cell rfl) ?_; refine idx k rfl (by omega) ?_; refine ldA [iv x.at_, .slice A3 n3 c3] hcx rfl ?_; refine alloc (fun b6 u1 h6 => ?_); refine stA (vs := [iv x.at_, .slice A3 n3 c3]) h6.blk rfl (Nat.le_of_ble_eq_true rfl) (by simp [Value.oneCell']) (fun u2 B6 k6 _ => ?_); have B6 : Blk u2 b6 104 [iv x.at_, .slice A3 n3 c3] := B6; have at6 := h6.at_
    have xu2 : Ext u u2 := h6.ext.then k6 fun i hi _ e => by omega
    have hm := List.mem_of_getElem? hx; refine fldA ?_; refine ld (iv x.at_) (B6.cell rfl) ?_; refine cD (fun h => ?_) (fun b1 => ?_)
    · exact ret1 (iv 40) rfl (bad (x0u.trans xu2) fun q => by have := (q.2.2.2.2.2.1 x hm).1; omega)
    refine fldA ?_; refine ld (iv x.at_) (B6.cell rfl) ?_; refine cD (fun h => ?_) (fun b2 => ?_)
    · exact ret1 (iv 40) rfl (bad (x0u.trans xu2) fun q => by have := (q.2.2.2.2.2.1 x hm).2.1; omega)
    refine fldA ?_; refine ld (.slice A3 n3 c3) (B6.cell rfl) ?_; refine len ?_; refine cN (fun h => ?_) (fun b3 => ?_)
    · exact ret1 (iv 40) rfl (bad (x0u.trans xu2) fun q => by have := (q.2.2.2.2.2.1 x hm).2.2; omega)
    refine arI (n := (k : Int) + 1) (by omega) ?_; refine next (k + 1) ⟨by rw [Int.natCast_add]; rfl, trivial⟩ ⟨by omega, xu.trans xu2, fun t ht => ?_⟩ (by omega); rw [List.take_add_one, hx] at ht; rcases List.mem_append.1 ht with ht | ht
    · exact hw t ht
    · have : t = x := by simpa using ht
      rw [this]; exact ⟨by omega, by omega, by omega⟩
  · rw [List.take_of_length_le (by omega)] at hw; exact ret1 (iv 0) rfl ⟨by unfold dskE; rw [if_pos ⟨by omega, by omega, by omega, by omega, by omega, by rw [l1]; exact hw, ha⟩], x0u⟩
theorem c_r05Sectors {n : Nat} (hn : n ≤ 140737488355328) : CallZ Tryz.prog 111 #[iv (n : Int)] w (fun v w' => v = iv (max 1 ((n + 111) / 112) : Nat) ∧ w' = w) := by
  refine fn_rule (args := [iv (n : Int)]) Tryz.func111 (by kernel_rfl) ?_; refine arI (n := (n : Int) + 112) (by omega) ?_; refine arI (n := (n : Int) + 112 - 1) (by omega) ?_; refine quoI (by omega) (by omega) (by omega) ?_; refine ret1 (iv (max 1 (((n : Int) + 112 - 1) / 112))) rfl ⟨?_, rfl⟩
  have e : max 1 (((n : Int) + 112 - 1) / 112) = ((max 1 ((n + 111) / 112) : Nat) : Int) := by omega
  rw [e]
theorem c_r05Used {A : Option Addr} {n c : Nat} {l : List (List Nat)} (hs : SlR (tSl tU8) D w A n l) (hl : SmallJ l) : CallZ Tryz.prog 112 #[.slice A n c] w (fun v w' => v = iv (usedN l : Int) ∧ w' = w) := by
  have hlen := hs.len; refine fn_rule (args := [.slice A n c]) Tryz.func112 (by kernel_rfl) ?_; refine loop_rule (fun k : Nat => [(3, iv (usedN (l.take k) : Int)), (4, iv (k : Int))]) (fun k u => k ≤ n ∧ w = u) (fun k _ => n - k) 0 ⟨rfl, rfl, trivial⟩ ⟨by omega, rfl⟩ rfl ?_; rintro G k u ⟨hk, rfl⟩; refine len ?_; refine cD (fun hlt => ?_) (fun hge => ?_)
  · obtain ⟨bx, o, cs, x, rfl, hx, -, -, hc, A2, n2, c2, rfl, hs2, hc2⟩ := hs.at_ (k := k) (by omega); have h1 := usedN_le (l := l.take k) fun b hb => hl.2 b (List.mem_of_mem_take hb); have h2 := hl.2 x (List.mem_of_getElem? hx); have h3 := secN_le x; have h4 := hl.1; have hn2 := hs2.len; rw [List.length_take] at h1; refine idx k rfl (by omega) ?_; refine ld (.slice A2 n2 c2) (hc 0 _ rfl) ?_; refine len ?_; refine call_of (c_r05Sectors (by omega)) ?_; rintro _ w2 ⟨rfl, hw2⟩; rw [hw2]; clear hw2 w2
    have hsec : max 1 ((n2 + 111) / 112) = secN x := by unfold secN; rw [hn2]
    rw [hsec]
    have htk : l.take (k + 1) = l.take k ++ [x] := by rw [List.take_add_one, hx]; rfl
    refine arI (n := (usedN (l.take k) : Int) + (secN x : Int)) (by omega) ?_; refine arI (n := (k : Int) + 1) (by omega) ?_; refine next (k + 1) ⟨?_, by rw [Int.natCast_add]; rfl, trivial⟩ ⟨by omega, rfl⟩ (by omega); rw [htk, usedN_snoc, Int.natCast_add]; rfl
  · rw [List.take_of_length_le (by omega)]; exact ret1 (iv _) rfl ⟨rfl, rfl⟩
end
section
variable {D D2 : Nat → Prop} {w : World}
theorem c_r05Same {A B : Option Addr} {n c m d : Nat} {a b : List (List Nat)} (hs : SlR (tSl tU8) D w A n a) (ht : SlR (tSl tU8) D2 w B m b) :
    CallZ Tryz.prog 64 #[.slice A n c, .slice B m d] w (fun v w' => v = .bool (decide (a = b)) ∧ w' = w) := by
  have l1 := hs.len; have l2 := ht.len; have hle := hs.le; refine fn_rule (args := [.slice A n c, .slice B m d]) Tryz.func64 (by kernel_rfl) ?_; refine len ?_; refine len ?_; refine cN (fun h => ?_) (fun h => ?_)
  · exact ret1 (.bool false) rfl ⟨by rw [decide_eq_false (fun e => h (by rw [← l1, ← l2, e]))], rfl⟩
  have hnm : n = m := by omega
  subst hnm; refine loop_rule (fun k : Nat => [(5, iv (k : Int))]) (fun k u => k ≤ n ∧ w = u ∧ a.take k = b.take k) (fun k _ => n - k) 0 ⟨rfl, trivial⟩ ⟨by omega, rfl, rfl⟩ rfl ?_; rintro G k u ⟨hk, rfl, he⟩; refine len ?_; refine cD (fun hlt => ?_) (fun hge => ?_)
  · obtain ⟨b1, o1, cs1, x, rfl, hx, -, -, hc1, A1, n1, c1, rfl, hs1, -⟩ := hs.at_ (k := k) (by omega); obtain ⟨b2, o2, cs2, y, rfl, hy, -, -, hc2, A2, n2, c2, rfl, hs2, -⟩ := ht.at_ (k := k) (by omega); have hb1 := hs1.u8b; have hb2 := hs2.u8b; refine drawP (.take 0 (.take 1 (.take 2 (.take 3 (.take 5 (.take 6 (.take 7 (.take 8 (.alt 4 (.eff 9 (.take 10 .done)) (.eff 9 (.eff 4 (.take 10 .done)))))))))))) [] (fun z => z = w) mx (by kernel_rfl) rfl ?_; refine idx k rfl (by omega) ?_; refine ld (.slice A1 n1 c1) (hc1 0 _ rfl) ?_; refine idx k rfl (by omega) ?_; refine ld (.slice A2 n2 c2) (hc2 0 _ rfl) ?_; refine ⟨?yl5, ?yr5⟩
    case' yl5 =>
      refine cvBS rfl hs1 ?_; refine strS rfl ?_; refine cvBS rfl hs2 ?_; refine strS rfl ?_
    case' yr5 =>
      refine cvBS rfl hs2 ?_; refine strS rfl ?_; refine cvBS rfl hs1 ?_; refine strS rfl ?_
    all_goals
      refine neStr (fun hne => ?_) (fun heq => ?_)
      · exact ret1 (.bool false) rfl ⟨by rw [decide_eq_false (fun e => hne (by subst e; rw [hx] at hy; injection hy with hy; rw [hy]))], rfl⟩
      · have hxy := strB_inj hb1 hb2 heq; refine arI (n := (k : Int) + 1) (by omega) ?_; refine next (k + 1) ⟨by rw [Int.natCast_add]; rfl, trivial⟩ ⟨by omega, rfl, ?_⟩ (by omega); rw [List.take_add_one, List.take_add_one, hx, hy, he, hxy]
  · rw [List.take_of_length_le (by omega), List.take_of_length_le (by omega)] at he; exact ret1 (.bool true) rfl ⟨by rw [decide_eq_true he], rfl⟩
theorem c_r05Check {j : Jrn} {cs : List Value} (hj : JrnR D w cs j) (hl : SmallJ j.recs) : CallZ Tryz.prog 110 #[.agg cs.toArray] w (fun v w' => v = iv (jE j) ∧ Ext w w') := by
  obtain ⟨A, n, c, rfl, hs, hc, hI1, hI2⟩ := hj.ex; have hlen := hs.len; refine fn_rule (args := [.agg #[.slice A n c, iv j.many, iv j.syn]]) Tryz.func110 (by kernel_rfl) ?_; refine box (fun g w1 h1 => ?_); have G1 : Blk w1 g 108 [.slice A n c, iv j.many, iv j.syn] := h1.blk; have x1 := h1.ext; have bad : (j.many < 1 ∨ j.many > 4096 ∨ j.syn < 0 ∨ j.syn > j.recs.length ∨ (usedN j.recs : Int) > j.many) → (iv 1 = iv (jE j) ∧ Ext w w1) := fun h => ⟨by unfold jE; rw [if_pos h], x1⟩; refine drawP (.take 0 (.take 1 (.take 2 (.take 3 (.take 4 (.take 5 (.take 6 (.take 7 (.take 8 (.take 9 (.take 10 (.take 11 (.take 12 (.take 13 (.take 14 (.take 15 (.take 16 (.take 17 (.take 18 (.take 19 (.take 20 (.take 21 (.take 22 (.take 23 (.take 24 (.take 25 (.take 26 (.take 27 (.take 28 .done))))))))))))))))))))))))))))) [] (fun y => y = w1) mx (by kernel_rfl) rfl ?_; refine fldA ?_; refine ld (iv j.many) (G1.cell rfl) ?_; refine cD (fun h => ?_) (fun a1 => ?_)
  · exact ret1 (iv 1) rfl (bad (by omega))
  refine fldA ?_; refine ld (iv j.many) (G1.cell rfl) ?_; refine cD (fun h => ?_) (fun a2 => ?_)
  · exact ret1 (iv 1) rfl (bad (by omega))
  refine fldA ?_; refine ld (iv j.syn) (G1.cell rfl) ?_; refine cD (fun h => ?_) (fun a3 => ?_)
  · exact ret1 (iv 1) rfl (bad (by omega))
  refine fldA ?_; refine ld (iv j.syn) (G1.cell rfl) ?_; refine fldA ?_; refine ld (.slice A n c) (G1.cell rfl) ?_; refine len ?_; refine cD (fun h => ?_) (fun a4 => ?_)
  · exact ret1 (iv 1) rfl (bad (by omega))
  refine fldA ?_; refine ld (.slice A n c) (G1.cell rfl) ?_; refine callQ (fun y hy => by have hy : y = w1 := hy; rw [hy]; exact c_r05Used (hs.ext x1) hl) ?_; refine fldA ?_; refine ld (iv j.many) (G1.cell rfl) ?_; refine cD (fun h => ?_) (fun a5 => ?_)
  · exact ret1 (iv 1) rfl (bad (by omega))
  exact ret1 (iv 0) rfl ⟨by unfold jE; rw [if_neg (by omega)], x1⟩
set_option maxRecDepth 4000 in
theorem c_r05Open {d : Dsk} {cs : List Value} (hd : DskR D w cs d) : CallZ Tryz.prog 58 #[.agg cs.toArray] w (fun v w' => RetJ w w' v (openP d)) := by
  obtain ⟨A, n, c, B, m, c2, rfl, hs, hc, hp, hc2, hId⟩ := hd.ex; have ln := hs.len; have lm := hp.len; refine fn_rule (args := [.agg #[.slice A n c, .slice B m c2, iv d.left, .bool d.stop]]) Tryz.func58 (by kernel_rfl) ?_; refine box (fun g w1 h1 => ?_); have G1 : Blk w1 g 44 [.slice A n c, .slice B m c2, iv d.left, .bool d.stop] := h1.blk; refine alloc (fun b2 w2 h2 => ?_); have R2 : Blk w2 b2 108 zeroJC := h2.blk; have e1 := h1.at_; have e2 := h2.at_; have x02 := h1.ext.trans h2.ext; have s1 := h1.ext.size; have G2 := G1.ext h2.ext; have lg := G1.lt; refine ldA [.slice A n c, .slice B m c2, iv d.left, .bool d.stop] (.blk G2) rfl ?_; refine call_of (c_r04Check (hd.ext x02)) ?_; rintro _ w3 ⟨rfl, x3⟩; have x03 := x02.trans x3; have R3 := R2.ext x3; have G3 := G2.ext x3; have s23 := x3.size; have lR3 := R3.lt; refine cN (fun h => ?_) (fun h => ?_)
  · have hno : ¬ okD d := fun q => h (dskE_0.2 q)
    have h40 : dskE d = 40 := by unfold dskE; rw [if_neg hno]
    refine bld zeroJC (by kernel_rfl) ?_; refine stA (vs := zeroJC) R3 rfl (Nat.le_of_ble_eq_true rfl) (by simp [Value.oneCell']) (fun we Be ke _ => ?_); refine ret ?_; refine resL (.agg (zeroJC).toArray) (holds_agg (.blk Be) rfl) ?_; refine ⟨zeroJC, by unfold openP; rw [if_pos hno, h40]; rfl, by unfold openP; rw [if_pos hno]; exact zeroJ_r, x03.then ke fun i hi _ e => by omega⟩
  have hok : okD d := dskE_0.1 h; have hnn : ¬ ¬ okD d := fun q => q hok; have k1 := hok.1; have k2 := hok.2.1; have k7 := hok.2.2.2.2.2.2
  cases hst : d.stop with
  | true =>
    refine fldA ?_; refine ld (.bool true) (G3.cell (by rw [hst]; rfl)) ?_; refine bld zeroJC (by kernel_rfl) ?_; refine stA (vs := zeroJC) R3 rfl (Nat.le_of_ble_eq_true rfl) (by simp [Value.oneCell']) (fun we Be ke _ => ?_); refine ret ?_; refine resL (.agg (zeroJC).toArray) (holds_agg (.blk Be) rfl) ?_; exact ⟨zeroJC, by unfold openP; rw [if_neg hnn, if_pos hst]; rfl, by unfold openP; rw [if_neg hnn, if_pos hst]; exact zeroJ_r, x03.then ke fun i hi _ e => by omega⟩
  | false =>
  have hst' : ¬ d.stop = true := by rw [hst]; decide
  refine fldA ?_; refine ld (.bool false) (G3.cell (by rw [hst]; rfl)) ?_; refine fldA ?_; refine ld (.slice B m c2) (G3.cell rfl) ?_; refine len ?_; refine cD (fun hpos => ?_) (fun hpos => ?_)
  · refine bld zeroJC (by kernel_rfl) ?_; refine stA (vs := zeroJC) R3 rfl (Nat.le_of_ble_eq_true rfl) (by simp [Value.oneCell']) (fun we Be ke _ => ?_); refine ret ?_; refine resL (.agg (zeroJC).toArray) (holds_agg (.blk Be) rfl) ?_; exact ⟨zeroJC, by unfold openP; rw [if_neg hnn, if_neg hst', if_pos (by omega)]; rfl, by unfold openP; rw [if_neg hnn, if_neg hst', if_pos (by omega)]; exact zeroJ_r, x03.then ke fun i hi _ e => by omega⟩
  refine fldA ?_; refine ld (.slice A n c) (G3.cell rfl) ?_; refine call_of (c_r05Records (hs.ext x03) k7 (by omega)) ?_; rintro _ w4 ⟨x4, C, m4, d4, rfl, hm4, sC⟩; have hl4 := sC.len; have G4 := G3.ext x4; have R4 := R3.ext x4; have s34 := x4.size; have hrl := recG_len d.secs 0 none 0
  have hrl2 : (recsD d.secs).length ≤ d.secs.length := by unfold recsD; rw [List.length_map]; exact hrl
  refine fldA ?_; refine ld (.slice A n c) (G4.cell rfl) ?_; refine len ?_; refine len ?_; refine bld [.slice C m4 d4, iv (n : Int), iv (m4 : Int)] (by kernel_rfl) ?_; refine stA (vs := [.slice C m4 d4, iv (n : Int), iv (m4 : Int)]) R4 rfl (Nat.le_of_ble_eq_true rfl) (by simp [Value.oneCell']) (fun we Be ke _ => ?_); have Be : Blk we b2 108 [.slice C m4 d4, iv (n : Int), iv (m4 : Int)] := Be; refine ret ?_; refine resL _ (holds_agg (.blk Be) rfl) ?_
  have hres : openP d = (⟨recsD d.secs, d.secs.length, (recsD d.secs).length⟩, 0) := by unfold openP; rw [if_neg hnn, if_neg hst', if_neg (by omega)]
  refine ⟨[.slice C m4 d4, iv (n : Int), iv (m4 : Int)], by rw [hres]; rfl, ?_, (x03.trans x4).then ke fun i hi _ e => by omega⟩; rw [hres]; refine ⟨⟨C, m4, d4, by rw [ln, hl4], ?_, hm4, by show I64 ((d.secs.length : Nat) : Int); unfold I64; omega, by show I64 (((recsD d.secs).length : Nat) : Int); unfold I64; omega⟩⟩; exact (sC.kept ke fun b _ h e => by omega).more (by decide) fun _ _ _ => trivial
end
section
variable {D : Nat → Prop} {w : World}
theorem c_r05generation {A : Option Addr} {n c : Nat} {l : List (List Nat)} (hs : SlR (tSl tU8) D w A n l) (h128 : ∀ s ∈ l, s.length = 128) (hn : n ≤ 5000) : CallZ Tryz.prog 113 #[.slice A n c] w (fun v w' => v = uv64 (genP l) ∧ w' = w) := by
  have ln := hs.len
  have hby : ∀ s ∈ l, s.length = 128 ∧ ∀ x ∈ s, x < 256 := fun s hs' => by
    obtain ⟨k, hk⟩ := List.getElem?_of_mem hs'; obtain ⟨bx, o, cs, x, -, hx, -, -, -, A2, n2, c2', -, hs2, -⟩ := hs.at_ (k := k) (by have := (List.getElem?_eq_some_iff.1 hk).1; omega); rw [hk] at hx; injection hx with hx; subst hx; exact ⟨h128 s hs', hs2.u8b⟩
  refine fn_rule (args := [.slice A n c]) Tryz.func113 (by kernel_rfl) ?_; refine loop_rule (fun k : Nat => [(3, uv64 (genP (l.take k) - 1)), (4, iv (k : Int))]) (fun k u => k ≤ n ∧ w = u) (fun k _ => n - k) 0 ⟨rfl, rfl, trivial⟩ ⟨by omega, rfl⟩ rfl ?_; rintro G k u ⟨hk, rfl⟩; have hpos := (genP_lt (l := l.take k)).2; refine len ?_; refine cD (fun hlt => ?_) (fun hge => ?_)
  · obtain ⟨bx, o, cs, s, rfl, hx, -, -, hcx, A2, n2, c2', rfl, hs2, hc2'⟩ := hs.at_ (k := k) (by omega); obtain ⟨hs128, hb8⟩ := hby s (List.mem_of_getElem? hx)
    have hn2 : n2 = 128 := by have := hs2.len; omega
    subst hn2; refine drawP (.take 0 (.take 1 (.take 2 (.take 3 (.take 4 (.take 5 (.take 6 (.take 7 (.take 8 (.take 9 (.take 10 (.take 11 (.take 12 (.take 13 (.take 14 .done))))))))))))))) [] (fun y => y = w) mx (by kernel_rfl) rfl ?_; refine idx k rfl (by omega) ?_; refine ld (.slice A2 128 c2') (hcx 0 _ rfl) ?_; refine slcR 0 4 hs2 hc2' rfl rfl (by omega) (by omega) rfl (fun A4 hA4 => ?_); have s4 := hA4 _ w hs2; rw [List.drop_zero] at s4; refine callQ (fun y hy => by have hy : y = w := hy; rw [hy]; exact c_r05number s4 (by omega)) ?_; refine idx k rfl (by omega) ?_; refine ld (.slice A2 128 c2') (hcx 0 _ rfl) ?_; refine slcR 124 128 hs2 hc2' rfl rfl (by omega) (by omega) rfl (fun A5 hA5 => ?_); have s5 := hA5 _ w hs2; rw [List.take_of_length_le (by omega)] at s5; refine callQ (fun y hy => by have hy : y = w := hy; rw [hy]; exact c_r05number s5 (by omega)) ?_; refine max3P (k := .u64) (x := ((genP (l.take k) - 1 : Nat) : Int)) (y := ((getB (s.take 4) : Nat) : Int)) (z := ((getB (s.drop 124) : Nat) : Int)) rfl rfl rfl ?_; refine arI (n := (k : Int) + 1) (by omega) ?_; refine next (k + 1) ⟨?_, by rw [Int.natCast_add]; rfl, trivial⟩ ⟨by omega, rfl⟩ (by omega)
    have e : genP (l.take (k + 1)) = max (genP (l.take k)) (max (genS s + 1) (getB (s.drop 124) + 1)) := by
      rw [List.take_add_one, hx]; exact genP_snoc _ _
    show Value.int .u64 (mx3 _ _ _) = uv64 (genP (l.take (k + 1)) - 1); rw [mx3_eq, e]
    have e2 : max (genP (l.take k) - 1) (max (getB (s.take 4)) (getB (s.drop 124))) = max (genP (l.take k)) (max (genS s + 1) (getB (s.drop 124) + 1)) - 1 := by unfold genS; omega
    rw [e2]
  · have e : l.take k = l := List.take_of_length_le (by omega); rw [e] at hpos
    have hle := genP_le hby
    obtain ⟨gp, hgp⟩ : ∃ gp, gp = genP (l.take k) := ⟨_, rfl⟩
    have hgp2 : gp = genP l := by rw [hgp, e]
    rw [← hgp]; refine add64 (a := gp - 1) (b := 1) (by omega) ?_; refine ret1 (uv64 (gp - 1 + 1)) rfl ⟨?_, rfl⟩; rw [show gp - 1 + 1 = gp by omega, hgp2]
theorem c_r05Append {j : Jrn} {cs : List Value} {E : Option Addr} {k ce : Nat} {b : List Nat} (hj : JrnR D w cs j) (hl : SmallJ j.recs) (hb : SlR tU8 D w E k b) (hk : k ≤ 1000000) (hke : k ≤ ce) : CallZ Tryz.prog 65 #[.agg cs.toArray, .slice E k ce] w (fun v w' => RetJE D w w' v (appendP j b)) := by
  obtain ⟨A, n, c, rfl, hs, hc, hI1, hI2⟩ := hj.ex; have hlen := hs.len; have hblen := hb.len; have hs0 := hs.more (D' := fun b => D b ∧ b < w.heap.size) (by decide) fun b hb h => ⟨h, hb⟩; have hb0 := hb.more (D' := fun b => D b ∧ b < w.heap.size) (by decide) fun b hb h => ⟨h, hb⟩; have hl1 := hl.1; refine fn_rule (args := [.agg #[.slice A n c, iv j.many, iv j.syn], .slice E k ce]) Tryz.func65 (by kernel_rfl) ?_; refine box (fun g w1 h1 => ?_); have G1 : Blk w1 g 108 [.slice A n c, iv j.many, iv j.syn] := h1.blk; refine alloc (fun b4 w2 h2 => ?_); have R2 : Blk w2 b4 108 zeroJC := h2.blk; have e1 := h1.at_; have e2 := h2.at_; have x02 := h1.ext.trans h2.ext; have s1 := h1.ext.size; have G2 := G1.ext h2.ext; have lg := G1.lt; refine ldA [.slice A n c, iv j.many, iv j.syn] (.blk G2) rfl ?_; refine call_of (c_r05Check (hj.ext x02) hl) ?_; rintro _ w3 ⟨rfl, x3⟩; have x03 := x02.trans x3; have R3 := R2.ext x3; have G3 := G2.ext x3; have s03 := x03.size; refine cN (fun h => ?_) (fun h => ?_)
  · refine bld zeroJC (by kernel_rfl) ?_; refine stA (vs := zeroJC) R3 rfl (Nat.le_of_ble_eq_true rfl) (by simp [Value.oneCell']) (fun we Be ke _ => ?_); refine ret ?_; refine resL (.agg (zeroJC).toArray) (holds_agg (.blk Be) rfl) ?_; exact ⟨zeroJC, by unfold appendP; rw [if_pos h]; rfl, by unfold appendP; rw [if_pos h]; exact zeroJ_r, x03.then ke fun i hi _ e => by omega⟩
  have hE : ¬ jE j ≠ 0 := fun q => q h
  have hjc : ¬ (j.many < 1 ∨ j.many > 4096 ∨ j.syn < 0 ∨ j.syn > j.recs.length ∨ (usedN j.recs : Int) > j.many) := fun q => by
    unfold jE at h; rw [if_pos q] at h; omega
  have hsec : max 1 ((k + 111) / 112) = secN b := by unfold secN; rw [hblen]
  refine drawP (.take 0 (.take 1 (.take 2 (.take 3 (.take 4 (.take 5 (.take 6 (.take 7 (.take 8 (.take 9 .done)))))))))) [] (fun y => y = w3) mx (by kernel_rfl) rfl ?_; refine len ?_; refine callQ (fun y hy => by have hy : y = w3 := hy; rw [hy]; exact c_r05Sectors (n := k) (by omega)) ?_; rw [hsec]; refine fldA ?_; refine ld (iv j.many) (G3.cell rfl) ?_; refine fldA ?_; refine ld (.slice A n c) (G3.cell rfl) ?_; refine callQ (fun y hy => by have hy : y = w3 := hy; rw [hy]; exact c_r05Used (hs.ext x03) hl) ?_; refine arI (n := j.many - (usedN j.recs : Int)) (by omega) ?_; refine cD (fun hgt => ?_) (fun hgt => ?_)
  · refine bld zeroJC (by kernel_rfl) ?_; refine stA (vs := zeroJC) R3 rfl (Nat.le_of_ble_eq_true rfl) (by simp [Value.oneCell']) (fun we Be ke _ => ?_); refine ret ?_; refine resL (.agg (zeroJC).toArray) (holds_agg (.blk Be) rfl) ?_; exact ⟨zeroJC, by unfold appendP; rw [if_neg hE, if_pos hgt]; rfl, by unfold appendP; rw [if_neg hE, if_pos hgt]; exact zeroJ_r, x03.then ke fun i hi _ e => by omega⟩
  have lR3 := R3.lt; have lG3 := G3.lt; refine lit [] (fun g4 w4 h4 => ?_); have o4 : OwnF w3 w4 (some (ad g4 0)) 0 0 102 1 [] := OwnF.lit (cs := []) (.refl _ _) h4 rfl; have x34 := h4.ext; refine fldA ?_; refine ld (.slice A n c) ((G3.ext x34).cell rfl) ?_; obtain ⟨cs8, src8, f8⟩ := (hs0.ext (x03.trans x34)).srcs; refine appF o4 src8 (by omega) (fun A5 c5 w5 o5 k5 _ => ?_) (h1 := flatS_one f8); rw [List.nil_append, Nat.zero_add] at o5; rw [Nat.zero_add]; refine lit [.slice E k ce] (fun q w6 h6 => ?_); refine appF (o5.then h6.ext) (h6.src (n := 1) rfl) (by omega) (fun A7 c7 w7 o7 k7 _ => ?_); have x37 := o7.ext; have s37 := x37.size; refine fldA ?_; refine st (G3.ext x37) (Nat.le_of_ble_eq_true rfl) rfl (fun wa Ga ka _ => ?_); have Ga : Blk wa g 108 [.slice A7 (n + 1) c7, iv j.many, iv j.syn] := Ga; have Ra := (R3.ext x37).kept ka (show b4 ≠ g by omega); refine ldA [.slice A7 (n + 1) c7, iv j.many, iv j.syn] (.blk Ga) rfl ?_; refine stA (vs := [.slice A7 (n + 1) c7, iv j.many, iv j.syn]) Ra rfl (Nat.le_of_ble_eq_true rfl) (by simp [Value.oneCell']) (fun we Be ke _ => ?_); refine ret ?_; refine resL (.agg #[.slice A7 (n + 1) c7, iv j.many, iv j.syn]) (holds_agg (.blk Be) rfl) ?_; have kE : Kept (fun i => i ≠ g ∧ i ≠ b4) w7 we := (ka.weak fun i _ h => h.1).then ke fun i _ h => h.2
  have xe : Ext w we := (x03.trans x37).then kE fun i hi _ => by omega
  have hres : appendP j b = (⟨j.recs ++ [b], j.many, j.syn⟩, 0) := by unfold appendP; rw [if_neg hE, if_neg hgt]
  refine ⟨[.slice A7 (n + 1) c7, iv j.many, iv j.syn], by rw [hres]; rfl, ?_, xe⟩; rw [hres]
  have fE : FlatR (tSl tU8) (fun i => D i ∧ i < w.heap.size) we (j.recs ++ [b]) (cs8 ++ [.slice E k ce]) := by
    have f8e : FlatR (tSl tU8) (fun i => D i ∧ i < w.heap.size) we j.recs cs8 := f8.keep fun i hi h => by
      exact (xe.blk i h.2 trivial).trans (((x03.trans x34).blk i h.2 trivial).symm)
    exact f8e.app (FlatR.one (a := tSl tU8) ⟨E, k, ce, rfl, hb0.ext xe, hke⟩)
  have ownE := o7.own.kept kE (fun i hi => by have h := o7.new i (own_at o7.own hi); omega); exact ⟨⟨A7, n + 1, c7, rfl, ownE.rd (a := tSl tU8) (fE.more fun i _ h => .inl h.1) (by rw [List.length_append, hlen]; rfl) (by omega) fun i hi => .inr (by have h := o7.new i (own_at o7.own (by rw [hi]; rfl)); omega), o7.le, hI1, hI2⟩⟩
end
theorem shr_mod {n j : Nat} : ((n >>> (8 * j)) % 256) % 256 = (n >>> (8 * j)) % 256 := Nat.mod_mod _ _
theorem shr_256 (n j : Nat) : (n >>> (8 * j)) / 256 = n >>> (8 * (j + 1)) := by
  rw [show 8 * (j + 1) = 8 * j + 8 by omega, Nat.shiftRight_add, Nat.shiftRight_eq_div_pow (n >>> (8 * j)) 8]
theorem quo64 {a b : Nat} {K : Value → Prop} (ha : a < 18446744073709551616) (hb : 0 < b) (k : K (uv64 (a / b))) : QuoP .u64 (a : Int) (b : Int) K := by
  rw [QuoP_eq]; refine ⟨by omega, ?_⟩; have hle : a / b ≤ a := Nat.div_le_self a b; rw [Int.tdiv_eq_ediv_of_nonneg (Int.natCast_nonneg a), ← Int.natCast_ediv, u64_wrap, Int.emod_eq_of_lt (Int.natCast_nonneg _) (by omega)]; exact k
section
variable {D : Nat → Prop} {w : World}
theorem c_r05numeral {n many : Nat} (hn : n < 18446744073709551616) (h0 : 1 ≤ many) (hm : many ≤ 8) : CallZ Tryz.prog 177 #[uv64 n, iv (many : Int)] w (fun v w' => ∃ g, v = .slice (some (ad g 0)) many many ∧ w.heap.size ≤ g ∧ Blk w' g 5 (u8s (beB many n)) ∧ Ext w w') := by
  have hbl := beB_len many n; refine fn_rule (args := [uv64 n, iv (many : Int)]) Tryz.func177 (by kernel_rfl) ?_; refine mslc (sz := 1) (zv := uv8 0) many rfl rfl (by omega) (by omega) rfl (by decide) (fun g w1 h1 => ?_); have e1 := h1.at_; have hz : (List.replicate many (cellsL (uv8 0))).flatten = List.replicate many (uv8 0) := rep_flat many
  have B1 : Blk w1 g 5 (List.replicate many (uv8 0)) := by rw [← hz]; exact h1.blk
  refine arI (n := (many : Int) - 1) (by omega) ?_; refine loop_rule (fun j : Nat => [(0, uv64 (n >>> (8 * j))), (6, iv ((many : Int) - 1 - (j : Int)))]) (fun j u => j ≤ many ∧ Blk u g 5 (List.replicate (many - j) (uv8 0) ++ u8s ((beB many n).drop (many - j))) ∧ Kept (fun b => b ≠ g) w1 u) (fun j _ => many - j) 0 ⟨rfl, by show iv ((many : Int) - 1) = iv ((many : Int) - 1 - 0); rw [Int.sub_zero], trivial⟩ ⟨by omega, by rw [Nat.sub_zero, List.drop_of_length_le (by omega)]; simpa using B1, .refl _ _⟩ rfl ?_; rintro G j u ⟨hj, Bu, ku⟩; have hlt64 : n >>> (8 * j) < 18446744073709551616 := Nat.lt_of_le_of_lt (Nat.shiftRight_le _ _) hn; refine cD (fun hge => ?_) (fun hlt => ?_)
  · have hjm : j < many := by omega
    refine remI (by omega) (Int.natCast_nonneg _) ?_; refine cv8 ((n >>> (8 * j)) % 256) rfl ?_; rw [shr_mod]; refine idx (many - 1 - j) (by omega) (by omega) ?_; refine st (v := uv8 ((n >>> (8 * j)) % 256)) Bu (by simp only [List.length_append, List.length_replicate, List.length_map, List.length_drop]; omega) rfl (fun u2 B2 k2 _ => ?_); refine quo64 (b := 256) hlt64 (by omega) ?_; rw [shr_256]; refine arI (n := (many : Int) - 1 - (j : Int) - 1) (by omega) ?_; refine next (j + 1) ⟨rfl, by show iv ((many : Int) - 1 - (j : Int) - 1) = iv ((many : Int) - 1 - ((j + 1 : Nat) : Int)); rw [show (many : Int) - 1 - (j : Int) - 1 = (many : Int) - 1 - ((j + 1 : Nat) : Int) by omega], trivial⟩ ⟨by omega, ?_, ku.trans k2⟩ (by omega)
    have e : (List.replicate (many - j) (uv8 0) ++ u8s ((beB many n).drop (many - j))).set (0 + (many - 1 - j) * 1) (uv8 ((n >>> (8 * j)) % 256)) = List.replicate (many - (j + 1)) (uv8 0) ++ u8s ((beB many n).drop (many - (j + 1))) := by
      have e3 : List.replicate (many - j) (uv8 0) = List.replicate (many - (j + 1)) (uv8 0) ++ [uv8 0] := by
        rw [show many - j = many - (j + 1) + 1 by omega, List.replicate_succ']
      rw [beB_drop hjm, e3, List.append_assoc, Nat.zero_add, Nat.mul_one, List.set_append_right _ _ (by rw [List.length_replicate]; omega), List.length_replicate, show many - 1 - j - (many - (j + 1)) = 0 by omega]
      rfl
    rw [← e]; exact B2
  · have hjm : j = many := by omega
    subst hjm; rw [Nat.sub_self, List.drop_zero] at Bu; exact ret1 (.slice (some (ad g 0)) j j) rfl ⟨g, rfl, by omega, Bu, h1.ext.then ku fun i hi _ e => by omega⟩
end
section
variable {D D2 : Nat → Prop} {w : World}
theorem c_r04Few {d : Dsk} {cs : List Value} (hd : DskR D w cs d) : CallZ Tryz.prog 22 #[.agg cs.toArray] w (fun v w' => ∃ b, v = .bool b ∧ Ext w w') := by
  obtain ⟨A, n, c, B, m, c2, rfl, hs, hc, hp, hc2, hI⟩ := hd.ex; have e1 := hs.le; have e2 := hp.le; refine fn_rule (args := [.agg #[.slice A n c, .slice B m c2, iv d.left, .bool d.stop]]) Tryz.func22 (by kernel_rfl) ?_; refine box (fun g w1 h1 => ?_); have G1 : Blk w1 g 44 [.slice A n c, .slice B m c2, iv d.left, .bool d.stop] := h1.blk; have x1 := h1.ext; refine loop_rule (fun p : Nat × Int => [(3, iv p.2), (4, iv (p.1 : Int))]) (fun p u => p.1 ≤ n ∧ w1 = u ∧ 0 ≤ p.2 ∧ p.2 ≤ 281474976710656) (fun p _ => n - p.1) (0, 0) ⟨rfl, rfl, trivial⟩ ⟨Nat.zero_le _, rfl, Int.le_refl 0, by show (0 : Int) ≤ 281474976710656; omega⟩ rfl ?_; rintro G ⟨k, s⟩ u ⟨hk, rfl, hs0, hs1⟩; have hk : k ≤ n := hk; have hs0 : 0 ≤ s := hs0; have hs1 : s ≤ 281474976710656 := hs1; refine fldA ?_; refine ld (.slice A n c) (G1.cell rfl) ?_; refine len ?_; refine cD (fun hlt => ?_) (fun hge => ?_)
  · refine cD (fun h9 => ?_) (fun h9 => ?_)
    · obtain ⟨bx, o, csx, x, rfl, hx, -, -, hcx, A2, n2, c2', rfl, hs2, -⟩ := (hs.ext x1).at_ (k := k) (by omega); have hl2 := hs2.le; refine arI (n := s + 1) (by omega) ?_; refine fldA ?_; refine ld (.slice (some (ad bx o)) n c) (G1.cell rfl) ?_; refine idx k rfl (by omega) ?_; refine ld (.slice A2 n2 c2') (hcx 0 _ rfl) ?_; refine len ?_; refine arI (n := s + 1 + (n2 : Int)) (by omega) ?_; refine arI (n := (k : Int) + 1) (by omega) ?_; exact next (k + 1, s + 1 + (n2 : Int)) ⟨rfl, by rw [Int.natCast_add]; rfl, trivial⟩ ⟨by show k + 1 ≤ n; omega, rfl, by show 0 ≤ s + 1 + (n2 : Int); omega, by show s + 1 + (n2 : Int) ≤ 281474976710656; omega⟩ (by show n - (k + 1) < n - k; omega)
    · refine loop_rule (fun p : Nat × Int => [(3, iv p.2), (5, iv (p.1 : Int))]) (fun p u => p.1 ≤ m ∧ w1 = u ∧ 0 ≤ p.2 ∧ p.2 ≤ 281474976710656) (fun p _ => m - p.1) (0, s) ⟨rfl, rfl, trivial⟩ ⟨Nat.zero_le _, rfl, hs0, hs1⟩ rfl ?_; rintro G2 ⟨j, t⟩ u ⟨hj, rfl, ht0, ht1⟩; have hj : j ≤ m := hj; have ht0 : 0 ≤ t := ht0; have ht1 : t ≤ 281474976710656 := ht1; refine fldA ?_; refine ld (.slice B m c2) (G1.cell rfl) ?_; refine len ?_; refine cD (fun hlt2 => ?_) (fun hge2 => ?_)
      · refine cD (fun h92 => ?_) (fun h92 => ?_)
        · obtain ⟨by_, oy, csy, y, rfl, hy, -, -, hcy, hrep⟩ := (hp.ext x1).at_ (k := j) (by omega); obtain ⟨A3, n3, c3, rfl, hs3, -, hI3⟩ := wr_ex hrep; have hl3 := hs3.le; refine arI (n := t + 1) (by omega) ?_; refine fldA ?_; refine ld (.slice (some (ad by_ oy)) m c2) (G1.cell rfl) ?_; refine idx j rfl (by omega) ?_; refine fldA ?_; refine ld (.slice A3 n3 c3) (hcy 1 _ rfl) ?_; refine len ?_; refine arI (n := t + 1 + (n3 : Int)) (by omega) ?_; refine arI (n := (j : Int) + 1) (by omega) ?_; exact next (j + 1, t + 1 + (n3 : Int)) ⟨rfl, by rw [Int.natCast_add]; rfl, trivial⟩ ⟨by show j + 1 ≤ m; omega, rfl, by show 0 ≤ t + 1 + (n3 : Int); omega, by show t + 1 + (n3 : Int) ≤ 281474976710656; omega⟩ (by show m - (j + 1) < m - j; omega)
        · refine cD (fun _ => ?_) (fun _ => ?_)
          · exact ret1 (.bool true) rfl ⟨true, rfl, x1⟩
          · exact ret1 (.bool false) rfl ⟨false, rfl, x1⟩
      · refine cD (fun _ => ?_) (fun _ => ?_)
        · exact ret1 (.bool true) rfl ⟨true, rfl, x1⟩
        · exact ret1 (.bool false) rfl ⟨false, rfl, x1⟩
  · refine loop_rule (fun p : Nat × Int => [(3, iv p.2), (5, iv (p.1 : Int))]) (fun p u => p.1 ≤ m ∧ w1 = u ∧ 0 ≤ p.2 ∧ p.2 ≤ 281474976710656) (fun p _ => m - p.1) (0, s) ⟨rfl, rfl, trivial⟩ ⟨Nat.zero_le _, rfl, hs0, hs1⟩ rfl ?_; rintro G2 ⟨j, t⟩ u ⟨hj, rfl, ht0, ht1⟩; have hj : j ≤ m := hj; have ht0 : 0 ≤ t := ht0; have ht1 : t ≤ 281474976710656 := ht1; refine fldA ?_; refine ld (.slice B m c2) (G1.cell rfl) ?_; refine len ?_; refine cD (fun hlt2 => ?_) (fun hge2 => ?_)
    · refine cD (fun h92 => ?_) (fun h92 => ?_)
      · obtain ⟨by_, oy, csy, y, rfl, hy, -, -, hcy, hrep⟩ := (hp.ext x1).at_ (k := j) (by omega); obtain ⟨A3, n3, c3, rfl, hs3, -, hI3⟩ := wr_ex hrep; have hl3 := hs3.le; refine arI (n := t + 1) (by omega) ?_; refine fldA ?_; refine ld (.slice (some (ad by_ oy)) m c2) (G1.cell rfl) ?_; refine idx j rfl (by omega) ?_; refine fldA ?_; refine ld (.slice A3 n3 c3) (hcy 1 _ rfl) ?_; refine len ?_; refine arI (n := t + 1 + (n3 : Int)) (by omega) ?_; refine arI (n := (j : Int) + 1) (by omega) ?_; exact next (j + 1, t + 1 + (n3 : Int)) ⟨rfl, by rw [Int.natCast_add]; rfl, trivial⟩ ⟨by show j + 1 ≤ m; omega, rfl, by show 0 ≤ t + 1 + (n3 : Int); omega, by show t + 1 + (n3 : Int) ≤ 281474976710656; omega⟩ (by show m - (j + 1) < m - j; omega)
      · refine cD (fun _ => ?_) (fun _ => ?_)
        · exact ret1 (.bool true) rfl ⟨true, rfl, x1⟩
        · exact ret1 (.bool false) rfl ⟨false, rfl, x1⟩
    · refine cD (fun _ => ?_) (fun _ => ?_)
      · exact ret1 (.bool true) rfl ⟨true, rfl, x1⟩
      · exact ret1 (.bool false) rfl ⟨false, rfl, x1⟩
end
section
variable {D D2 : Nat → Prop} {w : World}
set_option maxRecDepth 4000 in
set_option maxHeartbeats 1000000 in
theorem c_r04Same {d : Dsk} {cs cs2 : List Value} (hd : DskR D w cs d) (he : DskR D2 w cs2 d) : CallZ Tryz.prog 29 #[.agg cs.toArray, .agg cs2.toArray] w (fun v w' => v = .bool true ∧ Ext w w') := by
  obtain ⟨A, n, c, B, m, c2, rfl, hs, hc, hp, hc2, hI⟩ := hd.ex; obtain ⟨A', n', c', B', m', c2', rfl, hs', hc', hp', hc2', hI'⟩ := he.ex
  have hn : n' = n := by rw [← hs.len, ← hs'.len]
  have hm : m' = m := by rw [← hp.len, ← hp'.len]
  subst hn; subst hm; have e1 := hs.le; have e2 := hp.le; refine fn_rule (args := [.agg #[.slice A n' c, .slice B m' c2, iv d.left, .bool d.stop], .agg #[.slice A' n' c', .slice B' m' c2', iv d.left, .bool d.stop]]) Tryz.func29 (by kernel_rfl) ?_; refine box (fun g w1 h1 => ?_); refine box (fun g2 w2 h2 => ?_); have G1 : Blk w2 g 44 [.slice A n' c, .slice B m' c2, iv d.left, .bool d.stop] := h1.blk.ext h2.ext; have G2 : Blk w2 g2 44 [.slice A' n' c', .slice B' m' c2', iv d.left, .bool d.stop] := h2.blk; have x2 := h1.ext.trans h2.ext; refine fldA ?_; refine ld (.slice A n' c) (G1.cell rfl) ?_; refine len ?_; refine fldA ?_; refine ld (.slice A' n' c') (G2.cell rfl) ?_; refine len ?_; refine cN (fun h => absurd rfl h) (fun _ => ?_); refine fldA ?_; refine ld (.slice B m' c2) (G1.cell rfl) ?_; refine len ?_; refine fldA ?_; refine ld (.slice B' m' c2') (G2.cell rfl) ?_; refine len ?_; refine cN (fun h => absurd rfl h) (fun _ => ?_); refine fldA ?_; refine ld (iv d.left) (G1.cell rfl) ?_; refine fldA ?_; refine ld (iv d.left) (G2.cell rfl) ?_; refine cN (fun h => absurd rfl h) (fun _ => ?_); refine fldA ?_; refine ld (.bool d.stop) (G1.cell rfl) ?_; refine fldA ?_; refine ld (.bool d.stop) (G2.cell rfl) ?_; refine neB (fun h => absurd rfl h) (fun _ => ?_); refine loop_rule (fun k : Nat => [(5, iv (k : Int))]) (fun k u => k ≤ n' ∧ w2 = u) (fun k _ => n' - k) 0 ⟨rfl, trivial⟩ ⟨by omega, rfl⟩ rfl ?_; rintro G k u ⟨hk, rfl⟩; refine fldA ?_; refine ld (.slice A n' c) (G1.cell rfl) ?_; refine len ?_; refine cD (fun hlt => ?_) (fun hge => ?_)
  · obtain ⟨b1, o1, cs1, x, rfl, hx, -, -, hc1, A1, n1, c1, rfl, hs1, -⟩ := (hs.ext x2).at_ (k := k) (by omega); obtain ⟨b2, o2, cs2, y, rfl, hy, -, -, hc2', A2, n2, c2'', rfl, hs2, -⟩ := (hs'.ext x2).at_ (k := k) (by omega); rw [hx] at hy; injection hy with hy; subst hy; refine drawP (.take 0 (.take 1 (.take 2 (.take 3 (.take 4 (.take 6 (.take 7 (.take 8 (.take 9 (.take 10 (.alt 5 (.eff 11 (.take 12 .done)) (.eff 11 (.eff 5 (.take 12 .done)))))))))))))) [] (fun z => z = w2) mx (by kernel_rfl) rfl ?_; refine fldA ?_; refine ld (.slice (some (ad b1 o1)) n' c) (G1.cell rfl) ?_; refine idx k rfl (by omega) ?_; refine ld (.slice A1 n1 c1) (hc1 0 _ rfl) ?_; refine fldA ?_; refine ld (.slice (some (ad b2 o2)) n' c') (G2.cell rfl) ?_; refine idx k rfl (by omega) ?_; refine ld (.slice A2 n2 c2'') (hc2' 0 _ rfl) ?_; refine ⟨?yl6, ?yr6⟩
    case' yl6 =>
      refine cvBS rfl hs1 ?_; refine strS rfl ?_; refine cvBS rfl hs2 ?_; refine strS rfl ?_
    case' yr6 =>
      refine cvBS rfl hs2 ?_; refine strS rfl ?_; refine cvBS rfl hs1 ?_; refine strS rfl ?_
    all_goals
      refine neStr (fun hne => absurd rfl hne) (fun _ => ?_); refine arI (n := (k : Int) + 1) (by omega) ?_; exact next (k + 1) ⟨by rw [Int.natCast_add]; rfl, trivial⟩ ⟨by omega, rfl⟩ (by omega)
  refine loop_rule (fun k : Nat => [(6, iv (k : Int))]) (fun k u => k ≤ m' ∧ w2 = u) (fun k _ => m' - k) 0 ⟨rfl, trivial⟩ ⟨by omega, rfl⟩ rfl ?_; rintro G3 j u ⟨hj, rfl⟩; refine fldA ?_; refine ld (.slice B m' c2) (G1.cell rfl) ?_; refine len ?_; refine cD (fun hlt => ?_) (fun hge => ?_)
  · obtain ⟨b1, o1, cs1, x, rfl, hx, -, -, hc1, hr1⟩ := (hp.ext x2).at_ (k := j) (by omega); obtain ⟨b2, o2, cs2, y, rfl, hy, -, -, hc2x, hr2⟩ := (hp'.ext x2).at_ (k := j) (by omega); rw [hx] at hy; injection hy with hy; subst hy; obtain ⟨A1, n1, c1, rfl, hs1, -, -⟩ := wr_ex hr1; obtain ⟨A2, n2, c2'', rfl, hs2, -, -⟩ := wr_ex hr2; refine drawP (.take 0 (.take 1 (.take 2 (.take 3 (.take 4 (.take 5 (.take 6 (.take 7 (.take 8 (.take 9 (.take 10 (.take 11 (.take 12 (.take 13 (.take 14 (.take 15 (.take 16 (.take 17 (.take 18 (.take 19 (.take 21 (.take 22 (.take 23 (.take 24 (.take 25 (.take 26 (.alt 20 (.eff 27 (.take 28 (.take 29 .done))) (.eff 27 (.eff 20 (.take 28 (.take 29 .done))))))))))))))))))))))))))))))) [] (fun z => z = w2) mx (by kernel_rfl) rfl ?_; refine fldA ?_; refine ld (.slice (some (ad b1 o1)) m' c2) (G1.cell rfl) ?_; refine idx j rfl (by omega) ?_; refine fldA ?_; refine ld (iv x.at_) (hc1 0 _ rfl) ?_; refine fldA ?_; refine ld (.slice (some (ad b2 o2)) m' c2') (G2.cell rfl) ?_; refine idx j rfl (by omega) ?_; refine fldA ?_; refine ld (iv x.at_) (hc2x 0 _ rfl) ?_; refine cN (fun h => absurd rfl h) (fun _ => ?_); refine fldA ?_; refine ld (.slice (some (ad b1 o1)) m' c2) (G1.cell rfl) ?_; refine idx j rfl (by omega) ?_; refine fldA ?_; refine ld (.slice A1 n1 c1) (hc1 1 _ rfl) ?_; refine fldA ?_; refine ld (.slice (some (ad b2 o2)) m' c2') (G2.cell rfl) ?_; refine idx j rfl (by omega) ?_; refine fldA ?_; refine ld (.slice A2 n2 c2'') (hc2x 1 _ rfl) ?_; refine ⟨?yl7, ?yr7⟩
    case' yl7 =>
      refine cvBS rfl hs1 ?_; refine strS rfl ?_; refine cvBS rfl hs2 ?_; refine strS rfl ?_
    case' yr7 =>
      refine cvBS rfl hs2 ?_; refine strS rfl ?_; refine cvBS rfl hs1 ?_; refine strS rfl ?_
    all_goals
      refine neStr (fun hne => absurd rfl hne) (fun _ => ?_); refine arI (n := (j : Int) + 1) (by omega) ?_; exact next (j + 1) ⟨by rw [Int.natCast_add]; rfl, trivial⟩ ⟨by omega, rfl⟩ (by omega)
  · exact ret1 (.bool true) rfl ⟨rfl, x2⟩
end
section
variable {D : Nat → Prop} {w : World}
set_option maxRecDepth 4000 in
set_option maxHeartbeats 1000000 in
theorem c_r04Write {d : Dsk} {cs : List Value} {i : Int} {E : Option Addr} {k ce : Nat} {b : List Nat} (hd : DskR D w cs d) (hi : I64 i) (hb : SlR tU8 D w E k b) : CallZ Tryz.prog 114 #[.agg cs.toArray, iv i, .slice E k ce] w (fun v w' => RetE D w w' v (writeP d i b)) := by
  obtain ⟨A, n, c, B, m, c2, rfl, hs, hc, hp, hc2, hI⟩ := hd.ex; have ln := hs.len; have lm := hp.len; have lk := hb.len; have lke := hb.le; have hb256 := hb.u8b; have hs0 := hs.more (D' := fun b => D b ∧ b < w.heap.size) (by decide) fun b hb h => ⟨h, hb⟩; have hp0 := hp.more (D' := fun b => D b ∧ b < w.heap.size) (by decide) fun b hb h => ⟨h, hb⟩; refine fn_rule (args := [.agg #[.slice A n c, .slice B m c2, iv d.left, .bool d.stop], iv i, .slice E k ce]) Tryz.func114 (by kernel_rfl) ?_; refine box (fun g w1 h1 => ?_); have G1 : Blk w1 g 44 [.slice A n c, .slice B m c2, iv d.left, .bool d.stop] := h1.blk; refine alloc (fun b6 w2 h2 => ?_); have R2 : Blk w2 b6 44 zeroDC := h2.blk; have e1 := h1.at_; have e2 := h2.at_; have x02 := h1.ext.trans h2.ext; have s1 := h1.ext.size; have lg := G1.lt; refine ldA [.slice A n c, .slice B m c2, iv d.left, .bool d.stop] (.blk (G1.ext h2.ext)) rfl ?_; refine call_of (c_r04Check (hd.ext x02)) ?_; rintro _ w3 ⟨rfl, x3⟩; have x03 := x02.trans x3; have R3 := R2.ext x3; have G3 := (G1.ext h2.ext).ext x3; have s03 := x03.size; have lR3 := R3.lt; have lG3 := G3.lt; refine cN (fun h => ?_) (fun h => ?_)
  · have hno : ¬ okD d := fun q => h (dskE_0.2 q)
    have hres : writeP d i b = (zeroD, 40) := by unfold writeP runsB; rw [if_pos (fun q => hno (of_decide_eq_true q.1).1)]
    refine bld zeroDC (by kernel_rfl) ?_; refine stA (vs := zeroDC) R3 rfl (Nat.le_of_ble_eq_true rfl) (by simp [Value.oneCell']) (fun we Be ke _ => ?_); refine ret ?_; refine resL (.agg (zeroDC).toArray) (holds_agg (.blk Be) rfl) ?_; exact ⟨zeroDC, by rw [hres]; rfl, by rw [hres]; exact zeroD_r, x03.then ke fun i hi _ e => by omega⟩
  have hok : okD d := dskE_0.1 h
  cases hst : d.stop with
  | true =>
    refine fldA ?_; refine ld (.bool true) (G3.cell (by rw [hst]; rfl)) ?_
    have hres : writeP d i b = (zeroD, 40) := by unfold writeP runsB; rw [if_pos (fun q => by have := (of_decide_eq_true q.1).2; rw [hst] at this; cases this)]
    refine bld zeroDC (by kernel_rfl) ?_; refine stA (vs := zeroDC) R3 rfl (Nat.le_of_ble_eq_true rfl) (by simp [Value.oneCell']) (fun we Be ke _ => ?_); refine ret ?_; refine resL (.agg (zeroDC).toArray) (holds_agg (.blk Be) rfl) ?_; exact ⟨zeroDC, by rw [hres]; rfl, by rw [hres]; exact zeroD_r, x03.then ke fun i hi _ e => by omega⟩
  | false =>
  refine fldA ?_; refine ld (.bool false) (G3.cell (by rw [hst]; rfl)) ?_; refine cD (fun hlt => ?_) (fun hge => ?_)
  · have hres : writeP d i b = (zeroD, 40) := by unfold writeP dhasB; rw [if_pos (fun q => by have := (of_decide_eq_true q.2).1; omega)]
    refine bld zeroDC (by kernel_rfl) ?_; refine stA (vs := zeroDC) R3 rfl (Nat.le_of_ble_eq_true rfl) (by simp [Value.oneCell']) (fun we Be ke _ => ?_); refine ret ?_; refine resL (.agg (zeroDC).toArray) (holds_agg (.blk Be) rfl) ?_; exact ⟨zeroDC, by rw [hres]; rfl, by rw [hres]; exact zeroD_r, x03.then ke fun i hi _ e => by omega⟩
  refine fldA ?_; refine ld (.slice A n c) (G3.cell rfl) ?_; refine len ?_; refine cD (fun hlt => ?_) (fun hge2 => ?_)
  · have hres : writeP d i b = (zeroD, 40) := by unfold writeP dhasB; rw [if_pos (fun q => by have := (of_decide_eq_true q.2).2; omega)]
    refine bld zeroDC (by kernel_rfl) ?_; refine stA (vs := zeroDC) R3 rfl (Nat.le_of_ble_eq_true rfl) (by simp [Value.oneCell']) (fun we Be ke _ => ?_); refine ret ?_; refine resL (.agg (zeroDC).toArray) (holds_agg (.blk Be) rfl) ?_; exact ⟨zeroDC, by rw [hres]; rfl, by rw [hres]; exact zeroD_r, x03.then ke fun i hi _ e => by omega⟩
  have hrun : ¬ ¬ (runsB d = true ∧ dhasB d i = true) := fun q => q ⟨by unfold runsB; exact decide_eq_true ⟨hok, hst⟩, by unfold dhasB; exact decide_eq_true ⟨by omega, by omega⟩⟩; refine len ?_; refine cD (fun hlt => ?_) (fun hle => ?_)
  · have hres : writeP d i b = (zeroD, 1) := by unfold writeP; rw [if_neg hrun, if_pos (by omega)]
    refine bld zeroDC (by kernel_rfl) ?_; refine stA (vs := zeroDC) R3 rfl (Nat.le_of_ble_eq_true rfl) (by simp [Value.oneCell']) (fun we Be ke _ => ?_); refine ret ?_; refine resL (.agg (zeroDC).toArray) (holds_agg (.blk Be) rfl) ?_; exact ⟨zeroDC, by rw [hres]; rfl, by rw [hres]; exact zeroD_r, x03.then ke fun i hi _ e => by omega⟩
  refine fldA ?_; refine ld (.slice B m c2) (G3.cell rfl) ?_; refine len ?_; refine cE (fun heq => ?_) (fun hne => ?_)
  · have hres : writeP d i b = (zeroD, 2) := by unfold writeP; rw [if_neg hrun, if_neg (by omega), if_pos (by omega)]
    refine bld zeroDC (by kernel_rfl) ?_; refine stA (vs := zeroDC) R3 rfl (Nat.le_of_ble_eq_true rfl) (by simp [Value.oneCell']) (fun we Be ke _ => ?_); refine ret ?_; refine resL (.agg (zeroDC).toArray) (holds_agg (.blk Be) rfl) ?_; exact ⟨zeroDC, by rw [hres]; rfl, by rw [hres]; exact zeroD_r, x03.then ke fun i hi _ e => by omega⟩
  have hres : writeP d i b = (⟨d.secs, d.pend ++ [⟨i, padB b⟩], d.left, d.stop⟩, 0) := by unfold writeP; rw [if_neg hrun, if_neg (by omega), if_neg (by omega)]
  have hpm : m ≤ 4096 := by have := hok.2.2.1; omega
  refine lit [] (fun g4 w4 h4 => ?_); have o4 : OwnF w3 w4 (some (ad g4 0)) 0 0 5 1 [] := OwnF.lit (cs := []) (.refl _ _) h4 rfl; refine appF o4 (hb.ext (x03.trans h4.ext)).u8src (by omega) (fun A5 c5 w5 o5 _ _ => ?_) (h1 := u8s_one _); rw [List.nil_append, Nat.zero_add] at o5; rw [Nat.zero_add]; refine loop4 (fun (z : Nat) (X : Option Addr) (q e : Nat) => [(8, .slice X q e)]) (fun z X q e u => q = k + z ∧ q ≤ 128 ∧ OwnF w3 u X q e 5 1 (u8s (b ++ List.replicate z 0))) (fun z _ _ _ _ => 128 - z) 0 A5 k c5 ⟨rfl, trivial⟩ ⟨rfl, by omega, by simpa using o5⟩ rfl ?_; rintro G z X q e u ⟨hq, hq128, own⟩; have own : OwnF w3 u X q e 5 1 (u8s (b ++ List.replicate z 0)) := own; have hq : q = k + z := hq; refine len ?_; refine cD (fun hlt => ?_) (fun hge3 => ?_)
  · refine lit [uv8 0] (fun g6 u1 h6 => ?_); refine appF (own.then h6.ext) (h6.src (n := 1) rfl) (by omega) (fun X' e' u2 own2 _ _ => ?_); refine next4 (z + 1) X' (q + 1) e' ⟨rfl, trivial⟩ ⟨by omega, by omega, ?_⟩ (by omega)
    have e : u8s (b ++ List.replicate (z + 1) 0) = u8s (b ++ List.replicate z 0) ++ [uv8 0] := by
      rw [List.replicate_succ', ← List.append_assoc]; exact List.map_append
    rw [e]; exact own2
  have hq' : q = 128 := by omega
  have hz : z = 128 - b.length := by omega
  have hpad : b ++ List.replicate z 0 = padB b := by unfold padB; rw [hz]
  rw [hpad] at own; subst hq'; have x3u := own.ext; have s3u := x3u.size; refine lit [] (fun g7 v1 h7 => ?_); have o7 : OwnF w3 v1 (some (ad g7 0)) 0 0 104 2 [] := (OwnF.lit (cs := []) (.refl _ _) h7 rfl).base x3u; have x3v := x3u.trans h7.ext; refine fldA ?_; refine ld (.slice B m c2) ((G3.ext x3v).cell rfl) ?_; obtain ⟨cs8, src8, f8⟩ := (hp0.ext (x03.trans x3v)).srcs; refine appF o7 src8 (by omega) (fun A8 c8 v2 o8 k8 hA8 => ?_) (h1 := flatW_one f8); rw [List.nil_append, Nat.zero_add] at o8; rw [Nat.zero_add]; refine bld [iv i, .slice X 128 e] (by kernel_rfl) ?_; have e7 := h7.at_; have sx : SlR tU8 (fun b => w3.heap.size ≤ b ∧ b < u.heap.size) u X 128 (padB b) := (own.u8 (D := fun b => w3.heap.size ≤ b) (padB_lt hb256) (by omega) fun b h => h).more (by decide) fun b hb h => ⟨h, hb⟩
  have sx := (sx.ext h7.ext).kept k8 fun b _ h e => by injection e with e; injection e with e; omega
  refine lit [.agg #[iv i, .slice X 128 e]] (fun g9 v3 h9 => ?_); have sx := sx.ext h9.ext
  have hA8' : ∀ b, A8 = some (ad b 0) → u.heap.size ≤ b := fun b hb => by
    rcases hA8 with q | q | q
    · rw [q] at hb; injection hb with hb; injection hb with hb; omega
    · rw [q] at hb; cases hb
    · rw [q] at hb; injection hb with hb; injection hb with hb; have := h7.ext.size; omega
  refine appF (o8.then h9.ext) (h9.src (sz := 2) rfl) (by omega) (fun A9 c9 v4 o9 k9 _ => ?_)
  have sx := sx.kept k9 fun b _ h e => by have := hA8' b e; omega
  have x34 := o9.ext; have s34 := x34.size; refine fldA ?_; refine st (G3.ext x34) (Nat.le_of_ble_eq_true rfl) rfl (fun wa Ga ka _ => ?_); have Ga : Blk wa g 44 [.slice A n c, .slice A9 (m + 1) c9, iv d.left, .bool d.stop] := Ga; have Ra := (R3.ext x34).kept ka (show b6 ≠ g by omega); refine ldA [.slice A n c, .slice A9 (m + 1) c9, iv d.left, .bool d.stop] (.blk Ga) rfl ?_; refine stA (vs := [.slice A n c, .slice A9 (m + 1) c9, iv d.left, .bool d.stop]) Ra rfl (Nat.le_of_ble_eq_true rfl) (by simp [Value.oneCell']) (fun we Be ke _ => ?_); refine ret ?_; refine resL (.agg #[.slice A n c, .slice A9 (m + 1) c9, iv d.left, .bool d.stop]) (holds_agg (.blk Be) rfl) ?_; have kE : Kept (fun i => i ≠ g ∧ i ≠ b6) v4 we := (ka.weak fun i _ h => h.1).then ke fun i _ h => h.2
  have xe : Ext w we := (x03.trans x34).then kE fun i hi _ => by omega
  refine ⟨[.slice A n c, .slice A9 (m + 1) c9, iv d.left, .bool d.stop], by rw [hres]; rfl, ?_, xe⟩; rw [hres]; have f8e : FlatR tWr (fun b => (D b ∧ b < w.heap.size) ∨ (w3.heap.size ≤ b ∧ b < u.heap.size)) we d.pend cs8 := (f8.keep fun j hj h => (xe.blk j h.2 trivial).trans (((x03.trans x3v).blk j h.2 trivial).symm)).more fun _ _ h => .inl h; have sxe : SlR tU8 (fun b => (D b ∧ b < w.heap.size) ∨ (w3.heap.size ≤ b ∧ b < u.heap.size)) we X 128 (padB b) := (sx.kept kE fun b _ h => by omega).more (by decide) fun _ _ h => .inr h; have fE := flatW_app (x := ⟨i, padB b⟩) f8e sxe own.le hi; have ownE := o9.own.kept kE (fun j hj => by have h := o9.new j (own_at o9.own hj); omega); exact ⟨⟨A, n, c, A9, m + 1, c9, rfl, (hs0.ext xe).more (by decide) fun _ _ h => .inl h.1, hc, ownE.rd (a := tWr) (fE.more fun j _ h => h.elim (fun h => .inl h.1) fun h => .inr (by omega)) (by rw [List.length_append, lm]; rfl) (by omega) fun j hj => .inr (by have h := o9.new j (own_at o9.own (by rw [hj]; rfl)); omega), o9.le, hI⟩⟩
end
end Go.Proofs.YtehcphboliofaaaGreatDoor
