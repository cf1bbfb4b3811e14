/- Parts of the proof: Lf Lg Lh Li Lj Ll. -/
import Derived.Test.YtehcphboliofaaaGreatDoorPT10
import Derived.Test.YtehcphboliofaaaGreatDoorPT4
import Derived.Test.YtehcphboliofaaaGreatDoorPT9
import Derived.Test.YtehcphboliofaaaGreatDoorPT6

/- Layer 2: the program's Sum. -/
namespace Go.Proofs.YtehcphboliofaaaGreatDoor
open Go Go.RowKit

/-- A state behind some blocks. -/
def absK (s b : List Nat) : Nat → List Nat
  | 0 => s
  | k + 1 => absV (absK s b k) ((b.drop (64 * k)).take 64)
theorem absK_ok {s b : List Nat} (h : W8 s) : ∀ k, W8 (absK s b k)
  | 0 => h
  | k + 1 => absV_ok (absK_ok h k)
/-- What is hashed behind the whole blocks. -/
def restL (b : List Nat) : List Nat := b.drop (64 * (b.length / 64))
theorem restL_len (b : List Nat) : (restL b).length = b.length % 64 := by unfold restL; rw [List.length_drop]; omega
def endM (b : List Nat) : Nat := if b.length % 64 ≤ 55 then 64 else 128
def endB (b : List Nat) : List Nat := restL b ++ 128 :: (List.replicate (endM b - 9 - b.length % 64) 0 ++ beB 8 (8 * b.length))
theorem endB_len (b : List Nat) : (endB b).length = endM b := by
  unfold endB
  rw [List.length_append, List.length_cons, List.length_append, List.length_replicate, beB_len, restL_len]
  unfold endM
  split <;> omega
theorem endB_lt {b : List Nat} (h : ∀ x ∈ b, x < 256) : ∀ x ∈ endB b, x < 256 := fun x hx => by
  unfold endB at hx
  rcases List.mem_append.1 hx with hx | hx
  · exact h x (List.mem_of_mem_drop hx)
  rcases List.mem_cons.1 hx with rfl | hx
  · omega
  rcases List.mem_append.1 hx with hx | hx
  · rw [List.mem_replicate] at hx; omega
  · exact beB_lt _ _ x hx
/-- The hash of bytes. -/
def shaB (b : List Nat) : List Nat := (absK (absK startL b (b.length / 64)) (endB b) (endM b / 64)).flatMap (beB 4)
theorem flatB_len : ∀ {s : List Nat}, (s.flatMap (beB 4)).length = 4 * s.length
  | [] => rfl
  | x :: s => by rw [List.flatMap_cons, List.length_append, beB_len, flatB_len, List.length_cons]; omega
theorem shaB_len (b : List Nat) : (shaB b).length = 32 := by
  unfold shaB
  rw [flatB_len, (absK_ok (absK_ok start_ok _) _).1]
theorem shaB_lt (b : List Nat) : ∀ x ∈ shaB b, x < 256 := fun x hx => by
  obtain ⟨y, -, hx⟩ := List.mem_flatMap.1 hx
  exact beB_lt _ _ x hx
theorem NumW.kept {D : Nat → Prop} {w w' : World} (h : NumW w) (k : Kept D w w') (h1 : D 0) (h2 : D 1) : NumW w' := ⟨CellsAt.kept h.1 k h1, CellsAt.kept h.2 k h2⟩
theorem NumW.lt {w : World} (h : NumW w) : 0 < w.heap.size ∧ 1 < w.heap.size := ⟨lt_of_cell (h.1 0 _ rfl), lt_of_cell (h.2 0 _ rfl)⟩
theorem u8s_app (a b : List Nat) : u8s (a ++ b) = u8s a ++ u8s b := List.map_append
theorem u8s_rep (n x : Nat) : u8s (List.replicate n x) = List.replicate n (uv8 x) := List.map_replicate
theorem mul64 {K : Value → Prop} {a b : Nat} (h : a * b < 18446744073709551616) (k : K (uv64 (a * b))) : ArP .u64 ((a : Int) * (b : Int)) K := by
  rw [ArP_eq, u64_wrap, ← Int.natCast_mul, show (((a * b : Nat) : Int)) % 18446744073709551616 = ((a * b : Nat) : Int) by omega]; exact k
theorem end_cells {b : List Nat} {m M n : Nat} (hrl : (restL b).length = m) (h1 : m + 9 ≤ M) (h2 : M ≤ 128) (hM : endM b = M) (hn : b.length = n) :
    (u8s (restL b ++ [128]) ++ List.replicate (127 - m) (uv8 0)).take (M - 8) ++ u8s (beB 8 (n * 8)) ++ (u8s (restL b ++ [128]) ++ List.replicate (127 - m) (uv8 0)).drop (M - 8 + 8) = u8s (endB b) ++ List.replicate (128 - M) (uv8 0) := by
  have hl : (u8s (restL b ++ [128])).length = m + 1 := by rw [List.length_map, List.length_append, hrl]; rfl
  have hmm : b.length % 64 = m := by rw [← restL_len]; exact hrl
  rw [List.take_append, List.drop_append, List.take_of_length_le (by omega), List.drop_of_length_le (by omega), hl, List.take_replicate, List.drop_replicate]
  unfold endB
  rw [hM, hmm, hn, show (128 :: (List.replicate (M - 9 - m) 0 ++ beB 8 (8 * n)) : List Nat) = [128] ++ (List.replicate (M - 9 - m) 0 ++ beB 8 (8 * n)) from rfl, show min (M - 8 - (m + 1)) (127 - m) = M - 9 - m by omega, show 127 - m - (M - 8 + 8 - (m + 1)) = 128 - M by omega, Nat.mul_comm n 8]
  simp only [u8s_app, u8s_rep, List.append_assoc, List.nil_append]
theorem put_cells {X : List Value} {B : List Value} {k r : Nat} {z : Value} (h1 : X.length = k) : (X ++ List.replicate r z).take k ++ B ++ (X ++ List.replicate r z).drop (k + 4) = X ++ (B ++ List.replicate (r - 4) z) := by
  rw [List.take_append, List.take_of_length_le (by omega), List.drop_append, List.drop_of_length_le (by omega), List.drop_replicate, h1, Nat.sub_self, List.take_zero, List.append_nil, List.nil_append, show r - (k + 4 - k) = r - 4 by omega, List.append_assoc]
section
variable {D : Nat → Prop} {w : World}
set_option maxRecDepth 8000 in
set_option maxHeartbeats 4000000 in
theorem c_dSum {A : Option Addr} {n c : Nat} {b : List Nat} (hN : NumW w) (hs : SlR tU8 D w A n b) (hc : n ≤ c) : CallZ Tryz.prog 134 #[.slice A n c] w (fun v w' => v = .agg (u8s (shaB b)).toArray ∧ Ext w w') := by
  have hs := hs.more (D' := fun b => b < w.heap.size) (by decide) fun b hb _ => hb
  have hby := hs.u8b
  have hlen := hs.len
  have hle := hs.le
  have hNl := hN.lt
  refine fn_rule (args := [.slice A n c]) Tryz.func134 (by kernel_rfl) ?_
  refine alloc (fun b2 w1 h1 => ?_)
  have e2 := h1.at_
  have B2 : Blk w1 b2 47 (List.replicate 32 (uv8 0)) := h1.blk
  have hN1 := hN.ext h1.ext
  refine ldA (u32s startL) hN1.1 rfl ?_
  refine alloc (fun b3 w2 h2 => ?_)
  refine stA (vs := u32s startL) h2.blk rfl (Nat.le_of_ble_eq_true rfl) (by simp [startL, Value.oneCell']) (fun w3 B3 k3 z3 => ?_)
  have e3 := h2.at_
  have B3 : Blk w3 b3 278 (u32s startL) := B3
  have x13 : Ext w1 w3 := h2.ext.then k3 fun b hb _ e => by omega
  have x3 := h1.ext.trans x13
  have B2 := B2.ext x13
  have hN := hN1.ext x13
  have s13 := x13.size
  have s1 := h1.ext.size
  have l3 := B3.lt
  have l2 := h1.blk.lt
  have hs3 := (hs.ext x3).more (D' := fun b => b ≠ b3 ∧ b < w3.heap.size) (by decide) fun b hb h => ⟨by omega, hb⟩
  clear h1 h2 k3 z3
  refine loop4 (fun (_ : Nat) (A' : Option Addr) (m cm : Nat) => [(5, .slice A' m cm)]) (fun k A' m cm u => 64 * k ≤ n ∧ SlR tU8 (fun b => b ≠ b3 ∧ b < w3.heap.size) u A' m (b.drop (64 * k)) ∧ m ≤ cm ∧ Blk u b3 278 (u32s (absK startL b k)) ∧ Kept (fun b => b ≠ b3) w3 u) (fun k _ _ _ _ => n - 64 * k) 0 A n c ⟨rfl, trivial⟩ ⟨by omega, hs3, hc, B3, .refl _ _⟩ rfl ?_
  rintro G k A' m cm u ⟨hk, hsu, hcu, Bu, ku⟩
  have hm : m = n - 64 * k := by have := hsu.1; rw [List.length_drop] at this; omega
  refine len ?_
  refine cD (fun hlt => ?_) (fun hge => ?_)
  · refine slcR 0 64 hsu hcu rfl rfl (by omega) (by omega) rfl (fun A2 hA2 => ?_)
    have sl := hA2 _ u hsu
    rw [List.drop_zero] at sl
    refine call_of (c_absorb (hN.kept ku (by omega) (by omega)) Bu (absK_ok start_ok k) sl (by omega) (by omega)) ?_
    rintro _ u2 ⟨rfl, B2, k2⟩
    refine slcR 64 m hsu hcu rfl rfl (by omega) (by omega) rfl (fun A3 hA3 => ?_)
    have s3 := hA3 _ u2 (hsu.kept k2 fun b _ h => h.1)
    rw [List.take_of_length_le (by rw [hsu.1]; omega), List.drop_drop] at s3
    refine next4 (k + 1) A3 (m - 64) (cm - 64) ⟨rfl, trivial⟩ ⟨by omega, by rw [show 64 * (k + 1) = 64 * k + 64 by omega]; exact s3, by omega, ?_, ku.trans k2⟩ (by omega)
    have e : absK startL b (k + 1) = absV (absK startL b k) (((b).drop (64 * k)).take 64) := rfl
    rw [e]
    have e2 : ((((b).drop (64 * k)).take 64).take 64) = (((b).drop (64 * k)).take 64) := by rw [List.take_take]; rfl
    exact B2
  have hkk : k = n / 64 := by omega
  have hrest : b.drop (64 * k) = restL b := by unfold restL; rw [hkk, hlen]
  rw [hrest] at hsu
  have hS8 : W8 (absK startL b k) := absK_ok start_ok k
  have hkd : absK startL b k = absK startL b (b.length / 64) := by rw [hkk, hlen]
  rw [hkd] at Bu hS8
  obtain ⟨S, hS⟩ : ∃ S, S = absK startL b (b.length / 64) := ⟨_, rfl⟩
  rw [← hS] at Bu hS8
  have hm64 : m < 64 := by omega
  have hmm : m = b.length % 64 := by rw [← restL_len]; exact hsu.1
  have hN := hN.kept ku (show 0 ≠ b3 by omega) (show 1 ≠ b3 by omega)
  have hB2 := B2.kept ku (show b2 ≠ b3 by omega)
  have su := ku.size
  have x0u : Ext w u := x3.then ku fun b hb _ e => by omega
  have hrl : (restL b).length = m := hsu.1.symm
  -- the end
  refine mslcC (sz := 1) (by_ := 1) 64 128 rfl (by omega) rfl (by omega) (by omega) rfl (by omega) (fun ge v1 hq => ?_)
  have ege := hq.at_
  have xq := hq.ext
  have BE : Blk v1 ge 5 (List.replicate 128 (uv8 0)) := hq.blk
  have lge := BE.lt
  have hsv := hsu.ext xq
  refine cpy (n := 64) (m := m) BE (by simp) hsv.u8src (fun v2 BE2 k2 z2 => ?_) (h1 := u8s_one _)
  have BE2 : Blk v2 ge 5 (u8s (restL b) ++ List.replicate (128 - m) (uv8 0)) := by
    rw [List.take_zero, List.nil_append, List.take_of_length_le (by rw [List.length_map]; omega), Nat.zero_add, Nat.min_eq_left (by omega), List.drop_replicate] at BE2
    exact BE2
  refine len ?_
  refine idx m rfl (by omega) ?_
  have hli : 0 + m * 1 < (u8s (restL b) ++ List.replicate (128 - m) (uv8 0)).length := by rw [List.length_append, List.length_map, List.length_replicate]; omega
  refine st BE2 hli rfl (fun v3 BE3 k3 z3 => ?_)
  have BE3 : Blk v3 ge 5 (u8s (restL b ++ [128]) ++ List.replicate (127 - m) (uv8 0)) := by
    have e : List.replicate (128 - m) (uv8 0) = uv8 0 :: List.replicate (127 - m) (uv8 0) := by rw [show 128 - m = 127 - m + 1 by omega]; rfl
    rw [Nat.zero_add, Nat.mul_one, e, set_mid (by rw [List.length_map]; omega)] at BE3
    rw [u8s_app]
    exact BE3
  have k13 : Kept (fun b => b ≠ ge) v1 v3 := k2.trans k3
  have kq3 : Ext u v3 := xq.then k13 fun b hb _ e => by omega
  have Bu3 := Bu.ext kq3
  have B23 := hB2.ext kq3
  have hN3 := hN.ext kq3
  have s3 := kq3.size
  have lb3 := Bu.lt
  have lb2 := hB2.lt
  have hcap : n * 8 < 18446744073709551616 := by omega
  refine len ?_
  refine cD (fun h55 => ?_) (fun h55 => ?_)
  · have hM : endM b = 128 := by unfold endM; rw [if_neg (by omega)]
    refine slcA 0 128 rfl rfl (by omega) (by omega) (by omega) ?_
    refine len ?_
    refine arI (n := (128 : Int) - 8) (by omega) ?_
    refine slcA 120 128 rfl rfl (by omega) (by omega) (by omega) ?_
    refine len ?_
    refine cv64 n rfl ?_
    rw [Nat.mod_eq_of_lt (show n < 18446744073709551616 by omega)]
    refine mul64 (a := n) (b := 8) hcap ?_
    refine call_of (c_dput (o := 120) (n := 8) (N := n * 8) BE3 (by rw [List.length_append, List.length_map, List.length_append, List.length_replicate, hrl]; show 120 + 8 ≤ m + 1 + (127 - m); omega) (by omega)) ?_
    rintro _ v4 ⟨rfl, BE4, k34⟩
    have BE4 : Blk v4 ge 5 (u8s (endB b) ++ List.replicate (128 - 128) (uv8 0)) := by
      rw [end_cells (M := 128) hrl (by omega) (by omega) hM hlen] at BE4
      exact BE4
    have kq4 : Ext u v4 := kq3.then k34 fun b hb _ e => by omega
    have Bu4 := Bu.ext kq4
    have B24 := hB2.ext kq4
    have hN4 := hN.ext kq4
    have s4 := kq4.size
    have hel := endB_len b
    have hE : SlR tU8 (fun b => b ≠ b3 ∧ b < v4.heap.size) v4 (some (ad ge 0)) 128 (endB b) := SlR.of_cells (by rw [hel, hM]) (by omega) ⟨by omega, BE4.lt⟩ (fun j x hx => by rw [Nat.zero_add]; exact BE4.cell (by rw [List.getElem?_append_left (List.getElem?_eq_some_iff.1 hx).1]; exact hx)) (flat_u8s (endB_lt hby))
    clear BE BE2 BE3 BE4 hq k2 z2 k3 z3
    refine loop4 (fun (_ : Nat) (A' : Option Addr) (m cm : Nat) => [(6, .slice A' m cm)]) (fun k A' m cm u => 64 * k ≤ 128 ∧ SlR tU8 (fun b => b ≠ b3 ∧ b < v4.heap.size) u A' m ((endB b).drop (64 * k)) ∧ m ≤ cm ∧ Blk u b3 278 (u32s (absK S (endB b) k)) ∧ Kept (fun b => b ≠ b3) v4 u) (fun k _ _ _ _ => 128 - 64 * k) 0 (some (ad ge 0)) 128 128 ⟨rfl, trivial⟩ ⟨by omega, hE, by omega, Bu4, .refl _ _⟩ rfl ?_
    rintro G2 k A' m cm u ⟨hk, hsu, hcu, Bu, ku⟩
    have hm : m = 128 - 64 * k := by have := hsu.1; rw [List.length_drop, hel, hM] at this; omega
    have hN := hN4
    refine len ?_
    refine cD (fun hlt => ?_) (fun hge => ?_)
    · refine slcR 0 64 hsu hcu rfl rfl (by omega) (by omega) rfl (fun A2 hA2 => ?_)
      have sl := hA2 _ u hsu
      rw [List.drop_zero] at sl
      refine call_of (c_absorb (hN.kept ku (by omega) (by omega)) Bu (absK_ok hS8 k) sl (by omega) (by omega)) ?_
      rintro _ u2 ⟨rfl, B2, k2⟩
      refine slcR 64 m hsu hcu rfl rfl (by omega) (by omega) rfl (fun A3 hA3 => ?_)
      have s3 := hA3 _ u2 (hsu.kept k2 fun b _ h => h.1)
      rw [List.take_of_length_le (by rw [hsu.1]; omega), List.drop_drop] at s3
      refine next4 (k + 1) A3 (m - 64) (cm - 64) ⟨rfl, trivial⟩ ⟨by omega, by rw [show 64 * (k + 1) = 64 * k + 64 by omega]; exact s3, by omega, ?_, ku.trans k2⟩ (by omega)
      have e : absK S (endB b) (k + 1) = absV (absK S (endB b) k) ((((endB b)).drop (64 * k)).take 64) := rfl
      rw [e]
      have e2 : (((((endB b)).drop (64 * k)).take 64).take 64) = ((((endB b)).drop (64 * k)).take 64) := by rw [List.take_take]; rfl
      exact B2
    have hkk : k = 128 / 64 := by omega
    have hF8 : W8 (absK S (endB b) k) := absK_ok hS8 k
    have hsha : shaB b = (absK S (endB b) k).flatMap (beB 4) := by unfold shaB; rw [hS, hkk, hM]
    obtain ⟨F, hF⟩ : ∃ F, F = absK S (endB b) k := ⟨_, rfl⟩
    rw [← hF] at Bu hF8 hsha
    have B2u := B24.kept ku (show b2 ≠ b3 by omega)
    have su2 := ku.size
    have l2u := B2u.lt
    refine ldA (u32s F) (.blk Bu) (by rw [List.length_map]; exact hF8.1) ?_
    refine loop_rule (fun k : Nat => [(54, iv (k : Int))]) (fun k y => k ≤ 8 ∧ Blk y b2 47 (u8s ((F.take k).flatMap (beB 4)) ++ List.replicate (32 - 4 * k) (uv8 0)) ∧ Kept (fun b => b ≠ b2) u y) (fun k _ => 8 - k) 0 ⟨rfl, trivial⟩ ⟨by omega, B2u, .refl _ _⟩ rfl ?_
    rintro G3 k y ⟨hk8, By, ky⟩
    have hFl := hF8.1
    have hfl : ((F.take k).flatMap (beB 4)).length = 4 * k := by rw [flatB_len, List.length_take]; omega
    refine cD (fun hlt => ?_) (fun hge => ?_)
    · have hFk := u32s_at (l := F) (i := k) (by omega)
      have hlt := getD_lt hF8.2 k
      refine idxVc k (uv32 (F.getD k 0)) rfl (by omega) (by rw [Nat.mul_one]; exact hFk) ?_
      refine arI (n := 4 * (k : Int)) (by omega) ?_
      refine arI (n := 4 * (k : Int)) (by omega) ?_
      refine arI (n := 4 * (k : Int) + 4) (by omega) ?_
      refine slcArr (4 * k) (4 * k + 4) (by show 4 * (k : Int) = ((4 * k : Nat) : Int); omega) (by show 4 * (k : Int) + 4 = ((4 * k + 4 : Nat) : Int); omega) (by omega) (by omega) (by omega) ?_
      refine cv64 (F.getD k 0) rfl ?_
      rw [Nat.mod_eq_of_lt (show F.getD k 0 < 18446744073709551616 by omega), show 0 + 4 * k * 1 = 4 * k by omega, show 4 * k + 4 - 4 * k = 4 by omega]
      refine call_of (c_dput (o := 4 * k) (n := 4) By (by rw [List.length_append, List.length_map, hfl, List.length_replicate]; omega) (by omega)) ?_
      rintro _ y2 ⟨rfl, By2, ky2⟩
      refine arI (n := (k : Int) + 1) (by omega) ?_
      refine next (k + 1) ⟨by rw [Int.natCast_add]; rfl, trivial⟩ ⟨by omega, ?_, ky.trans ky2⟩ (by omega)
      rw [put_cells (by rw [List.length_map, hfl])] at By2
      rw [List.take_add_one, List.getElem?_eq_getElem (show k < F.length by omega), List.flatMap_append, u8s_app, List.append_assoc, show 32 - 4 * (k + 1) = 32 - 4 * k - 4 by omega]
      have e : F.getD k 0 = F[k] := by rw [List.getD_eq_getElem?_getD, List.getElem?_eq_getElem (show k < F.length by omega)]; rfl
      rw [e] at By2
      simpa using By2
    have hk8' : k = 8 := by omega
    subst hk8'
    rw [List.take_of_length_le (by omega)] at By
    have By : Blk y b2 47 (u8s (shaB b)) := by rw [hsha]; simpa using By
    have hsl := shaB_len b
    refine ldA (u8s (shaB b)) (.blk By) (by rw [List.length_map]; exact hsl) ?_
    refine stA (vs := u8s (shaB b)) By (by rw [List.length_map]; exact hsl) (by rw [Nat.zero_add]; exact Nat.le_refl _) (fun v hv => List.all_eq_true.1 (u8s_one _) v hv) (fun y2 By2 ky2 zy2 => ?_)
    have By2 : Blk y2 b2 47 (u8s (shaB b)) := by
      rw [List.take_zero, List.nil_append, Nat.zero_add, List.drop_of_length_le (Nat.le_refl _), List.append_nil] at By2
      exact By2
    refine ret ?_
    refine resL _ (holds_agg (.blk By2) (by rw [List.length_map]; exact hsl)) ?_
    exact ⟨rfl, (((x0u.trans kq4).then ku fun b hb _ e => by omega).then ky fun b hb _ e => by omega).then ky2 fun b hb _ e => by omega⟩
  · have hM : endM b = 64 := by unfold endM; rw [if_pos (by omega)]
    refine len ?_
    refine arI (n := (64 : Int) - 8) (by omega) ?_
    refine slcA 56 64 rfl rfl (by omega) (by omega) (by omega) ?_
    refine len ?_
    refine cv64 n rfl ?_
    rw [Nat.mod_eq_of_lt (show n < 18446744073709551616 by omega)]
    refine mul64 (a := n) (b := 8) hcap ?_
    refine call_of (c_dput (o := 56) (n := 8) (N := n * 8) BE3 (by rw [List.length_append, List.length_map, List.length_append, List.length_replicate, hrl]; show 56 + 8 ≤ m + 1 + (127 - m); omega) (by omega)) ?_
    rintro _ v4 ⟨rfl, BE4, k34⟩
    have BE4 : Blk v4 ge 5 (u8s (endB b) ++ List.replicate (128 - 64) (uv8 0)) := by
      rw [end_cells (M := 64) hrl (by omega) (by omega) hM hlen] at BE4
      exact BE4
    have kq4 : Ext u v4 := kq3.then k34 fun b hb _ e => by omega
    have Bu4 := Bu.ext kq4
    have B24 := hB2.ext kq4
    have hN4 := hN.ext kq4
    have s4 := kq4.size
    have hel := endB_len b
    have hE : SlR tU8 (fun b => b ≠ b3 ∧ b < v4.heap.size) v4 (some (ad ge 0)) 64 (endB b) := SlR.of_cells (by rw [hel, hM]) (by omega) ⟨by omega, BE4.lt⟩ (fun j x hx => by rw [Nat.zero_add]; exact BE4.cell (by rw [List.getElem?_append_left (List.getElem?_eq_some_iff.1 hx).1]; exact hx)) (flat_u8s (endB_lt hby))
    clear BE BE2 BE3 BE4 hq k2 z2 k3 z3
    refine loop4 (fun (_ : Nat) (A' : Option Addr) (m cm : Nat) => [(6, .slice A' m cm)]) (fun k A' m cm u => 64 * k ≤ 64 ∧ SlR tU8 (fun b => b ≠ b3 ∧ b < v4.heap.size) u A' m ((endB b).drop (64 * k)) ∧ m ≤ cm ∧ Blk u b3 278 (u32s (absK S (endB b) k)) ∧ Kept (fun b => b ≠ b3) v4 u) (fun k _ _ _ _ => 64 - 64 * k) 0 (some (ad ge 0)) 64 128 ⟨rfl, trivial⟩ ⟨by omega, hE, by omega, Bu4, .refl _ _⟩ rfl ?_
    rintro G2 k A' m cm u ⟨hk, hsu, hcu, Bu, ku⟩
    have hm : m = 64 - 64 * k := by have := hsu.1; rw [List.length_drop, hel, hM] at this; omega
    have hN := hN4
    refine len ?_
    refine cD (fun hlt => ?_) (fun hge => ?_)
    · refine slcR 0 64 hsu hcu rfl rfl (by omega) (by omega) rfl (fun A2 hA2 => ?_)
      have sl := hA2 _ u hsu
      rw [List.drop_zero] at sl
      refine call_of (c_absorb (hN.kept ku (by omega) (by omega)) Bu (absK_ok hS8 k) sl (by omega) (by omega)) ?_
      rintro _ u2 ⟨rfl, B2, k2⟩
      refine slcR 64 m hsu hcu rfl rfl (by omega) (by omega) rfl (fun A3 hA3 => ?_)
      have s3 := hA3 _ u2 (hsu.kept k2 fun b _ h => h.1)
      rw [List.take_of_length_le (by rw [hsu.1]; omega), List.drop_drop] at s3
      refine next4 (k + 1) A3 (m - 64) (cm - 64) ⟨rfl, trivial⟩ ⟨by omega, by rw [show 64 * (k + 1) = 64 * k + 64 by omega]; exact s3, by omega, ?_, ku.trans k2⟩ (by omega)
      have e : absK S (endB b) (k + 1) = absV (absK S (endB b) k) ((((endB b)).drop (64 * k)).take 64) := rfl
      rw [e]
      have e2 : (((((endB b)).drop (64 * k)).take 64).take 64) = ((((endB b)).drop (64 * k)).take 64) := by rw [List.take_take]; rfl
      exact B2
    have hkk : k = 64 / 64 := by omega
    have hF8 : W8 (absK S (endB b) k) := absK_ok hS8 k
    have hsha : shaB b = (absK S (endB b) k).flatMap (beB 4) := by unfold shaB; rw [hS, hkk, hM]
    obtain ⟨F, hF⟩ : ∃ F, F = absK S (endB b) k := ⟨_, rfl⟩
    rw [← hF] at Bu hF8 hsha
    have B2u := B24.kept ku (show b2 ≠ b3 by omega)
    have su2 := ku.size
    have l2u := B2u.lt
    refine ldA (u32s F) (.blk Bu) (by rw [List.length_map]; exact hF8.1) ?_
    refine loop_rule (fun k : Nat => [(54, iv (k : Int))]) (fun k y => k ≤ 8 ∧ Blk y b2 47 (u8s ((F.take k).flatMap (beB 4)) ++ List.replicate (32 - 4 * k) (uv8 0)) ∧ Kept (fun b => b ≠ b2) u y) (fun k _ => 8 - k) 0 ⟨rfl, trivial⟩ ⟨by omega, B2u, .refl _ _⟩ rfl ?_
    rintro G3 k y ⟨hk8, By, ky⟩
    have hFl := hF8.1
    have hfl : ((F.take k).flatMap (beB 4)).length = 4 * k := by rw [flatB_len, List.length_take]; omega
    refine cD (fun hlt => ?_) (fun hge => ?_)
    · have hFk := u32s_at (l := F) (i := k) (by omega)
      have hlt := getD_lt hF8.2 k
      refine idxVc k (uv32 (F.getD k 0)) rfl (by omega) (by rw [Nat.mul_one]; exact hFk) ?_
      refine arI (n := 4 * (k : Int)) (by omega) ?_
      refine arI (n := 4 * (k : Int)) (by omega) ?_
      refine arI (n := 4 * (k : Int) + 4) (by omega) ?_
      refine slcArr (4 * k) (4 * k + 4) (by show 4 * (k : Int) = ((4 * k : Nat) : Int); omega) (by show 4 * (k : Int) + 4 = ((4 * k + 4 : Nat) : Int); omega) (by omega) (by omega) (by omega) ?_
      refine cv64 (F.getD k 0) rfl ?_
      rw [Nat.mod_eq_of_lt (show F.getD k 0 < 18446744073709551616 by omega), show 0 + 4 * k * 1 = 4 * k by omega, show 4 * k + 4 - 4 * k = 4 by omega]
      refine call_of (c_dput (o := 4 * k) (n := 4) By (by rw [List.length_append, List.length_map, hfl, List.length_replicate]; omega) (by omega)) ?_
      rintro _ y2 ⟨rfl, By2, ky2⟩
      refine arI (n := (k : Int) + 1) (by omega) ?_
      refine next (k + 1) ⟨by rw [Int.natCast_add]; rfl, trivial⟩ ⟨by omega, ?_, ky.trans ky2⟩ (by omega)
      rw [put_cells (by rw [List.length_map, hfl])] at By2
      rw [List.take_add_one, List.getElem?_eq_getElem (show k < F.length by omega), List.flatMap_append, u8s_app, List.append_assoc, show 32 - 4 * (k + 1) = 32 - 4 * k - 4 by omega]
      have e : F.getD k 0 = F[k] := by rw [List.getD_eq_getElem?_getD, List.getElem?_eq_getElem (show k < F.length by omega)]; rfl
      rw [e] at By2
      simpa using By2
    have hk8' : k = 8 := by omega
    subst hk8'
    rw [List.take_of_length_le (by omega)] at By
    have By : Blk y b2 47 (u8s (shaB b)) := by rw [hsha]; simpa using By
    have hsl := shaB_len b
    refine ldA (u8s (shaB b)) (.blk By) (by rw [List.length_map]; exact hsl) ?_
    refine stA (vs := u8s (shaB b)) By (by rw [List.length_map]; exact hsl) (by rw [Nat.zero_add]; exact Nat.le_refl _) (fun v hv => List.all_eq_true.1 (u8s_one _) v hv) (fun y2 By2 ky2 zy2 => ?_)
    have By2 : Blk y2 b2 47 (u8s (shaB b)) := by
      rw [List.take_zero, List.nil_append, Nat.zero_add, List.drop_of_length_le (Nat.le_refl _), List.append_nil] at By2
      exact By2
    refine ret ?_
    refine resL _ (holds_agg (.blk By2) (by rw [List.length_map]; exact hsl)) ?_
    exact ⟨rfl, (((x0u.trans kq4).then ku fun b hb _ e => by omega).then ky fun b hb _ e => by omega).then ky2 fun b hb _ e => by omega⟩
end
end Go.Proofs.YtehcphboliofaaaGreatDoor

/- Layer 2: Concat, Tagged; layer 7: the root of nothing. -/
namespace Go.Proofs.YtehcphboliofaaaGreatDoor
open Go Go.RowKit

section
variable {D : Nat → Prop} {w : World}
theorem c_growB (n : Nat) (hn : n ≤ 1000000000) : CallZ Tryz.prog 200 #[.slice none 0 0, iv (n : Int)] w (fun v w' => ∃ A c, v = .slice A 0 c ∧ OwnF w w' A 0 c 5 1 []) := by
  refine fn_rule (args := [.slice none 0 0, iv (n : Int)]) Tryz.func200 (by kernel_rfl) ?_
  refine cD (fun h => absurd h (by omega)) (fun _ => ?_)
  refine capR ?_
  refine len ?_
  refine arI (n := 0) (by omega) ?_
  refine arI (n := (n : Int)) (by omega) ?_
  refine cD (fun h0 => ?_) (fun h0 => ?_)
  · refine capR ?_
    refine slcNil rfl rfl ?_
    refine appZ (sz := 1) (by_ := 1) n rfl (by omega) (by omega) (by omega) rfl (by omega) (fun cc w1 cs hc1 hc2 hcl hb hx => ?_)
    refine len ?_
    refine slcA 0 0 rfl rfl (by omega) (by omega) (by omega) ?_
    refine ret1 (.slice (some (ad w.heap.size (0 + 0 * 1))) (0 - 0) (cc - 0)) rfl ⟨some (ad w.heap.size 0), cc, rfl, ?_⟩
    exact ⟨Own.of_blk (xs := []) (rest := cs) (by simpa using hb) rfl (by simpa using hcl) (Nat.zero_le _) hc2, hx, fun g hg => by injection hg with hg; injection hg with hg; omega⟩
  · exact ret1 (.slice none 0 0) rfl ⟨none, 0, rfl, .nil (.refl _ _)⟩
def sumLn (l : List (List Nat)) : Nat := (l.map List.length).sum
theorem sumLn_take (l : List (List Nat)) (k : Nat) : sumLn (l.take k) ≤ sumLn l := by
  induction l generalizing k with
  | nil => simp
  | cons a l ih =>
    cases k with
    | zero => simp [sumLn]
    | succ k =>
      have := ih k
      unfold sumLn at *
      rw [List.take_succ_cons, List.map_cons, List.map_cons, List.sum_cons, List.sum_cons]
      omega
theorem sumLn_snoc {l : List (List Nat)} {x : List Nat} : sumLn (l ++ [x]) = sumLn l + x.length := by unfold sumLn; simp
theorem flat_len (l : List (List Nat)) : l.flatten.length = sumLn l := by unfold sumLn; rw [List.length_flatten]
/-- What is put together. -/
theorem c_concatB {A : Option Addr} {n c : Nat} {l : List (List Nat)} (hs : SlR (tSl tU8) D w A n l) (hl : sumLn l ≤ 1000000000) :
    CallZ Tryz.prog 135 #[.slice A n c] w (fun v w' => ∃ B m c', v = .slice B m c' ∧ OwnF w w' B m c' 5 1 (u8s l.flatten) ∧ m = l.flatten.length) := by
  have hs := hs.more (D' := fun _ => True) (by decide) fun _ _ _ => trivial
  have hlen := hs.len
  have hle := hs.le
  refine fn_rule (args := [.slice A n c]) Tryz.func135 (by kernel_rfl) ?_
  refine len ?_
  refine loop_rule (fun k : Nat => [(3, iv (sumLn (l.take k) : Int)), (11, iv (k : Int))]) (fun k u => k ≤ n ∧ w = u) (fun k _ => n - k) 0 ⟨rfl, rfl, trivial⟩ ⟨by omega, rfl⟩ rfl ?_
  rintro G k u ⟨hk, rfl⟩
  have hlk := sumLn_take l k
  refine cD (fun hlt => ?_) (fun hge => ?_)
  · obtain ⟨b, o, cs, x, rfl, hx, -, -, hc, A2, n2, c2, rfl, hs2, hc2⟩ := hs.at_ (k := k) (by omega)
    have htk : l.take (k + 1) = l.take k ++ [x] := by rw [List.take_add_one, hx]; rfl
    have hlk1 := sumLn_take l (k + 1)
    rw [htk, sumLn_snoc] at hlk1
    have hx2 := hs2.len
    refine idx k rfl (by omega) ?_
    refine ld (.slice A2 n2 c2) (hc 0 _ rfl) ?_
    refine len ?_
    refine arI (n := (sumLn (l.take k) : Int) + (n2 : Int)) (by omega) ?_
    refine cD (fun h => absurd h (by omega)) (fun _ => ?_)
    refine arI (n := (k : Int) + 1) (by omega) ?_
    refine next (k + 1) ⟨?_, by rw [Int.natCast_add]; rfl, trivial⟩ ⟨by omega, rfl⟩ (by omega)
    rw [htk, sumLn_snoc, hx2, Int.natCast_add]; rfl
  rw [List.take_of_length_le (by omega)]
  refine call_of (c_growB (sumLn l) hl) ?_
  rintro _ w1 ⟨B, cB, rfl, own⟩
  refine len ?_
  refine loop4 (fun (k : Nat) (B : Option Addr) (m d : Nat) => [(6, .slice B m d), (27, iv (k : Int))]) (fun k B m d u => k ≤ n ∧ OwnF w u B m d 5 1 (u8s (l.take k).flatten) ∧ m = (l.take k).flatten.length) (fun k _ _ _ _ => n - k) 0 B 0 cB ⟨rfl, rfl, trivial⟩ ⟨by omega, own, rfl⟩ rfl ?_
  rintro G2 k B m d u ⟨hk, own, hm⟩
  have own : OwnF w u B m d 5 1 (u8s (l.take k).flatten) := own
  have hm : m = (l.take k).flatten.length := hm
  have hlk := sumLn_take l k
  rw [flat_len] at hm
  refine cD (fun hlt => ?_) (fun hge => ?_)
  · obtain ⟨b, o, cs, x, rfl, hx, -, -, hc, A2, n2, c2, rfl, hs2, hc2⟩ := (hs.ext own.ext).at_ (k := k) (by omega)
    have htk : l.take (k + 1) = l.take k ++ [x] := by rw [List.take_add_one, hx]; rfl
    have hlk1 := sumLn_take l (k + 1)
    rw [htk, sumLn_snoc] at hlk1
    have hx2 := hs2.len
    refine idx k rfl (by omega) ?_
    refine ld (.slice A2 n2 c2) (hc 0 _ rfl) ?_
    refine appF own hs2.u8src (by omega) (fun F e u4 p4 k4 hA => ?_) (h1 := u8s_one x)
    refine arI (n := (k : Int) + 1) (by omega) ?_
    refine next4 (k + 1) F (m + n2) e ⟨rfl, by rw [Int.natCast_add]; rfl, trivial⟩ ⟨by omega, ?_, ?_⟩ (by omega)
    · rw [htk, List.flatten_append, u8s_app]
      simpa using p4
    · rw [htk, flat_len, sumLn_snoc, hm, hx2]
  · have hk' : k = n := by omega
    rw [List.take_of_length_le (by omega)] at own hm
    exact ret1 (.slice B m d) rfl ⟨B, m, d, rfl, own, by rw [flat_len]; exact hm⟩
/-- The hash of bytes under a tag. -/
def tagB (t b : List Nat) : List Nat := shaB (shaB t ++ b)
theorem c_dTagged {A : Option Addr} {n c : Nat} {b : List Nat} {tag : ByteArray} (hN : NumW w) (hs : SlR tU8 D w A n b) (hc : n ≤ c) (ht : tag.size ≤ 1000) (hb : n ≤ 100000000) : CallZ Tryz.prog 80 #[.string tag, .slice A n c] w (fun v w' => v = .agg (u8s (tagB (bl tag) b)).toArray ∧ Ext w w') := by
  have hs := hs.more (D' := fun _ => True) (by decide) fun _ _ _ => trivial
  have hlen := hs.len
  refine fn_rule (args := [.string tag, .slice A n c]) Tryz.func80 (by kernel_rfl) ?_
  refine alloc (fun b4 w1 h1 => ?_)
  have e4 := h1.at_
  have hN1 := hN.ext h1.ext
  refine cvSB rfl (by omega) (fun w2 cc hsl hcc x2 z2 => ?_)
  refine call_of (c_dSum (hN1.ext x2) hsl hcc) ?_
  rintro _ w3 ⟨rfl, x3⟩
  refine alloc (fun b5 w4 h4 => ?_)
  have e5 := h4.at_
  have hsl := shaB_len (bl tag)
  refine stA (vs := u8s (shaB (bl tag))) h4.blk (by rw [List.length_map]; exact hsl) (by rw [List.length_map, hsl]; exact Nat.le_refl _) (fun v hv => List.all_eq_true.1 (u8s_one _) v hv) (fun w5 B5 k5 z5 => ?_)
  have B5 : Blk w5 b5 47 (u8s (shaB (bl tag))) := by
    have e : ∀ X : List Value, X.length = 32 → X.drop (0 + (u8s (shaB (bl tag))).length) = [] := fun X hX => List.drop_of_length_le (by rw [List.length_map, hsl]; omega)
    rw [List.take_zero, List.nil_append, e _ rfl, List.append_nil] at B5
    exact B5
  have x35 : Ext w3 w5 := h4.ext.then k5 fun b hb _ e => by omega
  have x15 := (x2.trans x3).trans x35
  have x05 := h1.ext.trans x15
  refine slcArr 0 32 rfl rfl (by omega) (by omega) (by omega) ?_
  refine lit [.slice (some (ad b5 0)) 32 32, .slice A n c] (fun g w6 hq => ?_)
  have sb := hs.ext (x05.trans hq.ext)
  have s5 : SlR tU8 (fun _ => True) w6 (some (ad b5 0)) 32 (shaB (bl tag)) := SlR.of_cells hsl.symm (by omega) trivial (.blk (B5.ext hq.ext)) (flat_u8s (shaB_lt _))
  have sl : SlR (tSl tU8) (fun _ => True) w6 (some (ad g 0)) 2 [shaB (bl tag), b] := SlR.of_cells (cs := [.slice (some (ad b5 0)) 32 32, .slice A n c]) rfl (by omega) trivial (.blk hq.blk) ⟨[.slice (some (ad b5 0)) 32 32], [.slice A n c], rfl, ⟨_, _, _, rfl, s5, Nat.le_refl _⟩, [.slice A n c], [], rfl, ⟨_, _, _, rfl, sb, hc⟩, rfl⟩
  refine call_of (c_concatB sl (by unfold sumLn; simp [hsl]; omega)) ?_
  rintro _ w7 ⟨B, m, c', rfl, own, hm⟩
  have hfl : [shaB (bl tag), b].flatten = shaB (bl tag) ++ b := by simp
  rw [hfl] at own hm
  have hml : m = 32 + n := by rw [hm, List.length_append, hsl, hlen]
  have x67 := own.ext
  have x17 := (x15.trans hq.ext).trans x67
  have sc : SlR tU8 (fun _ => True) w7 B m (shaB (bl tag) ++ b) := own.u8 (fun x hx => by
    rcases List.mem_append.1 hx with hx | hx
    · exact shaB_lt _ x hx
    · exact hs.u8b x hx) (by omega) fun _ _ => trivial
  refine call_of (c_dSum (hN1.ext x17) sc own.le) ?_
  rintro _ w8 ⟨rfl, x8⟩
  have B4 := h1.blk.ext (x17.trans x8)
  have htl : (u8s (tagB (bl tag) b)).length = 32 := by rw [List.length_map]; exact shaB_len _
  refine stA (vs := u8s (tagB (bl tag) b)) B4 htl (by rw [htl]; exact Nat.le_refl _) (fun v hv => List.all_eq_true.1 (u8s_one _) v hv) (fun w9 B9 k9 z9 => ?_)
  have B9 : Blk w9 b4 47 (u8s (tagB (bl tag) b)) := by
    have e : ∀ X : List Value, X.length = 32 → X.drop (0 + (u8s (tagB (bl tag) b)).length) = [] := fun X hX => List.drop_of_length_le (by rw [htl]; omega)
    rw [List.take_zero, List.nil_append, e _ rfl, List.append_nil] at B9
    exact B9
  refine ret ?_
  refine resL _ (holds_agg (.blk B9) htl) ?_
  exact ⟨rfl, (h1.ext.trans (x17.trans x8)).then k9 fun b hb _ e => by omega⟩
def noneT : ByteArray := { data := #[110, 111, 110, 101] }
/-- The root of nothing. -/
theorem c_mRoot0 {c : Nat} {A : Option Addr} (hN : NumW w) : CallZ Tryz.prog 40 #[.slice A 0 c] w (fun v w' => v = .agg (u8s (tagB (bl noneT) [])).toArray ∧ Ext w w') := by
  refine fn_rule (args := [.slice A 0 c]) Tryz.func40 (by kernel_rfl) ?_
  refine alloc (fun b2 w1 h1 => ?_)
  have e2 := h1.at_
  refine len ?_
  refine cE (fun _ => ?_) (fun h => absurd rfl h)
  refine call_of (c_dTagged (D := fun _ => True) (tag := noneT) (b := []) (A := none) (n := 0) (c := 0) (hN.ext h1.ext) .nil (Nat.le_refl _) (by decide) (by omega)) ?_
  rintro _ w2 ⟨rfl, x2⟩
  have B2 := h1.blk.ext x2
  have htl : (u8s (tagB (bl noneT) [])).length = 32 := by rw [List.length_map]; exact shaB_len _
  refine stA (vs := u8s (tagB (bl noneT) [])) B2 htl (by rw [htl]; exact Nat.le_refl _) (fun v hv => List.all_eq_true.1 (u8s_one _) v hv) (fun w3 B3 k3 z3 => ?_)
  have B3 : Blk w3 b2 47 (u8s (tagB (bl noneT) [])) := by
    have e : ∀ X : List Value, X.length = 32 → X.drop (0 + (u8s (tagB (bl noneT) [])).length) = [] := fun X hX => List.drop_of_length_le (by rw [htl]; omega)
    rw [List.take_zero, List.nil_append, e _ rfl, List.append_nil] at B3
    exact B3
  refine ret ?_
  refine resL _ (holds_agg (.blk B3) htl) ?_
  exact ⟨rfl, (h1.ext.trans x2).then k3 fun b hb _ e => by omega⟩
end
end Go.Proofs.YtehcphboliofaaaGreatDoor

/- Layer 1: the program's texts of lists of numbers. -/
namespace Go.Proofs.YtehcphboliofaaaGreatDoor
open Go Go.RowKit

set_option maxRecDepth 4000 in
theorem or128 : ∀ x, x < 256 → x ||| 128 = x % 128 + 128 := by decide
theorem numF_end {f u : Nat} (h : u < 128) : numF f u = [u] := by
  cases f with
  | zero => rfl
  | succ f => unfold numF; rw [if_pos h]
section
variable {D : Nat → Prop} {w0 w : World}
theorem c_numeral {A : Option Addr} {n c u : Nat} {xs : List Nat} (own : OwnF w0 w A n c 5 1 (u8s xs)) (hu : u < 18446744073709551616) (hn : n ≤ 1000000) :
    CallZ Tryz.prog 243 #[.slice A n c, uv64 u] w (fun v w' => ∃ B m d, v = .slice B m d ∧ OwnF w0 w' B m d 5 1 (u8s (xs ++ num u)) ∧ Kept (fun b => A ≠ some (ad b 0)) w w') := by
  refine fn_rule (args := [.slice A n c, uv64 u]) Tryz.func243 (by kernel_rfl) ?_
  refine loop4 (fun (u : Nat) (B : Option Addr) (m d : Nat) => [(0, .slice B m d), (1, uv64 u)]) (fun u' B m d y => u' < 18446744073709551616 ∧ ∃ f ys, f ≤ 9 ∧ m ≤ n + (9 - f) ∧ u' < 2 * 128 ^ f ∧ ys ++ numF f u' = xs ++ num u ∧ OwnF w0 y B m d 5 1 (u8s ys) ∧ (A ≠ B → ∀ b, B = some (ad b 0) → w.heap.size ≤ b) ∧ Kept (fun b => A ≠ some (ad b 0)) w y) (fun u' _ _ _ _ => u') u A n c ⟨rfl, rfl, trivial⟩ ⟨hu, 9, xs, Nat.le_refl _, by omega, by omega, rfl, own, fun h => absurd rfl h, .refl _ _⟩ rfl ?_
  rintro G u' B m d y ⟨hu', f, ys, hf, hm, hlt, he, own, hB, k⟩
  refine cD (fun h128 => ?_) (fun h128 => ?_)
  · have h128 : 128 ≤ u' := by omega
    obtain ⟨f, rfl⟩ : ∃ g, f = g + 1 := by
      cases f with
      | zero => simp at hlt; omega
      | succ g => exact ⟨g, rfl⟩
    refine cv8 u' rfl ?_
    refine or8 (a := u' % 256) (b := 128) (Nat.mod_lt _ (by omega)) (by omega) ?_
    rw [or128 _ (Nat.mod_lt _ (by omega))]
    refine lit [uv8 (u' % 256 % 128 + 128)] (fun g v hq => ?_)
    refine appF (own.then hq.ext) (hq.src (n := 1) rfl) (by omega) (fun B' d' v2 own2 k2 hB' => ?_)
    refine shr64 7 rfl (by omega) ?_
    have e7 : u' >>> 7 = u' / 128 := Nat.shiftRight_eq_div_pow u' 7
    rw [e7]
    refine next4 (u' / 128) B' (m + 1) d' ⟨rfl, rfl, trivial⟩ ⟨by omega, f, ys ++ [u' % 128 + 128], by omega, by omega, ?_, ?_, ?_, ?_, ?_⟩ (by omega)
    · rw [Nat.pow_succ] at hlt
      rw [Nat.div_lt_iff_lt_mul (by omega)]
      omega
    · rw [← he]
      conv => rhs; unfold numF
      rw [if_neg (by omega)]
      simp
    · rw [u8s_app, show u' % 128 + 128 = u' % 256 % 128 + 128 by omega]
      exact own2
    · intro hne b hb
      rcases hB' with rfl | rfl | rfl
      · exact hB hne b hb
      · cases hb
      · injection hb with hb; injection hb with hb
        have s1 := k.size
        have s2 := hq.ext.size
        omega
    · exact (k.ext hq.ext).then k2 fun i hi hA hB2 => by have := hB (fun e => hA (e.trans hB2)) i hB2; omega
  · have h128 : u' < 128 := by omega
    rw [numF_end h128] at he
    refine cv8 u' rfl ?_
    rw [Nat.mod_eq_of_lt (show u' < 256 by omega)]
    refine lit [uv8 u'] (fun g v hq => ?_)
    refine appF (own.then hq.ext) (hq.src (n := 1) rfl) (by omega) (fun B' d' v2 own2 k2 hB' => ?_)
    refine ret1 (.slice B' (m + 1) d') rfl ⟨B', m + 1, d', rfl, ?_, ?_⟩
    · rw [← he, u8s_app]
      exact own2
    · exact (k.ext hq.ext).then k2 fun i hi hA hB2 => by have := hB (fun e => hA (e.trans hB2)) i hB2; omega
theorem c_unsigned {n : Int} (h : 0 ≤ n ∧ n ≤ 9223372036854775807) : CallZ Tryz.prog 244 #[iv n] w (fun v w' => v = uv64 (uns n) ∧ w' = w) := by
  refine fn_rule (args := [iv n]) Tryz.func244 (by kernel_rfl) ?_
  refine cv64 n.toNat (by omega) ?_
  rw [Nat.mod_eq_of_lt (by omega)]
  refine shl64 1 rfl (by omega) ?_
  obtain ⟨m, rfl⟩ : ∃ m : Nat, n = (m : Int) := ⟨n.toNat, by omega⟩
  refine shrV (fun c hc => ?_) (by omega)
  have hc : c = 0 := by
    rw [hc, show ((63 : Int)).toNat = 63 from rfl, Nat.shiftRight_eq_div_pow]
    omega
  subst hc
  refine cv64 0 rfl ?_
  refine xor64 (Nat.mod_lt _ (by omega)) (by omega) ?_
  refine ret1 (uv64 (uns (m : Int))) ?_ ⟨rfl, rfl⟩
  have e : ((m : Int).toNat <<< 1) % 18446744073709551616 ^^^ 0 % 18446744073709551616 = uns (m : Int) := by
    unfold uns
    rw [if_pos (by omega), Nat.shiftLeft_eq, Nat.zero_mod, Nat.xor_zero]
    omega
  rw [e]; rfl
abbrev emp : ByteArray := { data := #[] }
abbrev intC (n : Int) : List Value := [iv 1, iv n, .string emp, .slice none 0 0]
def tIV : Ty Int := tFl 4 intC fun _ => rfl
theorem c_formedI {n : Int} : CallZ Tryz.prog 241 #[.agg #[iv 1, iv n, .string emp, .slice none 0 0]] w (fun v w' => v = .tuple #[iv 0, .bool true] ∧ Ext w w') := by
  refine fn_rule (args := [.agg #[iv 1, iv n, .string emp, .slice none 0 0]]) Tryz.func241 (by kernel_rfl) ?_
  refine box (fun g w1 h1 => ?_)
  have B := h1.blk
  have x1 := h1.ext
  refine fldA ?_
  refine ld (.string emp) (B.cell rfl) ?_
  refine eqStr (fun _ => ?_) (fun h => absurd rfl h)
  refine fldA ?_
  refine ld (.slice none 0 0) (B.cell rfl) ?_
  refine len ?_
  refine cE (fun _ => ?_) (fun h => absurd rfl h)
  refine fldA ?_
  refine ld (iv n) (B.cell rfl) ?_
  refine cE (fun h0 => ?_) (fun h0 => ?_)
  · refine fldA ?_
    refine ld (.slice none 0 0) (B.cell rfl) ?_
    refine len ?_
    refine cE (fun _ => ?_) (fun h => absurd rfl h)
    refine fldA ?_
    refine ld (iv n) (B.cell rfl) ?_
    refine cE (fun _ => ?_) (fun h => absurd h0 h)
    refine fldA ?_
    refine ld (.string emp) (B.cell rfl) ?_
    refine eqStr (fun _ => ?_) (fun h => absurd rfl h)
    refine bld [.bool false, .bool true, .bool true, .bool true] (by kernel_rfl) ?_
    refine alloc (fun b4 w2 h2 => ?_)
    refine stA (vs := [.bool false, .bool true, .bool true, .bool true]) h2.blk rfl (Nat.le_of_ble_eq_true rfl) (by simp [Value.oneCell']) (fun w3 B3 k3 z3 => ?_)
    have e2 := h2.at_
    have x3 : Ext w1 w3 := h2.ext.then k3 fun b hb _ e => by omega
    have B := B.ext x3
    refine fldA ?_
    refine ld (iv 1) (B.cell rfl) ?_
    refine cD (fun h => absurd h (by omega)) (fun _ => ?_)
    refine fldA ?_
    refine ld (iv 1) (B.cell rfl) ?_
    refine cD (fun h => absurd h (by omega)) (fun _ => ?_)
    refine fldA ?_
    refine ld (iv 1) (B.cell rfl) ?_
    refine idxR 1 rfl (by omega) ?_
    refine ld (.bool true) (B3.cell rfl) ?_
    refine fldA ?_
    refine ld (iv 1) (B.cell rfl) ?_
    refine cD (fun _ => ?_) (fun h => absurd h (by omega))
    exact ret2 (iv 0) (.bool true) rfl rfl ⟨rfl, x1.trans x3⟩
  · refine fldA ?_
    refine ld (iv n) (B.cell rfl) ?_
    refine cE (fun h => absurd h h0) (fun _ => ?_)
    refine bld [.bool false, .bool true, .bool false, .bool false] (by kernel_rfl) ?_
    refine alloc (fun b4 w2 h2 => ?_)
    refine stA (vs := [.bool false, .bool true, .bool false, .bool false]) h2.blk rfl (Nat.le_of_ble_eq_true rfl) (by simp [Value.oneCell']) (fun w3 B3 k3 z3 => ?_)
    have e2 := h2.at_
    have x3 : Ext w1 w3 := h2.ext.then k3 fun b hb _ e => by omega
    have B := B.ext x3
    refine fldA ?_
    refine ld (iv 1) (B.cell rfl) ?_
    refine cD (fun h => absurd h (by omega)) (fun _ => ?_)
    refine fldA ?_
    refine ld (iv 1) (B.cell rfl) ?_
    refine cD (fun h => absurd h (by omega)) (fun _ => ?_)
    refine fldA ?_
    refine ld (iv 1) (B.cell rfl) ?_
    refine idxR 1 rfl (by omega) ?_
    refine ld (.bool true) (B3.cell rfl) ?_
    refine fldA ?_
    refine ld (iv 1) (B.cell rfl) ?_
    refine cD (fun _ => ?_) (fun h => absurd h (by omega))
    exact ret2 (iv 0) (.bool true) rfl rfl ⟨rfl, x1.trans x3⟩
theorem c_write1 {A : Option Addr} {m c : Nat} {n : Int} {xs : List Nat} (own : OwnF w0 w A m c 5 1 (u8s xs)) (hn : 0 ≤ n ∧ n ≤ 9223372036854775807) (hm : m ≤ 900000) :
    CallZ Tryz.prog 242 #[.slice A m c, .agg #[iv 1, iv n, .string emp, .slice none 0 0]] w (fun v w' => ∃ B m d, v = .slice B m d ∧ OwnF w0 w' B m d 5 1 (u8s (xs ++ encI n)) ∧ Kept (fun b => A ≠ some (ad b 0)) w w') := by
  refine fn_rule (args := [.slice A m c, .agg #[iv 1, iv n, .string emp, .slice none 0 0]]) Tryz.func242 (by kernel_rfl) ?_
  refine box (fun g w1 h1 => ?_)
  have B := h1.blk
  have x1 := h1.ext
  have hne : A ≠ some (ad g 0) := fun e => by
    rcases own.form with ⟨q, -⟩ | ⟨q, h2, -, h3, -⟩
    · rw [q] at e; cases e
    · rw [h2] at e; injection e with e; injection e with e; have := h1.at_; omega
  refine drawP (.take 0 (.take 3 (.take 4 (.eff 1 (.eff 2 (.take 5 (.eff 6 (.take 7 .done)))))))) [] (fun y => Kept (fun b => b = g) w1 y) mx (by kernel_rfl) (.refl _ _) ?_
  refine fldA ?_
  refine ldK (iv n) (B.cell rfl) rfl (.refl _ _) ?_
  refine lit [uv8 1] (fun g2 w2 hq => ?_)
  refine strS hq.ext.any ?_
  refine appF ((own.then x1).then hq.ext) (hq.src (n := 1) rfl) (by omega) (fun A3 d3 w3 own3 k3 hA3 => ?_)
  refine strS (hq.ext.any.then k3 fun b _ e => by subst e; exact hne) ?_
  refine callQ (fun y _ => c_unsigned hn) ?_
  refine call_of (c_numeral (xs := xs ++ [1]) (by rw [u8s_app]; exact own3) (uns_lt (by unfold I64; omega)) (by omega)) ?_
  rintro _ w4 ⟨B4, m4, d4, rfl, own4, k4⟩
  have hs1 := x1.size
  have hs2 := hq.ext.size
  have hB := B.lt
  have ho : ∀ g, A = some (ad g 0) → g < w.heap.size := fun q e => by
    rcases own.form with ⟨q, -⟩ | ⟨q, h2, -, h3, -⟩
    · rw [q] at e; cases e
    · rw [h2] at e; injection e with e; injection e with e; omega
  have h3 : ∀ i, i < w2.heap.size → A ≠ some (ad i 0) → A3 ≠ some (ad i 0) := fun i hi h e => by
    rcases hA3 with q | q | q
    · exact h (q.symm.trans e)
    · rw [q] at e; cases e
    · rw [q] at e; injection e with e; injection e with e; omega
  have k04 : Kept (fun b => A ≠ some (ad b 0)) w w4 := ((Ext.any (x1.trans hq.ext)).trans k3).then k4 fun i hi h => h3 i (by omega) h
  refine strS ((hq.ext.any.then k3 fun b _ e => by subst e; exact hne).then k4 fun b hb e => by subst e; exact h3 _ (by omega) hne) ?_
  refine ret1 (.slice B4 m4 d4) rfl ⟨B4, m4, d4, rfl, ?_, k04⟩
  rw [List.append_assoc] at own4
  exact own4
end
end Go.Proofs.YtehcphboliofaaaGreatDoor

/- Layer 1: the program's text of a posting. -/
namespace Go.Proofs.YtehcphboliofaaaGreatDoor
open Go Go.RowKit

section
variable {D : Nat → Prop} {w0 w : World}
theorem c_formedL {A : Option Addr} {n c : Nat} {ns : List Int} (hs : SlR tIV D w A n ns) (hn : 0 < n) : CallZ Tryz.prog 241 #[.agg #[iv 3, iv 0, .string emp, .slice A n c]] w (fun v w' => v = .tuple #[iv 1, .bool true] ∧ Ext w w') := by
  refine fn_rule (args := [.agg #[iv 3, iv 0, .string emp, .slice A n c]]) Tryz.func241 (by kernel_rfl) ?_
  have hle := hs.le
  refine box (fun g w1 h1 => ?_)
  have B := h1.blk
  have x1 := h1.ext
  refine fldA ?_
  refine ld (.string emp) (B.cell rfl) ?_
  refine eqStr (fun _ => ?_) (fun h => absurd rfl h)
  refine fldA ?_
  refine ld (.slice A n c) (B.cell rfl) ?_
  refine len ?_
  refine cE (fun h => absurd h (by omega)) (fun _ => ?_)
  refine fldA ?_
  refine ld (iv 0) (B.cell rfl) ?_
  refine cE (fun _ => ?_) (fun h => absurd rfl h)
  refine fldA ?_
  refine ld (.slice A n c) (B.cell rfl) ?_
  refine len ?_
  refine cE (fun h => absurd h (by omega)) (fun _ => ?_)
  refine fldA ?_
  refine ld (iv 0) (B.cell rfl) ?_
  refine cE (fun _ => ?_) (fun h => absurd rfl h)
  refine fldA ?_
  refine ld (.string emp) (B.cell rfl) ?_
  refine eqStr (fun _ => ?_) (fun h => absurd rfl h)
  refine bld [.bool false, .bool false, .bool false, .bool true] (by kernel_rfl) ?_
  refine alloc (fun b4 w2 h2 => ?_)
  refine stA (vs := [.bool false, .bool false, .bool false, .bool true]) h2.blk rfl (Nat.le_of_ble_eq_true rfl) (by simp [Value.oneCell']) (fun w3 B3 k3 z3 => ?_)
  have e2 := h2.at_
  have x3 : Ext w1 w3 := h2.ext.then k3 fun b hb _ e => by omega
  have B := B.ext x3
  refine fldA ?_
  refine ld (iv 3) (B.cell rfl) ?_
  refine cD (fun h => absurd h (by omega)) (fun _ => ?_)
  refine fldA ?_
  refine ld (iv 3) (B.cell rfl) ?_
  refine cD (fun h => absurd h (by omega)) (fun _ => ?_)
  refine fldA ?_
  refine ld (iv 3) (B.cell rfl) ?_
  refine idxR 3 rfl (by omega) ?_
  refine ld (.bool true) (B3.cell rfl) ?_
  refine fldA ?_
  refine ld (iv 3) (B.cell rfl) ?_
  refine cD (fun h => absurd h (by omega)) (fun _ => ?_)
  refine fldA ?_
  refine ld (.slice A n c) (B.cell rfl) ?_
  refine len ?_
  refine loop_rule (fun k : Nat => [(2, iv 0), (57, iv (k : Int))]) (fun k u => k ≤ n ∧ Ext w u) (fun k _ => n - k) 0 ⟨rfl, rfl, trivial⟩ ⟨by omega, x1.trans x3⟩ rfl ?_
  rintro G k u ⟨hk, xu⟩
  refine cD (fun hlt => ?_) (fun hge => ?_)
  · obtain ⟨b, o, cs, x, rfl, hx, -, -, hc, hcs⟩ := (hs.ext xu).at_ (k := k) (by omega)
    have hcs : cs = intC x := hcs
    subst hcs
    refine idx k rfl (by omega) ?_
    refine ldA (intC x) hc rfl ?_
    refine alloc (fun b6 w6 h6 => ?_)
    refine stA (vs := intC x) h6.blk rfl (Nat.le_of_ble_eq_true rfl) (by simp [Value.oneCell']) (fun w7 B7 k7 z7 => ?_)
    have e6 := h6.at_
    have x7 : Ext w w7 := (xu.trans h6.ext).then k7 fun b hb _ e => by have := xu.size; omega
    refine ldA (intC x) (.blk B7) rfl ?_
    refine call_of (c_formedI (n := x)) ?_
    rintro _ w8 ⟨rfl, x8⟩
    refine arI (n := (k : Int) + 1) (by omega) ?_
    exact next (k + 1) ⟨rfl, by rw [Int.natCast_add]; rfl, trivial⟩ ⟨by omega, x7.trans x8⟩ (by omega)
  · refine arI (n := 1) (by omega) ?_
    exact ret2 (iv 1) (.bool true) rfl rfl ⟨rfl, xu⟩
theorem c_vCheck {A : Option Addr} {n c : Nat} {ns : List Int} (hs : SlR tIV D w A n ns) (hn : 0 < n) : CallZ Tryz.prog 208 #[.agg #[iv 3, iv 0, .string emp, .slice A n c]] w (fun v w' => v = iv 0 ∧ Ext w w') := by
  refine fn_rule (args := [.agg #[iv 3, iv 0, .string emp, .slice A n c]]) Tryz.func208 (by kernel_rfl) ?_
  refine box (fun g w1 h1 => ?_)
  refine ldA [iv 3, iv 0, .string emp, .slice A n c] (.blk h1.blk) rfl ?_
  refine call_of (c_formedL (hs.ext h1.ext) hn) ?_
  rintro _ w2 ⟨rfl, x2⟩
  refine cD (fun h => absurd h (by omega)) (fun _ => ?_)
  exact ret1 (iv 0) rfl ⟨rfl, h1.ext.trans x2⟩
/-- The writers: the box of the array's pointer, the array. -/
structure Wrt (w : World) (b g : Nat) : Prop where
  p : Blk w b 290 [ptr g]
  a : Blk w g 318 [.nilFunc, .func (.func 242) #[] #[], .func (.func 245) #[] #[], .func (.func 246) #[] #[ptr b]]
theorem Wrt.ext {w w' : World} {b g : Nat} (h : Wrt w b g) (k : Ext w w') : Wrt w' b g := ⟨h.p.ext k, h.a.ext k⟩
theorem c_newWriter : CallZ Tryz.prog 209 #[] w (fun v w' => ∃ b g, v = ptr g ∧ Wrt w' b g ∧ Ext w w') := by
  refine fn_rule (args := []) Tryz.func209 (by kernel_rfl) ?_
  refine bld [.nilFunc, .nilFunc, .nilFunc, .nilFunc] (by kernel_rfl) ?_
  refine box (fun g w1 h1 => ?_)
  refine alloc (fun b w2 h2 => ?_)
  have B0 : Blk w1 g 318 [.nilFunc, .nilFunc, .nilFunc, .nilFunc] := h1.blk
  refine st1 (v := ptr g) h2.blk rfl (fun w3 B3 k3 => ?_)
  have e1 := h1.at_
  have e2 := h2.at_
  have l0 := B0.lt
  have B3 : Blk w3 b 290 [ptr g] := B3
  have x3 : Ext w1 w3 := h2.ext.then k3 fun b hb _ e => by omega
  have B0 := B0.ext x3
  have lb := B3.lt
  have s1 := h1.ext.size
  have sz3 := x3.size
  refine ld (ptr g) (B3.cell rfl) ?_
  refine idxR 1 rfl (by omega) ?_
  refine fldA ?_
  refine st B0 (Nat.le_of_ble_eq_true rfl) rfl (fun w4 B4 k4 _ => ?_)
  have P4 := B3.kept k4 (show b ≠ g by omega)
  refine ld (ptr g) (P4.cell rfl) ?_
  refine idxR 2 rfl (by omega) ?_
  refine fldA ?_
  refine st B4 (Nat.le_of_ble_eq_true rfl) rfl (fun w5 B5 k5 _ => ?_)
  have P5 := P4.kept k5 (show b ≠ g by omega)
  refine ld (ptr g) (P5.cell rfl) ?_
  refine idxR 3 rfl (by omega) ?_
  refine fldA ?_
  refine st B5 (Nat.le_of_ble_eq_true rfl) rfl (fun w6 B6 k6 _ => ?_)
  have P6 := P5.kept k6 (show b ≠ g by omega)
  refine ld (ptr g) (P6.cell rfl) ?_
  exact ret1 (ptr g) rfl ⟨b, g, rfl, ⟨P6, B6⟩, (h1.ext.trans x3).then ((k4.trans k5).trans k6) fun i hi _ e => by omega⟩
theorem flat_snoc {ns : List Int} {k : Nat} {x : Int} (h : ns[k]? = some x) : (ns.take (k + 1)).flatMap encI = (ns.take k).flatMap encI ++ encI x := by
  rw [List.take_add_one, h, List.flatMap_append]
  simp
theorem flatEnc_len (l : List Int) : (l.flatMap encI).length ≤ 11 * l.length := by
  induction l with
  | nil => simp
  | cons a l ih =>
    have := numF_len 9 (uns a)
    have h2 : (encI a).length = (numF 9 (uns a)).length + 1 := rfl
    rw [List.flatMap_cons, List.length_append, List.length_cons]
    omega
theorem c_write3 {A : Option Addr} {n c b gw : Nat} {ns : List Int} (hW : Wrt w b gw) (hs : SlR tIV D w A n ns) (hn : n ≤ 1000) (hp : ∀ x ∈ ns, 0 ≤ x ∧ x ≤ 9223372036854775807) : CallZ Tryz.prog 246 #[.slice none 0 0, .agg #[iv 3, iv 0, .string emp, .slice A n c], ptr b] w (fun v w' => ∃ B m d, v = .slice B m d ∧ OwnF w w' B m d 5 1 (u8s (encIs ns))) := by
  refine fn_rule (args := [.slice none 0 0, .agg #[iv 3, iv 0, .string emp, .slice A n c], ptr b]) Tryz.func246 (by kernel_rfl) ?_
  have hlen := hs.len
  refine box (fun g w1 h1 => ?_)
  have B : Blk w1 g 113 [iv 3, iv 0, .string emp, .slice A n c] := h1.blk
  have x1 := h1.ext
  have hW1 := hW.ext x1
  have hs1 := hs.ext x1
  refine drawP (.take 0 (.take 3 (.take 4 (.take 5 (.take 6 (.eff 1 (.eff 2 (.eff 7 (.take 8 .done))))))))) [] (fun y => Ext w1 y) mx (by kernel_rfl) (.refl _ _) ?_
  refine fldA ?_
  refine ldX (.slice A n c) (B.cell rfl) (.refl _ _) ?_
  refine len ?_
  refine cv64 n rfl ?_
  rw [Nat.mod_eq_of_lt (show n < 18446744073709551616 by omega)]
  refine lit [uv8 3] (fun g2 w2 hq => ?_)
  refine strS hq.ext ?_
  refine appF (OwnF.nil hq.ext) (hq.src (n := 1) rfl) (by omega) (fun A3 d3 w3 own3 k3 hA3 => ?_)
  refine strS own3.ext ?_
  refine call_of (c_numeral (xs := [3]) own3 (show n < 18446744073709551616 by omega) (by omega)) ?_
  rintro _ w4 ⟨B4, m4, d4, rfl, own4, k4⟩
  refine strS own4.ext ?_
  have hnl := numF_len 9 n
  refine fldA ?_
  refine ld (.slice A n c) ((B.ext own4.ext).cell rfl) ?_
  refine len ?_
  refine loop4 (fun (k : Nat) (B : Option Addr) (m d : Nat) => [(0, .slice B m d), (19, iv (k : Int))]) (fun k B m d u => k ≤ n ∧ OwnF w1 u B m d 5 1 (u8s ([3] ++ num n ++ (ns.take k).flatMap encI))) (fun k _ _ _ _ => n - k) 0 B4 m4 d4 ⟨rfl, rfl, trivial⟩ ⟨by omega, by simpa using own4⟩ rfl ?_
  rintro G k B2 m d u ⟨hk, own⟩
  have own : OwnF w1 u B2 m d 5 1 (u8s ([3] ++ num n ++ (ns.take k).flatMap encI)) := own
  have hm : m ≤ 900000 := by
    have h1 := own.own.len
    have h2 := flatEnc_len (ns.take k)
    rw [List.length_take] at h2
    simp only [List.length_map, List.length_append, List.length_cons, List.length_nil, num, Nat.mul_one] at h1
    omega
  refine cD (fun hlt => ?_) (fun hge => ?_)
  · obtain ⟨bx, o, cs, x, rfl, hx, -, -, hc, hcs⟩ := (hs1.ext own.ext).at_ (k := k) (by omega)
    have hcs : cs = intC x := hcs
    subst hcs
    refine idx k rfl (by omega) ?_
    refine ldA (intC x) hc rfl ?_
    refine alloc (fun b6 w6 h6 => ?_)
    refine stA (vs := intC x) h6.blk rfl (Nat.le_of_ble_eq_true rfl) (by simp [Value.oneCell']) (fun w7 B7 k7 z7 => ?_)
    have e6 := h6.at_
    have x7 : Ext u w7 := h6.ext.then k7 fun b hb _ e => by omega
    have hW7 := (hW1.ext own.ext).ext x7
    have own7 := own.then x7
    have lW := hW.p.lt
    have lA := hW.a.lt
    have su := own.ext.size
    have s1 := x1.size
    have hB2 : ∀ i, i < w1.heap.size ∨ i = b6 → B2 ≠ some (ad i 0) := fun i hi e => by
      have h1 := own.new i e
      rcases own.form with ⟨q, -⟩ | ⟨q, h2, -, h3, -⟩
      · rw [q] at e; cases e
      · rw [h2] at e; injection e with e; injection e with e; omega
    refine drawP (.take 0 (.take 1 (.take 2 (.take 3 (.take 4 (.take 5 (.take 6 (.take 7 (.take 8 (.eff 9 (.take 10 .done))))))))))) [] (fun y => Kept (fun b => B2 ≠ some (ad b 0)) w7 y) mx (by kernel_rfl) (.refl _ _) ?_
    refine ldK (ptr gw) (hW7.p.cell rfl) (hB2 b (by omega)) (.refl _ _) ?_
    refine fldA ?_
    refine ldK (iv 1) (B7.cell rfl) (hB2 b6 (by omega)) (.refl _ _) ?_
    refine idxR 1 rfl (by omega) ?_
    refine fldA ?_
    refine ldK (.func (.func 242) #[] #[]) (hW7.a.cell rfl) (hB2 gw (by omega)) (.refl _ _) ?_
    refine ldAK (intC x) (.blk B7) rfl (hB2 b6 (by omega)) (.refl _ _) ?_
    refine call_of (c_write1 (own.then x7) (hp x (List.mem_of_getElem? hx)) hm) ?_
    rintro _ w8 ⟨B8, m8, d8, rfl, own8, k8⟩
    refine strS k8 ?_
    refine arI (n := (k : Int) + 1) (by omega) ?_
    refine next4 (k + 1) B8 m8 d8 ⟨rfl, by rw [Int.natCast_add]; rfl, trivial⟩ ⟨by omega, ?_⟩ (by omega)
    rw [flat_snoc hx, ← List.append_assoc]
    exact own8
  · rw [List.take_of_length_le (by omega)] at own
    refine ret1 (.slice B2 m d) rfl ⟨B2, m, d, rfl, ?_⟩
    have e : [3] ++ num n ++ ns.flatMap encI = encIs ns := by unfold encIs; rw [hlen]; simp
    rw [e] at own
    exact own.base x1
theorem c_vEncode {A : Option Addr} {n c : Nat} {ns : List Int} (hs : SlR tIV D w A n ns) (h0 : 0 < n) (hn : n ≤ 1000) (hp : ∀ x ∈ ns, 0 ≤ x ∧ x ≤ 9223372036854775807) : CallZ Tryz.prog 149 #[.agg #[iv 3, iv 0, .string emp, .slice A n c]] w (fun v w' => ∃ B m d, v = .tuple #[.slice B m d, iv 0] ∧ OwnF w w' B m d 5 1 (u8s (encIs ns))) := by
  refine fn_rule (args := [.agg #[iv 3, iv 0, .string emp, .slice A n c]]) Tryz.func149 (by kernel_rfl) ?_
  refine box (fun g w1 h1 => ?_)
  have B : Blk w1 g 113 [iv 3, iv 0, .string emp, .slice A n c] := h1.blk
  have x1 := h1.ext
  refine ldA [iv 3, iv 0, .string emp, .slice A n c] (.blk B) rfl ?_
  refine call_of (c_vCheck (hs.ext x1) h0) ?_
  rintro _ w2 ⟨rfl, x2⟩
  have B := B.ext x2
  refine cN (fun h => absurd rfl h) (fun _ => ?_)
  refine drawP (.take 1 (.take 2 (.take 7 (.eff 0 (.take 3 (.take 4 (.take 5 (.take 6 (.eff 8 (.take 9 (.take 10 .done))))))))))) [] (fun y => Ext w2 y) mx (by kernel_rfl) (.refl _ _) ?_
  refine fldA ?_
  refine ldX (iv 3) (B.cell rfl) (.refl _ _) ?_
  refine ldAX [iv 3, iv 0, .string emp, .slice A n c] (.blk B) rfl (.refl _ _) ?_
  refine call_of c_newWriter ?_
  rintro _ w3 ⟨bw, gw, rfl, hW, x3⟩
  refine strT (fun y => Ext w3 y) (.refl _ _) (fun u hu => x3.trans hu) ?_
  refine idxR 3 rfl (by omega) ?_
  refine fldA ?_
  refine ldX (.func (.func 246) #[] #[ptr bw]) (hW.a.cell rfl) (.refl _ _) ?_
  refine call_of (c_write3 hW ((hs.ext x1).ext (Kept.trans x2 x3)) hn hp) ?_
  rintro _ w4 ⟨B4, m4, d4, rfl, own4⟩
  refine strS own4.ext ?_
  exact ret2 (.slice B4 m4 d4) (iv 0) rfl rfl ⟨B4, m4, d4, rfl, own4.base (x1.trans (x2.trans x3))⟩
theorem flat_ints4 {D : Nat → Prop} {w : World} : ∀ {s : List Int}, FlatR tIV D w s (s.flatMap intC)
  | [] => rfl
  | p :: s => ⟨intC p, s.flatMap intC, rfl, rfl, flat_ints4⟩
/-- What a text can be made of. -/
def PosI (p : Post) : Prop := ∀ x ∈ p.ns, 0 ≤ x ∧ x ≤ 9223372036854775807
theorem c_text {p : Post} (hp : PosI p) : CallZ Tryz.prog 85 #[.agg p.c.toArray] w (fun v w' => ∃ B m d, v = .slice B m d ∧ OwnF w w' B m d 5 1 (u8s (txt p))) := by
  refine fn_rule (args := [.agg p.c.toArray]) Tryz.func85 (by kernel_rfl) ?_
  refine box (fun g w1 h1 => ?_)
  have B : Blk w1 g 26 p.c := h1.blk
  have x1 := h1.ext
  have e1 := h1.at_
  refine bld [iv 3, iv 0, .string emp, .slice none 0 0] (by kernel_rfl) ?_
  refine alloc (fun b3 w2 h2 => ?_)
  refine stA (vs := [iv 3, iv 0, .string emp, .slice none 0 0]) h2.blk rfl (Nat.le_of_ble_eq_true rfl) (by simp [Value.oneCell']) (fun w3 B3 k3 z3 => ?_)
  have e2 := h2.at_
  have B3 : Blk w3 b3 113 [iv 3, iv 0, .string emp, .slice none 0 0] := B3
  have x13 : Ext w1 w3 := h2.ext.then k3 fun b hb _ e => by omega
  have B := B.ext x13
  refine fldA ?_
  refine ld (iv p.no) (B.cell rfl) ?_
  refine fldA ?_
  refine ld (iv p.hour) (B.cell rfl) ?_
  refine fldA ?_
  refine ld (iv p.sort) (B.cell rfl) ?_
  refine fldA ?_
  refine ld (iv p.frm) (B.cell rfl) ?_
  refine fldA ?_
  refine ld (iv p.to) (B.cell rfl) ?_
  refine fldA ?_
  refine ld (iv p.n) (B.cell rfl) ?_
  refine lit (p.ns.map iv) (fun g4 w4 h4 => ?_)
  have B4 : Blk w4 g4 3 (p.ns.map iv) := h4.blk
  have e4 := h4.at_
  have lB3 := B3.lt
  have B34 := B3.ext h4.ext
  refine len ?_
  have x4 : Ext w1 w4 := x13.trans h4.ext
  have l3 := B34.lt
  refine loop4 (fun (k : Nat) (A : Option Addr) (m d : Nat) => [(23, iv (k : Int))]) (fun k A m d u => k ≤ 6 ∧ Blk u b3 113 [iv 3, iv 0, .string emp, .slice A m d] ∧ OwnF w1 u A m d 113 4 ((p.ns.take k).flatMap intC) ∧ m = k ∧ Kept (fun b => b ≠ b3) w4 u ∧ ∀ b, A = some (ad b 0) → w4.heap.size ≤ b) (fun k _ _ _ _ => 6 - k) 0 none 0 0 ⟨rfl, trivial⟩ ⟨by omega, B34, OwnF.nil x4, rfl, .refl _ _, fun b h => by cases h⟩ rfl ?_
  rintro G k A m d u ⟨hk, Bu, own, rfl, ku, hA⟩
  refine cD (fun hlt => ?_) (fun hge => ?_)
  · obtain ⟨x, hx⟩ : ∃ x, p.ns[m]? = some x := ⟨_, List.getElem?_eq_getElem (show m < p.ns.length by show m < 6; omega)⟩
    have B4u := B4.kept ku (show g4 ≠ b3 by omega)
    have su := ku.size
    have hcell : u.cell? (ad g4 (0 + m * 1)) = some (iv x) := by
      rw [Nat.zero_add, Nat.mul_one]
      exact B4u.cell (by rw [List.getElem?_map, hx]; rfl)
    refine idx m rfl (by show m < 6; omega) ?_
    refine ld (iv x) hcell ?_
    refine fldA ?_
    refine ld (.slice A m d) (Bu.cell rfl) ?_
    refine bld (intC x) (by kernel_rfl) ?_
    refine lit [.agg (intC x).toArray] (fun g5 w5 h5 => ?_)
    have B5 : Blk w5 g5 113 (intC x) := h5.blk
    refine appF (own.then h5.ext) (⟨rfl, fun _ => ⟨g5, 0, rfl, .blk B5⟩⟩ : Src w5 (some (ad g5 0)) 1 4 (intC x)) (by omega) (fun A' d' w6 own6 k6 hA' => ?_)
    have s5 := h5.ext.size
    have hA6 : ∀ b, A' = some (ad b 0) → w4.heap.size ≤ b := fun b e => by
      rcases hA' with q | q | q
      · exact hA b (q.symm.trans e)
      · rw [q] at e; cases e
      · rw [q] at e; injection e with e; injection e with e; omega
    have Bu6 := (Bu.ext h5.ext).kept k6 (fun e => by have := hA b3 e; omega)
    refine fldA ?_
    refine st Bu6 (Nat.le_of_ble_eq_true rfl) rfl (fun w7 B7 k7 _ => ?_)
    have k47 : Kept (fun b => b ≠ b3) w4 w7 := ((ku.ext h5.ext).then k6 fun i hi _ e => by have := hA i e; omega).trans k7
    refine arI (n := (m : Int) + 1) (by omega) ?_
    refine next4 (m + 1) A' (m + 1) d' ⟨by rw [Int.natCast_add]; rfl, trivial⟩ ⟨by omega, B7, ?_, rfl, k47, hA6⟩ (by omega)
    rw [List.take_add_one, hx, List.flatMap_append]
    refine OwnF.thenK (by simpa using own6) k7 (fun q e => by have := hA6 q e; omega) (own6.ext.then k7 fun i hi _ e => by have := h2.at_; omega)
  · have hm : m = 6 := by omega
    subst hm
    rw [List.take_of_length_le (by show 6 ≤ 6; omega)] at own
    refine ldA [iv 3, iv 0, .string emp, .slice A 6 d] (.blk Bu) rfl ?_
    have hs : SlR tIV (fun b => b ≠ b3) u A 6 p.ns := own.own.rd (a := tIV) flat_ints4 rfl (by omega) fun g hg e => by have := hA g hg; omega
    refine call_of (c_vEncode hs (by omega) (by omega) hp) ?_
    rintro _ w8 ⟨B8, m8, d8, rfl, own8⟩
    exact ret1 (.slice B8 m8 d8) rfl ⟨B8, m8, d8, rfl, own8.base (x1.trans own.ext)⟩
/-- A list of texts of the function's own; the texts lie wherever, but not in its block. -/
def LBy (w0 u : World) (A : Option Addr) (n c : Nat) (l : List (List Nat)) : Prop := ∃ cs, OwnF w0 u A n c 102 1 cs ∧ FlatR (tSl tU8) (fun b => A ≠ some (ad b 0)) u l cs
theorem LBy.nil {w0 u : World} (h : Ext w0 u) : LBy w0 u none 0 0 [] := ⟨[], OwnF.nil h, rfl⟩
theorem LBy.ex {w0 u : World} {A : Option Addr} {n c : Nat} {l : List (List Nat)} (h : LBy w0 u A n c l) : Ext w0 u := let ⟨_, o, _⟩ := h; o.ext
theorem LBy.then {w0 u u' : World} {A : Option Addr} {n c : Nat} {l : List (List Nat)} (h : LBy w0 u A n c l) (k : Ext u u') : LBy w0 u' A n c l := let ⟨cs, o, f⟩ := h; ⟨cs, o.then k, f.keep fun b hb _ => k.blk b hb trivial⟩
theorem LBy.base {v0 w0 u : World} {A : Option Addr} {n c : Nat} {l : List (List Nat)} (h : LBy w0 u A n c l) (k : Ext v0 w0) : LBy v0 u A n c l := let ⟨cs, o, f⟩ := h; ⟨cs, o.base k, f⟩
theorem LBy.len {w0 u : World} {A : Option Addr} {n c : Nat} {l : List (List Nat)} (h : LBy w0 u A n c l) : n = l.length := by
  obtain ⟨cs, o, f⟩ := h
  have h1 := o.own.len
  have h2 := f.len
  have : (tSl tU8).sz = 1 := rfl
  rw [this] at h2
  omega
theorem LBy.le {w0 u : World} {A : Option Addr} {n c : Nat} {l : List (List Nat)} (h : LBy w0 u A n c l) : n ≤ c := let ⟨_, o, _⟩ := h; o.le
theorem LBy.rd {w0 u : World} {A : Option Addr} {n c : Nat} {l : List (List Nat)} (h : LBy w0 u A n c l) (hn : n ≤ 140737488355328) : SlR (tSl tU8) (fun _ => True) u A n l := by
  have hl := h.len
  obtain ⟨cs, o, f⟩ := h
  exact o.own.rd (a := tSl tU8) (f.more fun _ _ _ => trivial) hl hn fun _ _ => trivial
/-- A text more. -/
theorem appL {P : Program} {X : XK} {t : TypeId} [h : SliceTy P t 102 1] [hz : ZeroTy P 102 (.slice none 0 0)] [hby : BytesTy P 102 24] {ty : TypeId} {cst : Array Bool} {n c m d q : Nat} {A B : Option Addr} {l : List (List Nat)} {x : List Nat} {u v : World} {K : VK}
    (own : LBy w0 u A n c l) (hx : SlR tU8 (fun b => A ≠ some (ad b 0)) u B m x) (hd : m ≤ d) (hq : NewB u 102 [.slice B m d] q v) (hn : n ≤ 1000000)
    (kk : ∀ A' c' w', LBy w0 w' A' (n + 1) c' (l ++ [x]) → Kept (fun b => A ≠ some (ad b 0)) v w' → (A' = A ∨ A' = none ∨ A' = some (ad v.heap.size 0)) → K (.slice A' (n + 1) c') w') : BuiP P .append #[t, t] ty cst #[.slice A n c, .slice (some (ad q 0)) 1 1] K X v := by
  obtain ⟨cs, o, f⟩ := own
  refine appF (zv := .slice none 0 0) (sz := 1) (by_ := 24) (o.then hq.ext) (hq.src (n := 1) rfl) (by omega) fun A' c' w' o' k' hA => ?_
  refine kk A' c' w' ⟨_, o', ?_⟩ k' hA
  have k2 : Kept (fun b => A ≠ some (ad b 0)) u w' := hq.ext.any.then k' fun _ _ h => h
  have hD : ∀ b, b < u.heap.size → A ≠ some (ad b 0) → A' ≠ some (ad b 0) := fun b hb h e => by
    rcases hA with r | r | r
    · exact h (r.symm.trans e)
    · rw [r] at e; cases e
    · rw [r] at e; injection e with e; injection e with e; have := hq.ext.size; omega
  have f1 : FlatR (tSl tU8) (fun b => A ≠ some (ad b 0) ∧ b < u.heap.size) u l cs := f.more fun b hb h => ⟨h, hb⟩
  have hx1 : SlR tU8 (fun b => A ≠ some (ad b 0) ∧ b < u.heap.size) u B m x := hx.more (by decide) fun b hb h => ⟨h, hb⟩
  have f2 : FlatR (tSl tU8) (fun b => A ≠ some (ad b 0) ∧ b < u.heap.size) w' l cs := f1.keep fun b hb h => k2.blk b hb h.1
  have hx2 : SlR tU8 (fun b => A ≠ some (ad b 0) ∧ b < u.heap.size) w' B m x := hx1.kept k2 fun b _ h => h.1
  refine (f2.more fun b _ h => hD b h.2 h.1).app (FlatR.one (a := tSl tU8) ⟨B, m, d, rfl, hx2.more (by decide) fun b _ h => hD b h.2 h.1, hd⟩)
end
end Go.Proofs.YtehcphboliofaaaGreatDoor

/- Layer 1: what the program's reader reads, plainly. -/
namespace Go.Proofs.YtehcphboliofaaaGreatDoor
open Go Go.RowKit

/-- A number that begins at place i. -/
def prsN (i acc : Nat) : List Nat → Option (Nat × List Nat)
  | [] => none
  | c :: r => if (i = 0 ∨ c ≠ 0) ∧ (i < 9 ∨ c ≤ 1) then (if c < 128 then some (acc + c % 128 * 128 ^ i, r) else prsN (i + 1) (acc + c % 128 * 128 ^ i) r) else none
theorem numF_lt {f u : Nat} (h : u < 128) : numF f u = [u] := by
  cases f with
  | zero => rfl
  | succ f => unfold numF; rw [if_pos h]
theorem prsN_iff : ∀ (b : List Nat) (i acc u : Nat) (r : List Nat), (∀ x ∈ b, x < 256) → i ≤ 9 →
    (prsN i acc b = some (u, r) ↔ ∃ d, (i = 0 ∨ 0 < d) ∧ d < 2 * 128 ^ (9 - i) ∧ u = acc + d * 128 ^ i ∧ b = numF (9 - i) d ++ r)
  | [], i, acc, u, r, _, hi => by
    constructor
    · intro h; cases h
    · rintro ⟨d, -, -, -, h⟩
      have := (numF_len (9 - i) d).1
      have h := congrArg List.length h
      rw [List.length_append] at h
      simp at h
      omega
  | c :: t, i, acc, u, r, hb, hi => by
    have hc := hb c List.mem_cons_self
    unfold prsN
    by_cases hlt : c < 128
    · have hm : c % 128 = c := Nat.mod_eq_of_lt hlt
      rw [if_pos hlt, hm]
      constructor
      · intro h
        split at h
        · rename_i hq
          simp only [Option.some.injEq, Prod.mk.injEq] at h
          refine ⟨c, by omega, ?_, h.1.symm, by rw [numF_lt hlt, ← h.2]; rfl⟩
          rcases hq.2 with h9 | h9
          · obtain ⟨j, hj⟩ : ∃ j, 9 - i = j + 1 := ⟨8 - i, by omega⟩
            rw [hj, Nat.pow_succ]
            have := Nat.one_le_two_pow (n := 7 * j)
            have : 1 ≤ 128 ^ j := Nat.one_le_pow _ _ (by omega)
            omega
          · have : 1 ≤ 128 ^ (9 - i) := Nat.one_le_pow _ _ (by omega)
            omega
        · cases h
      · rintro ⟨d, h1, h2, h3, h4⟩
        have hd : d < 128 := by
          by_cases hd : d < 128
          · exact hd
          · exfalso
            obtain ⟨j, hj⟩ : ∃ j, 9 - i = j + 1 := ⟨8 - i, by
              have : i ≠ 9 := fun e => by subst e; simp at h2; omega
              omega⟩
            rw [hj] at h4
            unfold numF at h4
            rw [if_neg hd, List.cons_append] at h4
            injection h4 with h4
            omega
        rw [numF_lt hd] at h4
        simp only [List.cons_append, List.nil_append, List.cons.injEq] at h4
        obtain ⟨rfl, rfl⟩ := h4
        have hq : i < 9 ∨ c ≤ 1 := by
          by_cases h9 : i < 9
          · exact .inl h9
          · have : i = 9 := by omega
            subst this
            simp at h2
            exact .inr (by omega)
        rw [if_pos ⟨by omega, hq⟩, h3]
    · rw [if_neg hlt]
      by_cases h9 : i < 9
      · rw [if_pos ⟨.inr (by omega), .inl h9⟩, prsN_iff t (i + 1) _ u r (fun x hx => hb x (List.mem_cons_of_mem _ hx)) (by omega)]
        obtain ⟨j, hj⟩ : ∃ j, 9 - i = j + 1 := ⟨8 - i, by omega⟩
        have hj' : 9 - (i + 1) = j := by omega
        rw [hj, hj']
        constructor
        · rintro ⟨d, h1, h2, h3, h4⟩
          refine ⟨c % 128 + 128 * d, by omega, ?_, ?_, ?_⟩
          · rw [Nat.pow_succ]; omega
          · rw [h3, Nat.add_mul, Nat.pow_succ, Nat.mul_comm 128 d, Nat.mul_assoc d, Nat.mul_comm 128 (128 ^ i)]; omega
          · unfold numF
            rw [if_neg (by omega), h4, show (c % 128 + 128 * d) % 128 + 128 = c by omega, show (c % 128 + 128 * d) / 128 = d by omega]
            rfl
        · rintro ⟨d, h1, h2, h3, h4⟩
          have hd : ¬ d < 128 := fun hd => by
            rw [numF_lt hd] at h4
            simp only [List.cons_append, List.nil_append, List.cons.injEq] at h4
            omega
          unfold numF at h4
          rw [if_neg hd, List.cons_append] at h4
          injection h4 with h5 h6
          refine ⟨d / 128, .inr (by omega), ?_, ?_, h6⟩
          · rw [Nat.pow_succ] at h2; omega
          · have e : d = c % 128 + 128 * (d / 128) := by omega
            rw [h3]
            conv => lhs; rw [e]
            rw [Nat.add_mul, Nat.pow_succ, Nat.mul_comm 128 (d / 128), Nat.mul_assoc (d / 128), Nat.mul_comm 128 (128 ^ i)]; omega
      · have : i = 9 := by omega
        subst this
        rw [if_neg (by omega)]
        constructor
        · intro h; cases h
        · rintro ⟨d, h1, h2, h3, h4⟩
          simp at h2
          rw [numF_lt (by omega)] at h4
          simp only [List.cons_append, List.nil_append, List.cons.injEq] at h4
          omega
theorem prsN_num {b : List Nat} {u : Nat} {r : List Nat} (hb : ∀ x ∈ b, x < 256) : prsN 0 0 b = some (u, r) ↔ u < 18446744073709551616 ∧ b = num u ++ r := by
  rw [prsN_iff b 0 0 u r hb (by omega)]
  constructor
  · rintro ⟨d, -, h2, h3, h4⟩
    have : u = d := by omega
    subst this
    exact ⟨by omega, h4⟩
  · rintro ⟨h1, h2⟩
    exact ⟨u, .inl rfl, by omega, by omega, h2⟩
/-- The integer with an unsigned form. -/
def sgn (u : Nat) : Int := if u % 2 = 0 then ((u / 2 : Nat) : Int) else -((u / 2 : Nat) : Int) - 1
theorem uns_sgn (u : Nat) : uns (sgn u) = u := by unfold uns sgn; split <;> split <;> omega
theorem sgn_I64 {u : Nat} (h : u < 18446744073709551616) : I64 (sgn u) := by unfold I64 sgn; split <;> omega
theorem sgn_uns (n : Int) : sgn (uns n) = n := uns_inj (uns_sgn _)
def prsL (b : List Nat) : Option (Nat × List Nat) := match prsN 0 0 b with
  | some (n, r) => if n ≤ r.length then some (n, r) else none
  | none => none
/-- A value: its kind, its number, the kinds and numbers of its elements. -/
structure VS where
  k : Int
  n : Int
  l : List (Int × Int)
def prsM (f : List Nat → Option (VS × List Nat)) : Nat → List Nat → Option (List (Int × Int) × List Nat)
  | 0, b => some ([], b)
  | n + 1, b => match f b with
    | some (x, r) => (match prsM f n r with | some (l, r') => some ((x.k, x.n) :: l, r') | none => none)
    | none => none
def prsV : Nat → List Nat → Option (VS × List Nat)
  | _, [] => none
  | f, c :: r => if c = 1 then (match prsN 0 0 r with | some (u, r') => some (⟨1, sgn u, []⟩, r') | none => none)
    else if c = 2 then (match prsL r with | some (n, r') => some (⟨2, 0, []⟩, r'.drop n) | none => none)
    else if c = 3 then (match f with
      | 0 => none
      | f + 1 => (match prsL r with | some (n, r') => (match prsM (prsV f) n r' with | some (l, r'') => some (⟨3, 0, l⟩, r'') | none => none) | none => none))
    else none
/-- The numbers of a text of a list of so many numbers. -/
def AllI (l : List (Int × Int)) : Prop := ∀ x ∈ l, x.1 = 1
def Bys (b : List Nat) : Prop := ∀ x ∈ b, x < 256
theorem Bys.app {a b : List Nat} : Bys (a ++ b) ↔ Bys a ∧ Bys b := by unfold Bys; simp [or_imp, forall_and]
theorem prsV_int {f : Nat} {b : List Nat} {x : VS} {r : List Nat} (hb : Bys b) (hk : x.k = 1) (h : prsV f b = some (x, r)) : b = encI x.n ++ r ∧ I64 x.n := by
  cases b with
  | nil => unfold prsV at h; cases h
  | cons c t =>
    unfold prsV at h
    have ht : Bys t := fun y hy => hb y (List.mem_cons_of_mem _ hy)
    split at h
    · rename_i hc
      split at h
      · rename_i u r' hu
        simp only [Option.some.injEq, Prod.mk.injEq] at h
        obtain ⟨rfl, rfl⟩ := h
        obtain ⟨h1, h2⟩ := (prsN_num ht).1 hu
        refine ⟨?_, sgn_I64 h1⟩
        unfold encI
        rw [uns_sgn, h2, hc]; rfl
      · cases h
    · exfalso
      split at h
      · split at h
        · simp only [Option.some.injEq, Prod.mk.injEq] at h
          rw [← h.1] at hk; simp at hk
        · cases h
      · split at h
        · split at h
          · cases h
          · split at h
            · split at h
              · simp only [Option.some.injEq, Prod.mk.injEq] at h
                rw [← h.1] at hk; simp at hk
              · cases h
            · cases h
        · cases h
theorem prsV_enc {f : Nat} {n : Int} {r : List Nat} (hb : Bys r) (h : I64 n) : prsV f (encI n ++ r) = some (⟨1, n, []⟩, r) := by
  unfold encI
  rw [List.cons_append]
  unfold prsV
  rw [if_pos rfl, (prsN_num (r := r) (Bys.app.2 ⟨num_byte (uns_lt h), hb⟩)).2 ⟨uns_lt h, rfl⟩]
  simp only [sgn_uns]
theorem prsM_ints {f : Nat} : ∀ (n : Nat) (b : List Nat) (l : List (Int × Int)) (r : List Nat), Bys b → AllI l → prsM (prsV f) n b = some (l, r) →
    ∃ ns : List Int, ns.length = n ∧ l = ns.map (fun n => (1, n)) ∧ b = ns.flatMap encI ++ r ∧ ∀ x ∈ ns, I64 x
  | 0, b, l, r, _, _, h => by
    simp only [prsM, Option.some.injEq, Prod.mk.injEq] at h
    obtain ⟨rfl, rfl⟩ := h
    exact ⟨[], rfl, rfl, rfl, fun x hx => by cases hx⟩
  | n + 1, b, l, r, hb, hl, h => by
    unfold prsM at h
    split at h
    · rename_i x r1 h1
      split at h
      · rename_i l2 r2 h2
        simp only [Option.some.injEq, Prod.mk.injEq] at h
        obtain ⟨rfl, rfl⟩ := h
        obtain ⟨e1, e2⟩ := prsV_int hb (hl _ List.mem_cons_self) h1
        obtain ⟨ns, a1, a2, a3, a4⟩ := prsM_ints n r1 l2 r2 (Bys.app.1 (e1 ▸ hb)).2 (fun y hy => hl y (List.mem_cons_of_mem _ hy)) h2
        refine ⟨x.n :: ns, by rw [List.length_cons, a1], ?_, ?_, ?_⟩
        · rw [List.map_cons, ← a2]
          have := hl _ List.mem_cons_self
          simp only at this
          rw [this]
        · rw [e1, a3, List.flatMap_cons, List.append_assoc]
        · intro y hy
          rcases List.mem_cons.1 hy with rfl | hy
          · exact e2
          · exact a4 y hy
      · cases h
    · cases h
theorem flat_bys {ns : List Int} (h : ∀ x ∈ ns, I64 x) : Bys (ns.flatMap encI) := by
  intro x hx
  obtain ⟨n, hn, hx⟩ := List.mem_flatMap.1 hx
  unfold encI at hx
  rcases List.mem_cons.1 hx with rfl | hx
  · omega
  · exact num_byte (uns_lt (h n hn)) x hx
theorem prsM_enc {f : Nat} : ∀ (ns : List Int) (r : List Nat), Bys r → (∀ x ∈ ns, I64 x) → prsM (prsV f) ns.length (ns.flatMap encI ++ r) = some (ns.map (fun n => (1, n)), r)
  | [], r, _, _ => rfl
  | n :: ns, r, hb, h => by
    have h2 : ∀ x ∈ ns, I64 x := fun x hx => h x (List.mem_cons_of_mem _ hx)
    rw [List.length_cons, List.flatMap_cons, List.append_assoc]
    unfold prsM
    rw [prsV_enc (Bys.app.2 ⟨flat_bys h2, hb⟩) (h n List.mem_cons_self)]
    simp only
    rw [prsM_enc ns r hb h2]
    rfl
/-- What the text of a list of numbers is. -/
theorem prsV_iff {b : List Nat} {x : VS} (hb : Bys b) : (prsV 16 b = some (x, []) ∧ x.k = 3 ∧ AllI x.l) ↔ ∃ ns : List Int, b = encIs ns ∧ x = ⟨3, 0, ns.map (fun n => (1, n))⟩ ∧ (∀ y ∈ ns, I64 y) ∧ ns.length < 18446744073709551616 := by
  constructor
  · rintro ⟨h, hk, ha⟩
    cases b with
    | nil => unfold prsV at h; cases h
    | cons c t =>
      have ht : Bys t := fun y hy => hb y (List.mem_cons_of_mem _ hy)
      unfold prsV at h
      split at h
      · exfalso
        split at h
        · simp only [Option.some.injEq, Prod.mk.injEq] at h
          rw [← h.1] at hk; simp at hk
        · cases h
      · split at h
        · exfalso
          split at h
          · simp only [Option.some.injEq, Prod.mk.injEq] at h
            rw [← h.1] at hk; simp at hk
          · cases h
        · split at h
          · rename_i hc
            simp only at h
            split at h
            · rename_i n r1 h1
              split at h
              · rename_i l r2 h2
                simp only [Option.some.injEq, Prod.mk.injEq] at h
                obtain ⟨rfl, rfl⟩ := h
                unfold prsL at h1
                split at h1
                · rename_i n' r' h3
                  split at h1
                  · simp only [Option.some.injEq, Prod.mk.injEq] at h1
                    obtain ⟨rfl, rfl⟩ := h1
                    obtain ⟨q1, q2⟩ := (prsN_num ht).1 h3
                    obtain ⟨ns, a1, a2, a3, a4⟩ := prsM_ints _ _ _ _ (Bys.app.1 (q2 ▸ ht)).2 ha h2
                    refine ⟨ns, ?_, congrArg (VS.mk 3 0) a2, a4, by omega⟩
                    unfold encIs
                    rw [hc, q2, a3, a1, List.append_nil]
                  · cases h1
                · cases h1
              · cases h
            · cases h
          · cases h
  · rintro ⟨ns, rfl, rfl, h, hlen⟩
    refine ⟨?_, rfl, fun x hx => ?_⟩
    · unfold encIs prsV
      rw [if_neg (by omega), if_neg (by omega), if_pos rfl]
      simp only
      have hl : prsL (num ns.length ++ ns.flatMap encI) = some (ns.length, ns.flatMap encI) := by
        unfold prsL
        rw [(prsN_num (Bys.app.2 ⟨num_byte hlen, flat_bys h⟩)).2 ⟨hlen, rfl⟩]
        simp only
        rw [if_pos]
        clear h hlen hb
        induction ns with
        | nil => simp
        | cons a l ih => rw [List.flatMap_cons, List.length_append, List.length_cons]; unfold encI at *; simp only [List.length_cons]; omega
      rw [hl]
      simp only
      have := prsM_enc (f := 15) ns [] (fun x hx => by cases hx) h
      rw [List.append_nil] at this
      rw [this]
    · obtain ⟨n, -, rfl⟩ := List.mem_map.1 hx
      rfl
theorem prsN_len : ∀ (b : List Nat) {i acc u : Nat} {r : List Nat}, prsN i acc b = some (u, r) → r.length < b.length
  | [], _, _, _, _, h => by cases h
  | c :: t, i, acc, u, r, h => by
    unfold prsN at h
    split at h
    · split at h
      · simp only [Option.some.injEq, Prod.mk.injEq] at h
        rw [← h.2, List.length_cons]; omega
      · have := prsN_len t h
        rw [List.length_cons]; omega
    · cases h
theorem prsL_len {b : List Nat} {n : Nat} {r : List Nat} (h : prsL b = some (n, r)) : r.length < b.length := by
  unfold prsL at h
  split at h
  · rename_i h1
    split at h
    · simp only [Option.some.injEq, Prod.mk.injEq] at h
      rw [← h.2]; exact prsN_len _ h1
    · cases h
  · cases h
theorem prsM_len {F : List Nat → Option (VS × List Nat)} (hF : ∀ b x r, F b = some (x, r) → r.length ≤ b.length) : ∀ (n : Nat) (b : List Nat) (l : List (Int × Int)) (r : List Nat), prsM F n b = some (l, r) → r.length ≤ b.length
  | 0, b, l, r, h => by
    simp only [prsM, Option.some.injEq, Prod.mk.injEq] at h
    rw [h.2]; exact Nat.le_refl _
  | n + 1, b, l, r, h => by
    unfold prsM at h
    split at h
    · rename_i x r1 h1
      split at h
      · rename_i l2 r2 h2
        simp only [Option.some.injEq, Prod.mk.injEq] at h
        rw [← h.2]
        exact Nat.le_trans (prsM_len hF n _ _ _ h2) (hF _ _ _ h1)
      · cases h
    · cases h
theorem prsV_len : ∀ (f : Nat) (b : List Nat) (x : VS) (r : List Nat), prsV f b = some (x, r) → r.length ≤ b.length := by
  intro f
  induction f with
  | zero =>
    intro b x r h
    cases b with
    | nil => unfold prsV at h; cases h
    | cons c t =>
      unfold prsV at h
      rw [List.length_cons]
      split at h
      · split at h
        · rename_i h1
          simp only [Option.some.injEq, Prod.mk.injEq] at h
          have := prsN_len _ h1
          rw [← h.2]; omega
        · cases h
      · split at h
        · split at h
          · rename_i h1
            simp only [Option.some.injEq, Prod.mk.injEq] at h
            have := prsL_len h1
            rw [← h.2, List.length_drop]; omega
          · cases h
        · split at h
          · cases h
          · cases h
  | succ f ih =>
    intro b x r h
    cases b with
    | nil => unfold prsV at h; cases h
    | cons c t =>
      unfold prsV at h
      rw [List.length_cons]
      split at h
      · split at h
        · rename_i h1
          simp only [Option.some.injEq, Prod.mk.injEq] at h
          have := prsN_len _ h1
          rw [← h.2]; omega
        · cases h
      · split at h
        · split at h
          · rename_i h1
            simp only [Option.some.injEq, Prod.mk.injEq] at h
            have := prsL_len h1
            rw [← h.2, List.length_drop]; omega
          · cases h
        · split at h
          · simp only at h
            split at h
            · rename_i h1
              split at h
              · rename_i h2
                simp only [Option.some.injEq, Prod.mk.injEq] at h
                have := prsL_len h1
                have := prsM_len ih _ _ _ _ h2
                rw [← h.2]; omega
              · cases h
            · cases h
          · cases h
end Go.Proofs.YtehcphboliofaaaGreatDoor

/- Layer 1: the program's reader. -/
namespace Go.Proofs.YtehcphboliofaaaGreatDoor
open Go Go.RowKit

abbrev cErr : List PanicEntry := [{ v := .iface 29 (iv 10), recovered := false }]
section
variable {D : Nat → Prop} {w : World}
theorem c_want {ok : Bool} {r : Value} : CallX Tryz.prog 94 #[r, .bool ok] w (fun v w' => v = .tuple #[] ∧ ok = true ∧ w' = w) (fun ch w' => ok = false ∧ w' = w ∧ ch = cErr) := by
  refine fn_ruleX (args := [r, .bool ok]) Tryz.func94 (by kernel_rfl) ?_
  cases ok with
  | true => exact ret0 ⟨rfl, rfl, rfl⟩
  | false =>
    refine mkI rfl (by kernel_rfl) ?_
    refine panicI rfl ?_
    exact fun _ _ => ⟨rfl, rfl, rfl, rfl⟩
theorem wnt {ok : Bool} {r : Value} {K : VK} {X : XK} (k1 : ok = true → K (.tuple #[]) w) (k2 : ok = false → X cErr w) : CallP Tryz.prog 94 #[r, .bool ok] K X w := by
  refine call_ofX c_want ?_ ?_
  · rintro _ _ ⟨rfl, h, rfl⟩; exact k1 h
  · rintro _ _ ⟨h, rfl, rfl⟩; exact k2 h
/-- A reader: what it has yet to read. -/
structure RdA (D : Nat → Prop) (w : World) (r : Nat) (b : List Nat) : Prop where
  of_ ::
  ex : ∃ A n c, Blk w r 163 [.slice A n c] ∧ SlR tU8 D w A n b ∧ n ≤ c
  ne : ∀ g, D g → g ≠ r
theorem c_rtake {r k : Nat} {b : List Nat} (h : RdA D w r b) (hk : k ≤ 140737488355328) : CallX Tryz.prog 162 #[ptr r, iv (k : Int)] w
    (fun v w' => k ≤ b.length ∧ ∃ A, v = .slice A k k ∧ SlR tU8 D w' A k (b.take k) ∧ RdA D w' r (b.drop k) ∧ Kept (fun g => g ≠ r) w w')
    (fun ch w' => b.length < k ∧ w' = w ∧ ch = cErr) := by
  obtain ⟨⟨A, n, c, B, hs, hc⟩, hne⟩ := h
  have hlen := hs.len
  refine fn_ruleX (args := [ptr r, iv (k : Int)]) Tryz.func162 (by kernel_rfl) ?_
  refine fldA ?_
  refine ld (.slice A n c) (B.cell rfl) ?_
  refine len ?_
  refine cD (fun hle => ?_) (fun hgt => ?_)
  rotate_left
  · refine wnt (fun h => Bool.noConfusion h) (fun _ => ?_)
    exact fun _ _ => ⟨rfl, by omega, rfl, rfl⟩
  refine wnt (fun _ => ?_) (fun h => Bool.noConfusion h)
  have hle : k ≤ n := by omega
  refine fldA ?_
  refine ld (.slice A n c) (B.cell rfl) ?_
  refine slcM 0 k k hs rfl rfl rfl (by omega) hle (Nat.le_refl _) (by omega) rfl (fun A2 hA2 => ?_)
  refine fldA ?_
  refine ld (.slice A n c) (B.cell rfl) ?_
  refine slcR k n hs hc rfl rfl hle (Nat.le_refl _) rfl (fun A3 hA3 => ?_)
  refine fldA ?_
  refine st1 B rfl (fun w2 B2 k2 => ?_)
  have s2 := hA2 D w2 (hs.kept k2 fun b _ h => hne b h)
  have s3 := hA3 D w2 (hs.kept k2 fun b _ h => hne b h)
  rw [List.drop_zero, Nat.sub_zero] at s2
  rw [List.take_of_length_le (by omega)] at s3
  refine ret1 (.slice A2 k k) rfl ⟨by omega, A2, rfl, s2, ⟨⟨A3, n - k, c - k, B2, s3, by omega⟩, hne⟩, k2⟩
theorem or_acc {acc c i : Nat} (h : acc < 128 ^ i) : acc ||| (c <<< (7 * i)) = acc + c * 128 ^ i := by
  have e : (128 : Nat) ^ i = 2 ^ (7 * i) := by rw [Nat.pow_mul]
  rw [e] at h ⊢
  rw [Nat.or_comm, ← Nat.shiftLeft_add_eq_or_of_lt h, Nat.shiftLeft_eq, Nat.add_comm]
set_option maxRecDepth 4000 in
theorem and127 : ∀ x, x < 256 → x &&& 127 = x % 128 := by decide
theorem acc_bound {acc c i : Nat} (h : acc < 128 ^ i) (hi : i ≤ 9) (hq : i < 9 ∨ c ≤ 1) (hc : c < 256) : (c % 128) <<< (7 * i) < 18446744073709551616 ∧ True ∧ acc < 18446744073709551616 := by
  have e : (c % 128) <<< (7 * i) = c % 128 * 128 ^ i := by rw [Nat.shiftLeft_eq, Nat.pow_mul]
  rw [e]
  have h9 : 128 ^ i ≤ 128 ^ 9 := Nat.pow_le_pow_right (by omega) hi
  refine ⟨?_, trivial, by omega⟩
  rcases hq with hq | hq
  · have h8 : 128 ^ i ≤ 128 ^ 8 := Nat.pow_le_pow_right (by omega) (by omega)
    have : c % 128 * 128 ^ i ≤ 127 * 128 ^ 8 := Nat.mul_le_mul (by omega) h8
    omega
  · have : c % 128 * 128 ^ i ≤ 1 * 128 ^ 9 := Nat.mul_le_mul (by omega) h9
    omega
/-- The number that is read, from place i on. -/
theorem c_rnumber {r : Nat} {b : List Nat} (h : RdA D w r b) : CallX Tryz.prog 164 #[ptr r] w
    (fun v w' => ∃ u b', prsN 0 0 b = some (u, b') ∧ v = uv64 u ∧ RdA D w' r b' ∧ Kept (fun g => g ≠ r) w w')
    (fun ch w' => prsN 0 0 b = none ∧ Kept (fun g => g ≠ r) w w' ∧ ch = cErr) := by
  refine fn_ruleX (args := [ptr r]) Tryz.func164 (by kernel_rfl) ?_
  refine loop2 (fun (i acc : Nat) => [(2, uv64 acc), (3, iv (i : Int))]) (fun i acc y => i ≤ 9 ∧ acc < 128 ^ i ∧ Kept (fun g => g ≠ r) w y ∧ ∃ b', prsN 0 0 b = prsN i acc b' ∧ RdA D y r b') (fun i _ _ => 10 - i) 0 0 ⟨rfl, rfl, trivial⟩ ⟨by omega, by omega, .refl _ _, b, rfl, h⟩ rfl ?_
  rintro G i acc y ⟨hi, hacc, ky, b', he, hb'⟩
  refine call_ofX (c_rtake (k := 1) hb' (by omega)) ?_ ?_
  rotate_left
  · rintro _ _ ⟨hlt, rfl, rfl⟩
    have : b' = [] := List.eq_nil_of_length_eq_zero (by omega)
    subst this
    exact fun _ _ => ⟨rfl, he, ky, rfl⟩
  rintro _ y2 ⟨hle, A, rfl, hs, hb2, k2⟩
  cases b' with
  | nil => simp at hle
  | cons c t =>
  have hs : SlR tU8 D y2 A 1 [c] := hs
  have hb2 : RdA D y2 r t := hb2
  have ky2 := ky.trans k2
  obtain ⟨bx, o, cs, x, rfl, hx, -, -, hc, hcs⟩ := hs.at_ (k := 0) (by omega)
  obtain ⟨rfl, hc256⟩ := hcs
  have hxc : c = x := by simpa using hx
  subst hxc
  refine idx 0 rfl (by omega) ?_
  refine ld (uv8 c) (hc 0 _ rfl) ?_
  refine cE (fun h0 => ?_) (fun h0 => ?_)
  · refine cD (fun h9 => ?_) (fun h9 => absurd h9 (by omega))
    refine wnt (fun _ => ?_) (fun h => Bool.noConfusion h)
    have hq : (i = 0 ∨ c ≠ 0) ∧ (i < 9 ∨ c ≤ 1) := by omega
    have hb := acc_bound hacc hi hq.2 hc256
    refine and8 (a := c) (b := 127) hc256 (by omega) ?_
    refine cv64 (c &&& 127) rfl ?_
    rw [and127 c hc256, Nat.mod_eq_of_lt (show c % 128 < 18446744073709551616 by omega)]
    refine arI (n := 7 * (i : Int)) (by omega) ?_
    refine shl64 (7 * i) (by show (7 : Int) * (i : Int) = ((7 * i : Nat) : Int); omega) (by omega) ?_
    rw [Nat.mod_eq_of_lt hb.1]
    refine or64 hb.2.2 hb.1 ?_
    rw [or_acc hacc]
    refine cD (fun h1 => ?_) (fun h1 => ?_)
    · refine ret1 (uv64 (acc + c % 128 * 128 ^ i)) rfl ⟨acc + c % 128 * 128 ^ i, t, ?_, rfl, hb2, ky2⟩
      rw [he]
      unfold prsN
      rw [if_pos hq, if_pos (by omega)]
    · have h9 : i < 9 := by
        rcases hq.2 with h | h
        · exact h
        · omega
      refine arI (n := (i : Int) + 1) (by omega) ?_
      refine next2 (i + 1) (acc + c % 128 * 128 ^ i) ⟨rfl, by rw [Int.natCast_add]; rfl, trivial⟩ ⟨by omega, ?_, ky2, t, ?_, hb2⟩ (by omega)
      · rw [Nat.pow_succ]
        have : c % 128 < 128 := Nat.mod_lt _ (by omega)
        have h2 : c % 128 * 128 ^ i ≤ 127 * 128 ^ i := Nat.mul_le_mul_right _ (by omega)
        omega
      · rw [he]
        conv => lhs; unfold prsN
        rw [if_pos hq, if_neg (by omega)]
  · refine cN (fun hc0 => ?_) (fun hc0 => ?_)
    · refine cD (fun h9 => ?_) (fun h9 => ?_)
      · refine wnt (fun _ => ?_) (fun h => Bool.noConfusion h)
        have hq : (i = 0 ∨ c ≠ 0) ∧ (i < 9 ∨ c ≤ 1) := by omega
        have hb := acc_bound hacc hi hq.2 hc256
        refine and8 (a := c) (b := 127) hc256 (by omega) ?_
        refine cv64 (c &&& 127) rfl ?_
        rw [and127 c hc256, Nat.mod_eq_of_lt (show c % 128 < 18446744073709551616 by omega)]
        refine arI (n := 7 * (i : Int)) (by omega) ?_
        refine shl64 (7 * i) (by show (7 : Int) * (i : Int) = ((7 * i : Nat) : Int); omega) (by omega) ?_
        rw [Nat.mod_eq_of_lt hb.1]
        refine or64 hb.2.2 hb.1 ?_
        rw [or_acc hacc]
        refine cD (fun h1 => ?_) (fun h1 => ?_)
        · refine ret1 (uv64 (acc + c % 128 * 128 ^ i)) rfl ⟨acc + c % 128 * 128 ^ i, t, ?_, rfl, hb2, ky2⟩
          rw [he]
          unfold prsN
          rw [if_pos hq, if_pos (by omega)]
        · have h9 : i < 9 := by
            rcases hq.2 with h | h
            · exact h
            · omega
          refine arI (n := (i : Int) + 1) (by omega) ?_
          refine next2 (i + 1) (acc + c % 128 * 128 ^ i) ⟨rfl, by rw [Int.natCast_add]; rfl, trivial⟩ ⟨by omega, ?_, ky2, t, ?_, hb2⟩ (by omega)
          · rw [Nat.pow_succ]
            have : c % 128 < 128 := Nat.mod_lt _ (by omega)
            have h2 : c % 128 * 128 ^ i ≤ 127 * 128 ^ i := Nat.mul_le_mul_right _ (by omega)
            omega
          · rw [he]
            conv => lhs; unfold prsN
            rw [if_pos hq, if_neg (by omega)]
      · refine cD (fun h1 => ?_) (fun h1 => ?_)
        · refine wnt (fun _ => ?_) (fun h => Bool.noConfusion h)
          have hq : (i = 0 ∨ c ≠ 0) ∧ (i < 9 ∨ c ≤ 1) := by omega
          have hb := acc_bound hacc hi hq.2 hc256
          refine and8 (a := c) (b := 127) hc256 (by omega) ?_
          refine cv64 (c &&& 127) rfl ?_
          rw [and127 c hc256, Nat.mod_eq_of_lt (show c % 128 < 18446744073709551616 by omega)]
          refine arI (n := 7 * (i : Int)) (by omega) ?_
          refine shl64 (7 * i) (by show (7 : Int) * (i : Int) = ((7 * i : Nat) : Int); omega) (by omega) ?_
          rw [Nat.mod_eq_of_lt hb.1]
          refine or64 hb.2.2 hb.1 ?_
          rw [or_acc hacc]
          refine cD (fun h1 => ?_) (fun h1 => ?_)
          · refine ret1 (uv64 (acc + c % 128 * 128 ^ i)) rfl ⟨acc + c % 128 * 128 ^ i, t, ?_, rfl, hb2, ky2⟩
            rw [he]
            unfold prsN
            rw [if_pos hq, if_pos (by omega)]
          · have h9 : i < 9 := by
              rcases hq.2 with h | h
              · exact h
              · omega
            refine arI (n := (i : Int) + 1) (by omega) ?_
            refine next2 (i + 1) (acc + c % 128 * 128 ^ i) ⟨rfl, by rw [Int.natCast_add]; rfl, trivial⟩ ⟨by omega, ?_, ky2, t, ?_, hb2⟩ (by omega)
            · rw [Nat.pow_succ]
              have : c % 128 < 128 := Nat.mod_lt _ (by omega)
              have h2 : c % 128 * 128 ^ i ≤ 127 * 128 ^ i := Nat.mul_le_mul_right _ (by omega)
              omega
            · rw [he]
              conv => lhs; unfold prsN
              rw [if_pos hq, if_neg (by omega)]
        · refine wnt (fun h => Bool.noConfusion h) (fun _ => ?_)
          refine fun _ _ => ⟨rfl, ?_, ky2, rfl⟩
          rw [he]
          unfold prsN
          exact if_neg (by omega)
    · refine wnt (fun h => Bool.noConfusion h) (fun _ => ?_)
      refine fun _ _ => ⟨rfl, ?_, ky2, rfl⟩
      rw [he]
      unfold prsN
      exact if_neg (by omega)
theorem c_rlength {r : Nat} {b : List Nat} (h : RdA D w r b) (hb : Bys b) : CallX Tryz.prog 165 #[ptr r] w
    (fun v w' => ∃ n b', prsL b = some (n, b') ∧ v = iv (n : Int) ∧ n ≤ b'.length ∧ RdA D w' r b' ∧ Kept (fun g => g ≠ r) w w')
    (fun ch w' => prsL b = none ∧ Kept (fun g => g ≠ r) w w' ∧ ch = cErr) := by
  refine fn_ruleX (args := [ptr r]) Tryz.func165 (by kernel_rfl) ?_
  refine call_ofX (c_rnumber h) ?_ ?_
  rotate_left
  · rintro _ _ ⟨hn, k, rfl⟩
    exact fun _ _ => ⟨rfl, by unfold prsL; rw [hn], k, rfl⟩
  rintro _ w2 ⟨u, b', hp, rfl, h2, k2⟩
  obtain ⟨⟨A, n, c, B, hs, hc⟩, hne⟩ := h2
  have hlen := hs.len
  have hle := hs.le
  have hu := ((prsN_num hb).1 hp).1
  refine fldA ?_
  refine ld (.slice A n c) (B.cell rfl) ?_
  refine len ?_
  refine cv64 n rfl ?_
  rw [Nat.mod_eq_of_lt (show n < 18446744073709551616 by omega)]
  refine cD (fun hl => ?_) (fun hl => ?_)
  rotate_left
  · refine wnt (fun h => Bool.noConfusion h) (fun _ => ?_)
    exact fun _ _ => ⟨rfl, by unfold prsL; rw [hp]; exact if_neg (by omega), k2, rfl⟩
  refine wnt (fun _ => ?_) (fun h => Bool.noConfusion h)
  refine cvI (by omega) ?_
  exact ret1 (iv (u : Int)) rfl ⟨u, b', by unfold prsL; rw [hp]; exact if_pos (by omega), rfl, by omega, ⟨⟨A, n, c, B, hs, hc⟩, hne⟩, k2⟩
theorem i64_xor_neg (a : Nat) (ha : a < 9223372036854775808) : bits .xor .i64 (a : Int) (-1) = -(a : Int) - 1 := by
  show IntKind.i64.wrap ((BitVec.ofInt 64 (a : Int) ^^^ BitVec.ofInt 64 (-1)).toNat : Int) = _
  have e : BitVec.ofInt 64 (-1) = BitVec.allOnes 64 := by decide
  rw [e, BitVec.xor_allOnes, BitVec.toNat_not, ofInt_i64 a ha, IntKind.wrap_i64]
  omega
theorem c_vsigned {u : Nat} (hu : u < 18446744073709551616) : CallZ Tryz.prog 163 #[uv64 u] w (fun v w' => v = iv (sgn u) ∧ w' = w) := by
  refine fn_rule (args := [uv64 u]) Tryz.func163 (by kernel_rfl) ?_
  refine shr64 1 rfl (by omega) ?_
  have e1 : u >>> 1 = u / 2 := Nat.shiftRight_eq_div_pow u 1
  rw [e1]
  refine cvI (by omega) ?_
  refine and64 (a := u) (b := 1) hu (by omega) ?_
  have e2 : u &&& 1 = u % 2 := Nat.and_one_is_mod u
  rw [e2]
  refine cvI (by omega) ?_
  rcases Nat.mod_two_eq_zero_or_one u with h | h
  · rw [h]
    refine arI (n := 0) (by omega) ?_
    refine bitR ((u / 2 : Nat) : Int) ((i64_xor_nat (u / 2) 0 (by omega) (by omega)).trans (by rw [Nat.xor_zero])) ?_
    exact ret1 (iv (sgn u)) (by unfold sgn; rw [if_pos h]; rfl) ⟨rfl, rfl⟩
  · rw [h]
    refine arI (n := -1) (by omega) ?_
    refine bitR (-((u / 2 : Nat) : Int) - 1) (i64_xor_neg (u / 2) (by omega)) ?_
    exact ret1 (iv (sgn u)) (by unfold sgn; rw [if_neg (by omega)]; rfl) ⟨rfl, rfl⟩
end
end Go.Proofs.YtehcphboliofaaaGreatDoor
