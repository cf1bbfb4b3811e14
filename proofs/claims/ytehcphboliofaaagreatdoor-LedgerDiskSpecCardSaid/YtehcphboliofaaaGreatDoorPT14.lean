/- Parts of the proof: Nj Nk Nl Nm Nn No Np. -/
import Derived.Test.YtehcphboliofaaaGreatDoorPT7
import Derived.Test.YtehcphboliofaaaGreatDoorPT11
import Derived.Test.YtehcphboliofaaaGreatDoorPT13
import Derived.Test.YtehcphboliofaaaGreatDoorPT4
import Derived.Lib.MakeNoZero
import Derived.Laws.Externs
namespace Go.Proofs.YtehcphboliofaaaGreatDoor
open Go Go.RowKit
def not32 (a : Nat) : Nat := 4294967295 - a
theorem not32_lt (a : Nat) : not32 a < 4294967296 := by unfold not32; omega
theorem not32_testBit {a : Nat} (h : a < 4294967296) (i : Nat) : (not32 a).testBit i = (decide (i < 32) && !a.testBit i) := by
  have := Nat.testBit_two_pow_sub_succ (n := 32) (x := a) (by omega) i; rw [show 2 ^ 32 - (a + 1) = not32 a by unfold not32; omega] at this; exact this
theorem hi_bit {a : Nat} (h : a < 4294967296) {i : Nat} (hi : ¬ i < 32) : a.testBit i = false := Nat.testBit_lt_two_pow (Nat.lt_of_lt_of_le (show a < 2 ^ 32 by omega) (Nat.pow_le_pow_right (by omega) (by omega)))
theorem ch_eq {e f g : Nat} (he : e < 4294967296) (hg : g < 4294967296) : (e &&& f) ^^^ (not32 e &&& g) = g ^^^ (e &&& (f ^^^ g)) := by
  apply Nat.eq_of_testBit_eq; intro i; simp only [Nat.testBit_xor, Nat.testBit_and, not32_testBit he]
  by_cases hi : i < 32
  · cases e.testBit i <;> cases f.testBit i <;> cases g.testBit i <;> simp [hi]
  · rw [hi_bit he hi, hi_bit hg hi]; simp
theorem maj_eq (a b c : Nat) : ((a &&& b) ^^^ (a &&& c)) ^^^ (b &&& c) = (a &&& b) ||| (c &&& (a ||| b)) := by
  apply Nat.eq_of_testBit_eq; intro i; simp only [Nat.testBit_xor, Nat.testBit_and, Nat.testBit_or]
  cases a.testBit i <;> cases b.testBit i <;> cases c.testBit i <;> rfl
theorem not32_xor {a : Nat} (ha : a < 4294967296) : 4294967295 ^^^ a = not32 a := by
  apply Nat.eq_of_testBit_eq; intro i; rw [Nat.testBit_xor, not32_testBit ha, show (4294967295 : Nat) = 2 ^ 32 - 1 from rfl, Nat.testBit_two_pow_sub_one]
  by_cases hi : i < 32
  · simp [hi]
  · rw [hi_bit ha hi]; simp [hi]
theorem comp32 {P : Program} {K : Value → Prop} {a : Nat} (ha : a < 4294967296) (k : K (uv32 (not32 a))) : PureP P (vS (Op.unary .xor (.int .u32 (a : Int)))) K := by
  rw [PureP_eq]; refine pure_vval (x := uv32 (not32 a)) (fun w => ?_) k; have h := u32_xor_nat 4294967295 a (by omega) ha; rw [not32_xor ha] at h; have e : Op.unary .xor (.int .u32 (a : Int)) = (pure (.int .u32 (bits .xor .u32 ((4294967295 : Nat) : Int) (a : Int))) : Sem Value) := rfl; rw [e, h]
  rfl
theorem rot_or {x n : Nat} : x >>> n ||| (x <<< (32 - n)) % 4294967296 = rot x n := Nat.or_comm _ _
theorem or_byte (n : Nat) {x : Nat} (hx : x < 256) : (n <<< 8) ||| x = n * 256 + x := by
  rw [← Nat.shiftLeft_add_eq_or_of_lt (show x < 2 ^ 8 by omega), Nat.shiftLeft_eq]
theorem wd_four {a b c d : Nat} (ha : a < 256) (hb : b < 256) (hc : c < 256) (hd : d < 256) : (((a <<< 24) % 4294967296 ||| (b <<< 16) % 4294967296) ||| (c <<< 8) % 4294967296) ||| d = wdB [a, b, c, d] := by
  have e1 : (a <<< 24) % 4294967296 ||| (b <<< 16) % 4294967296 = (a * 256 + b) <<< 16 := by
    have h1 : (a <<< 24) % 4294967296 = (a <<< 8) <<< 16 := by rw [← Nat.shiftLeft_add, Nat.mod_eq_of_lt (by rw [Nat.shiftLeft_eq]; omega)]
    have h2 : (b <<< 16) % 4294967296 = b <<< 16 := Nat.mod_eq_of_lt (by rw [Nat.shiftLeft_eq]; omega); rw [h1, h2, ← or_byte a hb]; apply Nat.eq_of_testBit_eq; intro i; simp only [Nat.testBit_or, Nat.testBit_shiftLeft]
    cases decide (i ≥ 16) <;> rfl
  have e2 : (a * 256 + b) <<< 16 ||| (c <<< 8) % 4294967296 = ((a * 256 + b) * 256 + c) <<< 8 := by
    have h1 : (a * 256 + b) <<< 16 = ((a * 256 + b) <<< 8) <<< 8 := by rw [← Nat.shiftLeft_add]
    have h2 : (c <<< 8) % 4294967296 = c <<< 8 := Nat.mod_eq_of_lt (by rw [Nat.shiftLeft_eq]; omega); rw [h1, h2, ← or_byte (a * 256 + b) hc]; apply Nat.eq_of_testBit_eq; intro i; simp only [Nat.testBit_or, Nat.testBit_shiftLeft]
    cases decide (i ≥ 8) <;> rfl
  rw [e1, e2, or_byte _ hd]; have m : ∀ n : Nat, n < 16777216 → (n <<< 8) % 4294967296 = n <<< 8 := fun n hn => Nat.mod_eq_of_lt (by rw [Nat.shiftLeft_eq]; omega); show _ = (((((((0 <<< 8) % 4294967296 ||| a) <<< 8) % 4294967296 ||| b) <<< 8) % 4294967296 ||| c) <<< 8) % 4294967296 ||| d
  have z0 : (0 <<< 8) % 4294967296 ||| a = a := by simp
  rw [z0, m a (by omega), or_byte a hb, m (a * 256 + b) (by omega), or_byte _ hc, m ((a * 256 + b) * 256 + c) (by omega), or_byte _ hd]
theorem wdB_take (b : List Nat) (k : Nat) : wdB ((b.take (4 * k + 4)).drop (4 * k)) = wdB (b.drop (4 * k)) := by
  unfold wdB; rw [List.drop_take, show 4 * k + 4 - 4 * k = 4 by omega, List.take_take]
  rfl
theorem rndQ_alt {v0 v1 v2 : Nat} : (rot3 v0 2 13 22 + (((v0 &&& v1) ^^^ (v0 &&& v2)) ^^^ (v1 &&& v2))) % 4294967296 = rndQ v0 v1 v2 := by unfold rndQ; rw [maj_eq]
theorem rndP_alt {v4 v5 v6 v7 k w : Nat} (h4 : v4 < 4294967296) (h6 : v6 < 4294967296) : ((((v7 + rot3 v4 6 11 25) % 4294967296 + ((v4 &&& v5) ^^^ (not32 v4 &&& v6))) % 4294967296 + k) % 4294967296 + w) % 4294967296 = rndP v4 v5 v6 v7 k w := by unfold rndP; rw [ch_eq h4 h6]
def padL (b : List Nat) : List Nat := b ++ 128 :: (List.replicate (endM b - 9 - b.length % 64) 0 ++ beB 8 (8 * b.length))
theorem padL_end (b : List Nat) : padL b = b.take (64 * (b.length / 64)) ++ endB b := by
  unfold padL endB restL; rw [← List.append_assoc, List.take_append_drop]
theorem padL_len (b : List Nat) : (padL b).length = 64 * (b.length / 64 + endM b / 64) := by
  rw [padL_end, List.length_append, endB_len, List.length_take]; unfold endM
  split <;> omega
theorem absK_head {s p q : List Nat} : ∀ k, (∀ j, j < k → (p.drop (64 * j)).take 64 = (q.drop (64 * j)).take 64) → absK s p k = absK s q k
  | 0, _ => rfl
  | k + 1, h => by
    unfold absK
    rw [absK_head k fun j hj => h j (by omega), h k (by omega)]
theorem absK_add {s p : List Nat} (m : Nat) : ∀ k, absK s p (m + k) = absK (absK s p m) (p.drop (64 * m)) k
  | 0 => rfl
  | k + 1 => by
    show absV (absK s p (m + k)) ((p.drop (64 * (m + k))).take 64) = absV (absK (absK s p m) (p.drop (64 * m)) k) (((p.drop (64 * m)).drop (64 * k)).take 64)
    rw [absK_add m k, List.drop_drop, show 64 * (m + k) = 64 * m + 64 * k by omega]
theorem absK_pad (b : List Nat) : absK startL (padL b) (b.length / 64 + endM b / 64) = absK (absK startL b (b.length / 64)) (endB b) (endM b / 64) := by
  have hl : (b.take (64 * (b.length / 64))).length = 64 * (b.length / 64) := by rw [List.length_take]; omega
  have e1 : (padL b).drop (64 * (b.length / 64)) = endB b := by
    rw [padL_end]; exact List.drop_left' hl
  rw [absK_add, e1]
  congr 1
  refine absK_head _ fun j hj => ?_; unfold padL; rw [List.drop_append_of_le_length (by omega), List.take_append_of_le_length (by rw [List.length_drop]; omega)]
theorem shaB_pad (b : List Nat) : shaB b = (absK startL (padL b) (b.length / 64 + endM b / 64)).flatMap (beB 4) := by rw [absK_pad]; rfl
theorem padL_lt {b : List Nat} (h : ∀ x ∈ b, x < 256) : ∀ x ∈ padL b, x < 256 := fun x hx => by
  rw [padL_end] at hx
  rcases List.mem_append.1 hx with hx | hx
  · exact h x (List.mem_of_mem_take hx)
  · exact endB_lt h x hx
theorem pad_more {n z : Nat} (h : z ≤ (if n % 64 ≤ 55 then 64 else 128) - 9 - n % 64) : (n + 1 + z) % 64 = 56 ↔ z = (if n % 64 ≤ 55 then 64 else 128) - 9 - n % 64 := by
  split at h <;> split <;> omega
def leafT : ByteArray := { data := #[108, 101, 97, 102] }
def nodeT : ByteArray := { data := #[110, 111, 100, 101] }
def leafB (b : List Nat) : List Nat := shaB (shaB (bl leafT) ++ b)
def nodeB (a b : List Nat) : List Nat := shaB (shaB (bl nodeT) ++ (a ++ b))
def upL : List (List Nat) → List (List Nat)
  | a :: b :: r => nodeB a b :: upL r
  | l => l
theorem upL_len : ∀ l, (upL l).length = (l.length + 1) / 2
  | [] => rfl
  | [_] => by simp [upL]
  | a :: b :: r => by
    unfold upL
    rw [List.length_cons, upL_len r, List.length_cons, List.length_cons]
    omega
def rootF : Nat → List (List Nat) → List Nat
  | 0, l => l.headD []
  | f + 1, l => if 1 < l.length then rootF f (upL l) else l.headD []
def rootL (l : List (List Nat)) : List Nat := if l = [] then tagB (bl noneT) [] else rootF l.length (l.map leafB)
theorem rootF_one {f : Nat} {l : List (List Nat)} (h : l.length ≤ 1) : rootF f l = l.headD [] := by
  cases f with
  | zero => rfl
  | succ f => unfold rootF; rw [if_neg (by omega)]
theorem rootF_step {f : Nat} {l : List (List Nat)} (h : 1 < l.length) : rootF (f + 1) l = rootF f (upL l) := by
  conv => lhs; unfold rootF
  rw [if_pos h]
def Row (l : List (List Nat)) : Prop := ∀ x ∈ l, x.length = 32 ∧ ∀ y ∈ x, y < 256
theorem Row.leaf (l : List (List Nat)) : Row (l.map leafB) := fun x hx => by
  obtain ⟨b, -, rfl⟩ := List.mem_map.1 hx
  exact ⟨shaB_len _, shaB_lt _⟩
theorem Row.up : ∀ {l : List (List Nat)}, Row l → Row (upL l)
  | [], h => h
  | [_], h => h
  | a :: b :: r, h => fun x hx => by
    unfold upL at hx
    rcases List.mem_cons.1 hx with rfl | hx
    · exact ⟨shaB_len _, shaB_lt _⟩
    · exact Row.up (fun y hy => h y (List.mem_cons_of_mem _ (List.mem_cons_of_mem _ hy))) x hx
section
variable {D : Nat → Prop} {w : World}
theorem c_r02ror {x : Nat} (n : Nat) (hx : x < 4294967296) (h1 : 1 ≤ n) (h2 : n ≤ 31) {i : Int} (hi : i = (n : Int)) : CallZ Tryz.prog 248 #[uv32 x, iv i] w (fun v w' => v = uv32 (rot x n) ∧ w' = w) := by
  subst hi; refine fn_rule (args := [uv32 x, iv (n : Int)]) Tryz.func248 (by kernel_rfl) ?_; refine drawP (.take 0 (.take 1 (.take 2 (.take 3 (.take 4 (.take 5 (.take 6 (.take 7 (.take 8 .done))))))))) [] (fun y => y = w) mx (by kernel_rfl) rfl ?_; refine shr32 n rfl (by omega) ?_; refine arI (n := 32 - (n : Int)) (by omega) ?_; refine shl32 (32 - n) (by omega) (by omega) ?_; refine or32 (shr_lt hx) (Nat.mod_lt _ (by omega)) ?_; rw [rot_or]; exact ret1 (uv32 (rot x n)) rfl ⟨rfl, rfl⟩
theorem c_r02word {A : Option Addr} {c : Nat} {b : List Nat} (hs : SlR tU8 D w A 4 b) : CallZ Tryz.prog 247 #[.slice A 4 c] w (fun v w' => v = uv32 (wdB b) ∧ w' = w) := by
  have hl := hs.len; have hby := hs.u8b; refine fn_rule (args := [.slice A 4 c]) Tryz.func247 (by kernel_rfl) ?_
  obtain ⟨b0, b1, b2, b3, rfl⟩ : ∃ b0 b1 b2 b3, b = [b0, b1, b2, b3] := by
    match b, hl with
    | [b0, b1, b2, b3], _ => exact ⟨b0, b1, b2, b3, rfl⟩
  have l0 := hby b0 (by simp); have l1 := hby b1 (by simp); have l2 := hby b2 (by simp); have l3 := hby b3 (by simp); obtain ⟨bx, o, cs0, x0, rfl, hx0, -, -, hc0, rfl, -⟩ := hs.at_ (k := 0) (by omega); obtain ⟨bx1, o1, cs1, x1, hB1, hx1, -, -, hc1, rfl, -⟩ := hs.at_ (k := 1) (by omega); obtain ⟨bx2, o2, cs2, x2, hB2, hx2, -, -, hc2, rfl, -⟩ := hs.at_ (k := 2) (by omega); obtain ⟨bx3, o3, cs3, x3, hB3, hx3, -, -, hc3, rfl, -⟩ := hs.at_ (k := 3) (by omega); injection hB1 with hB1; injection hB1 with a1 a1'; injection hB2 with hB2; injection hB2 with a2 a2'; injection hB3 with hB3; injection hB3 with a3 a3'; subst a1; subst a1'; subst a2; subst a2'; subst a3; subst a3'; simp only [List.getElem?_cons_zero, List.getElem?_cons_succ, Option.some.injEq] at hx0 hx1 hx2 hx3; subst hx0; subst hx1; subst hx2; subst hx3; have d0 := hc0 0 _ rfl; have d1 := hc1 0 _ rfl; have d2 := hc2 0 _ rfl; have d3 := hc3 0 _ rfl; have ma : ∀ a : Nat, a < 256 → a % 4294967296 = a := fun a ha => Nat.mod_eq_of_lt (by omega); refine drawP (.take 0 (.take 1 (.take 2 (.take 3 (.take 4 (.take 5 (.take 6 (.take 7 (.take 8 (.take 9 (.take 10 (.take 11 (.take 12 (.take 13 (.take 14 (.take 15 (.take 16 (.take 17 (.take 18 (.take 19 (.take 20 (.take 21 (.take 22 .done))))))))))))))))))))))) [] (fun y => y = w) mx (by kernel_rfl) rfl ?_; refine idx 0 rfl (by omega) ?_; refine ldS (uv8 b0) (fun y hy => by subst hy; exact d0) ?_; refine cv32 b0 rfl ?_; rw [ma b0 l0]; refine shl32 24 rfl (by omega) ?_; refine idx 1 rfl (by omega) ?_; refine ldS (uv8 b1) (fun y hy => by subst hy; exact d1) ?_; refine cv32 b1 rfl ?_; rw [ma b1 l1]; refine shl32 16 rfl (by omega) ?_; refine or32 (Nat.mod_lt _ (by omega)) (Nat.mod_lt _ (by omega)) ?_; refine idx 2 rfl (by omega) ?_; refine ldS (uv8 b2) (fun y hy => by subst hy; exact d2) ?_; refine cv32 b2 rfl ?_; rw [ma b2 l2]; refine shl32 8 rfl (by omega) ?_; refine or32 (or_lt (Nat.mod_lt _ (by omega)) (Nat.mod_lt _ (by omega))) (Nat.mod_lt _ (by omega)) ?_; refine idx 3 rfl (by omega) ?_; refine ldS (uv8 b3) (fun y hy => by subst hy; exact d3) ?_; refine cv32 b3 rfl ?_; rw [ma b3 l3]; refine or32 (or_lt (or_lt (Nat.mod_lt _ (by omega)) (Nat.mod_lt _ (by omega))) (Nat.mod_lt _ (by omega))) (by omega) ?_; rw [wd_four l0 l1 l2 l3]; exact ret1 (uv32 _) rfl ⟨rfl, rfl⟩
theorem c_r02numbers : CallZ Tryz.prog 249 #[] w (fun v w' => v = .agg (u32s numsL).toArray ∧ Ext w w') := by
  refine fn_rule (args := []) Tryz.func249 (by kernel_rfl) ?_; refine alloc (fun b w1 h1 => ?_); have e1 := h1.at_; refine bld (u32s numsL) (by kernel_rfl) ?_; refine stA (vs := u32s numsL) h1.blk rfl (Nat.le_of_ble_eq_true rfl) (fun v hv => by obtain ⟨n, -, rfl⟩ := List.mem_map.1 hv; rfl) (fun we Be ke _ => ?_); have Be : Blk we b 308 (u32s numsL) := Be; refine ret ?_; refine resL (.agg (u32s numsL).toArray) (holds_agg (.blk Be) rfl) ?_; exact ⟨rfl, h1.ext.then ke fun i hi _ e => by omega⟩
set_option maxRecDepth 8000 in
set_option maxHeartbeats 4000000 in
theorem c_r02block {A : Option Addr} {c : Nat} {s b : List Nat} (hs8 : W8 s) (hs : SlR tU8 D w A 64 b) (hc : 64 ≤ c) : CallZ Tryz.prog 211 #[.agg (u32s s).toArray, .slice A 64 c] w (fun v w' => v = .agg (u32s (absV s b)).toArray ∧ Ext w w') := by
  have hs := hs.more (D' := fun _ => True) (by decide) fun _ _ _ => trivial; have hby := hs.u8b; have hlen := hs.len; obtain ⟨s0, s1, s2, s3, s4, s5, s6, s7, rfl, hs0, hs1', hs2, hs3, hs4, hs5, hs6, hs7⟩ := hs8.ex; have hab : absV [s0, s1, s2, s3, s4, s5, s6, s7] b = List.zipWith (fun a b => (a + b) % 4294967296) [s0, s1, s2, s3, s4, s5, s6, s7] (rnds [s0, s1, s2, s3, s4, s5, s6, s7] (schedL b 64) 64) := rfl; refine fn_rule (args := [.agg #[uv32 s0, uv32 s1, uv32 s2, uv32 s3, uv32 s4, uv32 s5, uv32 s6, uv32 s7], .slice A 64 c]) Tryz.func211 (by kernel_rfl) ?_; refine box (fun g2 w0 h0 => ?_); refine alloc (fun b4 w1 h1 => ?_); have G0 : Blk w0 g2 277 [uv32 s0, uv32 s1, uv32 s2, uv32 s3, uv32 s4, uv32 s5, uv32 s6, uv32 s7] := h0.blk; have R1 : Blk w1 b4 277 (u32s [0, 0, 0, 0, 0, 0, 0, 0]) := h1.blk; have e0 := h0.at_; have e1 := h1.at_; have x01 := h0.ext.trans h1.ext; have G1 := G0.ext h1.ext; have lG1 := G1.lt; have lR1 := R1.lt; refine bld (List.replicate 64 (uv32 0)) (by kernel_rfl) ?_; refine alloc (fun b5 w2 h2 => ?_); refine stA (vs := List.replicate 64 (uv32 0)) h2.blk rfl (Nat.le_of_ble_eq_true rfl) (fun v hv => by rw [List.eq_of_mem_replicate hv]; rfl) (fun w3 B3 k3 _ => ?_); have e2 := h2.at_; have B3 : Blk w3 b5 308 (u32s (schedL b 0) ++ List.replicate (64 - 0) (uv32 0)) := B3
  have x13 : Ext w1 w3 := h2.ext.then k3 fun i hi _ e => by omega
  have x03 := x01.trans x13; have lB3 := B3.lt; have hsl := sched_len b; have s13 := x13.size; have s01 := h1.ext.size; have s00 := h0.ext.size; refine loop_rule (fun k : Nat => [(6, iv (k : Int))]) (fun k u => k ≤ 16 ∧ Blk u b5 308 (u32s (schedL b k) ++ List.replicate (64 - k) (uv32 0)) ∧ Kept (fun b => b ≠ b5) w3 u) (fun k _ => 16 - k) 0 ⟨rfl, trivial⟩ ⟨by omega, B3, .refl _ _⟩ rfl ?_; rintro G k u ⟨hk, Bu, ku⟩; have su := ku.size
  have xu : Ext w u := x03.then ku fun b hb _ e => by omega
  refine cD (fun hlt => ?_) (fun hge => ?_)
  · refine arI (n := 4 * (k : Int)) (by omega) ?_; refine arI (n := 4 * (k : Int)) (by omega) ?_; refine arI (n := 4 * (k : Int) + 4) (by omega) ?_; refine slcR (4 * k) (4 * k + 4) (hs.ext xu) hc (by show 4 * (k : Int) = ((4 * k : Nat) : Int); omega) (by show 4 * (k : Int) + 4 = ((4 * k + 4 : Nat) : Int); omega) (by omega) (by omega) rfl (fun A' hA' => ?_); have sl := hA' _ u (hs.ext xu); rw [show 4 * k + 4 - 4 * k = 4 by omega] at sl ⊢; refine call_of (c_r02word sl) ?_; rintro _ u2 ⟨rfl, rfl⟩; rw [wdB_take]; refine idxR k rfl (by omega) ?_; refine st (v := uv32 (wdB (b.drop (4 * k)))) Bu ?_ rfl (fun u3 B3 k3 z3 => ?_)
    · rw [List.length_append, List.length_map, hsl, List.length_replicate]; omega
    refine arI (n := (k : Int) + 1) (by omega) ?_; refine next (k + 1) ⟨by rw [Int.natCast_add]; rfl, trivial⟩ ⟨by omega, ?_, ku.trans k3⟩ (by omega)
    have e : List.replicate (64 - k) (uv32 0) = uv32 0 :: List.replicate (64 - (k + 1)) (uv32 0) := by rw [show 64 - k = 64 - (k + 1) + 1 by omega]; rfl
    rw [Nat.zero_add, Nat.mul_one, e, set_mid (by rw [List.length_map, hsl])] at B3; show Blk u3 b5 308 (u32s (schedL b k ++ [wnext (schedL b k) k b]) ++ _); rw [u32s_app, show wnext (schedL b k) k b = wdB (b.drop (4 * k)) from if_pos (by omega)]; exact B3
  obtain rfl : k = 16 := by omega
  refine loop_rule (fun k : Nat => [(7, iv (k : Int))]) (fun k v => (16 ≤ k ∧ k ≤ 64) ∧ Blk v b5 308 (u32s (schedL b k) ++ List.replicate (64 - k) (uv32 0)) ∧ Kept (fun b => b ≠ b5) w3 v) (fun k _ => 64 - k) 16 ⟨rfl, trivial⟩ ⟨by omega, Bu, ku⟩ rfl ?_; rintro G2 k v ⟨⟨hk1, hk2⟩, Bv, kv⟩; have sv := kv.size; refine cD (fun hlt => ?_) (fun hge => ?_)
  · have hlt := sched_lt hby k
    have hat : ∀ i, i < k → (u32s (schedL b k) ++ List.replicate (64 - k) (uv32 0))[i]? = some (uv32 ((schedL b k).getD i 0)) := fun i hi => by
      rw [List.getElem?_append_left (by rw [List.length_map, hsl]; exact hi), u32s_at (by rw [hsl]; exact hi)]
    obtain ⟨x15, h15⟩ : ∃ x, x = (schedL b k).getD (k - 15) 0 := ⟨_, rfl⟩; obtain ⟨x2, h2⟩ : ∃ x, x = (schedL b k).getD (k - 2) 0 := ⟨_, rfl⟩; obtain ⟨x16, h16⟩ : ∃ x, x = (schedL b k).getD (k - 16) 0 := ⟨_, rfl⟩; obtain ⟨x7, h7⟩ : ∃ x, x = (schedL b k).getD (k - 7) 0 := ⟨_, rfl⟩
    have l15 : x15 < 4294967296 := by rw [h15]; exact getD_lt hlt _
    have l2 : x2 < 4294967296 := by rw [h2]; exact getD_lt hlt _
    have l16 : x16 < 4294967296 := by rw [h16]; exact getD_lt hlt _
    have l7 : x7 < 4294967296 := by rw [h7]; exact getD_lt hlt _
    refine arI (n := (k : Int) - 15) (by omega) ?_; refine idxR (k - 15) (by omega) (by omega) ?_; refine ld (uv32 x15) (Bv.cell (by rw [Nat.zero_add, Nat.mul_one, h15]; exact hat _ (by omega))) ?_; refine arI (n := (k : Int) - 2) (by omega) ?_; refine idxR (k - 2) (by omega) (by omega) ?_; refine ld (uv32 x2) (Bv.cell (by rw [Nat.zero_add, Nat.mul_one, h2]; exact hat _ (by omega))) ?_; refine drawP (.take 0 (.take 1 (.take 2 (.take 3 (.take 4 (.take 5 (.take 6 (.take 7 (.take 8 (.take 9 (.take 10 (.take 11 (.take 12 (.take 13 (.take 14 (.take 15 (.take 16 (.take 17 (.take 18 (.take 19 (.take 20 (.take 21 (.take 22 (.take 23 (.take 24 (.take 25 (.take 26 (.take 27 (.take 28 (.bar (.eff 29 .done))))))))))))))))))))))))))))))) [29] (fun y => y = v) mx (by kernel_rfl) rfl ?_; refine arI (n := (k : Int) - 16) (by omega) ?_; refine idxR (k - 16) (by omega) (by omega) ?_; refine ldS (uv32 x16) (fun y hy => by subst hy; exact Bv.cell (by rw [Nat.zero_add, Nat.mul_one, h16]; exact hat _ (by omega))) ?_; refine callQ (v := uv32 (rot x15 7)) (fun u _ => c_r02ror 7 l15 (by omega) (by omega) rfl) ?_; refine callQ (v := uv32 (rot x15 18)) (fun u _ => c_r02ror 18 l15 (by omega) (by omega) rfl) ?_; refine xor32 (rot_lt l15) (rot_lt l15) ?_; refine shr32 3 rfl (by omega) ?_; refine xor32 (xor_lt (rot_lt l15) (rot_lt l15)) (shr_lt l15) ?_; refine add32 ?_; refine arI (n := (k : Int) - 7) (by omega) ?_; refine idxR (k - 7) (by omega) (by omega) ?_; refine ldS (uv32 x7) (fun y hy => by subst hy; exact Bv.cell (by rw [Nat.zero_add, Nat.mul_one, h7]; exact hat _ (by omega))) ?_; refine add32 ?_; refine callQ (v := uv32 (rot x2 17)) (fun u _ => c_r02ror 17 l2 (by omega) (by omega) rfl) ?_; refine callQ (v := uv32 (rot x2 19)) (fun u _ => c_r02ror 19 l2 (by omega) (by omega) rfl) ?_; refine xor32 (rot_lt l2) (rot_lt l2) ?_; refine shr32 10 rfl (by omega) ?_; refine xor32 (xor_lt (rot_lt l2) (rot_lt l2)) (shr_lt l2) ?_; refine add32 ?_; refine idxR k rfl (by omega) ?_; refine barS (fun _ => True) trivial ?_
    have hli : 0 + k * 1 < (u32s (schedL b k) ++ List.replicate (64 - k) (uv32 0)).length := by rw [List.length_append, List.length_map, hsl, List.length_replicate]; omega
    have hwn : ((((x16 + sg0 x15) % 4294967296 + x7) % 4294967296) + sg1 x2) % 4294967296 = wnext (schedL b k) k b := by unfold wnext; rw [if_neg (by omega), h16, h15, h7, h2]
    refine st Bv hli rfl (fun u3 B3 k3 z3 => ?_); have B3 : Blk u3 b5 308 ((u32s (schedL b k) ++ List.replicate (64 - k) (uv32 0)).set (0 + k * 1) (uv32 (((((x16 + sg0 x15) % 4294967296 + x7) % 4294967296) + sg1 x2) % 4294967296))) := B3; rw [hwn] at B3; refine strS trivial ?_; refine arI (n := (k : Int) + 1) (by omega) ?_; refine next (k + 1) ⟨by rw [Int.natCast_add]; rfl, trivial⟩ ⟨by omega, ?_, kv.trans k3⟩ (by omega)
    have e : List.replicate (64 - k) (uv32 0) = uv32 0 :: List.replicate (64 - (k + 1)) (uv32 0) := by rw [show 64 - k = 64 - (k + 1) + 1 by omega]; rfl
    rw [Nat.zero_add, Nat.mul_one, e, set_mid (by rw [List.length_map, hsl])] at B3; show Blk u3 b5 308 (u32s (schedL b k ++ [wnext (schedL b k) k b]) ++ _); rw [u32s_app]; exact B3
  obtain rfl : k = 64 := by omega
  have B4 : Blk v b5 308 (u32s (schedL b 64)) := by simpa using Bv
  have hw64 := sched_lt hby 64; have hl64 := hsl 64; obtain ⟨ws, hws⟩ : ∃ ws, ws = schedL b 64 := ⟨_, rfl⟩; rw [← hws] at B4 hw64 hl64 hab; clear hws Bv Bu
  have x3v : Ext w1 v := x13.then kv fun i hi _ e => by omega
  have Gv := G1.ext x3v; have Rv := R1.ext x3v; refine call_of c_r02numbers ?_; rintro _ v1 ⟨rfl, xv1⟩; refine alloc (fun b10 v2 h10 => ?_); refine stA (vs := u32s numsL) h10.blk rfl (Nat.le_of_ble_eq_true rfl) (fun v hv => by obtain ⟨n, -, rfl⟩ := List.mem_map.1 hv; rfl) (fun v3 B10 k10 _ => ?_); have B10 : Blk v3 b10 308 (u32s numsL) := B10; have e10 := h10.at_
  have x13 : Ext v1 v3 := h10.ext.then k10 fun i hi _ e => by omega
  have xv3 := xv1.trans x13; have G3 : Blk v3 g2 277 [uv32 s0, uv32 s1, uv32 s2, uv32 s3, uv32 s4, uv32 s5, uv32 s6, uv32 s7] := Gv.ext xv3; have B5 := B4.ext xv3; have x0e := (x01.trans x3v).trans xv3; refine drawX [0, 1, 2, 3, 4, 5, 6, 7, 8, 9, 10, 11, 12, 13, 14, 15, 16, 17, 18, 19, 20, 21, 22, 23] [] mx (by kernel_rfl) ?_; refine idxR 0 rfl (by omega) ?_; refine ldX (uv32 s0) (G3.cell rfl) (.refl _ _) ?_; refine idxR 1 rfl (by omega) ?_; refine ldX (uv32 s1) (G3.cell rfl) (.refl _ _) ?_; refine idxR 2 rfl (by omega) ?_; refine ldX (uv32 s2) (G3.cell rfl) (.refl _ _) ?_; refine idxR 3 rfl (by omega) ?_; refine ldX (uv32 s3) (G3.cell rfl) (.refl _ _) ?_; refine idxR 4 rfl (by omega) ?_; refine ldX (uv32 s4) (G3.cell rfl) (.refl _ _) ?_; refine idxR 5 rfl (by omega) ?_; refine ldX (uv32 s5) (G3.cell rfl) (.refl _ _) ?_; refine idxR 6 rfl (by omega) ?_; refine ldX (uv32 s6) (G3.cell rfl) (.refl _ _) ?_; refine idxR 7 rfl (by omega) ?_; refine ldX (uv32 s7) (G3.cell rfl) (.refl _ _) ?_
  have lg1 : ∀ t, t < 64 → v3.cell? (ad b10 (0 + t * 1)) = some (uv32 (numsL.getD t 0)) := fun t ht => by
    rw [Nat.mul_one, Nat.zero_add]; exact B10.cell (u32s_at (by show t < 64; exact ht))
  refine loop_rule (fun p : Nat × Nat × Nat × Nat × Nat × Nat × Nat × Nat × Nat => [(19, iv (p.1 : Int)), (11, uv32 p.2.1), (12, uv32 p.2.2.1), (13, uv32 p.2.2.2.1), (14, uv32 p.2.2.2.2.1), (15, uv32 p.2.2.2.2.2.1), (16, uv32 p.2.2.2.2.2.2.1), (17, uv32 p.2.2.2.2.2.2.2.1), (18, uv32 p.2.2.2.2.2.2.2.2)]) (fun p u => p.1 ≤ 64 ∧ rnds [s0, s1, s2, s3, s4, s5, s6, s7] ws p.1 = [p.2.1, p.2.2.1, p.2.2.2.1, p.2.2.2.2.1, p.2.2.2.2.2.1, p.2.2.2.2.2.2.1, p.2.2.2.2.2.2.2.1, p.2.2.2.2.2.2.2.2] ∧ u = v3) (fun p _ => 64 - p.1) (0, s0, s1, s2, s3, s4, s5, s6, s7) ⟨rfl, rfl, rfl, rfl, rfl, rfl, rfl, rfl, rfl, trivial⟩ ⟨Nat.zero_le _, rfl, rfl⟩ rfl ?_; have G3x := G3; rintro G3 ⟨t, v0, v1', v2', v3', v4, v5, v6, v7⟩ u ⟨ht, hr, hu⟩; have ht : t ≤ 64 := ht; have hr : rnds [s0, s1, s2, s3, s4, s5, s6, s7] ws t = [v0, v1', v2', v3', v4, v5, v6, v7] := hr; subst hu
  have hr8 : W8 [v0, v1', v2', v3', v4, v5, v6, v7] := by rw [← hr]; exact rnds_ok hs8 t
  obtain ⟨_, hx⟩ := hr8; have l0 := hx v0 (by simp); have l1 := hx v1' (by simp); have l2 := hx v2' (by simp); have l3 := hx v3' (by simp); have l4 := hx v4 (by simp); have l5 := hx v5 (by simp); have l6 := hx v6 (by simp); have l7 := hx v7 (by simp); refine cD (fun hlt => ?_) (fun hge => ?_)
  · have hlt : t < 64 := by omega
    have hst : rnds [s0, s1, s2, s3, s4, s5, s6, s7] ws (t + 1) = rndV [v0, v1', v2', v3', v4, v5, v6, v7] (numsL.getD t 0) (ws.getD t 0) := by rw [← hr]; rfl
    obtain ⟨kt, hkt⟩ : ∃ kt, kt = numsL.getD t 0 := ⟨_, rfl⟩; obtain ⟨wt, hwt⟩ : ∃ wt, wt = ws.getD t 0 := ⟨_, rfl⟩
    have hkl : kt < 4294967296 := by rw [hkt]; exact getD_lt nums_lt _
    have hwl : wt < 4294967296 := by rw [hwt]; exact getD_lt hw64 _
    have hkc : u.cell? (ad b10 (0 + t * 1)) = some (uv32 kt) := by rw [hkt]; exact lg1 t (by omega)
    have hwc : u.cell? (ad b5 (0 + t * 1)) = some (uv32 wt) := by
      rw [Nat.mul_one, Nat.zero_add, hwt]; exact B5.cell (u32s_at (by omega))
    rw [← hkt, ← hwt] at hst; refine drawP (.take 0 (.take 1 (.take 2 (.take 3 (.take 4 (.take 5 (.take 6 (.take 7 (.take 8 (.take 9 (.take 10 (.take 11 (.take 12 (.take 13 (.take 14 (.take 15 (.take 16 (.take 17 (.take 18 (.take 19 (.take 20 (.take 21 (.take 22 (.take 23 (.take 24 (.take 25 (.take 26 (.take 27 .done)))))))))))))))))))))))))))) [] (fun y => y = u) mx (by kernel_rfl) rfl ?_; refine callQ (v := uv32 (rot v4 6)) (fun u _ => c_r02ror 6 l4 (by omega) (by omega) rfl) ?_; refine callQ (v := uv32 (rot v4 11)) (fun u _ => c_r02ror 11 l4 (by omega) (by omega) rfl) ?_; refine xor32 (rot_lt l4) (rot_lt l4) ?_; refine callQ (v := uv32 (rot v4 25)) (fun u _ => c_r02ror 25 l4 (by omega) (by omega) rfl) ?_; refine xor32 (xor_lt (rot_lt l4) (rot_lt l4)) (rot_lt l4) ?_; refine add32 ?_; refine and32 l4 l5 ?_; refine comp32 l4 ?_; refine and32 (not32_lt _) l6 ?_; refine xor32 (and_lt l4) (and_lt (not32_lt _)) ?_; refine add32 ?_; refine idxR t rfl (by omega) ?_; refine ldS (uv32 kt) (fun y hy => by subst hy; exact hkc) ?_; refine add32 ?_; refine idxR t rfl (by omega) ?_; refine ldS (uv32 wt) (fun y hy => by subst hy; exact hwc) ?_; refine add32 ?_; obtain ⟨pp, hpp⟩ : ∃ pp, pp = rndP v4 v5 v6 v7 kt wt := ⟨_, rfl⟩; rw [show (((((v7 + (rot v4 6 ^^^ rot v4 11 ^^^ rot v4 25)) % 4294967296 + ((v4 &&& v5) ^^^ (not32 v4 &&& v6))) % 4294967296 + kt) % 4294967296 + wt) % 4294967296) = pp from (rndP_alt l4 l6).trans hpp.symm]; refine call_of (c_r02ror 2 l0 (by omega) (by omega) rfl) ?_; rintro _ _ ⟨rfl, rfl⟩; refine call_of (c_r02ror 13 l0 (by omega) (by omega) rfl) ?_; rintro _ _ ⟨rfl, rfl⟩; refine xor32 (rot_lt l0) (rot_lt l0) ?_; refine call_of (c_r02ror 22 l0 (by omega) (by omega) rfl) ?_; rintro _ _ ⟨rfl, rfl⟩; refine xor32 (xor_lt (rot_lt l0) (rot_lt l0)) (rot_lt l0) ?_; refine and32 l0 l1 ?_; refine and32 l0 l2 ?_; refine xor32 (and_lt l0) (and_lt l0) ?_; refine and32 l1 l2 ?_; refine xor32 (xor_lt (and_lt l0) (and_lt l0)) (and_lt l1) ?_; refine add32 ?_; obtain ⟨qq, hqq⟩ : ∃ qq, qq = rndQ v0 v1' v2' := ⟨_, rfl⟩; rw [show (((rot v0 2 ^^^ rot v0 13 ^^^ rot v0 22) + (((v0 &&& v1') ^^^ (v0 &&& v2')) ^^^ (v1' &&& v2'))) % 4294967296) = qq from rndQ_alt.trans hqq.symm]; refine add32 ?_; refine add32 ?_; refine arI (n := (t : Int) + 1) (by omega) ?_; refine next (t + 1, (pp + qq) % 4294967296, v0, v1', v2', (v3' + pp) % 4294967296, v4, v5, v6) ⟨by show iv ((t : Int) + 1) = iv ((t + 1 : Nat) : Int); rw [Int.natCast_add]; rfl, rfl, rfl, rfl, rfl, rfl, rfl, rfl, rfl, trivial⟩ ⟨by show t + 1 ≤ 64; omega, ?_, rfl⟩ (by show 64 - (t + 1) < 64 - t; omega); show rnds [s0, s1, s2, s3, s4, s5, s6, s7] ws (t + 1) = _; rw [hst, hpp, hqq]
    rfl
  · obtain rfl : t = 64 := by omega
    rw [hr] at hab; refine idxR 0 rfl (by omega) ?_; refine ld (uv32 s0) (G3x.cell rfl) ?_; refine add32 ?_; refine idxR 1 rfl (by omega) ?_; refine ld (uv32 s1) (G3x.cell rfl) ?_; refine add32 ?_; refine idxR 2 rfl (by omega) ?_; refine ld (uv32 s2) (G3x.cell rfl) ?_; refine add32 ?_; refine idxR 3 rfl (by omega) ?_; refine ld (uv32 s3) (G3x.cell rfl) ?_; refine add32 ?_; refine idxR 4 rfl (by omega) ?_; refine ld (uv32 s4) (G3x.cell rfl) ?_; refine add32 ?_; refine idxR 5 rfl (by omega) ?_; refine ld (uv32 s5) (G3x.cell rfl) ?_; refine add32 ?_; refine idxR 6 rfl (by omega) ?_; refine ld (uv32 s6) (G3x.cell rfl) ?_; refine add32 ?_; refine idxR 7 rfl (by omega) ?_; refine ld (uv32 s7) (G3x.cell rfl) ?_; refine add32 ?_
    have hag : u32s (absV [s0, s1, s2, s3, s4, s5, s6, s7] b) = [uv32 ((s0 + v0) % 4294967296), uv32 ((s1 + v1') % 4294967296), uv32 ((s2 + v2') % 4294967296), uv32 ((s3 + v3') % 4294967296), uv32 ((s4 + v4) % 4294967296), uv32 ((s5 + v5) % 4294967296), uv32 ((s6 + v6) % 4294967296), uv32 ((s7 + v7) % 4294967296)] := by rw [hab]; rfl
    refine bld [uv32 ((s0 + v0) % 4294967296), uv32 ((s1 + v1') % 4294967296), uv32 ((s2 + v2') % 4294967296), uv32 ((s3 + v3') % 4294967296), uv32 ((s4 + v4) % 4294967296), uv32 ((s5 + v5) % 4294967296), uv32 ((s6 + v6) % 4294967296), uv32 ((s7 + v7) % 4294967296)] (by kernel_rfl) ?_; refine stA (vs := [uv32 ((s0 + v0) % 4294967296), uv32 ((s1 + v1') % 4294967296), uv32 ((s2 + v2') % 4294967296), uv32 ((s3 + v3') % 4294967296), uv32 ((s4 + v4) % 4294967296), uv32 ((s5 + v5) % 4294967296), uv32 ((s6 + v6) % 4294967296), uv32 ((s7 + v7) % 4294967296)]) (Rv.ext xv3) rfl (Nat.le_of_ble_eq_true rfl) (by simp [Value.oneCell']) (fun we Be ke _ => ?_); have Be : Blk we b4 277 [uv32 ((s0 + v0) % 4294967296), uv32 ((s1 + v1') % 4294967296), uv32 ((s2 + v2') % 4294967296), uv32 ((s3 + v3') % 4294967296), uv32 ((s4 + v4) % 4294967296), uv32 ((s5 + v5) % 4294967296), uv32 ((s6 + v6) % 4294967296), uv32 ((s7 + v7) % 4294967296)] := Be; refine ret ?_; refine resL (.agg ([uv32 ((s0 + v0) % 4294967296), uv32 ((s1 + v1') % 4294967296), uv32 ((s2 + v2') % 4294967296), uv32 ((s3 + v3') % 4294967296), uv32 ((s4 + v4) % 4294967296), uv32 ((s5 + v5) % 4294967296), uv32 ((s6 + v6) % 4294967296), uv32 ((s7 + v7) % 4294967296)]).toArray) (holds_agg (.blk Be) rfl) ?_; rw [hag]; exact ⟨rfl, x0e.then ke fun i hi _ e => by omega⟩
end
theorem flat_at4 : ∀ {F : List Nat} {i : Nat}, i < 4 * F.length → (F.flatMap (beB 4))[i]? = some ((F.getD (i / 4) 0 >>> (24 - 8 * (i % 4))) % 256)
  | [], i, h => by simp at h
  | x :: F, i, h => by
    rw [List.flatMap_cons]
    have hl := beB_len 4 x
    by_cases hi : i < 4
    · rw [List.getElem?_append_left (by omega), beB_at hi, show i / 4 = 0 by omega, show 24 - 8 * (i % 4) = 8 * (4 - 1 - i) by omega]
      rfl
    · rw [List.getElem?_append_right (by omega), hl]
      have := flat_at4 (F := F) (i := i - 4) (by rw [List.length_cons] at h; omega)
      rw [this, show (i - 4) % 4 = i % 4 by omega, show i / 4 = (i - 4) / 4 + 1 by omega]
      rfl
theorem Zpad {n : Nat} : (if n % 64 ≤ 55 then 64 else 128) - 9 - n % 64 ≤ 64 := by split <;> omega
section
variable {D : Nat → Prop} {w : World}
theorem c_r02padded {A : Option Addr} {n c : Nat} {b : List Nat} (hs : SlR tU8 D w A n b) (hn : n ≤ 1000000000) : CallZ Tryz.prog 210 #[.slice A n c] w (fun v w' => ∃ B m d, v = .slice B m d ∧ m = (padL b).length ∧ OwnF w w' B m d 5 1 (u8s (padL b))) := by
  have hl := hs.len; refine fn_rule (args := [.slice A n c]) Tryz.func210 (by kernel_rfl) ?_; refine lit [] (fun g w1 h1 => ?_); have o1 : OwnF w w1 (some (ad g 0)) 0 0 5 1 [] := OwnF.lit (cs := []) (.refl _ _) h1 rfl; refine appF o1 (hs.ext o1.ext).u8src (by omega) (fun A2 c2 w2 o2 _ _ => ?_) (h1 := u8s_one _); refine lit [uv8 128] (fun g3 w3 h3 => ?_); refine appF (o2.then h3.ext) (h3.src (n := 1) rfl) (by omega) (fun A4 c4 w4 o4 _ _ => ?_); rw [Nat.zero_add] at o4 ⊢; obtain ⟨Z, hZ⟩ : ∃ Z, Z = (if n % 64 ≤ 55 then 64 else 128) - 9 - n % 64 := ⟨_, rfl⟩
  have hZ64 : Z ≤ 64 := by rw [hZ]; exact Zpad
  refine loop4 (fun (_ : Nat) (B : Option Addr) (m d : Nat) => [(3, .slice B m d)]) (fun z B m d u => z ≤ Z ∧ m = n + 1 + z ∧ OwnF w u B m d 5 1 (u8s (b ++ 128 :: List.replicate z 0))) (fun z _ _ _ _ => Z - z) 0 A4 (n + 1) c4 ⟨rfl, trivial⟩ ⟨by omega, rfl, ?_⟩ rfl ?_
  · rw [u8s_app]; exact o4
  rintro G z B m d u ⟨hz, hm, own⟩; have own : OwnF w u B m d 5 1 (u8s (b ++ 128 :: List.replicate z 0)) := own; have hm : m = n + 1 + z := hm; have hpm := pad_more (n := n) (z := z) (by omega); refine len ?_; refine remI (by omega) (Int.natCast_nonneg _) ?_; refine cN (fun hne => ?_) (fun heq => ?_)
  · refine lit [uv8 0] (fun g5 u1 h5 => ?_); refine appF (own.then h5.ext) (h5.src (n := 1) rfl) (by omega) (fun B6 d6 u2 o6 _ _ => ?_); refine next4 (z + 1) B6 (m + 1) d6 ⟨rfl, trivial⟩ ⟨by omega, by omega, ?_⟩ (by omega)
    have e : u8s (b ++ 128 :: List.replicate (z + 1) 0) = u8s (b ++ 128 :: List.replicate z 0) ++ [uv8 0] := by
      rw [List.replicate_succ', ← List.cons_append, ← List.append_assoc, u8s_app]
      rfl
    rw [e]; exact o6
  have hzZ : z = Z := by omega
  subst hzZ; refine len ?_; refine cv64 n rfl ?_; rw [Nat.mod_eq_of_lt (show n < 18446744073709551616 by omega)]; refine mul64 (a := n) (b := 8) (by omega) ?_; obtain ⟨N, hN⟩ : ∃ N, N = n * 8 := ⟨_, rfl⟩; rw [← hN]; obtain ⟨pre, hpre⟩ : ∃ pre, pre = b ++ 128 :: List.replicate z 0 := ⟨_, rfl⟩; rw [← hpre] at own; have hbl := beB_len 8 N; refine loop4 (fun (j : Nat) (B : Option Addr) (m d : Nat) => [(5, iv (7 - (j : Int))), (3, .slice B m d)]) (fun j B q d u => j ≤ 8 ∧ q = m + j ∧ OwnF w u B q d 5 1 (u8s (pre ++ (beB 8 N).take j))) (fun j _ _ _ _ => 8 - j) 0 B m d ⟨rfl, rfl, trivial⟩ ⟨by omega, rfl, by rw [List.take_zero, List.append_nil]; exact own⟩ rfl ?_; rintro G2 j B q d u ⟨hj, hq, own⟩; have own : OwnF w u B q d 5 1 (u8s (pre ++ (beB 8 N).take j)) := own; have hq : q = m + j := hq; refine cD (fun hlt => ?_) (fun hge => ?_)
  · refine arI (n := 8 * (7 - (j : Int))) (by omega) ?_; refine shr64 (8 * (7 - j)) (by omega) (by omega) ?_; refine cv8 (N >>> (8 * (7 - j))) rfl ?_; refine lit [uv8 ((N >>> (8 * (7 - j))) % 256)] (fun g5 u1 h5 => ?_); refine appF (own.then h5.ext) (h5.src (n := 1) rfl) (by omega) (fun B6 d6 u2 o6 _ _ => ?_); refine arI (n := 7 - (j : Int) - 1) (by omega) ?_; refine next4 (j + 1) B6 (q + 1) d6 ⟨by show iv (7 - (j : Int) - 1) = iv (7 - ((j + 1 : Nat) : Int)); rw [show 7 - (j : Int) - 1 = 7 - ((j + 1 : Nat) : Int) by omega], rfl, trivial⟩ ⟨by omega, by omega, ?_⟩ (by omega)
    have e : u8s (pre ++ (beB 8 N).take (j + 1)) = u8s (pre ++ (beB 8 N).take j) ++ [uv8 ((N >>> (8 * (7 - j))) % 256)] := by
      rw [List.take_add_one, beB_at (show j < 8 by omega), ← List.append_assoc, u8s_app, show 8 - 1 - j = 7 - j by omega]
      rfl
    rw [e]; exact o6
  · have hj8 : j = 8 := by omega
    subst hj8; rw [List.take_of_length_le (by omega)] at own
    have e : pre ++ beB 8 N = padL b := by
      rw [hpre, hN]; unfold padL endM; rw [hl, ← hZ, List.append_assoc, List.cons_append, Nat.mul_comm]
    rw [e] at own; exact ret1 (.slice B q d) rfl ⟨B, q, d, rfl, by have := own.own.len; rw [List.length_map] at this; omega, own⟩
set_option maxRecDepth 4000 in
theorem c_r02Sum {A : Option Addr} {n c : Nat} {b : List Nat} (hs : SlR tU8 D w A n b) (hn : n ≤ 1000000000) : CallZ Tryz.prog 150 #[.slice A n c] w (fun v w' => v = .agg (u8s (shaB b)).toArray ∧ Ext w w') := by
  have hby := hs.u8b; have hl := hs.len; refine fn_rule (args := [.slice A n c]) Tryz.func150 (by kernel_rfl) ?_; refine alloc (fun b2 w1 h1 => ?_); have R1 : Blk w1 b2 47 (List.replicate 32 (uv8 0)) := h1.blk; have e1 := h1.at_; refine bld (u32s startL) (by kernel_rfl) ?_; refine alloc (fun b3 w2 h2 => ?_); refine stA (vs := u32s startL) h2.blk rfl (Nat.le_of_ble_eq_true rfl) (fun v hv => by obtain ⟨n, -, rfl⟩ := List.mem_map.1 hv; rfl) (fun w3 B3 k3 _ => ?_); have B3 : Blk w3 b3 277 (u32s startL) := B3; have e2 := h2.at_
  have x13 : Ext w1 w3 := h2.ext.then k3 fun i hi _ e => by omega
  have x03 := h1.ext.trans x13; have lB3 := B3.lt; refine call_of (c_r02padded (hs.ext x03) hn) ?_; rintro _ w4 ⟨B, m, d, rfl, hm, own⟩; have hpl := padL_len b; obtain ⟨Q, hQ⟩ : ∃ Q, Q = b.length / 64 + endM b / 64 := ⟨_, rfl⟩; rw [← hQ] at hpl; have hsha := shaB_pad b; rw [← hQ] at hsha
  have hQn : Q ≤ n + 2 := by rw [hQ, hl]; unfold endM; split <;> omega
  have hsP : SlR tU8 (fun i => w3.heap.size ≤ i) w4 B m (padL b) := own.u8 (padL_lt hby) (by omega) fun _ h => h; have hle := own.le; have x34 := own.ext; have B4 := B3.ext x34; refine loop_rule (fun k : Nat => [(5, iv ((64 * k : Nat) : Int))]) (fun k u => k ≤ Q ∧ Blk u b3 277 (u32s (absK startL (padL b) k)) ∧ Kept (fun i => i ≠ b3) w4 u) (fun k _ => Q - k) 0 ⟨rfl, trivial⟩ ⟨Nat.zero_le _, B4, .refl _ _⟩ rfl ?_; rintro G k u ⟨hk, Bu, ku⟩
  have hsu := hsP.kept ku fun i _ h => by omega
  have h8 := absK_ok (b := padL b) start_ok k; refine len ?_; refine cD (fun hlt => ?_) (fun hge => ?_)
  · have hkQ : k < Q := by omega
    refine drawP (.take 0 (.take 1 (.take 2 (.take 3 (.take 4 (.take 5 (.eff 6 (.bar (.eff 7 .done))))))))) [7] (fun y => Ext u y) mx (by kernel_rfl) (.refl _ _) ?_; refine ldAX (u32s (absK startL (padL b) k)) (.blk Bu) (by rw [List.length_map]; exact h8.1) (.refl _ _) ?_; refine arI (n := ((64 * k : Nat) : Int) + 64) (by omega) ?_; refine slcR (64 * k) (64 * k + 64) hsu hle rfl (by show ((64 * k : Nat) : Int) + 64 = ((64 * k + 64 : Nat) : Int); omega) (by omega) (by omega) rfl (fun A' hA' => ?_); have sl := hA' _ u hsu; rw [List.drop_take, show 64 * k + 64 - 64 * k = 64 by omega] at sl; rw [show 64 * k + 64 - 64 * k = 64 by omega]; refine call_of (c_r02block h8 sl (by omega)) ?_; rintro _ u2 ⟨rfl, x2⟩; refine strS x2 ?_; refine barS (fun _ => True) trivial ?_; have h8' := absK_ok (b := padL b) start_ok (k + 1)
    have hl8 : (u32s (absK startL (padL b) (k + 1))).length = 8 := by rw [List.length_map]; exact h8'.1
    refine stA (vs := u32s (absK startL (padL b) (k + 1))) (Bu.ext x2) hl8 (by rw [hl8, List.length_map, h8.1]; exact Nat.le_refl _) (fun v hv => by obtain ⟨n, -, rfl⟩ := List.mem_map.1 hv; rfl) (fun u3 Bn k3 _ => ?_)
    have Bn : Blk u3 b3 277 (u32s (absK startL (padL b) (k + 1))) := by
      rw [List.take_zero, List.nil_append, List.drop_of_length_le (by rw [hl8, List.length_map, h8.1]; exact Nat.le_refl _), List.append_nil] at Bn; exact Bn
    refine strS trivial ?_; refine arI (n := ((64 * k : Nat) : Int) + 64) (by omega) ?_; exact next (k + 1) ⟨by show iv (((64 * k : Nat) : Int) + 64) = iv ((64 * (k + 1) : Nat) : Int); rw [show 64 * (k + 1) = 64 * k + 64 by omega, Int.natCast_add (64 * k) 64]; rfl, trivial⟩ ⟨by omega, Bn, (ku.trans (Ext.any x2)).trans k3⟩ (by omega)
  have hkQ : k = Q := by omega
  subst hkQ; obtain ⟨F, hF⟩ : ∃ F, F = absK startL (padL b) k := ⟨_, rfl⟩; rw [← hF] at Bu h8 hsha; have hFl := h8.1; have hdl := shaB_len b; refine bld (List.replicate 32 (uv8 0)) (by kernel_rfl) ?_; refine alloc (fun b6 v1 h6 => ?_); refine stA (vs := List.replicate 32 (uv8 0)) h6.blk rfl (Nat.le_of_ble_eq_true rfl) (fun v hv => by rw [List.eq_of_mem_replicate hv]; rfl) (fun v2 B6 k6 _ => ?_); have B6 : Blk v2 b6 47 (List.replicate 32 (uv8 0)) := B6; have e6 := h6.at_
  have x62 : Ext u v2 := h6.ext.then k6 fun i hi _ e => by omega
  have Bu2 := Bu.ext x62; have lBu := Bu.lt; have su := ku.size; have s34 := x34.size; refine loop_rule (fun j : Nat => [(7, iv (j : Int))]) (fun j y => j ≤ 32 ∧ Blk y b6 47 (u8s ((shaB b).take j) ++ List.replicate (32 - j) (uv8 0)) ∧ Kept (fun i => i ≠ b6) v2 y) (fun j _ => 32 - j) 0 ⟨rfl, trivial⟩ ⟨Nat.zero_le _, B6, .refl _ _⟩ rfl ?_; rintro G2 j y ⟨hj, By, ky⟩; have Buy := Bu2.kept ky (show b3 ≠ b6 by omega); refine cD (fun hlt => ?_) (fun hge => ?_)
  · refine quoI (by omega) (Int.natCast_nonneg _) (by omega) ?_; have hxl := getD_lt h8.2 (j / 4); refine idxR (j / 4) (by omega) (by omega) ?_; refine ld (uv32 (F.getD (j / 4) 0)) (Buy.cell (by rw [Nat.zero_add, Nat.mul_one]; exact u32s_at (by omega))) ?_; refine remI (by omega) (Int.natCast_nonneg _) ?_; refine arI (n := 8 * ((j : Int) % 4)) (by omega) ?_; refine arI (n := 24 - 8 * ((j : Int) % 4)) (by omega) ?_; refine shr32 (24 - 8 * (j % 4)) (by omega) (by omega) ?_; refine cv8 (F.getD (j / 4) 0 >>> (24 - 8 * (j % 4))) rfl ?_; refine idxR j rfl (by omega) ?_; refine st (v := uv8 ((F.getD (j / 4) 0 >>> (24 - 8 * (j % 4))) % 256)) By (by rw [List.length_append, List.length_map, List.length_take, List.length_replicate]; omega) rfl (fun y2 B2 k2 _ => ?_); refine arI (n := (j : Int) + 1) (by omega) ?_; refine next (j + 1) ⟨by rw [Int.natCast_add]; rfl, trivial⟩ ⟨by omega, ?_, ky.trans k2⟩ (by omega); have hat := flat_at4 (F := F) (i := j) (by omega); rw [← hsha] at hat; rw [show 32 - j = 32 - (j + 1) + 1 by omega, List.replicate_succ, Nat.zero_add, Nat.mul_one, set_mid (by rw [List.length_map, List.length_take]; omega)] at B2; rw [List.take_add_one, hat, u8s_app]; exact B2
  · have hj32 : j = 32 := by omega
    subst hj32; rw [List.take_of_length_le (by omega), Nat.sub_self, List.replicate_zero, List.append_nil] at By
    have hl32 : (u8s (shaB b)).length = 32 := by rw [List.length_map]; exact hdl
    refine ldA (u8s (shaB b)) (.blk By) hl32 ?_
    have x1y : Ext w1 y := (((x13.trans x34).then ku fun i hi _ e => by omega).trans x62).then ky fun i hi _ e => by omega
    refine stA (vs := u8s (shaB b)) (R1.ext x1y) hl32 (by rw [hl32]; exact Nat.le_refl _) (fun v hv => List.all_eq_true.1 (u8s_one _) v hv) (fun we Be ke _ => ?_)
    have Be : Blk we b2 47 (u8s (shaB b)) := by
      rw [List.take_zero, List.nil_append, List.drop_of_length_le (by rw [hl32]; exact Nat.le_refl _), List.append_nil] at Be; exact Be
    refine ret ?_; refine resL (.agg (u8s (shaB b)).toArray) (holds_agg (.blk Be) hl32) ?_; exact ⟨rfl, (h1.ext.trans x1y).then ke fun i hi _ e => by omega⟩
end
def tDg : Ty (List Nat) where
  sz := 32
  rep _ _ cs x := cs = u8s x ∧ x.length = 32 ∧ ∀ y ∈ x, y < 256
  len := fun ⟨h, hl, _⟩ => by rw [h, List.length_map]; exact hl
  keep _ h := h
  more _ h := h
def rowC (l : List (List Nat)) : List Value := l.flatMap fun x => u8s x
theorem rowC_len : ∀ {l : List (List Nat)}, Row l → (rowC l).length = l.length * 32
  | [], _ => rfl
  | x :: l, h => by
    unfold rowC
    rw [List.flatMap_cons, List.length_append, List.length_map, (h x List.mem_cons_self).1, List.length_cons]
    have := rowC_len (l := l) fun y hy => h y (List.mem_cons_of_mem _ hy)
    unfold rowC at this
    omega
theorem rowC_one (l : List (List Nat)) : ((rowC l).all fun u => u.oneCell') = true := by
  refine List.all_eq_true.2 fun v hv => ?_; obtain ⟨x, -, hv⟩ := List.mem_flatMap.1 hv; obtain ⟨n, -, rfl⟩ := List.mem_map.1 hv
  rfl
theorem rowC_snoc (l : List (List Nat)) (x : List Nat) : rowC (l ++ [x]) = rowC l ++ u8s x := by unfold rowC; rw [List.flatMap_append]; simp
theorem flat_row {D : Nat → Prop} {w : World} : ∀ {l : List (List Nat)}, Row l → FlatR tDg D w l (rowC l)
  | [], _ => rfl
  | x :: l, h => ⟨u8s x, rowC l, rfl, ⟨rfl, h x List.mem_cons_self⟩, flat_row fun y hy => h y (List.mem_cons_of_mem _ hy)⟩
theorem Row.app {a b : List (List Nat)} (ha : Row a) (hb : Row b) : Row (a ++ b) := fun x hx => (List.mem_append.1 hx).elim (ha x) (hb x)
theorem Row.one {x : List Nat} (h : x.length = 32) (h2 : ∀ y ∈ x, y < 256) : Row [x] := fun y hy => by rw [List.mem_singleton] at hy; subst hy; exact ⟨h, h2⟩
def RowF (w0 w : World) (A : Option Addr) (n c : Nat) (l : List (List Nat)) : Prop := OwnF w0 w A n c 47 32 (rowC l) ∧ Row l
theorem RowF.len {w0 w : World} {A : Option Addr} {n c : Nat} {l : List (List Nat)} (h : RowF w0 w A n c l) : l.length = n := by
  have h1 := h.1.own.len; rw [rowC_len h.2] at h1; omega
theorem RowF.rd {w0 w : World} {D : Nat → Prop} {A : Option Addr} {n c : Nat} {l : List (List Nat)} (h : RowF w0 w A n c l) (hn : n ≤ 140737488355328) (hD : ∀ b, w0.heap.size ≤ b → D b) : SlR tDg D w A n l :=
  h.1.own.rd (a := tDg) (flat_row h.2) h.len.symm hn fun g hg => hD g (h.1.new g hg)
section
variable {P : Program} {X : XK}
theorem litD {t : TypeId} {zv : Value} [h : SliceTy P t 47 32] [hz : ZeroTy P 47 zv] {x : List Nat} (hx : x.length = 32) {w : World} {K : VK} (hzs : (cellsL zv).length = 32) (kk : ∀ g w', NewB w 47 (u8s x) g w' → K (.slice (some (ad g 0)) 1 1) w') :
    BSlcP P t 1 #[(0, .agg (u8s x).toArray)] K w := by
  refine bslc (sz := 32) (zv := zv) [.agg (u8s x).toArray] rfl rfl (fun v hv => ?_) hzs (by show 1 * 32 ≤ 16777216; omega) fun g w' hq => kk g w' ?_
  · rw [List.mem_singleton] at hv; subst hv; show (u8s x).length = 32; rw [List.length_map]; exact hx
  · have e : [Value.agg (u8s x).toArray].flatMap cellsL = u8s x := by
      rw [List.flatMap_cons, List.flatMap_nil, List.append_nil]; rfl
    rwa [e] at hq
theorem appD {t : TypeId} {zv : Value} [h : SliceTy P t 47 32] [hz : ZeroTy P 47 zv] [hby : BytesTy P 47 32] {ty : TypeId} {cst : Array Bool} {n c q : Nat} {A : Option Addr} {l : List (List Nat)} {x : List Nat} {w0 u v : World} {K : VK}
    (own : RowF w0 u A n c l) (hx : x.length = 32) (hx2 : ∀ y ∈ x, y < 256) (hq : NewB u 47 (u8s x) q v) (hn : n ≤ 1000000) (hzs : (cellsL zv).length = 32)
    (kk : ∀ A' c' w', RowF w0 w' A' (n + 1) c' (l ++ [x]) → Kept (fun b => A ≠ some (ad b 0)) v w' → K (.slice A' (n + 1) c') w') : BuiP P .append #[t, t] ty cst #[.slice A n c, .slice (some (ad q 0)) 1 1] K X v := by
  refine appF (sz := 32) (zv := zv) (by_ := 32) (own.1.then hq.ext) (hq.src (n := 1) (by rw [List.length_map, hx])) (by omega) (fun A' c' w' o k _ => ?_) (by omega) (u8s_one _) hzs rfl; refine kk A' c' w' ⟨?_, own.2.app (.one hx hx2)⟩ k; rw [rowC_snoc]; exact o
end
section
variable {D : Nat → Prop} {w : World}
theorem c_r07text {A : Option Addr} {n c : Nat} {b : List Nat} {tag : ByteArray} (hs : SlR tU8 D w A n b) (ht : tag.size ≤ 1000) (hb : n ≤ 100000000) : CallZ Tryz.prog 151 #[.string tag, .slice A n c] w (fun v w' => ∃ B d, v = .slice B (32 + n) d ∧ OwnF w w' B (32 + n) d 5 1 (u8s (shaB (bl tag) ++ b))) := by
  have hs := hs.more (D' := fun _ => True) (by decide) fun _ _ _ => trivial; have hlen := hs.len; refine fn_rule (args := [.string tag, .slice A n c]) Tryz.func151 (by kernel_rfl) ?_; refine cvSB rfl (by omega) (fun w2 cc hsl hcc x2 z2 => ?_); refine call_of (c_r02Sum hsl (by omega)) ?_; rintro _ w3 ⟨rfl, x3⟩; refine alloc (fun b5 w4 h4 => ?_); have e5 := h4.at_; have hsl := shaB_len (bl tag)
  have htl : (u8s (shaB (bl tag))).length = 32 := by rw [List.length_map]; exact hsl
  refine stA (vs := u8s (shaB (bl tag))) h4.blk htl (by rw [htl]; exact Nat.le_refl _) (fun v hv => List.all_eq_true.1 (u8s_one _) v hv) (fun we Be ke _ => ?_)
  have Be : Blk we b5 47 (u8s (shaB (bl tag))) := by
    rw [List.take_zero, List.nil_append, List.drop_of_length_le (by rw [htl]; exact Nat.le_refl _), List.append_nil] at Be; exact Be
  have x35 : Ext w3 we := h4.ext.then ke fun b hb _ e => by omega
  have x15 := (x2.trans x3).trans x35; refine lit [] (fun g6 w6 h6 => ?_); have o6 : OwnF we w6 (some (ad g6 0)) 0 0 5 1 [] := OwnF.lit (cs := []) (.refl _ _) h6 rfl; refine slcArr 0 32 rfl rfl (by omega) (by omega) (by omega) ?_; have s5 : SlR tU8 (fun _ => True) w6 (some (ad b5 0)) 32 (shaB (bl tag)) := SlR.of_cells hsl.symm (by omega) trivial (.blk (Be.ext h6.ext)) (flat_u8s (shaB_lt _)); refine appF o6 s5.u8src (by omega) (fun A7 c7 w7 o7 _ _ => ?_) (h1 := u8s_one _); refine appF o7 ((hs).ext (x15.trans o7.ext)).u8src (by omega) (fun A8 c8 w8 o8 _ _ => ?_) (h1 := u8s_one _)
  have o8 : OwnF we w8 A8 (32 + n) c8 5 1 (u8s (shaB (bl tag) ++ b)) := by
    rw [u8s_app]
    have e : 0 + (32 - 0) + n = 32 + n := by omega
    rw [← e]; exact o8
  rw [show 0 + (32 - 0) + n = 32 + n by omega]; exact ret1 (.slice A8 (32 + n) c8) rfl ⟨A8, c8, rfl, o8.base x15⟩
theorem c_r02Tagged {A : Option Addr} {n c : Nat} {b : List Nat} {tag : ByteArray} (hs : SlR tU8 D w A n b) (ht : tag.size ≤ 1000) (hb : n ≤ 100000000) : CallZ Tryz.prog 86 #[.string tag, .slice A n c] w (fun v w' => v = .agg (u8s (tagB (bl tag) b)).toArray ∧ Ext w w') := by
  have hs := hs.more (D' := fun _ => True) (by decide) fun _ _ _ => trivial; have hlen := hs.len; refine fn_rule (args := [.string tag, .slice A n c]) Tryz.func86 (by kernel_rfl) ?_; refine alloc (fun b4 w1 h1 => ?_); have R1 := h1.blk; have e4 := h1.at_; have hs1 := hs.ext h1.ext; refine cvSB rfl (by omega) (fun w2 cc hsl hcc x2 z2 => ?_); refine call_of (c_r02Sum hsl (by omega)) ?_; rintro _ w3 ⟨rfl, x3⟩; refine alloc (fun b5 w4 h4 => ?_); have e5 := h4.at_; have hsl := shaB_len (bl tag)
  have htl : (u8s (shaB (bl tag))).length = 32 := by rw [List.length_map]; exact hsl
  refine stA (vs := u8s (shaB (bl tag))) h4.blk htl (by rw [htl]; exact Nat.le_refl _) (fun v hv => List.all_eq_true.1 (u8s_one _) v hv) (fun we Be ke _ => ?_)
  have Be : Blk we b5 47 (u8s (shaB (bl tag))) := by
    rw [List.take_zero, List.nil_append, List.drop_of_length_le (by rw [htl]; exact Nat.le_refl _), List.append_nil] at Be; exact Be
  have x35 : Ext w3 we := h4.ext.then ke fun b hb _ e => by omega
  have x15 := (x2.trans x3).trans x35; refine lit [] (fun g6 w6 h6 => ?_); have o6 : OwnF we w6 (some (ad g6 0)) 0 0 5 1 [] := OwnF.lit (cs := []) (.refl _ _) h6 rfl; refine slcArr 0 32 rfl rfl (by omega) (by omega) (by omega) ?_; have s5 : SlR tU8 (fun _ => True) w6 (some (ad b5 0)) 32 (shaB (bl tag)) := SlR.of_cells hsl.symm (by omega) trivial (.blk (Be.ext h6.ext)) (flat_u8s (shaB_lt _)); refine appF o6 s5.u8src (by omega) (fun A7 c7 w7 o7 _ _ => ?_) (h1 := u8s_one _); refine appF o7 ((hs1).ext (x15.trans o7.ext)).u8src (by omega) (fun A8 c8 w8 o8 _ _ => ?_) (h1 := u8s_one _)
  have o8 : OwnF we w8 A8 (32 + n) c8 5 1 (u8s (shaB (bl tag) ++ b)) := by
    rw [u8s_app]
    have e : 0 + (32 - 0) + n = 32 + n := by omega
    rw [← e]; exact o8
  rw [show 0 + (32 - 0) + n = 32 + n by omega]
  have sc : SlR tU8 (fun _ => True) w8 A8 (32 + n) (shaB (bl tag) ++ b) := o8.u8 (fun x hx => by
    rcases List.mem_append.1 hx with hx | hx
    · exact shaB_lt _ x hx
    · exact hs.u8b x hx) (by omega) fun _ _ => trivial
  refine call_of (c_r02Sum sc (by omega)) ?_; rintro _ w9 ⟨rfl, x9⟩; have x19 := (x15.trans o8.ext).trans x9; have hdl := shaB_len (shaB (bl tag) ++ b)
  have htl2 : (u8s (shaB (shaB (bl tag) ++ b))).length = 32 := by rw [List.length_map]; exact hdl
  refine stA (vs := u8s (shaB (shaB (bl tag) ++ b))) (R1.ext x19) htl2 (by rw [htl2]; exact Nat.le_refl _) (fun v hv => List.all_eq_true.1 (u8s_one _) v hv) (fun wz Bz kz _ => ?_)
  have Bz : Blk wz b4 47 (u8s (shaB (shaB (bl tag) ++ b))) := by
    have e : ∀ X : List Value, X.length = 32 → X.drop (0 + (u8s (shaB (shaB (bl tag) ++ b))).length) = [] := fun X hX => List.drop_of_length_le (by rw [htl2]; omega); rw [List.take_zero, List.nil_append, e _ rfl, List.append_nil] at Bz; exact Bz
  refine ret ?_; refine resL (.agg (u8s (shaB (shaB (bl tag) ++ b))).toArray) (holds_agg (.blk Bz) htl2) ?_; exact ⟨rfl, (h1.ext.trans x19).then kz fun i hi _ e => by omega⟩
end
theorem SlR.dig {D : Nat → Prop} {w : World} {A : Option Addr} {n k : Nat} {l : List (List Nat)} (hs : SlR tDg D w A n l) (hk : k < n) : ∃ b o x, A = some (ad b o) ∧ l[k]? = some x ∧ l.drop k = x :: l.drop (k + 1) ∧ D b ∧ CellsAt w b (o + k * 32) (u8s x) ∧ x.length = 32 ∧ ∀ y ∈ x, y < 256 := by
  obtain ⟨b, o, cs, x, hA, hx, hd, hD, hc, hcs, hl, hy⟩ := hs.at_ hk; have hcs : cs = u8s x := hcs; subst hcs; exact ⟨b, o, x, hA, hx, hd, hD, hc, hl, hy⟩
theorem upL_two (a b : List Nat) (r : List (List Nat)) : upL (a :: b :: r) = nodeB a b :: upL r := by
  conv => lhs; unfold upL
theorem upL_one (a : List Nat) : upL [a] = [a] := by simp [upL]
section
variable {D : Nat → Prop} {w : World}
theorem c_r07two {a b : List Nat} (ha : a.length = 32) (hb : b.length = 32) (ha2 : ∀ y ∈ a, y < 256) (hb2 : ∀ y ∈ b, y < 256) : CallZ Tryz.prog 152 #[.agg (u8s a).toArray, .agg (u8s b).toArray] w (fun v w' => ∃ B d, v = .slice B 96 d ∧ OwnF w w' B 96 d 5 1 (u8s (shaB (bl nodeT) ++ (a ++ b)))) := by
  have la : (u8s a).length = 32 := by rw [List.length_map]; exact ha
  have lb : (u8s b).length = 32 := by rw [List.length_map]; exact hb
  refine fn_rule (args := [.agg (u8s a).toArray, .agg (u8s b).toArray]) Tryz.func152 (by kernel_rfl) ?_; refine box (fun g2 w1 h1 => ?_); refine box (fun g3 w2 h2 => ?_); have B2 : Blk w2 g2 47 (u8s a) := Blk.ext (h1.blk : Blk w1 g2 47 (u8s a)) h2.ext; have B3 : Blk w2 g3 47 (u8s b) := h2.blk; have x02 := h1.ext.trans h2.ext; refine drawP (.take 1 (.take 3 (.eff 0 (.eff 2 (.eff 4 (.eff 5 (.take 6 .done))))))) [] (fun y => Ext w y) mx (by kernel_rfl) x02 ?_; refine slcArr 0 32 rfl rfl (by omega) (by omega) (by omega) ?_; refine slcArr 0 32 rfl rfl (by omega) (by omega) (by omega) ?_; refine lit [] (fun g6 w6 h6 => ?_); have o6 : OwnF w2 w6 (some (ad g6 0)) 0 0 5 1 [] := OwnF.lit (cs := []) (.refl _ _) h6 rfl; refine strS (x02.trans o6.ext) ?_; have sa : SlR tU8 (fun _ => True) w6 (some (ad g2 0)) 32 a := SlR.of_cells ha.symm (by omega) trivial (.blk (B2.ext h6.ext)) (flat_u8s ha2); refine appF o6 sa.u8src (by omega) (fun A7 c7 w7 o7 _ _ => ?_) (h1 := u8s_one _); refine strS (x02.trans o7.ext) ?_; have sb : SlR tU8 (fun _ => True) w7 (some (ad g3 0)) 32 b := SlR.of_cells hb.symm (by omega) trivial (.blk (B3.ext o7.ext)) (flat_u8s hb2); refine appF o7 sb.u8src (by omega) (fun A8 c8 w8 o8 _ _ => ?_) (h1 := u8s_one _)
  have o8 : OwnF w2 w8 A8 64 c8 5 1 (u8s (a ++ b)) := by rw [u8s_app]; exact o8
  refine strS (x02.trans o8.ext) ?_; have s8 : SlR tU8 (fun _ => True) w8 A8 64 (a ++ b) := o8.u8 (fun x hx => (List.mem_append.1 hx).elim (ha2 x) (hb2 x)) (by omega) fun _ _ => trivial; refine call_of (c_r07text (tag := nodeT) s8 (by decide) (by omega)) ?_; rintro _ w9 ⟨B9, d9, rfl, o9⟩; refine strS ((x02.trans o8.ext).trans o9.ext) ?_; exact ret1 (.slice B9 96 d9) rfl ⟨B9, d9, rfl, o9.base (x02.trans o8.ext)⟩
set_option maxRecDepth 4000 in
theorem c_r07next {A : Option Addr} {n c : Nat} {l : List (List Nat)} (hs : SlR tDg D w A n l) (hn : n ≤ 100000) : CallZ Tryz.prog 88 #[.slice A n c] w (fun v w' => ∃ B m d, v = .slice B m d ∧ RowF w w' B m d (upL l)) := by
  have hs := hs.more (D' := fun b => b < w.heap.size) (by decide) fun b hb _ => hb; have hl := hs.len; refine fn_rule (args := [.slice A n c]) Tryz.func88 (by kernel_rfl) ?_; refine lit [] (fun g w1 h1 => ?_); have o1 : OwnF w w1 (some (ad g 0)) 0 0 47 32 [] := OwnF.lit (cs := []) (.refl _ _) h1 rfl; refine loop4 (fun (i : Nat) (B : Option Addr) (m d : Nat) => [(4, iv (i : Int)), (3, .slice B m d)]) (fun i B m d u => i ≤ n + 1 ∧ m ≤ i ∧ ∃ done, done ++ upL (l.drop i) = upL l ∧ RowF w u B m d done) (fun i _ _ _ _ => n + 2 - i) 0 (some (ad g 0)) 0 0 ⟨rfl, rfl, trivial⟩ ⟨by omega, by omega, [], rfl, o1, fun x hx => by cases hx⟩ rfl ?_; rintro G i B m d u ⟨hi, hmi, done, hdone, own⟩; have hmi : m ≤ i := hmi; have own : RowF w u B m d done := own; have xu := own.1.ext; have hsu := hs.ext xu; refine len ?_; refine cD (fun hlt => ?_) (fun hge => ?_)
  · obtain ⟨bx, o, a, hA, hxa, hda, hD, hca, la, la2⟩ := hsu.dig (k := i) (by omega); subst hA; refine arI (n := (i : Int) + 1) (by omega) ?_; refine len ?_; refine cD (fun hlt2 => ?_) (fun hge2 => ?_)
    · obtain ⟨bx2, o2, b, hA2, hxb, hdb, -, hcb, lb, lb2⟩ := hsu.dig (k := i + 1) (by omega); injection hA2 with hA2; injection hA2 with q1 q2; subst q1; subst q2
      have hna : B ≠ some (ad bx 0) := fun e => by have := own.1.new bx e; omega
      refine drawP (.take 0 (.take 1 (.take 2 (.take 3 (.take 4 (.take 5 (.take 6 (.take 7 (.take 8 (.take 9 (.eff 10 (.eff 11 (.eff 12 (.eff 13 (.take 14 .done))))))))))))))) [] (fun y => Kept (fun q => B ≠ some (ad q 0)) u y) mx (by kernel_rfl) (.refl _ _) ?_; refine idx i rfl (by omega) ?_; refine ldAK (u8s a) hca (by rw [List.length_map]; exact la) hna (.refl _ _) ?_; refine arI (n := (i : Int) + 1) (by omega) ?_; refine idx (i + 1) (by omega) (by omega) ?_; refine ldAK (u8s b) hcb (by rw [List.length_map]; exact lb) hna (.refl _ _) ?_; refine call_of (c_r07two la lb la2 lb2) ?_; rintro _ u1 ⟨E, e, rfl, oE⟩; refine strS (Ext.any oE.ext) ?_
      have sE : SlR tU8 (fun _ => True) u1 E 96 (shaB (bl nodeT) ++ (a ++ b)) := oE.u8 (fun x hx => by
        rcases List.mem_append.1 hx with hx | hx
        · exact shaB_lt _ x hx
        · exact (List.mem_append.1 hx).elim (la2 x) (lb2 x)) (by omega) fun _ _ => trivial
      refine call_of (c_r02Sum sE (by omega)) ?_; rintro _ u2 ⟨rfl, x2⟩; refine strS (Ext.any (oE.ext.trans x2)) ?_; have hnl : (shaB (shaB (bl nodeT) ++ (a ++ b))).length = 32 := shaB_len _; refine litD hnl (by rfl) (fun g5 u3 h5 => ?_); refine strS (Ext.any ((oE.ext.trans x2).trans h5.ext)) ?_; refine appD (⟨own.1.then (oE.ext.trans x2), own.2⟩ : RowF w u2 B m d done) hnl (shaB_lt _) h5 (by omega) (by rfl) (fun A' c' u4 o4 k4 => ?_); refine strS ((Ext.any ((oE.ext.trans x2).trans h5.ext)).trans k4) ?_; refine arI (n := (i : Int) + 2) (by omega) ?_; refine next4 (i + 2) A' (m + 1) c' ⟨by show iv ((i : Int) + 2) = iv ((i + 2 : Nat) : Int); rw [Int.natCast_add]; rfl, rfl, trivial⟩ ⟨by omega, by omega, _, ?_, o4⟩ (by omega); rw [← hdone, hda, hdb, upL_two, List.append_assoc]
      rfl
    · refine idx i rfl (by omega) ?_; refine ldA (u8s a) hca (by rw [List.length_map]; exact la) ?_; refine litD la (by rfl) (fun g5 u3 h5 => ?_); refine appD own la la2 h5 (by omega) (by rfl) (fun A' c' u4 o4 k4 => ?_); refine arI (n := (i : Int) + 2) (by omega) ?_; refine next4 (i + 2) A' (m + 1) c' ⟨by show iv ((i : Int) + 2) = iv ((i + 2 : Nat) : Int); rw [Int.natCast_add]; rfl, rfl, trivial⟩ ⟨by omega, by omega, _, ?_, o4⟩ (by omega); have h0 : l.drop (i + 1) = [] := List.drop_of_length_le (by omega); have h1 : l.drop (i + 2) = [] := List.drop_of_length_le (by omega); rw [← hdone, hda, h0, h1, upL_one]; simp [upL]
  · have h0 : l.drop i = [] := List.drop_of_length_le (by omega); rw [h0] at hdone
    have hdone : done = upL l := by rw [← hdone]; simp [upL]
    subst hdone; exact ret1 (.slice B m d) rfl ⟨B, m, d, rfl, own⟩
set_option maxRecDepth 4000 in
theorem c_r07first {A : Option Addr} {n c : Nat} {l : List (List Nat)} (hs : SlR (tSl tU8) D w A n l) (hn : n ≤ 100000) (hsm : ∀ b ∈ l, b.length ≤ 1000000) : CallZ Tryz.prog 87 #[.slice A n c] w (fun v w' => ∃ B d, v = .slice B n d ∧ RowF w w' B n d (l.map leafB)) := by
  have hs := hs.more (D' := fun b => b < w.heap.size) (by decide) fun b hb _ => hb; have hl := hs.len; refine fn_rule (args := [.slice A n c]) Tryz.func87 (by kernel_rfl) ?_; refine lit [] (fun g w1 h1 => ?_); have o1 : OwnF w w1 (some (ad g 0)) 0 0 47 32 [] := OwnF.lit (cs := []) (.refl _ _) h1 rfl; refine loop4 (fun (k : Nat) (B : Option Addr) (m d : Nat) => [(4, iv (k : Int)), (3, .slice B m d)]) (fun k B m d u => k ≤ n ∧ m = k ∧ RowF w u B m d ((l.take k).map leafB)) (fun k _ _ _ _ => n - k) 0 (some (ad g 0)) 0 0 ⟨rfl, rfl, trivial⟩ ⟨by omega, rfl, o1, fun x hx => by cases hx⟩ rfl ?_; rintro G k B m d u ⟨hk, hm, own⟩; have hm : m = k := hm; subst hm; have own : RowF w u B m d ((l.take m).map leafB) := own; refine len ?_; refine cD (fun hlt => ?_) (fun hge => ?_)
  · obtain ⟨bx, o, cs, x, rfl, hx, -, -, hc, A2, n2, c2, rfl, hs2, hc2⟩ := (hs.ext own.1.ext).at_ (k := m) (by omega); have hx2 := hs2.len; have hxs := hsm x (List.mem_of_getElem? hx); refine idx m rfl (by omega) ?_; refine ld (.slice A2 n2 c2) (hc 0 _ rfl) ?_; refine call_of (c_r07text (tag := leafT) hs2 (by decide) (by omega)) ?_; rintro _ u1 ⟨E, e, rfl, oE⟩
    have sE : SlR tU8 (fun _ => True) u1 E (32 + n2) (shaB (bl leafT) ++ x) := oE.u8 (fun y hy => by
      rcases List.mem_append.1 hy with hy | hy
      · exact shaB_lt _ y hy
      · exact hs2.u8b y hy) (by omega) fun _ _ => trivial
    refine call_of (c_r02Sum sE (by omega)) ?_; rintro _ u2 ⟨rfl, x2⟩; have hnl : (shaB (shaB (bl leafT) ++ x)).length = 32 := shaB_len _; refine litD hnl (by rfl) (fun g5 u3 h5 => ?_); refine appD (⟨own.1.then (oE.ext.trans x2), own.2⟩ : RowF w u2 B m d ((l.take m).map leafB)) hnl (shaB_lt _) h5 (by omega) (by rfl) (fun A' c' u4 o4 k4 => ?_); refine arI (n := (m : Int) + 1) (by omega) ?_; refine next4 (m + 1) A' (m + 1) c' ⟨by rw [Int.natCast_add]; rfl, rfl, trivial⟩ ⟨by omega, rfl, ?_⟩ (by omega); rw [List.take_add_one, hx, List.map_append]; exact o4
  · have hm : m = n := by omega
    subst hm; rw [List.take_of_length_le (by omega)] at own; exact ret1 (.slice B m d) rfl ⟨B, d, rfl, own⟩
set_option maxRecDepth 4000 in
theorem c_r07Root {A : Option Addr} {n c : Nat} {l : List (List Nat)} (hs : SlR (tSl tU8) D w A n l) (hn : n ≤ 50000) (hsm : ∀ b ∈ l, b.length ≤ 1000000) : CallZ Tryz.prog 50 #[.slice A n c] w (fun v w' => v = .agg (u8s (rootL l)).toArray ∧ Ext w w') := by
  have hl := hs.len; refine fn_rule (args := [.slice A n c]) Tryz.func50 (by kernel_rfl) ?_; refine alloc (fun b2 w1 h1 => ?_); have R1 : Blk w1 b2 47 (List.replicate 32 (uv8 0)) := h1.blk; have e1 := h1.at_; have lR := R1.lt; refine len ?_; refine cE (fun h0 => ?_) (fun h0 => ?_)
  · have hnil : l = [] := List.eq_nil_of_length_eq_zero (by omega); refine call_of (c_r02Tagged (D := fun _ => True) (tag := noneT) (b := []) (A := none) (n := 0) (c := 0) .nil (by decide) (by omega)) ?_; rintro _ w2 ⟨rfl, x2⟩; have hlen : (tagB (bl noneT) []).length = 32 := shaB_len _
    have htl : (u8s (tagB (bl noneT) [])).length = 32 := by rw [List.length_map]; exact hlen
    refine stA (vs := u8s (tagB (bl noneT) [])) (R1.ext x2) htl (by rw [htl]; exact Nat.le_refl _) (fun v hv => List.all_eq_true.1 (u8s_one _) v hv) (fun we Be ke _ => ?_)
    have Be : Blk we b2 47 (u8s (tagB (bl noneT) [])) := by
      rw [List.take_zero, List.nil_append, List.drop_of_length_le (by rw [htl]; exact Nat.le_refl _), List.append_nil] at Be; exact Be
    refine ret ?_; refine resL (.agg (u8s (tagB (bl noneT) [])).toArray) (holds_agg (.blk Be) htl) ?_
    have eR : rootL l = tagB (bl noneT) [] := by unfold rootL; rw [if_pos hnil]
    exact ⟨by rw [eR]; rfl, (h1.ext.trans x2).then ke fun i hi _ e => by omega⟩
  refine call_of (c_r07first (hs.ext h1.ext) (by omega) hsm) ?_; rintro _ w2 ⟨B, d, rfl, own⟩
  have hnn : ¬ l = [] := fun e => by rw [e] at hl; exact h0 (by rw [← hl]; rfl)
  have hR : rootL l = rootF n (l.map leafB) := by unfold rootL; rw [if_neg hnn, hl]
  obtain ⟨R, hRe⟩ : ∃ R, R = rootF n (l.map leafB) := ⟨_, rfl⟩; rw [← hRe] at hR; refine loop4 (fun (f : Nat) (B : Option Addr) (m d : Nat) => [(3, .slice B m d)]) (fun f B m d u => Ext w1 u ∧ m ≤ d ∧ 0 < m ∧ m ≤ f + 1 ∧ f ≤ n ∧ ∃ row, rootF f row = R ∧ SlR tDg (fun b => b ≠ b2) u B m row ∧ Row row) (fun f _ m _ _ => m) n B n d ⟨rfl, trivial⟩ ⟨own.1.ext, own.1.le, by omega, by omega, Nat.le_refl _, l.map leafB, hRe.symm, own.rd (by omega) fun b hb => by omega, own.2⟩ rfl ?_; rintro G f B m d u ⟨xu, hmd, hm0, hmf, hfn, row, hrow, sr, hrw⟩; have hm0 : 0 < m := hm0; have hmf : m ≤ f + 1 := hmf; have hmd : m ≤ d := hmd; have sr : SlR tDg (fun b => b ≠ b2) u B m row := sr; have hlr := sr.len; refine len ?_; refine cD (fun hlt => ?_) (fun hge => ?_)
  · obtain ⟨f, rfl⟩ : ∃ g, f = g + 1 := ⟨f - 1, by omega⟩; refine call_of (c_r07next sr (by omega)) ?_; rintro _ u2 ⟨B2, m2, d2, rfl, o2⟩; have hm2 := o2.len; rw [upL_len] at hm2; have s1 := xu.size; refine next4 f B2 m2 d2 ⟨rfl, trivial⟩ ⟨xu.trans o2.1.ext, o2.1.le, by omega, by omega, by omega, upL row, ?_, o2.rd (by omega) fun b hb => by omega, o2.2⟩ (by omega); rw [← hrow, rootF_step (by omega)]
  · have hm1 : m = 1 := by omega
    subst hm1; obtain ⟨bx, o, x, rfl, hx, hd, -, hc, hxl, hx2⟩ := sr.dig (k := 0) (by omega)
    have hRx : R = x := by
      rw [← hrow, rootF_one (by omega)]
      cases row with
      | nil => simp at hx
      | cons y r => simp at hx; subst hx; rfl
    refine idx 0 rfl (by omega) ?_
    have hxl2 : (u8s x).length = 32 := by rw [List.length_map]; exact hxl
    refine ldA (u8s x) hc hxl2 ?_; refine stA (vs := u8s x) (R1.ext xu) hxl2 (by rw [hxl2]; exact Nat.le_refl _) (fun v hv => List.all_eq_true.1 (u8s_one _) v hv) (fun we Be ke _ => ?_)
    have Be : Blk we b2 47 (u8s x) := by
      rw [List.take_zero, List.nil_append, List.drop_of_length_le (by rw [hxl2]; exact Nat.le_refl _), List.append_nil] at Be; exact Be
    refine ret ?_; refine resL (.agg (u8s x).toArray) (holds_agg (.blk Be) hxl2) ?_; exact ⟨by rw [hR, hRx]; rfl, (h1.ext.trans xu).then ke fun i hi _ e => by omega⟩
end
theorem callExt {P : Program} {f : FuncId} {args : Array Value} {X : XK} {K : VK} {w : World} (h : ∀ w0, z w0 = w → ∃ v w', (callFunc f args).run P w0 = .ok (.value v) w' ∧ K v (z w')) : CallP P f args K X w := by
  rw [CallP_eq]; refine OpS.x fun w0 hw => ?_; obtain ⟨v, w', hr, hk⟩ := h w0 hw; rw [hr]; exact hk
theorem callMNZ {X : XK} {K : VK} {w : World} (n : Nat) (hn : n ≤ 281474976710656) (kk : ∀ g w' cs, NewB w 5 cs g w' → n ≤ cs.length → K (.slice (some (ad g 0)) n cs.length) w') : CallP Tryz.prog 258 #[iv (n : Int)] K X w := by
  refine callExt fun w0 hw => ?_; subst hw; obtain ⟨cs, hr, hle, -⟩ := Lib.run_makeNoZero (P := Tryz.prog) w0 #[3] 102 5 Tryz.underlying102 n hn; refine ⟨.slice (some (ad w0.heap.size 0)) n cs.size, w0.drew.drew.alloc (.cells cs 5), ?_, ?_⟩
  · rw [run_callFunc_extern Tryz.func258 (by kernel_rfl) (by kernel_rfl) (by kernel_rfl) (e := Extern.BytealgMakeNoZero.makeNoZero #[3] #[102]) (by kernel_rfl), hr]
    rfl
  · have := kk w0.heap.size (z (w0.drew.drew.alloc (.cells cs 5))) cs.toList ⟨rfl, rfl⟩ (by simpa using hle)
    simpa using this
theorem slcAM {P : Program} {t e : TypeId} {sz : Nat} [hst : SliceTy P t e sz] {A : Option Addr} {n c : Nat} {hv mv : Value} {K : Value → Prop} (h m : Nat) (hhi : IsB (some hv) h n) (hm : IsB (some mv) m 0) (h3 : h ≤ m) (h4 : m ≤ c) (h0 : 0 < m)
    (kk : ∀ A' : Option Addr, (A = A' ∨ ∃ a, A = some a ∧ A' = some (a.add (0 * sz))) → K (.slice A' h m)) : SlcP P t (.slice A n c) none (some hv) (some mv) K := by
  rw [SlcP_eq]; obtain ⟨hu, inf, hinf, hs'⟩ := sliceOf_spec hst.h
  have hrun : ∀ w, (Instr.sliceAt t (.slice A n c) none (some hv) (some mv)).run P w = .ok (.slice (if m = 0 then A else A.map (·.add (0 * sz))) (h - 0) (m - 0)) w := fun w => by
    unfold Instr.sliceAt; rw [Sem.run_bind, run_underlying hu]; simp only [Result.andThen_ok]; unfold Instr.slice; rw [Sem.run_bind, run_underlying hu]; simp only [Result.andThen_ok]; rw [Sem.run_bind, run_sliceBoundsM (lo := none) (l := 0) (show IsB none 0 0 from rfl) hhi hm (Nat.zero_le _) h3 h4]; simp only [Result.andThen_ok]; rw [Sem.run_bind, run_sizeOf hinf, hs']
    rfl
  refine pure_vval hrun ?_; rw [if_neg (by omega), Nat.sub_zero, Nat.sub_zero]; refine kk _ ?_
  cases A with
  | none => exact .inl rfl
  | some a => exact .inr ⟨a, rfl, rfl⟩
section
variable {D : Nat → Prop} {w : World}
set_option maxRecDepth 4000 in
theorem c_join2 {A : Option Addr} {c : Nat} {x y : List Nat} (hs : SlR (tSl tU8) D w A 2 [x, y]) (hc : 2 ≤ c) (h0 : 0 < x.length) (h1' : 0 < y.length) (hx : x.length ≤ 1000000) (hy : y.length ≤ 1000000) :
    CallZ Tryz.prog 239 #[.slice A 2 c, .slice none 0 0] w (fun v w' => ∃ B m d, v = .slice B m d ∧ m = (x ++ y).length ∧ Src w' B m 1 (u8s (x ++ y)) ∧ Ext w w') := by
  have hs := hs.more (D' := fun _ => True) (by decide) fun _ _ _ => trivial; refine fn_rule (args := [.slice A 2 c, .slice none 0 0]) Tryz.func239 (by kernel_rfl) ?_; refine len ?_; refine cE (fun h => absurd h (by omega)) (fun _ => ?_); refine len ?_; refine cE (fun h => absurd h (by omega)) (fun _ => ?_); refine len ?_; refine cD (fun h => absurd h (by omega)) (fun _ => ?_); refine len ?_; refine loop_rule (fun k : Nat => [(44, iv (k : Int)), (5, iv (sumLn ([x, y].take k) : Int))]) (fun k u => k ≤ 2 ∧ w = u) (fun k _ => 2 - k) 0 ⟨rfl, rfl, trivial⟩ ⟨by omega, rfl⟩ rfl ?_; rintro G k u ⟨hk, rfl⟩
  have hsum : sumLn [x, y] = x.length + y.length := by simp [sumLn]
  have hlk := sumLn_take [x, y] k; rw [hsum] at hlk; refine cD (fun hlt => ?_) (fun hge => ?_)
  · obtain ⟨b, o, cs, z, rfl, hz, -, -, hcc, A2, n2, c2, rfl, hs2, hc2⟩ := hs.at_ (k := k) (by omega)
    have htk : [x, y].take (k + 1) = [x, y].take k ++ [z] := by rw [List.take_add_one, hz]; rfl
    have hlk1 := sumLn_take [x, y] (k + 1); rw [htk, sumLn_snoc, hsum] at hlk1; have hz2 := hs2.len; refine idx k rfl (by omega) ?_; refine ld (.slice A2 n2 c2) (hcc 0 _ rfl) ?_; refine len ?_; refine arI (n := 9223372036854775807 - (sumLn ([x, y].take k) : Int)) (by omega) ?_; refine cD (fun h => absurd h (by omega)) (fun _ => ?_); refine len ?_; refine arI (n := (sumLn ([x, y].take k) : Int) + (n2 : Int)) (by omega) ?_; refine arI (n := (k : Int) + 1) (by omega) ?_; refine next (k + 1) ⟨by rw [Int.natCast_add]; rfl, ?_, trivial⟩ ⟨by omega, rfl⟩ (by omega); rw [htk, sumLn_snoc, hz2, Int.natCast_add]; rfl
  have hk2 : k = 2 := by omega
  subst hk2; have hT : sumLn ([x, y].take 2) = x.length + y.length := hsum; rw [hT]; obtain ⟨T, hTe⟩ : ∃ T, T = x.length + y.length := ⟨_, rfl⟩; rw [← hTe]; refine callMNZ T (by omega) (fun g w1 cs0 q1 hcs => ?_); have eg := q1.at_; have x1 := q1.ext; have B1 : Blk w1 g 5 cs0 := q1.blk; refine slcAM T T rfl rfl (Nat.le_refl _) hcs (by omega) (fun A' hA' => ?_)
  have hA' : A' = some (ad g 0) := by
    rcases hA' with h | ⟨a, h, h2⟩
    · exact h.symm
    · injection h with h; rw [h2, ← h]
      rfl
  subst hA'; obtain ⟨b, o, cs, z, rfl, hz, -, -, hcc, A2, n2, c2, rfl, hs2, hc2⟩ := hs.at_ (k := 0) (by omega)
  obtain rfl : x = z := by simpa using hz
  have hn2 := hs2.len; have h1 := hs.ext x1; have hcell := (hs.ext x1); obtain ⟨b', o', cs', z', hB', hz', -, -, hcc', A2', n2', c2', rfl, hs2', hc2'⟩ := (hs.ext x1).at_ (k := 0) (by omega); injection hB' with hB'; injection hB' with q q'; subst q; subst q'
  obtain rfl : x = z' := by simpa using hz'
  have hn2' := hs2'.len; refine idx 0 rfl (by omega) ?_; refine ld (.slice A2' n2' c2') (hcc' 0 _ rfl) ?_; refine cpy (o := 0) (n := T) (m := n2') B1 (by omega) hs2'.u8src (fun w2 B2 k2 z2 => ?_) (h1 := u8s_one _)
  have hmin : min n2' T = x.length := by omega
  rw [hmin]
  have B2 : Blk w2 g 5 (u8s x ++ cs0.drop x.length) := by
    rw [List.take_zero, List.nil_append, List.take_of_length_le (by rw [List.length_map]; omega), Nat.zero_add, hmin] at B2; exact B2
  have x2 : Ext w w2 := x1.then k2 fun i hi _ e => by omega
  have hsg := (hs.ext x2); refine slcR 1 2 hsg hc rfl rfl (by omega) (by omega) rfl (fun A5 hA5 => ?_); have s5 := hA5 _ w2 hsg; refine len ?_; refine loop_rule (fun p : Nat × Nat => [(72, iv (p.1 : Int)), (9, iv (p.2 : Int))]) (fun p u => p.1 ≤ 1 ∧ p.2 = x.length + p.1 * y.length ∧ Kept (fun i => i ≠ g) w2 u ∧ Blk u g 5 (if p.1 = 0 then u8s x ++ cs0.drop x.length else u8s (x ++ y) ++ cs0.drop T)) (fun p _ => 1 - p.1) (0, x.length) ⟨rfl, rfl, trivial⟩ ⟨Nat.zero_le _, by show x.length = x.length + 0 * y.length; omega, .refl _ _, B2⟩ rfl ?_; rintro G2 ⟨k, q⟩ u ⟨hk1, hq, ku, Bu⟩; have hk1 : k ≤ 1 := hk1; have hq : q = x.length + k * y.length := hq; have Bu : Blk u g 5 (if k = 0 then u8s x ++ cs0.drop x.length else u8s (x ++ y) ++ cs0.drop T) := Bu; rcases (show k = 0 ∨ k = 1 by omega) with rfl | rfl
  · refine cD (fun _ => ?_) (fun h => absurd (show ((0 : Nat) : Int) < ((2 - 1 : Nat) : Int) by omega) h); have Bu : Blk u g 5 (u8s x ++ cs0.drop x.length) := Bu
    have s5u : SlR (tSl tU8) (fun i => i < w.heap.size) u A5 1 [y] := by
      have hw := hs.more (D' := fun i => i < w.heap.size) (by decide) fun b hb _ => hb; have := hA5 _ u ((hw.ext x2).kept ku fun i _ hi => by omega); exact this
    obtain ⟨b6, o6, cs6, z6, hB6, hz6, -, -, hcc6, A6, n6, c6, rfl, hs6, hc6⟩ := s5u.at_ (k := 0) (by omega); subst hB6
    obtain rfl : y = z6 := by simpa using hz6
    have hn6 := hs6.len; refine idx 0 rfl (by omega) ?_; refine ld (.slice A6 n6 c6) (hcc6 0 _ rfl) ?_
    have hq : q = x.length := by omega
    rw [hq]; clear hq; refine slcA x.length T rfl rfl (by omega) (by omega) (by omega) ?_
    have hlb : (u8s x ++ cs0.drop x.length).length = cs0.length := by rw [List.length_append, List.length_map, List.length_drop]; omega
    refine cpy (o := 0 + x.length * 1) (n := T - x.length) (m := 0) (news := []) Bu (by omega) ⟨rfl, fun h => absurd h (by omega)⟩ (fun u2 B3 k3 z3 => ?_); rw [show min 0 (T - x.length) = 0 by omega]
    have B3 : Blk u2 g 5 (u8s x ++ cs0.drop x.length) := by
      rw [List.take_nil, List.append_nil, show 0 + x.length * 1 + min 0 (T - x.length) = 0 + x.length * 1 by omega, List.take_append_drop] at B3; exact B3
    refine arI (n := ((x.length : Nat) : Int)) (by omega) ?_; refine slcA x.length T rfl rfl (by omega) (by omega) (by omega) ?_
    have hs6' := hs6.kept k3 fun i hi h => by have := x2.size; omega
    refine cpy (o := 0 + x.length * 1) (n := T - x.length) (m := n6) B3 (by omega) hs6'.u8src (fun u4 B4 k4 z4 => ?_) (h1 := u8s_one _); rw [show min n6 (T - x.length) = y.length by omega]; refine arI (n := ((x.length : Nat) : Int) + ((y.length : Nat) : Int)) (by omega) ?_; refine arI (n := 1) (by omega) ?_; refine next (1, x.length + y.length) ⟨rfl, ?_, trivial⟩ ⟨Nat.le_refl _, by show x.length + y.length = x.length + 1 * y.length; omega, (ku.trans k3).trans k4, ?_⟩ (by show 1 - 1 < 1 - 0; omega)
    · show iv (((x.length : Nat) : Int) + ((y.length : Nat) : Int)) = iv ((x.length + y.length : Nat) : Int); rw [Int.natCast_add]
    · show Blk u4 g 5 (u8s (x ++ y) ++ cs0.drop T); rw [show 0 + x.length * 1 = x.length by omega, List.take_append_of_le_length (by rw [List.length_map]; exact Nat.le_refl _), List.take_of_length_le (by rw [List.length_map]; exact Nat.le_refl _), List.take_of_length_le (by rw [List.length_map]; omega), show x.length + min n6 (T - x.length) = T by omega, List.drop_append, List.drop_of_length_le (by rw [List.length_map]; omega), List.nil_append, List.length_map, List.drop_drop, show x.length + (T - x.length) = T by omega, ← u8s_app] at B4; exact B4
  · refine cD (fun h => absurd (show ((1 : Nat) : Int) < ((2 - 1 : Nat) : Int) from h) (by omega)) (fun _ => ?_); have Bu : Blk u g 5 (u8s (x ++ y) ++ cs0.drop T) := Bu; refine ret1 (.slice (some (ad g 0)) T T) rfl ⟨_, T, T, rfl, by rw [List.length_append]; exact hTe, ⟨by rw [List.length_map, List.length_append]; omega, fun _ => ⟨g, 0, rfl, fun j v hv => by rw [Nat.zero_add]; exact Bu.cell (by rw [List.getElem?_append_left (List.getElem?_eq_some_iff.1 hv).1]; exact hv)⟩⟩, x2.then ku fun i hi _ e => by omega⟩
theorem c_join1 {A : Option Addr} {c : Nat} {x : List Nat} (hs : SlR (tSl tU8) D w A 1 [x]) (hx : x.length ≤ 1000000) :
    CallZ Tryz.prog 239 #[.slice A 1 c, .slice none 0 0] w (fun v w' => ∃ B m d, v = .slice B m d ∧ m = x.length ∧ Src w' B m 1 (u8s x) ∧ Ext w w') := by
  refine fn_rule (args := [.slice A 1 c, .slice none 0 0]) Tryz.func239 (by kernel_rfl) ?_; refine len ?_; refine cE (fun h => absurd h (by omega)) (fun _ => ?_); refine len ?_; refine cE (fun _ => ?_) (fun h => absurd rfl h); obtain ⟨b, o, cs, z, rfl, hz, -, -, hcc, A2, n2, c2, rfl, hs2, hc2⟩ := hs.at_ (k := 0) (by omega)
  obtain rfl : x = z := by simpa using hz
  have hn2 := hs2.len; refine idx 0 rfl (by omega) ?_; refine ld (.slice A2 n2 c2) (hcc 0 _ rfl) ?_; refine appF (w0 := w) (OwnF.nil (.refl _ _)) hs2.u8src (by omega) (fun B d w2 o2 _ _ => ?_) (h1 := u8s_one _); rw [List.nil_append] at o2; exact ret1 (.slice B (0 + n2) d) rfl ⟨B, 0 + n2, d, rfl, by omega, o2.src1, o2.ext⟩
def Parts (l : List (List Nat)) : Prop := (∃ x, l = [x] ∧ 0 < x.length ∧ x.length ≤ 1000000) ∨ ∃ x y, l = [x, y] ∧ 0 < x.length ∧ 0 < y.length ∧ x.length ≤ 1000000 ∧ y.length ≤ 1000000
theorem c_join {A : Option Addr} {n c : Nat} {l : List (List Nat)} (hs : SlR (tSl tU8) D w A n l) (hc : n ≤ c) (hl : Parts l) :
    CallZ Tryz.prog 239 #[.slice A n c, .slice none 0 0] w (fun v w' => ∃ B m d, v = .slice B m d ∧ m = l.flatten.length ∧ 0 < m ∧ m ≤ 2000000 ∧ Src w' B m 1 (u8s l.flatten) ∧ Ext w w') := by
  rcases hl with ⟨x, rfl, h0, h1⟩ | ⟨x, y, rfl, h0, h1, h2, h3⟩
  · have hn : n = 1 := hs.len.symm; subst hn
    have e : [x].flatten = x := by simp
    rw [e]; exact (c_join1 hs h1).mono fun v w' ⟨B, m, d, a1, a2, a3, a4⟩ => ⟨B, m, d, a1, a2, by omega, by omega, a3, a4⟩
  · have hn : n = 2 := hs.len.symm; subst hn
    have e : [x, y].flatten = x ++ y := by simp
    rw [e]; exact (c_join2 hs hc h0 h1 h2 h3).mono fun v w' ⟨B, m, d, a1, a2, a3, a4⟩ => ⟨B, m, d, a1, a2, by rw [List.length_append] at a2; omega, by rw [List.length_append] at a2; omega, a3, a4⟩
end
theorem flat_row_eq {D : Nat → Prop} {w : World} : ∀ {l : List (List Nat)} {cs : List Value}, FlatR tDg D w l cs → cs = rowC l ∧ Row l
  | [], _, h => ⟨h, fun x hx => by cases hx⟩
  | x :: l, _, ⟨c, r, h, ⟨h1, h2⟩, h3⟩ => by
    obtain ⟨e, hr⟩ := flat_row_eq h3
    subst h; subst h1; subst e
    exact ⟨rfl, fun y hy => by
      rcases List.mem_cons.1 hy with rfl | hy
      · exact h2
      · exact hr y hy⟩
theorem SlR.rsrc {D : Nat → Prop} {w : World} {A : Option Addr} {n : Nat} {l : List (List Nat)} (hs : SlR tDg D w A n l) : Src w A n 32 (rowC l) ∧ Row l := by
  obtain ⟨cs, h1, h2⟩ := hs.srcs; obtain ⟨rfl, hr⟩ := flat_row_eq h2; exact ⟨h1, hr⟩
section
variable {D : Nat → Prop} {w : World}
theorem c_mtext {A : Option Addr} {n c : Nat} {l : List (List Nat)} {tag : ByteArray} (hN : NumW w) (hs : SlR (tSl tU8) D w A n l) (hc : n ≤ c) (hl : Parts l) (ht : tag.size ≤ 1000) :
    CallZ Tryz.prog 201 #[.string tag, .slice A n c] w (fun v w' => ∃ B m d, v = .slice B m d ∧ m = 32 + l.flatten.length ∧ m ≤ 3000000 ∧ m ≤ d ∧ OwnF w w' B m d 5 1 (u8s (shaB (bl tag) ++ l.flatten))) := by
  have hs := hs.more (D' := fun _ => True) (by decide) fun _ _ _ => trivial; refine fn_rule (args := [.string tag, .slice A n c]) Tryz.func201 (by kernel_rfl) ?_; refine cvSB rfl (by omega) (fun w2 cc hsl hcc x2 z2 => ?_); refine call_of (c_dSum (hN.ext x2) hsl hcc) ?_; rintro _ w3 ⟨rfl, x3⟩; refine alloc (fun b5 w4 h4 => ?_); have e5 := h4.at_; have hdl := shaB_len (bl tag)
  have htl : (u8s (shaB (bl tag))).length = 32 := by rw [List.length_map]; exact hdl
  refine stA (vs := u8s (shaB (bl tag))) h4.blk htl (by rw [htl]; exact Nat.le_refl _) (fun v hv => List.all_eq_true.1 (u8s_one _) v hv) (fun w5 B5 k5 _ => ?_)
  have B5 : Blk w5 b5 47 (u8s (shaB (bl tag))) := by
    have e : ∀ X : List Value, X.length = 32 → X.drop (0 + (u8s (shaB (bl tag))).length) = [] := fun X hX => List.drop_of_length_le (by rw [htl]; omega); rw [List.take_zero, List.nil_append, e _ rfl, List.append_nil] at B5; exact B5
  have x35 : Ext w3 w5 := h4.ext.then k5 fun i hi _ e => by omega
  have x05 := (x2.trans x3).trans x35; refine drawP (.take 0 (.take 1 (.eff 2 (.eff 3 (.take 4 .done))))) [] (fun y => Ext w5 y) mx (by kernel_rfl) (.refl _ _) ?_; refine slcArr 0 32 rfl rfl (by omega) (by omega) (by omega) ?_; refine call_of (c_join (hs.ext x05) hc hl) ?_; rintro _ w6 ⟨B, m, d, rfl, hm, hm0, hm1, src, x6⟩; refine strS x6 ?_; have s5 : Src w6 (some (ad b5 (0 + 0 * 1))) 32 1 (u8s (shaB (bl tag))) := ⟨htl, fun _ => ⟨b5, 0, rfl, fun j v hv => by rw [Nat.zero_add]; exact (B5.ext x6).cell hv⟩⟩; have one : ∀ q, ((u8s q).all fun u => u.oneCell') = true := fun q => u8s_one q; refine appG (n := 32) (sz := 1) s5 src hm0 (by omega) (fun A7 c7 w7 o7 => ?_) (by unfold maxLen; omega) (one _) (by rfl) (by rfl) (fun h => by cases h); refine strS (x6.trans o7.ext) ?_; refine ret1 (.slice A7 (32 + m) c7) rfl ⟨A7, 32 + m, c7, rfl, by omega, by omega, o7.le, ?_⟩; rw [u8s_app]; exact o7.base (x05.trans x6)
theorem c_mnode {a b : List Nat} (hN : NumW w) (ha : a.length = 32) (hb : b.length = 32) (ha2 : ∀ y ∈ a, y < 256) (hb2 : ∀ y ∈ b, y < 256) : CallZ Tryz.prog 202 #[.agg (u8s a).toArray, .agg (u8s b).toArray] w (fun v w' => ∃ B d, v = .slice B 96 d ∧ 96 ≤ d ∧ OwnF w w' B 96 d 5 1 (u8s (shaB (bl nodeT) ++ (a ++ b)))) := by
  refine fn_rule (args := [.agg (u8s a).toArray, .agg (u8s b).toArray]) Tryz.func202 (by kernel_rfl) ?_; refine box (fun g2 w1 h1 => ?_); refine box (fun g3 w2 h2 => ?_); have B2 : Blk w2 g2 47 (u8s a) := Blk.ext (h1.blk : Blk w1 g2 47 (u8s a)) h2.ext; have B3 : Blk w2 g3 47 (u8s b) := h2.blk; have x02 := h1.ext.trans h2.ext; refine drawP (.take 0 (.take 1 (.eff 2 (.eff 3 (.take 4 .done))))) [] (fun y => Ext w y) mx (by kernel_rfl) x02 ?_; refine slcArr 0 32 rfl rfl (by omega) (by omega) (by omega) ?_; refine slcArr 0 32 rfl rfl (by omega) (by omega) (by omega) ?_; refine lit [.slice (some (ad g2 0)) 32 32, .slice (some (ad g3 0)) 32 32] (fun g6 w6 h6 => ?_); have x06 := x02.trans h6.ext; refine strS x06 ?_; have sa : SlR tU8 (fun _ => True) w6 (some (ad g2 0)) 32 a := SlR.of_cells ha.symm (by omega) trivial (.blk (B2.ext h6.ext)) (flat_u8s ha2); have sb : SlR tU8 (fun _ => True) w6 (some (ad g3 0)) 32 b := SlR.of_cells hb.symm (by omega) trivial (.blk (B3.ext h6.ext)) (flat_u8s hb2); have sl : SlR (tSl tU8) (fun _ => True) w6 (some (ad g6 0)) 2 [a, b] := SlR.of_cells (cs := [.slice (some (ad g2 0)) 32 32, .slice (some (ad g3 0)) 32 32]) rfl (by omega) trivial (.blk h6.blk) ⟨[.slice (some (ad g2 0)) 32 32], [.slice (some (ad g3 0)) 32 32], rfl, ⟨_, _, _, rfl, sa, Nat.le_refl _⟩, [.slice (some (ad g3 0)) 32 32], [], rfl, ⟨_, _, _, rfl, sb, Nat.le_refl _⟩, rfl⟩; refine call_of (c_mtext (tag := nodeT) (hN.ext x06) sl (Nat.le_refl _) (.inr ⟨a, b, rfl, by omega, by omega, by omega, by omega⟩) (by decide)) ?_; rintro _ w7 ⟨B, m, d, rfl, hm, -, hmd, own⟩
  have e : [a, b].flatten = a ++ b := by simp
  rw [e] at hm own
  have hm96 : m = 96 := by rw [hm, List.length_append]; omega
  subst hm96; refine strS (x06.trans own.ext) ?_; exact ret1 (.slice B 96 d) rfl ⟨B, d, rfl, hmd, own.base x06⟩
theorem c_mleaf {A : Option Addr} {n c : Nat} {b : List Nat} (hN : NumW w) (hs : SlR tU8 D w A n b) (hc : n ≤ c) (h0 : 0 < b.length) (h1 : b.length ≤ 1000000) : CallZ Tryz.prog 137 #[.slice A n c] w (fun v w' => v = .agg (u8s (leafB b)).toArray ∧ Ext w w') := by
  have hs := hs.more (D' := fun _ => True) (by decide) fun _ _ _ => trivial; refine fn_rule (args := [.slice A n c]) Tryz.func137 (by kernel_rfl) ?_; refine alloc (fun b2 w1 q1 => ?_); have R1 := q1.blk; have e2 := q1.at_; refine lit [.slice A n c] (fun g w2 h2 => ?_); have x02 := q1.ext.trans h2.ext; have sl : SlR (tSl tU8) (fun _ => True) w2 (some (ad g 0)) 1 [b] := SlR.of_cells (cs := [.slice A n c]) rfl (by omega) trivial (.blk h2.blk) ⟨[.slice A n c], [], rfl, ⟨_, _, _, rfl, hs.ext x02, hc⟩, rfl⟩; refine call_of (c_mtext (tag := leafT) (hN.ext x02) sl (Nat.le_refl _) (.inl ⟨b, rfl, h0, h1⟩) (by decide)) ?_; rintro _ w3 ⟨B, m, d, rfl, hm, hm3, hmd, own⟩
  have e : [b].flatten = b := by simp
  rw [e] at hm own
  have s3 : SlR tU8 (fun _ => True) w3 B m (shaB (bl leafT) ++ b) := own.u8 (fun y hy => by
    rcases List.mem_append.1 hy with hy | hy
    · exact shaB_lt _ y hy
    · exact hs.u8b y hy) (by omega) fun _ _ => trivial
  refine call_of (c_dSum ((hN.ext x02).ext own.ext) s3 hmd) ?_; rintro _ w4 ⟨rfl, x4⟩; have x14 := (h2.ext.trans own.ext).trans x4; have hdl : (leafB b).length = 32 := shaB_len _
  have htl : (u8s (leafB b)).length = 32 := by rw [List.length_map]; exact hdl
  refine stA (vs := u8s (leafB b)) (R1.ext x14) htl (by rw [htl]; exact Nat.le_refl _) (fun v hv => List.all_eq_true.1 (u8s_one _) v hv) (fun we Be ke _ => ?_)
  have Be : Blk we b2 47 (u8s (leafB b)) := by
    have e : ∀ X : List Value, X.length = 32 → X.drop (0 + (u8s (leafB b)).length) = [] := fun X hX => List.drop_of_length_le (by rw [htl]; omega); rw [List.take_zero, List.nil_append, e _ rfl, List.append_nil] at Be; exact Be
  refine ret ?_; refine resL (.agg (u8s (leafB b)).toArray) (holds_agg (.blk Be) htl) ?_; exact ⟨rfl, (q1.ext.trans x14).then ke fun i hi _ e => by omega⟩
set_option maxRecDepth 4000 in
theorem c_mup {A : Option Addr} {n c : Nat} {l : List (List Nat)} (hN : NumW w) (hs : SlR tDg D w A n l) (hc : n ≤ c) (hn : n ≤ 100000) : CallZ Tryz.prog 138 #[.slice A n c] w (fun v w' => ∃ B m d, v = .slice B m d ∧ RowF w w' B m d (upL l)) := by
  have hs := hs.more (D' := fun b => b < w.heap.size) (by decide) fun b hb _ => hb; have hl := hs.len; refine fn_rule (args := [.slice A n c]) Tryz.func138 (by kernel_rfl) ?_; refine loop_rule (fun p : (Option Addr × Nat × Nat) × Option Addr × Nat × Nat => [(0, .slice p.1.1 p.1.2.1 p.1.2.2), (2, .slice p.2.1 p.2.2.1 p.2.2.2)]) (fun p u => p.1.2.1 ≤ n ∧ p.1.2.1 ≤ p.1.2.2 ∧ p.2.2.1 ≤ n - p.1.2.1 ∧ ∃ done rest, done ++ upL rest = upL l ∧ SlR tDg (fun b => b < w.heap.size) u p.1.1 p.1.2.1 rest ∧ RowF w u p.2.1 p.2.2.1 p.2.2.2 done) (fun p _ => p.1.2.1) ((A, n, c), none, 0, 0) ⟨rfl, rfl, trivial⟩ ⟨Nat.le_refl _, hc, Nat.zero_le _, [], l, rfl, hs, OwnF.nil (.refl _ _), fun x hx => by cases hx⟩ rfl ?_; rintro G ⟨⟨A1, n1, c1⟩, B, m, d⟩ u ⟨hn1, hc1, hm, done, rest, hdone, hr, own⟩; have hn1 : n1 ≤ n := hn1; have hc1 : n1 ≤ c1 := hc1; have hm : m ≤ n - n1 := hm; have hr : SlR tDg (fun b => b < w.heap.size) u A1 n1 rest := hr; have own : RowF w u B m d done := own; have hlr := hr.len; have hNu := hN.ext own.1.ext; refine len ?_; refine cD (fun hlt => ?_) (fun hge => ?_)
  · have hlt : 1 < n1 := by
      have h : ((n1 : Nat) : Int) > 1 := hlt; omega
    obtain ⟨bx, o, a, hA, hxa, hda, hD, hca, la, la2⟩ := hr.dig (k := 0) (by omega); subst hA; obtain ⟨bx2, o2, b, hA2, hxb, hdb, -, hcb, lb, lb2⟩ := hr.dig (k := 1) (by omega); injection hA2 with hA2; injection hA2 with q1 q2; subst q1; subst q2
    have hna : B ≠ some (ad bx 0) := fun e => by have := own.1.new bx e; omega
    refine drawP (.take 0 (.take 1 (.take 2 (.take 3 (.take 4 (.take 5 (.take 6 (.eff 7 (.eff 8 (.eff 9 (.eff 10 (.take 11 .done)))))))))))) [] (fun y => Kept (fun q => B ≠ some (ad q 0)) u y) mx (by kernel_rfl) (.refl _ _) ?_; refine idx 0 rfl (by omega) ?_; refine ldAK (u8s a) hca (by rw [List.length_map]; exact la) hna (.refl _ _) ?_; refine idx 1 rfl (by omega) ?_; refine ldAK (u8s b) hcb (by rw [List.length_map]; exact lb) hna (.refl _ _) ?_; refine call_of (c_mnode hNu la lb la2 lb2) ?_; rintro _ u1 ⟨E, e, rfl, he, oE⟩; refine strS (Ext.any oE.ext) ?_
    have sE : SlR tU8 (fun _ => True) u1 E 96 (shaB (bl nodeT) ++ (a ++ b)) := oE.u8 (fun x hx => by
      rcases List.mem_append.1 hx with hx | hx
      · exact shaB_lt _ x hx
      · exact (List.mem_append.1 hx).elim (la2 x) (lb2 x)) (by omega) fun _ _ => trivial
    refine call_of (c_dSum (hNu.ext oE.ext) sE he) ?_; rintro _ u2 ⟨rfl, x2⟩; refine strS (Ext.any (oE.ext.trans x2)) ?_; have hnl : (shaB (shaB (bl nodeT) ++ (a ++ b))).length = 32 := shaB_len _; refine litD hnl (by rfl) (fun g5 u3 h5 => ?_); refine strS (Ext.any ((oE.ext.trans x2).trans h5.ext)) ?_; refine appD (⟨own.1.then (oE.ext.trans x2), own.2⟩ : RowF w u2 B m d done) hnl (shaB_lt _) h5 (by omega) (by rfl) (fun A' c' u4 o4 k4 => ?_); have k04 := (Ext.any (D := fun q => B ≠ some (ad q 0)) ((oE.ext.trans x2).trans h5.ext)).trans k4; refine strS k04 ?_
    have hr4 : SlR tDg (fun b => b < w.heap.size) u4 (some (ad bx o)) n1 rest := hr.kept k04 fun b _ h e => by have := own.1.new b e; omega
    refine slcR 2 n1 hr4 hc1 rfl rfl (by omega) (Nat.le_refl _) rfl (fun A5 hA5 => ?_); have s5 := hA5 _ u4 hr4; rw [List.take_of_length_le (by omega)] at s5; refine next ((A5, n1 - 2, c1 - 2), A', m + 1, c') ⟨rfl, rfl, trivial⟩ ⟨by show n1 - 2 ≤ n; omega, by show n1 - 2 ≤ c1 - 2; omega, by show m + 1 ≤ n - (n1 - 2); omega, done ++ [nodeB a b], rest.drop 2, ?_, s5, o4⟩ (by show n1 - 2 < n1; omega); have hd0 : rest.drop 0 = rest := rfl; rw [← hdone, ← hd0, hda, hdb, upL_two, List.append_assoc]
    rfl
  · have hge : n1 ≤ 1 := by
      have h : ¬ ((n1 : Nat) : Int) > 1 := hge; omega
    obtain ⟨src, hrw⟩ := hr.rsrc
    have hup : upL rest = rest := by
      match rest, hlr with
      | [], _ => simp [upL]
      | [x], _ => exact upL_one x
      | _ :: _ :: _, h => simp at h; omega
    rw [hup] at hdone; refine appF (sz := 32) own.1 src (by omega) (fun A' c' u4 o4 k4 _ => ?_) (by omega) (rowC_one _); refine ret1 (.slice A' (m + n1) c') rfl ⟨A', m + n1, c', rfl, ?_, ?_⟩
    · rw [← hdone]
      have e : rowC (done ++ rest) = rowC done ++ rowC rest := by unfold rowC; exact List.flatMap_append
      rw [e]; exact o4
    · rw [← hdone]; exact own.2.app hrw
theorem c_mrows {A : Option Addr} {n c : Nat} : CallZ Tryz.prog 81 #[.slice A n c] w (fun v w' => ∃ b, v = .func (.func 136) #[] #[ptr b] ∧ Ext w w' ∧ Blk w' b 41 [.slice A n c] ∧ w.heap.size ≤ b) := by
  refine fn_rule (args := [.slice A n c]) Tryz.func81 (by kernel_rfl) ?_; refine box (fun b w1 h1 => ?_); have e := h1.at_; exact ret1 (.func (.func 136) #[] #[ptr b]) rfl ⟨b, rfl, h1.ext, h1.blk, by omega⟩
end
end Go.Proofs.YtehcphboliofaaaGreatDoor
