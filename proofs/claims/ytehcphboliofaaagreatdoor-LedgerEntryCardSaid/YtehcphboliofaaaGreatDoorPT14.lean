/- Parts of the proof: M4 M6 M5 M7 M8 M9. -/
import Derived.Test.YtehcphboliofaaaGreatDoorPT13
import Derived.Test.YtehcphboliofaaaGreatDoorPT12

/- Layer 5: lists of texts compared; generations. -/
namespace Go.Proofs.YtehcphboliofaaaGreatDoor
open Go Go.RowKit

section
variable {D D2 : Nat → Prop} {w : World}
theorem c_equalB {A B : Option Addr} {n c m d : Nat} {a b : List Nat} (hs : SlR tU8 D w A n a) (ht : SlR tU8 D2 w B m b) : CallZ Tryz.prog 61 #[.slice A n c, .slice B m d] w (fun v w' => v = .bool (decide (a = b)) ∧ w' = w) := by
  have l1 := hs.len
  have l2 := ht.len
  have hle := hs.le
  refine fn_rule (args := [.slice A n c, .slice B m d]) Tryz.func61 (by kernel_rfl) ?_
  refine len ?_
  refine len ?_
  refine cN (fun h => ?_) (fun h => ?_)
  · exact ret1 (.bool false) rfl ⟨by rw [decide_eq_false (fun e => h (by rw [← l1, ← l2, e]))], rfl⟩
  have hnm : n = m := by omega
  subst hnm
  refine len ?_
  refine loop_rule (fun k : Nat => [(13, iv (k : Int))]) (fun k u => k ≤ n ∧ w = u ∧ a.take k = b.take k) (fun k _ => n - k) 0 ⟨rfl, trivial⟩ ⟨by omega, rfl, rfl⟩ rfl ?_
  rintro G k u ⟨hk, rfl, he⟩
  refine cD (fun hlt => ?_) (fun hge => ?_)
  · obtain ⟨b1, o1, cs1, x, rfl, hx, -, -, hc1, rfl, -⟩ := hs.at_ (k := k) (by omega)
    obtain ⟨b2, o2, cs2, y, rfl, hy, -, -, hc2, rfl, -⟩ := ht.at_ (k := k) (by omega)
    refine drawP (.take 0 (.take 1 (.take 2 (.take 3 (.take 4 (.take 5 (.take 6 (.take 7 (.take 8 .done))))))))) [] (fun y => y = w) mx (by kernel_rfl) rfl ?_
    refine idx k rfl (by omega) ?_
    refine ld (uv8 x) (hc1 0 _ rfl) ?_
    refine idx k rfl (by omega) ?_
    refine ld (uv8 y) (hc2 0 _ rfl) ?_
    refine cN (fun hne => ?_) (fun heq => ?_)
    · exact ret1 (.bool false) rfl ⟨by rw [decide_eq_false (fun e => hne (by subst e; rw [hx] at hy; injection hy with h; rw [h]))], rfl⟩
    · refine arI (n := (k : Int) + 1) (by omega) ?_
      refine next (k + 1) ⟨by rw [Int.natCast_add]; rfl, trivial⟩ ⟨by omega, rfl, ?_⟩ (by omega)
      have hxy : x = y := by omega
      rw [List.take_add_one, List.take_add_one, hx, hy, he, hxy]
  · rw [List.take_of_length_le (by omega), List.take_of_length_le (by omega)] at he
    exact ret1 (.bool true) rfl ⟨by rw [decide_eq_true he], rfl⟩
/-- Lists of texts compared by a function that tells whether texts are equal. -/
theorem c_equalFB {f : FuncId} [hf : Enters Tryz.prog f] {A B : Option Addr} {n c m d : Nat} {a b : List (List Nat)} (hs : SlR (tSl tU8) D w A n a) (ht : SlR (tSl tU8) D2 w B m b)
    (heq : ∀ {A B : Option Addr} {n c m d : Nat} {x y : List Nat}, SlR tU8 D w A n x → SlR tU8 D2 w B m y → CallZ Tryz.prog f #[.slice A n c, .slice B m d] w (fun v w' => v = .bool (decide (x = y)) ∧ w' = w)) :
    CallZ Tryz.prog 60 #[.slice A n c, .slice B m d, .func (.func f) #[] #[]] w (fun v w' => v = .bool (decide (a = b)) ∧ w' = w) := by
  have l1 := hs.len
  have l2 := ht.len
  have hle := hs.le
  refine fn_rule (args := [.slice A n c, .slice B m d, .func (.func f) #[] #[]]) Tryz.func60 (by kernel_rfl) ?_
  refine len ?_
  refine len ?_
  refine cN (fun h => ?_) (fun h => ?_)
  · exact ret1 (.bool false) rfl ⟨by rw [decide_eq_false (fun e => h (by rw [← l1, ← l2, e]))], rfl⟩
  have hnm : n = m := by omega
  subst hnm
  refine len ?_
  refine loop_rule (fun k : Nat => [(17, iv (k : Int))]) (fun k u => k ≤ n ∧ w = u ∧ a.take k = b.take k) (fun k _ => n - k) 0 ⟨rfl, trivial⟩ ⟨by omega, rfl, rfl⟩ rfl ?_
  rintro G k u ⟨hk, rfl, he⟩
  refine cD (fun hlt => ?_) (fun hge => ?_)
  · obtain ⟨b1, o1, cs1, x, rfl, hx, -, -, hc1, A1, n1, c1, rfl, hs1, -⟩ := hs.at_ (k := k) (by omega)
    obtain ⟨b2, o2, cs2, y, rfl, hy, -, -, hc2, A2, n2, c2, rfl, hs2, -⟩ := ht.at_ (k := k) (by omega)
    refine idx k rfl (by omega) ?_
    refine ld (.slice A1 n1 c1) (hc1 0 _ rfl) ?_
    refine idx k rfl (by omega) ?_
    refine ld (.slice A2 n2 c2) (hc2 0 _ rfl) ?_
    refine callB (heq hs1 hs2) (fun hq => ?_) (fun hq => ?_)
    · refine arI (n := (k : Int) + 1) (by omega) ?_
      refine next (k + 1) ⟨by rw [Int.natCast_add]; rfl, trivial⟩ ⟨by omega, rfl, ?_⟩ (by omega)
      rw [List.take_add_one, List.take_add_one, hx, hy, he, of_decide_eq_true hq]
    · exact ret1 (.bool false) rfl ⟨by rw [decide_eq_false (fun e => (of_decide_eq_false hq) (by subst e; rw [hx] at hy; injection hy))], rfl⟩
  · rw [List.take_of_length_le (by omega), List.take_of_length_le (by omega)] at he
    exact ret1 (.bool true) rfl ⟨by rw [decide_eq_true he], rfl⟩
end
/-- The generation that is written next. -/
def genP (l : List (List Nat)) : Nat := l.foldl (fun g s => max g (max (genS s + 1) (getB (s.drop 124) + 1))) 1
theorem get_lt4 : ∀ (b : List Nat) (n k : Nat), n < 256 ^ k → b.length + k ≤ 8 → (∀ x ∈ b, x < 256) → b.foldl (fun n c => ((n <<< 8) % 18446744073709551616) ||| c) n < 256 ^ (k + b.length)
  | [], n, k, h, _, _ => h
  | x :: b, n, k, h, hk, hb => by
    rw [List.length_cons] at hk ⊢
    have hx := hb x List.mem_cons_self
    have e : 256 ^ (k + 1) = 2 ^ (8 * (k + 1)) := by rw [Nat.pow_mul]
    have h1 : (n <<< 8) % 18446744073709551616 < 256 ^ (k + 1) := by
      refine Nat.lt_of_le_of_lt (Nat.mod_le _ _) ?_
      rw [Nat.shiftLeft_eq, Nat.pow_succ]
      omega
    have h2 : x < 256 ^ (k + 1) := Nat.lt_of_lt_of_le hx (by rw [Nat.pow_succ]; have := Nat.one_le_pow k 256 (by omega); omega)
    have := get_lt4 b (((n <<< 8) % 18446744073709551616) ||| x) (k + 1) (by rw [e] at h1 h2 ⊢; exact Nat.or_lt_two_pow h1 h2) (by omega) fun y hy => hb y (List.mem_cons_of_mem _ hy)
    rw [show k + (b.length + 1) = k + 1 + b.length by omega]
    exact this
theorem get4 {b : List Nat} (h : ∀ x ∈ b, x < 256) (hl : b.length ≤ 4) : getB b < 4294967296 := by
  have := get_lt4 b 0 0 (by omega) (by omega) h
  unfold getB
  refine Nat.lt_of_lt_of_le this ?_
  rw [Nat.zero_add]
  exact Nat.le_trans (Nat.pow_le_pow_right (by omega) hl) (by decide)
end Go.Proofs.YtehcphboliofaaaGreatDoor

/- Layer 5: sectors that are written are read again, plainly. -/
namespace Go.Proofs.YtehcphboliofaaaGreatDoor
open Go Go.RowKit

/-- The writes of the records T, each in one sector, from a place on. -/
def wrL (g : Nat) : Nat → List (List Nat) → List Wr
  | _, [] => []
  | i, b :: t => ⟨i, encB g i 3 b⟩ :: wrL g (i + 1) t
theorem wrL_snoc (g : Nat) : ∀ (i : Nat) (t : List (List Nat)) (b : List Nat), wrL g i (t ++ [b]) = wrL g i t ++ [⟨((i + t.length : Nat) : Int), encB g (i + t.length) 3 b⟩]
  | i, [], b => rfl
  | i, x :: t, b => by
    rw [List.cons_append, wrL, wrL, wrL_snoc g (i + 1) t b, List.length_cons, show i + 1 + t.length = i + (t.length + 1) by omega]; rfl
theorem wrL_len (g : Nat) : ∀ (i : Nat) (t : List (List Nat)), (wrL g i t).length = t.length
  | _, [] => rfl
  | i, b :: t => by rw [wrL, List.length_cons, wrL_len g (i + 1) t, List.length_cons]
theorem wrL_mem {g : Nat} : ∀ {i : Nat} {t : List (List Nat)} {w : Wr}, w ∈ wrL g i t → ∃ j b, b ∈ t ∧ (i ≤ j ∧ j < i + t.length) ∧ w = ⟨((j : Nat) : Int), encB g j 3 b⟩
  | i, [], w, h => by cases h
  | i, x :: t, w, h => by
    rcases List.mem_cons.1 h with rfl | h
    · exact ⟨i, x, List.mem_cons_self, ⟨Nat.le_refl _, by rw [List.length_cons]; omega⟩, rfl⟩
    · obtain ⟨j, b, h1, h2, h3⟩ := wrL_mem h
      exact ⟨j, b, List.mem_cons_of_mem _ h1, ⟨by omega, by rw [List.length_cons]; omega⟩, h3⟩
theorem get_step {n c : Nat} (h : n < 72057594037927936) (hc : c < 256) : ((n <<< 8) % 18446744073709551616) ||| c = n * 256 + c := by
  have e : n <<< 8 = n * 256 := by rw [Nat.shiftLeft_eq]
  have := Nat.shiftLeft_add_eq_or_of_lt (a := n) (b := c) (i := 8) (by omega)
  rw [Nat.mod_eq_of_lt (by rw [e]; omega), ← this, e]
theorem beB4 (g : Nat) : beB 4 g = [g / 16777216 % 256, g / 65536 % 256, g / 256 % 256, g % 256] := by
  unfold beB
  simp [List.range_succ, Nat.shiftRight_eq_div_pow]
theorem getB_be4 {g : Nat} (h : g < 4294967296) : getB (beB 4 g) = g := by
  rw [beB4]
  unfold getB
  simp only [List.foldl]
  rw [get_step (n := 0) (c := g / 16777216 % 256) (by omega) (by omega), get_step (n := 0 * 256 + g / 16777216 % 256) (c := g / 65536 % 256) (by omega) (by omega), get_step (n := (0 * 256 + g / 16777216 % 256) * 256 + g / 65536 % 256) (c := g / 256 % 256) (by omega) (by omega), get_step (n := ((0 * 256 + g / 16777216 % 256) * 256 + g / 65536 % 256) * 256 + g / 256 % 256) (c := g % 256) (by omega) (by omega)]
  omega
theorem encB_sp (g num kind : Nat) (b : List Nat) : encB g num kind b = (beB 4 g ++ (beB 4 (crcL (bodyB num kind b)) ++ beB 2 num)) ++ (kind :: b.length :: (b ++ (List.replicate (112 - b.length) 0 ++ beB 4 g))) := by
  rw [encB]
  generalize crcL (bodyB num kind b) = k
  unfold bodyB
  simp only [List.append_assoc, List.cons_append, List.nil_append]
theorem encB_t4 (g num kind : Nat) (b : List Nat) : (encB g num kind b).take 4 = beB 4 g := by
  unfold encB
  exact List.take_left' (beB_len 4 g)
theorem encB_hd_len (g num kind : Nat) (b : List Nat) : (beB 4 g ++ (beB 4 (crcL (bodyB num kind b)) ++ beB 2 num)).length = 10 := by
  simp only [List.length_append, beB_len]
theorem encB_10 (g num kind : Nat) (b : List Nat) : at8 (encB g num kind b) 10 = kind := by
  rw [encB_sp]
  unfold at8
  rw [List.getD_eq_getElem?_getD, List.getElem?_append_right (by rw [encB_hd_len]; omega), encB_hd_len]
  rfl
theorem encB_11 (g num kind : Nat) (b : List Nat) : at8 (encB g num kind b) 11 = b.length := by
  rw [encB_sp]
  unfold at8
  rw [List.getD_eq_getElem?_getD, List.getElem?_append_right (by rw [encB_hd_len]; omega), encB_hd_len]
  rfl
theorem encB_pc (g num kind : Nat) (b : List Nat) : ((encB g num kind b).drop 12).take b.length = b := by
  rw [encB_sp, List.drop_append, List.drop_of_length_le (by rw [encB_hd_len]; omega), encB_hd_len, List.nil_append]
  show (b ++ _).take b.length = b
  exact List.take_left' rfl
theorem encB_d124 {g num kind : Nat} {b : List Nat} (h : b.length ≤ 112) : (encB g num kind b).drop 124 = beB 4 g := by
  unfold encB
  have h1 : (beB 4 g ++ (beB 4 (crcL (bodyB num kind b)) ++ bodyB num kind b)).length = 124 := by
    simp only [List.length_append, beB_len, bodyB_len h]
  rw [show beB 4 g ++ (beB 4 (crcL (bodyB num kind b)) ++ (bodyB num kind b ++ beB 4 g)) = (beB 4 g ++ (beB 4 (crcL (bodyB num kind b)) ++ bodyB num kind b)) ++ beB 4 g by simp only [List.append_assoc]]
  exact List.drop_left' h1
theorem genS_enc {g num kind : Nat} {b : List Nat} (h : g < 4294967296) : genS (encB g num kind b) = g := by
  unfold genS
  rw [encB_t4, getB_be4 h]
theorem good_enc {g num : Nat} {b : List Nat} (hg : 0 < g ∧ g < 4294967296) (hb : b.length ≤ 112) : goodP (encB g num 3 b) num := by
  refine ⟨by rw [encB_11]; exact hb, by rw [encB_10]; omega, ?_, ?_, ?_, ?_⟩
  · rw [encB_10]; rintro ⟨h, -⟩; cases h
  · rw [encB_10]; rintro ⟨h, -⟩; cases h
  · rw [encB_t4, getB_be4 hg.2]; exact hg.1
  · rw [encB_t4, getB_be4 hg.2, encB_10, encB_11, encB_pc]
theorem good_end {s : List Nat} {n : Nat} (hl : s.length = 128) (hb : ∀ x ∈ s, x < 256) (h : goodP s n) : getB (s.drop 124) = genS s := by
  have h6 := h.2.2.2.2.2
  have hp : ((s.drop 12).take (at8 s 11)).length ≤ 112 := by rw [List.length_take]; have := h.1; omega
  have hd : s.drop 124 = beB 4 (genS s) := by
    rw [h6, encB_d124 hp]
    unfold genS
    rw [encB_t4, getB_be4]
    exact get4 (fun x hx => hb x (List.mem_of_mem_take hx)) (by rw [List.length_take]; omega)
  rw [hd, getB_be4]
  exact get4 (fun x hx => hb x (List.mem_of_mem_take hx)) (by rw [List.length_take]; omega)
theorem recG_enc {g n last : Nat} {t : List Nat} {r : List (List Nat)} (hg : 0 < g ∧ g < 4294967296) (hb : t.length ≤ 112) (hl : last ≤ g) : recG (encB g n 3 t :: r) n none last = (n + 1, t) :: recG r (n + 1) none g := by
  have hs : secOk (encB g n 3 t) n none last := ⟨good_enc hg hb, ⟨fun _ => rfl, fun _ => by rw [encB_10]; decide⟩, rfl, by rw [genS_enc hg.2]; exact hl⟩
  rw [recG, if_pos hs, if_pos (by rw [encB_10]; decide), genS_enc hg.2]
  unfold pieceB curB
  rw [encB_11, encB_pc]
  rfl
theorem recG_low {s : List Nat} {n last : Nat} {r : List (List Nat)} (h : genS s < last) : recG (s :: r) n none last = [] := by
  rw [recG, if_neg (fun q => by have := q.2.2.2; omega)]
theorem recG_bad {s : List Nat} {n last : Nat} {cur : Option (Nat × List Nat)} {r : List (List Nat)} (h : ¬ goodP s n) : recG (s :: r) n cur last = [] := by
  rw [recG, if_neg (fun q => h q.1)]
/-- Sectors that hold texts, one each, and nothing behind. -/
def Hd : List (List Nat) → Nat → Nat → List (List Nat) → Prop
  | secs, n, last, [] => recG secs n none last = []
  | secs, n, last, t :: ts => ∃ g r, secs = encB g n 3 t :: r ∧ last ≤ g ∧ 0 < g ∧ g < 4294967296 ∧ Hd r (n + 1) g ts
def TxOk (ts : List (List Nat)) : Prop := ∀ t ∈ ts, t.length ≤ 112 ∧ ∀ x ∈ t, x < 256
theorem Hd.recs : ∀ {ts secs : List (List Nat)} {n last : Nat}, Hd secs n last ts → TxOk ts → (recG secs n none last).map (·.2) = ts
  | [], _, _, _, h, _ => by rw [show recG _ _ none _ = [] from h]; rfl
  | t :: ts, _, n, last, ⟨g, r, h1, h2, h3, h4, h5⟩, hok => by
    subst h1
    rw [recG_enc ⟨h3, h4⟩ (hok t List.mem_cons_self).1 h2, List.map_cons, h5.recs fun x hx => hok x (List.mem_cons_of_mem _ hx)]
theorem Hd.le : ∀ {ts secs : List (List Nat)} {n last : Nat}, Hd secs n last ts → ts.length ≤ secs.length
  | [], _, _, _, _ => Nat.zero_le _
  | t :: ts, _, n, last, ⟨g, r, h1, h2, h3, h4, h5⟩ => by
    subst h1
    have := h5.le
    rw [List.length_cons, List.length_cons]; omega
/-- The sectors of new texts. -/
def encsL (g : Nat) : Nat → List (List Nat) → List (List Nat)
  | _, [] => []
  | i, t :: ts => encB g i 3 t :: encsL g (i + 1) ts
theorem encsL_len (g : Nat) : ∀ (i : Nat) (ts : List (List Nat)), (encsL g i ts).length = ts.length
  | _, [] => rfl
  | i, t :: ts => by rw [encsL, List.length_cons, encsL_len g (i + 1) ts, List.length_cons]
theorem Hd.sub {G : Nat} : ∀ {ts secs C ts' : List (List Nat)} {n last : Nat}, Hd secs n last ts → last ≤ G → (∀ s ∈ secs, genS s ≤ G) → (∀ l', l' ≤ G → Hd C (n + ts.length) l' ts') → Hd (secs.take ts.length ++ C) n last (ts ++ ts')
  | [], _, _, _, _, _, _, hl, _, h => by simpa using h _ hl
  | t :: ts, _, C, ts', n, last, ⟨g, r, h1, h2, h3, h4, h5⟩, _, hG, h => by
    subst h1
    have hg := hG _ List.mem_cons_self
    rw [genS_enc h4] at hg
    refine ⟨g, r.take ts.length ++ C, rfl, h2, h3, h4, h5.sub hg (fun s hs => hG s (List.mem_cons_of_mem _ hs)) fun l' hl' => ?_⟩
    have := h l' hl'
    rwa [List.length_cons, show n + (ts.length + 1) = n + 1 + ts.length by omega] at this
theorem Hd.new {gen : Nat} (hg : 0 < gen ∧ gen < 4294967296) {rest : List (List Nat)} : ∀ {ts : List (List Nat)} {i l' : Nat}, l' ≤ gen → (ts = [] → recG rest i none l' = []) → recG rest (i + ts.length) none gen = [] → Hd (encsL gen i ts ++ rest) i l' ts
  | [], _, _, _, h, _ => h rfl
  | t :: ts, i, l', hl, _, h => by
    have h2 : recG rest (i + 1 + ts.length) none gen = [] := by rwa [List.length_cons, show i + (ts.length + 1) = i + 1 + ts.length by omega] at h
    exact ⟨gen, encsL gen (i + 1) ts ++ rest, rfl, hl, hg.1, hg.2, Hd.new hg (Nat.le_refl _) (fun e => by subst e; exact h2) h2⟩
theorem perf_wr {g : Nat} : ∀ (ts : List (List Nat)) (i : Nat) (secs : List (List Nat)), i + ts.length ≤ secs.length → perfP secs (wrL g i ts) = secs.take i ++ (encsL g i ts ++ secs.drop (i + ts.length))
  | [], i, secs, _ => by show secs = _; rw [encsL, List.nil_append, List.length_nil, Nat.add_zero, List.take_append_drop]
  | t :: ts, i, secs, h => by
    rw [List.length_cons] at h
    have ih := perf_wr (g := g) ts (i + 1) (secs.set i (encB g i 3 t)) (by rw [List.length_set]; omega)
    show perfP (secs.set (((i : Nat) : Int)).toNat (encB g i 3 t)) (wrL g (i + 1) ts) = _
    rw [Int.toNat_natCast, ih, encsL, List.length_cons, List.take_add_one, List.getElem?_set_self (by omega), List.take_set_of_le (Nat.le_refl _), List.drop_set_of_lt (by omega), show i + 1 + ts.length = i + (ts.length + 1) by omega]
    simp
theorem recG_lowL {l : List (List Nat)} {n last : Nat} (h : ∀ s ∈ l, genS s < last) : recG l n none last = [] := by
  cases l with
  | nil => rfl
  | cons s r => exact recG_low (h s List.mem_cons_self)
/-- All of the new texts have been written. -/
theorem Hd.all {gen : Nat} {secs ts ts' : List (List Nat)} (h : Hd secs 0 0 ts) (hg : 0 < gen ∧ gen < 4294967296) (hG : ∀ s ∈ secs, genS s < gen) (hl : ts.length + ts'.length ≤ secs.length) : Hd (perfP secs (wrL gen ts.length ts')) 0 0 (ts ++ ts') := by
  cases ts' with
  | nil => rw [List.append_nil]; exact h
  | cons t ts' =>
    rw [perf_wr _ _ _ hl]
    refine h.sub (G := gen) (Nat.zero_le _) (fun s hs => Nat.le_of_lt (hG s hs)) fun l' hl' => ?_
    rw [Nat.zero_add]
    refine Hd.new hg hl' (fun e => by cases e) (recG_lowL fun s hs => hG s (List.mem_of_mem_drop hs))
/-- The sector at which a disk has stopped is no good one. -/
theorem torn_bad {gen num k n : Nat} {t old : List Nat} (hg : gen < 4294967296) (ht : t.length ≤ 112 ∧ ∀ x ∈ t, x < 256) (ho : old.length = 128 ∧ ∀ x ∈ old, x < 256) (hk : k < 256) (hlow : getB (old.drop 124) < gen) : ¬ goodP ((encB gen num k t).take 64 ++ old.drop 64) n := fun h => by
  have he := encB_len (g := gen) (num := num) (kind := k) ht.1
  have hl : ((encB gen num k t).take 64 ++ old.drop 64).length = 128 := by rw [List.length_append, List.length_take, List.length_drop, he]; omega
  have hb : ∀ x ∈ (encB gen num k t).take 64 ++ old.drop 64, x < 256 := fun x hx => by
    rcases List.mem_append.1 hx with hx | hx
    · exact encB_lt ht.1 hk ht.2 x (List.mem_of_mem_take hx)
    · exact ho.2 x (List.mem_of_mem_drop hx)
  have h1 := good_end hl hb h
  have e1 : ((encB gen num k t).take 64 ++ old.drop 64).drop 124 = old.drop 124 := by
    rw [List.drop_append, List.drop_of_length_le (by rw [List.length_take]; omega), List.length_take, he, List.nil_append, List.drop_drop]
    rfl
  have e2 : genS ((encB gen num k t).take 64 ++ old.drop 64) = gen := by
    unfold genS
    rw [List.take_append_of_le_length (by rw [List.length_take, he]; omega), List.take_take, show min 4 64 = 4 from rfl, encB_t4, getB_be4 hg]
  rw [e1, e2] at h1
  omega
theorem Hd.torn {gen : Nat} {secs ts ts' : List (List Nat)} {s : List Nat} (h : Hd secs 0 0 ts) (hg : 0 < gen ∧ gen < 4294967296) (hG : ∀ s ∈ secs, genS s < gen) (hl : ts.length + ts'.length < secs.length) (hs : ∀ n, ¬ goodP s n) : Hd ((perfP secs (wrL gen ts.length ts')).set (ts.length + ts'.length) s) 0 0 (ts ++ ts') := by
  rw [perf_wr _ _ _ (by omega)]
  have hlen : (secs.take ts.length).length = ts.length := by rw [List.length_take]; omega
  rw [List.set_append_right _ _ (by omega), hlen, Nat.add_sub_cancel_left, List.set_append_right _ _ (by rw [encsL_len]; exact Nat.le_refl _), encsL_len, Nat.sub_self, List.drop_eq_getElem_cons (by omega), List.set_cons_zero]
  refine h.sub (G := gen) (Nat.zero_le _) (fun s hs => Nat.le_of_lt (hG s hs)) fun l' hl' => ?_
  rw [Nat.zero_add]
  exact Hd.new hg hl' (fun _ => recG_bad (hs _)) (recG_bad (hs _))
theorem genP_lt {l : List (List Nat)} : (∀ s ∈ l, genS s < genP l ∧ getB (s.drop 124) < genP l) ∧ 0 < genP l := by
  have key : ∀ (l : List (List Nat)) (g : Nat), 0 < g → g ≤ l.foldl (fun g s => max g (max (genS s + 1) (getB (s.drop 124) + 1))) g ∧ ∀ s ∈ l, genS s < l.foldl (fun g s => max g (max (genS s + 1) (getB (s.drop 124) + 1))) g ∧ getB (s.drop 124) < l.foldl (fun g s => max g (max (genS s + 1) (getB (s.drop 124) + 1))) g := by
    intro l
    induction l with
    | nil => intro g _; exact ⟨Nat.le_refl _, fun s hs => by cases hs⟩
    | cons x l ih =>
      intro g hg
      obtain ⟨h1, h2⟩ := ih (max g (max (genS x + 1) (getB (x.drop 124) + 1))) (by omega)
      refine ⟨by rw [List.foldl_cons]; omega, fun s hs => ?_⟩
      rw [List.foldl_cons]
      rcases List.mem_cons.1 hs with rfl | hs
      · omega
      · exact h2 s hs
  obtain ⟨h1, h2⟩ := key l 1 (by omega)
  exact ⟨h2, h1⟩
theorem genP_le2 {l : List (List Nat)} {m : Nat} (hm : 1 ≤ m) (h : ∀ s ∈ l, genS s < m ∧ getB (s.drop 124) < m) : genP l ≤ m := by
  have key : ∀ (l : List (List Nat)) (g : Nat), g ≤ m → (∀ s ∈ l, genS s < m ∧ getB (s.drop 124) < m) → l.foldl (fun g s => max g (max (genS s + 1) (getB (s.drop 124) + 1))) g ≤ m := by
    intro l
    induction l with
    | nil => intro g h _; exact h
    | cons x l ih =>
      intro g hg h
      refine ih _ ?_ fun s hs => h s (List.mem_cons_of_mem _ hs)
      have := h x List.mem_cons_self
      show max g (max (genS x + 1) (getB (x.drop 124) + 1)) ≤ m
      omega
  exact key l 1 hm h
end Go.Proofs.YtehcphboliofaaaGreatDoor

/- Layer 5: Sync, for what Store gives it. -/
namespace Go.Proofs.YtehcphboliofaaaGreatDoor
open Go Go.RowKit

theorem genP_snoc (l : List (List Nat)) (s : List Nat) : genP (l ++ [s]) = max (genP l) (max (genS s + 1) (getB (s.drop 124) + 1)) := by unfold genP; rw [List.foldl_append]; rfl
theorem genP_le {l : List (List Nat)} (h : ∀ s ∈ l, s.length = 128 ∧ ∀ x ∈ s, x < 256) : genP l ≤ 4294967296 := by
  have key : ∀ (l : List (List Nat)) (g : Nat), g ≤ 4294967296 → (∀ s ∈ l, s.length = 128 ∧ ∀ x ∈ s, x < 256) → l.foldl (fun g s => max g (max (genS s + 1) (getB (s.drop 124) + 1))) g ≤ 4294967296 := by
    intro l
    induction l with
    | nil => intro g h _; exact h
    | cons s l ih =>
      intro g hg h
      refine ih _ ?_ fun x hx => h x (List.mem_cons_of_mem _ hx)
      obtain ⟨h1, h2⟩ := h s List.mem_cons_self
      have a := get4 (b := s.take 4) (fun x hx => h2 x (List.mem_of_mem_take hx)) (by rw [List.length_take]; omega)
      have b := get4 (b := s.drop 124) (fun x hx => h2 x (List.mem_of_mem_drop hx)) (by rw [List.length_drop]; omega)
      show max g (max (getB (s.take 4) + 1) (getB (s.drop 124) + 1)) ≤ 4294967296
      omega
  exact key l 1 (by omega) h
def mx3 (a b c : Int) : Int := if c > (if b > a then b else a) then c else (if b > a then b else a)
theorem mx3_eq (a b c : Nat) : mx3 a b c = ((max a (max b c) : Nat) : Int) := by unfold mx3; split <;> split <;> omega
theorem max3P {P : Program} {o : Oper} {c : Call} {F : Fr} {K : Value → Prop} {k : IntKind} {x y z : Int} (he : o.op = .call c) (hc : c.callee = .builtin .max) (hargs : c.args.toList.map (ev F) = [.int k x, .int k y, .int k z]) (kk : K (.int k (mx3 x y z))) : PureP P (execOp (ev F) o) K := by
  rw [PureP_eq, exec_builtin F o c _ he hc, args_list hargs]
  exact pure_vval (s := Builtin.max_ c.argTypes o.type #[.int k x, .int k y, .int k z]) (fun w => rfl) kk
theorem usedN_app (a : List (List Nat)) : ∀ b : List (List Nat), usedN a + b.length ≤ usedN (a ++ b) := by
  intro b
  unfold usedN
  rw [List.map_append, List.sum_append]
  have : b.length ≤ (b.map secN).sum := by
    induction b with
    | nil => simp
    | cons x b ih =>
      have : 1 ≤ secN x := by unfold secN; omega
      rw [List.length_cons, List.map_cons, List.sum_cons]; omega
  omega
/-- What Sync brings about. -/
noncomputable def syncJ (d : Dsk) (R T : List (List Nat)) : Dsk × Int := if 4294967296 ≤ genP d.secs then (zeroD, 50) else if T = [] then (d, 0) else syncP ⟨d.secs, wrL (genP d.secs) (usedN R) T, d.left, d.stop⟩
theorem DskR.kept {D D' : Nat → Prop} {w w' : World} {cs : List Value} {d : Dsk} (h : DskR D w cs d) (k : Kept D' w w') (hd : ∀ b, b < w.heap.size → D b → D' b) : DskR D w' cs d :=
  let ⟨A, n, c, B, m, c2, h1, h2, h3, h4, h5⟩ := h.ex; ⟨A, n, c, B, m, c2, h1, h2.kept k hd, h3, h4.kept k hd, h5⟩
section
variable {D : Nat → Prop} {w : World}
set_option maxRecDepth 8000 in
set_option maxHeartbeats 4000000 in
theorem c_jSync {d : Dsk} {csd csj : List Value} {R T : List (List Nat)} (hd : DskR D w csd d) (hj : JrnR (fun _ => True) w csj ⟨R ++ T, d.secs.length, R.length⟩) (hok : okD d) (hst : d.stop = false) (hpe : d.pend = [])
    (hR : R = recsD d.secs) (hsm : SmallJ (R ++ T)) (hus : usedN (R ++ T) ≤ d.secs.length) (hT : ∀ b ∈ T, b.length ≤ 112) :
    CallZ Tryz.prog 63 #[.agg csj.toArray, .agg csd.toArray] w (fun v w' => ∃ (cj cs : List Value), v = .tuple #[.agg cj.toArray, .agg cs.toArray, iv (syncJ d R T).2] ∧ DskR (fun b => D b ∨ w.heap.size ≤ b) w' cs (syncJ d R T).1 ∧ Ext w w') := by
  obtain ⟨A, n, c, B, m, c2, rfl, hs, hc, hp, hc2, hId⟩ := hd.ex
  obtain ⟨AJ, nJ, cJ, rfl, hsJ, hcJ, -, -⟩ := hj.ex
  have ln := hs.len
  have lJ := hsJ.len
  have k1 := hok.1
  have k2 := hok.2.1
  have k7 := hok.2.2.2.2.2.2
  have hs0 := hs.more (D' := fun b => D b ∧ b < w.heap.size) (by decide) fun b hb h => ⟨h, hb⟩
  have hsJ0 := hsJ.more (D' := fun b => b < w.heap.size) (by decide) fun b hb _ => hb
  have hlJ : nJ = R.length + T.length := by have := lJ; rw [List.length_append] at this; omega
  have hjE : jE ⟨R ++ T, d.secs.length, R.length⟩ = 0 := by
    unfold jE
    rw [if_neg]
    simp only [List.length_append]
    omega
  have hop : openP d = (⟨R, d.secs.length, R.length⟩, 0) := by
    unfold openP
    rw [if_neg (fun q => q hok), if_neg (by rw [hst]; decide), if_neg (by rw [hpe]; simp), ← hR]
  refine fn_rule (args := [.agg #[.slice AJ nJ cJ, iv (d.secs.length : Int), iv (R.length : Int)], .agg #[.slice A n c, .slice B m c2, iv d.left, .bool d.stop]]) Tryz.func63 (by kernel_rfl) ?_
  refine box (fun g2 w1 h1 => ?_)
  have J1 : Blk w1 g2 108 [.slice AJ nJ cJ, iv (d.secs.length : Int), iv (R.length : Int)] := h1.blk
  refine box (fun g3 w2 h2 => ?_)
  have G2 : Blk w2 g3 44 [.slice A n c, .slice B m c2, iv d.left, .bool d.stop] := h2.blk
  refine alloc (fun b4 w3 h3 => ?_)
  have RJ3 : Blk w3 b4 108 zeroJC := h3.blk
  refine alloc (fun b5 w4 h4 => ?_)
  have RD4 : Blk w4 b5 44 zeroDC := h4.blk
  have e1 := h1.at_
  have e2 := h2.at_
  have e3 := h3.at_
  have e4 := h4.at_
  have x14 := (h2.ext.trans h3.ext).trans h4.ext
  have x04 := h1.ext.trans x14
  have s1 := h1.ext.size
  have s2 := h2.ext.size
  have s3 := h3.ext.size
  have l1 := J1.lt
  have l2 := G2.lt
  have l3 := RJ3.lt
  have l4 := RD4.lt
  have J4 := J1.ext x14
  have G4 := G2.ext (h3.ext.trans h4.ext)
  have RJ4 := RJ3.ext h4.ext
  refine ldA [.slice AJ nJ cJ, iv (d.secs.length : Int), iv (R.length : Int)] (.blk J4) rfl ?_
  refine call_of (c_jCheck (hj.ext x04) hsm) ?_
  rintro _ w5 ⟨rfl, x5⟩
  rw [hjE]
  refine cN (fun h => absurd rfl h) (fun _ => ?_)
  refine ldA [.slice A n c, .slice B m c2, iv d.left, .bool d.stop] (.blk (G4.ext x5)) rfl ?_
  refine call_of (c_dCheck (hd.ext (x04.trans x5))) ?_
  rintro _ w6 ⟨rfl, x6⟩
  rw [dskE_0.2 hok]
  refine cN (fun h => absurd rfl h) (fun _ => ?_)
  have x46 := x5.trans x6
  have x06 := x04.trans x46
  have J6 := J4.ext x46
  have G6 := G4.ext x46
  refine fldA ?_
  refine ld (iv (d.secs.length : Int)) (J6.cell rfl) ?_
  refine fldA ?_
  refine ld (.slice A n c) (G6.cell rfl) ?_
  refine len ?_
  refine cN (fun h => absurd (show (d.secs.length : Int) = (n : Int) by omega) h) (fun _ => ?_)
  refine ldA [.slice A n c, .slice B m c2, iv d.left, .bool d.stop] (.blk G6) rfl ?_
  refine call_of (c_jOpen ((hd.ext x06).more fun _ _ _ => trivial)) ?_
  rintro _ w7 ⟨cs7, rfl, hj7, x7⟩
  rw [hop] at hj7 ⊢
  obtain ⟨A7, n7, c7, rfl, hs7, hc7, -, -⟩ := hj7.ex
  refine alloc (fun b9 w8 h8 => ?_)
  refine stA (vs := [.slice A7 n7 c7, iv (d.secs.length : Int), iv (R.length : Int)]) h8.blk rfl (Nat.le_of_ble_eq_true rfl) (by simp [Value.oneCell']) (fun w9 B9 k9 _ => ?_)
  have B9 : Blk w9 b9 108 [.slice A7 n7 c7, iv (d.secs.length : Int), iv (R.length : Int)] := B9
  have e8 := h8.at_
  have x79 : Ext w7 w9 := h8.ext.then k9 fun i hi _ e => by omega
  have x69 := x7.trans x79
  have x09 := x06.trans x69
  have J9 := J6.ext x69
  have G9 := G6.ext x69
  have l9 := ln
  refine cN (fun h => absurd rfl h) (fun _ => ?_)
  refine fldA ?_
  refine ld (.slice A n c) (G9.cell rfl) ?_
  refine len ?_
  have hs9 := hs.ext x09
  have hby : ∀ s ∈ d.secs, s.length = 128 ∧ ∀ x ∈ s, x < 256 := fun s hs' => by
    obtain ⟨k, hk⟩ := List.getElem?_of_mem hs'
    obtain ⟨bx, o, cs, x, -, hx, -, -, -, A2, n2, c2', -, hs2, -⟩ := hs.at_ (k := k) (by have := (List.getElem?_eq_some_iff.1 hk).1; omega)
    rw [hk] at hx
    injection hx with hx
    subst hx
    exact ⟨k7 s hs', hs2.u8b⟩
  refine loop_rule (fun k : Nat => [(10, uv64 (genP (d.secs.take k))), (59, iv (k : Int))]) (fun k u => k ≤ n ∧ u = w9) (fun k _ => n - k) 0 ⟨rfl, rfl, trivial⟩ ⟨by omega, rfl⟩ rfl ?_
  rintro G k u ⟨hk, hu⟩
  rw [hu]
  clear hu u
  refine cD (fun hlt => ?_) (fun hge => ?_)
  · obtain ⟨bx, o, cs, s, rfl, hx, -, -, hcx, A2, n2, c2', rfl, hs2, hc2'⟩ := hs9.at_ (k := k) (by omega)
    obtain ⟨h128, hb8⟩ := hby s (List.mem_of_getElem? hx)
    have hn2 : n2 = 128 := by have := hs2.len; omega
    subst hn2
    refine idx k rfl (by omega) ?_
    refine ld (.slice A2 128 c2') (hcx 0 _ rfl) ?_
    refine drawP (.take 0 (.take 1 (.take 2 (.take 3 (.take 4 (.take 5 (.take 6 (.take 7 (.take 8 (.take 9 (.take 10 .done))))))))))) [] (fun y => y = w9) mx (by kernel_rfl) rfl ?_
    refine slcR 0 4 hs2 hc2' rfl rfl (by omega) (by omega) rfl (fun A4 hA4 => ?_)
    have s4 := hA4 _ w9 hs2
    rw [List.drop_zero] at s4
    have g4 := get4 (b := s.take 4) (fun x hx => hb8 x (List.mem_of_mem_take hx)) (by rw [List.length_take]; omega)
    have g124 := get4 (b := s.drop 124) (fun x hx => hb8 x (List.mem_of_mem_drop hx)) (by rw [List.length_drop]; omega)
    refine callQ (fun y hy => by subst hy; exact c_jget s4) ?_
    refine add64 (a := getB (s.take 4)) (b := 1) (by omega) ?_
    refine slcR 124 128 hs2 hc2' rfl rfl (by omega) (by omega) rfl (fun A5 hA5 => ?_)
    have s5 := hA5 _ w9 hs2
    rw [List.take_of_length_le (by omega)] at s5
    refine callQ (fun y hy => by subst hy; exact c_jget s5) ?_
    refine add64 (a := getB (s.drop 124)) (b := 1) (by omega) ?_
    refine max3P (k := .u64) (x := ((genP (d.secs.take k) : Nat) : Int)) (y := ((getB (s.take 4) + 1 : Nat) : Int)) (z := ((getB (s.drop 124) + 1 : Nat) : Int)) rfl rfl rfl ?_
    refine arI (n := (k : Int) + 1) (by omega) ?_
    refine next (k + 1) ⟨?_, by rw [Int.natCast_add]; rfl, trivial⟩ ⟨by omega, rfl⟩ (by omega)
    have e : genP (d.secs.take (k + 1)) = max (genP (d.secs.take k)) (max (getB (s.take 4) + 1) (getB (s.drop 124) + 1)) := by
      rw [List.take_add_one, hx]
      exact genP_snoc _ _
    show Value.int .u64 (mx3 _ _ _) = uv64 (genP (d.secs.take (k + 1)))
    rw [mx3_eq, e]
  rw [show d.secs.take k = d.secs from List.take_of_length_le (by omega)]
  obtain ⟨gen, hgen⟩ : ∃ gen, gen = genP d.secs := ⟨_, rfl⟩
  have hgl := genP_le hby
  rw [← hgen] at hgl ⊢
  have hsJ9 := hsJ.ext x09
  have hs79 := hs7.ext x79
  refine drawP (.take 0 (.take 1 (.take 2 (.take 3 (.take 4 (.take 5 (.take 6 (.take 7 (.take 8 (.take 9 (.take 10 (.take 11 (.take 12 (.take 13 .done)))))))))))))) [] (fun y => y = w9) mx (by kernel_rfl) rfl ?_
  refine fldA ?_
  refine ld (.slice A7 n7 c7) (B9.cell rfl) ?_
  refine fldA ?_
  refine ld (.slice AJ nJ cJ) (J9.cell rfl) ?_
  refine fldA ?_
  refine ld (iv (R.length : Int)) (J9.cell rfl) ?_
  refine slcR 0 R.length hsJ9 hcJ rfl rfl (by omega) (by omega) rfl (fun A10 hA10 => ?_)
  have s10 := hA10 _ w9 hsJ9
  have e10 : ((R ++ T).take R.length).drop 0 = R := by simp
  rw [e10] at s10
  refine callQB (b := true) (fun y hy => by subst hy; exact (c_equalFB (f := 106) hs79 s10 (fun h1 h2 => c_bytesEq h1 h2)).mono (fun v w' h => ⟨by rw [h.1, decide_eq_true rfl], h.2⟩)) (fun _ => ?_) (fun h => by cases h)
  refine shr64 32 rfl (by omega) ?_
  have RJ9 := RJ4.ext (x46.trans x69)
  have RD9 := RD4.ext (x46.trans x69)
  have e32 : gen >>> 32 = gen / 4294967296 := Nat.shiftRight_eq_div_pow gen 32
  refine cN (fun hbig => ?_) (fun hbig => ?_)
  · refine bld zeroJC (by kernel_rfl) ?_
    refine bld zeroDC (by kernel_rfl) ?_
    refine stA (vs := zeroJC) RJ9 rfl (Nat.le_of_ble_eq_true rfl) (by simp [Value.oneCell']) (fun wa Ba ka _ => ?_)
    refine stA (vs := zeroDC) (RD9.kept ka (show b5 ≠ b4 by omega)) rfl (Nat.le_of_ble_eq_true rfl) (by simp [Value.oneCell']) (fun we Be ke _ => ?_)
    refine ret ?_
    refine resL (.agg (zeroJC).toArray) (holds_agg (.blk (Ba.kept ke (show b4 ≠ b5 by omega))) rfl) ?_
    refine resL (.agg (zeroDC).toArray) (holds_agg (.blk Be) rfl) ?_
    have hres : syncJ d R T = (zeroD, 50) := by unfold syncJ; rw [if_pos (by rw [← hgen]; omega)]
    rw [hres]
    exact ⟨zeroJC, zeroDC, rfl, zeroD_r, (x09.then ka fun i hi _ e => by omega).then ke fun i hi _ e => by omega⟩
  have hgen2 : ¬ 4294967296 ≤ genP d.secs := by rw [← hgen]; omega
  refine fldA ?_
  refine ld (iv (R.length : Int)) (J9.cell rfl) ?_
  refine fldA ?_
  refine ld (.slice AJ nJ cJ) (J9.cell rfl) ?_
  refine len ?_
  refine cE (fun heq => ?_) (fun hne => ?_)
  · have hT0 : T = [] := List.eq_nil_of_length_eq_zero (by omega)
    refine drawP (.take 0 (.take 1 (.eff 2 (.eff 3 (.take 4 .done))))) [] (fun y => Kept (fun i => i ≠ b4 ∧ i ≠ b5) w9 y) mx (by kernel_rfl) (.refl _ _) ?_
    refine ldAK [.slice AJ nJ cJ, iv (d.secs.length : Int), iv (R.length : Int)] (.blk J9) rfl (show g2 ≠ b4 ∧ g2 ≠ b5 by omega) (.refl _ _) ?_
    refine ldAK [.slice A n c, .slice B m c2, iv d.left, .bool d.stop] (.blk G9) rfl (show g3 ≠ b4 ∧ g3 ≠ b5 by omega) (.refl _ _) ?_
    refine stA (vs := [.slice AJ nJ cJ, iv (d.secs.length : Int), iv (R.length : Int)]) RJ9 rfl (Nat.le_of_ble_eq_true rfl) (by simp [Value.oneCell']) (fun wa Ba ka _ => ?_)
    refine strS (ka.weak fun i _ h => h.1) ?_
    refine stA (vs := [.slice A n c, .slice B m c2, iv d.left, .bool d.stop]) (RD9.kept ka (show b5 ≠ b4 by omega)) rfl (Nat.le_of_ble_eq_true rfl) (by simp [Value.oneCell']) (fun we Be ke _ => ?_)
    refine strS ((ka.weak fun i _ h => h.1).then ke fun i _ h => h.2) ?_
    refine ret ?_
    refine resL (.agg #[.slice AJ nJ cJ, iv (d.secs.length : Int), iv (R.length : Int)]) (holds_agg (.blk (Ba.kept ke (show b4 ≠ b5 by omega))) rfl) ?_
    refine resL (.agg #[.slice A n c, .slice B m c2, iv d.left, .bool d.stop]) (holds_agg (.blk Be) rfl) ?_
    have hres : syncJ d R T = (d, 0) := by unfold syncJ; rw [if_neg hgen2, if_pos hT0]
    have xe : Ext w we := (x09.then ka fun i hi _ e => by omega).then ke fun i hi _ e => by omega
    rw [hres]
    exact ⟨[.slice AJ nJ cJ, iv (d.secs.length : Int), iv (R.length : Int)], [.slice A n c, .slice B m c2, iv d.left, .bool d.stop], rfl, (hd.ext xe).more fun _ _ h => .inl h, xe⟩
  · have hsR : SmallJ R := ⟨by have := hsm.1; rw [List.length_append] at this; omega, fun b hb => hsm.2 b (List.mem_append_left _ hb)⟩
    refine fldA ?_
    refine ld (.slice AJ nJ cJ) (J9.cell rfl) ?_
    refine fldA ?_
    refine ld (iv (R.length : Int)) (J9.cell rfl) ?_
    refine slcR 0 R.length hsJ9 hcJ rfl rfl (by omega) (by omega) rfl (fun A11 hA11 => ?_)
    have s11 := hA11 _ w9 hsJ9
    rw [e10] at s11
    refine call_of (c_jused s11 hsR) ?_
    rintro _ wx ⟨rfl, hwx⟩
    rw [hwx]
    clear hwx wx
    refine fldA ?_
    refine ld (.slice AJ nJ cJ) (J9.cell rfl) ?_
    refine fldA ?_
    refine ld (iv (R.length : Int)) (J9.cell rfl) ?_
    refine slcR R.length nJ hsJ9 hcJ rfl rfl (by omega) (by omega) rfl (fun A12 hA12 => ?_)
    have e12 : ((R ++ T).take nJ).drop R.length = T := by rw [List.take_of_length_le (by rw [List.length_append]; omega), List.drop_left]
    have s12 : SlR (tSl tU8) (fun b => b < w.heap.size) w9 A12 (nJ - R.length) T := by
      have := hA12 _ w9 (hsJ0.ext x09)
      rwa [e12] at this
    have hnT : nJ - R.length = T.length := by omega
    have huT : usedN R + T.length ≤ d.secs.length := Nat.le_trans (usedN_app R T) hus
    have hsmT : T.length ≤ 100000 := by have := hsm.1; rw [List.length_append] at this; omega
    refine len ?_
    refine loop_rule (fun k : Nat => [(13, iv ((usedN R + k : Nat) : Int)), (110, iv (k : Int))]) (fun k u => k ≤ T.length ∧ Kept (fun i => i ≠ g3) w9 u ∧ ∃ cs, Blk u g3 44 cs ∧ DskR (fun i => (D i ∧ i < w.heap.size) ∨ w9.heap.size ≤ i) u cs ⟨d.secs, wrL gen (usedN R) (T.take k), d.left, d.stop⟩) (fun k _ => T.length - k) 0 ⟨rfl, rfl, trivial⟩ ⟨by omega, .refl _ _, _, G9, ?_⟩ rfl ?_
    · rw [List.take_zero]
      refine ⟨⟨A, n, c, B, m, c2, rfl, (hs0.ext x09).more (by decide) fun i _ hi => .inl hi, hc, ?_, hc2, hId⟩⟩
      show SlR tWr _ w9 B m []
      have := (hp.more (D' := fun b => D b ∧ b < w.heap.size) (by decide) fun b hb h => ⟨h, hb⟩).ext x09
      rw [hpe] at this
      exact this.more (by decide) fun i _ hi => .inl hi
    rintro G2 k u ⟨hk, ku, cs, Gu, du⟩
    refine cD (fun hlt => ?_) (fun hge => ?_)
    · obtain ⟨bx, o, csx, x, rfl, hx, -, -, hcx, A2, n2, c2', rfl, hs2, hc2'⟩ := (s12.kept ku fun i _ hi => by omega).at_ (k := k) (by omega)
      refine idx k rfl (by omega) ?_
      refine ld (.slice A2 n2 c2') (hcx 0 _ rfl) ?_
      refine call_of (c_jsectors hs2) ?_
      rintro _ wx ⟨rfl, hwx⟩
      rw [hwx]
      clear hwx wx
      have hx112 := hT x (List.mem_of_getElem? hx)
      have hn2 := hs2.len
      have hsec : secN x = 1 := by unfold secN; omega
      rw [hsec]
      have hb5 : b5 ≠ g3 := by omega
      refine loop_rule (fun p : Nat × Option Addr × Nat × Nat => [(13, iv ((usedN R + k + p.1 : Nat) : Int)), (15, .slice p.2.1 p.2.2.1 p.2.2.2), (16, uv8 (1 - p.1)), (17, iv ((1 - p.1 : Nat) : Int))]) (fun p v => p.1 ≤ 1 ∧ (p.1 = 0 → p.2 = (A2, n2, c2')) ∧ Kept (fun i => i ≠ g3) u v ∧ ∃ cs, Blk v g3 44 cs ∧ DskR (fun i => (D i ∧ i < w.heap.size) ∨ w9.heap.size ≤ i) v cs ⟨d.secs, wrL gen (usedN R) (T.take (k + p.1)), d.left, d.stop⟩) (fun p _ => 1 - p.1) (0, A2, n2, c2') ⟨rfl, rfl, rfl, rfl, trivial⟩ ⟨Nat.zero_le _, fun _ => rfl, .refl _ _, cs, Gu, du⟩ rfl ?_
      rintro G3 ⟨j, A3, n3, c3⟩ v ⟨hj1, hj0, kv, cs3, Gv, dv⟩
      rcases (show j = 0 ∨ j = 1 by have : j ≤ 1 := hj1; omega) with rfl | rfl
      · have ha := hj0 rfl
        simp only [Prod.mk.injEq] at ha
        obtain ⟨rfl, rfl, rfl⟩ := ha
        refine cD (fun _ => ?_) (fun h => absurd (show (0 : Int) < ((1 - 0 : Nat) : Int) by omega) h)
        refine cE (fun _ => ?_) (fun h => absurd rfl h)
        refine or8 (a := 1) (b := 2) (by omega) (by omega) ?_
        refine len ?_
        obtain ⟨A', n', c', B', m', c2'', rfl, hs', hc', hp', hc2'', hI'⟩ := dv.ex
        have hs2v := hs2.kept kv fun i _ hi => by omega
        refine drawP (.take 0 (.take 1 (.take 2 (.take 3 (.take 4 (.take 5 (.take 6 (.take 7 (.eff 8 (.eff 9 (.take 10 (.take 11 (.take 12 (.bar (.eff 13 (.take 14 .done)))))))))))))))) [13, 14] (fun y => Ext v y) mx (by kernel_rfl) (.refl _ _) ?_
        refine ldAX [.slice A' n' c', .slice B' m' c2'', iv d.left, .bool d.stop] (.blk Gv) rfl (.refl _ _) ?_
        refine slcR 0 n3 hs2v hc2' rfl (by show min (n3 : Int) 112 = (n3 : Int); omega) (by omega) (Nat.le_refl _) rfl (fun A20 hA20 => ?_)
        have s20 := hA20 _ v hs2v
        rw [List.drop_zero, List.take_of_length_le (by omega)] at s20
        refine call_of (c_jencode (g := gen) (num := usedN R + k + 0) (kind := 3) s20 (by omega) (by omega) (by omega)) ?_
        rintro _ v2 ⟨q, rfl, hq, Bq, xv2⟩
        refine strS xv2 ?_
        have hbx := hs2.u8b
        have hel := encB_len (g := gen) (num := usedN R + k + 0) (kind := 3) (b := x) (by omega)
        have sq : SlR tU8 (fun _ => True) v2 (some (ad q 0)) 128 (encB gen (usedN R + k + 0) 3 x) := SlR.of_cells hel.symm (by omega) trivial (.blk Bq) (flat_u8s (encB_lt (by omega) (by omega) hbx))
        have hwl : (wrL gen (usedN R) (T.take (k + 0))).length = k := by rw [wrL_len, List.length_take]; omega
        have hokv : okD ⟨d.secs, wrL gen (usedN R) (T.take (k + 0)), d.left, d.stop⟩ := by
          refine ⟨hok.1, hok.2.1, by show (wrL gen (usedN R) (T.take (k + 0))).length ≤ 4096; omega, hok.2.2.2.1, hok.2.2.2.2.1, fun y hy => ?_, k7⟩
          obtain ⟨j, t, h1, h2, h3⟩ := wrL_mem hy
          have hj : (T.take (k + 0)).length = k := by rw [List.length_take]; omega
          subst h3
          exact ⟨by show (0 : Int) ≤ ((j : Nat) : Int); omega, by show ((j : Nat) : Int) < (d.secs.length : Int); have : j < usedN R + (T.take (k + 0)).length := h2.2; omega, encB_len (hT t (List.mem_of_mem_take h1))⟩
        have hw : writeP ⟨d.secs, wrL gen (usedN R) (T.take (k + 0)), d.left, d.stop⟩ ((usedN R + k + 0 : Nat) : Int) (encB gen (usedN R + k + 0) 3 x) = (⟨d.secs, wrL gen (usedN R) (T.take (k + 1)), d.left, d.stop⟩, 0) := by
          unfold writeP
          rw [if_neg (fun h => h ⟨by unfold runsB; exact decide_eq_true ⟨hokv, hst⟩, by unfold dhasB; exact decide_eq_true ⟨by omega, by show ((usedN R + k + 0 : Nat) : Int) < (d.secs.length : Int); omega⟩⟩), if_neg (by omega), if_neg (by show ¬ (wrL gen (usedN R) (T.take (k + 0))).length = 4096; omega)]
          have ht1 : T.take (k + 1) = T.take (k + 0) ++ [x] := by rw [List.take_add_one, hx]; rfl
          have hp128 : padB (encB gen (usedN R + k + 0) 3 x) = encB gen (usedN R + k + 0) 3 x := by unfold padB; rw [hel, Nat.sub_self, List.replicate_zero, List.append_nil]
          rw [hp128, ht1, wrL_snoc, List.length_take, show min (k + 0) T.length = k by omega]
          rfl
        refine call_of (c_dWriteE (dv.ext xv2) (by unfold I64; omega) sq) ?_
        rintro _ v3 ⟨cs4, rfl, d4, x34⟩
        rw [hw] at d4 ⊢
        have sv9 : w9.heap.size ≤ v2.heap.size := by have := ku.size; have := kv.size; have := xv2.size; omega
        have d4 := d4.more (D' := fun i => (D i ∧ i < w.heap.size) ∨ w9.heap.size ≤ i) fun b _ h => h.elim (fun h => h) fun h => .inr (by omega)
        obtain ⟨A5, n5, c5, B5, m5, c6, rfl, -⟩ := d4.ex
        have xv3 := xv2.trans x34
        refine strS xv3 ?_
        refine barS (fun _ => True) trivial ?_
        refine stA (vs := [.slice A5 n5 c5, .slice B5 m5 c6, iv d.left, .bool d.stop]) (Gv.ext xv3) rfl (Nat.le_of_ble_eq_true rfl) (by simp [Value.oneCell']) (fun v5 G5 k5 _ => ?_)
        have G5 : Blk v5 g3 44 [.slice A5 n5 c5, .slice B5 m5 c6, iv d.left, .bool d.stop] := G5
        refine strS trivial ?_
        refine cN (fun h => absurd rfl h) (fun _ => ?_)
        refine slcR n3 n3 hs2v hc2' (by show min (n3 : Int) 112 = (n3 : Int); omega) rfl (Nat.le_refl _) (Nat.le_refl _) rfl (fun A30 hA30 => ?_)
        refine arI (n := ((usedN R + k + 0 : Nat) : Int) + 1) (by omega) ?_
        refine arI (n := ((1 - 0 : Nat) : Int) - 1) (by omega) ?_
        refine next (1, A30, n3 - n3, c3 - n3) ⟨by show iv (((usedN R + k + 0 : Nat) : Int) + 1) = iv ((usedN R + k + 1 : Nat) : Int); rw [Int.natCast_add (usedN R + k) 1]; rfl, rfl, rfl, rfl, trivial⟩ ⟨Nat.le_refl _, (fun h => by cases h), (kv.trans (Ext.any xv3)).trans k5, _, G5, d4.kept k5 fun b _ h => ?_⟩ (by show 1 - 1 < 1 - 0; omega)
        have : b ≠ g3 := by
          rcases h with ⟨-, h⟩ | h
          · omega
          · have := x69.size; have := x46.size; omega
        exact this
      · refine cD (fun h => absurd (show (0 : Int) < ((1 - 1 : Nat) : Int) from h) (by omega)) (fun _ => ?_)
        refine arI (n := (k : Int) + 1) (by omega) ?_
        exact next (k + 1) ⟨rfl, by rw [Int.natCast_add]; rfl, trivial⟩ ⟨by omega, ku.trans kv, cs3, Gv, dv⟩ (by omega)
    · have hkT : k = T.length := by omega
      subst hkT
      rw [List.take_length] at du
      have hT0 : T ≠ [] := fun e => hne (by rw [hlJ, e]; simp)
      have hres : syncJ d R T = syncP ⟨d.secs, wrL gen (usedN R) T, d.left, d.stop⟩ := by unfold syncJ; rw [if_neg hgen2, if_neg hT0, hgen]
      obtain ⟨A5, n5, c5, B5, m5, c6, rfl, -⟩ := du.ex
      refine ldA [.slice A5 n5 c5, .slice B5 m5 c6, iv d.left, .bool d.stop] (.blk Gu) rfl ?_
      refine call_of (c_dSyncE du) ?_
      rintro _ u1 ⟨cs6, rfl, d6, xu1⟩
      rw [← hres] at d6 ⊢
      have su1 := ku.size
      have d6 := d6.more (D' := fun i => (D i ∧ i < w.heap.size) ∨ w9.heap.size ≤ i) fun b _ h => h.elim (fun h => h) fun h => .inr (by omega)
      obtain ⟨A7', n7', c7', B7', m7', c8', rfl, -⟩ := d6.ex
      obtain ⟨dr, hdr⟩ : ∃ dr, dr = (syncJ d R T).1 := ⟨_, rfl⟩
      rw [← hdr] at d6 ⊢
      obtain ⟨er, her⟩ : ∃ er, er = (syncJ d R T).2 := ⟨_, rfl⟩
      rw [← her]
      refine stA (vs := [.slice A7' n7' c7', .slice B7' m7' c8', iv dr.left, .bool dr.stop]) (Gu.ext xu1) rfl (Nat.le_of_ble_eq_true rfl) (by simp [Value.oneCell']) (fun u2 G6 k6 _ => ?_)
      have G6 : Blk u2 g3 44 [.slice A7' n7' c7', .slice B7' m7' c8', iv dr.left, .bool dr.stop] := G6
      have k92 : Kept (fun i => i ≠ g3) w9 u2 := (ku.trans (Ext.any xu1)).trans k6
      have hDg : ∀ i, (D i ∧ i < w.heap.size) ∨ w9.heap.size ≤ i → i ≠ g2 ∧ i ≠ g3 ∧ i ≠ b4 ∧ i ≠ b5 := fun i h => by
        have := x69.size
        have := x46.size
        rcases h with ⟨-, h⟩ | h <;> omega
      have d6 := d6.kept k6 fun b _ h => (hDg b h).2.1
      have J10 := J9.kept k92 (show g2 ≠ g3 by omega)
      have RJ10 := RJ9.kept k92 (show b4 ≠ g3 by omega)
      have RD10 := RD9.kept k92 (show b5 ≠ g3 by omega)
      have x02' : Ext w u2 := x09.then k92 fun i hi _ e => by omega
      refine cN (fun herr => ?_) (fun herr => ?_)
      · refine drawP (.take 0 (.take 1 (.take 2 (.eff 3 (.eff 4 (.take 5 .done)))))) [] (fun y => Kept (fun i => i ≠ b4 ∧ i ≠ b5) u2 y) mx (by kernel_rfl) (.refl _ _) ?_
        refine bld zeroJC (by kernel_rfl) ?_
        refine ldAK [.slice A7' n7' c7', .slice B7' m7' c8', iv dr.left, .bool dr.stop] (.blk G6) rfl (show g3 ≠ b4 ∧ g3 ≠ b5 by omega) (.refl _ _) ?_
        refine stA (vs := zeroJC) RJ10 rfl (Nat.le_of_ble_eq_true rfl) (by simp [Value.oneCell']) (fun wa Ba ka _ => ?_)
        refine strS (ka.weak fun i _ h => h.1) ?_
        refine stA (vs := [.slice A7' n7' c7', .slice B7' m7' c8', iv dr.left, .bool dr.stop]) (RD10.kept ka (show b5 ≠ b4 by omega)) rfl (Nat.le_of_ble_eq_true rfl) (by simp [Value.oneCell']) (fun we Be ke _ => ?_)
        refine strS ((ka.weak fun i _ h => h.1).then ke fun i _ h => h.2) ?_
        refine ret ?_
        refine resL (.agg (zeroJC).toArray) (holds_agg (.blk (Ba.kept ke (show b4 ≠ b5 by omega))) rfl) ?_
        refine resL (.agg #[.slice A7' n7' c7', .slice B7' m7' c8', iv dr.left, .bool dr.stop]) (holds_agg (.blk Be) rfl) ?_
        refine ⟨zeroJC, [.slice A7' n7' c7', .slice B7' m7' c8', iv dr.left, .bool dr.stop], rfl, ?_, (x02'.then ka fun i hi _ e => by omega).then ke fun i hi _ e => by omega⟩
        exact ((d6.kept ka fun b _ h => (hDg b h).2.2.1).kept ke fun b _ h => (hDg b h).2.2.2).more fun b _ h => h.elim (fun h => .inl h.1) fun h => .inr (by have := x09.size; omega)
      · refine fldA ?_
        refine ld (.slice AJ nJ cJ) (J10.cell rfl) ?_
        refine len ?_
        refine fldA ?_
        refine st J10 (Nat.le_of_ble_eq_true rfl) rfl (fun u3 J11 k7 _ => ?_)
        have J11 : Blk u3 g2 108 [.slice AJ nJ cJ, iv (d.secs.length : Int), iv (nJ : Int)] := J11
        have G7 := G6.kept k7 (show g3 ≠ g2 by omega)
        have RJ11 := RJ10.kept k7 (show b4 ≠ g2 by omega)
        have RD11 := RD10.kept k7 (show b5 ≠ g2 by omega)
        refine drawP (.take 0 (.take 1 (.eff 2 (.eff 3 (.take 4 .done))))) [] (fun y => Kept (fun i => i ≠ b4 ∧ i ≠ b5) u3 y) mx (by kernel_rfl) (.refl _ _) ?_
        refine ldAK [.slice AJ nJ cJ, iv (d.secs.length : Int), iv (nJ : Int)] (.blk J11) rfl (show g2 ≠ b4 ∧ g2 ≠ b5 by omega) (.refl _ _) ?_
        refine ldAK [.slice A7' n7' c7', .slice B7' m7' c8', iv dr.left, .bool dr.stop] (.blk G7) rfl (show g3 ≠ b4 ∧ g3 ≠ b5 by omega) (.refl _ _) ?_
        refine stA (vs := [.slice AJ nJ cJ, iv (d.secs.length : Int), iv (nJ : Int)]) RJ11 rfl (Nat.le_of_ble_eq_true rfl) (by simp [Value.oneCell']) (fun wa Ba ka _ => ?_)
        refine strS (ka.weak fun i _ h => h.1) ?_
        refine stA (vs := [.slice A7' n7' c7', .slice B7' m7' c8', iv dr.left, .bool dr.stop]) (RD11.kept ka (show b5 ≠ b4 by omega)) rfl (Nat.le_of_ble_eq_true rfl) (by simp [Value.oneCell']) (fun we Be ke _ => ?_)
        refine strS ((ka.weak fun i _ h => h.1).then ke fun i _ h => h.2) ?_
        refine ret ?_
        refine resL (.agg #[.slice AJ nJ cJ, iv (d.secs.length : Int), iv (nJ : Int)]) (holds_agg (.blk (Ba.kept ke (show b4 ≠ b5 by omega))) rfl) ?_
        refine resL (.agg #[.slice A7' n7' c7', .slice B7' m7' c8', iv dr.left, .bool dr.stop]) (holds_agg (.blk Be) rfl) ?_
        refine ⟨[.slice AJ nJ cJ, iv (d.secs.length : Int), iv (nJ : Int)], [.slice A7' n7' c7', .slice B7' m7' c8', iv dr.left, .bool dr.stop], ?_, ?_, ((x02'.then k7 fun i hi _ e => by omega).then ka fun i hi _ e => by omega).then ke fun i hi _ e => by omega⟩
        · have herr : er = 0 := herr
          rw [herr]
          rfl
        · exact (((d6.kept k7 fun b _ h => (hDg b h).1).kept ka fun b _ h => (hDg b h).2.2.1).kept ke fun b _ h => (hDg b h).2.2.2).more fun b _ h => h.elim (fun h => .inl h.1) fun h => .inr (by have := x09.size; omega)
end
end Go.Proofs.YtehcphboliofaaaGreatDoor

/- Layer 56: Load. -/
namespace Go.Proofs.YtehcphboliofaaaGreatDoor
open Go Go.RowKit

/-- The postings of records, until one is none. -/
noncomputable def rdL : List (List Nat) → List Post
  | [] => []
  | b :: r => match rdT b with
    | none => []
    | some p => p :: rdL r
theorem rdL_none {b : List Nat} {r : List (List Nat)} (h : rdT b = none) : rdL (b :: r) = [] := by rw [rdL, h]
theorem rdL_some {b : List Nat} {r : List (List Nat)} {p : Post} (h : rdT b = some p) : rdL (b :: r) = p :: rdL r := by rw [rdL, h]
theorem rdL_len : ∀ l : List (List Nat), (rdL l).length ≤ l.length
  | [] => Nat.le_refl _
  | b :: r => by
    have := rdL_len r
    cases h : rdT b with
    | none => rw [rdL_none h]; simp
    | some p => rw [rdL_some h, List.length_cons, List.length_cons]; omega
noncomputable def loadP (d : Dsk) : List Post × Int := if (openP d).2 ≠ 0 then ([], (openP d).2) else ((rdL (openP d).1.recs).take (vN (rdL (openP d).1.recs)), 0)
theorem recG_small : ∀ (l : List (List Nat)) (n : Nat) (cur : Option (Nat × List Nat)) (last : Nat), ∀ x ∈ recG l n cur last, x.2.length ≤ (curB cur).length + 112 * l.length
  | [], n, cur, last, x, h => by cases h
  | s :: r, n, cur, last, x, h => by
    unfold recG at h
    rw [List.length_cons]
    split at h
    · rename_i hok
      have hp : (pieceB s).length ≤ 112 := by unfold pieceB; rw [List.length_take]; have := hok.1.1; omega
      split at h
      · rcases List.mem_cons.1 h with rfl | h
        · show (curB cur ++ pieceB s).length ≤ _
          rw [List.length_append]; omega
        · have := recG_small r (n + 1) none (genS s) x h
          have e : (curB none).length = 0 := rfl
          omega
      · have := recG_small r (n + 1) (some (curG cur s, curB cur ++ pieceB s)) last x h
        have e : (curB (some (curG cur s, curB cur ++ pieceB s))).length = (curB cur).length + (pieceB s).length := List.length_append
        omega
    · cases h
theorem recsD_small {l : List (List Nat)} : ∀ b ∈ recsD l, b.length ≤ 112 * l.length := fun b hb => by
  unfold recsD at hb
  obtain ⟨x, hx, rfl⟩ := List.mem_map.1 hb
  have := recG_small l 0 none 0 x hx
  have e : (curB none).length = 0 := rfl
  omega
theorem openP_ok {d : Dsk} (h : (openP d).2 = 0) : okD d ∧ d.stop = false ∧ d.pend = [] ∧ (openP d).1 = ⟨recsD d.secs, d.secs.length, (recsD d.secs).length⟩ := by
  unfold openP at h ⊢
  by_cases h1 : okD d
  · rw [if_neg (fun q => q h1)] at h ⊢
    by_cases h2 : d.stop = true
    · rw [if_pos h2] at h; cases h
    · rw [if_neg h2] at h ⊢
      by_cases h3 : 0 < d.pend.length
      · rw [if_pos h3] at h; cases h
      · rw [if_neg h3]
        exact ⟨h1, by simpa using h2, List.eq_nil_of_length_eq_zero (by omega), rfl⟩
  · rw [if_pos h1] at h; cases h
section
variable {w : World}
set_option maxRecDepth 8000 in
theorem c_lLoad {d : Dsk} {cs : List Value} (hd : DskR (fun _ => True) w cs d) : CallZ Tryz.prog 25 #[.agg cs.toArray] w (fun v w' => Ext w w' ∧ ∃ B m c', v = .tuple #[.agg #[.slice B m c'], iv (loadP d).2] ∧ SlR tPost (fun b => w.heap.size ≤ b) w' B m (loadP d).1 ∧ m ≤ c') := by
  obtain ⟨A, n, c, B, m, c2, rfl, hs, hc, hp, hc2, hId⟩ := hd.ex
  refine fn_rule (args := [.agg #[.slice A n c, .slice B m c2, iv d.left, .bool d.stop]]) Tryz.func25 (by kernel_rfl) ?_
  refine box (fun g1 w1 h1 => ?_)
  have G1 : Blk w1 g1 44 [.slice A n c, .slice B m c2, iv d.left, .bool d.stop] := h1.blk
  refine alloc (fun b2 w2 h2 => ?_)
  have R2 : Blk w2 b2 24 [.slice none 0 0] := h2.blk
  have e1 := h1.at_
  have e2 := h2.at_
  have x02 := h1.ext.trans h2.ext
  have s1 := h1.ext.size
  have lR := R2.lt
  refine ldA [.slice A n c, .slice B m c2, iv d.left, .bool d.stop] (.blk (G1.ext h2.ext)) rfl ?_
  refine call_of (c_jOpen (hd.ext x02)) ?_
  rintro _ w3 ⟨csj, rfl, hj, x3⟩
  obtain ⟨A3, n3, c3, rfl, hs3, hc3, -, -⟩ := hj.ex
  have s3 := x3.size
  refine alloc (fun b4 w4 h4 => ?_)
  refine stA (vs := [.slice A3 n3 c3, iv (openP d).1.many, iv (openP d).1.syn]) h4.blk rfl (Nat.le_of_ble_eq_true rfl) (by simp [Value.oneCell']) (fun w5 B5 k5 _ => ?_)
  have B5 : Blk w5 b4 108 [.slice A3 n3 c3, iv (openP d).1.many, iv (openP d).1.syn] := B5
  have e4 := h4.at_
  have x35 : Ext w3 w5 := h4.ext.then k5 fun i hi _ e => by omega
  have x25 := x3.trans x35
  have x05 := x02.trans x25
  have R5 := R2.ext x25
  have s25 := x25.size
  refine cN (fun he => ?_) (fun he => ?_)
  · refine ldA [.slice none 0 0] (.blk R5) rfl ?_
    refine stA (vs := [.slice none 0 0]) R5 rfl (Nat.le_of_ble_eq_true rfl) (by simp [Value.oneCell']) (fun we Be ke _ => ?_)
    have Be : Blk we b2 24 [.slice none 0 0] := Be
    refine ret ?_
    refine resL _ (holds_agg (.blk Be) rfl) ?_
    have hres : loadP d = ([], (openP d).2) := by unfold loadP; rw [if_pos he]
    exact ⟨x05.then ke fun i hi _ e => by omega, none, 0, 0, by rw [hres]; rfl, by rw [hres]; exact .nil, Nat.le_refl _⟩
  obtain ⟨hok, -, -, hop⟩ := openP_ok he
  have hn3 := hs3.len
  rw [hop] at hn3 hs3
  obtain ⟨recs, hrecs⟩ : ∃ recs, recs = recsD d.secs := ⟨_, rfl⟩
  have hsm : ∀ b ∈ recs, b.length ≤ 1000000 := fun b hb => by rw [hrecs] at hb; have := recsD_small b hb; have := hok.2.1; omega
  have hn34 : n3 ≤ 4096 := by have := recG_len d.secs 0 none 0; have : (recsD d.secs).length = n3 := hn3; unfold recsD at this; rw [List.length_map] at this; have := hok.2.1; omega
  have hopr : (openP d).1.recs = recs := by rw [hop, hrecs]
  have hs3 : SlR (tSl tU8) (fun _ => True) w3 A3 n3 recs := by rw [hrecs]; exact hs3
  have hn3 : recs.length = n3 := hs3.len
  clear hop
  refine alloc (fun b5 w6 h6 => ?_)
  have B6 : Blk w6 b5 22 [.slice none 0 0] := h6.blk
  have e6 := h6.at_
  have B56 := B5.ext h6.ext
  refine fldA ?_
  refine ld (.slice A3 n3 c3) (B56.cell rfl) ?_
  refine fldA ?_
  refine ld (.slice A3 n3 c3) (B56.cell rfl) ?_
  refine len ?_
  refine slcR 0 n3 ((hs3.ext x35).ext h6.ext) hc3 rfl (by show min (n3 : Int) 4096 = (n3 : Int); omega) (by omega) (Nat.le_refl _) rfl (fun A10 hA10 => ?_)
  have s10 := hA10 _ w5 (hs3.ext x35)
  rw [List.drop_zero, List.take_of_length_le (by omega), Nat.sub_zero] at s10
  clear hA10
  refine len ?_
  refine loop_rule (fun k : Nat => [(28, iv (k : Int))]) (fun k u => k ≤ n3 ∧ ∃ l, RdS w5 u b5 l ∧ l.length = k ∧ rdL recs = l ++ rdL (recs.drop k)) (fun k _ => n3 - k) 0 ⟨rfl, trivial⟩ ⟨by omega, [], ⟨⟨none, 0, 0, B6, OwnF.nil h6.ext, rfl⟩, by omega⟩, rfl, rfl⟩ rfl ?_
  rintro G k u ⟨hk, l, hr, hl, hrd⟩
  refine cD (fun hlt => ?_) (fun hge => ?_)
  · obtain ⟨bx, o, csx, b, rfl, hx, hdr, -, hcx, A2, n2, c2', rfl, hs2, hc2'⟩ := (s10.ext (by obtain ⟨⟨_, _, _, _, q, _⟩, _⟩ := hr; exact q.ext)).at_ (k := k) (by omega)
    refine idx k rfl (by omega) ?_
    refine ld (.slice A2 n2 c2') (hcx 0 _ rfl) ?_
    refine call_of (c_lLoad1 hr (by omega) hs2 hc2' (by have := hsm b (List.mem_of_getElem? hx); omega)) ?_
    rintro _ u1 (⟨hno, rfl, x1, hr1⟩ | ⟨q, hq, rfl, hr1⟩)
    · have hll : rdL (openP d).1.recs = l := by rw [hopr, hrd, hdr, rdL_none hno, List.append_nil]
      have hr := hr1
      have hln : l.length ≤ 4096 := by omega
      clear hr1 hs2 hcx hdr x1
      obtain ⟨⟨A6, m6, d6, B6', own6, hm6⟩, -⟩ := hr
      have x5u := own6.ext
      have s5u := x5u.size
      have ha6 : SlR tPost (fun b => w5.heap.size ≤ b ∧ b < u1.heap.size) u1 A6 m6 l := (own_posts (D := fun b => w5.heap.size ≤ b) own6 (by omega) fun _ h => h).more (by decide) fun b hb h => ⟨h, hb⟩
      have R6 := R5.ext x5u
      refine ld (.slice A6 m6 d6) (B6'.cell rfl) ?_
      refine call_of c_gvalid ?_
      rintro _ w9 ⟨bb, rfl, x79, Bb, hbb⟩
      have s79 := x79.size
      have lbb := Bb.lt
      refine range (gf := 96) (lb := #[ptr bb]) rfl (fun fn tmps w10 Rl hRR hF' hwf x10 z10 hD10 hl10 => ?_)
      show CallZ _ _ #[.func (.yield (w9.heap.size + 1)) #[] #[], ptr bb] w10 _
      have x710 := x79.trans x10
      have x010 : Ext w w10 := (x05.trans x5u).trans x710
      have s10 := x710.size
      have s010 := x010.size
      have R10 := R6.ext x710
      have hs10 : SlR tPost (fun b => b ≠ b2 ∧ b ≠ w9.heap.size + 1) w10 A6 m6 l := (ha6.ext x710).more (by decide) fun b _ h => ⟨by omega, by omega⟩
      refine (c_gvalid1Y (D := fun b => b ≠ b2 ∧ b ≠ w9.heap.size + 1) (fun i y o => LoopAt y (w9.heap.size + 1) Rl ∧ ∃ A' m' d', Blk y b2 24 [.slice A' m' d'] ∧ OwnF w y A' m' d' 26 6 ((l.take i).flatMap Post.c) ∧ ∀ q, A' = some (ad q 0) → o = some q ∧ w10.heap.size + 2 ≤ q) hs10 (Bb.ext x10) (fun b hb => ⟨by omega, by omega⟩) (by omega) ?_ ?_ ⟨hl10, none, 0, 0, R10, OwnF.nil x010, fun q h => by cases h⟩).mono ?_
      · rintro o i y y' ⟨j1, A', m', d', j2, j3, j4⟩ hsz ky
        exact ⟨j1.kept ky ⟨by omega, by omega⟩, A', m', d', j2.kept ky ⟨by omega, by omega⟩, j3.thenK ky (fun q hq => ⟨by have := (j4 q hq).2; omega, by have := (j4 q hq).2; omega⟩) (j3.ext.then ky fun b hb _ => ⟨by omega, by omega⟩), j4⟩
      · rintro i y p g' o hp hok ⟨ly, A', m', d', R0, own0, hA'⟩ ky Mg hg' hsz ho
        have hi : i < l.length := (List.getElem?_eq_some_iff.1 hp).1
        have htk : l.take (i + 1) = l.take i ++ [p] := by rw [List.take_add_one, hp]; rfl
        have hm' : m' = i := by have := own0.own.len; rw [posts_len, List.length_take] at this; have : min i l.length * 6 = m' * 6 := this; omega
        subst hRR
        refine yield_rule (args := [.agg p.c.toArray, .map (some g')]) ly rfl rfl hF' hwf ?_
        refine alloc (fun b9 u1 q1 => ?_)
        refine stA (vs := p.c) q1.blk rfl (Nat.le_of_ble_eq_true rfl) (by simp [Value.oneCell']) (fun u2 B9 k2 zs => ?_)
        have e9 := q1.at_
        have B9 : Blk u2 b9 26 p.c := B9
        have xy2 : Ext y u2 := q1.ext.then k2 fun b hb _ e => by omega
        have sy2 := xy2.size
        have l9 := B9.lt
        refine mid' (ly.kept xy2 trivial) (fun u3 k3 zk3 l3 => ?_)
        have R3 := (R0.ext xy2).kept k3 (by omega)
        have B93 := B9.kept k3 (show b9 ≠ w9.heap.size + 1 by omega)
        have own3 := (own0.then xy2).thenK k3 (fun q hq => by have := (hA' q hq).2; omega) ((own0.ext.trans xy2).then k3 fun b hb _ => by omega)
        refine fldA ?_
        refine ld (.slice A' m' d') (R3.cell rfl) ?_
        refine ldA p.c (.blk B93) rfl ?_
        refine lit [.agg p.c.toArray] (fun q u4 hq => ?_)
        have eq4 := hq.at_
        refine appF (own3.then hq.ext) (srcP6 hq.blk) (by omega) (fun A5 d5 u5 own5 k5 hA5 => ?_)
        have s34 := hq.ext.size
        have R5' := (R3.ext hq.ext).kept k5 (own_tyL (own3.then hq.ext) (R3.ext hq.ext) (by decide))
        have s45 := k5.size
        have hlp : A' ≠ some (ad (w9.heap.size + 1) 0) := fun e => by have := (hA' _ e).2; omega
        have l5 := (l3.kept hq.ext trivial).kept k5 hlp
        have hA5' : ∀ j, A5 = some (ad j 0) → (o = some j ∨ y.heap.size ≤ j) ∧ w10.heap.size + 2 ≤ j := fun j hj => by
          rcases hA5 with r | r | r
          · have := hA' j (by rw [← r]; exact hj)
            exact ⟨.inl this.1, this.2⟩
          · rw [r] at hj; cases hj
          · rw [r] at hj; injection hj with hj; injection hj with hj; exact ⟨.inr (by omega), by omega⟩
        refine fldA ?_
        refine st R5' (Nat.le_of_ble_eq_true rfl) rfl (fun u6 R6' k6 _ => ?_)
        have R6' : Blk u6 b2 24 [.slice A5 (m' + 1) d5] := R6'
        have l6 := l5.kept k6 (by omega)
        have own6' := own5.thenK k6 (fun j hj => by have := (hA5' j hj).2; omega) (own5.ext.then k6 fun j hj _ => by omega)
        refine roundN' _ l6 (fun u7 k7 l7 => ?_)
        have own7 := own6'.thenK k7 (fun j hj => by have := (hA5' j hj).2; omega) (own6'.ext.then k7 fun j hj _ => by omega)
        refine ⟨rfl, A5.map (·.block), ⟨l7, A5, m' + 1, d5, R6'.kept k7 (by omega), ?_, fun j hj => ⟨by rw [hj]; rfl, (hA5' j hj).2⟩⟩, fun j hj => ?_, ?_⟩
        · rw [htk, List.flatMap_append]
          exact own7
        · rcases own7.form with ⟨e, -⟩ | ⟨j', e, -, hlt, -⟩
          · rw [e] at hj; cases hj
          · rw [e] at hj
            injection hj with hj
            have hj : j' = j := hj
            subst hj
            rcases (hA5' j' e).1 with h | h
            · exact .inl h
            · exact .inr ⟨h, hlt⟩
        · have a1 : Kept (fun b => (b ≠ b2 ∧ b ≠ w9.heap.size + 1) ∧ o ≠ some b) y u3 := (Ext.any xy2).trans (k3.weak fun j _ h => h.1.2)
          have a2 : Kept (fun b => (b ≠ b2 ∧ b ≠ w9.heap.size + 1) ∧ o ≠ some b) u3 u5 := (Ext.any hq.ext).trans (k5.weak fun j _ h e => h.2 (hA' j e).1)
          have a3 : Kept (fun b => (b ≠ b2 ∧ b ≠ w9.heap.size + 1) ∧ o ≠ some b) u5 u7 := (k6.weak fun j _ h => h.1.1).trans (k7.weak fun j _ h => h.1.2)
          exact a1.trans (a2.trans a3)
      · rintro _ y ⟨⟨o, ⟨ly, A', m', d', Ry, own, hA'⟩, ho⟩, ky⟩
        subst hRR
        refine range_end _ ly (by simp) (fun y1 k1 => ?_)
        have hb2 := own_tyL own Ry (by decide)
        have own1 := own.thenK k1 (fun q hq => by have := (hA' q hq).2; omega) (own.ext.then k1 fun j hj _ => by omega)
        have Ry1 := Ry.kept k1 (by omega)
        have hmk1 : y1.heap[w9.heap.size]? = some (.deferred (some [])) := (k1.blk _ (by have := ky.size; omega) (by omega)).trans ((ky.blk _ (by omega) ⟨by omega, by omega⟩).trans hD10)
        refine ldA [.slice A' m' d'] (.blk Ry1) rfl ?_
        refine stA (vs := [.slice A' m' d']) Ry1 rfl (Nat.le_of_ble_eq_true rfl) (by simp [Value.oneCell']) (fun y2 Ry2 k2 _ => ?_)
        have Ry2 : Blk y2 b2 24 [.slice A' m' d'] := Ry2
        have s1' := k1.size
        have hmk2 : y2.heap[w9.heap.size]? = some (.deferred (some [])) := (k2.blk _ (by have := ky.size; omega) (by omega)).trans hmk1
        refine retM hmk2 ?_
        have k3 := Kept.putObj y2 w9.heap.size (.deferred none)
        refine resL _ (holds_agg (.blk (Ry2.kept k3 (by omega))) rfl) ?_
        have own3 := (own1.thenK k2 (fun q hq e => hb2 (by rw [hq, e])) (own1.ext.then k2 fun j hj _ => by omega)).thenK k3 (fun q hq => by have := (hA' q hq).2; omega) ((own1.ext.then k2 fun j hj _ => by omega).then k3 fun j hj _ => by omega)
        have hres : loadP d = (l.take (vN l), 0) := by unfold loadP; rw [if_neg (fun q => q he), hll]
        have hm' : m' ≤ 4096 := by have := own.own.len; rw [posts_len, List.length_take] at this; have : min (vN l) l.length * 6 = m' * 6 := this; omega
        exact ⟨own3.ext, A', m', d', by rw [hres]; rfl, by rw [hres]; exact own_posts own3 (by omega) fun b hb => hb, own3.le⟩
    · refine arI (n := (k : Int) + 1) (by omega) ?_
      exact next (k + 1) ⟨by rw [Int.natCast_add]; rfl, trivial⟩ ⟨by omega, l ++ [q], hr1, by simp [hl], by rw [hrd, hdr, rdL_some hq, List.append_assoc]; rfl⟩ (by omega)
  · have hll : rdL (openP d).1.recs = l := by rw [hopr, hrd, drop_end (by omega)]; simp [rdL]
    have hln : l.length ≤ 4096 := by omega
    obtain ⟨⟨A6, m6, d6, B6', own6, hm6⟩, -⟩ := hr
    have x5u := own6.ext
    have s5u := x5u.size
    have ha6 : SlR tPost (fun b => w5.heap.size ≤ b ∧ b < u.heap.size) u A6 m6 l := (own_posts (D := fun b => w5.heap.size ≤ b) own6 (by omega) fun _ h => h).more (by decide) fun b hb h => ⟨h, hb⟩
    have R6 := R5.ext x5u
    refine ld (.slice A6 m6 d6) (B6'.cell rfl) ?_
    refine call_of c_gvalid ?_
    rintro _ w9 ⟨bb, rfl, x79, Bb, hbb⟩
    have s79 := x79.size
    have lbb := Bb.lt
    refine range (gf := 96) (lb := #[ptr bb]) rfl (fun fn tmps w10 Rl hRR hF' hwf x10 z10 hD10 hl10 => ?_)
    show CallZ _ _ #[.func (.yield (w9.heap.size + 1)) #[] #[], ptr bb] w10 _
    have x710 := x79.trans x10
    have x010 : Ext w w10 := (x05.trans x5u).trans x710
    have s10 := x710.size
    have s010 := x010.size
    have R10 := R6.ext x710
    have hs10 : SlR tPost (fun b => b ≠ b2 ∧ b ≠ w9.heap.size + 1) w10 A6 m6 l := (ha6.ext x710).more (by decide) fun b _ h => ⟨by omega, by omega⟩
    refine (c_gvalid1Y (D := fun b => b ≠ b2 ∧ b ≠ w9.heap.size + 1) (fun i y o => LoopAt y (w9.heap.size + 1) Rl ∧ ∃ A' m' d', Blk y b2 24 [.slice A' m' d'] ∧ OwnF w y A' m' d' 26 6 ((l.take i).flatMap Post.c) ∧ ∀ q, A' = some (ad q 0) → o = some q ∧ w10.heap.size + 2 ≤ q) hs10 (Bb.ext x10) (fun b hb => ⟨by omega, by omega⟩) (by omega) ?_ ?_ ⟨hl10, none, 0, 0, R10, OwnF.nil x010, fun q h => by cases h⟩).mono ?_
    · rintro o i y y' ⟨j1, A', m', d', j2, j3, j4⟩ hsz ky
      exact ⟨j1.kept ky ⟨by omega, by omega⟩, A', m', d', j2.kept ky ⟨by omega, by omega⟩, j3.thenK ky (fun q hq => ⟨by have := (j4 q hq).2; omega, by have := (j4 q hq).2; omega⟩) (j3.ext.then ky fun b hb _ => ⟨by omega, by omega⟩), j4⟩
    · rintro i y p g' o hp hok ⟨ly, A', m', d', R0, own0, hA'⟩ ky Mg hg' hsz ho
      have hi : i < l.length := (List.getElem?_eq_some_iff.1 hp).1
      have htk : l.take (i + 1) = l.take i ++ [p] := by rw [List.take_add_one, hp]; rfl
      have hm' : m' = i := by have := own0.own.len; rw [posts_len, List.length_take] at this; have : min i l.length * 6 = m' * 6 := this; omega
      subst hRR
      refine yield_rule (args := [.agg p.c.toArray, .map (some g')]) ly rfl rfl hF' hwf ?_
      refine alloc (fun b9 u1 q1 => ?_)
      refine stA (vs := p.c) q1.blk rfl (Nat.le_of_ble_eq_true rfl) (by simp [Value.oneCell']) (fun u2 B9 k2 zs => ?_)
      have e9 := q1.at_
      have B9 : Blk u2 b9 26 p.c := B9
      have xy2 : Ext y u2 := q1.ext.then k2 fun b hb _ e => by omega
      have sy2 := xy2.size
      have l9 := B9.lt
      refine mid' (ly.kept xy2 trivial) (fun u3 k3 zk3 l3 => ?_)
      have R3 := (R0.ext xy2).kept k3 (by omega)
      have B93 := B9.kept k3 (show b9 ≠ w9.heap.size + 1 by omega)
      have own3 := (own0.then xy2).thenK k3 (fun q hq => by have := (hA' q hq).2; omega) ((own0.ext.trans xy2).then k3 fun b hb _ => by omega)
      refine fldA ?_
      refine ld (.slice A' m' d') (R3.cell rfl) ?_
      refine ldA p.c (.blk B93) rfl ?_
      refine lit [.agg p.c.toArray] (fun q u4 hq => ?_)
      have eq4 := hq.at_
      refine appF (own3.then hq.ext) (srcP6 hq.blk) (by omega) (fun A5 d5 u5 own5 k5 hA5 => ?_)
      have s34 := hq.ext.size
      have R5' := (R3.ext hq.ext).kept k5 (own_tyL (own3.then hq.ext) (R3.ext hq.ext) (by decide))
      have s45 := k5.size
      have hlp : A' ≠ some (ad (w9.heap.size + 1) 0) := fun e => by have := (hA' _ e).2; omega
      have l5 := (l3.kept hq.ext trivial).kept k5 hlp
      have hA5' : ∀ j, A5 = some (ad j 0) → (o = some j ∨ y.heap.size ≤ j) ∧ w10.heap.size + 2 ≤ j := fun j hj => by
        rcases hA5 with r | r | r
        · have := hA' j (by rw [← r]; exact hj)
          exact ⟨.inl this.1, this.2⟩
        · rw [r] at hj; cases hj
        · rw [r] at hj; injection hj with hj; injection hj with hj; exact ⟨.inr (by omega), by omega⟩
      refine fldA ?_
      refine st R5' (Nat.le_of_ble_eq_true rfl) rfl (fun u6 R6' k6 _ => ?_)
      have R6' : Blk u6 b2 24 [.slice A5 (m' + 1) d5] := R6'
      have l6 := l5.kept k6 (by omega)
      have own6' := own5.thenK k6 (fun j hj => by have := (hA5' j hj).2; omega) (own5.ext.then k6 fun j hj _ => by omega)
      refine roundN' _ l6 (fun u7 k7 l7 => ?_)
      have own7 := own6'.thenK k7 (fun j hj => by have := (hA5' j hj).2; omega) (own6'.ext.then k7 fun j hj _ => by omega)
      refine ⟨rfl, A5.map (·.block), ⟨l7, A5, m' + 1, d5, R6'.kept k7 (by omega), ?_, fun j hj => ⟨by rw [hj]; rfl, (hA5' j hj).2⟩⟩, fun j hj => ?_, ?_⟩
      · rw [htk, List.flatMap_append]
        exact own7
      · rcases own7.form with ⟨e, -⟩ | ⟨j', e, -, hlt, -⟩
        · rw [e] at hj; cases hj
        · rw [e] at hj
          injection hj with hj
          have hj : j' = j := hj
          subst hj
          rcases (hA5' j' e).1 with h | h
          · exact .inl h
          · exact .inr ⟨h, hlt⟩
      · have a1 : Kept (fun b => (b ≠ b2 ∧ b ≠ w9.heap.size + 1) ∧ o ≠ some b) y u3 := (Ext.any xy2).trans (k3.weak fun j _ h => h.1.2)
        have a2 : Kept (fun b => (b ≠ b2 ∧ b ≠ w9.heap.size + 1) ∧ o ≠ some b) u3 u5 := (Ext.any hq.ext).trans (k5.weak fun j _ h e => h.2 (hA' j e).1)
        have a3 : Kept (fun b => (b ≠ b2 ∧ b ≠ w9.heap.size + 1) ∧ o ≠ some b) u5 u7 := (k6.weak fun j _ h => h.1.1).trans (k7.weak fun j _ h => h.1.2)
        exact a1.trans (a2.trans a3)
    · rintro _ y ⟨⟨o, ⟨ly, A', m', d', Ry, own, hA'⟩, ho⟩, ky⟩
      subst hRR
      refine range_end _ ly (by simp) (fun y1 k1 => ?_)
      have hb2 := own_tyL own Ry (by decide)
      have own1 := own.thenK k1 (fun q hq => by have := (hA' q hq).2; omega) (own.ext.then k1 fun j hj _ => by omega)
      have Ry1 := Ry.kept k1 (by omega)
      have hmk1 : y1.heap[w9.heap.size]? = some (.deferred (some [])) := (k1.blk _ (by have := ky.size; omega) (by omega)).trans ((ky.blk _ (by omega) ⟨by omega, by omega⟩).trans hD10)
      refine ldA [.slice A' m' d'] (.blk Ry1) rfl ?_
      refine stA (vs := [.slice A' m' d']) Ry1 rfl (Nat.le_of_ble_eq_true rfl) (by simp [Value.oneCell']) (fun y2 Ry2 k2 _ => ?_)
      have Ry2 : Blk y2 b2 24 [.slice A' m' d'] := Ry2
      have s1' := k1.size
      have hmk2 : y2.heap[w9.heap.size]? = some (.deferred (some [])) := (k2.blk _ (by have := ky.size; omega) (by omega)).trans hmk1
      refine retM hmk2 ?_
      have k3 := Kept.putObj y2 w9.heap.size (.deferred none)
      refine resL _ (holds_agg (.blk (Ry2.kept k3 (by omega))) rfl) ?_
      have own3 := (own1.thenK k2 (fun q hq e => hb2 (by rw [hq, e])) (own1.ext.then k2 fun j hj _ => by omega)).thenK k3 (fun q hq => by have := (hA' q hq).2; omega) ((own1.ext.then k2 fun j hj _ => by omega).then k3 fun j hj _ => by omega)
      have hres : loadP d = (l.take (vN l), 0) := by unfold loadP; rw [if_neg (fun q => q he), hll]
      have hm' : m' ≤ 4096 := by have := own.own.len; rw [posts_len, List.length_take] at this; have : min (vN l) l.length * 6 = m' * 6 := this; omega
      exact ⟨own3.ext, A', m', d', by rw [hres]; rfl, by rw [hres]; exact own_posts own3 (by omega) fun b hb => hb, own3.le⟩
end
end Go.Proofs.YtehcphboliofaaaGreatDoor

/- Layers 4, 5, 56: what lies on a disk, plainly; Store plainly. -/
namespace Go.Proofs.YtehcphboliofaaaGreatDoor
open Go Go.RowKit

/-- What Store brings about. -/
noncomputable def storeP (d : Dsk) (l : List Post) : Dsk × Int :=
  if ldgErr l ≠ 0 then (zeroD, ldgErr l) else if (openP d).2 ≠ 0 then (zeroD, (openP d).2)
  else if ¬ recsD d.secs = (l.map txt).take (recsD d.secs).length then (zeroD, 560)
  else if d.secs.length < l.length then (zeroD, 2) else syncJ d (recsD d.secs) ((l.map txt).drop (recsD d.secs).length)
/-- A disk that runs and holds texts, one in each sector. -/
structure Hol (d : Dsk) (ts : List (List Nat)) (m : Nat) : Prop where
  ok : okD d
  run : d.stop = false
  pend : d.pend = []
  hd : Hd d.secs 0 0 ts
  by_ : ∀ s ∈ d.secs, ∀ x ∈ s, x < 256
  tx : TxOk ts
  gen : genP d.secs ≤ m
theorem getB_rep : ∀ n, getB (List.replicate n 0) = 0 := by
  intro n
  unfold getB
  induction n with
  | zero => rfl
  | succ n ih => rw [List.replicate_succ, List.foldl_cons]; exact ih
theorem Hol.new {n : Int} (h : 1 ≤ n ∧ n ≤ 4096) : (newP n).2 = 0 ∧ Hol (newP n).1 [] 1 ∧ (newP n).1.left = -1 ∧ (newP n).1.secs.length = n.toNat := by
  have e : newP n = (⟨List.replicate n.toNat (List.replicate 128 0), [], -1, false⟩, 0) := by unfold newP; rw [if_neg (by omega)]
  rw [e]
  have hs : ∀ s ∈ List.replicate n.toNat (List.replicate 128 0), s = List.replicate 128 0 := fun s hs => (List.mem_replicate.1 hs).2
  refine ⟨rfl, ⟨⟨?_, ?_, Nat.zero_le _, by show (-1 : Int) ≤ -1; omega, by show (-1 : Int) ≤ 65536; omega, (fun x hx => by cases hx), fun s h => by rw [hs s h, List.length_replicate]⟩, rfl, rfl, ?_, fun s h x hx => ?_, (fun t ht => by cases ht), genP_le2 (Nat.le_refl _) fun s h => ?_⟩, rfl, by simp⟩
  · show 1 ≤ (List.replicate _ _).length; rw [List.length_replicate]; omega
  · show (List.replicate _ _).length ≤ 4096; rw [List.length_replicate]; omega
  · show recG (List.replicate n.toNat (List.replicate 128 0)) 0 none 0 = []
    obtain ⟨k, hk⟩ : ∃ k, n.toNat = k + 1 := ⟨n.toNat - 1, by omega⟩
    rw [hk, List.replicate_succ]
    refine recG_bad fun hg => ?_
    have := hg.2.2.2.2.1
    rw [List.take_replicate, getB_rep] at this
    omega
  · rw [hs s h] at hx
    rw [(List.mem_replicate.1 hx).2]; omega
  · rw [hs s h]
    unfold genS
    rw [List.take_replicate, List.drop_replicate, getB_rep, getB_rep]
    omega
theorem Hol.recs {d : Dsk} {ts : List (List Nat)} {m : Nat} (h : Hol d ts m) : recsD d.secs = ts := h.hd.recs h.tx
theorem Hol.open_ {d : Dsk} {ts : List (List Nat)} {m : Nat} (h : Hol d ts m) : openP d = (⟨ts, d.secs.length, ts.length⟩, 0) := by
  unfold openP
  rw [if_neg (fun q => q h.ok), if_neg (by rw [h.run]; decide), if_neg (by rw [h.pend]; simp), h.recs]
theorem Hol.le {d : Dsk} {ts : List (List Nat)} {m : Nat} (h : Hol d ts m) : ts.length ≤ d.secs.length := h.hd.le
theorem used_1 : ∀ {ts : List (List Nat)}, TxOk ts → usedN ts = ts.length
  | [], _ => rfl
  | t :: ts, h => by
    have h1 := (h t List.mem_cons_self).1
    have ih := used_1 fun x hx => h x (List.mem_cons_of_mem _ hx)
    have e : secN t = 1 := by unfold secN; omega
    unfold usedN at *
    rw [List.map_cons, List.sum_cons, ih, e, List.length_cons]; omega
theorem wrL_take (g : Nat) : ∀ (i : Nat) (t : List (List Nat)) (k : Nat), (wrL g i t).take k = wrL g i (t.take k)
  | i, [], k => by simp [wrL]
  | i, b :: t, 0 => by simp [wrL]
  | i, b :: t, k + 1 => by rw [wrL, List.take_succ_cons, List.take_succ_cons, wrL, wrL_take g (i + 1) t k]
theorem wrL_at (g : Nat) : ∀ (i : Nat) (t : List (List Nat)) (k : Nat) {b : List Nat}, t[k]? = some b → (wrL g i t)[k]? = some ⟨((i + k : Nat) : Int), encB g (i + k) 3 b⟩
  | i, [], k, b, h => by simp at h
  | i, x :: t, 0, b, h => by simp at h; subst h; rfl
  | i, x :: t, k + 1, b, h => by
    rw [List.getElem?_cons_succ] at h
    rw [wrL, List.getElem?_cons_succ, wrL_at g (i + 1) t k h, show i + 1 + k = i + (k + 1) by omega]
theorem encsL_mem {g : Nat} : ∀ {i : Nat} {t : List (List Nat)} {s : List Nat}, s ∈ encsL g i t → ∃ j b, b ∈ t ∧ s = encB g j 3 b
  | i, [], s, h => by cases h
  | i, x :: t, s, h => by
    rcases List.mem_cons.1 h with rfl | h
    · exact ⟨i, x, List.mem_cons_self, rfl⟩
    · obtain ⟨j, b, h1, h2⟩ := encsL_mem h
      exact ⟨j, b, List.mem_cons_of_mem _ h1, h2⟩
theorem perf_mem {g : Nat} {ts : List (List Nat)} {i : Nat} {secs : List (List Nat)} {s : List Nat} (h : i + ts.length ≤ secs.length) (hs : s ∈ perfP secs (wrL g i ts)) : s ∈ secs ∨ ∃ j b, b ∈ ts ∧ s = encB g j 3 b := by
  rw [perf_wr ts i secs h] at hs
  rcases List.mem_append.1 hs with hs | hs
  · exact .inl (List.mem_of_mem_take hs)
  rcases List.mem_append.1 hs with hs | hs
  · exact .inr (encsL_mem hs)
  · exact .inl (List.mem_of_mem_drop hs)
theorem TxOk.app {a b : List (List Nat)} (h : TxOk a) (k : TxOk b) : TxOk (a ++ b) := fun t ht => (List.mem_append.1 ht).elim (h t) (k t)
theorem TxOk.take {a : List (List Nat)} (h : TxOk a) (k : Nat) : TxOk (a.take k) := fun t ht => h t (List.mem_of_mem_take ht)
/-- The sectors after some of the writes: all that is asked of them. -/
theorem perf_all {g : Nat} {ts T secs : List (List Nat)} (hg : 0 < g ∧ g < 4294967296) (hT : TxOk T) (hl : ts.length + T.length ≤ secs.length) (h128 : ∀ s ∈ secs, s.length = 128) (hby : ∀ s ∈ secs, ∀ x ∈ s, x < 256) (hG : ∀ s ∈ secs, genS s < g ∧ getB (s.drop 124) < g) :
    ∀ s ∈ perfP secs (wrL g ts.length T), s.length = 128 ∧ (∀ x ∈ s, x < 256) ∧ genS s < g + 1 ∧ getB (s.drop 124) < g + 1 := fun s hs => by
  rcases perf_mem hl hs with h | ⟨j, b, hb, rfl⟩
  · have := hG s h
    exact ⟨h128 s h, hby s h, by omega, by omega⟩
  · obtain ⟨h1, h2⟩ := hT b hb
    refine ⟨encB_len h1, encB_lt h1 (by omega) h2, ?_, ?_⟩
    · rw [genS_enc hg.2]; omega
    · rw [encB_d124 h1, getB_be4 hg.2]; omega
/-- What Sync brings about on a disk that holds texts. -/
theorem Hol.sync {d : Dsk} {ts T : List (List Nat)} {m : Nat} (h : Hol d ts m) (hm : m < 4294967296) (hT : TxOk T) (hl : ts.length + T.length ≤ d.secs.length) :
    ((syncJ d ts T).2 = 0 ∧ Hol (syncJ d ts T).1 (ts ++ T) (m + 1) ∧ (syncJ d ts T).1.secs.length = d.secs.length ∧ (d.left < 0 → (syncJ d ts T).1.left = d.left)) ∨
    (0 ≤ d.left ∧ (syncJ d ts T).2 = 40 ∧ (syncJ d ts T).1.secs.length = d.secs.length ∧ ∃ k, k < T.length ∧ Hol ⟨(syncJ d ts T).1.secs, [], -1, false⟩ (ts ++ T.take k) (m + 1)) := by
  have hgen := h.gen
  obtain ⟨hG, hg0⟩ := genP_lt (l := d.secs)
  have hng : ¬ 4294967296 ≤ genP d.secs := by omega
  by_cases hT0 : T = []
  · left
    have e : syncJ d ts T = (d, 0) := by unfold syncJ; rw [if_neg hng, if_pos hT0]
    rw [e, hT0, List.append_nil]
    exact ⟨rfl, ⟨h.ok, h.run, h.pend, h.hd, h.by_, h.tx, Nat.le_succ_of_le hgen⟩, rfl, fun _ => rfl⟩
  obtain ⟨g, hge⟩ : ∃ g, g = genP d.secs := ⟨_, rfl⟩
  have hgg : 0 < g ∧ g < 4294967296 := by omega
  rw [← hge] at hG
  have e : syncJ d ts T = syncP ⟨d.secs, wrL g ts.length T, d.left, d.stop⟩ := by unfold syncJ; rw [if_neg hng, if_neg hT0, used_1 h.tx, hge]
  have k1 := h.ok
  have k7 := k1.2.2.2.2.2.2
  have hall : ∀ k : Nat, ∀ s ∈ perfP d.secs (wrL g ts.length (T.take k)), s.length = 128 ∧ (∀ x ∈ s, x < 256) ∧ genS s < g + 1 ∧ getB (s.drop 124) < g + 1 := fun k => perf_all hgg (hT.take k) (by rw [List.length_take]; omega) k7 h.by_ hG
  have hokd : okD ⟨d.secs, wrL g ts.length T, d.left, d.stop⟩ := by
    refine ⟨k1.1, k1.2.1, by show (wrL _ _ _).length ≤ 4096; rw [wrL_len]; have := k1.2.1; omega, k1.2.2.2.1, k1.2.2.2.2.1, fun x hx => ?_, k7⟩
    obtain ⟨j, b, h1, h2, rfl⟩ := wrL_mem hx
    exact ⟨by show (0 : Int) ≤ ((j : Nat) : Int); omega, by show ((j : Nat) : Int) < (d.secs.length : Int); omega, encB_len (hT b h1).1⟩
  have hrun : ¬ runsB ⟨d.secs, wrL g ts.length T, d.left, d.stop⟩ = false := by unfold runsB; rw [decide_eq_true ⟨hokd, h.run⟩]; decide
  have hwl := wrL_len g ts.length T
  have hpl : ∀ l, (perfP d.secs l).length = d.secs.length := fun l => perfP_len _ _
  have k4 := k1.2.2.2.1
  have k5 := k1.2.2.2.2.1
  by_cases hleft : 0 ≤ d.left ∧ d.left < T.length
  · right
    obtain ⟨k, hk⟩ : ∃ k, k = d.left.toNat := ⟨_, rfl⟩
    have hkT : k < T.length := by omega
    have hx : T[k]? = some T[k] := List.getElem?_eq_getElem hkT
    have hw := wrL_at g ts.length T k hx
    have e2 : syncP ⟨d.secs, wrL g ts.length T, d.left, d.stop⟩ = (tornP ⟨d.secs, wrL g ts.length T, d.left, d.stop⟩, 40) := by unfold syncP; rw [if_neg hrun, if_pos ⟨hleft.1, by show d.left < ((wrL g ts.length T).length : Int); rw [hwl]; exact hleft.2⟩]
    obtain ⟨S, hS⟩ : ∃ S, S = perfP d.secs (wrL g ts.length (T.take k)) := ⟨_, rfl⟩
    have hSl : S.length = d.secs.length := by rw [hS]; exact hpl _
    have hSx : S[ts.length + k]? = d.secs[ts.length + k]? := by
      rw [hS, perf_wr _ _ _ (by rw [List.length_take]; omega), List.length_take, show min k T.length = k by omega]
      rw [List.getElem?_append_right (by rw [List.length_take]; omega), List.length_take, show min ts.length d.secs.length = ts.length by omega, List.getElem?_append_right (by rw [encsL_len, List.length_take]; omega), encsL_len, List.length_take, List.getElem?_drop]
      congr 1
      omega
    have hold : d.secs[ts.length + k]? = some d.secs[ts.length + k] := List.getElem?_eq_getElem (by omega)
    obtain ⟨old, hol⟩ : ∃ old, d.secs[ts.length + k]? = some old := ⟨_, hold⟩
    have hom := List.mem_of_getElem? hol
    have e3 : tornP ⟨d.secs, wrL g ts.length T, d.left, d.stop⟩ = ⟨S.set (ts.length + k) ((encB g (ts.length + k) 3 T[k]).take 64 ++ old.drop 64), [], 0, true⟩ := by
      unfold tornP
      show (match (wrL g ts.length T)[d.left.toNat]? with | some x => _ | none => _) = _
      rw [← hk, hw]
      show Dsk.mk ((perfP d.secs ((wrL g ts.length T).take k)).set (((ts.length + k : Nat) : Int)).toNat ((encB g (ts.length + k) 3 T[k]).take 64 ++ ((perfP d.secs ((wrL g ts.length T).take k)).getD (((ts.length + k : Nat) : Int)).toNat []).drop 64)) [] 0 true = _
      rw [wrL_take, ← hS, Int.toNat_natCast, List.getD_eq_getElem?_getD, hSx, hol]
      rfl
    rw [e, e2, e3]
    have ht := hT T[k] (List.getElem_mem hkT)
    have hbad : ∀ n, ¬ goodP ((encB g (ts.length + k) 3 T[k]).take 64 ++ old.drop 64) n := fun n => torn_bad hgg.2 ht ⟨k7 old hom, h.by_ old hom⟩ (by omega) (hG old hom).2
    have hel := encB_len (g := g) (num := ts.length + k) (kind := 3) ht.1
    have htl : (T.take k).length = k := by rw [List.length_take]; omega
    have hmem : ∀ s ∈ S.set (ts.length + k) ((encB g (ts.length + k) 3 T[k]).take 64 ++ old.drop 64), s.length = 128 ∧ (∀ x ∈ s, x < 256) ∧ genS s < g + 1 ∧ getB (s.drop 124) < g + 1 := fun s hs => by
      rcases List.mem_or_eq_of_mem_set hs with hs | rfl
      · rw [hS] at hs
        exact hall k s hs
      · refine ⟨by rw [List.length_append, List.length_take, List.length_drop, hel, k7 old hom]; omega, fun x hx => ?_, ?_, ?_⟩
        · rcases List.mem_append.1 hx with hx | hx
          · exact encB_lt ht.1 (by omega) ht.2 x (List.mem_of_mem_take hx)
          · exact h.by_ old hom x (List.mem_of_mem_drop hx)
        · unfold genS
          rw [List.take_append_of_le_length (by rw [List.length_take, hel]; omega), List.take_take, show min 4 64 = 4 from rfl, encB_t4, getB_be4 hgg.2]
          omega
        · rw [List.drop_append, List.drop_of_length_le (by rw [List.length_take]; omega), List.length_take, hel, List.nil_append, List.drop_drop]
          have := (hG old hom).2
          show getB (old.drop 124) < g + 1
          omega
    have hsl : (S.set (ts.length + k) ((encB g (ts.length + k) 3 T[k]).take 64 ++ old.drop 64)).length = d.secs.length := by rw [List.length_set, hSl]
    refine ⟨hleft.1, rfl, hsl, k, hkT, ⟨⟨by show 1 ≤ (S.set _ _).length; rw [hsl]; exact k1.1, by show (S.set _ _).length ≤ 4096; rw [hsl]; exact k1.2.1, Nat.zero_le _, by show (-1 : Int) ≤ -1; omega, by show (-1 : Int) ≤ 65536; omega, (fun x hx => by cases hx), fun s hs => (hmem s hs).1⟩, rfl, rfl, ?_, fun s hs => (hmem s hs).2.1, h.tx.app (hT.take k), ?_⟩⟩
    · have := Hd.torn (gen := g) (ts' := T.take k) h.hd hgg (fun s hs => (hG s hs).1) (by rw [htl]; omega) hbad
      rw [htl, ← hS] at this
      exact this
    · exact Nat.le_trans (genP_le2 (m := g + 1) (by omega) fun s hs => (hmem s hs).2.2) (by omega)
  · left
    have e2 : syncP ⟨d.secs, wrL g ts.length T, d.left, d.stop⟩ = (⟨perfP d.secs (wrL g ts.length T), [], if 0 ≤ d.left then d.left - T.length else d.left, false⟩, 0) := by
      unfold syncP
      rw [if_neg hrun, if_neg (by rintro ⟨a, b⟩; exact hleft ⟨a, by have b : d.left < ((wrL g ts.length T).length : Int) := b; rw [hwl] at b; exact b⟩), hwl]
    have hmem := hall T.length
    rw [List.take_length] at hmem
    rw [e, e2]
    refine ⟨rfl, ⟨⟨by show 1 ≤ (perfP _ _).length; rw [hpl]; exact k1.1, by show (perfP _ _).length ≤ 4096; rw [hpl]; exact k1.2.1, Nat.zero_le _, ?_, ?_, (fun x hx => by cases hx), fun s hs => (hmem s hs).1⟩, rfl, rfl, ?_, fun s hs => (hmem s hs).2.1, h.tx.app hT, ?_⟩, hpl _, fun hn => ?_⟩
    · show (-1 : Int) ≤ if 0 ≤ d.left then d.left - T.length else d.left
      split <;> omega
    · show (if 0 ≤ d.left then d.left - T.length else d.left) ≤ (65536 : Int)
      split <;> omega
    · exact h.hd.all hgg (fun s hs => (hG s hs).1) hl
    · exact Nat.le_trans (genP_le2 (m := g + 1) (by omega) fun s hs => (hmem s hs).2.2) (by omega)
    · show (if 0 ≤ d.left then d.left - T.length else d.left) = d.left
      rw [if_neg (by omega)]
/-- Postings: texts. -/
theorem P1.pos {p : Post} (h : P1 p) : PosI p := fun x hx => by
  have := h.no
  have := h.hour
  have := h.sort
  have := h.n
  have := h.frm
  have := h.to
  simp only [Post.ns, List.mem_cons, List.not_mem_nil, or_false] at hx
  rcases hx with rfl | rfl | rfl | rfl | rfl | rfl <;> omega
theorem PosI.i64 {p : Post} (h : PosI p) : ∀ n ∈ p.ns, I64 n := fun n hn => by have := h n hn; unfold I64; omega
theorem txts_ok {l : List Post} (h : ∀ p ∈ l, PosI p) : TxOk (l.map txt) := fun t ht => by
  obtain ⟨p, hp, rfl⟩ := List.mem_map.1 ht
  exact ⟨by have := (txt_len p).2; omega, txt_byte (h p hp).i64⟩
theorem rdL_txt : ∀ {l : List Post}, (∀ p ∈ l, PosI p) → rdL (l.map txt) = l
  | [], _ => rfl
  | p :: l, h => by
    rw [List.map_cons, rdL_some (rdT_some.2 ⟨rfl, (h p List.mem_cons_self).i64⟩), rdL_txt fun q hq => h q (List.mem_cons_of_mem _ hq)]
theorem LOk.pos {l : List Post} (h : LOk l) : ∀ p ∈ l, PosI p := fun _ hp => (h.p1 hp).pos
/-- What has been stored is loaded. -/
theorem Hol.load {d : Dsk} {l : List Post} {m : Nat} (h : Hol d (l.map txt) m) (hl : LOk l) : loadP d = (l, 0) := by
  unfold loadP
  rw [h.open_, if_neg (fun q => q rfl), rdL_txt hl.pos, vN_all.2 hl, List.take_length]
/-- A longer ledger is stored. -/
theorem Hol.store {d : Dsk} {l : List Post} {k m : Nat} (h : Hol d ((l.take k).map txt) m) (hm : m < 4294967296) (hl : LOk l) (hn : l.length ≤ 4096) (hk : k ≤ l.length) :
    (d.secs.length < l.length ∧ storeP d l = (zeroD, 2)) ∨
    ((storeP d l).2 = 0 ∧ Hol (storeP d l).1 (l.map txt) (m + 1) ∧ (storeP d l).1.secs.length = d.secs.length ∧ (d.left < 0 → (storeP d l).1.left = d.left)) ∨
    (0 ≤ d.left ∧ (storeP d l).2 = 40 ∧ (storeP d l).1.secs.length = d.secs.length ∧ ∃ j, k ≤ j ∧ j < l.length ∧ Hol ⟨(storeP d l).1.secs, [], -1, false⟩ ((l.take j).map txt) (m + 1)) := by
  have h0 : ldgErr l = 0 := ldgErr_0.2 ⟨hn, hl⟩
  have hrl : (recsD d.secs).length = k := by rw [h.recs, List.length_map, List.length_take]; omega
  have hR : recsD d.secs = (l.map txt).take k := by rw [h.recs, List.map_take]
  by_cases hlt : d.secs.length < l.length
  · left
    refine ⟨hlt, ?_⟩
    unfold storeP
    rw [if_neg (fun q => q h0), h.open_, if_neg (fun q => q rfl), if_neg (fun q => q (by rw [hrl]; exact hR)), if_pos hlt]
  · right
    have e : storeP d l = syncJ d ((l.take k).map txt) ((l.map txt).drop k) := by
      unfold storeP
      rw [if_neg (fun q => q h0), h.open_, if_neg (fun q => q rfl), if_neg (fun q => q (by rw [hrl]; exact hR)), if_neg hlt, hrl, h.recs]
    have hT : TxOk ((l.map txt).drop k) := fun t ht => txts_ok hl.pos t (List.mem_of_mem_drop ht)
    have htl : ((l.map txt).drop k).length = l.length - k := by rw [List.length_drop, List.length_map]
    have hkl : ((l.take k).map txt).length = k := by rw [List.length_map, List.length_take]; omega
    have happ : (l.take k).map txt ++ (l.map txt).drop k = l.map txt := by rw [List.map_take, List.take_append_drop]
    rw [e]
    rcases h.sync hm hT (by rw [hkl, htl]; omega) with ⟨a, b, c, f⟩ | ⟨a, b, c, j, hj, f⟩
    · rw [happ] at b
      exact .inl ⟨a, b, c, f⟩
    · refine .inr ⟨a, b, c, k + j, by omega, by omega, ?_⟩
      have : (l.take k).map txt ++ ((l.map txt).drop k).take j = (l.take (k + j)).map txt := by
        rw [List.map_take, List.map_take, List.take_add]
      rw [this] at f
      exact f
/-- A disk that stops later, and one that is started again. -/
theorem Hol.stop {d : Dsk} {ts : List (List Nat)} {m : Nat} {n : Int} (h : Hol d ts m) (hn : 0 ≤ n ∧ n ≤ 65536) : stopP d n = (⟨d.secs, d.pend, n, d.stop⟩, 0) ∧ Hol ⟨d.secs, d.pend, n, d.stop⟩ ts m := by
  have k := h.ok
  refine ⟨?_, ⟨⟨k.1, k.2.1, k.2.2.1, by show -1 ≤ n; omega, hn.2, k.2.2.2.2.2.1, k.2.2.2.2.2.2⟩, h.run, h.pend, h.hd, h.by_, h.tx, h.gen⟩⟩
  unfold stopP
  rw [if_neg (by unfold runsB; rw [decide_eq_true ⟨h.ok, h.run⟩]; decide), if_neg (by omega)]
theorem Hol.restart {d : Dsk} {ts : List (List Nat)} {m : Nat} (h : Hol d ts m) : Hol ⟨d.secs, [], -1, false⟩ ts m := by
  have k := h.ok
  exact ⟨⟨k.1, k.2.1, Nat.zero_le _, by show (-1 : Int) ≤ -1; omega, by show (-1 : Int) ≤ 65536; omega, (fun x hx => by cases hx), k.2.2.2.2.2.2⟩, rfl, rfl, h.hd, h.by_, h.tx, h.gen⟩
end Go.Proofs.YtehcphboliofaaaGreatDoor

/- Layer 56: Store. -/
namespace Go.Proofs.YtehcphboliofaaaGreatDoor
open Go Go.RowKit

section
variable {D : Nat → Prop} {w : World}
theorem c_textsX {A : Option Addr} {n c : Nat} {l : List Post} (hs : SlR tPost D w A n l) (hp : ∀ p ∈ l, PosI p) (hn : n ≤ 100000) : CallZ Tryz.prog 49 #[.agg #[.slice A n c]] w (fun v w' => ∃ B d, v = .slice B n d ∧ n ≤ d ∧ Ext w w' ∧ SlR (tSl tU8) (fun b => w.heap.size ≤ b) w' B n (l.map txt)) := by
  refine fn_rule (args := [.agg #[.slice A n c]]) Tryz.func49 (by kernel_rfl) ?_
  have hlen := hs.len
  refine box (fun g w1 h1 => ?_)
  have x1 := h1.ext
  have s01 := x1.size
  refine fldA ?_
  refine ld (.slice A n c) (h1.blk.cell rfl) ?_
  refine len ?_
  refine loop4 (fun (k : Nat) (B : Option Addr) (m d : Nat) => [(2, .slice B m d), (8, iv (k : Int))]) (fun k B m d u => k ≤ n ∧ m = k ∧ LBx (fun b => w.heap.size ≤ b) w u B m d ((l.take k).map txt)) (fun k _ _ _ _ => n - k) 0 none 0 0 ⟨rfl, rfl, trivial⟩ ⟨by omega, rfl, LBx.nil x1⟩ rfl ?_
  rintro G k B m d u ⟨hk, rfl, own⟩
  have xu := own.ex
  refine cD (fun hlt => ?_) (fun hge => ?_)
  · obtain ⟨bx, o, cs, p, rfl, hx, -, -, hc, hcs⟩ := (hs.ext xu).at_ (k := m) (by omega)
    have hcs : cs = p.c := hcs
    subst hcs
    refine idx m rfl (by omega) ?_
    refine ldA p.c hc rfl ?_
    refine alloc (fun b6 w6 h6 => ?_)
    refine stA (vs := p.c) h6.blk rfl (Nat.le_of_ble_eq_true rfl) (by simp [Value.oneCell']) (fun w7 B7 k7 _ => ?_)
    have e6 := h6.at_
    have x7 : Ext u w7 := h6.ext.then k7 fun b hb _ e => by omega
    refine ldA p.c (.blk B7) rfl ?_
    refine call_of (c_text (hp p (List.mem_of_getElem? hx))) ?_
    rintro _ w8 ⟨B8, m8, d8, rfl, own8⟩
    refine lit [.slice B8 m8 d8] (fun q w9 hq => ?_)
    have x8 := x7.trans own8.ext
    have s7 := x7.size
    have su := xu.size
    have hne : ∀ b, w7.heap.size ≤ b → B ≠ some (ad b 0) ∧ w.heap.size ≤ b := fun b hb => ⟨fun e => by have := (own.lt e).2; omega, by omega⟩
    have ht := txt_len p
    have hl8 := own8.own.len
    rw [List.length_map] at hl8
    refine appX (own.then x8) (own8.u8 (D := fun b => B ≠ some (ad b 0) ∧ w.heap.size ≤ b) (txt_byte fun n hn => by have := hp p (List.mem_of_getElem? hx) n hn; unfold I64; omega) (by omega) hne) own8.le hq (by omega) (fun A' c' w' own' _ _ => ?_)
    refine arI (n := (m : Int) + 1) (by omega) ?_
    refine next4 (m + 1) A' (m + 1) c' ⟨rfl, by rw [Int.natCast_add]; rfl, trivial⟩ ⟨by omega, rfl, ?_⟩ (by omega)
    rw [List.take_add_one, hx]
    simpa using own'
  · have hm : m = n := by omega
    subst hm
    rw [List.take_of_length_le (by omega)] at own
    have hl := own.len
    obtain ⟨cs, o, f⟩ := own
    exact ret1 (.slice B m d) rfl ⟨B, d, rfl, o.le, xu, o.own.rd (a := tSl tU8) (f.more fun _ _ h => h.2) hl (by omega) fun g hg => o.new g hg⟩
set_option maxRecDepth 8000 in
set_option maxHeartbeats 4000000 in
theorem c_lStore {D2 : Nat → Prop} {d : Dsk} {csd : List Value} {A : Option Addr} {n c : Nat} {l : List Post} (hd : DskR D w csd d) (hl : SlR tPost D2 w A n l) :
    CallZ Tryz.prog 27 #[.agg csd.toArray, .agg #[.slice A n c]] w (fun v w' => RetE D w w' v (storeP d l)) := by
  obtain ⟨A1, n1, c1, B1, m1, d1, rfl, hs, hc, hp, hc2, hId⟩ := hd.ex
  have hd0 := hd.more (D' := fun b => D b ∧ b < w.heap.size) fun b hb h => ⟨h, hb⟩
  have hln := hl.len
  refine fn_rule (args := [.agg #[.slice A1 n1 c1, .slice B1 m1 d1, iv d.left, .bool d.stop], .agg #[.slice A n c]]) Tryz.func27 (by kernel_rfl) ?_
  refine box (fun b2 w1 h1 => ?_)
  have G1 : Blk w1 b2 44 [.slice A1 n1 c1, .slice B1 m1 d1, iv d.left, .bool d.stop] := h1.blk
  refine box (fun b3 w2 h2 => ?_)
  have L2 : Blk w2 b3 24 [.slice A n c] := h2.blk
  refine alloc (fun b4 w3 h3 => ?_)
  have R3 : Blk w3 b4 44 zeroDC := h3.blk
  have e1 := h1.at_
  have e2 := h2.at_
  have e3 := h3.at_
  have x13 := h2.ext.trans h3.ext
  have x03 := h1.ext.trans x13
  have s1 := h1.ext.size
  have s2 := h2.ext.size
  have lR := R3.lt
  refine ldA [.slice A n c] (.blk (L2.ext h3.ext)) rfl ?_
  refine call_of (c_gCheck (hl.ext x03)) ?_
  rintro _ w4 ⟨rfl, x4⟩
  have x04 := x03.trans x4
  have R4 := R3.ext x4
  have G4 := (G1.ext x13).ext x4
  have L4 := (L2.ext h3.ext).ext x4
  refine cN (fun he => ?_) (fun he => ?_)
  · refine ldA zeroDC (.blk R4) rfl ?_
    refine stA (vs := zeroDC) R4 rfl (Nat.le_of_ble_eq_true rfl) (by simp [Value.oneCell']) (fun we Be ke _ => ?_)
    refine ret ?_
    refine resL (.agg (zeroDC).toArray) (holds_agg (.blk Be) rfl) ?_
    exact ⟨zeroDC, by unfold storeP; rw [if_pos he]; rfl, by unfold storeP; rw [if_pos he]; exact zeroD_r, x04.then ke fun i hi _ e => by omega⟩
  obtain ⟨h4096, hLok⟩ := ldgErr_0.1 he
  refine ldA [.slice A1 n1 c1, .slice B1 m1 d1, iv d.left, .bool d.stop] (.blk G4) rfl ?_
  refine call_of (c_jOpen ((hd.ext x04).more fun _ _ _ => trivial)) ?_
  rintro _ w5 ⟨csj, rfl, hj, x5⟩
  obtain ⟨A3, n3, c3, rfl, hs3, hc3, -, -⟩ := hj.ex
  refine alloc (fun b6 w6 h6 => ?_)
  refine stA (vs := [.slice A3 n3 c3, iv (openP d).1.many, iv (openP d).1.syn]) h6.blk rfl (Nat.le_of_ble_eq_true rfl) (by simp [Value.oneCell']) (fun w7 B7 k7 _ => ?_)
  have B7 : Blk w7 b6 108 [.slice A3 n3 c3, iv (openP d).1.many, iv (openP d).1.syn] := B7
  have e6 := h6.at_
  have x57 : Ext w5 w7 := h6.ext.then k7 fun i hi _ e => by omega
  have x47 := x5.trans x57
  have x07 := x04.trans x47
  have R7 := R4.ext x47
  have G7 := G4.ext x47
  have L7 := L4.ext x47
  have s04 := x04.size
  have s45 := x5.size
  have s4 := x4.size
  have s57 := x57.size
  have lb7 := B7.lt
  refine cN (fun ho => ?_) (fun ho => ?_)
  · refine ldA zeroDC (.blk R7) rfl ?_
    refine stA (vs := zeroDC) R7 rfl (Nat.le_of_ble_eq_true rfl) (by simp [Value.oneCell']) (fun we Be ke _ => ?_)
    refine ret ?_
    refine resL (.agg (zeroDC).toArray) (holds_agg (.blk Be) rfl) ?_
    exact ⟨zeroDC, by unfold storeP; rw [if_neg (fun q => q he), if_pos ho]; rfl, by unfold storeP; rw [if_neg (fun q => q he), if_pos ho]; exact zeroD_r, x07.then ke fun i hi _ e => by omega⟩
  obtain ⟨hok, hst, hpe, hop⟩ := openP_ok ho
  have ho : (openP d).2 = 0 := ho
  have k1 := hok.1
  have k2 := hok.2.1
  rw [hop] at hj hs3 B7
  have hn3 := hs3.len
  have hn3 : (recsD d.secs).length = n3 := hn3
  have hle3 : n3 ≤ d.secs.length := by have := recG_len d.secs 0 none 0; unfold recsD at hn3; rw [List.length_map] at hn3; omega
  have B7 : Blk w7 b6 108 [.slice A3 n3 c3, iv (d.secs.length : Int), iv (n3 : Int)] := by rw [← hn3]; rw [← hn3] at B7; exact B7
  refine ldA [.slice A n c] (.blk L7) rfl ?_
  refine call_of (c_textsX (hl.ext x07) hLok.pos (by omega)) ?_
  rintro _ w8 ⟨T, cT, rfl, hcT, x8, ht⟩
  have B8 := B7.ext x8
  have R8 := R7.ext x8
  have G8 := G7.ext x8
  have x08 := x07.trans x8
  have s8 := x8.size
  have hs8 : SlR (tSl tU8) (fun _ => True) w8 A3 n3 (recsD d.secs) := (hs3.ext x57).ext x8
  have htn : (l.map txt).length = n := ht.len
  obtain ⟨t, het⟩ : ∃ t, t = l.map txt := ⟨_, rfl⟩
  have hok68 : TxOk t := by rw [het]; exact txts_ok hLok.pos
  have hstore : storeP d l = if ¬ recsD d.secs = t.take (recsD d.secs).length then (zeroD, 560) else if d.secs.length < l.length then (zeroD, 2) else syncJ d (recsD d.secs) (t.drop (recsD d.secs).length) := by
    unfold storeP
    rw [if_neg (fun q => q he), if_neg (fun q => q ho), ← het]
  rw [← het] at ht htn
  rw [hn3] at hstore
  refine fldA ?_
  refine ld (.slice A3 n3 c3) (B8.cell rfl) ?_
  refine len ?_
  refine drawP (.take 0 (.take 1 (.take 2 (.take 3 (.take 4 (.take 5 (.take 6 (.take 7 (.take 8 (.take 9 (.take 10 (.take 11 (.take 12 .done))))))))))))) [] (fun y => y = w8) mx (by kernel_rfl) rfl ?_
  refine len ?_
  refine cD (fun hgt => ?_) (fun hgt => ?_)
  · refine ldA zeroDC (.blk R8) rfl ?_
    refine stA (vs := zeroDC) R8 rfl (Nat.le_of_ble_eq_true rfl) (by simp [Value.oneCell']) (fun we Be ke _ => ?_)
    refine ret ?_
    refine resL (.agg (zeroDC).toArray) (holds_agg (.blk Be) rfl) ?_
    have hres : storeP d l = (zeroD, 560) := by
      rw [hstore, if_pos]
      intro q
      have := congrArg List.length q
      rw [List.length_take] at this
      omega
    exact ⟨zeroDC, by rw [hres]; rfl, by rw [hres]; exact zeroD_r, x08.then ke fun i hi _ e => by omega⟩
  refine fldA ?_
  refine ld (.slice A3 n3 c3) (B8.cell rfl) ?_
  refine slcR 0 n3 ht hcT rfl rfl (by omega) (by omega) rfl (fun A10 hA10 => ?_)
  have s10 := hA10 _ w8 ht
  rw [List.drop_zero] at s10
  refine callQB (b := decide (recsD d.secs = t.take n3)) (fun y hy => by subst hy; exact c_equalFB (f := 61) hs8 s10 (fun h1 h2 => c_equalB h1 h2)) (fun hq => ?_) (fun hq => ?_)
  rotate_left
  · refine ldA zeroDC (.blk R8) rfl ?_
    refine stA (vs := zeroDC) R8 rfl (Nat.le_of_ble_eq_true rfl) (by simp [Value.oneCell']) (fun we Be ke _ => ?_)
    refine ret ?_
    refine resL (.agg (zeroDC).toArray) (holds_agg (.blk Be) rfl) ?_
    have hres : storeP d l = (zeroD, 560) := by rw [hstore, if_pos (of_decide_eq_false hq)]
    exact ⟨zeroDC, by rw [hres]; rfl, by rw [hres]; exact zeroD_r, x08.then ke fun i hi _ e => by omega⟩
  have hR : recsD d.secs = t.take n3 := of_decide_eq_true hq
  rw [if_neg (fun q => q hR)] at hstore
  refine slcR n3 n ht hcT rfl rfl (by omega) (by omega) rfl (fun A12 hA12 => ?_)
  have s12 := hA12 _ w8 ht
  rw [List.take_of_length_le (by omega)] at s12
  refine len ?_
  have hj8 : JrnR (fun i => i ≠ b6) w8 [.slice A3 n3 c3, iv (d.secs.length : Int), iv (n3 : Int)] ⟨t.take (n3 + 0), d.secs.length, n3⟩ := by
    have h := ((hj.more (D' := fun i => i < w5.heap.size) fun b hb _ => hb).ext x57).ext x8
    rw [Nat.add_zero, ← hR]
    rw [← hn3] at h ⊢
    exact h.more fun b _ hb => by omega
  refine loop_rule (fun k : Nat => [(49, iv (k : Int))]) (fun k u => n3 + k ≤ n ∧ n3 + k ≤ d.secs.length ∧ Kept (fun i => i ≠ b6) w8 u ∧ ∃ csj, Blk u b6 108 csj ∧ JrnR (fun i => i ≠ b6) u csj ⟨t.take (n3 + k), d.secs.length, n3⟩) (fun k _ => n - k) 0 ⟨rfl, trivial⟩ ⟨by omega, by omega, .refl _ _, _, B8, hj8⟩ rfl ?_
  rintro G k u ⟨hk, hks, ku, csj, Bu, ju⟩
  have su := ku.size
  have x0u : Ext w u := x08.then ku fun i hi _ => by omega
  obtain ⟨A4, n4, c4, rfl, -⟩ := ju.ex
  have htk : TxOk (t.take (n3 + k)) := hok68.take _
  have hlk : (t.take (n3 + k)).length = n3 + k := by rw [List.length_take]; omega
  have husk : usedN (t.take (n3 + k)) = n3 + k := by rw [used_1 htk, hlk]
  have hsmk : SmallJ (t.take (n3 + k)) := ⟨by omega, fun b hb => by have := (htk b hb).1; omega⟩
  have Ru := R8.kept ku (show b4 ≠ b6 by omega)
  have hjE : jE ⟨t.take (n3 + k), d.secs.length, n3⟩ = 0 := by
    unfold jE
    rw [if_neg]
    simp only [hlk, husk]
    omega
  refine cD (fun hlt => ?_) (fun hge => ?_)
  · obtain ⟨bx, o, csx, x, rfl, hx, -, -, hcx, A2, n2, c2', rfl, hs2, hc2'⟩ := (s12.kept ku fun i _ hi => by omega).at_ (k := k) (by omega)
    refine idx k rfl (by omega) ?_
    refine ld (.slice A2 n2 c2') (hcx 0 _ rfl) ?_
    have hxt : t[n3 + k]? = some x := by rw [List.getElem?_drop] at hx; exact hx
    have hx112 := (hok68 x (List.mem_of_getElem? hxt)).1
    have hn2 := hs2.len
    have hsec : secN x = 1 := by unfold secN; omega
    refine ldA [.slice A4 n4 c4, iv (d.secs.length : Int), iv (n3 : Int)] (.blk Bu) rfl ?_
    refine call_of (c_jAppendE ju hsmk hs2 (by omega)) ?_
    rintro _ u1 ⟨cs1, rfl, j1, xu1⟩
    have Bu1 := Bu.ext xu1
    have Ru1 := Ru.ext xu1
    have lb6 := Bu.lt
    obtain ⟨A5, n5, c5, rfl, -⟩ := j1.ex
    by_cases hfull : d.secs.length < n3 + k + 1
    · have hap : appendP ⟨t.take (n3 + k), d.secs.length, n3⟩ x = (zeroJ, 2) := by
        unfold appendP
        rw [if_neg (fun q => q hjE), if_pos (by show (secN x : Int) > (d.secs.length : Int) - usedN (t.take (n3 + k)); rw [hsec, husk]; omega)]
      rw [hap]
      refine stA (vs := [.slice A5 n5 c5, iv 0, iv 0]) Bu1 rfl (Nat.le_of_ble_eq_true rfl) (by simp [Value.oneCell']) (fun u2 B2 k2 _ => ?_)
      have Ru2 := Ru1.kept k2 (show b4 ≠ b6 by omega)
      refine cN (fun _ => ?_) (fun h => absurd h (by decide))
      refine ldA zeroDC (.blk Ru2) rfl ?_
      refine stA (vs := zeroDC) Ru2 rfl (Nat.le_of_ble_eq_true rfl) (by simp [Value.oneCell']) (fun we Be ke _ => ?_)
      refine ret ?_
      refine resL (.agg (zeroDC).toArray) (holds_agg (.blk Be) rfl) ?_
      have hres : storeP d l = (zeroD, 2) := by rw [hstore, if_pos (by omega)]
      exact ⟨zeroDC, by rw [hres]; rfl, by rw [hres]; exact zeroD_r, ((x0u.trans xu1).then k2 fun i hi _ e => by omega).then ke fun i hi _ e => by omega⟩
    · have hap : appendP ⟨t.take (n3 + k), d.secs.length, n3⟩ x = (⟨t.take (n3 + (k + 1)), d.secs.length, n3⟩, 0) := by
        unfold appendP
        rw [if_neg (fun q => q hjE), if_neg (by show ¬ (secN x : Int) > (d.secs.length : Int) - usedN (t.take (n3 + k)); rw [hsec, husk]; omega)]
        show (Jrn.mk (t.take (n3 + k) ++ [x]) _ _, (0 : Int)) = _
        rw [← Nat.add_assoc, List.take_add_one (i := n3 + k), hxt]
        rfl
      rw [hap] at j1 ⊢
      refine stA (vs := [.slice A5 n5 c5, iv (d.secs.length : Int), iv (n3 : Int)]) Bu1 rfl (Nat.le_of_ble_eq_true rfl) (by simp [Value.oneCell']) (fun u2 B2 k2 _ => ?_)
      have B2 : Blk u2 b6 108 [.slice A5 n5 c5, iv (d.secs.length : Int), iv (n3 : Int)] := B2
      refine cN (fun h => absurd rfl h) (fun _ => ?_)
      refine arI (n := (k : Int) + 1) (by omega) ?_
      refine next (k + 1) ⟨by rw [Int.natCast_add]; rfl, trivial⟩ ⟨by omega, by omega, (ku.trans (Ext.any xu1)).trans k2, _, B2, (j1.more fun b _ h => ?_).kept k2 fun b _ h => h⟩ (by omega)
      rcases h with h | h
      · exact h
      · omega
  · have hkn : n3 + k = n := by omega
    have htt : t.take (n3 + k) = t := List.take_of_length_le (by omega)
    rw [htt] at ju hsmk husk
    have Gu := G8.kept ku (show b2 ≠ b6 by omega)
    refine ldA [.slice A4 n4 c4, iv (d.secs.length : Int), iv (n3 : Int)] (.blk Bu) rfl ?_
    refine ldA [.slice A1 n1 c1, .slice B1 m1 d1, iv d.left, .bool d.stop] (.blk Gu) rfl ?_
    have happ : recsD d.secs ++ t.drop n3 = t := by rw [hR, List.take_append_drop]
    refine call_of (c_jSync (R := recsD d.secs) (T := t.drop n3) (hd0.ext x0u) (csj := [.slice A4 n4 c4, iv (d.secs.length : Int), iv (n3 : Int)]) (by rw [happ, hn3]; exact ju.more fun _ _ _ => trivial) hok hst hpe rfl (by rw [happ]; exact hsmk) (by rw [happ, husk]; exact hks) (fun b hb => (hok68 b (List.mem_of_mem_drop hb)).1)) ?_
    rintro _ u1 ⟨cj, cs1, rfl, d1', xu1⟩
    have hres : storeP d l = syncJ d (recsD d.secs) (t.drop n3) := by rw [hstore, if_neg (by omega)]
    rw [← hres] at d1' ⊢
    obtain ⟨dr, hdr⟩ : ∃ dr, dr = (storeP d l).1 := ⟨_, rfl⟩
    obtain ⟨er, her⟩ : ∃ er, er = (storeP d l).2 := ⟨_, rfl⟩
    rw [← hdr] at d1'
    rw [← her]
    obtain ⟨A7, n7, c7, B7', m7, c8, rfl, -⟩ := d1'.ex
    have Ru1 := Ru.ext xu1
    have lR4 := Ru.lt
    refine stA (vs := [.slice A7 n7 c7, .slice B7' m7 c8, iv dr.left, .bool dr.stop]) Ru1 rfl (Nat.le_of_ble_eq_true rfl) (by simp [Value.oneCell']) (fun u2 R2 k2 _ => ?_)
    have R2 : Blk u2 b4 44 [.slice A7 n7 c7, .slice B7' m7 c8, iv dr.left, .bool dr.stop] := R2
    refine ldA [.slice A7 n7 c7, .slice B7' m7 c8, iv dr.left, .bool dr.stop] (.blk R2) rfl ?_
    refine stA (vs := [.slice A7 n7 c7, .slice B7' m7 c8, iv dr.left, .bool dr.stop]) R2 rfl (Nat.le_of_ble_eq_true rfl) (by simp [Value.oneCell']) (fun u3 R3' k3 _ => ?_)
    have R3' : Blk u3 b4 44 [.slice A7 n7 c7, .slice B7' m7 c8, iv dr.left, .bool dr.stop] := R3'
    refine ret ?_
    refine resL (.agg #[.slice A7 n7 c7, .slice B7' m7 c8, iv dr.left, .bool dr.stop]) (holds_agg (.blk R3') rfl) ?_
    have k23 := k2.trans k3
    refine ⟨[.slice A7 n7 c7, .slice B7' m7 c8, iv dr.left, .bool dr.stop], by rw [← her]; rfl, ?_, (x0u.trans xu1).then k23 fun i hi _ e => by omega⟩
    rw [← hdr]
    have hkeep : ∀ b, (D b ∧ b < w.heap.size) ∨ u.heap.size ≤ b → b ≠ b4 := fun b h => by
      rcases h with ⟨-, h⟩ | h <;> omega
    exact (d1'.kept k23 fun b _ h => hkeep b h).more fun b _ h => h.elim (fun h => .inl h.1) fun h => .inr (by have := x0u.size; omega)
end
end Go.Proofs.YtehcphboliofaaaGreatDoor
