/- Parts of the proof: Gv Gw Gx Gy Gz H1 H3 H4 H5 H6 H7 D0 D7 D1 D2. -/
import Derived.Test.YtcpogcdadlcdaaaGreatM7
import Derived.Test.YtcpogcdadlcdaaaGreatM4
import Derived.Test.YtcpogcdadlcdaaaGreatM6

/- Layer 40: read, the counts, the search. -/
namespace Go.Proofs.YtcpogcdadlcdaaaGreat
open Go Go.RowKit

/-! ### the least one of a range -/
structure First (p : Int → Bool) (lo hi res : Int) : Prop where
  le : lo ≤ res
  ge : res ≤ hi
  no : ∀ v, lo ≤ v → v < res → p v = false
  yes : res < hi → p res = true
structure Half (p : Int → Bool) (a b lo hi : Int) : Prop where
  a_lo : a ≤ lo
  lo_hi : lo ≤ hi
  hi_b : hi ≤ b
  no : ∀ v, a ≤ v → v < lo → p v = false
  yes : hi < b → p hi = true
theorem Half.start {p : Int → Bool} {a b : Int} (h : a ≤ b) : Half p a b a b := ⟨Int.le_refl _, h, Int.le_refl _, fun v h1 h2 => by omega, fun h => by omega⟩
theorem Half.left {p : Int → Bool} {a b lo hi m : Int} (h : Half p a b lo hi) (h1 : lo ≤ m) (h2 : m < hi) (hp : p m = true) : Half p a b lo m := ⟨h.a_lo, h1, by have := h.hi_b; omega, h.no, fun _ => hp⟩
theorem Half.right {p : Int → Bool} {a b lo hi m : Int} (hm : ∀ v v', a ≤ v → v ≤ v' → v' ≤ b → p v = true → p v' = true) (h : Half p a b lo hi) (h1 : lo ≤ m) (h2 : m < hi) (hp : p m = false) : Half p a b (m + 1) hi :=
  ⟨by have := h.a_lo; omega, by omega, h.hi_b, fun v hv hv2 => (by
    cases hpv : p v with
    | false => rfl
    | true => rw [hm v m hv (by omega) (by have := h.hi_b; omega) hpv] at hp; cases hp), h.yes⟩
theorem Half.done {p : Int → Bool} {a b lo hi : Int} (h : Half p a b lo hi) (e : hi ≤ lo) : First p a b lo := by
  have := h.lo_hi
  obtain rfl : lo = hi := by omega
  exact ⟨h.a_lo, h.hi_b, h.no, h.yes⟩
/-! ### what read says -/
def okC (c : Int) : Bool := decide (0 ≤ c ∧ c ≤ 1073741824)
def tErr (E : Int) (l : List Int) : Int := if 664 < l.length then 2 else if l.all okC && decide (0 ≤ E ∧ E ≤ l.sum) then 0 else 400
theorem tErr_no {E : Int} {l : List Int} (h : tErr E l = 0) : l.length ≤ 664 ∧ (∀ c ∈ l, 0 ≤ c ∧ c ≤ 1073741824) ∧ 0 ≤ E ∧ E ≤ l.sum := by
  unfold tErr at h
  by_cases h1 : 664 < l.length
  · rw [if_pos h1] at h; cases h
  · rw [if_neg h1] at h
    by_cases h2 : (l.all okC && decide (0 ≤ E ∧ E ≤ l.sum)) = true
    · rw [Bool.and_eq_true, decide_eq_true_eq, List.all_eq_true] at h2
      exact ⟨by omega, fun c hc => of_decide_eq_true (h2.1 c hc), h2.2⟩
    · rw [if_neg h2] at h; cases h
def isum (l : List Int) : Int := l.sum
theorem isum_snoc {l : List Int} {c : Int} : isum (l ++ [c]) = isum l + c := by unfold isum; rw [List.sum_append]; simp
theorem isum_b : ∀ {l : List Int}, (∀ c ∈ l, 0 ≤ c ∧ c ≤ 1073741824) → 0 ≤ isum l ∧ isum l ≤ l.length * 1073741824
  | [], _ => by unfold isum; simp
  | c :: l, h => by
    have h1 := isum_b (l := l) fun x hx => h x (List.mem_cons_of_mem _ hx)
    have h2 := h c List.mem_cons_self
    have : isum (c :: l) = c + isum l := by unfold isum; rw [List.sum_cons]
    rw [this, List.length_cons]
    omega
theorem clm_snoc {l : List Int} {k : Nat} {c : Int} (h : l[k]? = some c) : clm (l.take (k + 1)) = clm (l.take k) ++ [(c, (k : Int))] := by
  have hk := (List.getElem?_eq_some_iff.1 h).1
  unfold clm
  rw [List.length_take, List.length_take, Nat.min_eq_left (by omega), Nat.min_eq_left (by omega), List.range_succ, List.map_append]
  congr 1
  · refine List.map_congr_left fun i hi => ?_
    have := List.mem_range.1 hi
    unfold clA
    rw [List.getD_eq_getElem?_getD, List.getD_eq_getElem?_getD, List.getElem?_take, List.getElem?_take, if_pos (by omega), if_pos (by omega)]
  · unfold clA
    rw [List.map_cons, List.map_nil, List.getD_eq_getElem?_getD, List.getElem?_take, if_pos (by omega), h]; rfl
theorem clm_len {l : List Int} : (clm l).length = l.length := by unfold clm; rw [List.length_map, List.length_range]
theorem ceS_snoc {s : List (Int × Int)} {x : Int × Int} {L : Int} : ceS (s ++ [x]) L = ceS s L + min (x.1 / 2) L := by unfold ceS; rw [List.map_append, List.sum_append]; simp
theorem clS_snoc {s : List (Int × Int)} {x : Int × Int} {L : Int} : clS (s ++ [x]) L = clS s L + max 0 (x.1 - x.1 / 2 - L) := by unfold clS; rw [List.map_append, List.sum_append]; simp
theorem halfS_snoc {s : List (Int × Int)} {x : Int × Int} : halfS (s ++ [x]) = halfS s + x.1 / 2 := by unfold halfS; rw [List.map_append, List.sum_append]; simp
def topS (s : List (Int × Int)) : Int := s.foldl (fun a x => max a x.1) 0
theorem topS_snoc {s : List (Int × Int)} {x : Int × Int} : topS (s ++ [x]) = max (topS s) x.1 := by unfold topS; rw [List.foldl_append]; rfl
abbrev Cl0 (s : List (Int × Int)) : Prop := ∀ m ∈ s, 0 ≤ m.1 ∧ m.1 ≤ 1073741824
theorem sum_b {f : Int × Int → Int} : ∀ {s : List (Int × Int)}, (∀ m ∈ s, 0 ≤ f m ∧ f m ≤ 1073741824) → 0 ≤ (s.map f).sum ∧ (s.map f).sum ≤ s.length * 1073741824
  | [], _ => by simp
  | c :: l, h => by
    have h1 := sum_b (s := l) fun x hx => h x (List.mem_cons_of_mem _ hx)
    have h2 := h c List.mem_cons_self
    rw [List.map_cons, List.sum_cons, List.length_cons]
    omega
theorem ceS_b {s : List (Int × Int)} {L : Int} (h : Cl0 s) (hL : 0 ≤ L) : 0 ≤ ceS s L ∧ ceS s L ≤ s.length * 1073741824 := sum_b fun m hm => by have := h m hm; omega
theorem clS_b {s : List (Int × Int)} {L : Int} (h : Cl0 s) (hL : 0 ≤ L) : 0 ≤ clS s L ∧ clS s L ≤ s.length * 1073741824 := sum_b fun m hm => by have := h m hm; omega
theorem halfS_b {s : List (Int × Int)} (h : Cl0 s) : 0 ≤ halfS s ∧ halfS s ≤ s.length * 1073741824 := sum_b fun m hm => by have := h m hm; omega
theorem Cl0.take {s : List (Int × Int)} (h : Cl0 s) (k : Nat) : Cl0 (s.take k) := fun m hm => h m (List.mem_of_mem_take hm)
section
variable {D : Nat → Prop} {w : World}
theorem c_gread {E : Int} {l : List Int} {A : Option Addr} {n c : Nat} (hl : SlR tInt D w A n l) (hE : I64 E) : CallZ Tryz.prog 82 #[iv E, .slice A n c] w (fun v w' =>
    (tErr E l ≠ 0 ∧ v = .tuple #[.slice none 0 0, iv (tErr E l)] ∧ Ext w w') ∨ (tErr E l = 0 ∧ ∃ A' n' c', v = .tuple #[.slice A' n' c', iv 0] ∧ OwnF w w' A' n' c' 154 2 (cls (clm l)) ∧ n' = l.length)) := by
  have l1 := hl.len
  unfold I64 at hE
  refine fn_rule (args := [iv E, .slice A n c]) Tryz.func82 (by kernel_rfl) ?_
  refine len ?_
  refine cD (fun g0 => ?_) (fun g0 => ?_)
  · have e : tErr E l = 2 := by unfold tErr; rw [if_pos (by omega)]
    exact ret2 (.slice none 0 0) (iv 2) rfl rfl (.inl ⟨by rw [e]; decide, by rw [e], .refl _ _⟩)
  have bad : (l.all okC && decide (0 ≤ E ∧ E ≤ l.sum)) = false → tErr E l = 400 := fun h => by unfold tErr; rw [if_neg (by omega), h]; rfl
  refine len ?_
  refine loop_rule (fun s : Nat × Option Addr × Nat => [(14, iv (s.1 : Int)), (6, iv (isum (l.take s.1))), (4, .slice s.2.1 s.1 s.2.2)]) (fun s u => s.1 ≤ n ∧ OwnF w u s.2.1 s.1 s.2.2 154 2 (cls (clm (l.take s.1))) ∧ ∀ c ∈ l.take s.1, 0 ≤ c ∧ c ≤ 1073741824) (fun s _ => n - s.1) (0, none, 0) ⟨rfl, rfl, rfl, trivial⟩ ⟨by omega, .nil (.refl _ _), fun c hc => by simp at hc⟩ rfl ?_
  rintro G ⟨k, B, cb⟩ u ⟨hk, own, hall⟩
  have hsb := isum_b hall
  rw [List.length_take] at hsb
  refine cD (fun hlt => ?_) (fun hge => ?_)
  · have hlt : k < n := by omega
    obtain ⟨b, o, cs, a, rfl, ha, -, -, hc, rfl, hi⟩ := (hl.ext own.ext).at_ hlt
    unfold I64 at hi
    have htk : l.take (k + 1) = l.take k ++ [a] := by rw [List.take_add_one, ha]; rfl
    have no : ¬ (0 ≤ a ∧ a ≤ 1073741824) → ∀ K : Value → World → Prop, True → tErr E l = 400 := fun h K _ => bad (by
      rw [Bool.and_eq_false_iff]; left
      rw [Bool.eq_false_iff]
      intro h2
      exact h (of_decide_eq_true (List.all_eq_true.1 h2 a (List.mem_of_getElem? ha))))
    refine idx k rfl hlt ?_
    refine ld (iv a) (hc 0 _ rfl) ?_
    refine cD (fun g1 => ?_) (fun g1 => ?_)
    · have e := no (by omega) (fun _ _ => True) trivial
      exact ret2 (.slice none 0 0) (iv 400) rfl rfl (.inl ⟨by rw [e]; decide, by rw [e], own.ext⟩)
    refine cD (fun g2 => ?_) (fun g2 => ?_)
    · have e := no (by omega) (fun _ _ => True) trivial
      exact ret2 (.slice none 0 0) (iv 400) rfl rfl (.inl ⟨by rw [e]; decide, by rw [e], own.ext⟩)
    refine arI (by omega) ?_
    refine bld [iv a, iv (k : Int)] (by kernel_rfl) ?_
    refine lit [.agg #[iv a, iv (k : Int)]] (fun g u1 hq => ?_)
    refine appF (own.then hq.ext) (hq.src (sz := 2) rfl) (by omega) (fun A' c' u2 o2 _ _ => ?_)
    refine arI (by omega) ?_
    refine next (k + 1, A', c') ⟨by rw [Int.natCast_add]; rfl, by rw [htk, isum_snoc]; rfl, rfl, trivial⟩ ⟨by omega, ?_, fun c hc => ?_⟩ (by simp only; omega)
    · rw [clm_snoc ha, cls_app]; exact o2
    · rw [htk, List.mem_append, List.mem_singleton] at hc
      rcases hc with hc | rfl
      · exact hall c hc
      · omega
  · have hkn : k = n := by omega
    subst hkn
    rw [List.take_of_length_le (by omega)] at own hall hsb ⊢
    have hall' : l.all okC = true := List.all_eq_true.2 fun c hc => decide_eq_true (hall c hc)
    have no : ¬ (0 ≤ E ∧ E ≤ isum l) → tErr E l = 400 := fun h => bad (by rw [hall', Bool.true_and]; exact decide_eq_false h)
    refine cD (fun g1 => ?_) (fun g1 => ?_)
    · have e := no (by omega)
      exact ret2 (.slice none 0 0) (iv 400) rfl rfl (.inl ⟨by rw [e]; decide, by rw [e], own.ext⟩)
    refine cD (fun g2 => ?_) (fun g2 => ?_)
    · have e := no (by omega)
      exact ret2 (.slice none 0 0) (iv 400) rfl rfl (.inl ⟨by rw [e]; decide, by rw [e], own.ext⟩)
    refine ret2 (.slice B k cb) (iv 0) rfl rfl (.inr ⟨?_, B, k, cb, rfl, own, by omega⟩)
    unfold tErr
    rw [if_neg (by omega), hall', Bool.true_and, if_pos (decide_eq_true ⟨by omega, show E ≤ isum l by omega⟩)]
theorem c_gfirst {lo hi : Int} {p : Int → Bool} {fn : FuncId} {cap : Array Value} [he : Enters Tryz.prog fn] (h0 : 0 ≤ lo ∧ lo ≤ hi ∧ hi ≤ 1073741824) (hm : ∀ v v' : Int, lo ≤ v → v ≤ v' → v' ≤ hi → p v = true → p v' = true)
    (hc : ∀ (v : Int) (w' : World), lo ≤ v → v < hi → Ext w w' → CallZ Tryz.prog fn ([iv v] ++ cap.toList).toArray w' (fun u w'' => u = .bool (p v) ∧ Ext w' w'')) :
    CallZ Tryz.prog 86 #[iv lo, iv hi, .func (.func fn) #[] cap] w (fun v w' => ∃ k : Int, v = iv k ∧ First p lo hi k ∧ Ext w w') := by
  refine fn_rule (args := [iv lo, iv hi, .func (.func fn) #[] cap]) Tryz.func86 (by kernel_rfl) ?_
  refine loop2 (fun (a b : Int) => [(0, iv a), (1, iv b)]) (fun a b w' => Half p lo hi a b ∧ Ext w w') (fun a b _ => (b - a).toNat) lo hi ⟨rfl, rfl, trivial⟩ ⟨Half.start h0.2.1, .refl _ _⟩ rfl ?_
  rintro G a b w' ⟨h, xw⟩
  have h1 := h.a_lo
  have h2 := h.lo_hi
  have h3 := h.hi_b
  refine cD (fun hlt => ?_) (fun hge => ?_)
  · refine arI (by omega) ?_
    refine quoI (by omega) (by omega) (by omega) ?_
    refine arI (by omega) ?_
    obtain ⟨m, hmm⟩ : ∃ m, m = a + (b - a) / 2 := ⟨_, rfl⟩
    rw [← hmm]
    refine callE (hc m w' (by omega) (by omega) xw) (fun w2 hp x2 => ?_) (fun w2 hp x2 => ?_)
    · exact next2 a m ⟨rfl, rfl, trivial⟩ ⟨h.left (by omega) (by omega) hp, xw.trans x2⟩ (by omega)
    · refine arI (by omega) ?_
      exact next2 (m + 1) b ⟨rfl, rfl, trivial⟩ ⟨h.right hm (by omega) (by omega) hp, xw.trans x2⟩ (by omega)
  · exact ret1 (iv a) rfl ⟨a, rfl, h.done (by omega), xw⟩
section
variable {s : List (Int × Int)} {A : Option Addr} {n c bl : Nat} {t : TypeId} {L : Int}
theorem c_gThr1 (hs : SlR tCl D w A n s) (hn : n ≤ 664) (h0 : Cl0 s) (hb : Blk w bl t [.slice A n c]) (hL : 0 ≤ L ∧ L ≤ 1073741824) : CallZ Tryz.prog 85 #[iv L, ptr bl] w (fun v w' => v = iv (ceS s L) ∧ Ext w w') := by
  refine fn_rule (args := [iv L, ptr bl]) Tryz.func85 (by kernel_rfl) ?_
  refine ld (.slice A n c) (hb.cell rfl) ?_
  refine len ?_
  refine loop_rule (fun k : Nat => [(3, iv (ceS (s.take k) L)), (8, iv (k : Int))]) (fun k u => k ≤ n ∧ Ext w u) (fun k _ => n - k) 0 ⟨rfl, rfl, trivial⟩ ⟨by omega, .refl _ _⟩ rfl ?_
  rintro G k u ⟨hk, xu⟩
  have hsb := ceS_b (h0.take k) hL.1
  rw [List.length_take] at hsb
  refine cD (fun hlt => ?_) (fun hge => ?_)
  · have hlt : k < n := by omega
    obtain ⟨b, o, cs, m, rfl, hm, -, -, hc, rfl⟩ := (hs.ext xu).at_ hlt
    have htk : s.take (k + 1) = s.take k ++ [m] := by rw [List.take_add_one, hm]; rfl
    have hm0 := h0 m (List.mem_of_getElem? hm)
    refine idx k rfl hlt ?_
    refine ldA (encC m) hc rfl ?_
    refine alloc (fun q u1 a1 => ?_)
    refine stA (vs := encC m) a1.blk rfl (Nat.le_of_ble_eq_true rfl) (by simp [Value.oneCell']) (fun u2 b2 k2 z2 => ?_)
    have b2 : Blk u2 q 154 (encC m) := b2
    have ea := a1.at_
    have x2 : Ext u u2 := a1.ext.then k2 fun b hb _ e => by omega
    refine fldA ?_
    refine ld (iv m.1) (b2.cell rfl) ?_
    refine quoI (by omega) (by omega) (by omega) ?_
    refine arI (by omega) ?_
    refine arI (by omega) ?_
    exact next (k + 1) ⟨by rw [htk, ceS_snoc]; rfl, by rw [Int.natCast_add]; rfl, trivial⟩ ⟨by omega, xu.trans x2⟩ (by omega)
  · have := hs.len
    exact ret1 (iv (ceS (s.take k) L)) rfl ⟨by rw [List.take_of_length_le (by omega)], xu⟩
theorem c_gThr3 (hs : SlR tCl D w A n s) (hn : n ≤ 664) (h0 : Cl0 s) (hb : Blk w bl t [.slice A n c]) (hL : 0 ≤ L ∧ L ≤ 1073741824) : CallZ Tryz.prog 88 #[iv L, ptr bl] w (fun v w' => v = iv (clS s L) ∧ Ext w w') := by
  refine fn_rule (args := [iv L, ptr bl]) Tryz.func88 (by kernel_rfl) ?_
  refine ld (.slice A n c) (hb.cell rfl) ?_
  refine len ?_
  refine loop_rule (fun k : Nat => [(3, iv (clS (s.take k) L)), (8, iv (k : Int))]) (fun k u => k ≤ n ∧ Ext w u) (fun k _ => n - k) 0 ⟨rfl, rfl, trivial⟩ ⟨by omega, .refl _ _⟩ rfl ?_
  rintro G k u ⟨hk, xu⟩
  have hsb := clS_b (h0.take k) hL.1
  rw [List.length_take] at hsb
  refine cD (fun hlt => ?_) (fun hge => ?_)
  · have hlt : k < n := by omega
    obtain ⟨b, o, cs, m, rfl, hm, -, -, hc, rfl⟩ := (hs.ext xu).at_ hlt
    have htk : s.take (k + 1) = s.take k ++ [m] := by rw [List.take_add_one, hm]; rfl
    have hm0 := h0 m (List.mem_of_getElem? hm)
    refine idx k rfl hlt ?_
    refine ldA (encC m) hc rfl ?_
    refine alloc (fun q u1 a1 => ?_)
    refine stA (vs := encC m) a1.blk rfl (Nat.le_of_ble_eq_true rfl) (by simp [Value.oneCell']) (fun u2 b2 k2 z2 => ?_)
    have b2 : Blk u2 q 154 (encC m) := b2
    have ea := a1.at_
    have x2 : Ext u u2 := a1.ext.then k2 fun b hb _ e => by omega
    refine fldA ?_
    refine ld (iv m.1) (b2.cell rfl) ?_
    refine fldA ?_
    refine ld (iv m.1) (b2.cell rfl) ?_
    refine quoI (by omega) (by omega) (by omega) ?_
    refine arI (by omega) ?_
    refine arI (by omega) ?_
    refine arI (by omega) ?_
    refine arI (by omega) ?_
    exact next (k + 1) ⟨by rw [htk, clS_snoc]; rfl, by rw [Int.natCast_add]; rfl, trivial⟩ ⟨by omega, xu.trans x2⟩ (by omega)
  · have := hs.len
    exact ret1 (iv (clS (s.take k) L)) rfl ⟨by rw [List.take_of_length_le (by omega)], xu⟩
theorem c_gThr2 {ba bE : Nat} {tE ta : TypeId} {E : Int} (hs : SlR tCl D w A n s) (hn : n ≤ 664) (h0 : Cl0 s) (hb : Blk w bl t [.slice A n c]) (hL : 0 ≤ L ∧ L ≤ 1073741824) (ha : Blk w ba ta [.func (.func 85) #[] #[ptr bl]]) (hE : Blk w bE tE [iv E]) :
    CallZ Tryz.prog 87 #[iv L, ptr ba, ptr bE] w (fun v w' => v = .bool (decide (E ≤ ceS s L)) ∧ Ext w w') := by
  refine fn_rule (args := [iv L, ptr ba, ptr bE]) Tryz.func87 (by kernel_rfl) ?_
  refine drawK (fun _ => True) [0, 1, 3, 2, 4, 5] [2] mx (by kernel_rfl) ?_
  refine ldK (.func (.func 85) #[] #[ptr bl]) (ha.cell rfl) trivial (.refl _ _) ?_
  refine ldK (iv E) (hE.cell rfl) trivial (.refl _ _) ?_
  refine call_of (c_gThr1 hs hn h0 hb hL) ?_
  rintro _ w2 ⟨rfl, x2⟩
  refine strK x2 ?_
  refine cD (fun q => ?_) (fun q => ?_)
  · exact ret1 (.bool true) rfl ⟨by rw [decide_eq_true (by omega)], x2⟩
  · exact ret1 (.bool false) rfl ⟨by rw [decide_eq_false (by omega)], x2⟩
theorem c_gThr4 {ba bE : Nat} {tE ta : TypeId} {E : Int} (hs : SlR tCl D w A n s) (hn : n ≤ 664) (h0 : Cl0 s) (hb : Blk w bl t [.slice A n c]) (hL : 0 ≤ L ∧ L ≤ 1073741824) (ha : Blk w ba ta [.func (.func 88) #[] #[ptr bl]]) (hE : Blk w bE tE [iv E]) :
    CallZ Tryz.prog 89 #[iv L, ptr ba, ptr bE] w (fun v w' => v = .bool (decide (clS s L < E)) ∧ Ext w w') := by
  refine fn_rule (args := [iv L, ptr ba, ptr bE]) Tryz.func89 (by kernel_rfl) ?_
  refine drawK (fun _ => True) [0, 1, 3, 2, 4, 5] [2] mx (by kernel_rfl) ?_
  refine ldK (.func (.func 88) #[] #[ptr bl]) (ha.cell rfl) trivial (.refl _ _) ?_
  refine ldK (iv E) (hE.cell rfl) trivial (.refl _ _) ?_
  refine call_of (c_gThr3 hs hn h0 hb hL) ?_
  rintro _ w2 ⟨rfl, x2⟩
  refine strK x2 ?_
  refine cD (fun q => ?_) (fun q => ?_)
  · exact ret1 (.bool true) rfl ⟨by rw [decide_eq_true (by omega)], x2⟩
  · exact ret1 (.bool false) rfl ⟨by rw [decide_eq_false (by omega)], x2⟩
end
end
end Go.Proofs.YtcpogcdadlcdaaaGreat

/- Layer 40: Threshold. -/
namespace Go.Proofs.YtcpogcdadlcdaaaGreat
open Go Go.RowKit

abbrev encM (m : Mk) : List Value := [.bool m.late, iv m.level, iv m.claim, iv m.index]
/-- What the mark of an estate is. -/
def MarkOf (E : Int) (l : List Int) (m : Mk) : Prop := if tErr E l = 0 ∧ E ≠ 0 then m.Of l ∧ ownS m l = E else m = Mk.none
theorem clm_fst {l : List Int} : (clm l).map (·.1) = l := by
  apply List.ext_getElem
  · rw [List.length_map, clm_len]
  · intro i h1 h2
    unfold clm clA
    simp [List.getD_eq_getElem?_getD, List.getElem?_eq_getElem h2]
theorem clm_nodup {l : List Int} : ((clm l).map (·.2)).Nodup := by
  unfold clm
  rw [List.map_map]
  show List.Pairwise _ _
  rw [List.pairwise_map]
  exact List.nodup_range.imp fun h e => h (Int.ofNat.inj e)
section
variable {l : List Int} {s : List (Int × Int)} {E L : Int}
theorem sumS_perm (h : s.Perm (clm l)) : sumS s = isum l := by
  unfold sumS isum
  rw [perm_sum h, clm_fst]
theorem Cl0.perm (h : s.Perm (clm l)) (hl : ∀ c ∈ l, 0 ≤ c ∧ c ≤ 1073741824) : Cl0 s := fun x hx => by
  refine hl x.1 ?_
  have : x.1 ∈ (clm l).map (·.1) := List.mem_map_of_mem (h.mem_iff.1 hx)
  rwa [clm_fst] at this
theorem topS_le : ∀ {s : List (Int × Int)} {a : Int}, a ≤ s.foldl (fun a x => max a x.1) a ∧ ∀ x ∈ s, x.1 ≤ s.foldl (fun a x => max a x.1) a
  | [], a => ⟨Int.le_refl _, fun x hx => by cases hx⟩
  | y :: s, a => by
    have := topS_le (s := s) (a := max a y.1)
    refine ⟨by rw [List.foldl_cons]; omega, fun x hx => ?_⟩
    rw [List.foldl_cons]
    rcases List.mem_cons.1 hx with rfl | h
    · omega
    · exact this.2 x h
theorem topS_b : ∀ {s : List (Int × Int)} {a : Int}, (∀ x ∈ s, x.1 ≤ 1073741824) → a ≤ 1073741824 → s.foldl (fun a x => max a x.1) a ≤ 1073741824
  | [], a, _, h => h
  | y :: s, a, h, ha => by
    have := h y List.mem_cons_self
    rw [List.foldl_cons]
    exact topS_b (fun x hx => h x (List.mem_cons_of_mem _ hx)) (by omega)
theorem top_bounds (h : Cl0 s) : 0 ≤ topS s ∧ topS s ≤ 1073741824 ∧ ∀ x ∈ s, x.1 ≤ topS s := ⟨topS_le.1, topS_b (fun x hx => (h x hx).2) (by omega), topS_le.2⟩
theorem ceS_top (h : Cl0 s) : ceS s (topS s) = halfS s := map_sum_congr fun x hx => by
  have := h x hx
  have := (top_bounds h).2.2 x hx
  omega
theorem clS_top (h : Cl0 s) : clS s (topS s) = 0 := by
  refine Eq.trans (map_sum_congr (g := fun _ => (0 : Int)) fun x hx => ?_) (map_sum_zero (s := s))
  have := h x hx
  have := (top_bounds h).2.2 x hx
  omega
theorem ceS_zero (h : Cl0 s) : ceS s 0 = 0 := by
  refine Eq.trans (map_sum_congr (g := fun _ => (0 : Int)) fun x hx => ?_) (map_sum_zero (s := s))
  have := h x hx
  omega
theorem clS_zero (h : Cl0 s) : halfS s + clS s 0 = sumS s := by
  unfold halfS clS sumS
  rw [← map_sum_add]
  exact map_sum_congr fun x hx => by
    have := h x hx
    omega
theorem clS_stay : clS (s.reverse.filter (stayC L)) L = clS s L := by
  have := map_sum_filter (p := stayC L) (f := fun x : Int × Int => max 0 (x.1 - x.1 / 2 - L)) (fun x hx => by unfold stayC at hx; rw [decide_eq_false_iff_not] at hx; omega) (s := s.reverse)
  unfold clS
  rw [← this]
  exact perm_sum (List.reverse_perm s)
end
theorem Cl0.mono {s t : List (Int × Int)} (h : Cl0 s) (hs : ∀ x ∈ t, x ∈ s) : Cl0 t := fun x hx => h x (hs x hx)
section
variable {D : Nat → Prop} {w : World}
set_option maxRecDepth 4000 in
theorem c_gThr {E : Int} {l : List Int} {A : Option Addr} {n c : Nat} (hl : SlR tInt D w A n l) (hE : I64 E) : CallZ Tryz.prog 59 #[iv E, .slice A n c] w (fun v w' => Ext w w' ∧ ∃ m : Mk, v = .tuple #[.agg (encM m).toArray, iv (tErr E l)] ∧ MarkOf E l m) := by
  refine fn_rule (args := [iv E, .slice A n c]) Tryz.func59 (by kernel_rfl) ?_
  refine box (fun b2 w1 h1 => ?_)
  refine alloc (fun b4 w2 h2 => ?_)
  have x2 := h1.ext.trans h2.ext
  have e1 := h1.at_
  have e2 := h2.at_
  have s1 := h1.ext.size
  have s2 := h2.ext.size
  have B2 : Blk w2 b2 3 [iv E] := h1.blk.ext h2.ext
  have l1 := h1.blk.lt
  have l2 := h2.blk.lt
  have B4 : Blk w2 b4 122 (encM Mk.none) := h2.blk
  refine ld (iv E) (B2.cell rfl) ?_
  refine call_of (c_gread (hl.ext x2) hE) ?_
  rintro _ w3 (⟨he, rfl, x3⟩ | ⟨he, A1, n1, c1, rfl, own, hn1⟩)
  · refine alloc (fun b6 w4 h4 => ?_)
    refine st1 h4.blk rfl (fun w5 B6 k6 => ?_)
    have e4 := h4.at_
    have x5 : Ext w2 w5 := (x3.trans h4.ext).then k6 fun b hb _ e => by have := x3.size; omega
    refine cN (fun _ => ?_) (fun e => absurd e he)
    refine ldA (encM Mk.none) (.blk (B4.ext x5)) rfl ?_
    refine stA (vs := encM Mk.none) (B4.ext x5) rfl (Nat.le_of_ble_eq_true rfl) (by simp [Value.oneCell']) (fun w6 b6' k7 z7 => ?_)
    have B4' : Blk w6 b4 122 (encM Mk.none) := b6'
    refine ret ?_
    refine resL _ (holds_agg (CellsAt.blk B4') rfl) ?_
    exact ⟨(x2.trans x5).then k7 fun b hb _ e => by omega, Mk.none, rfl, by unfold MarkOf; rw [if_neg fun h => he h.1]⟩
  obtain ⟨hlen, hcl, hE0, hEs⟩ := tErr_no he
  have hEb : E ≤ 9223372036854775807 := hE.2
  refine alloc (fun b6 w4 h4 => ?_)
  refine st1 h4.blk rfl (fun w5 B6 k6 => ?_)
  have B6 : Blk w5 b6 155 [.slice A1 n1 c1] := B6
  have e4 := h4.at_
  have x3 := own.ext
  have s3 := x3.size
  have x35 : Ext w3 w5 := h4.ext.then k6 fun b hb _ e => by omega
  have x5 : Ext w2 w5 := x3.trans x35
  refine cN (fun h => absurd rfl h) (fun _ => ?_)
  refine ld (iv E) ((B2.ext x5).cell rfl) ?_
  refine cE (fun hz => ?_) (fun hz => ?_)
  · refine ldA (encM Mk.none) (.blk (B4.ext x5)) rfl ?_
    refine stA (vs := encM Mk.none) (B4.ext x5) rfl (Nat.le_of_ble_eq_true rfl) (by simp [Value.oneCell']) (fun w6 b6' k7 z7 => ?_)
    have B4' : Blk w6 b4 122 (encM Mk.none) := b6'
    refine ret ?_
    refine resL _ (holds_agg (CellsAt.blk B4') rfl) ?_
    exact ⟨(x2.trans x5).then k7 fun b hb _ e => by omega, Mk.none, by rw [he]; rfl, by unfold MarkOf; rw [if_neg fun h => h.2 hz]⟩
  have own5 := own.then x35
  rcases own5.form with ⟨rfl, h0, -⟩ | ⟨g, rfl, hg1, hg2, hc1⟩
  · exfalso
    have : l = [] := List.eq_nil_of_length_eq_zero (by omega)
    subst this
    have : (0 : Int) = ([] : List Int).sum := rfl
    omega
  have hg3 : g < w3.heap.size := by
    rcases own.form with ⟨h, -⟩ | ⟨g', h, -, hh, -⟩
    · cases h
    · injection h with h; injection h with h; omega
  obtain ⟨rest, Bg, hBl, -⟩ := own5.own.blk
  refine ld (.slice (some (ad g 0)) n1 c1) (B6.cell rfl) ?_
  refine call_of (c_sortC (s := clm l) Bg (by rw [clm_len]; exact hn1) (by rw [clm_len]; omega) clm_nodup) ?_
  rintro _ w6 ⟨rfl, s, hp, hpw, Bs, ks⟩
  have hsl : s.length = n1 := by rw [hp.length_eq, clm_len]; omega
  have h0 : Cl0 s := Cl0.perm hp hcl
  have htop := top_bounds h0
  have hhb := halfS_b h0
  have hbl : (cls s ++ rest).length = c1 * 2 := by rw [← hBl, List.length_append, List.length_append, cls_len, cls_len, hsl, clm_len, hn1]
  have Bs : Blk w6 g 154 (cls s ++ rest) := Bs
  have x6 : Ext w2 w6 := x5.then ks fun b hb _ e => by omega
  have B26 : Blk w6 b2 3 [iv E] := B2.ext x6
  have B46 : Blk w6 b4 122 (encM Mk.none) := B4.ext x6
  have B66 : Blk w6 b6 155 [.slice (some (ad g 0)) n1 c1] := B6.kept ks (by omega)
  have l6 := B66.lt
  have hs6 : SlR tCl (fun _ => True) w6 (some (ad g 0)) n1 s := slr_cls Bs (by rw [cls_take _ _ _ (by omega), List.take_of_length_le (by omega)]) hsl.symm (by omega) trivial
  clear ks Bg own5 own B6 k6 hl h1 h2 h4
  refine ld (.slice (some (ad g 0)) n1 c1) (B66.cell rfl) ?_
  refine len ?_
  refine loop_rule (fun k : Nat => [(38, iv (k : Int)), (8, iv (halfS (s.take k))), (9, iv (topS (s.take k)))]) (fun k u => k ≤ n1 ∧ Ext w6 u) (fun k _ => n1 - k) 0 ⟨rfl, rfl, rfl, trivial⟩ ⟨by omega, .refl _ _⟩ rfl ?_
  rintro G k u ⟨hk, xu⟩
  have hsb := halfS_b (h0.take k)
  rw [List.length_take] at hsb
  refine cD (fun hlt => ?_) (fun hge => ?_)
  · have hlt : k < n1 := by omega
    obtain ⟨b, o, cs, m, hA, hm, -, -, hc, rfl⟩ := (hs6.ext xu).at_ hlt
    injection hA with hA
    injection hA with hA1 hA2
    subst hA1; subst hA2
    have htk : s.take (k + 1) = s.take k ++ [m] := by rw [List.take_add_one, hm]; rfl
    have hm0 := h0 m (List.mem_of_getElem? hm)
    refine idx k rfl hlt ?_
    refine ldA (encC m) hc rfl ?_
    refine alloc (fun q u1 a1 => ?_)
    refine stA (vs := encC m) a1.blk rfl (Nat.le_of_ble_eq_true rfl) (by simp [Value.oneCell']) (fun u2 b2' k2 z2 => ?_)
    have b2' : Blk u2 q 154 (encC m) := b2'
    have ea := a1.at_
    have xu2 : Ext u u2 := a1.ext.then k2 fun b hb _ e => by omega
    refine drawX [0, 1, 2, 3, 4, 5, 6, 7, 8, 9, 10] [] mx (by kernel_rfl) ?_
    refine fldA ?_
    refine ldX (iv m.1) (b2'.cell rfl) (.refl _ _) ?_
    refine quoI (by omega) (by omega) (by omega) ?_
    refine arI (by omega) ?_
    refine fldA ?_
    refine ldX (iv m.1) (b2'.cell rfl) (.refl _ _) ?_
    refine arI (by omega) ?_
    exact next (k + 1) ⟨by rw [Int.natCast_add]; rfl, by rw [htk, halfS_snoc]; rfl, by rw [htk, topS_snoc]; rfl, trivial⟩ ⟨by omega, xu.trans xu2⟩ (by omega)
  have hks : s.take k = s := List.take_of_length_le (by omega)
  rw [hks]
  obtain ⟨H, hH⟩ : ∃ H, H = halfS s := ⟨_, rfl⟩
  obtain ⟨T, hT⟩ : ∃ T, T = topS s := ⟨_, rfl⟩
  rw [← hH, ← hT]
  rw [← hH] at hhb
  rw [← hT] at htop
  refine ld (iv E) ((B26.ext xu).cell rfl) ?_
  refine cD (fun hEH => ?_) (fun hEH => ?_)
  · have hT1 : 1 ≤ T := by
      by_cases q : 1 ≤ T
      · exact q
      exfalso
      have := ceS_top h0
      rw [← hT, show T = 0 by omega, ceS_zero h0, ← hH] at this
      omega
    have su := xu.size
    refine alloc (fun b12 w7 h7 => ?_)
    refine st1 (v := .func (.func 85) #[] #[ptr b6]) h7.blk rfl (fun w8 B12 k8 => ?_)
    have B12 : Blk w8 b12 161 [.func (.func 85) #[] #[ptr b6]] := B12
    have e7 := h7.at_
    have x68 : Ext w6 w8 := (xu.trans h7.ext).then k8 fun b hb _ e => by omega
    refine call_of (c_gfirst (fn := 87) (cap := #[ptr b12, ptr b2]) (p := fun v => decide (E ≤ ceS s v)) (lo := 1) (hi := T) ⟨by omega, by omega, by omega⟩
      (fun v v' h1 h2 h3 h => by rw [decide_eq_true_eq] at h ⊢; have := ceS_mono (s := s) h2; omega)
      (fun v w' hv1 hv2 xw => c_gThr2 (hs6.ext (x68.trans xw)) (by omega) h0 (B66.ext (x68.trans xw)) ⟨by omega, by omega⟩ (B12.ext xw) (B26.ext (x68.trans xw)))) ?_
    rintro _ w9 ⟨L, rfl, hL, x9⟩
    have hL1 := hL.le
    have hL2 := hL.ge
    have hcount : E ≤ ceS s L := by
      by_cases q : L < T
      · exact of_decide_eq_true (hL.yes q)
      · have := ceS_top h0
        rw [← hT, ← hH] at this
        rw [show L = T by omega, this]; exact hEH
    have hprev : ceS s (L - 1) < E := by
      by_cases q : L = 1
      · rw [q, show (1 : Int) - 1 = 0 from rfl, ceS_zero h0]; omega
      · have := of_decide_eq_false (hL.no (L - 1) (by omega) (by omega)); omega
    have hcb := ceS_b (L := L - 1) h0 (by omega)
    rw [hsl] at hcb
    obtain ⟨p, hpe⟩ : ∃ p : Nat, (p : Int) = E - ceS s (L - 1) - 1 := ⟨(E - ceS s (L - 1) - 1).toNat, by omega⟩
    obtain ⟨x, hx, hof, hown⟩ := early_mark hp hpw (fun x hx => (h0 x hx).1) hL1 hcount hpe
    have hpl := (List.getElem?_eq_some_iff.1 hx).1
    have x69 := x68.trans x9
    refine drawP (.take 0 (.take 1 (.take 2 (.take 3 (.take 4 (.alt 5 (.take 6 (.take 7 (.take 8 (.take 9 (.eff 10 (.eff 11 .done)))))) (.eff 10 (.eff 5 (.take 6 (.take 7 (.take 8 (.take 9 (.eff 11 .done))))))))))))) [] (fun z => Ext w9 z) mx (by kernel_rfl) (.refl _ _) ?_
    refine ldX (.slice (some (ad g 0)) n1 c1) (B66.cell rfl) x69 ?_
    refine ldX (iv E) (B26.cell rfl) x69 ?_
    refine ldX (.func (.func 85) #[] #[ptr b6]) (B12.cell rfl) x9 ?_
    refine arI (by omega) ?_
    refine ⟨?xl, ?xr⟩
    case' xl =>
      refine call_of (c_gThr1 (hs6.ext x69) (by omega) h0 (B66.ext x69) (L := L - 1) ⟨by omega, by omega⟩) ?_
      rintro _ w10 ⟨rfl, x10⟩
      refine strS x10 ?_
      refine arI (by omega) ?_
      refine arI (by omega) ?_
      refine idx p (by omega) (by omega) ?_
      refine ldAX (encC x) (cls_cells Bs hx) rfl x69 ?_
      refine alloc (fun q u1 a1 => ?_)
      have xe : Ext w9 u1 := x10.trans a1.ext
      have hq : w9.heap.size ≤ q := by have := a1.at_; have := x10.size; omega
      have bq : Blk u1 q 154 [iv 0, iv 0] := a1.blk
      refine strS xe ?_
      clear a1 x10
    case' xr =>
      refine alloc (fun q u0 a1 => ?_)
      refine strS a1.ext ?_
      refine call_of (c_gThr1 (hs6.ext (x69.trans a1.ext)) (by omega) h0 (B66.ext (x69.trans a1.ext)) (L := L - 1) ⟨by omega, by omega⟩) ?_
      rintro _ u1 ⟨rfl, x10⟩
      have xe : Ext w9 u1 := a1.ext.trans x10
      have hq : w9.heap.size ≤ q := by have := a1.at_; omega
      have bq : Blk u1 q 154 [iv 0, iv 0] := a1.blk.ext x10
      refine strS xe ?_
      refine arI (by omega) ?_
      refine arI (by omega) ?_
      refine idx p (by omega) (by omega) ?_
      refine ldAX (encC x) (cls_cells Bs hx) rfl x69 ?_
      clear a1 x10
    all_goals
      refine stA (vs := encC x) bq rfl (Nat.le_of_ble_eq_true rfl) (by simp [Value.oneCell']) (fun u2 bq kq zq => ?_)
      have bq : Blk u2 q 154 (encC x) := bq
      have xq : Ext w9 u2 := xe.then kq fun b hb _ e => by omega
      refine strS xq ?_
      refine fldA ?_
      refine ld (iv x.1) (bq.cell rfl) ?_
      refine fldA ?_
      refine ld (iv x.2) (bq.cell rfl) ?_
      refine bld (encM ⟨false, L, x.1, x.2⟩) (by kernel_rfl) ?_
      refine stA (vs := encM ⟨false, L, x.1, x.2⟩) (B46.ext (x69.trans xq)) rfl (Nat.le_of_ble_eq_true rfl) (by simp [Value.oneCell']) (fun w12 b4' k12 z12 => ?_)
      have B4' : Blk w12 b4 122 (encM ⟨false, L, x.1, x.2⟩) := b4'
      refine ret ?_
      refine resL _ (holds_agg (CellsAt.blk B4') rfl) ?_
      exact ⟨(x2.trans (x6.trans (x69.trans xq))).then k12 fun b hb _ e => by omega, ⟨false, L, x.1, x.2⟩, by rw [he]; rfl, by unfold MarkOf; rw [if_pos ⟨he, hz⟩]; exact ⟨hof, hown⟩⟩
  · have su := xu.size
    refine ld (iv E) ((B26.ext xu).cell rfl) ?_
    refine arI (by omega) ?_
    obtain ⟨R, hR⟩ : ∃ R, R = E - H := ⟨_, rfl⟩
    rw [← hR]
    refine alloc (fun b15 w7 h7 => ?_)
    refine st1 (v := iv R) h7.blk rfl (fun w8 B15 k8 => ?_)
    have B15 : Blk w8 b15 3 [iv R] := B15
    have e7 := h7.at_
    have x68 : Ext w6 w8 := (xu.trans h7.ext).then k8 fun b hb _ e => by omega
    have s68 := x68.size
    refine alloc (fun b16 w9 h9 => ?_)
    refine st1 (v := .func (.func 88) #[] #[ptr b6]) h9.blk rfl (fun w10 B16 k10 => ?_)
    have B16 : Blk w10 b16 161 [.func (.func 88) #[] #[ptr b6]] := B16
    have e9 := h9.at_
    have x810 : Ext w8 w10 := h9.ext.then k10 fun b hb _ e => by omega
    have x610 := x68.trans x810
    have l15 := B15.lt
    have l16 := B16.lt
    have s810 := x810.size
    refine call_of (c_gfirst (fn := 89) (cap := #[ptr b16, ptr b15]) (p := fun v => decide (clS s v < R)) (lo := 0) (hi := T) ⟨by omega, by omega, by omega⟩
      (fun v v' h1 h2 h3 h => by rw [decide_eq_true_eq] at h ⊢; have := clS_mono (s := s) h2; omega)
      (fun v w' hv1 hv2 xw => c_gThr4 (hs6.ext (x610.trans xw)) (by omega) h0 (B66.ext (x610.trans xw)) ⟨by omega, by omega⟩ (B16.ext xw) (B15.ext (x810.trans xw)))) ?_
    rintro _ w11 ⟨L, rfl, hL, x11⟩
    have hL1 := hL.le
    have hL2 := hL.ge
    have hcount : clS s L < R := by
      by_cases q : L < T
      · exact of_decide_eq_true (hL.yes q)
      · have := clS_top h0
        rw [← hT] at this
        rw [show L = T by omega, this]; omega
    have hsum : E ≤ sumS s := by rw [sumS_perm hp]; exact hEs
    have hzero := clS_zero h0
    rw [← hH] at hzero
    have hL0 : 1 ≤ L := by
      by_cases q : L = 0
      · rw [q] at hcount; omega
      · omega
    have hprev : E ≤ halfS s + clS s (L - 1) := by
      have := of_decide_eq_false (hL.no (L - 1) (by omega) (by omega))
      rw [← hH]; omega
    refine alloc (fun b17 w12 h12 => ?_)
    refine st1 (v := iv L) h12.blk rfl (fun w13 B17 k13 => ?_)
    have B17 : Blk w13 b17 3 [iv L] := B17
    have e12 := h12.at_
    have x1113 : Ext w11 w13 := h12.ext.then k13 fun b hb _ e => by omega
    have x613 := x610.trans (x11.trans x1113)
    have x1013 := x11.trans x1113
    have s1113 := x1113.size
    have s1011 := x11.size
    have s610 := x610.size
    have lg := Bs.lt
    have l17 := B17.lt
    refine ld (.slice (some (ad g 0)) n1 c1) ((B66.ext x613).cell rfl) ?_
    refine call_of (c_revC (ms := s) (Bs.ext x613) hsl.symm (by omega)) ?_
    rintro _ w14 ⟨rfl, Br, kr⟩
    have B6e : Blk w14 b6 155 [.slice (some (ad g 0)) n1 c1] := (B66.ext x613).kept kr (by omega)
    refine ld (.slice (some (ad g 0)) n1 c1) (B6e.cell rfl) ?_
    refine call_of (c_delC (ms := s.reverse) (L := L) Br (by rw [← hbl, List.length_append, List.length_append, cls_len, cls_len, List.length_reverse]) (by rw [List.length_reverse]; exact hsl.symm) (by omega) (fun m hm => h0 m (List.mem_reverse.1 hm)) (B17.kept kr (by omega)) (by omega)) ?_
    rintro _ w15 ⟨kd, A2, n2, c2, rfl, hf, hn2⟩
    have krd := kr.trans kd
    refine st1 (v := .slice A2 n2 c2) (B6e.kept kd (by omega)) rfl (fun w16 B6f k16 => ?_)
    have B6f : Blk w16 b6 155 [.slice A2 n2 c2] := B6f
    have hf : SlR tCl (fun b => b = g) w16 A2 n2 (s.reverse.filter (stayC L)) := hf.kept k16 (fun b _ hb e => by omega)
    have B15f : Blk w16 b15 3 [iv R] := ((B15.ext (x810.trans x1013)).kept krd (by omega)).kept k16 (by omega)
    have B16f : Blk w16 b16 161 [.func (.func 88) #[] #[ptr b6]] := ((B16.ext x1013).kept krd (by omega)).kept k16 (by omega)
    have B17f : Blk w16 b17 3 [iv L] := (B17.kept krd (by omega)).kept k16 (by omega)
    have B4f : Blk w16 b4 122 (encM Mk.none) := ((B46.ext x613).kept krd (by omega)).kept k16 (by omega)
    have x216 : Ext w2 w16 := ((x6.trans x613).then krd fun b hb _ e => by omega).then k16 fun b hb _ e => by omega
    have hcb := clS_b (L := L) h0 (by omega)
    rw [hsl] at hcb
    rw [← hsl] at hcb
    obtain ⟨p, hpe⟩ : ∃ p : Nat, (p : Int) = E - halfS s - clS s L - 1 := ⟨(E - halfS s - clS s L - 1).toNat, by rw [← hH]; omega⟩
    obtain ⟨x, hx, hof, hown⟩ := late_mark hp hpw (fun x hx => (h0 x hx).1) hL0 hprev hpe
    rw [← hH] at hpe
    have hx : (s.reverse.filter (stayC L))[p]? = some x := hx
    have hpl := (List.getElem?_eq_some_iff.1 hx).1
    have hfl := hf.len
    have hf0 : Cl0 (s.reverse.filter (stayC L)) := h0.mono fun y hy => List.mem_reverse.1 (List.mem_filter.1 hy).1
    have hfl2 : (s.reverse.filter (stayC L)).length ≤ s.reverse.length := List.length_filter_le _ _
    rw [List.length_reverse] at hfl2
    obtain ⟨b, o, cs, y, rfl, hy, -, -, hc, rfl⟩ := hf.at_ (k := p) (by omega)
    obtain rfl : x = y := by rw [hx] at hy; injection hy
    refine drawP (.take 0 (.take 1 (.take 2 (.take 3 (.alt 4 (.take 5 (.take 6 (.take 7 (.take 8 (.eff 9 (.eff 10 .done)))))) (.eff 9 (.eff 4 (.take 5 (.take 6 (.take 7 (.take 8 (.eff 10 .done)))))))))))) [] (fun z => Ext w16 z) mx (by kernel_rfl) (.refl _ _) ?_
    refine ldX (.slice (some (ad b o)) n2 c2) (B6f.cell rfl) (.refl _ _) ?_
    refine ldX (iv R) (B15f.cell rfl) (.refl _ _) ?_
    refine ldX (.func (.func 88) #[] #[ptr b6]) (B16f.cell rfl) (.refl _ _) ?_
    refine ldX (iv L) (B17f.cell rfl) (.refl _ _) ?_
    refine ⟨?yl, ?yr⟩
    case' yl =>
      refine call_of (c_gThr3 hf (by omega) hf0 B6f (L := L) ⟨by omega, by omega⟩) ?_
      rintro _ w17 ⟨rfl, x17⟩
      rw [clS_stay]
      refine strS x17 ?_
      refine arI (by omega) ?_
      refine arI (by omega) ?_
      refine idx p (by omega) (by omega) ?_
      refine ldAX (encC x) hc rfl (.refl _ _) ?_
      refine alloc (fun q u1 a1 => ?_)
      have xe : Ext w16 u1 := x17.trans a1.ext
      have hq : w16.heap.size ≤ q := by have := a1.at_; have := x17.size; omega
      have bq : Blk u1 q 154 [iv 0, iv 0] := a1.blk
      refine strS xe ?_
      clear a1 x17
    case' yr =>
      refine alloc (fun q u0 a1 => ?_)
      refine strS a1.ext ?_
      refine call_of (c_gThr3 (hf.ext a1.ext) (by omega) hf0 (B6f.ext a1.ext) (L := L) ⟨by omega, by omega⟩) ?_
      rintro _ u1 ⟨rfl, x17⟩
      rw [clS_stay]
      have xe : Ext w16 u1 := a1.ext.trans x17
      have hq : w16.heap.size ≤ q := by have := a1.at_; omega
      have bq : Blk u1 q 154 [iv 0, iv 0] := a1.blk.ext x17
      refine strS xe ?_
      refine arI (by omega) ?_
      refine arI (by omega) ?_
      refine idx p (by omega) (by omega) ?_
      refine ldAX (encC x) hc rfl (.refl _ _) ?_
      clear a1 x17
    all_goals
      refine stA (vs := encC x) bq rfl (Nat.le_of_ble_eq_true rfl) (by simp [Value.oneCell']) (fun u2 bq kq zq => ?_)
      have bq : Blk u2 q 154 (encC x) := bq
      have xq : Ext w16 u2 := xe.then kq fun b hb _ e => by omega
      refine strS xq ?_
      refine ld (iv L) ((B17f.ext xq).cell rfl) ?_
      refine fldA ?_
      refine ld (iv x.1) (bq.cell rfl) ?_
      refine fldA ?_
      refine ld (iv x.2) (bq.cell rfl) ?_
      refine bld (encM ⟨true, L, x.1, x.2⟩) (by kernel_rfl) ?_
      refine stA (vs := encM ⟨true, L, x.1, x.2⟩) (B4f.ext xq) rfl (Nat.le_of_ble_eq_true rfl) (by simp [Value.oneCell']) (fun w18 b4' k18 z18 => ?_)
      have B4' : Blk w18 b4 122 (encM ⟨true, L, x.1, x.2⟩) := b4'
      refine ret ?_
      refine resL _ (holds_agg (CellsAt.blk B4') rfl) ?_
      exact ⟨(x2.trans (x216.trans xq)).then k18 fun b hb _ e => by omega, ⟨true, L, x.1, x.2⟩, by rw [he]; rfl, by unfold MarkOf; rw [if_pos ⟨he, hz⟩]; exact ⟨hof, hown⟩⟩
end
end Go.Proofs.YtcpogcdadlcdaaaGreat

/- Layer 40: own, valid, Own, Award, Pair. -/
namespace Go.Proofs.YtcpogcdadlcdaaaGreat
open Go Go.RowKit Go.Sort

instance eqMark : EqTy Tryz.prog 122 := ⟨by kernel_rfl⟩
section
variable {D : Nat → Prop} {w : World}
theorem c_comp {x y : Int × Int} : CallZ Tryz.prog 83 #[.agg (encC x).toArray, .agg (encC y).toArray] w (fun v w' => v = iv (cmpC x y) ∧ Ext w w') := by
  intro w0 hw
  subst hw
  rw [callsIn_wide]
  refine (k_cmp x y w0).mono ?_
  rintro e w' ⟨rfl, q, os, rfl⟩
  refine ⟨_, rfl, rfl, rfl, rfl, rfl, ?_, fun i hi _ => ?_⟩
  · show w0.heap.size ≤ (w0.heap ++ os).size
    rw [Array.size_append]; omega
  · show (w0.heap ++ os)[i]? = w0.heap[i]?
    exact Array.getElem?_append_left hi
theorem cmpC_le {x y : Int × Int} : cmpC x y ≤ 0 ↔ y.1 < x.1 ∨ (x.1 = y.1 ∧ x.2 ≤ y.2) := by unfold cmpC cmpK; repeat' split <;> omega
theorem cmpC_ge {x y : Int × Int} : 0 ≤ cmpC x y ↔ x.1 < y.1 ∨ (x.1 = y.1 ∧ y.2 ≤ x.2) := by unfold cmpC cmpK; repeat' split <;> omega
theorem ne_none {m : Mk} : ((m.late == false) && ((m.level == 0) && ((m.claim == 0) && ((m.index == 0) && true)))) = decide (m = Mk.none) := by
  obtain ⟨l, L, c, i⟩ := m
  rw [Bool.eq_iff_iff]
  simp [Mk.none]
theorem c_gown {m : Mk} {x : Int × Int} (hx : 0 ≤ x.1 ∧ x.1 ≤ 1073741824) (hm : 0 ≤ m.level ∧ m.level ≤ 1073741824) : CallZ Tryz.prog 81 #[.agg (encM m).toArray, .agg (encC x).toArray] w (fun v w' => v = iv (ownV m x.1 x.2) ∧ Ext w w') := by
  obtain ⟨l, L, c0, i0⟩ := m
  have hm : 0 ≤ L ∧ L ≤ 1073741824 := hm
  refine fn_rule (args := [.agg #[.bool l, iv L, iv c0, iv i0], .agg #[iv x.1, iv x.2]]) Tryz.func81 (by kernel_rfl) ?_
  refine box (fun b2 w1 h1 => ?_)
  refine box (fun b3 w2 h2 => ?_)
  have x2 := h1.ext.trans h2.ext
  have B2 : Blk w2 b2 122 [.bool l, iv L, iv c0, iv i0] := h1.blk.ext h2.ext
  have B3 : Blk w2 b3 154 (encC x) := h2.blk
  refine ldA (encC x) (.blk B3) rfl ?_
  refine fldA ?_
  refine ld (iv c0) (B2.cell rfl) ?_
  refine fldA ?_
  refine ld (iv i0) (B2.cell rfl) ?_
  refine bld (encC (c0, i0)) (by kernel_rfl) ?_
  refine call_of (c_comp (x := x) (y := (c0, i0))) ?_
  rintro _ w3 ⟨rfl, x3⟩
  have B2 := B2.ext x3
  have B3 := B3.ext x3
  have x3 := x2.trans x3
  have hle := cmpC_le (x := x) (y := (c0, i0))
  have hge := cmpC_ge (x := x) (y := (c0, i0))
  obtain ⟨o, ho⟩ : ∃ o, o = cmpC x (c0, i0) := ⟨_, rfl⟩
  rw [← ho] at hle hge ⊢
  have hle : o ≤ 0 ↔ c0 < x.1 ∨ (x.1 = c0 ∧ x.2 ≤ i0) := hle
  have hge : 0 ≤ o ↔ x.1 < c0 ∨ (x.1 = c0 ∧ i0 ≤ x.2) := hge
  clear ho
  refine ldA [.bool l, iv L, iv c0, iv i0] (.blk B2) rfl ?_
  refine bld [.bool false, iv 0, iv 0, iv 0] (by kernel_rfl) ?_
  refine eqS ((l == false) && ((L == 0) && ((c0 == 0) && ((i0 == 0) && true)))) (by kernel_rfl) (fun q => ?_) (fun q => ?_)
  · rw [show ((l == false) && ((L == 0) && ((c0 == 0) && ((i0 == 0) && true)))) = decide ((⟨l, L, c0, i0⟩ : Mk) = Mk.none) from @ne_none ⟨l, L, c0, i0⟩, decide_eq_true_eq] at q
    exact ret1 (iv 0) rfl ⟨by unfold ownV; rw [if_pos q], x3⟩
  rw [show ((l == false) && ((L == 0) && ((c0 == 0) && ((i0 == 0) && true)))) = decide ((⟨l, L, c0, i0⟩ : Mk) = Mk.none) from @ne_none ⟨l, L, c0, i0⟩, decide_eq_false_iff_not] at q
  cases l with
  | false =>
    refine fldA ?_
    refine ld (.bool false) (B2.cell rfl) ?_
    refine cD (fun g => ?_) (fun g => ?_)
    · refine fldA ?_
      refine ld (iv x.1) (B3.cell rfl) ?_
      refine quoI (by omega) (by omega) (by omega) ?_
      refine fldA ?_
      refine ld (iv L) (B2.cell rfl) ?_
      refine ret1 (iv (min (x.1 / 2) L)) rfl ⟨?_, x3⟩
      unfold ownV
      rw [if_neg q, if_neg (by simp), if_pos (show upTo ⟨false, L, c0, i0⟩ x.1 x.2 from hle.1 g)]
    · refine fldA ?_
      refine ld (.bool false) (B2.cell rfl) ?_
      refine fldA ?_
      refine ld (iv x.1) (B3.cell rfl) ?_
      refine quoI (by omega) (by omega) (by omega) ?_
      refine fldA ?_
      refine ld (iv L) (B2.cell rfl) ?_
      refine arI (by omega) ?_
      refine ret1 (iv (min (x.1 / 2) (L - 1))) rfl ⟨?_, x3⟩
      unfold ownV
      rw [if_neg q, if_neg (by simp), if_neg (show ¬ upTo ⟨false, L, c0, i0⟩ x.1 x.2 from fun h => g (hle.2 h))]
  | true =>
    refine fldA ?_
    refine ld (.bool true) (B2.cell rfl) ?_
    refine fldA ?_
    refine ld (.bool true) (B2.cell rfl) ?_
    refine cD (fun g => ?_) (fun g => ?_)
    · refine fldA ?_
      refine ld (iv x.1) (B3.cell rfl) ?_
      refine fldA ?_
      refine ld (iv x.1) (B3.cell rfl) ?_
      refine fldA ?_
      refine ld (iv x.1) (B3.cell rfl) ?_
      refine quoI (by omega) (by omega) (by omega) ?_
      refine arI (by omega) ?_
      refine fldA ?_
      refine ld (iv L) (B2.cell rfl) ?_
      refine arI (by omega) ?_
      refine arI (by omega) ?_
      refine ret1 (iv (x.1 - min (x.1 - x.1 / 2) (L - 1))) rfl ⟨?_, x3⟩
      unfold ownV
      rw [if_neg q, if_pos rfl, if_pos (show upTo ⟨true, L, c0, i0⟩ x.1 x.2 from hge.1 g)]
    · refine fldA ?_
      refine ld (iv x.1) (B3.cell rfl) ?_
      refine fldA ?_
      refine ld (iv x.1) (B3.cell rfl) ?_
      refine fldA ?_
      refine ld (iv x.1) (B3.cell rfl) ?_
      refine quoI (by omega) (by omega) (by omega) ?_
      refine arI (by omega) ?_
      refine fldA ?_
      refine ld (iv L) (B2.cell rfl) ?_
      refine arI (by omega) ?_
      refine ret1 (iv (x.1 - min (x.1 - x.1 / 2) L)) rfl ⟨?_, x3⟩
      unfold ownV
      rw [if_neg q, if_pos rfl, if_neg (show ¬ upTo ⟨true, L, c0, i0⟩ x.1 x.2 from fun h => g (hge.2 h))]
/-- Which marks are valid. -/
def VM (m : Mk) : Prop := m = Mk.none ∨ (m.Lit ∧ m.claim ≤ 1073741824 ∧ 0 ≤ m.index ∧ m.index < 664)
theorem VM.b {m : Mk} (h : VM m) : 0 ≤ m.level ∧ m.level ≤ 1073741824 := by
  rcases h with rfl | ⟨h, h1, -⟩
  · exact ⟨by decide, by decide⟩
  · have := h.lo
    have := h.hi
    have := h.c0
    split at * <;> omega
noncomputable instance (m : Mk) : Decidable (VM m) := Classical.propDecidable _
noncomputable def validMk (m : Mk) : Bool := decide (VM m)
noncomputable def ownE (m : Mk) (i c : Int) : Int := if VM m then (if 0 ≤ i ∧ i < 664 ∧ 0 ≤ c ∧ c ≤ 1073741824 then 0 else 1) else 400
/-- The awards by a mark. -/
def awL (m : Mk) (l : List Int) : List Int := (List.range l.length).map fun i => ownV m (clA l i) i
theorem awL_snoc {m : Mk} {l : List Int} {k : Nat} {c : Int} (h : l[k]? = some c) : awL m (l.take (k + 1)) = awL m (l.take k) ++ [ownV m c k] := by
  have hk := (List.getElem?_eq_some_iff.1 h).1
  unfold awL
  rw [List.length_take, List.length_take, Nat.min_eq_left (by omega), Nat.min_eq_left (by omega), List.range_succ, List.map_append]
  congr 1
  · refine List.map_congr_left fun i hi => ?_
    have := List.mem_range.1 hi
    unfold clA
    rw [List.getD_eq_getElem?_getD, List.getD_eq_getElem?_getD, List.getElem?_take, List.getElem?_take, if_pos (by omega), if_pos (by omega)]
  · unfold clA
    rw [List.map_cons, List.map_nil, List.getD_eq_getElem?_getD, List.getElem?_take, if_pos (by omega), h]; rfl
theorem MarkOf.vm {E : Int} {l : List Int} {m : Mk} (h : MarkOf E l m) (he : tErr E l = 0) : VM m := by
  unfold MarkOf at h
  by_cases hE : E = 0
  · rw [if_neg fun k => k.2 hE] at h; exact .inl h
  · rw [if_pos ⟨he, hE⟩] at h
    obtain ⟨hlen, hcl, -⟩ := tErr_no he
    have hix := h.1.ix
    refine .inr ⟨h.1.lit, ?_, by omega, by omega⟩
    rw [h.1.cl]
    refine (hcl _ ?_).2
    unfold clA
    rw [List.getD_eq_getElem?_getD, List.getElem?_eq_getElem (by omega : m.index.toNat < l.length)]
    exact List.getElem_mem _
set_option maxRecDepth 4000 in
theorem c_gAward {E : Int} {l : List Int} {A : Option Addr} {n c : Nat} (hl : SlR tInt D w A n l) (hE : I64 E) : CallZ Tryz.prog 58 #[iv E, .slice A n c] w (fun v w' => (tErr E l ≠ 0 ∧ v = .tuple #[.slice none 0 0, iv (tErr E l)] ∧ Ext w w') ∨
    (tErr E l = 0 ∧ ∃ m A' n' c', MarkOf E l m ∧ v = .tuple #[.slice A' n' c', iv 0] ∧ OwnF w w' A' n' c' 3 1 ((awL m l).map fun k => .int .i64 k) ∧ n' = l.length)) := by
  have l1 := hl.len
  refine fn_rule (args := [iv E, .slice A n c]) Tryz.func58 (by kernel_rfl) ?_
  refine call_of (c_gThr hl hE) ?_
  rintro _ w1 ⟨x1, m, rfl, hm⟩
  obtain ⟨e, hee⟩ : ∃ e, e = tErr E l := ⟨_, rfl⟩
  rw [← hee]
  refine alloc (fun b w2 h2 => ?_)
  refine stA (vs := encM m) h2.blk rfl (Nat.le_of_ble_eq_true rfl) (by simp [Value.oneCell']) (fun w3 B k3 z3 => ?_)
  have B : Blk w3 b 122 (encM m) := B
  have e2 := h2.at_
  have x3 : Ext w w3 := (x1.trans h2.ext).then k3 fun b hb _ e => by have := x1.size; omega
  refine cN (fun g => ?_) (fun g => ?_)
  · exact ret2 (.slice none 0 0) (iv e) rfl rfl (.inl ⟨g, rfl, x3⟩)
  have he : tErr E l = 0 := by rw [← hee]; exact g
  obtain ⟨hlen, hcl, -⟩ := tErr_no he
  have hvm := (hm.vm he).b
  refine len ?_
  refine loop_rule (fun s : Nat × Option Addr × Nat => [(20, iv (s.1 : Int)), (4, .slice s.2.1 s.1 s.2.2)]) (fun s u => s.1 ≤ n ∧ OwnF w3 u s.2.1 s.1 s.2.2 3 1 ((awL m (l.take s.1)).map fun k => .int .i64 k)) (fun s _ => n - s.1) (0, none, 0) ⟨rfl, rfl, trivial⟩ ⟨by omega, .nil (.refl _ _)⟩ rfl ?_
  rintro G ⟨k, C, cb⟩ u ⟨hk, own⟩
  refine cD (fun hlt => ?_) (fun hge => ?_)
  · have hlt : k < n := by omega
    obtain ⟨b, o, cs, a, rfl, ha, -, -, hc, rfl, hi⟩ := (hl.ext (x3.trans own.ext)).at_ hlt
    have hac := hcl a (List.mem_of_getElem? ha)
    refine idx k rfl hlt ?_
    refine ld (iv a) (hc 0 _ rfl) ?_
    refine ldA (encM m) (.blk (B.ext own.ext)) rfl ?_
    refine bld (encC (a, (k : Int))) (by kernel_rfl) ?_
    refine call_of (c_gown (m := m) (x := (a, (k : Int))) hac hvm) ?_
    rintro _ u1 ⟨rfl, y1⟩
    refine lit [iv (ownV m a k)] (fun g u2 hq => ?_)
    refine appF (own.then (y1.trans hq.ext)) (hq.src (sz := 1) rfl) (by omega) (fun A' c' u3 o3 _ _ => ?_)
    refine arI (by omega) ?_
    refine next (k + 1, A', c') ⟨by rw [Int.natCast_add]; rfl, rfl, trivial⟩ ⟨by omega, ?_⟩ (by simp only; omega)
    rw [awL_snoc ha, List.map_append]; exact o3
  · have hkn : k = n := by omega
    subst hkn
    rw [List.take_of_length_le (by omega)] at own
    exact ret2 (.slice C k cb) (iv 0) rfl rfl (.inr ⟨g, m, C, k, cb, hm, rfl, own.base x3, by omega⟩)
end
end Go.Proofs.YtcpogcdadlcdaaaGreat

/- Layer 40: Pair; what the laws use of their own; the awards of a mark. -/
namespace Go.Proofs.YtcpogcdadlcdaaaGreat
open Go Go.RowKit

theorem clA_b {l : List Int} (h : ∀ c ∈ l, 0 ≤ c ∧ c ≤ 1073741824) {i : Nat} (hi : i < l.length) : 0 ≤ clA l i ∧ clA l i ≤ 1073741824 := by
  refine h _ ?_
  unfold clA
  rw [List.getD_eq_getElem?_getD, List.getElem?_eq_getElem hi]
  exact List.getElem_mem _
theorem clA_at {l : List Int} {i : Nat} {c : Int} (h : l[i]? = some c) : clA l i = c := by unfold clA; rw [List.getD_eq_getElem?_getD, h]; rfl
theorem MarkOf.awd {E : Int} {l : List Int} {m : Mk} (h : MarkOf E l m) (he : tErr E l = 0) : Awd l E (fun i => ownV m (clA l i) i) := by
  obtain ⟨hlen, hcl, -⟩ := tErr_no he
  unfold MarkOf at h
  by_cases hE : E = 0
  · rw [if_neg fun k => k.2 hE] at h
    subst h
    have z : ∀ c i, ownV Mk.none c i = 0 := fun c i => by unfold ownV; rw [if_pos rfl]
    refine ⟨fun i hi => ?_, ?_, fun i k hi hk h1 => ?_⟩
    · have := clA_b hcl hi
      rw [z]; omega
    · rw [sumN_congr (g := fun _ => 0) fun i _ => z _ _, sumN_zero, hE]
    · rw [z] at h1; omega
  · rw [if_pos ⟨he, hE⟩] at h
    exact h.1.awd (fun i hi => (clA_b hcl hi).1) h.2
theorem MarkOf.uniq {E : Int} {l : List Int} {m m' : Mk} (h : MarkOf E l m) (k : MarkOf E l m') : m = m' := by
  unfold MarkOf at h k
  by_cases hh : tErr E l = 0 ∧ E ≠ 0
  · rw [if_pos hh] at h k
    obtain ⟨hlen, hcl, -⟩ := tErr_no hh.1
    exact h.1.uniq k.1 (fun i hi => (clA_b hcl hi).1) (by rw [h.2, k.2])
  · rw [if_neg hh] at h k; rw [h, k]
theorem awL_len {m : Mk} {l : List Int} : (awL m l).length = l.length := by unfold awL; rw [List.length_map, List.length_range]
theorem awL_at {m : Mk} {l : List Int} {i : Nat} (h : i < l.length) : (awL m l)[i]? = some (ownV m (clA l i) i) := by
  unfold awL
  rw [List.getElem?_map, List.getElem?_range h]; rfl
theorem own_small {m : Mk} {l : List Int} {E : Int} (h : Awd l E (fun i => ownV m (clA l i) i)) (hcl : ∀ c ∈ l, 0 ≤ c ∧ c ≤ 1073741824) {i : Nat} (hi : i < l.length) : 0 ≤ ownV m (clA l i) i ∧ ownV m (clA l i) i ≤ 1073741824 := by
  have h1 := h.b i hi
  have h1 : 0 ≤ ownV m (clA l i) i ∧ ownV m (clA l i) i ≤ clA l i := h1
  have h2 := clA_b hcl hi
  omega
theorem awL_small {m : Mk} {l : List Int} {E : Int} (h : Awd l E (fun i => ownV m (clA l i) i)) (hcl : ∀ c ∈ l, 0 ≤ c ∧ c ≤ 1073741824) : ∀ x ∈ awL m l, I64 x := fun x hx => by
  unfold awL at hx
  obtain ⟨i, hi, rfl⟩ := List.mem_map.1 hx
  have := own_small h hcl (List.mem_range.1 hi)
  unfold I64; omega
/-- What Pair says. -/
def pairV (E c d : Int) : Int × Int × Int :=
  if 0 ≤ c ∧ c ≤ 1073741824 ∧ 0 ≤ d ∧ d ≤ 1073741824 ∧ 0 ≤ E ∧ E ≤ c + d then
    (max 0 (E - d) + (E - max 0 (E - d) - max 0 (E - c)) / 2, max 0 (E - d) + (E - max 0 (E - d) - max 0 (E - c)) - (E - max 0 (E - d) - max 0 (E - c)) / 2, 0)
  else (0, 0, 400)
section
variable {D : Nat → Prop} {w : World}
abbrev OkL (l : List Int) : Prop := ∀ c ∈ l, 0 ≤ c ∧ c ≤ 1073741824
end
end Go.Proofs.YtcpogcdadlcdaaaGreat

/- Layer 40: the laws' sane answers true. -/
namespace Go.Proofs.YtcpogcdadlcdaaaGreat
open Go Go.RowKit
instance eqRange : EqTy Tryz.prog 47 := ⟨by kernel_rfl⟩

theorem m40 : MarkOf 3 [2, 4] ⟨false, 2, 4, 1⟩ := by
  unfold MarkOf
  rw [if_pos (by decide)]
  exact ⟨⟨⟨by decide, by decide, by decide⟩, ⟨by decide, by decide⟩, rfl⟩, by decide⟩
theorem m41 : MarkOf 1 [1, 1] ⟨true, 1, 1, 1⟩ := by
  unfold MarkOf
  rw [if_pos (by decide)]
  exact ⟨⟨⟨by decide, by decide, by decide⟩, ⟨by decide, by decide⟩, rfl⟩, by decide⟩
theorem v40 : VM ⟨false, 2, 4, 1⟩ := .inr ⟨⟨by decide, by decide, by decide⟩, by decide, by decide, by decide⟩
theorem own_ok {m : Mk} {i c : Int} (h : VM m) (k : 0 ≤ i ∧ i < 664 ∧ 0 ≤ c ∧ c ≤ 1073741824) : ownE m i c = 0 := by unfold ownE; rw [if_pos h, if_pos k]
theorem OwnF.is {w0 w : World} {A : Option Addr} {n c : Nat} {e : TypeId} {xs : List Int} (h : OwnF w0 w A n c e 1 (xs.map fun k => .int .i64 k)) (hx : ∀ x ∈ xs, I64 x) (hle : n ≤ 140737488355328) : SlR tInt (fun b => w0.heap.size ≤ b) w A n xs := h.ints hx hle fun _ h => h
theorem smallG {l : List Int} (h : (l.all fun x => decide (0 ≤ x) && decide (x ≤ 100)) = true) : ∀ x ∈ l, I64 x := fun x hx => by have := List.all_eq_true.1 h x hx; simp only [Bool.and_eq_true, decide_eq_true_eq] at this; unfold I64; constructor <;> omega
section
variable {w : World}
theorem c_gAward' {D : Nat → Prop} {E : Int} {l : List Int} {A : Option Addr} {n c : Nat} (hl : SlR tInt D w A n l) (he : tErr E l = 0) : CallZ Tryz.prog 58 #[iv E, .slice A n c] w (fun v w' => ∃ m A' n' c', MarkOf E l m ∧ v = .tuple #[.slice A' n' c', iv 0] ∧ SlR tInt (fun b => w.heap.size ≤ b) w' A' n' (awL m l) ∧ n' ≤ c' ∧ Ext w w' ∧ n' = l.length) := by
  obtain ⟨hlen, hcl, h0, hs⟩ := tErr_no he
  have hb := isum_b hcl
  unfold isum at hb
  have c1 := c_gAward (c := c) hl (show I64 E by unfold I64; omega)
  intro w0 hw
  refine (c1 w0 hw).mono ?_
  rintro e w' ⟨v, hv, hR⟩
  refine ⟨v, hv, ?_⟩
  rcases hR with ⟨h, -⟩ | ⟨-, m, A', n', c', hm, hv2, own, hn⟩
  · exact absurd he h
  · exact ⟨m, A', n', c', hm, hv2, own.is (awL_small (hm.awd he) hcl) (by omega), own.le, own.ext, hn⟩
end
end Go.Proofs.YtcpogcdadlcdaaaGreat

/- The laws GarmentPublic, GarmentOrder, GarmentDual. -/
namespace Go.Proofs.YtcpogcdadlcdaaaGreat
open Go Go.RowKit

theorem tErr_ok {E : Int} {l : List Int} (h : l.length ≤ 60 ∧ OkL l ∧ 0 ≤ E ∧ E ≤ isum l) : tErr E l = 0 := by
  unfold tErr
  rw [if_neg (by omega), show l.all okC = true from List.all_eq_true.2 (fun c hc => decide_eq_true (h.2.1 c hc)), Bool.true_and, if_pos (decide_eq_true ⟨h.2.2.1, h.2.2.2⟩)]
theorem awL_b {m : Mk} {l : List Int} {E : Int} (h : Awd l E (fun i => ownV m (clA l i) i)) (hcl : OkL l) : OkL (awL m l) := fun x hx => by
  unfold awL at hx
  obtain ⟨i, hi, rfl⟩ := List.mem_map.1 hx
  exact own_small h hcl (List.mem_range.1 hi)
theorem awL_sum {m : Mk} {l : List Int} {E : Int} (h : Awd l E (fun i => ownV m (clA l i) i)) : isum (awL m l) = E := by
  rw [← h.s, sumN_map]; rfl
theorem clA_sum {l : List Int} : sumN (clA l) l.length = isum l := by
  have := clm_sum (l := l) (f := fun c _ => c)
  rw [clm_fst] at this
  exact this
/-- What a slice of awards has at an index. -/
theorem awL_get {m : Mk} {l : List Int} {k : Nat} {a : Int} (h : (awL m l)[k]? = some a) (hk : k < l.length) : a = ownV m (clA l k) k := by
  rw [awL_at hk] at h; injection h with h; exact h.symm
section
variable {D : Nat → Prop} {w : World} {l : List Int} {sh mo : Int} {A : Option Addr} {n c : Nat}
end
end Go.Proofs.YtcpogcdadlcdaaaGreat

/- The reference's Own and Pair; the law GarmentOwnSpec. -/
namespace Go.Proofs.YtcpogcdadlcdaaaGreat
open Go Go.RowKit

section
variable {w : World}
end
end Go.Proofs.YtcpogcdadlcdaaaGreat

/- The law GarmentConsistent. -/
namespace Go.Proofs.YtcpogcdadlcdaaaGreat
open Go Go.RowKit

theorem bitA {op : BinOp} {k : IntKind} {a b : Int} {K : Value → Prop} (h : K (.int k (bits op k a b))) : BitP op k a b K := by rw [BitP_eq]; exact h
/-- Whether a claimant is among those who divide again. -/
def whoV (who : Int) (i : Nat) : Int := bits .and .u64 (who.fdiv (2 ^ (min (i : Int).toNat IntKind.u64.bits))) 1
def ix (who : Int) (k : Nat) : List Nat := (List.range k).filter fun i => decide (whoV who i = 1)
theorem ix_yes {who : Int} {k : Nat} (h : whoV who k = 1) : ix who (k + 1) = ix who k ++ [k] := by
  unfold ix
  rw [List.range_succ, List.filter_append, List.filter_cons_of_pos (by simpa using h)]; rfl
theorem ix_no {who : Int} {k : Nat} (h : ¬ whoV who k = 1) : ix who (k + 1) = ix who k := by
  unfold ix
  rw [List.range_succ, List.filter_append, List.filter_cons_of_neg (by simpa using h)]; simp
theorem ix_len {who : Int} {k : Nat} : (ix who k).length ≤ k := by
  have := List.length_filter_le (fun i => decide (whoV who i = 1)) (List.range k)
  rw [List.length_range] at this
  exact this
theorem ix_lt {who : Int} {k i : Nat} (h : i ∈ ix who k) : i < k := List.mem_range.1 (List.mem_filter.1 h).1
theorem ix_pw {who : Int} {k : Nat} : (ix who k).Pairwise (· < ·) := List.Pairwise.filter _ List.pairwise_lt_range
theorem kLt_ix {c i j c' i' j' p p' : Int} (h1 : i < i' → p < p') (h2 : i' < i → p' < p) (h : kLt c i j c' i' j') : kLt c p j c' p' j' := by unfold kLt at *; omega
/-- Some of the claimants divide what they have as before. -/
theorem Awd.part {l : List Int} {E : Int} {a : Nat → Int} (h : Awd l E a) {I : List Nat} (hI : ∀ i ∈ I, i < l.length) (hp : I.Pairwise (· < ·)) :
    Awd (I.map (clA l)) (isum (I.map a)) (fun j => a (I.getD j 0)) := by
  have at_ : ∀ {j : Nat} (hj : j < (I.map (clA l)).length), clA (I.map (clA l)) j = clA l (I.getD j 0) ∧ I.getD j 0 ∈ I := fun {j} hj => by
    rw [List.length_map] at hj
    have e : I.getD j 0 = I[j] := by rw [List.getD_eq_getElem?_getD, List.getElem?_eq_getElem hj]; rfl
    refine ⟨?_, by rw [e]; exact List.getElem_mem _⟩
    rw [e]
    show (I.map (clA l)).getD j 0 = _
    rw [List.getD_eq_getElem?_getD, List.getElem?_map, List.getElem?_eq_getElem hj]; rfl
  have mono : ∀ {j k : Nat}, k < I.length → j < k → I.getD j 0 < I.getD k 0 := fun {j k} hk hjk => by
    rw [List.getD_eq_getElem?_getD, List.getD_eq_getElem?_getD, List.getElem?_eq_getElem hk, List.getElem?_eq_getElem (show j < I.length by omega)]
    exact List.pairwise_iff_getElem.1 hp j k (by omega) hk hjk
  refine ⟨fun j hj => ?_, ?_, fun j k hj hk h1 h2 => ?_⟩
  · rw [(at_ hj).1]; exact h.b _ (hI _ (at_ hj).2)
  · rw [List.length_map, ← clA_sum, List.length_map]
    refine sumN_congr fun j hj => ?_
    show a (I.getD j 0) = (I.map a).getD j 0
    rw [List.getD_eq_getElem?_getD, List.getD_eq_getElem?_getD, List.getElem?_map, List.getElem?_eq_getElem hj]; rfl
  · have e1 := at_ hj
    have e2 := at_ hk
    rw [e2.1] at h2
    have := h.d _ _ (hI _ e1.2) (hI _ e2.2) h1 h2
    rw [e1.1, e2.1]
    rw [List.length_map] at hj hk
    refine kLt_ix (fun hlt => ?_) (fun hlt => ?_) this
    · by_cases q : j < k
      · omega
      · by_cases q2 : j = k
        · subst q2; omega
        · have := mono hj (show k < j by omega); omega
    · by_cases q : k < j
      · omega
      · by_cases q2 : j = k
        · subst q2; omega
        · have := mono hk (show j < k by omega); omega
/-- Two slices of the function's own that do not share. -/
def dj (A B : Option Addr) : Prop := ∀ g, A = some (ad g 0) → B ≠ some (ad g 0)
theorem dj.symm {A B : Option Addr} (h : dj A B) : dj B A := fun g h1 h2 => h g h2 h1
theorem dj.app {A A' B : Option Addr} {w0 u : World} {n c sz : Nat} {e : TypeId} {cs : List Value} (h : dj A B) (hA : A' = A ∨ A' = none ∨ A' = some (ad u.heap.size 0)) (hB : OwnF w0 u B n c e sz cs) : dj A' B := by
  intro g h1 h2
  rcases hA with e | e | e
  · exact h g (e ▸ h1) h2
  · rw [e] at h1; cases h1
  · rw [e] at h1
    injection h1 with h1; injection h1 with h1
    rcases hB.form with ⟨e2, -⟩ | ⟨g', e2, -, hlt, -⟩
    · rw [e2] at h2; cases h2
    · rw [e2] at h2; injection h2 with h2; injection h2 with h2; omega
theorem srcOf {w : World} {g : Nat} {t : TypeId} {v : Value} (h : Blk w g t [v]) : Src w (some (ad g 0)) 1 1 [v] := ⟨rfl, fun _ => ⟨g, 0, rfl, fun j x hx => by rw [Nat.zero_add]; exact h.cell hx⟩⟩
theorem own_ne {w0 w : World} {A : Option Addr} {n c sz : Nat} {e : TypeId} {cs : List Value} (h : OwnF w0 w A n c e sz cs) {g : Nat} (hg : w.heap.size ≤ g) : A ≠ some (ad g 0) := fun e2 => by
  rcases h.form with ⟨e3, -⟩ | ⟨g', e3, -, hlt, -⟩
  · rw [e3] at e2; cases e2
  · rw [e3] at e2; injection e2 with e2; injection e2 with e2; omega
section
variable {D : Nat → Prop} {w : World} {l : List Int} {sh mo who : Int} {A : Option Addr} {n c : Nat}
end
end Go.Proofs.YtcpogcdadlcdaaaGreat

/- The reference's Threshold. -/
namespace Go.Proofs.YtcpogcdadlcdaaaGreat
open Go Go.RowKit

/-- How many litres of a claim are before a level or in it. -/
def toF (late : Bool) (L c : Int) : Int := if late then c / 2 + max 0 (c - c / 2 - L + 1) else max 0 (min (c / 2) L)
def toN (late : Bool) (L : Int) (l : List Int) (k : Nat) : Int := sumN (fun i => toF late L (clA l i)) k
def toV (late : Bool) (L : Int) (l : List Int) : Int := toN late L l l.length
/-- The level that is before a mark's. -/
def befL (m : Mk) : Int := if m.late then m.level + 1 else m.level - 1
instance (m : Mk) (c i : Int) : Decidable (m.level ≤ (if m.late then c - c / 2 else c / 2) ∧ upTo m c i) := inferInstance
def oneV (m : Mk) (c i : Int) : Int := if m.level ≤ (if m.late then c - c / 2 else c / 2) ∧ upTo m c i then 1 else 0
theorem own_pt {m : Mk} {c i : Int} (h : m.Lit) (hc : 0 ≤ c) : ownV m c i = toF m.late (befL m) c + oneV m c i := by
  obtain ⟨l, L, c0, i0⟩ := m
  have h1 : 1 ≤ L := h.lo
  cases l with
  | false =>
    have e1 : befL ⟨false, L, c0, i0⟩ = L - 1 := rfl
    have e2 : toF false (L - 1) c = max 0 (min (c / 2) (L - 1)) := rfl
    rw [e1]
    show _ = toF false (L - 1) c + oneV ⟨false, L, c0, i0⟩ c i
    rw [e2]
    by_cases hq : c0 < c ∨ (c = c0 ∧ i ≤ i0)
    · rw [own_ee h hq]
      by_cases g : L ≤ c / 2
      · rw [show oneV ⟨false, L, c0, i0⟩ c i = 1 from if_pos ⟨g, hq⟩]; omega
      · rw [show oneV ⟨false, L, c0, i0⟩ c i = 0 from if_neg fun k => g k.1]; omega
    · rw [own_en h hq, show oneV ⟨false, L, c0, i0⟩ c i = 0 from if_neg fun k => hq k.2]; omega
  | true =>
    have e1 : befL ⟨true, L, c0, i0⟩ = L + 1 := rfl
    have e2 : toF true (L + 1) c = c / 2 + max 0 (c - c / 2 - (L + 1) + 1) := rfl
    rw [e1]
    show _ = toF true (L + 1) c + oneV ⟨true, L, c0, i0⟩ c i
    rw [e2]
    by_cases hq : c < c0 ∨ (c = c0 ∧ i0 ≤ i)
    · rw [own_le h hq]
      by_cases g : L ≤ c - c / 2
      · rw [show oneV ⟨true, L, c0, i0⟩ c i = 1 from if_pos ⟨g, hq⟩]; omega
      · rw [show oneV ⟨true, L, c0, i0⟩ c i = 0 from if_neg fun k => g k.1]; omega
    · rw [own_ln h hq, show oneV ⟨true, L, c0, i0⟩ c i = 0 from if_neg fun k => hq k.2]; omega
section
variable {l : List Int} {m : Mk} {E : Int}
theorem place_eq (h : m.Lit) (hl : ∀ i, i < l.length → 0 ≤ clA l i) : ownS m l = toV m.late (befL m) l + sumN (fun i => oneV m (clA l i) i) l.length := by
  unfold ownS toV toN
  rw [← sumN_add]
  exact sumN_congr fun i hi => own_pt h (hl i hi)
theorem Mk.Of.nat (h : m.Of l) : m.index.toNat < l.length ∧ ((m.index.toNat : Nat) : Int) = m.index := by have := h.ix; omega
/-- .. and at the mark's own claimant. -/
theorem own_at (h : m.Of l) : ownV m (clA l m.index.toNat) (m.index.toNat : Nat) = m.j := by
  rw [h.nat.2, ← h.cl]; exact own_self h.lit
theorem lev_early (h : m.Of l) (hl : ∀ i, i < l.length → 0 ≤ clA l i) (hs : ownS m l = E) (he : m.late = false) {x : Int} (_hx : 0 ≤ x) : E ≤ toV false x l ↔ m.level ≤ x := by
  obtain ⟨b, L, c0, i0⟩ := m
  have he : b = false := he
  subst he
  have lit := h.lit
  have h1 : 1 ≤ L := lit.lo
  have h2 : L ≤ c0 / 2 := lit.hi
  constructor
  · intro hE
    by_cases q : L ≤ x
    · exact q
    exfalso
    have := sumN_lt (f := fun i => toF false x (clA l i)) (g := fun i => ownV ⟨false, L, c0, i0⟩ (clA l i) i) (n := l.length) (fun i hi => by
      have := hl i hi
      show max 0 (min (clA l i / 2) x) ≤ _
      by_cases hq : c0 < clA l i ∨ (clA l i = c0 ∧ (i : Int) ≤ i0)
      · rw [own_ee lit hq]; omega
      · rw [own_en lit hq]; omega) ⟨i0.toNat, h.nat.1, by
        have e : ownV ⟨false, L, c0, i0⟩ (clA l i0.toNat) (i0.toNat : Nat) = L := own_at h
        rw [e]
        show max 0 (min (clA l i0.toNat / 2) x) < L
        omega⟩
    have hs : sumN (fun i => ownV ⟨false, L, c0, i0⟩ (clA l i) i) l.length = E := hs
    rw [hs] at this
    have : toV false x l < E := this
    omega
  · intro hLx
    have hLx : L ≤ x := hLx
    rw [← hs]
    exact sumN_le fun i hi => by
      have := hl i hi
      show _ ≤ max 0 (min (clA l i / 2) x)
      by_cases hq : c0 < clA l i ∨ (clA l i = c0 ∧ (i : Int) ≤ i0)
      · rw [own_ee lit hq]; omega
      · rw [own_en lit hq]; omega
theorem lev_late (h : m.Of l) (hl : ∀ i, i < l.length → 0 ≤ clA l i) (hs : ownS m l = E) (he : m.late = true) {x : Int} (_hx : 1 ≤ x) : E ≤ toV true x l ↔ x ≤ m.level := by
  obtain ⟨b, L, c0, i0⟩ := m
  have he : b = true := he
  subst he
  have lit := h.lit
  have h1 : 1 ≤ L := lit.lo
  have h2 : L ≤ c0 - c0 / 2 := lit.hi
  have hcl : c0 = clA l i0.toNat := h.cl
  constructor
  · intro hE
    by_cases q : x ≤ L
    · exact q
    exfalso
    have := sumN_lt (f := fun i => toF true x (clA l i)) (g := fun i => ownV ⟨true, L, c0, i0⟩ (clA l i) i) (n := l.length) (fun i hi => by
      have := hl i hi
      show clA l i / 2 + max 0 (clA l i - clA l i / 2 - x + 1) ≤ _
      by_cases hq : clA l i < c0 ∨ (clA l i = c0 ∧ i0 ≤ (i : Int))
      · rw [own_le lit hq]; omega
      · rw [own_ln lit hq]; omega) ⟨i0.toNat, h.nat.1, by
        have e : ownV ⟨true, L, c0, i0⟩ (clA l i0.toNat) (i0.toNat : Nat) = c0 - L + 1 := own_at h
        rw [e]
        show clA l i0.toNat / 2 + max 0 (clA l i0.toNat - clA l i0.toNat / 2 - x + 1) < c0 - L + 1
        rw [← hcl]
        omega⟩
    have hs : sumN (fun i => ownV ⟨true, L, c0, i0⟩ (clA l i) i) l.length = E := hs
    rw [hs] at this
    have : toV true x l < E := this
    omega
  · intro hLx
    have hLx : x ≤ L := hLx
    rw [← hs]
    exact sumN_le fun i hi => by
      have := hl i hi
      show _ ≤ clA l i / 2 + max 0 (clA l i - clA l i / 2 - x + 1)
      by_cases hq : clA l i < c0 ∨ (clA l i = c0 ∧ i0 ≤ (i : Int))
      · rw [own_le lit hq]; omega
      · rw [own_ln lit hq]; omega
theorem late_big (h : m.Of l) (hl : ∀ i, i < l.length → 0 ≤ clA l i) (hs : ownS m l = E) (he : m.late = true) {x : Int} (_hx : 0 ≤ x) : toV false x l < E := by
  obtain ⟨b, L, c0, i0⟩ := m
  have he : b = true := he
  subst he
  have lit := h.lit
  have h1 : 1 ≤ L := lit.lo
  have h2 : L ≤ c0 - c0 / 2 := lit.hi
  have hcl : c0 = clA l i0.toNat := h.cl
  rw [← hs]
  refine sumN_lt (f := fun i => toF false x (clA l i)) (g := fun i => ownV ⟨true, L, c0, i0⟩ (clA l i) i) (n := l.length) (fun i hi => ?_) ⟨i0.toNat, h.nat.1, ?_⟩
  · have := hl i hi
    show max 0 (min (clA l i / 2) x) ≤ _
    by_cases hq : clA l i < c0 ∨ (clA l i = c0 ∧ i0 ≤ (i : Int))
    · rw [own_le lit hq]; omega
    · rw [own_ln lit hq]; omega
  · have e : ownV ⟨true, L, c0, i0⟩ (clA l i0.toNat) (i0.toNat : Nat) = c0 - L + 1 := own_at h
    rw [e]
    show max 0 (min (clA l i0.toNat / 2) x) < c0 - L + 1
    rw [← hcl]
    have := lit.c0
    omega
theorem toF_b {late : Bool} {L c : Int} (hL : 0 ≤ L) (hc : 0 ≤ c ∧ c ≤ 1073741824) : 0 ≤ toF late L c ∧ toF late L c ≤ 1073741825 := by
  unfold toF
  split <;> omega
theorem toN_b {late : Bool} {L : Int} (hL : 0 ≤ L) (hcl : OkL l) {k : Nat} (hk : k ≤ l.length) : 0 ≤ toN late L l k ∧ toN late L l k ≤ k * 1073741825 :=
  sumN_b fun i hi => toF_b hL (clA_b hcl (by omega))
end
section
variable {D : Nat → Prop} {w : World} {l : List Int} {A : Option Addr} {n c : Nat}
end
end Go.Proofs.YtcpogcdadlcdaaaGreat

/- The reference's place, level, Threshold, Award; the law GarmentSpec. -/
namespace Go.Proofs.YtcpogcdadlcdaaaGreat
open Go Go.RowKit

section
variable {D : Nat → Prop} {w : World} {l : List Int} {A : Option Addr} {n c : Nat}
end
end Go.Proofs.YtcpogcdadlcdaaaGreat

/- The reference's Threshold and Award; the law GarmentSpec. -/
namespace Go.Proofs.YtcpogcdadlcdaaaGreat
open Go Go.RowKit

section
variable {D : Nat → Prop} {w : World} {l : List Int} {A : Option Addr} {n c : Nat}
/-- What Award answers. -/
noncomputable def awX (E : Int) (l : List Int) (m : Mk) : List Int := if tErr E l = 0 then awL m l else []
theorem c_gAwardX {E : Int} (hl : SlR tInt D w A n l) (hE : I64 E) : CallZ Tryz.prog 58 #[iv E, .slice A n c] w (fun v w' => ∃ m A' n' c', MarkOf E l m ∧ v = .tuple #[.slice A' n' c', iv (tErr E l)] ∧ SlR tInt (fun _ => True) w' A' n' (awX E l m) ∧ Ext w w') := by
  intro w0 hw
  refine (c_gAward (c := c) hl hE w0 hw).mono ?_
  rintro e w' ⟨v, hv, hR⟩
  refine ⟨v, hv, ?_⟩
  rcases hR with ⟨h, hv2, x⟩ | ⟨he, m, A', n', c', hm, hv2, own, hn⟩
  · exact ⟨Mk.none, none, 0, 0, by unfold MarkOf; rw [if_neg fun k => h k.1], hv2, by unfold awX; rw [if_neg h]; exact .nil, x⟩
  · obtain ⟨hlen, hcl, -⟩ := tErr_no he
    refine ⟨m, A', n', c', hm, by rw [he]; exact hv2, ?_, own.ext⟩
    unfold awX
    rw [if_pos he]
    exact (own.is (awL_small (hm.awd he) hcl) (by omega)).more (by decide) fun _ _ _ => trivial
end
end Go.Proofs.YtcpogcdadlcdaaaGreat

/- Layer 41, plainly: the parts of the reaches. -/
namespace Go.Proofs.YtcpogcdadlcdaaaGreat
open Go Go.RowKit

def fmC (d : Dist) (k : Nat) : Farm := d.farms.getD k ⟨ByteArray.empty, 0, 0, 0⟩
theorem fmC_at {d : Dist} {k : Nat} {x : Farm} (h : d.farms[k]? = some x) : fmC d k = x := by unfold fmC; rw [List.getD_eq_getElem?_getD, h]; rfl
/-- A part of a reach: whether it is a farm, and its index. -/
abbrev Pt : Type := Bool × Nat
def isF (d : Dist) (r : Int) (i : Nat) : Bool := decide ((fmC d i).reach = r)
def isC (d : Dist) (r : Int) (i : Nat) : Bool := decide ((rcC d i).up = r)
def ptsF (d : Dist) (r : Int) (k : Nat) : List Pt := ((List.range k).filter (isF d r)).map fun i => (true, i)
def ptsC (d : Dist) (r : Int) (k : Nat) : List Pt := ((List.range k).filter (isC d r)).map fun i => (false, i)
/-- The parts of a reach. -/
def ptsV (d : Dist) (r : Int) : List Pt := ptsF d r d.farms.length ++ ptsC d r d.reaches.length
theorem ptsF_yes {d : Dist} {r : Int} {k : Nat} (h : (fmC d k).reach = r) : ptsF d r (k + 1) = ptsF d r k ++ [(true, k)] := by
  unfold ptsF
  rw [List.range_succ, List.filter_append, List.map_append, List.filter_cons_of_pos (by unfold isF; exact decide_eq_true h)]; rfl
theorem ptsF_no {d : Dist} {r : Int} {k : Nat} (h : ¬ (fmC d k).reach = r) : ptsF d r (k + 1) = ptsF d r k := by
  unfold ptsF
  rw [List.range_succ, List.filter_append, List.map_append, List.filter_cons_of_neg (by unfold isF; rw [decide_eq_true_eq]; exact h)]; simp
theorem ptsC_yes {d : Dist} {r : Int} {k : Nat} (h : (rcC d k).up = r) : ptsC d r (k + 1) = ptsC d r k ++ [(false, k)] := by
  unfold ptsC
  rw [List.range_succ, List.filter_append, List.map_append, List.filter_cons_of_pos (by unfold isC; exact decide_eq_true h)]; rfl
theorem ptsC_no {d : Dist} {r : Int} {k : Nat} (h : ¬ (rcC d k).up = r) : ptsC d r (k + 1) = ptsC d r k := by
  unfold ptsC
  rw [List.range_succ, List.filter_append, List.map_append, List.filter_cons_of_neg (by unfold isC; rw [decide_eq_true_eq]; exact h)]; simp
theorem ptsF_len {d : Dist} {r : Int} {k : Nat} : (ptsF d r k).length ≤ k := by
  unfold ptsF; rw [List.length_map]; exact Nat.le_trans (List.length_filter_le _ _) (by rw [List.length_range]; exact Nat.le_refl k)
theorem ptsC_len {d : Dist} {r : Int} {k : Nat} : (ptsC d r k).length ≤ k := by
  unfold ptsC; rw [List.length_map]; exact Nat.le_trans (List.length_filter_le _ _) (by rw [List.length_range]; exact Nat.le_refl k)
theorem ptsV_len {d : Dist} {r : Int} : (ptsV d r).length ≤ d.farms.length + d.reaches.length := by
  unfold ptsV; rw [List.length_append]; have := ptsF_len (d := d) (r := r) (k := d.farms.length); have := ptsC_len (d := d) (r := r) (k := d.reaches.length); omega
theorem mem_ptsF {d : Dist} {r : Int} {k : Nat} {p : Pt} : p ∈ ptsF d r k ↔ p.1 = true ∧ p.2 < k ∧ (fmC d p.2).reach = r := by
  obtain ⟨b, i⟩ := p
  unfold ptsF isF
  simp only [List.mem_map, List.mem_filter, List.mem_range, decide_eq_true_eq, Prod.mk.injEq]
  constructor
  · rintro ⟨a, ⟨h1, h2⟩, rfl, rfl⟩; exact ⟨rfl, h1, h2⟩
  · rintro ⟨rfl, h1, h2⟩; exact ⟨i, ⟨h1, h2⟩, rfl, rfl⟩
theorem mem_ptsC {d : Dist} {r : Int} {k : Nat} {p : Pt} : p ∈ ptsC d r k ↔ p.1 = false ∧ p.2 < k ∧ (rcC d p.2).up = r := by
  obtain ⟨b, i⟩ := p
  unfold ptsC isC
  simp only [List.mem_map, List.mem_filter, List.mem_range, decide_eq_true_eq, Prod.mk.injEq]
  constructor
  · rintro ⟨a, ⟨h1, h2⟩, rfl, rfl⟩; exact ⟨rfl, h1, h2⟩
  · rintro ⟨rfl, h1, h2⟩; exact ⟨i, ⟨h1, h2⟩, rfl, rfl⟩
theorem mem_ptsV {d : Dist} {r : Int} {p : Pt} : p ∈ ptsV d r ↔ (p.1 = true ∧ p.2 < d.farms.length ∧ (fmC d p.2).reach = r) ∨ (p.1 = false ∧ p.2 < d.reaches.length ∧ (rcC d p.2).up = r) := by
  unfold ptsV; rw [List.mem_append, mem_ptsF, mem_ptsC]
theorem ptsV_nodup {d : Dist} {r : Int} : (ptsV d r).Nodup := by
  unfold ptsV
  refine List.nodup_append.2 ⟨?_, ?_, fun a ha b hb e => ?_⟩
  · exact List.pairwise_map.2 ((List.Pairwise.filter _ List.nodup_range).imp fun h e => h (by injection e))
  · exact List.pairwise_map.2 ((List.Pairwise.filter _ List.nodup_range).imp fun h e => h (by injection e))
  · subst e
    have := (mem_ptsF.1 ha).1
    rw [(mem_ptsC.1 hb).1] at this; cases this
end Go.Proofs.YtcpogcdadlcdaaaGreat

/- Layer 41: contract of grow. -/
namespace Go.Proofs.YtcpogcdadlcdaaaGreat
open Go Go.RowKit

instance keyInt1 : KeyL Tryz.prog 3 kvI := keyI Tryz.underlying3
abbrev encP (p : Pt) : List Value := [.bool p.1, iv (p.2 : Int)]
def tPt : Ty Pt := tFl 2 encP fun _ => rfl
abbrev cps (l : List Pt) : List Value := l.flatMap encP
theorem flat_cps {D : Nat → Prop} {w : World} : ∀ {s : List Pt}, FlatR tPt D w s (cps s)
  | [] => rfl
  | x :: s => ⟨encP x, cps s, rfl, rfl, flat_cps⟩
theorem cps_app {a b : List Pt} : cps (a ++ b) = cps a ++ cps b := List.flatMap_append
theorem cps_len : ∀ {a : List Pt}, (cps a).length = a.length * 2
  | [] => rfl
  | x :: a => by show (encP x ++ cps a).length = (a.length + 1) * 2; rw [List.length_append, cps_len]; show 2 + _ = _; omega
/-- Two slices of one's own that do not share. -/
def djA (A B : Option Addr) : Prop := ∀ g, A = some (ad g 0) → B ≠ some (ad g 0)
theorem djA.symm {A B : Option Addr} (h : djA A B) : djA B A := fun g h1 h2 => h g h2 h1
theorem djA.app {A A' B : Option Addr} {w0 u : World} {n c sz : Nat} {e : TypeId} {cs : List Value} (h : djA A B) (hA : A' = A ∨ A' = none ∨ A' = some (ad u.heap.size 0)) (hB : OwnF w0 u B n c e sz cs) : djA A' B := by
  intro g h1 h2
  rcases hA with e | e | e
  · exact h g (e ▸ h1) h2
  · rw [e] at h1; cases h1
  · rw [e] at h1
    injection h1 with h1; injection h1 with h1
    rcases hB.form with ⟨e2, -⟩ | ⟨g', e2, -, hlt, -⟩
    · rw [e2] at h2; cases h2
    · rw [e2] at h2; injection h2 with h2; injection h2 with h2; omega
theorem ownTy {w0 w : World} {A : Option Addr} {n c sz : Nat} {e t : TypeId} {cs xs : List Value} {b : Nat} (h : OwnF w0 w A n c e sz cs) (hb : Blk w b t xs) (hne : t ≠ e) : A ≠ some (ad b 0) := fun e2 => by
  obtain ⟨rest, hb3, _⟩ := Own.blk (e2 ▸ h.own)
  exact hne (hb.uniq hb3).1
theorem ownMap {κ : Type} {kv : κ → Value} {f : κ → Option Value} {w0 w : World} {A : Option Addr} {n c sz : Nat} {e : TypeId} {cs : List Value} {b : Nat} (h : OwnF w0 w A n c e sz cs) (hb : MapG kv w b f) : A ≠ some (ad b 0) := fun e2 => by
  obtain ⟨rest, hb3, _⟩ := Own.blk (e2 ▸ h.own)
  obtain ⟨L, q, hE, -⟩ := hb
  have h1 : w.heap[b]? = _ := hb3
  rw [hE.at_] at h1
  cases h1
/-- The parts so far: each reach has a slice of the function's own. -/
structure PtsM (w0 u : World) (g : Nat) (f : Int → List Pt) (S : Int → Option Addr × Nat × Nat) : Prop where
  map : ∃ m : Int → Option Value, MapG kvI u g m ∧ ∀ r, (m r).getD (.slice none 0 0) = .slice (S r).1 (S r).2.1 (S r).2.2
  own : ∀ r, OwnF w0 u (S r).1 (S r).2.1 (S r).2.2 126 2 (cps (f r))
  dj : ∀ r r', r ≠ r' → djA (S r).1 (S r').1
theorem PtsM.len {w0 u : World} {g : Nat} {f : Int → List Pt} {S : Int → Option Addr × Nat × Nat} (h : PtsM w0 u g f S) (r : Int) : (S r).2.1 = (f r).length := by
  have := (h.own r).own.len
  rw [cps_len] at this; omega
theorem PtsM.ext {w0 u u' : World} {g : Nat} {f : Int → List Pt} {S : Int → Option Addr × Nat × Nat} (h : PtsM w0 u g f S) (k : Ext u u') : PtsM w0 u' g f S := by
  obtain ⟨⟨m, h1, h2⟩, h3, h4⟩ := h
  exact ⟨⟨m, h1.kept k trivial, h2⟩, fun r => (h3 r).then k, h4⟩
theorem PtsM.step {w0 u v z : World} {g : Nat} {f f' : Int → List Pt} {S : Int → Option Addr × Nat × Nat} {m : Int → Option Value} (r : Int) {p : Pt} {A' : Option Addr} {n' c' : Nat} (h3 : ∀ r, OwnF w0 u (S r).1 (S r).2.1 (S r).2.2 126 2 (cps (f r))) (h4 : ∀ r r', r ≠ r' → djA (S r).1 (S r').1) (hm : ∀ r, (m r).getD (.slice none 0 0) = .slice (S r).1 (S r).2.1 (S r).2.2)
    (o : OwnF w0 v A' n' c' 126 2 (cps (f r) ++ encP p)) (k : Kept (fun b => (S r).1 ≠ some (ad b 0)) u v) (hA : A' = (S r).1 ∨ A' = none ∨ ∃ t : World, A' = some (ad t.heap.size 0) ∧ Ext u t) {f0 : Int → Option Value} (M4 : MapG kvI v g f0) (M : MapG kvI z g (pset m r (.slice A' n' c'))) (k5 : Kept (fun b => b ≠ g) v z) (x : Ext w0 z)
    (hf : ∀ q, f' q = if q = r then f r ++ [p] else f q) : ∃ S', PtsM w0 z g f' S' := by
  refine ⟨fun q => if q = r then (A', n', c') else S q, ⟨_, M, fun q => ?_⟩, fun q => ?_, fun q q' hqq => ?_⟩
  · unfold pset
    by_cases e : q = r
    · simp only [if_pos e]; rfl
    · simp only [if_neg e]; exact hm q
  · rw [hf q]
    by_cases e : q = r
    · simp only [if_pos e]
      rw [cps_app]
      have := o.thenK k5 (fun b hb e2 => ownMap o M4 (by rw [← e2]; exact hb)) x
      simpa using this
    · simp only [if_neg e]
      have o' := (h3 q).thenK k (fun b hb e2 => h4 r q (fun h => e h.symm) b e2 hb) o.ext
      exact o'.thenK k5 (fun b hb e2 => ownMap o' M4 (by rw [← e2]; exact hb)) x
  · have hh : ∀ q, q ≠ r → djA A' (S q).1 := fun q hq2 => by
      rcases hA with e | e | ⟨t, e, xt⟩
      · rw [e]; exact h4 r q (fun h => hq2 h.symm)
      · rw [e]; intro g h; cases h
      · intro g' h1 h2
        rw [e] at h1
        injection h1 with h1; injection h1 with h1
        rcases (h3 q).form with ⟨e2, -⟩ | ⟨g2, e2, -, hlt, -⟩
        · rw [e2] at h2; cases h2
        · rw [e2] at h2; injection h2 with h2; injection h2 with h2
          have := xt.size; omega
    by_cases e : q = r
    · simp only [if_pos e, if_neg (show ¬ q' = r from fun h => hqq (by rw [e, h]))]
      exact hh q' (fun h => hqq (by rw [e, h]))
    · by_cases e' : q' = r
      · simp only [if_neg e, if_pos e']; exact (hh q e).symm
      · simp only [if_neg e, if_neg e']; exact h4 q q' hqq
/-- The parts of all reaches, as the tree holds them. -/
structure TreR (D : Nat → Prop) (w : World) (g : Nat) (d : Dist) : Prop where
  own : D g
  ex : ∃ m : Int → Option Value, MapG kvI w g m ∧ ∀ r : Int, ∃ A n c, (m r).getD (.slice none 0 0) = .slice A n c ∧ SlR tPt D w A n (ptsV d r) ∧ n ≤ c
theorem TreR.kept {D D' : Nat → Prop} {w w' : World} {g : Nat} {d : Dist} (h : TreR D w g d) (k : Kept D' w w') (hd : ∀ b, b < w.heap.size → D b → D' b) : TreR D w' g d := by
  obtain ⟨h0, m, h1, h2⟩ := h
  refine ⟨h0, m, h1.kept k (hd g h1.lt h0), fun r => ?_⟩
  obtain ⟨A, n, c, e, hs, hc⟩ := h2 r
  exact ⟨A, n, c, e, hs.kept k hd, hc⟩
theorem TreR.ext {D : Nat → Prop} {w w' : World} {g : Nat} {d : Dist} (h : TreR D w g d) (k : Ext w w') : TreR D w' g d := h.kept k fun _ _ _ => trivial
section
variable {D : Nat → Prop} {w : World}
set_option maxRecDepth 4000 in
theorem c_dgrow {d : Dist} {A1 A2 A3 A4 A5 A6 : Option Addr} {n1 c1 n2 c2 n3 c3 n4 c4 n5 c5 n6 c6 : Nat} (hr : SlR tReach D w A1 n1 d.reaches) (hf : SlR tFarm D w A2 n2 d.farms) (hn : d.reaches.length ≤ 64 ∧ d.farms.length ≤ 600) :
    CallZ Tryz.prog 50 #[.agg #[.string d.name, iv d.hours, iv d.cap, iv d.start, .slice A1 n1 c1, .slice A2 n2 c2, .slice A3 n3 c3, .slice A4 n4 c4, .slice A5 n5 c5, .slice A6 n6 c6]] w
      (fun v w' => ∃ g, v = .agg #[.string d.name, iv d.hours, iv d.cap, iv d.start, .slice A1 n1 c1, .slice A2 n2 c2, .slice A3 n3 c3, .slice A4 n4 c4, .slice A5 n5 c5, .slice A6 n6 c6, .map (some g)] ∧ Ext w w' ∧ TreR (fun b => w.heap.size ≤ b) w' g d) := by
  have lr := hr.len
  have lf := hf.len
  refine fn_rule (args := [.agg #[.string d.name, iv d.hours, iv d.cap, iv d.start, .slice A1 n1 c1, .slice A2 n2 c2, .slice A3 n3 c3, .slice A4 n4 c4, .slice A5 n5 c5, .slice A6 n6 c6]]) Tryz.func50 (by kernel_rfl) ?_
  refine box (fun b1 w1 h1 => ?_)
  refine alloc (fun b2 w2 h2 => ?_)
  have B1 : Blk w2 b1 31 [.string d.name, iv d.hours, iv d.cap, iv d.start, .slice A1 n1 c1, .slice A2 n2 c2, .slice A3 n3 c3, .slice A4 n4 c4, .slice A5 n5 c5, .slice A6 n6 c6] := h1.blk.ext h2.ext
  refine ldA _ (.blk B1) rfl ?_
  refine mmap (fun g w3 hg hw3 => ?_)
  have x3 : Ext w2 w3 := by rw [hw3]; exact Kept.alloc _ _ _
  have M3 : MapG kvI w3 g (fun _ => none) := by rw [hg, hw3]; exact MapG.new kvI w2
  refine bld [.string d.name, iv d.hours, iv d.cap, iv d.start, .slice A1 n1 c1, .slice A2 n2 c2, .slice A3 n3 c3, .slice A4 n4 c4, .slice A5 n5 c5, .slice A6 n6 c6, .map (some g)] (by kernel_rfl) ?_
  refine alloc (fun b3 w4 h4 => ?_)
  refine stA (vs := [.string d.name, iv d.hours, iv d.cap, iv d.start, .slice A1 n1 c1, .slice A2 n2 c2, .slice A3 n3 c3, .slice A4 n4 c4, .slice A5 n5 c5, .slice A6 n6 c6, .map (some g)]) h4.blk rfl (Nat.le_of_ble_eq_true rfl) (by simp [Value.oneCell']) (fun w5 B3 k5 z5 => ?_)
  have e1 := h1.at_
  have e2 := h2.at_
  have e4 := h4.at_
  have s1 := h1.size
  have s2 := h2.size
  have s3 := x3.size
  have sg := M3.lt
  have s4 := h4.size
  have x5 : Ext w w5 := (((h1.ext.trans h2.ext).trans x3).trans h4.ext).then k5 fun b hb _ e => by omega
  have B3 : Blk w5 b3 104 [.string d.name, iv d.hours, iv d.cap, iv d.start, .slice A1 n1 c1, .slice A2 n2 c2, .slice A3 n3 c3, .slice A4 n4 c4, .slice A5 n5 c5, .slice A6 n6 c6, .map (some g)] := B3
  have B1 : Blk w5 b1 31 [.string d.name, iv d.hours, iv d.cap, iv d.start, .slice A1 n1 c1, .slice A2 n2 c2, .slice A3 n3 c3, .slice A4 n4 c4, .slice A5 n5 c5, .slice A6 n6 c6] := (B1.ext (x3.trans h4.ext)).kept k5 (by omega)
  have B2 : Blk w5 b2 104 [.string ByteArray.empty, iv 0, iv 0, iv 0, .slice none 0 0, .slice none 0 0, .slice none 0 0, .slice none 0 0, .slice none 0 0, .slice none 0 0, .map none] := (h2.blk.ext (x3.trans h4.ext)).kept k5 (by omega)
  have M5 : MapG kvI w5 g (fun _ => none) := (M3.kept h4.ext trivial).kept k5 (by have := M3.lt; omega)
  have hgw : w.heap.size ≤ g := by omega
  have hg1 := M5.lt
  refine fldA ?_
  refine ld (.slice A2 n2 c2) (B1.cell rfl) ?_
  refine len ?_
  refine loop_rule (fun k : Nat => [(14, iv (k : Int))]) (fun k u => k ≤ n2 ∧ (∃ S, PtsM w u g (fun r => ptsF d r k) S) ∧ Ext w u ∧ Blk u b1 31 [.string d.name, iv d.hours, iv d.cap, iv d.start, .slice A1 n1 c1, .slice A2 n2 c2, .slice A3 n3 c3, .slice A4 n4 c4, .slice A5 n5 c5, .slice A6 n6 c6] ∧ Blk u b3 104 [.string d.name, iv d.hours, iv d.cap, iv d.start, .slice A1 n1 c1, .slice A2 n2 c2, .slice A3 n3 c3, .slice A4 n4 c4, .slice A5 n5 c5, .slice A6 n6 c6, .map (some g)] ∧ Blk u b2 104 [.string ByteArray.empty, iv 0, iv 0, iv 0, .slice none 0 0, .slice none 0 0, .slice none 0 0, .slice none 0 0, .slice none 0 0, .slice none 0 0, .map none]) (fun k _ => n2 - k) 0 ⟨rfl, trivial⟩ ⟨by omega, ⟨fun _ => (none, 0, 0), ⟨_, M5, fun _ => rfl⟩, fun _ => OwnF.nil x5, fun _ _ _ g h => by cases h⟩, x5, B1, B3, B2⟩ rfl ?_
  rintro G k u ⟨hk, ⟨S, P⟩, xu, B1, B3, B2⟩
  refine cD (fun hlt => ?_) (fun hge => ?_)
  · have hlt : k < n2 := by omega
    obtain ⟨b, o, cs, x, rfl, hx, -, -, hc, rfl⟩ := (hf.ext xu).at_ hlt
    refine idx k rfl hlt ?_
    refine ldA x.c hc rfl ?_
    refine alloc (fun b5 u1 i1 => ?_)
    have y1 := i1.at_
    have q1 := i1.size
    refine stA (vs := x.c) i1.blk rfl (Nat.le_of_ble_eq_true rfl) (by simp [Value.oneCell']) (fun u2 B5 k2 z2 => ?_)
    have xu2 : Ext u u2 := i1.ext.then k2 fun b hb _ e => by omega
    have hl := P.len x.reach
    have P2 := P.ext xu2
    have B1 := B1.ext xu2
    have B3 := B3.ext xu2
    have B2 := B2.ext xu2
    have B5 : Blk u2 b5 83 x.c := B5
    obtain ⟨⟨m, Mm, hm⟩, ho, hdj⟩ := P2
    have hlF := ptsF_len (d := d) (r := x.reach) (k := d.farms.length)
    have hlF' := ptsF_len (d := d) (r := x.reach) (k := k)
    have hlC := ptsC_len (d := d) (r := x.reach) (k := k)
    have hl : (S x.reach).2.1 ≤ 10000 := by rw [hl]; omega
    have n3 := ownTy (ho x.reach) B3 (by decide)
    have n5 := ownTy (ho x.reach) B5 (by decide)
    have n1 := ownTy (ho x.reach) B1 (by decide)
    have n2 := ownTy (ho x.reach) B2 (by decide)
    have nm := ownMap (ho x.reach) Mm
    have hgl := Mm.lt
    have l1 := B1.lt
    have l2 := B2.lt
    have l3 := B3.lt
    refine drawP (.take 0 (.take 1 (.take 2 (.take 3 (.take 4 (.take 5 (.take 6 (.take 7 (.take 8 (.take 9 (.take 10 (.eff 11 (.eff 12 (.bar (.eff 13 .done))))))))))))))) [13] (fun z => Kept (fun b => (S x.reach).1 ≠ some (ad b 0)) u2 z) mx (by kernel_rfl) (.refl _ _) ?_
    refine fldA ?_
    refine ldK (.map (some g)) (B3.cell rfl) n3 (.refl _ _) ?_
    refine fldA ?_
    refine ldK (iv x.reach) (B5.cell rfl) n5 (.refl _ _) ?_
    refine fldA ?_
    refine ldK (.map (some g)) (B3.cell rfl) n3 (.refl _ _) ?_
    refine fldA ?_
    refine ldK (iv x.reach) (B5.cell rfl) n5 (.refl _ _) ?_
    refine lookG1 (kv := kvI) x.reach (.slice (S x.reach).1 (S x.reach).2.1 (S x.reach).2.2) (fun z hz => ⟨m, Mm.kept hz nm, hm _⟩) ?_
    refine bld [.bool true, iv (k : Int)] (by kernel_rfl) ?_
    refine lit [.agg #[.bool true, iv (k : Int)]] (fun hg2 u3 hq => ?_)
    refine strS (Ext.any hq.ext) ?_
    refine appF ((ho x.reach).then hq.ext) (hq.src (sz := 2) rfl) (by omega) (fun A' c' u4 o4 k4 hA => ?_)
    have k24 : Kept (fun b => (S x.reach).1 ≠ some (ad b 0)) u2 u4 := (Ext.any hq.ext).trans k4
    refine strS k24 ?_
    refine barS (fun _ => True) trivial ?_
    have Mm4 := Mm.kept k24 nm
    refine mupdG (kv := kvI) x.reach Mm4 (fun u5 M5 k5 z5 => ?_)
    refine strS trivial ?_
    refine arI (by omega) ?_
    have x25 : Ext w u5 := (o4.ext).then k5 fun b hb _ e => by omega
    refine next (k + 1) ⟨by rw [Int.natCast_add]; rfl, trivial⟩ ⟨by omega, PtsM.step (f := fun r => ptsF d r k) (p := (true, k)) x.reach ho hdj hm o4 k24 (hA.imp id (Or.imp id fun e => ⟨u3, e, hq.ext⟩)) Mm4 M5 k5 x25 (fun q => ?_), x25, (B1.kept k24 n1).kept k5 (by omega), (B3.kept k24 n3).kept k5 (by omega), (B2.kept k24 n2).kept k5 (by omega)⟩ (by omega)
    have ef : (fmC d k).reach = x.reach := by rw [fmC_at hx]
    by_cases e : q = x.reach
    · rw [if_pos e, e]
      exact ptsF_yes ef
    · rw [if_neg e]
      exact ptsF_no (fun h => e (by rw [← h]; exact ef))
  · refine fldA ?_
    refine ld (.slice A1 n1 c1) (B1.cell rfl) ?_
    refine len ?_
    refine loop_rule (fun k : Nat => [(36, iv (k : Int))]) (fun k u => k ≤ n1 ∧ (∃ S, PtsM w u g (fun r => ptsF d r d.farms.length ++ ptsC d r k) S) ∧ Ext w u ∧ Blk u b1 31 [.string d.name, iv d.hours, iv d.cap, iv d.start, .slice A1 n1 c1, .slice A2 n2 c2, .slice A3 n3 c3, .slice A4 n4 c4, .slice A5 n5 c5, .slice A6 n6 c6] ∧ Blk u b3 104 [.string d.name, iv d.hours, iv d.cap, iv d.start, .slice A1 n1 c1, .slice A2 n2 c2, .slice A3 n3 c3, .slice A4 n4 c4, .slice A5 n5 c5, .slice A6 n6 c6, .map (some g)] ∧ Blk u b2 104 [.string ByteArray.empty, iv 0, iv 0, iv 0, .slice none 0 0, .slice none 0 0, .slice none 0 0, .slice none 0 0, .slice none 0 0, .slice none 0 0, .map none]) (fun k _ => n1 - k) 0 ⟨rfl, trivial⟩ ⟨by omega, ⟨S, by obtain rfl : k = d.farms.length := (by omega); simpa [ptsC] using P⟩, xu, B1, B3, B2⟩ rfl ?_
    rintro G k u ⟨hk, ⟨S, P⟩, xu, B1, B3, B2⟩
    refine cD (fun hlt => ?_) (fun hge => ?_)
    · have hlt : k < n1 := by omega
      obtain ⟨b, o, cs, x, rfl, hx, -, -, hc, rfl⟩ := (hr.ext xu).at_ hlt
      refine idx k rfl hlt ?_
      refine ldA x.c hc rfl ?_
      refine alloc (fun b5 u1 i1 => ?_)
      have y1 := i1.at_
      have q1 := i1.size
      refine stA (vs := x.c) i1.blk rfl (Nat.le_of_ble_eq_true rfl) (by simp [Value.oneCell']) (fun u2 B5 k2 z2 => ?_)
      have xu2 : Ext u u2 := i1.ext.then k2 fun b hb _ e => by omega
      have hl := P.len x.up
      have P2 := P.ext xu2
      have B1 := B1.ext xu2
      have B3 := B3.ext xu2
      have B2 := B2.ext xu2
      have B5 : Blk u2 b5 76 x.c := B5
      obtain ⟨⟨m, Mm, hm⟩, ho, hdj⟩ := P2
      have hlF := ptsF_len (d := d) (r := x.up) (k := d.farms.length)
      have hlF' := ptsF_len (d := d) (r := x.up) (k := k)
      have hlC := ptsC_len (d := d) (r := x.up) (k := k)
      have hl : (S x.up).2.1 ≤ 10000 := by rw [hl]; rw [List.length_append]; omega
      have n3 := ownTy (ho x.up) B3 (by decide)
      have n5 := ownTy (ho x.up) B5 (by decide)
      have n1 := ownTy (ho x.up) B1 (by decide)
      have n2 := ownTy (ho x.up) B2 (by decide)
      have nm := ownMap (ho x.up) Mm
      have hgl := Mm.lt
      have l1 := B1.lt
      have l2 := B2.lt
      have l3 := B3.lt
      refine drawP (.take 0 (.take 1 (.take 2 (.take 3 (.take 4 (.take 5 (.take 6 (.take 7 (.take 8 (.take 9 (.take 10 (.eff 11 (.eff 12 (.bar (.eff 13 .done))))))))))))))) [13] (fun z => Kept (fun b => (S x.up).1 ≠ some (ad b 0)) u2 z) mx (by kernel_rfl) (.refl _ _) ?_
      refine fldA ?_
      refine ldK (.map (some g)) (B3.cell rfl) n3 (.refl _ _) ?_
      refine fldA ?_
      refine ldK (iv x.up) (B5.cell rfl) n5 (.refl _ _) ?_
      refine fldA ?_
      refine ldK (.map (some g)) (B3.cell rfl) n3 (.refl _ _) ?_
      refine fldA ?_
      refine ldK (iv x.up) (B5.cell rfl) n5 (.refl _ _) ?_
      refine lookG1 (kv := kvI) x.up (.slice (S x.up).1 (S x.up).2.1 (S x.up).2.2) (fun z hz => ⟨m, Mm.kept hz nm, hm _⟩) ?_
      refine bld [.bool false, iv (k : Int)] (by kernel_rfl) ?_
      refine lit [.agg #[.bool false, iv (k : Int)]] (fun hg2 u3 hq => ?_)
      refine strS (Ext.any hq.ext) ?_
      refine appF ((ho x.up).then hq.ext) (hq.src (sz := 2) rfl) (by omega) (fun A' c' u4 o4 k4 hA => ?_)
      have k24 : Kept (fun b => (S x.up).1 ≠ some (ad b 0)) u2 u4 := (Ext.any hq.ext).trans k4
      refine strS k24 ?_
      refine barS (fun _ => True) trivial ?_
      have Mm4 := Mm.kept k24 nm
      refine mupdG (kv := kvI) x.up Mm4 (fun u5 M5 k5 z5 => ?_)
      refine strS trivial ?_
      refine arI (by omega) ?_
      have x25 : Ext w u5 := (o4.ext).then k5 fun b hb _ e => by omega
      refine next (k + 1) ⟨by rw [Int.natCast_add]; rfl, trivial⟩ ⟨by omega, PtsM.step (f := fun r => ptsF d r d.farms.length ++ ptsC d r k) (p := (false, k)) x.up ho hdj hm o4 k24 (hA.imp id (Or.imp id fun e => ⟨u3, e, hq.ext⟩)) Mm4 M5 k5 x25 (fun q => ?_), x25, (B1.kept k24 n1).kept k5 (by omega), (B3.kept k24 n3).kept k5 (by omega), (B2.kept k24 n2).kept k5 (by omega)⟩ (by omega)
      have ef : (rcC d k).up = x.up := by rw [rcC_at hx]
      by_cases e : q = x.up
      · rw [if_pos e, e]
        show _ ++ _ = _; rw [ptsC_yes ef, List.append_assoc]
      · rw [if_neg e]
        show _ ++ _ = _; rw [ptsC_no (fun h => e (by rw [← h]; exact ef))]
    · have hkn : k = d.reaches.length := by omega
      refine ldA _ (.blk B3) rfl ?_
      refine stA (vs := [.string d.name, iv d.hours, iv d.cap, iv d.start, .slice A1 n1 c1, .slice A2 n2 c2, .slice A3 n3 c3, .slice A4 n4 c4, .slice A5 n5 c5, .slice A6 n6 c6, .map (some g)]) B2 rfl (Nat.le_of_ble_eq_true rfl) (by simp [Value.oneCell']) (fun u6 B6 k6 z6 => ?_)
      have B6 : Blk u6 b2 104 [.string d.name, iv d.hours, iv d.cap, iv d.start, .slice A1 n1 c1, .slice A2 n2 c2, .slice A3 n3 c3, .slice A4 n4 c4, .slice A5 n5 c5, .slice A6 n6 c6, .map (some g)] := B6
      have l2 := B2.lt
      have hgl := P.map
      refine ret ?_
      refine resL _ (holds_agg (CellsAt.blk B6) rfl) ?_
      have x6 : Ext w u6 := xu.then k6 fun b hb _ e => by omega
      refine ⟨g, rfl, x6, hgw, ?_⟩
      obtain ⟨⟨m, Mm, hm⟩, ho, -⟩ := P
      refine ⟨m, Mm.kept k6 (fun e => by
        obtain ⟨L, q, hE, -⟩ := Mm
        have h1 : u.heap[b2]? = _ := B2
        rw [← e, hE.at_] at h1
        cases h1), fun r => ⟨_, _, _, hm r, ?_, (ho r).le⟩⟩
      have o := (ho r).thenK k6 (fun b hb e => ownTy (ho r) B2 (by decide) (by rw [← e]; exact hb)) x6
      have hl := o.own.len
      rw [cps_len, hkn] at hl
      rw [hkn] at o
      have hp : (ptsF d r d.farms.length ++ ptsC d r d.reaches.length).length ≤ 664 := by
        have := ptsV_len (d := d) (r := r)
        unfold ptsV at this; omega
      exact Own.rd (a := tPt) o.own flat_cps (by unfold ptsV; omega) (by omega) (fun b hb => o.new b hb)
end
end Go.Proofs.YtcpogcdadlcdaaaGreat

/- Losses, plainly: what arrives does not decrease with the parcel; the least parcel of which so much arrives, by halving (as in evidence). -/
namespace Go.Proofs.YtcpogcdadlcdaaaGreat
open Go Go.RowKit

theorem First.uniq {p : Int → Bool} {lo hi a b : Int} (h : First p lo hi a) (k : First p lo hi b) : a = b := by
  rcases Int.lt_trichotomy a b with h1 | h1 | h1
  · have := k.no a h.le h1
    rw [h.yes (by have := k.ge; omega)] at this; cases this
  · exact h1
  · have := h.no b k.le h1
    rw [k.yes (by have := h.ge; omega)] at this; cases this
def bs (p : Int → Bool) : Nat → Int → Int → Int
  | 0, lo, _ => lo
  | n + 1, lo, hi => if lo < hi then (if p ((lo + hi) / 2) then bs p n lo ((lo + hi) / 2) else bs p n ((lo + hi) / 2 + 1) hi) else lo
theorem bs_first {p : Int → Bool} {a b : Int} (hm : ∀ v v', a ≤ v → v ≤ v' → v' ≤ b → p v = true → p v' = true) : ∀ (n : Nat) {lo hi : Int}, Half p a b lo hi → hi - lo < 2 ^ n → First p a b (bs p n lo hi)
  | 0, lo, hi, h, hn => h.done (by simp at hn; omega)
  | n + 1, lo, hi, h, hn => by
    unfold bs
    have e : (2 : Int) ^ (n + 1) = 2 * 2 ^ n := by rw [Int.pow_succ]; omega
    by_cases hlt : lo < hi
    · rw [if_pos hlt]
      cases hp : p ((lo + hi) / 2) with
      | true => rw [if_pos rfl]; exact bs_first hm n (h.left (by omega) (by omega) hp) (by omega)
      | false => rw [if_neg (by simp)]; exact bs_first hm n (h.right hm (by omega) (by omega) hp) (by omega)
    · rw [if_neg hlt]; exact h.done (by omega)

/-! ### what arrives -/
def arrB (r : Reach) (v : Int) : Int := v - (lostR r v).lo
def arrW (r : Reach) (v : Int) : Int := v - (lostR r v).hi
section
variable {r : Reach} {v v' w : Int}
theorem floor_mono {n d : Int} (hd : 0 < d) (hn : 0 ≤ n) (hnd : n ≤ d) (h : v ≤ v') : v * n / d ≤ v' * n / d ∧ v' * n / d ≤ v * n / d + (v' - v) := by
  have h1 : v * n ≤ v' * n := Int.mul_le_mul_of_nonneg_right h hn
  have h2 : v' * n ≤ v * n + (v' - v) * d := by
    have : (v' - v) * n ≤ (v' - v) * d := Int.mul_le_mul_of_nonneg_left hnd (by omega)
    rw [Int.sub_mul] at this; omega
  refine ⟨Int.ediv_le_ediv hd h1, ?_⟩
  rw [← Int.add_mul_ediv_right _ _ (by omega)]
  exact Int.ediv_le_ediv hd h2
theorem ceil_mono {n d : Int} (hd : 0 < d) (hnd : n ≤ d) (h : v ≤ v') : upI (v' * n) d ≤ upI (v * n) d + (v' - v) := by
  have h2 : v' * n ≤ v * n + (v' - v) * d := by
    have : (v' - v) * n ≤ (v' - v) * d := Int.mul_le_mul_of_nonneg_left hnd (by omega)
    rw [Int.sub_mul] at this; omega
  unfold upI
  rw [← Int.add_mul_ediv_right _ _ (by omega)]
  exact Int.ediv_le_ediv hd (by omega)
theorem lost_eq (hl : lossOk r = true) (hv : 0 ≤ v) : lostR r v = ⟨min v (r.evap.lo + v * r.s0.n / r.s0.d), if v = 0 then 0 else min v (r.evap.hi + upI (v * r.s1.n) r.s1.d)⟩ := by
  obtain ⟨h1, h2⟩ := lossOk_iff.1 hl
  unfold lostR
  by_cases h : v = 0
  · subst h; rw [if_pos rfl, if_pos rfl, Int.zero_mul, Int.zero_ediv]; congr 1; omega
  · rw [if_neg h, if_neg h]
theorem arrB_mono (hl : lossOk r = true) (hv : 0 ≤ v) (h : v ≤ v') : arrB r v ≤ arrB r v' := by
  obtain ⟨h1, h2⟩ := lossOk_iff.1 hl
  obtain ⟨h3, h4, _⟩ := sharesQ_iff.1 h2
  obtain ⟨q1, q2, q3⟩ := shareQ_iff.1 h3
  obtain ⟨d1, -⟩ := qValid_iff.1 q1
  have f := floor_mono (v := v) (v' := v') (show 0 < r.s0.d by omega) q2 q3 h
  unfold arrB
  rw [lost_eq hl hv, lost_eq hl (by omega)]
  show v - min v _ ≤ v' - min v' _
  omega
theorem arrW_mono (hl : lossOk r = true) (hv : 0 ≤ v) (h : v ≤ v') : arrW r v ≤ arrW r v' := by
  obtain ⟨h1, h2⟩ := lossOk_iff.1 hl
  obtain ⟨h3, h4, _⟩ := sharesQ_iff.1 h2
  obtain ⟨q1, q2, q3⟩ := shareQ_iff.1 h4
  obtain ⟨d1, -⟩ := qValid_iff.1 q1
  have f := ceil_mono (v := v) (v' := v') (show 0 < r.s1.d by omega) q3 h
  have s := share_le (v := v') h4 (by omega)
  unfold arrW
  rw [lost_eq hl hv, lost_eq hl (by omega)]
  show v - (if v = 0 then 0 else _) ≤ v' - (if v' = 0 then 0 else _)
  by_cases e : v = 0
  · rw [if_pos e]
    by_cases e' : v' = 0
    · rw [if_pos e']; omega
    · rw [if_neg e']; omega
  · rw [if_neg e, if_neg (by omega)]; omega
theorem arr_le (hl : lossOk r = true) (hv : 0 ≤ v ∧ v ≤ 1073741824) : 0 ≤ arrW r v ∧ arrW r v ≤ arrB r v ∧ arrB r v ≤ v := by
  have h := lost_le hl hv
  obtain ⟨h1, h2⟩ := lossOk_iff.1 hl
  obtain ⟨h3, h4, h5⟩ := sharesQ_iff.1 h2
  have : (lostR r v).lo ≤ (lostR r v).hi := by
    rw [lost_eq hl hv.1]
    show min v _ ≤ if v = 0 then 0 else min v _
    by_cases e : v = 0
    · rw [if_pos e]; omega
    · rw [if_neg e]
      obtain ⟨q1, q2, q3⟩ := shareQ_iff.1 h3
      obtain ⟨q1', q2', q3'⟩ := shareQ_iff.1 h4
      obtain ⟨d1, -⟩ := qValid_iff.1 q1
      obtain ⟨d1', -⟩ := qValid_iff.1 q1'
      have k : v * r.s0.n / r.s0.d ≤ upI (v * r.s1.n) r.s1.d := by
        have a1 : v * r.s0.n / r.s0.d * r.s0.d ≤ v * r.s0.n := Int.ediv_mul_le _ (by omega)
        have a2 : v * r.s1.n ≤ upI (v * r.s1.n) r.s1.d * r.s1.d := by
          have : v * r.s1.n + r.s1.d - 1 < ((v * r.s1.n + r.s1.d - 1) / r.s1.d + 1) * r.s1.d := Int.lt_ediv_add_one_mul_self _ (by omega)
          unfold upI
          rw [Int.add_mul] at this
          omega
        generalize v * r.s0.n / r.s0.d = x at a1
        generalize upI (v * r.s1.n) r.s1.d = y at a2
        have b1 : x * r.s0.d * r.s1.d ≤ v * r.s0.n * r.s1.d := Int.mul_le_mul_of_nonneg_right a1 (by omega)
        have b2 : v * r.s1.n * r.s0.d ≤ y * r.s1.d * r.s0.d := Int.mul_le_mul_of_nonneg_right a2 (by omega)
        have b3 : v * (r.s0.n * r.s1.d) ≤ v * (r.s1.n * r.s0.d) := Int.mul_le_mul_of_nonneg_left h5 hv.1
        have b4 : x * (r.s0.d * r.s1.d) ≤ y * (r.s0.d * r.s1.d) := by
          rw [← Int.mul_assoc, ← Int.mul_assoc] at b3 ⊢
          rw [Int.mul_right_comm y r.s0.d r.s1.d]
          omega
        exact Int.le_of_mul_le_mul_right b4 (Int.mul_pos (by omega) (by omega))
      omega
  unfold arrW arrB
  omega
/-- The least parcel of which w litres arrive at best (at worst), one more than the greatest one if there is none. -/
def lvB (r : Reach) (w : Int) : Int := bs (fun v => decide (w ≤ arrB r v)) 31 0 1073741825
def lvW (r : Reach) (w : Int) : Int := bs (fun v => decide (w ≤ arrW r v)) 31 0 1073741825
theorem lvB_first (hl : lossOk r = true) : First (fun v => decide (w ≤ arrB r v)) 0 1073741825 (lvB r w) :=
  bs_first (fun v v' h1 h2 _ h => by rw [decide_eq_true_eq] at h ⊢; have := arrB_mono hl h1 h2; omega) 31 (Half.start (by omega)) (by decide)
theorem lvW_first (hl : lossOk r = true) : First (fun v => decide (w ≤ arrW r v)) 0 1073741825 (lvW r w) :=
  bs_first (fun v v' h1 h2 _ h => by rw [decide_eq_true_eq] at h ⊢; have := arrW_mono hl h1 h2; omega) 31 (Half.start (by omega)) (by decide)
end
def reachV (r : Reach) (w : Int) : Int × Bool := if lErr r w ≠ 0 then (0, false) else if lvB r w > 1073741824 then (0, false) else (lvB r w, true)
def mostV (r : Reach) (w : Int) : Int := if lErr r w ≠ 0 then 0 else lvW r (w + 1) - 1
end Go.Proofs.YtcpogcdadlcdaaaGreat

/- Contracts of sort.Search, losses.least, losses.Need (as in evidence). -/
namespace Go.Proofs.YtcpogcdadlcdaaaGreat
open Go Go.RowKit

def needL (r : Reach) (w : Int) : Int × Bool := if lErr r w ≠ 0 then (0, false) else if lvW r w > 1073741824 then (0, false) else (lvW r w, true)
section
variable {D : Nat → Prop} {w : World}
/-- sort.Search with a function that answers p, and leaves alone what was there. -/
theorem c_Search {n : Nat} {p : Int → Bool} {fn : FuncId} {cap : Array Value} [he : Enters Tryz.prog fn] (hn : n ≤ 4611686018427387904) (hm : ∀ v v' : Int, 0 ≤ v → v ≤ v' → v' ≤ n → p v = true → p v' = true)
    (hc : ∀ (v : Int) (w' : World), 0 ≤ v → v < n → Ext w w' → CallZ Tryz.prog fn ([iv v] ++ cap.toList).toArray w' (fun u w'' => u = .bool (p v) ∧ Ext w' w'')) :
    CallZ Tryz.prog 128 #[iv (n : Int), .func (.func fn) #[] cap] w (fun v w' => ∃ k : Int, v = iv k ∧ First p 0 n k ∧ Ext w w') := by
  refine fn_rule (args := [iv (n : Int), .func (.func fn) #[] cap]) Tryz.func128 (by kernel_rfl) ?_
  refine loop2 (fun (lo hi : Int) => [(5, iv lo), (6, iv hi)]) (fun lo hi w' => Half p 0 n lo hi ∧ Ext w w') (fun lo hi _ => (hi - lo).toNat) 0 (n : Int) ⟨rfl, rfl, trivial⟩ ⟨Half.start (by omega), .refl _ _⟩ rfl ?_
  rintro G lo hi w' ⟨h, xw⟩
  have h1 := h.a_lo
  have h2 := h.lo_hi
  have h3 := h.hi_b
  refine cD (fun hlt => ?_) (fun hge => ?_)
  · refine arI (by omega) ?_
    obtain ⟨s, hs⟩ : ∃ s : Nat, lo + hi = (s : Int) := ⟨(lo + hi).toNat, by omega⟩
    refine convU (n := s) (by omega) (by omega) ?_
    refine shrR (by decide) ?_
    refine conv (k := .i64) ?_
    have e : IntKind.i64.wrap (((s : Int)).fdiv (2 ^ (min (1 : Int).toNat IntKind.u64.bits))) = (lo + hi) / 2 := by
      rw [show (2 : Int) ^ (min (1 : Int).toNat IntKind.u64.bits) = 2 by decide, Int.fdiv_eq_ediv_of_nonneg _ (by omega), i64_wrap_id (by omega), hs]
    rw [e]
    obtain ⟨m, hmm⟩ : ∃ m, m = (lo + hi) / 2 := ⟨_, rfl⟩
    rw [← hmm]
    refine callE (hc m w' (by omega) (by omega) xw) (fun w2 hp x2 => ?_) (fun w2 hp x2 => ?_)
    · exact next2 lo m ⟨rfl, rfl, trivial⟩ ⟨h.left (by omega) (by omega) hp, xw.trans x2⟩ (by omega)
    · refine arI (by omega) ?_
      exact next2 (m + 1) hi ⟨rfl, rfl, trivial⟩ ⟨h.right hm (by omega) (by omega) hp, xw.trans x2⟩ (by omega)
  · exact ret1 (iv lo) rfl ⟨lo, rfl, h.done (by omega), xw⟩
/-- A function that a closure holds, which answers g and leaves alone what was there. -/
def Fun1 (fn : FuncId) (cap : Array Value) (w : World) (g : Int → Int) : Prop := ∀ (v : Int) (w' : World), 0 ≤ v → v ≤ 1073741824 → Ext w w' → CallZ Tryz.prog fn ([iv v] ++ cap.toList).toArray w' (fun u w'' => u = iv (g v) ∧ Ext w' w'')
theorem c_lleast1 {fn : FuncId} {cap : Array Value} [he : Enters Tryz.prog fn] {g : Int → Int} {ba bw : Nat} {t : TypeId} {w0 : World} {v x : Int} (hc : Fun1 fn cap w0 g) (hx : Ext w0 w) (hv : 0 ≤ v ∧ v ≤ 1073741824)
    (h1 : Blk w ba t [.func (.func fn) #[] cap]) (h2 : Blk w bw 3 [iv x]) : CallZ Tryz.prog 129 #[iv v, ptr ba, ptr bw] w (fun u w' => u = .bool (decide (g v > x)) ∧ Ext w w') := by
  refine fn_rule (args := [iv v, ptr ba, ptr bw]) Tryz.func129 (by kernel_rfl) ?_
  refine drawK (fun _ => True) [0, 1, 3, 2, 4, 5] [2] mx (by kernel_rfl) ?_
  refine ldK (.func (.func fn) #[] cap) (h1.cell rfl) trivial (.refl _ _) ?_
  refine ldK (iv x) (h2.cell rfl) trivial (.refl _ _) ?_
  refine call_of (hc v w hv.1 hv.2 hx) ?_
  rintro _ w2 ⟨rfl, x2⟩
  refine strK x2 ?_
  refine cD (fun q => ?_) (fun q => ?_)
  · exact ret1 (.bool true) rfl ⟨by rw [decide_eq_true q], x2⟩
  · exact ret1 (.bool false) rfl ⟨by rw [decide_eq_false q], x2⟩
theorem c_lleast {fn : FuncId} {cap : Array Value} [he : Enters Tryz.prog fn] {g : Int → Int} {x : Int} (hc : Fun1 fn cap w g) (hm : ∀ v v', 0 ≤ v → v ≤ v' → g v ≤ g v') :
    CallZ Tryz.prog 112 #[iv x, .func (.func fn) #[] cap] w (fun u w' => ∃ k : Int, u = iv k ∧ First (fun v => decide (g v > x)) 0 1073741825 k ∧ Ext w w') := by
  refine fn_rule (args := [iv x, .func (.func fn) #[] cap]) Tryz.func112 (by kernel_rfl) ?_
  refine box (fun bw w1 h1 => ?_)
  refine box (fun ba w2 h2 => ?_)
  have x2 := h1.ext.trans h2.ext
  refine call_of (c_Search (fn := 129) (cap := #[ptr ba, ptr bw]) (n := 1073741825) (p := fun v => decide (g v > x)) (by omega) (fun v v' h0 h1 _ h => by rw [decide_eq_true_eq] at h ⊢; have := hm v v' h0 h1; omega)
    (fun v w' hv0 hv1 xw => c_lleast1 hc (x2.trans xw) ⟨hv0, by omega⟩ (h2.blk.ext xw) ((h1.blk.ext h2.ext).ext xw))) ?_
  rintro _ w3 ⟨k, rfl, hk, x3⟩
  exact ret1 (iv k) rfl ⟨k, rfl, hk, x2.trans x3⟩
theorem c_lNeed1 {r : Reach} {b : Nat} {t : TypeId} {v : Int} (hok : lossOk r = true) (hv : 0 ≤ v ∧ v ≤ 1073741824) (hb : Blk w b t r.c) : CallZ Tryz.prog 113 #[iv v, ptr b] w (fun u w' => u = iv (arrW r v) ∧ Ext w w') := by
  refine fn_rule (args := [iv v, ptr b]) Tryz.func113 (by kernel_rfl) ?_
  refine ldA _ (.blk hb) rfl ?_
  refine call_of (c_llost hok hv) ?_
  rintro _ w2 ⟨rfl, x2⟩
  have h := lost_le hok hv
  refine fldV (cs := [iv (lostR r v).lo, iv (lostR r v).hi]) (iv (lostR r v).hi) rfl ?_
  refine arI (by omega) ?_
  exact ret1 (iv (v - (lostR r v).hi)) rfl ⟨rfl, x2⟩
theorem c_lNeed {r : Reach} {x : Int} : CallZ Tryz.prog 77 #[r.v, iv x] w (fun u w' => u = .tuple #[iv (needL r x).1, .bool (needL r x).2, iv (lErr r x)] ∧ Ext w w') := by
  refine fn_rule (args := [.agg #[.string r.name, iv r.up, iv r.delay, iv r.cap, iv r.bank, iv r.siphon, iv r.evap.lo, iv r.evap.hi, iv r.s0.n, iv r.s0.d, iv r.s1.n, iv r.s1.d], iv x]) Tryz.func77 (by kernel_rfl) ?_
  refine box (fun b w1 h1 => ?_)
  refine ldA r.c (.blk h1.blk) rfl ?_
  refine call_of c_lvalid ?_
  rintro _ w2 ⟨rfl, x2⟩
  refine cN (fun he => ?_) (fun he => ?_)
  · exact ret3 (iv 0) (.bool false) (iv (lErr r x)) rfl rfl rfl ⟨by unfold needL; rw [if_pos he], h1.ext.trans x2⟩
  have he : lErr r x = 0 := he
  obtain ⟨hok, hx⟩ := lErr_ok.1 he
  refine arI (by omega) ?_
  refine call_of (c_lleast (fn := 113) (cap := #[ptr b]) (g := arrW r) (x := x - 1) (fun v w' h0 h2 xw => c_lNeed1 hok ⟨h0, h2⟩ ((h1.blk.ext x2).ext xw)) (fun v v' h0 h => arrW_mono hok h0 h)) ?_
  rintro _ w3 ⟨k, rfl, hk, x3⟩
  have e : (fun v => decide (arrW r v > x - 1)) = fun v => decide (x ≤ arrW r v) := funext fun v => decide_eq_decide.2 ⟨fun h => by omega, fun h => by omega⟩
  rw [e] at hk
  obtain rfl := hk.uniq (lvW_first hok)
  have xx := (h1.ext.trans x2).trans x3
  refine cD (fun q => ?_) (fun q => ?_)
  · exact ret3 (iv 0) (.bool false) (iv 0) rfl rfl rfl ⟨by unfold needL; rw [if_neg (by simp [he]), if_pos q, he], xx⟩
  · exact ret3 (iv (lvW r x)) (.bool true) (iv 0) rfl rfl rfl ⟨by unfold needL; rw [if_neg (by simp [he]), if_neg q, he], xx⟩
end
end Go.Proofs.YtcpogcdadlcdaaaGreat
