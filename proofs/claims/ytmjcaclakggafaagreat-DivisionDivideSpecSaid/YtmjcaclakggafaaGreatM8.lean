/- Parts of the proof: Gv Gw Gx Gy Gz H1 H3 H4 H5 H6 H7. -/
import Derived.Test.YtmjcaclakggafaaGreatM7

/- Layer 40: read, the counts, the search. -/
namespace Go.Proofs.YtmjcaclakggafaaGreat
open Go Go.RowKit

/-! ### the least one of a range -/
structure First (p : Int → Bool) (lo hi res : Int) : Prop where
  le : lo ≤ res
  ge : res ≤ hi
  no : ∀ v, lo ≤ v → v < res → p v = false
  yes : res < hi → p res = true
structure Half (p : Int → Bool) (a b lo hi : Int) : Prop where
  a_lo : a ≤ lo
  lo_hi : lo ≤ hi
  hi_b : hi ≤ b
  no : ∀ v, a ≤ v → v < lo → p v = false
  yes : hi < b → p hi = true
theorem Half.start {p : Int → Bool} {a b : Int} (h : a ≤ b) : Half p a b a b := ⟨Int.le_refl _, h, Int.le_refl _, fun v h1 h2 => by omega, fun h => by omega⟩
theorem Half.left {p : Int → Bool} {a b lo hi m : Int} (h : Half p a b lo hi) (h1 : lo ≤ m) (h2 : m < hi) (hp : p m = true) : Half p a b lo m := ⟨h.a_lo, h1, by have := h.hi_b; omega, h.no, fun _ => hp⟩
theorem Half.right {p : Int → Bool} {a b lo hi m : Int} (hm : ∀ v v', a ≤ v → v ≤ v' → v' ≤ b → p v = true → p v' = true) (h : Half p a b lo hi) (h1 : lo ≤ m) (h2 : m < hi) (hp : p m = false) : Half p a b (m + 1) hi :=
  ⟨by have := h.a_lo; omega, by omega, h.hi_b, fun v hv hv2 => (by
    cases hpv : p v with
    | false => rfl
    | true => rw [hm v m hv (by omega) (by have := h.hi_b; omega) hpv] at hp; cases hp), h.yes⟩
theorem Half.done {p : Int → Bool} {a b lo hi : Int} (h : Half p a b lo hi) (e : hi ≤ lo) : First p a b lo := by
  have := h.lo_hi
  obtain rfl : lo = hi := by omega
  exact ⟨h.a_lo, h.hi_b, h.no, h.yes⟩
/-! ### what read says -/
def okC (c : Int) : Bool := decide (0 ≤ c ∧ c ≤ 1073741824)
def tErr (E : Int) (l : List Int) : Int := if 664 < l.length then 2 else if l.all okC && decide (0 ≤ E ∧ E ≤ l.sum) then 0 else 400
theorem tErr_no {E : Int} {l : List Int} (h : tErr E l = 0) : l.length ≤ 664 ∧ (∀ c ∈ l, 0 ≤ c ∧ c ≤ 1073741824) ∧ 0 ≤ E ∧ E ≤ l.sum := by
  unfold tErr at h
  by_cases h1 : 664 < l.length
  · rw [if_pos h1] at h; cases h
  · rw [if_neg h1] at h
    by_cases h2 : (l.all okC && decide (0 ≤ E ∧ E ≤ l.sum)) = true
    · rw [Bool.and_eq_true, decide_eq_true_eq, List.all_eq_true] at h2
      exact ⟨by omega, fun c hc => of_decide_eq_true (h2.1 c hc), h2.2⟩
    · rw [if_neg h2] at h; cases h
def isum (l : List Int) : Int := l.sum
theorem isum_snoc {l : List Int} {c : Int} : isum (l ++ [c]) = isum l + c := by unfold isum; rw [List.sum_append]; simp
theorem isum_b : ∀ {l : List Int}, (∀ c ∈ l, 0 ≤ c ∧ c ≤ 1073741824) → 0 ≤ isum l ∧ isum l ≤ l.length * 1073741824
  | [], _ => by unfold isum; simp
  | c :: l, h => by
    have h1 := isum_b (l := l) fun x hx => h x (List.mem_cons_of_mem _ hx)
    have h2 := h c List.mem_cons_self
    have : isum (c :: l) = c + isum l := by unfold isum; rw [List.sum_cons]
    rw [this, List.length_cons]
    omega
theorem clm_snoc {l : List Int} {k : Nat} {c : Int} (h : l[k]? = some c) : clm (l.take (k + 1)) = clm (l.take k) ++ [(c, (k : Int))] := by
  have hk := (List.getElem?_eq_some_iff.1 h).1
  unfold clm
  rw [List.length_take, List.length_take, Nat.min_eq_left (by omega), Nat.min_eq_left (by omega), List.range_succ, List.map_append]
  congr 1
  · refine List.map_congr_left fun i hi => ?_
    have := List.mem_range.1 hi
    unfold clA
    rw [List.getD_eq_getElem?_getD, List.getD_eq_getElem?_getD, List.getElem?_take, List.getElem?_take, if_pos (by omega), if_pos (by omega)]
  · unfold clA
    rw [List.map_cons, List.map_nil, List.getD_eq_getElem?_getD, List.getElem?_take, if_pos (by omega), h]; rfl
theorem clm_len {l : List Int} : (clm l).length = l.length := by unfold clm; rw [List.length_map, List.length_range]
theorem ceS_snoc {s : List (Int × Int)} {x : Int × Int} {L : Int} : ceS (s ++ [x]) L = ceS s L + min (x.1 / 2) L := by unfold ceS; rw [List.map_append, List.sum_append]; simp
theorem clS_snoc {s : List (Int × Int)} {x : Int × Int} {L : Int} : clS (s ++ [x]) L = clS s L + max 0 (x.1 - x.1 / 2 - L) := by unfold clS; rw [List.map_append, List.sum_append]; simp
theorem halfS_snoc {s : List (Int × Int)} {x : Int × Int} : halfS (s ++ [x]) = halfS s + x.1 / 2 := by unfold halfS; rw [List.map_append, List.sum_append]; simp
def topS (s : List (Int × Int)) : Int := s.foldl (fun a x => max a x.1) 0
theorem topS_snoc {s : List (Int × Int)} {x : Int × Int} : topS (s ++ [x]) = max (topS s) x.1 := by unfold topS; rw [List.foldl_append]; rfl
abbrev Cl0 (s : List (Int × Int)) : Prop := ∀ m ∈ s, 0 ≤ m.1 ∧ m.1 ≤ 1073741824
theorem sum_b {f : Int × Int → Int} : ∀ {s : List (Int × Int)}, (∀ m ∈ s, 0 ≤ f m ∧ f m ≤ 1073741824) → 0 ≤ (s.map f).sum ∧ (s.map f).sum ≤ s.length * 1073741824
  | [], _ => by simp
  | c :: l, h => by
    have h1 := sum_b (s := l) fun x hx => h x (List.mem_cons_of_mem _ hx)
    have h2 := h c List.mem_cons_self
    rw [List.map_cons, List.sum_cons, List.length_cons]
    omega
theorem ceS_b {s : List (Int × Int)} {L : Int} (h : Cl0 s) (hL : 0 ≤ L) : 0 ≤ ceS s L ∧ ceS s L ≤ s.length * 1073741824 := sum_b fun m hm => by have := h m hm; omega
theorem clS_b {s : List (Int × Int)} {L : Int} (h : Cl0 s) (hL : 0 ≤ L) : 0 ≤ clS s L ∧ clS s L ≤ s.length * 1073741824 := sum_b fun m hm => by have := h m hm; omega
theorem halfS_b {s : List (Int × Int)} (h : Cl0 s) : 0 ≤ halfS s ∧ halfS s ≤ s.length * 1073741824 := sum_b fun m hm => by have := h m hm; omega
theorem Cl0.take {s : List (Int × Int)} (h : Cl0 s) (k : Nat) : Cl0 (s.take k) := fun m hm => h m (List.mem_of_mem_take hm)
section
variable {D : Nat → Prop} {w : World}
theorem c_gread {E : Int} {l : List Int} {A : Option Addr} {n c : Nat} (hl : SlR tInt D w A n l) (hE : I64 E) : CallZ Tryz.prog 56 #[iv E, .slice A n c] w (fun v w' =>
    (tErr E l ≠ 0 ∧ v = .tuple #[.slice none 0 0, iv (tErr E l)] ∧ Ext w w') ∨ (tErr E l = 0 ∧ ∃ A' n' c', v = .tuple #[.slice A' n' c', iv 0] ∧ OwnF w w' A' n' c' 110 2 (cls (clm l)) ∧ n' = l.length)) := by
  have l1 := hl.len
  unfold I64 at hE
  refine fn_rule (args := [iv E, .slice A n c]) Tryz.func56 (by kernel_rfl) ?_
  refine len ?_
  refine cD (fun g0 => ?_) (fun g0 => ?_)
  · have e : tErr E l = 2 := by unfold tErr; rw [if_pos (by omega)]
    exact ret2 (.slice none 0 0) (iv 2) rfl rfl (.inl ⟨by rw [e]; decide, by rw [e], .refl _ _⟩)
  have bad : (l.all okC && decide (0 ≤ E ∧ E ≤ l.sum)) = false → tErr E l = 400 := fun h => by unfold tErr; rw [if_neg (by omega), h]; rfl
  refine len ?_
  refine loop_rule (fun s : Nat × Option Addr × Nat => [(14, iv (s.1 : Int)), (6, iv (isum (l.take s.1))), (4, .slice s.2.1 s.1 s.2.2)]) (fun s u => s.1 ≤ n ∧ OwnF w u s.2.1 s.1 s.2.2 110 2 (cls (clm (l.take s.1))) ∧ ∀ c ∈ l.take s.1, 0 ≤ c ∧ c ≤ 1073741824) (fun s _ => n - s.1) (0, none, 0) ⟨rfl, rfl, rfl, trivial⟩ ⟨by omega, .nil (.refl _ _), fun c hc => by simp at hc⟩ rfl ?_
  rintro G ⟨k, B, cb⟩ u ⟨hk, own, hall⟩
  have hsb := isum_b hall
  rw [List.length_take] at hsb
  refine cD (fun hlt => ?_) (fun hge => ?_)
  · have hlt : k < n := by omega
    obtain ⟨b, o, cs, a, rfl, ha, -, -, hc, rfl, hi⟩ := (hl.ext own.ext).at_ hlt
    unfold I64 at hi
    have htk : l.take (k + 1) = l.take k ++ [a] := by rw [List.take_add_one, ha]; rfl
    have no : ¬ (0 ≤ a ∧ a ≤ 1073741824) → ∀ K : Value → World → Prop, True → tErr E l = 400 := fun h K _ => bad (by
      rw [Bool.and_eq_false_iff]; left
      rw [Bool.eq_false_iff]
      intro h2
      exact h (of_decide_eq_true (List.all_eq_true.1 h2 a (List.mem_of_getElem? ha))))
    refine idx k rfl hlt ?_
    refine ld (iv a) (hc 0 _ rfl) ?_
    refine cD (fun g1 => ?_) (fun g1 => ?_)
    · have e := no (by omega) (fun _ _ => True) trivial
      exact ret2 (.slice none 0 0) (iv 400) rfl rfl (.inl ⟨by rw [e]; decide, by rw [e], own.ext⟩)
    refine cD (fun g2 => ?_) (fun g2 => ?_)
    · have e := no (by omega) (fun _ _ => True) trivial
      exact ret2 (.slice none 0 0) (iv 400) rfl rfl (.inl ⟨by rw [e]; decide, by rw [e], own.ext⟩)
    refine arI (by omega) ?_
    refine bld [iv a, iv (k : Int)] (by kernel_rfl) ?_
    refine lit [.agg #[iv a, iv (k : Int)]] (fun g u1 hq => ?_)
    refine appF (own.then hq.ext) (hq.src (sz := 2) rfl) (by omega) (fun A' c' u2 o2 _ _ => ?_)
    refine arI (by omega) ?_
    refine next (k + 1, A', c') ⟨by rw [Int.natCast_add]; rfl, by rw [htk, isum_snoc]; rfl, rfl, trivial⟩ ⟨by omega, ?_, fun c hc => ?_⟩ (by simp only; omega)
    · rw [clm_snoc ha, cls_app]; exact o2
    · rw [htk, List.mem_append, List.mem_singleton] at hc
      rcases hc with hc | rfl
      · exact hall c hc
      · omega
  · have hkn : k = n := by omega
    subst hkn
    rw [List.take_of_length_le (by omega)] at own hall hsb ⊢
    have hall' : l.all okC = true := List.all_eq_true.2 fun c hc => decide_eq_true (hall c hc)
    have no : ¬ (0 ≤ E ∧ E ≤ isum l) → tErr E l = 400 := fun h => bad (by rw [hall', Bool.true_and]; exact decide_eq_false h)
    refine cD (fun g1 => ?_) (fun g1 => ?_)
    · have e := no (by omega)
      exact ret2 (.slice none 0 0) (iv 400) rfl rfl (.inl ⟨by rw [e]; decide, by rw [e], own.ext⟩)
    refine cD (fun g2 => ?_) (fun g2 => ?_)
    · have e := no (by omega)
      exact ret2 (.slice none 0 0) (iv 400) rfl rfl (.inl ⟨by rw [e]; decide, by rw [e], own.ext⟩)
    refine ret2 (.slice B k cb) (iv 0) rfl rfl (.inr ⟨?_, B, k, cb, rfl, own, by omega⟩)
    unfold tErr
    rw [if_neg (by omega), hall', Bool.true_and, if_pos (decide_eq_true ⟨by omega, show E ≤ isum l by omega⟩)]
theorem c_gfirst {lo hi : Int} {p : Int → Bool} {fn : FuncId} {cap : Array Value} [he : Enters Tryz.prog fn] (h0 : 0 ≤ lo ∧ lo ≤ hi ∧ hi ≤ 1073741824) (hm : ∀ v v' : Int, lo ≤ v → v ≤ v' → v' ≤ hi → p v = true → p v' = true)
    (hc : ∀ (v : Int) (w' : World), lo ≤ v → v < hi → Ext w w' → CallZ Tryz.prog fn ([iv v] ++ cap.toList).toArray w' (fun u w'' => u = .bool (p v) ∧ Ext w' w'')) :
    CallZ Tryz.prog 60 #[iv lo, iv hi, .func (.func fn) #[] cap] w (fun v w' => ∃ k : Int, v = iv k ∧ First p lo hi k ∧ Ext w w') := by
  refine fn_rule (args := [iv lo, iv hi, .func (.func fn) #[] cap]) Tryz.func60 (by kernel_rfl) ?_
  refine loop2 (fun (a b : Int) => [(0, iv a), (1, iv b)]) (fun a b w' => Half p lo hi a b ∧ Ext w w') (fun a b _ => (b - a).toNat) lo hi ⟨rfl, rfl, trivial⟩ ⟨Half.start h0.2.1, .refl _ _⟩ rfl ?_
  rintro G a b w' ⟨h, xw⟩
  have h1 := h.a_lo
  have h2 := h.lo_hi
  have h3 := h.hi_b
  refine cD (fun hlt => ?_) (fun hge => ?_)
  · refine arI (by omega) ?_
    refine quoI (by omega) (by omega) (by omega) ?_
    refine arI (by omega) ?_
    obtain ⟨m, hmm⟩ : ∃ m, m = a + (b - a) / 2 := ⟨_, rfl⟩
    rw [← hmm]
    refine callE (hc m w' (by omega) (by omega) xw) (fun w2 hp x2 => ?_) (fun w2 hp x2 => ?_)
    · exact next2 a m ⟨rfl, rfl, trivial⟩ ⟨h.left (by omega) (by omega) hp, xw.trans x2⟩ (by omega)
    · refine arI (by omega) ?_
      exact next2 (m + 1) b ⟨rfl, rfl, trivial⟩ ⟨h.right hm (by omega) (by omega) hp, xw.trans x2⟩ (by omega)
  · exact ret1 (iv a) rfl ⟨a, rfl, h.done (by omega), xw⟩
section
variable {s : List (Int × Int)} {A : Option Addr} {n c bl : Nat} {t : TypeId} {L : Int}
theorem c_gThr1 (hs : SlR tCl D w A n s) (hn : n ≤ 664) (h0 : Cl0 s) (hb : Blk w bl t [.slice A n c]) (hL : 0 ≤ L ∧ L ≤ 1073741824) : CallZ Tryz.prog 59 #[iv L, ptr bl] w (fun v w' => v = iv (ceS s L) ∧ Ext w w') := by
  refine fn_rule (args := [iv L, ptr bl]) Tryz.func59 (by kernel_rfl) ?_
  refine ld (.slice A n c) (hb.cell rfl) ?_
  refine len ?_
  refine loop_rule (fun k : Nat => [(3, iv (ceS (s.take k) L)), (8, iv (k : Int))]) (fun k u => k ≤ n ∧ Ext w u) (fun k _ => n - k) 0 ⟨rfl, rfl, trivial⟩ ⟨by omega, .refl _ _⟩ rfl ?_
  rintro G k u ⟨hk, xu⟩
  have hsb := ceS_b (h0.take k) hL.1
  rw [List.length_take] at hsb
  refine cD (fun hlt => ?_) (fun hge => ?_)
  · have hlt : k < n := by omega
    obtain ⟨b, o, cs, m, rfl, hm, -, -, hc, rfl⟩ := (hs.ext xu).at_ hlt
    have htk : s.take (k + 1) = s.take k ++ [m] := by rw [List.take_add_one, hm]; rfl
    have hm0 := h0 m (List.mem_of_getElem? hm)
    refine idx k rfl hlt ?_
    refine ldA (encC m) hc rfl ?_
    refine alloc (fun q u1 a1 => ?_)
    refine stA (vs := encC m) a1.blk rfl (Nat.le_of_ble_eq_true rfl) (by simp [Value.oneCell']) (fun u2 b2 k2 z2 => ?_)
    have b2 : Blk u2 q 110 (encC m) := b2
    have ea := a1.at_
    have x2 : Ext u u2 := a1.ext.then k2 fun b hb _ e => by omega
    refine fldA ?_
    refine ld (iv m.1) (b2.cell rfl) ?_
    refine quoI (by omega) (by omega) (by omega) ?_
    refine arI (by omega) ?_
    refine arI (by omega) ?_
    exact next (k + 1) ⟨by rw [htk, ceS_snoc]; rfl, by rw [Int.natCast_add]; rfl, trivial⟩ ⟨by omega, xu.trans x2⟩ (by omega)
  · have := hs.len
    exact ret1 (iv (ceS (s.take k) L)) rfl ⟨by rw [List.take_of_length_le (by omega)], xu⟩
theorem c_gThr3 (hs : SlR tCl D w A n s) (hn : n ≤ 664) (h0 : Cl0 s) (hb : Blk w bl t [.slice A n c]) (hL : 0 ≤ L ∧ L ≤ 1073741824) : CallZ Tryz.prog 62 #[iv L, ptr bl] w (fun v w' => v = iv (clS s L) ∧ Ext w w') := by
  refine fn_rule (args := [iv L, ptr bl]) Tryz.func62 (by kernel_rfl) ?_
  refine ld (.slice A n c) (hb.cell rfl) ?_
  refine len ?_
  refine loop_rule (fun k : Nat => [(3, iv (clS (s.take k) L)), (8, iv (k : Int))]) (fun k u => k ≤ n ∧ Ext w u) (fun k _ => n - k) 0 ⟨rfl, rfl, trivial⟩ ⟨by omega, .refl _ _⟩ rfl ?_
  rintro G k u ⟨hk, xu⟩
  have hsb := clS_b (h0.take k) hL.1
  rw [List.length_take] at hsb
  refine cD (fun hlt => ?_) (fun hge => ?_)
  · have hlt : k < n := by omega
    obtain ⟨b, o, cs, m, rfl, hm, -, -, hc, rfl⟩ := (hs.ext xu).at_ hlt
    have htk : s.take (k + 1) = s.take k ++ [m] := by rw [List.take_add_one, hm]; rfl
    have hm0 := h0 m (List.mem_of_getElem? hm)
    refine idx k rfl hlt ?_
    refine ldA (encC m) hc rfl ?_
    refine alloc (fun q u1 a1 => ?_)
    refine stA (vs := encC m) a1.blk rfl (Nat.le_of_ble_eq_true rfl) (by simp [Value.oneCell']) (fun u2 b2 k2 z2 => ?_)
    have b2 : Blk u2 q 110 (encC m) := b2
    have ea := a1.at_
    have x2 : Ext u u2 := a1.ext.then k2 fun b hb _ e => by omega
    refine fldA ?_
    refine ld (iv m.1) (b2.cell rfl) ?_
    refine fldA ?_
    refine ld (iv m.1) (b2.cell rfl) ?_
    refine quoI (by omega) (by omega) (by omega) ?_
    refine arI (by omega) ?_
    refine arI (by omega) ?_
    refine arI (by omega) ?_
    refine arI (by omega) ?_
    exact next (k + 1) ⟨by rw [htk, clS_snoc]; rfl, by rw [Int.natCast_add]; rfl, trivial⟩ ⟨by omega, xu.trans x2⟩ (by omega)
  · have := hs.len
    exact ret1 (iv (clS (s.take k) L)) rfl ⟨by rw [List.take_of_length_le (by omega)], xu⟩
theorem c_gThr2 {ba bE : Nat} {tE ta : TypeId} {E : Int} (hs : SlR tCl D w A n s) (hn : n ≤ 664) (h0 : Cl0 s) (hb : Blk w bl t [.slice A n c]) (hL : 0 ≤ L ∧ L ≤ 1073741824) (ha : Blk w ba ta [.func (.func 59) #[] #[ptr bl]]) (hE : Blk w bE tE [iv E]) :
    CallZ Tryz.prog 61 #[iv L, ptr ba, ptr bE] w (fun v w' => v = .bool (decide (E ≤ ceS s L)) ∧ Ext w w') := by
  refine fn_rule (args := [iv L, ptr ba, ptr bE]) Tryz.func61 (by kernel_rfl) ?_
  refine drawK (fun _ => True) [0, 1, 3, 2, 4, 5] [2] mx (by kernel_rfl) ?_
  refine ldK (.func (.func 59) #[] #[ptr bl]) (ha.cell rfl) trivial (.refl _ _) ?_
  refine ldK (iv E) (hE.cell rfl) trivial (.refl _ _) ?_
  refine call_of (c_gThr1 hs hn h0 hb hL) ?_
  rintro _ w2 ⟨rfl, x2⟩
  refine strK x2 ?_
  refine cD (fun q => ?_) (fun q => ?_)
  · exact ret1 (.bool true) rfl ⟨by rw [decide_eq_true (by omega)], x2⟩
  · exact ret1 (.bool false) rfl ⟨by rw [decide_eq_false (by omega)], x2⟩
theorem c_gThr4 {ba bE : Nat} {tE ta : TypeId} {E : Int} (hs : SlR tCl D w A n s) (hn : n ≤ 664) (h0 : Cl0 s) (hb : Blk w bl t [.slice A n c]) (hL : 0 ≤ L ∧ L ≤ 1073741824) (ha : Blk w ba ta [.func (.func 62) #[] #[ptr bl]]) (hE : Blk w bE tE [iv E]) :
    CallZ Tryz.prog 63 #[iv L, ptr ba, ptr bE] w (fun v w' => v = .bool (decide (clS s L < E)) ∧ Ext w w') := by
  refine fn_rule (args := [iv L, ptr ba, ptr bE]) Tryz.func63 (by kernel_rfl) ?_
  refine drawK (fun _ => True) [0, 1, 3, 2, 4, 5] [2] mx (by kernel_rfl) ?_
  refine ldK (.func (.func 62) #[] #[ptr bl]) (ha.cell rfl) trivial (.refl _ _) ?_
  refine ldK (iv E) (hE.cell rfl) trivial (.refl _ _) ?_
  refine call_of (c_gThr3 hs hn h0 hb hL) ?_
  rintro _ w2 ⟨rfl, x2⟩
  refine strK x2 ?_
  refine cD (fun q => ?_) (fun q => ?_)
  · exact ret1 (.bool true) rfl ⟨by rw [decide_eq_true (by omega)], x2⟩
  · exact ret1 (.bool false) rfl ⟨by rw [decide_eq_false (by omega)], x2⟩
end
end
end Go.Proofs.YtmjcaclakggafaaGreat

/- Layer 40: Threshold. -/
namespace Go.Proofs.YtmjcaclakggafaaGreat
open Go Go.RowKit

abbrev encM (m : Mk) : List Value := [.bool m.late, iv m.level, iv m.claim, iv m.index]
/-- What the mark of an estate is. -/
def MarkOf (E : Int) (l : List Int) (m : Mk) : Prop := if tErr E l = 0 ∧ E ≠ 0 then m.Of l ∧ ownS m l = E else m = Mk.none
theorem clm_fst {l : List Int} : (clm l).map (·.1) = l := by
  apply List.ext_getElem
  · rw [List.length_map, clm_len]
  · intro i h1 h2
    unfold clm clA
    simp [List.getD_eq_getElem?_getD, List.getElem?_eq_getElem h2]
theorem clm_nodup {l : List Int} : ((clm l).map (·.2)).Nodup := by
  unfold clm
  rw [List.map_map]
  show List.Pairwise _ _
  rw [List.pairwise_map]
  exact List.nodup_range.imp fun h e => h (Int.ofNat.inj e)
section
variable {l : List Int} {s : List (Int × Int)} {E L : Int}
theorem sumS_perm (h : s.Perm (clm l)) : sumS s = isum l := by
  unfold sumS isum
  rw [perm_sum h, clm_fst]
theorem Cl0.perm (h : s.Perm (clm l)) (hl : ∀ c ∈ l, 0 ≤ c ∧ c ≤ 1073741824) : Cl0 s := fun x hx => by
  refine hl x.1 ?_
  have : x.1 ∈ (clm l).map (·.1) := List.mem_map_of_mem (h.mem_iff.1 hx)
  rwa [clm_fst] at this
theorem topS_le : ∀ {s : List (Int × Int)} {a : Int}, a ≤ s.foldl (fun a x => max a x.1) a ∧ ∀ x ∈ s, x.1 ≤ s.foldl (fun a x => max a x.1) a
  | [], a => ⟨Int.le_refl _, fun x hx => by cases hx⟩
  | y :: s, a => by
    have := topS_le (s := s) (a := max a y.1)
    refine ⟨by rw [List.foldl_cons]; omega, fun x hx => ?_⟩
    rw [List.foldl_cons]
    rcases List.mem_cons.1 hx with rfl | h
    · omega
    · exact this.2 x h
theorem topS_b : ∀ {s : List (Int × Int)} {a : Int}, (∀ x ∈ s, x.1 ≤ 1073741824) → a ≤ 1073741824 → s.foldl (fun a x => max a x.1) a ≤ 1073741824
  | [], a, _, h => h
  | y :: s, a, h, ha => by
    have := h y List.mem_cons_self
    rw [List.foldl_cons]
    exact topS_b (fun x hx => h x (List.mem_cons_of_mem _ hx)) (by omega)
theorem top_bounds (h : Cl0 s) : 0 ≤ topS s ∧ topS s ≤ 1073741824 ∧ ∀ x ∈ s, x.1 ≤ topS s := ⟨topS_le.1, topS_b (fun x hx => (h x hx).2) (by omega), topS_le.2⟩
theorem ceS_top (h : Cl0 s) : ceS s (topS s) = halfS s := map_sum_congr fun x hx => by
  have := h x hx
  have := (top_bounds h).2.2 x hx
  omega
theorem clS_top (h : Cl0 s) : clS s (topS s) = 0 := by
  refine Eq.trans (map_sum_congr (g := fun _ => (0 : Int)) fun x hx => ?_) (map_sum_zero (s := s))
  have := h x hx
  have := (top_bounds h).2.2 x hx
  omega
theorem ceS_zero (h : Cl0 s) : ceS s 0 = 0 := by
  refine Eq.trans (map_sum_congr (g := fun _ => (0 : Int)) fun x hx => ?_) (map_sum_zero (s := s))
  have := h x hx
  omega
theorem clS_zero (h : Cl0 s) : halfS s + clS s 0 = sumS s := by
  unfold halfS clS sumS
  rw [← map_sum_add]
  exact map_sum_congr fun x hx => by
    have := h x hx
    omega
theorem clS_stay : clS (s.reverse.filter (stayC L)) L = clS s L := by
  have := map_sum_filter (p := stayC L) (f := fun x : Int × Int => max 0 (x.1 - x.1 / 2 - L)) (fun x hx => by unfold stayC at hx; rw [decide_eq_false_iff_not] at hx; omega) (s := s.reverse)
  unfold clS
  rw [← this]
  exact perm_sum (List.reverse_perm s)
end
theorem Cl0.mono {s t : List (Int × Int)} (h : Cl0 s) (hs : ∀ x ∈ t, x ∈ s) : Cl0 t := fun x hx => h x (hs x hx)
section
variable {D : Nat → Prop} {w : World}
set_option maxRecDepth 4000 in
theorem c_gThr {E : Int} {l : List Int} {A : Option Addr} {n c : Nat} (hl : SlR tInt D w A n l) (hE : I64 E) : CallZ Tryz.prog 36 #[iv E, .slice A n c] w (fun v w' => Ext w w' ∧ ∃ m : Mk, v = .tuple #[.agg (encM m).toArray, iv (tErr E l)] ∧ MarkOf E l m) := by
  refine fn_rule (args := [iv E, .slice A n c]) Tryz.func36 (by kernel_rfl) ?_
  refine box (fun b2 w1 h1 => ?_)
  refine alloc (fun b4 w2 h2 => ?_)
  have x2 := h1.ext.trans h2.ext
  have e1 := h1.at_
  have e2 := h2.at_
  have s1 := h1.ext.size
  have s2 := h2.ext.size
  have B2 : Blk w2 b2 3 [iv E] := h1.blk.ext h2.ext
  have l1 := h1.blk.lt
  have l2 := h2.blk.lt
  have B4 : Blk w2 b4 92 (encM Mk.none) := h2.blk
  refine ld (iv E) (B2.cell rfl) ?_
  refine call_of (c_gread (hl.ext x2) hE) ?_
  rintro _ w3 (⟨he, rfl, x3⟩ | ⟨he, A1, n1, c1, rfl, own, hn1⟩)
  · refine alloc (fun b6 w4 h4 => ?_)
    refine st1 h4.blk rfl (fun w5 B6 k6 => ?_)
    have e4 := h4.at_
    have x5 : Ext w2 w5 := (x3.trans h4.ext).then k6 fun b hb _ e => by have := x3.size; omega
    refine cN (fun _ => ?_) (fun e => absurd e he)
    refine ldA (encM Mk.none) (.blk (B4.ext x5)) rfl ?_
    refine stA (vs := encM Mk.none) (B4.ext x5) rfl (Nat.le_of_ble_eq_true rfl) (by simp [Value.oneCell']) (fun w6 b6' k7 z7 => ?_)
    have B4' : Blk w6 b4 92 (encM Mk.none) := b6'
    refine ret ?_
    refine resL _ (holds_agg (CellsAt.blk B4') rfl) ?_
    exact ⟨(x2.trans x5).then k7 fun b hb _ e => by omega, Mk.none, rfl, by unfold MarkOf; rw [if_neg fun h => he h.1]⟩
  obtain ⟨hlen, hcl, hE0, hEs⟩ := tErr_no he
  have hEb : E ≤ 9223372036854775807 := hE.2
  refine alloc (fun b6 w4 h4 => ?_)
  refine st1 h4.blk rfl (fun w5 B6 k6 => ?_)
  have B6 : Blk w5 b6 111 [.slice A1 n1 c1] := B6
  have e4 := h4.at_
  have x3 := own.ext
  have s3 := x3.size
  have x35 : Ext w3 w5 := h4.ext.then k6 fun b hb _ e => by omega
  have x5 : Ext w2 w5 := x3.trans x35
  refine cN (fun h => absurd rfl h) (fun _ => ?_)
  refine ld (iv E) ((B2.ext x5).cell rfl) ?_
  refine cE (fun hz => ?_) (fun hz => ?_)
  · refine ldA (encM Mk.none) (.blk (B4.ext x5)) rfl ?_
    refine stA (vs := encM Mk.none) (B4.ext x5) rfl (Nat.le_of_ble_eq_true rfl) (by simp [Value.oneCell']) (fun w6 b6' k7 z7 => ?_)
    have B4' : Blk w6 b4 92 (encM Mk.none) := b6'
    refine ret ?_
    refine resL _ (holds_agg (CellsAt.blk B4') rfl) ?_
    exact ⟨(x2.trans x5).then k7 fun b hb _ e => by omega, Mk.none, by rw [he]; rfl, by unfold MarkOf; rw [if_neg fun h => h.2 hz]⟩
  have own5 := own.then x35
  rcases own5.form with ⟨rfl, h0, -⟩ | ⟨g, rfl, hg1, hg2, hc1⟩
  · exfalso
    have : l = [] := List.eq_nil_of_length_eq_zero (by omega)
    subst this
    have : (0 : Int) = ([] : List Int).sum := rfl
    omega
  have hg3 : g < w3.heap.size := by
    rcases own.form with ⟨h, -⟩ | ⟨g', h, -, hh, -⟩
    · cases h
    · injection h with h; injection h with h; omega
  obtain ⟨rest, Bg, hBl, -⟩ := own5.own.blk
  refine ld (.slice (some (ad g 0)) n1 c1) (B6.cell rfl) ?_
  refine call_of (c_sortC (s := clm l) Bg (by rw [clm_len]; exact hn1) (by rw [clm_len]; omega) clm_nodup) ?_
  rintro _ w6 ⟨rfl, s, hp, hpw, Bs, ks⟩
  have hsl : s.length = n1 := by rw [hp.length_eq, clm_len]; omega
  have h0 : Cl0 s := Cl0.perm hp hcl
  have htop := top_bounds h0
  have hhb := halfS_b h0
  have hbl : (cls s ++ rest).length = c1 * 2 := by rw [← hBl, List.length_append, List.length_append, cls_len, cls_len, hsl, clm_len, hn1]
  have Bs : Blk w6 g 110 (cls s ++ rest) := Bs
  have x6 : Ext w2 w6 := x5.then ks fun b hb _ e => by omega
  have B26 : Blk w6 b2 3 [iv E] := B2.ext x6
  have B46 : Blk w6 b4 92 (encM Mk.none) := B4.ext x6
  have B66 : Blk w6 b6 111 [.slice (some (ad g 0)) n1 c1] := B6.kept ks (by omega)
  have l6 := B66.lt
  have hs6 : SlR tCl (fun _ => True) w6 (some (ad g 0)) n1 s := slr_cls Bs (by rw [cls_take _ _ _ (by omega), List.take_of_length_le (by omega)]) hsl.symm (by omega) trivial
  clear ks Bg own5 own B6 k6 hl h1 h2 h4
  refine ld (.slice (some (ad g 0)) n1 c1) (B66.cell rfl) ?_
  refine len ?_
  refine loop_rule (fun k : Nat => [(38, iv (k : Int)), (8, iv (halfS (s.take k))), (9, iv (topS (s.take k)))]) (fun k u => k ≤ n1 ∧ Ext w6 u) (fun k _ => n1 - k) 0 ⟨rfl, rfl, rfl, trivial⟩ ⟨by omega, .refl _ _⟩ rfl ?_
  rintro G k u ⟨hk, xu⟩
  have hsb := halfS_b (h0.take k)
  rw [List.length_take] at hsb
  refine cD (fun hlt => ?_) (fun hge => ?_)
  · have hlt : k < n1 := by omega
    obtain ⟨b, o, cs, m, hA, hm, -, -, hc, rfl⟩ := (hs6.ext xu).at_ hlt
    injection hA with hA
    injection hA with hA1 hA2
    subst hA1; subst hA2
    have htk : s.take (k + 1) = s.take k ++ [m] := by rw [List.take_add_one, hm]; rfl
    have hm0 := h0 m (List.mem_of_getElem? hm)
    refine idx k rfl hlt ?_
    refine ldA (encC m) hc rfl ?_
    refine alloc (fun q u1 a1 => ?_)
    refine stA (vs := encC m) a1.blk rfl (Nat.le_of_ble_eq_true rfl) (by simp [Value.oneCell']) (fun u2 b2' k2 z2 => ?_)
    have b2' : Blk u2 q 110 (encC m) := b2'
    have ea := a1.at_
    have xu2 : Ext u u2 := a1.ext.then k2 fun b hb _ e => by omega
    refine drawX [0, 1, 2, 3, 4, 5, 6, 7, 8, 9, 10] [] mx (by kernel_rfl) ?_
    refine fldA ?_
    refine ldX (iv m.1) (b2'.cell rfl) (.refl _ _) ?_
    refine quoI (by omega) (by omega) (by omega) ?_
    refine arI (by omega) ?_
    refine fldA ?_
    refine ldX (iv m.1) (b2'.cell rfl) (.refl _ _) ?_
    refine arI (by omega) ?_
    exact next (k + 1) ⟨by rw [Int.natCast_add]; rfl, by rw [htk, halfS_snoc]; rfl, by rw [htk, topS_snoc]; rfl, trivial⟩ ⟨by omega, xu.trans xu2⟩ (by omega)
  have hks : s.take k = s := List.take_of_length_le (by omega)
  rw [hks]
  obtain ⟨H, hH⟩ : ∃ H, H = halfS s := ⟨_, rfl⟩
  obtain ⟨T, hT⟩ : ∃ T, T = topS s := ⟨_, rfl⟩
  rw [← hH, ← hT]
  rw [← hH] at hhb
  rw [← hT] at htop
  refine ld (iv E) ((B26.ext xu).cell rfl) ?_
  refine cD (fun hEH => ?_) (fun hEH => ?_)
  · have hT1 : 1 ≤ T := by
      by_cases q : 1 ≤ T
      · exact q
      exfalso
      have := ceS_top h0
      rw [← hT, show T = 0 by omega, ceS_zero h0, ← hH] at this
      omega
    have su := xu.size
    refine alloc (fun b12 w7 h7 => ?_)
    refine st1 (v := .func (.func 59) #[] #[ptr b6]) h7.blk rfl (fun w8 B12 k8 => ?_)
    have B12 : Blk w8 b12 117 [.func (.func 59) #[] #[ptr b6]] := B12
    have e7 := h7.at_
    have x68 : Ext w6 w8 := (xu.trans h7.ext).then k8 fun b hb _ e => by omega
    refine call_of (c_gfirst (fn := 61) (cap := #[ptr b12, ptr b2]) (p := fun v => decide (E ≤ ceS s v)) (lo := 1) (hi := T) ⟨by omega, by omega, by omega⟩
      (fun v v' h1 h2 h3 h => by rw [decide_eq_true_eq] at h ⊢; have := ceS_mono (s := s) h2; omega)
      (fun v w' hv1 hv2 xw => c_gThr2 (hs6.ext (x68.trans xw)) (by omega) h0 (B66.ext (x68.trans xw)) ⟨by omega, by omega⟩ (B12.ext xw) (B26.ext (x68.trans xw)))) ?_
    rintro _ w9 ⟨L, rfl, hL, x9⟩
    have hL1 := hL.le
    have hL2 := hL.ge
    have hcount : E ≤ ceS s L := by
      by_cases q : L < T
      · exact of_decide_eq_true (hL.yes q)
      · have := ceS_top h0
        rw [← hT, ← hH] at this
        rw [show L = T by omega, this]; exact hEH
    have hprev : ceS s (L - 1) < E := by
      by_cases q : L = 1
      · rw [q, show (1 : Int) - 1 = 0 from rfl, ceS_zero h0]; omega
      · have := of_decide_eq_false (hL.no (L - 1) (by omega) (by omega)); omega
    have hcb := ceS_b (L := L - 1) h0 (by omega)
    rw [hsl] at hcb
    obtain ⟨p, hpe⟩ : ∃ p : Nat, (p : Int) = E - ceS s (L - 1) - 1 := ⟨(E - ceS s (L - 1) - 1).toNat, by omega⟩
    obtain ⟨x, hx, hof, hown⟩ := early_mark hp hpw (fun x hx => (h0 x hx).1) hL1 hcount hpe
    have hpl := (List.getElem?_eq_some_iff.1 hx).1
    have x69 := x68.trans x9
    refine drawP (.take 0 (.take 1 (.take 2 (.take 3 (.take 4 (.alt 5 (.take 6 (.take 7 (.take 8 (.take 9 (.eff 10 (.eff 11 .done)))))) (.eff 10 (.eff 5 (.take 6 (.take 7 (.take 8 (.take 9 (.eff 11 .done))))))))))))) [] (fun z => Ext w9 z) mx (by kernel_rfl) (.refl _ _) ?_
    refine ldX (.slice (some (ad g 0)) n1 c1) (B66.cell rfl) x69 ?_
    refine ldX (iv E) (B26.cell rfl) x69 ?_
    refine ldX (.func (.func 59) #[] #[ptr b6]) (B12.cell rfl) x9 ?_
    refine arI (by omega) ?_
    refine ⟨?xl, ?xr⟩
    case' xl =>
      refine call_of (c_gThr1 (hs6.ext x69) (by omega) h0 (B66.ext x69) (L := L - 1) ⟨by omega, by omega⟩) ?_
      rintro _ w10 ⟨rfl, x10⟩
      refine strS x10 ?_
      refine arI (by omega) ?_
      refine arI (by omega) ?_
      refine idx p (by omega) (by omega) ?_
      refine ldAX (encC x) (cls_cells Bs hx) rfl x69 ?_
      refine alloc (fun q u1 a1 => ?_)
      have xe : Ext w9 u1 := x10.trans a1.ext
      have hq : w9.heap.size ≤ q := by have := a1.at_; have := x10.size; omega
      have bq : Blk u1 q 110 [iv 0, iv 0] := a1.blk
      refine strS xe ?_
      clear a1 x10
    case' xr =>
      refine alloc (fun q u0 a1 => ?_)
      refine strS a1.ext ?_
      refine call_of (c_gThr1 (hs6.ext (x69.trans a1.ext)) (by omega) h0 (B66.ext (x69.trans a1.ext)) (L := L - 1) ⟨by omega, by omega⟩) ?_
      rintro _ u1 ⟨rfl, x10⟩
      have xe : Ext w9 u1 := a1.ext.trans x10
      have hq : w9.heap.size ≤ q := by have := a1.at_; omega
      have bq : Blk u1 q 110 [iv 0, iv 0] := a1.blk.ext x10
      refine strS xe ?_
      refine arI (by omega) ?_
      refine arI (by omega) ?_
      refine idx p (by omega) (by omega) ?_
      refine ldAX (encC x) (cls_cells Bs hx) rfl x69 ?_
      clear a1 x10
    all_goals
      refine stA (vs := encC x) bq rfl (Nat.le_of_ble_eq_true rfl) (by simp [Value.oneCell']) (fun u2 bq kq zq => ?_)
      have bq : Blk u2 q 110 (encC x) := bq
      have xq : Ext w9 u2 := xe.then kq fun b hb _ e => by omega
      refine strS xq ?_
      refine fldA ?_
      refine ld (iv x.1) (bq.cell rfl) ?_
      refine fldA ?_
      refine ld (iv x.2) (bq.cell rfl) ?_
      refine bld (encM ⟨false, L, x.1, x.2⟩) (by kernel_rfl) ?_
      refine stA (vs := encM ⟨false, L, x.1, x.2⟩) (B46.ext (x69.trans xq)) rfl (Nat.le_of_ble_eq_true rfl) (by simp [Value.oneCell']) (fun w12 b4' k12 z12 => ?_)
      have B4' : Blk w12 b4 92 (encM ⟨false, L, x.1, x.2⟩) := b4'
      refine ret ?_
      refine resL _ (holds_agg (CellsAt.blk B4') rfl) ?_
      exact ⟨(x2.trans (x6.trans (x69.trans xq))).then k12 fun b hb _ e => by omega, ⟨false, L, x.1, x.2⟩, by rw [he]; rfl, by unfold MarkOf; rw [if_pos ⟨he, hz⟩]; exact ⟨hof, hown⟩⟩
  · have su := xu.size
    refine ld (iv E) ((B26.ext xu).cell rfl) ?_
    refine arI (by omega) ?_
    obtain ⟨R, hR⟩ : ∃ R, R = E - H := ⟨_, rfl⟩
    rw [← hR]
    refine alloc (fun b15 w7 h7 => ?_)
    refine st1 (v := iv R) h7.blk rfl (fun w8 B15 k8 => ?_)
    have B15 : Blk w8 b15 3 [iv R] := B15
    have e7 := h7.at_
    have x68 : Ext w6 w8 := (xu.trans h7.ext).then k8 fun b hb _ e => by omega
    have s68 := x68.size
    refine alloc (fun b16 w9 h9 => ?_)
    refine st1 (v := .func (.func 62) #[] #[ptr b6]) h9.blk rfl (fun w10 B16 k10 => ?_)
    have B16 : Blk w10 b16 117 [.func (.func 62) #[] #[ptr b6]] := B16
    have e9 := h9.at_
    have x810 : Ext w8 w10 := h9.ext.then k10 fun b hb _ e => by omega
    have x610 := x68.trans x810
    have l15 := B15.lt
    have l16 := B16.lt
    have s810 := x810.size
    refine call_of (c_gfirst (fn := 63) (cap := #[ptr b16, ptr b15]) (p := fun v => decide (clS s v < R)) (lo := 0) (hi := T) ⟨by omega, by omega, by omega⟩
      (fun v v' h1 h2 h3 h => by rw [decide_eq_true_eq] at h ⊢; have := clS_mono (s := s) h2; omega)
      (fun v w' hv1 hv2 xw => c_gThr4 (hs6.ext (x610.trans xw)) (by omega) h0 (B66.ext (x610.trans xw)) ⟨by omega, by omega⟩ (B16.ext xw) (B15.ext (x810.trans xw)))) ?_
    rintro _ w11 ⟨L, rfl, hL, x11⟩
    have hL1 := hL.le
    have hL2 := hL.ge
    have hcount : clS s L < R := by
      by_cases q : L < T
      · exact of_decide_eq_true (hL.yes q)
      · have := clS_top h0
        rw [← hT] at this
        rw [show L = T by omega, this]; omega
    have hsum : E ≤ sumS s := by rw [sumS_perm hp]; exact hEs
    have hzero := clS_zero h0
    rw [← hH] at hzero
    have hL0 : 1 ≤ L := by
      by_cases q : L = 0
      · rw [q] at hcount; omega
      · omega
    have hprev : E ≤ halfS s + clS s (L - 1) := by
      have := of_decide_eq_false (hL.no (L - 1) (by omega) (by omega))
      rw [← hH]; omega
    refine alloc (fun b17 w12 h12 => ?_)
    refine st1 (v := iv L) h12.blk rfl (fun w13 B17 k13 => ?_)
    have B17 : Blk w13 b17 3 [iv L] := B17
    have e12 := h12.at_
    have x1113 : Ext w11 w13 := h12.ext.then k13 fun b hb _ e => by omega
    have x613 := x610.trans (x11.trans x1113)
    have x1013 := x11.trans x1113
    have s1113 := x1113.size
    have s1011 := x11.size
    have s610 := x610.size
    have lg := Bs.lt
    have l17 := B17.lt
    refine ld (.slice (some (ad g 0)) n1 c1) ((B66.ext x613).cell rfl) ?_
    refine call_of (c_revC (ms := s) (Bs.ext x613) hsl.symm (by omega)) ?_
    rintro _ w14 ⟨rfl, Br, kr⟩
    have B6e : Blk w14 b6 111 [.slice (some (ad g 0)) n1 c1] := (B66.ext x613).kept kr (by omega)
    refine ld (.slice (some (ad g 0)) n1 c1) (B6e.cell rfl) ?_
    refine call_of (c_delC (ms := s.reverse) (L := L) Br (by rw [← hbl, List.length_append, List.length_append, cls_len, cls_len, List.length_reverse]) (by rw [List.length_reverse]; exact hsl.symm) (by omega) (fun m hm => h0 m (List.mem_reverse.1 hm)) (B17.kept kr (by omega)) (by omega)) ?_
    rintro _ w15 ⟨kd, A2, n2, c2, rfl, hf, hn2⟩
    have krd := kr.trans kd
    refine st1 (v := .slice A2 n2 c2) (B6e.kept kd (by omega)) rfl (fun w16 B6f k16 => ?_)
    have B6f : Blk w16 b6 111 [.slice A2 n2 c2] := B6f
    have hf : SlR tCl (fun b => b = g) w16 A2 n2 (s.reverse.filter (stayC L)) := hf.kept k16 (fun b _ hb e => by omega)
    have B15f : Blk w16 b15 3 [iv R] := ((B15.ext (x810.trans x1013)).kept krd (by omega)).kept k16 (by omega)
    have B16f : Blk w16 b16 117 [.func (.func 62) #[] #[ptr b6]] := ((B16.ext x1013).kept krd (by omega)).kept k16 (by omega)
    have B17f : Blk w16 b17 3 [iv L] := (B17.kept krd (by omega)).kept k16 (by omega)
    have B4f : Blk w16 b4 92 (encM Mk.none) := ((B46.ext x613).kept krd (by omega)).kept k16 (by omega)
    have x216 : Ext w2 w16 := ((x6.trans x613).then krd fun b hb _ e => by omega).then k16 fun b hb _ e => by omega
    have hcb := clS_b (L := L) h0 (by omega)
    rw [hsl] at hcb
    rw [← hsl] at hcb
    obtain ⟨p, hpe⟩ : ∃ p : Nat, (p : Int) = E - halfS s - clS s L - 1 := ⟨(E - halfS s - clS s L - 1).toNat, by rw [← hH]; omega⟩
    obtain ⟨x, hx, hof, hown⟩ := late_mark hp hpw (fun x hx => (h0 x hx).1) hL0 hprev hpe
    rw [← hH] at hpe
    have hx : (s.reverse.filter (stayC L))[p]? = some x := hx
    have hpl := (List.getElem?_eq_some_iff.1 hx).1
    have hfl := hf.len
    have hf0 : Cl0 (s.reverse.filter (stayC L)) := h0.mono fun y hy => List.mem_reverse.1 (List.mem_filter.1 hy).1
    have hfl2 : (s.reverse.filter (stayC L)).length ≤ s.reverse.length := List.length_filter_le _ _
    rw [List.length_reverse] at hfl2
    obtain ⟨b, o, cs, y, rfl, hy, -, -, hc, rfl⟩ := hf.at_ (k := p) (by omega)
    obtain rfl : x = y := by rw [hx] at hy; injection hy
    refine drawP (.take 0 (.take 1 (.take 2 (.take 3 (.alt 4 (.take 5 (.take 6 (.take 7 (.take 8 (.eff 9 (.eff 10 .done)))))) (.eff 9 (.eff 4 (.take 5 (.take 6 (.take 7 (.take 8 (.eff 10 .done)))))))))))) [] (fun z => Ext w16 z) mx (by kernel_rfl) (.refl _ _) ?_
    refine ldX (.slice (some (ad b o)) n2 c2) (B6f.cell rfl) (.refl _ _) ?_
    refine ldX (iv R) (B15f.cell rfl) (.refl _ _) ?_
    refine ldX (.func (.func 62) #[] #[ptr b6]) (B16f.cell rfl) (.refl _ _) ?_
    refine ldX (iv L) (B17f.cell rfl) (.refl _ _) ?_
    refine ⟨?yl, ?yr⟩
    case' yl =>
      refine call_of (c_gThr3 hf (by omega) hf0 B6f (L := L) ⟨by omega, by omega⟩) ?_
      rintro _ w17 ⟨rfl, x17⟩
      rw [clS_stay]
      refine strS x17 ?_
      refine arI (by omega) ?_
      refine arI (by omega) ?_
      refine idx p (by omega) (by omega) ?_
      refine ldAX (encC x) hc rfl (.refl _ _) ?_
      refine alloc (fun q u1 a1 => ?_)
      have xe : Ext w16 u1 := x17.trans a1.ext
      have hq : w16.heap.size ≤ q := by have := a1.at_; have := x17.size; omega
      have bq : Blk u1 q 110 [iv 0, iv 0] := a1.blk
      refine strS xe ?_
      clear a1 x17
    case' yr =>
      refine alloc (fun q u0 a1 => ?_)
      refine strS a1.ext ?_
      refine call_of (c_gThr3 (hf.ext a1.ext) (by omega) hf0 (B6f.ext a1.ext) (L := L) ⟨by omega, by omega⟩) ?_
      rintro _ u1 ⟨rfl, x17⟩
      rw [clS_stay]
      have xe : Ext w16 u1 := a1.ext.trans x17
      have hq : w16.heap.size ≤ q := by have := a1.at_; omega
      have bq : Blk u1 q 110 [iv 0, iv 0] := a1.blk.ext x17
      refine strS xe ?_
      refine arI (by omega) ?_
      refine arI (by omega) ?_
      refine idx p (by omega) (by omega) ?_
      refine ldAX (encC x) hc rfl (.refl _ _) ?_
      clear a1 x17
    all_goals
      refine stA (vs := encC x) bq rfl (Nat.le_of_ble_eq_true rfl) (by simp [Value.oneCell']) (fun u2 bq kq zq => ?_)
      have bq : Blk u2 q 110 (encC x) := bq
      have xq : Ext w16 u2 := xe.then kq fun b hb _ e => by omega
      refine strS xq ?_
      refine ld (iv L) ((B17f.ext xq).cell rfl) ?_
      refine fldA ?_
      refine ld (iv x.1) (bq.cell rfl) ?_
      refine fldA ?_
      refine ld (iv x.2) (bq.cell rfl) ?_
      refine bld (encM ⟨true, L, x.1, x.2⟩) (by kernel_rfl) ?_
      refine stA (vs := encM ⟨true, L, x.1, x.2⟩) (B4f.ext xq) rfl (Nat.le_of_ble_eq_true rfl) (by simp [Value.oneCell']) (fun w18 b4' k18 z18 => ?_)
      have B4' : Blk w18 b4 92 (encM ⟨true, L, x.1, x.2⟩) := b4'
      refine ret ?_
      refine resL _ (holds_agg (CellsAt.blk B4') rfl) ?_
      exact ⟨(x2.trans (x216.trans xq)).then k18 fun b hb _ e => by omega, ⟨true, L, x.1, x.2⟩, by rw [he]; rfl, by unfold MarkOf; rw [if_pos ⟨he, hz⟩]; exact ⟨hof, hown⟩⟩
end
end Go.Proofs.YtmjcaclakggafaaGreat

/- Layer 40: own, valid, Own, Award, Pair. -/
namespace Go.Proofs.YtmjcaclakggafaaGreat
open Go Go.RowKit Go.Sort

instance eqMark : EqTy Tryz.prog 92 := ⟨by kernel_rfl⟩
section
variable {D : Nat → Prop} {w : World}
theorem c_comp {x y : Int × Int} : CallZ Tryz.prog 57 #[.agg (encC x).toArray, .agg (encC y).toArray] w (fun v w' => v = iv (cmpC x y) ∧ Ext w w') := by
  intro w0 hw
  subst hw
  rw [callsIn_wide]
  refine (k_cmp x y w0).mono ?_
  rintro e w' ⟨rfl, q, os, rfl⟩
  refine ⟨_, rfl, rfl, rfl, rfl, rfl, ?_, fun i hi _ => ?_⟩
  · show w0.heap.size ≤ (w0.heap ++ os).size
    rw [Array.size_append]; omega
  · show (w0.heap ++ os)[i]? = w0.heap[i]?
    exact Array.getElem?_append_left hi
theorem cmpC_le {x y : Int × Int} : cmpC x y ≤ 0 ↔ y.1 < x.1 ∨ (x.1 = y.1 ∧ x.2 ≤ y.2) := by unfold cmpC cmpK; repeat' split <;> omega
theorem cmpC_ge {x y : Int × Int} : 0 ≤ cmpC x y ↔ x.1 < y.1 ∨ (x.1 = y.1 ∧ y.2 ≤ x.2) := by unfold cmpC cmpK; repeat' split <;> omega
theorem ne_none {m : Mk} : ((m.late == false) && ((m.level == 0) && ((m.claim == 0) && ((m.index == 0) && true)))) = decide (m = Mk.none) := by
  obtain ⟨l, L, c, i⟩ := m
  rw [Bool.eq_iff_iff]
  simp [Mk.none]
theorem c_gown {m : Mk} {x : Int × Int} (hx : 0 ≤ x.1 ∧ x.1 ≤ 1073741824) (hm : 0 ≤ m.level ∧ m.level ≤ 1073741824) : CallZ Tryz.prog 55 #[.agg (encM m).toArray, .agg (encC x).toArray] w (fun v w' => v = iv (ownV m x.1 x.2) ∧ Ext w w') := by
  obtain ⟨l, L, c0, i0⟩ := m
  have hm : 0 ≤ L ∧ L ≤ 1073741824 := hm
  refine fn_rule (args := [.agg #[.bool l, iv L, iv c0, iv i0], .agg #[iv x.1, iv x.2]]) Tryz.func55 (by kernel_rfl) ?_
  refine box (fun b2 w1 h1 => ?_)
  refine box (fun b3 w2 h2 => ?_)
  have x2 := h1.ext.trans h2.ext
  have B2 : Blk w2 b2 92 [.bool l, iv L, iv c0, iv i0] := h1.blk.ext h2.ext
  have B3 : Blk w2 b3 110 (encC x) := h2.blk
  refine ldA (encC x) (.blk B3) rfl ?_
  refine fldA ?_
  refine ld (iv c0) (B2.cell rfl) ?_
  refine fldA ?_
  refine ld (iv i0) (B2.cell rfl) ?_
  refine bld (encC (c0, i0)) (by kernel_rfl) ?_
  refine call_of (c_comp (x := x) (y := (c0, i0))) ?_
  rintro _ w3 ⟨rfl, x3⟩
  have B2 := B2.ext x3
  have B3 := B3.ext x3
  have x3 := x2.trans x3
  have hle := cmpC_le (x := x) (y := (c0, i0))
  have hge := cmpC_ge (x := x) (y := (c0, i0))
  obtain ⟨o, ho⟩ : ∃ o, o = cmpC x (c0, i0) := ⟨_, rfl⟩
  rw [← ho] at hle hge ⊢
  have hle : o ≤ 0 ↔ c0 < x.1 ∨ (x.1 = c0 ∧ x.2 ≤ i0) := hle
  have hge : 0 ≤ o ↔ x.1 < c0 ∨ (x.1 = c0 ∧ i0 ≤ x.2) := hge
  clear ho
  refine ldA [.bool l, iv L, iv c0, iv i0] (.blk B2) rfl ?_
  refine bld [.bool false, iv 0, iv 0, iv 0] (by kernel_rfl) ?_
  refine eqS ((l == false) && ((L == 0) && ((c0 == 0) && ((i0 == 0) && true)))) (by kernel_rfl) (fun q => ?_) (fun q => ?_)
  · rw [show ((l == false) && ((L == 0) && ((c0 == 0) && ((i0 == 0) && true)))) = decide ((⟨l, L, c0, i0⟩ : Mk) = Mk.none) from @ne_none ⟨l, L, c0, i0⟩, decide_eq_true_eq] at q
    exact ret1 (iv 0) rfl ⟨by unfold ownV; rw [if_pos q], x3⟩
  rw [show ((l == false) && ((L == 0) && ((c0 == 0) && ((i0 == 0) && true)))) = decide ((⟨l, L, c0, i0⟩ : Mk) = Mk.none) from @ne_none ⟨l, L, c0, i0⟩, decide_eq_false_iff_not] at q
  cases l with
  | false =>
    refine fldA ?_
    refine ld (.bool false) (B2.cell rfl) ?_
    refine cD (fun g => ?_) (fun g => ?_)
    · refine fldA ?_
      refine ld (iv x.1) (B3.cell rfl) ?_
      refine quoI (by omega) (by omega) (by omega) ?_
      refine fldA ?_
      refine ld (iv L) (B2.cell rfl) ?_
      refine ret1 (iv (min (x.1 / 2) L)) rfl ⟨?_, x3⟩
      unfold ownV
      rw [if_neg q, if_neg (by simp), if_pos (show upTo ⟨false, L, c0, i0⟩ x.1 x.2 from hle.1 g)]
    · refine fldA ?_
      refine ld (.bool false) (B2.cell rfl) ?_
      refine fldA ?_
      refine ld (iv x.1) (B3.cell rfl) ?_
      refine quoI (by omega) (by omega) (by omega) ?_
      refine fldA ?_
      refine ld (iv L) (B2.cell rfl) ?_
      refine arI (by omega) ?_
      refine ret1 (iv (min (x.1 / 2) (L - 1))) rfl ⟨?_, x3⟩
      unfold ownV
      rw [if_neg q, if_neg (by simp), if_neg (show ¬ upTo ⟨false, L, c0, i0⟩ x.1 x.2 from fun h => g (hle.2 h))]
  | true =>
    refine fldA ?_
    refine ld (.bool true) (B2.cell rfl) ?_
    refine fldA ?_
    refine ld (.bool true) (B2.cell rfl) ?_
    refine cD (fun g => ?_) (fun g => ?_)
    · refine fldA ?_
      refine ld (iv x.1) (B3.cell rfl) ?_
      refine fldA ?_
      refine ld (iv x.1) (B3.cell rfl) ?_
      refine fldA ?_
      refine ld (iv x.1) (B3.cell rfl) ?_
      refine quoI (by omega) (by omega) (by omega) ?_
      refine arI (by omega) ?_
      refine fldA ?_
      refine ld (iv L) (B2.cell rfl) ?_
      refine arI (by omega) ?_
      refine arI (by omega) ?_
      refine ret1 (iv (x.1 - min (x.1 - x.1 / 2) (L - 1))) rfl ⟨?_, x3⟩
      unfold ownV
      rw [if_neg q, if_pos rfl, if_pos (show upTo ⟨true, L, c0, i0⟩ x.1 x.2 from hge.1 g)]
    · refine fldA ?_
      refine ld (iv x.1) (B3.cell rfl) ?_
      refine fldA ?_
      refine ld (iv x.1) (B3.cell rfl) ?_
      refine fldA ?_
      refine ld (iv x.1) (B3.cell rfl) ?_
      refine quoI (by omega) (by omega) (by omega) ?_
      refine arI (by omega) ?_
      refine fldA ?_
      refine ld (iv L) (B2.cell rfl) ?_
      refine arI (by omega) ?_
      refine ret1 (iv (x.1 - min (x.1 - x.1 / 2) L)) rfl ⟨?_, x3⟩
      unfold ownV
      rw [if_neg q, if_pos rfl, if_neg (show ¬ upTo ⟨true, L, c0, i0⟩ x.1 x.2 from fun h => g (hge.2 h))]
/-- Which marks are valid. -/
def VM (m : Mk) : Prop := m = Mk.none ∨ (m.Lit ∧ m.claim ≤ 1073741824 ∧ 0 ≤ m.index ∧ m.index < 664)
theorem VM.b {m : Mk} (h : VM m) : 0 ≤ m.level ∧ m.level ≤ 1073741824 := by
  rcases h with rfl | ⟨h, h1, -⟩
  · exact ⟨by decide, by decide⟩
  · have := h.lo
    have := h.hi
    have := h.c0
    split at * <;> omega
noncomputable instance (m : Mk) : Decidable (VM m) := Classical.propDecidable _
noncomputable def validMk (m : Mk) : Bool := decide (VM m)
noncomputable def ownE (m : Mk) (i c : Int) : Int := if VM m then (if 0 ≤ i ∧ i < 664 ∧ 0 ≤ c ∧ c ≤ 1073741824 then 0 else 1) else 400
/-- The awards by a mark. -/
def awL (m : Mk) (l : List Int) : List Int := (List.range l.length).map fun i => ownV m (clA l i) i
theorem awL_snoc {m : Mk} {l : List Int} {k : Nat} {c : Int} (h : l[k]? = some c) : awL m (l.take (k + 1)) = awL m (l.take k) ++ [ownV m c k] := by
  have hk := (List.getElem?_eq_some_iff.1 h).1
  unfold awL
  rw [List.length_take, List.length_take, Nat.min_eq_left (by omega), Nat.min_eq_left (by omega), List.range_succ, List.map_append]
  congr 1
  · refine List.map_congr_left fun i hi => ?_
    have := List.mem_range.1 hi
    unfold clA
    rw [List.getD_eq_getElem?_getD, List.getD_eq_getElem?_getD, List.getElem?_take, List.getElem?_take, if_pos (by omega), if_pos (by omega)]
  · unfold clA
    rw [List.map_cons, List.map_nil, List.getD_eq_getElem?_getD, List.getElem?_take, if_pos (by omega), h]; rfl
theorem MarkOf.vm {E : Int} {l : List Int} {m : Mk} (h : MarkOf E l m) (he : tErr E l = 0) : VM m := by
  unfold MarkOf at h
  by_cases hE : E = 0
  · rw [if_neg fun k => k.2 hE] at h; exact .inl h
  · rw [if_pos ⟨he, hE⟩] at h
    obtain ⟨hlen, hcl, -⟩ := tErr_no he
    have hix := h.1.ix
    refine .inr ⟨h.1.lit, ?_, by omega, by omega⟩
    rw [h.1.cl]
    refine (hcl _ ?_).2
    unfold clA
    rw [List.getD_eq_getElem?_getD, List.getElem?_eq_getElem (by omega : m.index.toNat < l.length)]
    exact List.getElem_mem _
set_option maxRecDepth 4000 in
theorem c_gAward {E : Int} {l : List Int} {A : Option Addr} {n c : Nat} (hl : SlR tInt D w A n l) (hE : I64 E) : CallZ Tryz.prog 35 #[iv E, .slice A n c] w (fun v w' => (tErr E l ≠ 0 ∧ v = .tuple #[.slice none 0 0, iv (tErr E l)] ∧ Ext w w') ∨
    (tErr E l = 0 ∧ ∃ m A' n' c', MarkOf E l m ∧ v = .tuple #[.slice A' n' c', iv 0] ∧ OwnF w w' A' n' c' 3 1 ((awL m l).map fun k => .int .i64 k) ∧ n' = l.length)) := by
  have l1 := hl.len
  refine fn_rule (args := [iv E, .slice A n c]) Tryz.func35 (by kernel_rfl) ?_
  refine call_of (c_gThr hl hE) ?_
  rintro _ w1 ⟨x1, m, rfl, hm⟩
  obtain ⟨e, hee⟩ : ∃ e, e = tErr E l := ⟨_, rfl⟩
  rw [← hee]
  refine alloc (fun b w2 h2 => ?_)
  refine stA (vs := encM m) h2.blk rfl (Nat.le_of_ble_eq_true rfl) (by simp [Value.oneCell']) (fun w3 B k3 z3 => ?_)
  have B : Blk w3 b 92 (encM m) := B
  have e2 := h2.at_
  have x3 : Ext w w3 := (x1.trans h2.ext).then k3 fun b hb _ e => by have := x1.size; omega
  refine cN (fun g => ?_) (fun g => ?_)
  · exact ret2 (.slice none 0 0) (iv e) rfl rfl (.inl ⟨g, rfl, x3⟩)
  have he : tErr E l = 0 := by rw [← hee]; exact g
  obtain ⟨hlen, hcl, -⟩ := tErr_no he
  have hvm := (hm.vm he).b
  refine len ?_
  refine loop_rule (fun s : Nat × Option Addr × Nat => [(20, iv (s.1 : Int)), (4, .slice s.2.1 s.1 s.2.2)]) (fun s u => s.1 ≤ n ∧ OwnF w3 u s.2.1 s.1 s.2.2 3 1 ((awL m (l.take s.1)).map fun k => .int .i64 k)) (fun s _ => n - s.1) (0, none, 0) ⟨rfl, rfl, trivial⟩ ⟨by omega, .nil (.refl _ _)⟩ rfl ?_
  rintro G ⟨k, C, cb⟩ u ⟨hk, own⟩
  refine cD (fun hlt => ?_) (fun hge => ?_)
  · have hlt : k < n := by omega
    obtain ⟨b, o, cs, a, rfl, ha, -, -, hc, rfl, hi⟩ := (hl.ext (x3.trans own.ext)).at_ hlt
    have hac := hcl a (List.mem_of_getElem? ha)
    refine idx k rfl hlt ?_
    refine ld (iv a) (hc 0 _ rfl) ?_
    refine ldA (encM m) (.blk (B.ext own.ext)) rfl ?_
    refine bld (encC (a, (k : Int))) (by kernel_rfl) ?_
    refine call_of (c_gown (m := m) (x := (a, (k : Int))) hac hvm) ?_
    rintro _ u1 ⟨rfl, y1⟩
    refine lit [iv (ownV m a k)] (fun g u2 hq => ?_)
    refine appF (own.then (y1.trans hq.ext)) (hq.src (sz := 1) rfl) (by omega) (fun A' c' u3 o3 _ _ => ?_)
    refine arI (by omega) ?_
    refine next (k + 1, A', c') ⟨by rw [Int.natCast_add]; rfl, rfl, trivial⟩ ⟨by omega, ?_⟩ (by simp only; omega)
    rw [awL_snoc ha, List.map_append]; exact o3
  · have hkn : k = n := by omega
    subst hkn
    rw [List.take_of_length_le (by omega)] at own
    exact ret2 (.slice C k cb) (iv 0) rfl rfl (.inr ⟨g, m, C, k, cb, hm, rfl, own.base x3, by omega⟩)
end
end Go.Proofs.YtmjcaclakggafaaGreat

/- Layer 40: Pair; what the laws use of their own; the awards of a mark. -/
namespace Go.Proofs.YtmjcaclakggafaaGreat
open Go Go.RowKit

theorem clA_b {l : List Int} (h : ∀ c ∈ l, 0 ≤ c ∧ c ≤ 1073741824) {i : Nat} (hi : i < l.length) : 0 ≤ clA l i ∧ clA l i ≤ 1073741824 := by
  refine h _ ?_
  unfold clA
  rw [List.getD_eq_getElem?_getD, List.getElem?_eq_getElem hi]
  exact List.getElem_mem _
theorem clA_at {l : List Int} {i : Nat} {c : Int} (h : l[i]? = some c) : clA l i = c := by unfold clA; rw [List.getD_eq_getElem?_getD, h]; rfl
theorem MarkOf.awd {E : Int} {l : List Int} {m : Mk} (h : MarkOf E l m) (he : tErr E l = 0) : Awd l E (fun i => ownV m (clA l i) i) := by
  obtain ⟨hlen, hcl, -⟩ := tErr_no he
  unfold MarkOf at h
  by_cases hE : E = 0
  · rw [if_neg fun k => k.2 hE] at h
    subst h
    have z : ∀ c i, ownV Mk.none c i = 0 := fun c i => by unfold ownV; rw [if_pos rfl]
    refine ⟨fun i hi => ?_, ?_, fun i k hi hk h1 => ?_⟩
    · have := clA_b hcl hi
      rw [z]; omega
    · rw [sumN_congr (g := fun _ => 0) fun i _ => z _ _, sumN_zero, hE]
    · rw [z] at h1; omega
  · rw [if_pos ⟨he, hE⟩] at h
    exact h.1.awd (fun i hi => (clA_b hcl hi).1) h.2
theorem MarkOf.uniq {E : Int} {l : List Int} {m m' : Mk} (h : MarkOf E l m) (k : MarkOf E l m') : m = m' := by
  unfold MarkOf at h k
  by_cases hh : tErr E l = 0 ∧ E ≠ 0
  · rw [if_pos hh] at h k
    obtain ⟨hlen, hcl, -⟩ := tErr_no hh.1
    exact h.1.uniq k.1 (fun i hi => (clA_b hcl hi).1) (by rw [h.2, k.2])
  · rw [if_neg hh] at h k; rw [h, k]
theorem awL_len {m : Mk} {l : List Int} : (awL m l).length = l.length := by unfold awL; rw [List.length_map, List.length_range]
theorem awL_at {m : Mk} {l : List Int} {i : Nat} (h : i < l.length) : (awL m l)[i]? = some (ownV m (clA l i) i) := by
  unfold awL
  rw [List.getElem?_map, List.getElem?_range h]; rfl
theorem own_small {m : Mk} {l : List Int} {E : Int} (h : Awd l E (fun i => ownV m (clA l i) i)) (hcl : ∀ c ∈ l, 0 ≤ c ∧ c ≤ 1073741824) {i : Nat} (hi : i < l.length) : 0 ≤ ownV m (clA l i) i ∧ ownV m (clA l i) i ≤ 1073741824 := by
  have h1 := h.b i hi
  have h1 : 0 ≤ ownV m (clA l i) i ∧ ownV m (clA l i) i ≤ clA l i := h1
  have h2 := clA_b hcl hi
  omega
theorem awL_small {m : Mk} {l : List Int} {E : Int} (h : Awd l E (fun i => ownV m (clA l i) i)) (hcl : ∀ c ∈ l, 0 ≤ c ∧ c ≤ 1073741824) : ∀ x ∈ awL m l, I64 x := fun x hx => by
  unfold awL at hx
  obtain ⟨i, hi, rfl⟩ := List.mem_map.1 hx
  have := own_small h hcl (List.mem_range.1 hi)
  unfold I64; omega
/-- What Pair says. -/
def pairV (E c d : Int) : Int × Int × Int :=
  if 0 ≤ c ∧ c ≤ 1073741824 ∧ 0 ≤ d ∧ d ≤ 1073741824 ∧ 0 ≤ E ∧ E ≤ c + d then
    (max 0 (E - d) + (E - max 0 (E - d) - max 0 (E - c)) / 2, max 0 (E - d) + (E - max 0 (E - d) - max 0 (E - c)) - (E - max 0 (E - d) - max 0 (E - c)) / 2, 0)
  else (0, 0, 400)
section
variable {D : Nat → Prop} {w : World}
abbrev OkL (l : List Int) : Prop := ∀ c ∈ l, 0 ≤ c ∧ c ≤ 1073741824
theorem c_r40Same {xs ys : List Int} {A B : Option Addr} {n c n' c' : Nat} (hl : SlR tInt D w A n xs) (hm : SlR tInt D w B n' ys) : CallZ Tryz.prog 9 #[.slice A n c, .slice B n' c'] w (fun v w' => v = .bool (decide (xs = ys)) ∧ w' = w) := by
  have l1 := hl.len
  have l2 := hm.len
  have e1 := hl.le
  refine fn_rule (args := [.slice A n c, .slice B n' c']) Tryz.func9 (by kernel_rfl) ?_
  refine len ?_
  refine len ?_
  refine cN (fun q => ?_) (fun q => ?_)
  · exact ret1 (.bool false) rfl ⟨by rw [decide_eq_false fun h => q (by subst h; omega)], rfl⟩
  have q : n = n' := by omega
  refine loop_rule (fun k : Nat => [(5, iv (k : Int))]) (fun k u => k ≤ n ∧ w = u ∧ ∀ i, i < k → xs[i]? = ys[i]?) (fun k _ => n - k) 0 ⟨rfl, trivial⟩ ⟨by omega, rfl, fun i hi => by omega⟩ rfl ?_
  rintro G k u ⟨hk, rfl, hs⟩
  refine len ?_
  refine cD (fun hlt => ?_) (fun hge => ?_)
  · have hlt : k < n := by omega
    obtain ⟨b, o, cs, a, rfl, ha, -, -, hc, rfl, -⟩ := hl.at_ hlt
    obtain ⟨b', o', cs', a', rfl, ha', -, -, hc', rfl, -⟩ := hm.at_ (k := k) (by omega)
    refine drawX [0, 1, 2, 3, 4, 5, 6, 7, 8] [] mx (by kernel_rfl) ?_
    refine idx k rfl hlt ?_
    refine ldX (iv a) (hc 0 _ rfl) (.refl _ _) ?_
    refine idx k rfl (by omega) ?_
    refine ldX (iv a') (hc' 0 _ rfl) (.refl _ _) ?_
    refine cN (fun g => ?_) (fun g => ?_)
    · refine ret1 (.bool false) rfl ⟨?_, rfl⟩
      rw [decide_eq_false]
      rintro rfl
      rw [ha] at ha'; injection ha' with ha'; exact g ha'
    · refine arI (by omega) ?_
      refine next (k + 1) ⟨by rw [Int.natCast_add]; rfl, trivial⟩ ⟨by omega, rfl, fun i hi => ?_⟩ (by omega)
      by_cases e : i = k
      · subst e; rw [ha, ha', g]
      · exact hs i (by omega)
  · refine ret1 (.bool true) rfl ⟨?_, rfl⟩
    rw [decide_eq_true]
    apply List.ext_getElem?
    intro i
    by_cases hi : i < n
    · exact hs i (by omega)
    · rw [List.getElem?_eq_none (by omega), List.getElem?_eq_none (by omega)]
end
end Go.Proofs.YtmjcaclakggafaaGreat

/- Layer 40: the laws' sane answers true. -/
namespace Go.Proofs.YtmjcaclakggafaaGreat
open Go Go.RowKit
instance eqRange : EqTy Tryz.prog 77 := ⟨by kernel_rfl⟩

theorem m40 : MarkOf 3 [2, 4] ⟨false, 2, 4, 1⟩ := by
  unfold MarkOf
  rw [if_pos (by decide)]
  exact ⟨⟨⟨by decide, by decide, by decide⟩, ⟨by decide, by decide⟩, rfl⟩, by decide⟩
theorem m41 : MarkOf 1 [1, 1] ⟨true, 1, 1, 1⟩ := by
  unfold MarkOf
  rw [if_pos (by decide)]
  exact ⟨⟨⟨by decide, by decide, by decide⟩, ⟨by decide, by decide⟩, rfl⟩, by decide⟩
theorem v40 : VM ⟨false, 2, 4, 1⟩ := .inr ⟨⟨by decide, by decide, by decide⟩, by decide, by decide, by decide⟩
theorem own_ok {m : Mk} {i c : Int} (h : VM m) (k : 0 ≤ i ∧ i < 664 ∧ 0 ≤ c ∧ c ≤ 1073741824) : ownE m i c = 0 := by unfold ownE; rw [if_pos h, if_pos k]
theorem OwnF.is {w0 w : World} {A : Option Addr} {n c : Nat} {e : TypeId} {xs : List Int} (h : OwnF w0 w A n c e 1 (xs.map fun k => .int .i64 k)) (hx : ∀ x ∈ xs, I64 x) (hle : n ≤ 140737488355328) : SlR tInt (fun b => w0.heap.size ≤ b) w A n xs := h.ints hx hle fun _ h => h
theorem smallG {l : List Int} (h : (l.all fun x => decide (0 ≤ x) && decide (x ≤ 100)) = true) : ∀ x ∈ l, I64 x := fun x hx => by have := List.all_eq_true.1 h x hx; simp only [Bool.and_eq_true, decide_eq_true_eq] at this; unfold I64; constructor <;> omega
section
variable {w : World}
theorem c_gAward' {D : Nat → Prop} {E : Int} {l : List Int} {A : Option Addr} {n c : Nat} (hl : SlR tInt D w A n l) (he : tErr E l = 0) : CallZ Tryz.prog 35 #[iv E, .slice A n c] w (fun v w' => ∃ m A' n' c', MarkOf E l m ∧ v = .tuple #[.slice A' n' c', iv 0] ∧ SlR tInt (fun b => w.heap.size ≤ b) w' A' n' (awL m l) ∧ n' ≤ c' ∧ Ext w w' ∧ n' = l.length) := by
  obtain ⟨hlen, hcl, h0, hs⟩ := tErr_no he
  have hb := isum_b hcl
  unfold isum at hb
  have c1 := c_gAward (c := c) hl (show I64 E by unfold I64; omega)
  intro w0 hw
  refine (c1 w0 hw).mono ?_
  rintro e w' ⟨v, hv, hR⟩
  refine ⟨v, hv, ?_⟩
  rcases hR with ⟨h, -⟩ | ⟨-, m, A', n', c', hm, hv2, own, hn⟩
  · exact absurd he h
  · exact ⟨m, A', n', c', hm, hv2, own.is (awL_small (hm.awd he) hcl) (by omega), own.le, own.ext, hn⟩
end
end Go.Proofs.YtmjcaclakggafaaGreat

/- The laws GarmentPublic, GarmentOrder, GarmentDual. -/
namespace Go.Proofs.YtmjcaclakggafaaGreat
open Go Go.RowKit

theorem tErr_ok {E : Int} {l : List Int} (h : l.length ≤ 60 ∧ OkL l ∧ 0 ≤ E ∧ E ≤ isum l) : tErr E l = 0 := by
  unfold tErr
  rw [if_neg (by omega), show l.all okC = true from List.all_eq_true.2 (fun c hc => decide_eq_true (h.2.1 c hc)), Bool.true_and, if_pos (decide_eq_true ⟨h.2.2.1, h.2.2.2⟩)]
theorem awL_b {m : Mk} {l : List Int} {E : Int} (h : Awd l E (fun i => ownV m (clA l i) i)) (hcl : OkL l) : OkL (awL m l) := fun x hx => by
  unfold awL at hx
  obtain ⟨i, hi, rfl⟩ := List.mem_map.1 hx
  exact own_small h hcl (List.mem_range.1 hi)
theorem awL_sum {m : Mk} {l : List Int} {E : Int} (h : Awd l E (fun i => ownV m (clA l i) i)) : isum (awL m l) = E := by
  rw [← h.s, sumN_map]; rfl
theorem clA_sum {l : List Int} : sumN (clA l) l.length = isum l := by
  have := clm_sum (l := l) (f := fun c _ => c)
  rw [clm_fst] at this
  exact this
/-- What a slice of awards has at an index. -/
theorem awL_get {m : Mk} {l : List Int} {k : Nat} {a : Int} (h : (awL m l)[k]? = some a) (hk : k < l.length) : a = ownV m (clA l k) k := by
  rw [awL_at hk] at h; injection h with h; exact h.symm
section
variable {D : Nat → Prop} {w : World} {l : List Int} {sh mo : Int} {A : Option Addr} {n c : Nat}
end
end Go.Proofs.YtmjcaclakggafaaGreat

/- The reference's Own and Pair; the law GarmentOwnSpec. -/
namespace Go.Proofs.YtmjcaclakggafaaGreat
open Go Go.RowKit

section
variable {w : World}
theorem c_r40within {n lo hi : Int} : CallZ Tryz.prog 100 #[iv n, iv lo, iv hi] w (fun v w' => v = .bool (decide (lo ≤ n ∧ n ≤ hi)) ∧ w' = w) := by
  refine fn_rule (args := [iv n, iv lo, iv hi]) Tryz.func100 (by kernel_rfl) ?_
  refine cD (fun g1 => ?_) (fun g1 => ?_)
  · refine cD (fun g2 => ?_) (fun g2 => ?_)
    · exact ret1 (.bool true) rfl ⟨by rw [decide_eq_true ⟨by omega, by omega⟩], rfl⟩
    · exact ret1 (.bool false) rfl ⟨by rw [decide_eq_false (by omega)], rfl⟩
  · exact ret1 (.bool false) rfl ⟨by rw [decide_eq_false (by omega)], rfl⟩
theorem c_r40has {c L : Int} {l : Bool} (hc : 0 ≤ c ∧ c ≤ 1073741824) : CallZ Tryz.prog 72 #[iv c, .bool l, iv L] w (fun v w' => v = .bool (decide (L ≤ if l then c - c / 2 else c / 2)) ∧ w' = w) := by
  refine fn_rule (args := [iv c, .bool l, iv L]) Tryz.func72 (by kernel_rfl) ?_
  cases l with
  | true =>
    refine quoI (by omega) (by omega) (by omega) ?_
    refine arI (by omega) ?_
    refine cD (fun g => ?_) (fun g => ?_)
    · exact ret1 (.bool true) rfl ⟨by rw [decide_eq_true (by rw [if_pos rfl]; exact g)], rfl⟩
    · exact ret1 (.bool false) rfl ⟨by rw [decide_eq_false (by rw [if_pos rfl]; exact g)], rfl⟩
  | false =>
    refine quoI (by omega) (by omega) (by omega) ?_
    refine cD (fun g => ?_) (fun g => ?_)
    · exact ret1 (.bool true) rfl ⟨by rw [decide_eq_true (by rw [if_neg (by simp)]; exact g)], rfl⟩
    · exact ret1 (.bool false) rfl ⟨by rw [decide_eq_false (by rw [if_neg (by simp)]; exact g)], rfl⟩
theorem c_r40ahead {m : Mk} {c i : Int} : CallZ Tryz.prog 99 #[.bool m.late, iv c, iv i, iv m.claim, iv m.index] w (fun v w' => v = .bool (decide (upTo m c i)) ∧ w' = w) := by
  obtain ⟨l, L, c0, i0⟩ := m
  refine fn_rule (args := [.bool l, iv c, iv i, iv c0, iv i0]) Tryz.func99 (by kernel_rfl) ?_
  cases l with
  | true =>
    refine cD (fun g => ?_) (fun g => ?_)
    · exact ret1 (.bool true) rfl ⟨(decide_eq_true (show upTo ⟨true, L, c0, i0⟩ c i from (show c < c0 ∨ (c = c0 ∧ i0 ≤ i) by omega))).symm ▸ rfl, rfl⟩
    refine cE (fun e => ?_) (fun e => ?_)
    · refine cD (fun g2 => ?_) (fun g2 => ?_)
      · exact ret1 (.bool true) rfl ⟨(decide_eq_true (show upTo ⟨true, L, c0, i0⟩ c i from (show c < c0 ∨ (c = c0 ∧ i0 ≤ i) by omega))).symm ▸ rfl, rfl⟩
      · exact ret1 (.bool false) rfl ⟨(decide_eq_false (show ¬ upTo ⟨true, L, c0, i0⟩ c i from (show ¬ (c < c0 ∨ (c = c0 ∧ i0 ≤ i)) by omega))).symm ▸ rfl, rfl⟩
    · exact ret1 (.bool false) rfl ⟨(decide_eq_false (show ¬ upTo ⟨true, L, c0, i0⟩ c i from (show ¬ (c < c0 ∨ (c = c0 ∧ i0 ≤ i)) by omega))).symm ▸ rfl, rfl⟩
  | false =>
    refine cD (fun g => ?_) (fun g => ?_)
    · exact ret1 (.bool true) rfl ⟨(decide_eq_true (show upTo ⟨false, L, c0, i0⟩ c i from (show c0 < c ∨ (c = c0 ∧ i ≤ i0) by omega))).symm ▸ rfl, rfl⟩
    refine cE (fun e => ?_) (fun e => ?_)
    · refine cD (fun g2 => ?_) (fun g2 => ?_)
      · exact ret1 (.bool true) rfl ⟨(decide_eq_true (show upTo ⟨false, L, c0, i0⟩ c i from (show c0 < c ∨ (c = c0 ∧ i ≤ i0) by omega))).symm ▸ rfl, rfl⟩
      · exact ret1 (.bool false) rfl ⟨(decide_eq_false (show ¬ upTo ⟨false, L, c0, i0⟩ c i from (show ¬ (c0 < c ∨ (c = c0 ∧ i ≤ i0)) by omega))).symm ▸ rfl, rfl⟩
    · exact ret1 (.bool false) rfl ⟨(decide_eq_false (show ¬ upTo ⟨false, L, c0, i0⟩ c i from (show ¬ (c0 < c ∨ (c = c0 ∧ i ≤ i0)) by omega))).symm ▸ rfl, rfl⟩
theorem c_r40early {c L : Int} (hc : 0 ≤ c ∧ c ≤ 1073741824) : CallZ Tryz.prog 97 #[iv c, iv L] w (fun v w' => v = iv (max 0 (min (c / 2) L)) ∧ w' = w) := by
  refine fn_rule (args := [iv c, iv L]) Tryz.func97 (by kernel_rfl) ?_
  refine quoI (by omega) (by omega) (by omega) ?_
  exact ret1 (iv (max 0 (min (c / 2) L))) rfl ⟨rfl, rfl⟩
theorem c_r40late {c L : Int} (hc : 0 ≤ c ∧ c ≤ 1073741824) (hL : -1 ≤ L ∧ L ≤ 2147483648) : CallZ Tryz.prog 98 #[iv c, iv L] w (fun v w' => v = iv (max 0 (c - c / 2 - L + 1)) ∧ w' = w) := by
  refine fn_rule (args := [iv c, iv L]) Tryz.func98 (by kernel_rfl) ?_
  refine quoI (by omega) (by omega) (by omega) ?_
  refine arI (by omega) ?_
  refine arI (by omega) ?_
  refine arI (by omega) ?_
  exact ret1 (iv (max 0 (c - c / 2 - L + 1))) rfl ⟨rfl, rfl⟩
theorem c_r40own {m : Mk} {c i : Int} (hm : VM m) (hc : 0 ≤ c ∧ c ≤ 1073741824) : CallZ Tryz.prog 68 #[.agg (encM m).toArray, iv i, iv c] w (fun v w' => v = iv (ownV m c i) ∧ Ext w w') := by
  obtain ⟨l, L, c0, i0⟩ := m
  have hb : 0 ≤ L ∧ L ≤ 1073741824 := hm.b
  refine fn_rule (args := [.agg #[.bool l, iv L, iv c0, iv i0], iv i, iv c]) Tryz.func68 (by kernel_rfl) ?_
  refine box (fun b w1 h1 => ?_)
  have B : Blk w1 b 92 [.bool l, iv L, iv c0, iv i0] := h1.blk
  refine ldA [.bool l, iv L, iv c0, iv i0] (.blk B) rfl ?_
  refine bld [.bool false, iv 0, iv 0, iv 0] (by kernel_rfl) ?_
  refine eqS ((l == false) && ((L == 0) && ((c0 == 0) && ((i0 == 0) && true)))) (by kernel_rfl) (fun q => ?_) (fun q => ?_)
  · rw [show ((l == false) && ((L == 0) && ((c0 == 0) && ((i0 == 0) && true)))) = decide ((⟨l, L, c0, i0⟩ : Mk) = Mk.none) from @ne_none ⟨l, L, c0, i0⟩, decide_eq_true_eq] at q
    exact ret1 (iv 0) rfl ⟨by unfold ownV; rw [if_pos q], h1.ext⟩
  rw [show ((l == false) && ((L == 0) && ((c0 == 0) && ((i0 == 0) && true)))) = decide ((⟨l, L, c0, i0⟩ : Mk) = Mk.none) from @ne_none ⟨l, L, c0, i0⟩, decide_eq_false_iff_not] at q
  have hlit : (⟨l, L, c0, i0⟩ : Mk).Lit := by
    rcases hm with h | h
    · exact absurd h q
    · exact h.1
  have hL1 : 1 ≤ L := hlit.lo
  refine fldA ?_
  refine ld (iv L) (B.cell rfl) ?_
  refine arI (by omega) ?_
  refine call_of (c_r40early (L := L - 1) hc) ?_
  rintro _ w2 ⟨rfl, rfl⟩
  have B : Blk w2 b 92 [.bool l, iv L, iv c0, iv i0] := B
  have x1 := h1.ext
  cases l with
  | false =>
    refine fldA ?_
    refine ld (.bool false) (B.cell rfl) ?_
    refine fldA ?_
    refine ld (.bool false) (B.cell rfl) ?_
    refine fldA ?_
    refine ld (iv L) (B.cell rfl) ?_
    refine callB (c_r40has (l := false) hc) (fun g => ?_) (fun g => ?_)
    · have g := of_decide_eq_true g
      rw [if_neg (by simp)] at g
      refine fldA ?_
      refine ld (.bool false) (B.cell rfl) ?_
      refine fldA ?_
      refine ld (iv c0) (B.cell rfl) ?_
      refine fldA ?_
      refine ld (iv i0) (B.cell rfl) ?_
      refine callB (c_r40ahead (m := ⟨false, L, c0, i0⟩)) (fun k => ?_) (fun k => ?_)
      · have k := of_decide_eq_true k
        refine arI (by omega) ?_
        refine ret1 (iv (max 0 (min (c / 2) (L - 1)) + 1)) rfl ⟨?_, x1⟩
        rw [own_ee hlit k, show max 0 (min (c / 2) (L - 1)) + 1 = min (c / 2) L by omega]
      · have k := of_decide_eq_false k
        refine ret1 (iv (max 0 (min (c / 2) (L - 1)))) rfl ⟨?_, x1⟩
        rw [own_en hlit k, show max 0 (min (c / 2) (L - 1)) = min (c / 2) (L - 1) by omega]
    · have g := of_decide_eq_false g
      rw [if_neg (by simp)] at g
      refine ret1 (iv (max 0 (min (c / 2) (L - 1)))) rfl ⟨?_, x1⟩
      by_cases k : c0 < c ∨ (c = c0 ∧ i ≤ i0)
      · rw [own_ee hlit k, show max 0 (min (c / 2) (L - 1)) = min (c / 2) L by omega]
      · rw [own_en hlit k, show max 0 (min (c / 2) (L - 1)) = min (c / 2) (L - 1) by omega]
  | true =>
    refine fldA ?_
    refine ld (.bool true) (B.cell rfl) ?_
    refine quoI (by omega) (by omega) (by omega) ?_
    refine fldA ?_
    refine ld (iv L) (B.cell rfl) ?_
    refine arI (by omega) ?_
    refine call_of (c_r40late (L := L + 1) hc (by omega)) ?_
    rintro _ w3 ⟨rfl, rfl⟩
    have B : Blk w3 b 92 [.bool true, iv L, iv c0, iv i0] := B
    refine arI (by omega) ?_
    refine fldA ?_
    refine ld (.bool true) (B.cell rfl) ?_
    refine fldA ?_
    refine ld (iv L) (B.cell rfl) ?_
    refine callB (c_r40has (l := true) hc) (fun g => ?_) (fun g => ?_)
    · have g := of_decide_eq_true g
      rw [if_pos rfl] at g
      refine fldA ?_
      refine ld (.bool true) (B.cell rfl) ?_
      refine fldA ?_
      refine ld (iv c0) (B.cell rfl) ?_
      refine fldA ?_
      refine ld (iv i0) (B.cell rfl) ?_
      refine callB (c_r40ahead (m := ⟨true, L, c0, i0⟩)) (fun k => ?_) (fun k => ?_)
      · have k := of_decide_eq_true k
        refine arI (by omega) ?_
        refine ret1 (iv (c / 2 + max 0 (c - c / 2 - (L + 1) + 1) + 1)) rfl ⟨?_, x1⟩
        rw [own_le hlit k, show c / 2 + max 0 (c - c / 2 - (L + 1) + 1) + 1 = c - min (c - c / 2) (L - 1) by omega]
      · have k := of_decide_eq_false k
        refine ret1 (iv (c / 2 + max 0 (c - c / 2 - (L + 1) + 1))) rfl ⟨?_, x1⟩
        rw [own_ln hlit k, show c / 2 + max 0 (c - c / 2 - (L + 1) + 1) = c - min (c - c / 2) L by omega]
    · have g := of_decide_eq_false g
      rw [if_pos rfl] at g
      refine ret1 (iv (c / 2 + max 0 (c - c / 2 - (L + 1) + 1))) rfl ⟨?_, x1⟩
      by_cases k : c < c0 ∨ (c = c0 ∧ i0 ≤ i)
      · rw [own_le hlit k, show c / 2 + max 0 (c - c / 2 - (L + 1) + 1) = c - min (c - c / 2) (L - 1) by omega]
      · rw [own_ln hlit k, show c / 2 + max 0 (c - c / 2 - (L + 1) + 1) = c - min (c - c / 2) L by omega]
end
end Go.Proofs.YtmjcaclakggafaaGreat

/- The law GarmentConsistent. -/
namespace Go.Proofs.YtmjcaclakggafaaGreat
open Go Go.RowKit

theorem bitA {op : BinOp} {k : IntKind} {a b : Int} {K : Value → Prop} (h : K (.int k (bits op k a b))) : BitP op k a b K := by rw [BitP_eq]; exact h
/-- Whether a claimant is among those who divide again. -/
def whoV (who : Int) (i : Nat) : Int := bits .and .u64 (who.fdiv (2 ^ (min (i : Int).toNat IntKind.u64.bits))) 1
def ix (who : Int) (k : Nat) : List Nat := (List.range k).filter fun i => decide (whoV who i = 1)
theorem ix_yes {who : Int} {k : Nat} (h : whoV who k = 1) : ix who (k + 1) = ix who k ++ [k] := by
  unfold ix
  rw [List.range_succ, List.filter_append, List.filter_cons_of_pos (by simpa using h)]; rfl
theorem ix_no {who : Int} {k : Nat} (h : ¬ whoV who k = 1) : ix who (k + 1) = ix who k := by
  unfold ix
  rw [List.range_succ, List.filter_append, List.filter_cons_of_neg (by simpa using h)]; simp
theorem ix_len {who : Int} {k : Nat} : (ix who k).length ≤ k := by
  have := List.length_filter_le (fun i => decide (whoV who i = 1)) (List.range k)
  rw [List.length_range] at this
  exact this
theorem ix_lt {who : Int} {k i : Nat} (h : i ∈ ix who k) : i < k := List.mem_range.1 (List.mem_filter.1 h).1
theorem ix_pw {who : Int} {k : Nat} : (ix who k).Pairwise (· < ·) := List.Pairwise.filter _ List.pairwise_lt_range
theorem kLt_ix {c i j c' i' j' p p' : Int} (h1 : i < i' → p < p') (h2 : i' < i → p' < p) (h : kLt c i j c' i' j') : kLt c p j c' p' j' := by unfold kLt at *; omega
/-- Some of the claimants divide what they have as before. -/
theorem Awd.part {l : List Int} {E : Int} {a : Nat → Int} (h : Awd l E a) {I : List Nat} (hI : ∀ i ∈ I, i < l.length) (hp : I.Pairwise (· < ·)) :
    Awd (I.map (clA l)) (isum (I.map a)) (fun j => a (I.getD j 0)) := by
  have at_ : ∀ {j : Nat} (hj : j < (I.map (clA l)).length), clA (I.map (clA l)) j = clA l (I.getD j 0) ∧ I.getD j 0 ∈ I := fun {j} hj => by
    rw [List.length_map] at hj
    have e : I.getD j 0 = I[j] := by rw [List.getD_eq_getElem?_getD, List.getElem?_eq_getElem hj]; rfl
    refine ⟨?_, by rw [e]; exact List.getElem_mem _⟩
    rw [e]
    show (I.map (clA l)).getD j 0 = _
    rw [List.getD_eq_getElem?_getD, List.getElem?_map, List.getElem?_eq_getElem hj]; rfl
  have mono : ∀ {j k : Nat}, k < I.length → j < k → I.getD j 0 < I.getD k 0 := fun {j k} hk hjk => by
    rw [List.getD_eq_getElem?_getD, List.getD_eq_getElem?_getD, List.getElem?_eq_getElem hk, List.getElem?_eq_getElem (show j < I.length by omega)]
    exact List.pairwise_iff_getElem.1 hp j k (by omega) hk hjk
  refine ⟨fun j hj => ?_, ?_, fun j k hj hk h1 h2 => ?_⟩
  · rw [(at_ hj).1]; exact h.b _ (hI _ (at_ hj).2)
  · rw [List.length_map, ← clA_sum, List.length_map]
    refine sumN_congr fun j hj => ?_
    show a (I.getD j 0) = (I.map a).getD j 0
    rw [List.getD_eq_getElem?_getD, List.getD_eq_getElem?_getD, List.getElem?_map, List.getElem?_eq_getElem hj]; rfl
  · have e1 := at_ hj
    have e2 := at_ hk
    rw [e2.1] at h2
    have := h.d _ _ (hI _ e1.2) (hI _ e2.2) h1 h2
    rw [e1.1, e2.1]
    rw [List.length_map] at hj hk
    refine kLt_ix (fun hlt => ?_) (fun hlt => ?_) this
    · by_cases q : j < k
      · omega
      · by_cases q2 : j = k
        · subst q2; omega
        · have := mono hj (show k < j by omega); omega
    · by_cases q : k < j
      · omega
      · by_cases q2 : j = k
        · subst q2; omega
        · have := mono hk (show j < k by omega); omega
/-- Two slices of the function's own that do not share. -/
def dj (A B : Option Addr) : Prop := ∀ g, A = some (ad g 0) → B ≠ some (ad g 0)
theorem dj.symm {A B : Option Addr} (h : dj A B) : dj B A := fun g h1 h2 => h g h2 h1
theorem dj.app {A A' B : Option Addr} {w0 u : World} {n c sz : Nat} {e : TypeId} {cs : List Value} (h : dj A B) (hA : A' = A ∨ A' = none ∨ A' = some (ad u.heap.size 0)) (hB : OwnF w0 u B n c e sz cs) : dj A' B := by
  intro g h1 h2
  rcases hA with e | e | e
  · exact h g (e ▸ h1) h2
  · rw [e] at h1; cases h1
  · rw [e] at h1
    injection h1 with h1; injection h1 with h1
    rcases hB.form with ⟨e2, -⟩ | ⟨g', e2, -, hlt, -⟩
    · rw [e2] at h2; cases h2
    · rw [e2] at h2; injection h2 with h2; injection h2 with h2; omega
theorem srcOf {w : World} {g : Nat} {t : TypeId} {v : Value} (h : Blk w g t [v]) : Src w (some (ad g 0)) 1 1 [v] := ⟨rfl, fun _ => ⟨g, 0, rfl, fun j x hx => by rw [Nat.zero_add]; exact h.cell hx⟩⟩
theorem own_ne {w0 w : World} {A : Option Addr} {n c sz : Nat} {e : TypeId} {cs : List Value} (h : OwnF w0 w A n c e sz cs) {g : Nat} (hg : w.heap.size ≤ g) : A ≠ some (ad g 0) := fun e2 => by
  rcases h.form with ⟨e3, -⟩ | ⟨g', e3, -, hlt, -⟩
  · rw [e3] at e2; cases e2
  · rw [e3] at e2; injection e2 with e2; injection e2 with e2; omega
section
variable {D : Nat → Prop} {w : World} {l : List Int} {sh mo who : Int} {A : Option Addr} {n c : Nat}
end
end Go.Proofs.YtmjcaclakggafaaGreat

/- The reference's Threshold. -/
namespace Go.Proofs.YtmjcaclakggafaaGreat
open Go Go.RowKit

/-- How many litres of a claim are before a level or in it. -/
def toF (late : Bool) (L c : Int) : Int := if late then c / 2 + max 0 (c - c / 2 - L + 1) else max 0 (min (c / 2) L)
def toN (late : Bool) (L : Int) (l : List Int) (k : Nat) : Int := sumN (fun i => toF late L (clA l i)) k
def toV (late : Bool) (L : Int) (l : List Int) : Int := toN late L l l.length
/-- The level that is before a mark's. -/
def befL (m : Mk) : Int := if m.late then m.level + 1 else m.level - 1
instance (m : Mk) (c i : Int) : Decidable (m.level ≤ (if m.late then c - c / 2 else c / 2) ∧ upTo m c i) := inferInstance
def oneV (m : Mk) (c i : Int) : Int := if m.level ≤ (if m.late then c - c / 2 else c / 2) ∧ upTo m c i then 1 else 0
theorem own_pt {m : Mk} {c i : Int} (h : m.Lit) (hc : 0 ≤ c) : ownV m c i = toF m.late (befL m) c + oneV m c i := by
  obtain ⟨l, L, c0, i0⟩ := m
  have h1 : 1 ≤ L := h.lo
  cases l with
  | false =>
    have e1 : befL ⟨false, L, c0, i0⟩ = L - 1 := rfl
    have e2 : toF false (L - 1) c = max 0 (min (c / 2) (L - 1)) := rfl
    rw [e1]
    show _ = toF false (L - 1) c + oneV ⟨false, L, c0, i0⟩ c i
    rw [e2]
    by_cases hq : c0 < c ∨ (c = c0 ∧ i ≤ i0)
    · rw [own_ee h hq]
      by_cases g : L ≤ c / 2
      · rw [show oneV ⟨false, L, c0, i0⟩ c i = 1 from if_pos ⟨g, hq⟩]; omega
      · rw [show oneV ⟨false, L, c0, i0⟩ c i = 0 from if_neg fun k => g k.1]; omega
    · rw [own_en h hq, show oneV ⟨false, L, c0, i0⟩ c i = 0 from if_neg fun k => hq k.2]; omega
  | true =>
    have e1 : befL ⟨true, L, c0, i0⟩ = L + 1 := rfl
    have e2 : toF true (L + 1) c = c / 2 + max 0 (c - c / 2 - (L + 1) + 1) := rfl
    rw [e1]
    show _ = toF true (L + 1) c + oneV ⟨true, L, c0, i0⟩ c i
    rw [e2]
    by_cases hq : c < c0 ∨ (c = c0 ∧ i0 ≤ i)
    · rw [own_le h hq]
      by_cases g : L ≤ c - c / 2
      · rw [show oneV ⟨true, L, c0, i0⟩ c i = 1 from if_pos ⟨g, hq⟩]; omega
      · rw [show oneV ⟨true, L, c0, i0⟩ c i = 0 from if_neg fun k => g k.1]; omega
    · rw [own_ln h hq, show oneV ⟨true, L, c0, i0⟩ c i = 0 from if_neg fun k => hq k.2]; omega
section
variable {l : List Int} {m : Mk} {E : Int}
theorem place_eq (h : m.Lit) (hl : ∀ i, i < l.length → 0 ≤ clA l i) : ownS m l = toV m.late (befL m) l + sumN (fun i => oneV m (clA l i) i) l.length := by
  unfold ownS toV toN
  rw [← sumN_add]
  exact sumN_congr fun i hi => own_pt h (hl i hi)
theorem Mk.Of.nat (h : m.Of l) : m.index.toNat < l.length ∧ ((m.index.toNat : Nat) : Int) = m.index := by have := h.ix; omega
/-- .. and at the mark's own claimant. -/
theorem own_at (h : m.Of l) : ownV m (clA l m.index.toNat) (m.index.toNat : Nat) = m.j := by
  rw [h.nat.2, ← h.cl]; exact own_self h.lit
theorem lev_early (h : m.Of l) (hl : ∀ i, i < l.length → 0 ≤ clA l i) (hs : ownS m l = E) (he : m.late = false) {x : Int} (_hx : 0 ≤ x) : E ≤ toV false x l ↔ m.level ≤ x := by
  obtain ⟨b, L, c0, i0⟩ := m
  have he : b = false := he
  subst he
  have lit := h.lit
  have h1 : 1 ≤ L := lit.lo
  have h2 : L ≤ c0 / 2 := lit.hi
  constructor
  · intro hE
    by_cases q : L ≤ x
    · exact q
    exfalso
    have := sumN_lt (f := fun i => toF false x (clA l i)) (g := fun i => ownV ⟨false, L, c0, i0⟩ (clA l i) i) (n := l.length) (fun i hi => by
      have := hl i hi
      show max 0 (min (clA l i / 2) x) ≤ _
      by_cases hq : c0 < clA l i ∨ (clA l i = c0 ∧ (i : Int) ≤ i0)
      · rw [own_ee lit hq]; omega
      · rw [own_en lit hq]; omega) ⟨i0.toNat, h.nat.1, by
        have e : ownV ⟨false, L, c0, i0⟩ (clA l i0.toNat) (i0.toNat : Nat) = L := own_at h
        rw [e]
        show max 0 (min (clA l i0.toNat / 2) x) < L
        omega⟩
    have hs : sumN (fun i => ownV ⟨false, L, c0, i0⟩ (clA l i) i) l.length = E := hs
    rw [hs] at this
    have : toV false x l < E := this
    omega
  · intro hLx
    have hLx : L ≤ x := hLx
    rw [← hs]
    exact sumN_le fun i hi => by
      have := hl i hi
      show _ ≤ max 0 (min (clA l i / 2) x)
      by_cases hq : c0 < clA l i ∨ (clA l i = c0 ∧ (i : Int) ≤ i0)
      · rw [own_ee lit hq]; omega
      · rw [own_en lit hq]; omega
theorem lev_late (h : m.Of l) (hl : ∀ i, i < l.length → 0 ≤ clA l i) (hs : ownS m l = E) (he : m.late = true) {x : Int} (_hx : 1 ≤ x) : E ≤ toV true x l ↔ x ≤ m.level := by
  obtain ⟨b, L, c0, i0⟩ := m
  have he : b = true := he
  subst he
  have lit := h.lit
  have h1 : 1 ≤ L := lit.lo
  have h2 : L ≤ c0 - c0 / 2 := lit.hi
  have hcl : c0 = clA l i0.toNat := h.cl
  constructor
  · intro hE
    by_cases q : x ≤ L
    · exact q
    exfalso
    have := sumN_lt (f := fun i => toF true x (clA l i)) (g := fun i => ownV ⟨true, L, c0, i0⟩ (clA l i) i) (n := l.length) (fun i hi => by
      have := hl i hi
      show clA l i / 2 + max 0 (clA l i - clA l i / 2 - x + 1) ≤ _
      by_cases hq : clA l i < c0 ∨ (clA l i = c0 ∧ i0 ≤ (i : Int))
      · rw [own_le lit hq]; omega
      · rw [own_ln lit hq]; omega) ⟨i0.toNat, h.nat.1, by
        have e : ownV ⟨true, L, c0, i0⟩ (clA l i0.toNat) (i0.toNat : Nat) = c0 - L + 1 := own_at h
        rw [e]
        show clA l i0.toNat / 2 + max 0 (clA l i0.toNat - clA l i0.toNat / 2 - x + 1) < c0 - L + 1
        rw [← hcl]
        omega⟩
    have hs : sumN (fun i => ownV ⟨true, L, c0, i0⟩ (clA l i) i) l.length = E := hs
    rw [hs] at this
    have : toV true x l < E := this
    omega
  · intro hLx
    have hLx : x ≤ L := hLx
    rw [← hs]
    exact sumN_le fun i hi => by
      have := hl i hi
      show _ ≤ clA l i / 2 + max 0 (clA l i - clA l i / 2 - x + 1)
      by_cases hq : clA l i < c0 ∨ (clA l i = c0 ∧ i0 ≤ (i : Int))
      · rw [own_le lit hq]; omega
      · rw [own_ln lit hq]; omega
theorem late_big (h : m.Of l) (hl : ∀ i, i < l.length → 0 ≤ clA l i) (hs : ownS m l = E) (he : m.late = true) {x : Int} (_hx : 0 ≤ x) : toV false x l < E := by
  obtain ⟨b, L, c0, i0⟩ := m
  have he : b = true := he
  subst he
  have lit := h.lit
  have h1 : 1 ≤ L := lit.lo
  have h2 : L ≤ c0 - c0 / 2 := lit.hi
  have hcl : c0 = clA l i0.toNat := h.cl
  rw [← hs]
  refine sumN_lt (f := fun i => toF false x (clA l i)) (g := fun i => ownV ⟨true, L, c0, i0⟩ (clA l i) i) (n := l.length) (fun i hi => ?_) ⟨i0.toNat, h.nat.1, ?_⟩
  · have := hl i hi
    show max 0 (min (clA l i / 2) x) ≤ _
    by_cases hq : clA l i < c0 ∨ (clA l i = c0 ∧ i0 ≤ (i : Int))
    · rw [own_le lit hq]; omega
    · rw [own_ln lit hq]; omega
  · have e : ownV ⟨true, L, c0, i0⟩ (clA l i0.toNat) (i0.toNat : Nat) = c0 - L + 1 := own_at h
    rw [e]
    show max 0 (min (clA l i0.toNat / 2) x) < c0 - L + 1
    rw [← hcl]
    have := lit.c0
    omega
theorem toF_b {late : Bool} {L c : Int} (hL : 0 ≤ L) (hc : 0 ≤ c ∧ c ≤ 1073741824) : 0 ≤ toF late L c ∧ toF late L c ≤ 1073741825 := by
  unfold toF
  split <;> omega
theorem toN_b {late : Bool} {L : Int} (hL : 0 ≤ L) (hcl : OkL l) {k : Nat} (hk : k ≤ l.length) : 0 ≤ toN late L l k ∧ toN late L l k ≤ k * 1073741825 :=
  sumN_b fun i hi => toF_b hL (clA_b hcl (by omega))
end
section
variable {D : Nat → Prop} {w : World} {l : List Int} {A : Option Addr} {n c : Nat}
theorem c_r40check {E : Int} (hl : SlR tInt D w A n l) : CallZ Tryz.prog 69 #[iv E, .slice A n c] w (fun v w' => v = iv (tErr E l) ∧ w' = w) := by
  have l1 := hl.len
  have hle := hl.le
  refine fn_rule (args := [iv E, .slice A n c]) Tryz.func69 (by kernel_rfl) ?_
  refine len ?_
  refine cD (fun g0 => ?_) (fun g0 => ?_)
  · exact ret1 (iv 2) rfl ⟨by unfold tErr; rw [if_pos (by omega)], rfl⟩
  have bad : (l.all okC && decide (0 ≤ E ∧ E ≤ l.sum)) = false → tErr E l = 400 := fun h => by unfold tErr; rw [if_neg (by omega), h]; rfl
  refine loop_rule (fun k : Nat => [(6, iv (k : Int)), (5, iv (isum (l.take k)))]) (fun k u => k ≤ n ∧ w = u ∧ ∀ c ∈ l.take k, 0 ≤ c ∧ c ≤ 1073741824) (fun k _ => n - k) 0 ⟨rfl, rfl, trivial⟩ ⟨by omega, rfl, fun c hc => by simp at hc⟩ rfl ?_
  rintro G k u ⟨hk, rfl, hall⟩
  have hsb := isum_b hall
  rw [List.length_take] at hsb
  refine len ?_
  refine cD (fun hlt => ?_) (fun hge => ?_)
  · have hlt : k < n := by omega
    obtain ⟨b, o, cs, a, rfl, ha, -, -, hc, rfl, -⟩ := hl.at_ hlt
    have htk : l.take (k + 1) = l.take k ++ [a] := by rw [List.take_add_one, ha]; rfl
    refine idx k rfl hlt ?_
    refine ld (iv a) (hc 0 _ rfl) ?_
    refine callB c_r40within (fun g => ?_) (fun g => ?_)
    rotate_left
    · have g := of_decide_eq_false g
      refine ret1 (iv 400) rfl ⟨?_, rfl⟩
      rw [bad (by
        rw [Bool.and_eq_false_iff]; left
        rw [Bool.eq_false_iff]
        intro h2
        exact g (of_decide_eq_true (List.all_eq_true.1 h2 a (List.mem_of_getElem? ha))))]
    have g := of_decide_eq_true g
    refine idx k rfl hlt ?_
    refine ld (iv a) (hc 0 _ rfl) ?_
    refine arI (by omega) ?_
    refine arI (by omega) ?_
    refine next (k + 1) ⟨by rw [Int.natCast_add]; rfl, by rw [htk, isum_snoc]; rfl, trivial⟩ ⟨by omega, rfl, fun c hc => ?_⟩ (by omega)
    rw [htk, List.mem_append, List.mem_singleton] at hc
    rcases hc with hc | rfl
    · exact hall c hc
    · exact g
  · rw [List.take_of_length_le (by omega)] at hall ⊢
    have hall' : l.all okC = true := List.all_eq_true.2 fun c hc => decide_eq_true (hall c hc)
    refine callB c_r40within (fun g => ?_) (fun g => ?_)
    · have g := of_decide_eq_true g
      refine ret1 (iv 0) rfl ⟨?_, rfl⟩
      unfold tErr
      rw [if_neg (by omega), hall', Bool.true_and, if_pos (decide_eq_true (show 0 ≤ E ∧ E ≤ l.sum from g))]
    · have g := of_decide_eq_false g
      refine ret1 (iv 400) rfl ⟨?_, rfl⟩
      rw [bad (by rw [hall', Bool.true_and]; exact decide_eq_false g)]
theorem c_r40to {late : Bool} {L : Int} (hl : SlR tInt D w A n l) (hn : n ≤ 664) (hcl : OkL l) (hL : 0 ≤ L ∧ L ≤ 1073741825) : CallZ Tryz.prog 70 #[.slice A n c, .bool late, iv L] w (fun v w' => v = iv (toV late L l) ∧ w' = w) := by
  have l1 := hl.len
  refine fn_rule (args := [.slice A n c, .bool late, iv L]) Tryz.func70 (by kernel_rfl) ?_
  refine loop_rule (fun k : Nat => [(8, iv (k : Int)), (7, iv (toN late L l k))]) (fun k u => k ≤ n ∧ w = u) (fun k _ => n - k) 0 ⟨rfl, rfl, trivial⟩ ⟨by omega, rfl⟩ rfl ?_
  rintro G k u ⟨hk, rfl⟩
  have hsb := toN_b (late := late) hL.1 hcl (k := k) (by omega)
  refine len ?_
  refine cD (fun hlt => ?_) (fun hge => ?_)
  · have hlt : k < n := by omega
    obtain ⟨b, o, cs, a, rfl, ha, -, -, hc, rfl, -⟩ := hl.at_ hlt
    have hqb := hcl a (List.mem_of_getElem? ha)
    have hs : toN late L l (k + 1) = toN late L l k + toF late L a := by
      show toN late L l k + toF late L (clA l k) = _
      rw [clA_at ha]
    have fb := toF_b (late := late) hL.1 hqb
    cases late with
    | true =>
      have ef : toF true L a = a / 2 + max 0 (a - a / 2 - L + 1) := rfl
      rw [ef] at hs fb
      refine drawX [0, 1, 2, 3, 4, 5, 6, 7, 8, 9, 10, 11, 12, 13, 14] [] mx (by kernel_rfl) ?_
      refine idx k rfl hlt ?_
      refine ldX (iv a) (hc 0 _ rfl) (.refl _ _) ?_
      refine quoI (by omega) (by omega) (by omega) ?_
      refine arI (by omega) ?_
      refine idx k rfl hlt ?_
      refine ldX (iv a) (hc 0 _ rfl) (.refl _ _) ?_
      refine callQ (v := iv (max 0 (a - a / 2 - L + 1))) (fun u _ => c_r40late hqb (by omega)) ?_
      refine arI (by omega) ?_
      refine arI (by omega) ?_
      refine next (k + 1) ⟨by rw [Int.natCast_add]; rfl, ?_, trivial⟩ ⟨by omega, rfl⟩ (by omega)
      rw [hs, ← Int.add_assoc]; rfl
    | false =>
      have ef : toF false L a = max 0 (min (a / 2) L) := rfl
      rw [ef] at hs fb
      refine idx k rfl hlt ?_
      refine ld (iv a) (hc 0 _ rfl) ?_
      refine call_of (c_r40early hqb) ?_
      rintro _ u2 ⟨rfl, rfl⟩
      refine arI (by omega) ?_
      refine arI (by omega) ?_
      refine next (k + 1) ⟨by rw [Int.natCast_add]; rfl, ?_, trivial⟩ ⟨by omega, rfl⟩ (by omega)
      rw [hs]; rfl
  · refine ret1 (iv (toN late L l k)) rfl ⟨?_, rfl⟩
    unfold toV
    rw [show k = l.length by omega]
end
end Go.Proofs.YtmjcaclakggafaaGreat

/- The reference's place, level, Threshold, Award; the law GarmentSpec. -/
namespace Go.Proofs.YtmjcaclakggafaaGreat
open Go Go.RowKit

section
variable {D : Nat → Prop} {w : World} {l : List Int} {A : Option Addr} {n c : Nat}
theorem c_r40place {late : Bool} {L : Int} {i : Nat} (hl : SlR tInt D w A n l) (hn : n ≤ 664) (hcl : OkL l) (hi : i < n) (h : (⟨late, L, clA l i, (i : Int)⟩ : Mk).Lit) : CallZ Tryz.prog 73 #[.slice A n c, .bool late, iv L, iv (i : Int)] w (fun v w' => v = iv (ownS ⟨late, L, clA l i, (i : Int)⟩ l) ∧ w' = w) := by
  have l1 := hl.len
  have hci := clA_b hcl (i := i) (by omega)
  have L1 : 1 ≤ L := h.lo
  have L2 : L ≤ if late = true then clA l i - clA l i / 2 else clA l i / 2 := h.hi
  have L3 : L ≤ 1073741824 := by split at L2 <;> omega
  obtain ⟨bx, ox, csx, ci, rfl, hqi, -, -, hci', rfl, -⟩ := hl.at_ hi
  have eci := clA_at hqi
  rw [place_eq h fun k hk => (clA_b hcl hk).1]
  obtain ⟨m, hm⟩ : ∃ m, m = (⟨late, L, clA l i, (i : Int)⟩ : Mk) := ⟨_, rfl⟩
  rw [← hm]
  have oneB : ∀ k, k ≤ l.length → 0 ≤ sumN (fun i => oneV m (clA l i) i) k ∧ sumN (fun i => oneV m (clA l i) i) k ≤ k * 1 := fun k _ => sumN_b fun j _ => by unfold oneV; split <;> omega
  refine fn_rule (args := [.slice (some (ad bx ox)) n c, .bool late, iv L, iv (i : Int)]) Tryz.func73 (by kernel_rfl) ?_
  refine arI (by omega) ?_
  refine call_of (c_r40to (late := late) (L := L - 1) hl hn hcl (by omega)) ?_
  rintro _ w1 ⟨rfl, rfl⟩
  cases late with
  | true =>
    refine arI (by omega) ?_
    refine call_of (c_r40to (late := true) (L := L + 1) hl hn hcl (by omega)) ?_
    rintro _ w1 ⟨rfl, rfl⟩
    have lateE : m.late = true := by rw [hm]
    have base : ∃ S, S = toV m.late (befL m) l ∧ 0 ≤ S ∧ S ≤ 664 * 1073741825 := ⟨_, rfl, by
      have := toN_b (late := m.late) (L := befL m) (by rw [hm]; show 0 ≤ L + 1; omega) hcl (Nat.le_refl l.length)
      unfold toV
      omega⟩
    rw [show toV true (L + 1) l = toV m.late (befL m) l by rw [hm]; rfl]
    obtain ⟨S, hS, hS0, hS1⟩ := base
    rw [← hS]
    refine loop_rule (fun k : Nat => [(10, iv (k : Int)), (9, iv (S + sumN (fun i => oneV m (clA l i) i) k))]) (fun k u => k ≤ n ∧ w1 = u) (fun k _ => n - k) 0 ⟨rfl, congrArg (Value.int .i64) (by show S = S + 0; omega), trivial⟩ ⟨by omega, rfl⟩ rfl ?_
    rintro G k u ⟨hk, rfl⟩
    have ob := oneB k (by omega)
    refine len ?_
    refine cD (fun hlt => ?_) (fun hge => ?_)
    · have hlt : k < n := by omega
      obtain ⟨b, o, cs, a, hA, ha, -, -, hc, rfl, -⟩ := hl.at_ hlt
      injection hA with hA
      injection hA with hA hA'
      subst hA; subst hA'
      have hab := hcl a (List.mem_of_getElem? ha)
      have hs : sumN (fun i => oneV m (clA l i) i) (k + 1) = sumN (fun i => oneV m (clA l i) i) k + oneV m a k := by
        show _ + oneV m (clA l k) k = _
        rw [clA_at ha]
      have no : ¬ (L ≤ (if true = true then a - a / 2 else a / 2) ∧ upTo m a k) → oneV m a k = 0 := fun g => if_neg (by rw [lateE, show m.level = L by rw [hm]]; exact g)
      have yes : (L ≤ (if true = true then a - a / 2 else a / 2) ∧ upTo m a k) → oneV m a k = 1 := fun g => if_pos (by rw [lateE, show m.level = L by rw [hm]]; exact g)
      refine drawX [0, 1, 2, 3, 4, 5, 6, 7, 8, 9, 10, 11, 12, 13, 14, 15, 16, 17, 18, 19, 20] [] mx (by kernel_rfl) ?_
      refine idx k rfl hlt ?_
      refine ldX (iv a) (hc 0 _ rfl) (.refl _ _) ?_
      refine callQB (fun u _ => c_r40has (l := true) (L := L) hab) (fun g => ?_) (fun g => ?_)
      · have g := of_decide_eq_true g
        refine idx k rfl hlt ?_
        refine ldX (iv a) (hc 0 _ rfl) (.refl _ _) ?_
        refine idx i rfl hi ?_
        refine ldX (iv ci) (hci' 0 _ rfl) (.refl _ _) ?_
        have ca : ∀ u, CallZ Tryz.prog 99 #[.bool true, iv a, iv (k : Int), iv ci, iv (i : Int)] u (fun v w' => v = .bool (decide (upTo m a k)) ∧ w' = u) := fun u => by
          have := c_r40ahead (w := u) (m := m) (c := a) (i := (k : Int))
          rw [hm, eci] at this ⊢
          exact this
        refine callQB (fun u _ => ca u) (fun g2 => ?_) (fun g2 => ?_)
        · have g2 := of_decide_eq_true g2
          refine arI (by omega) ?_
          refine arI (by omega) ?_
          refine next (k + 1) ⟨by rw [Int.natCast_add]; rfl, ?_, trivial⟩ ⟨by omega, rfl⟩ (by omega)
          rw [hs, yes ⟨g, g2⟩, ← Int.add_assoc]; rfl
        · have g2 := of_decide_eq_false g2
          refine arI (by omega) ?_
          refine next (k + 1) ⟨by rw [Int.natCast_add]; rfl, ?_, trivial⟩ ⟨by omega, rfl⟩ (by omega)
          rw [hs, no fun h => g2 h.2, Int.add_zero]; rfl
      · have g := of_decide_eq_false g
        refine arI (by omega) ?_
        refine next (k + 1) ⟨by rw [Int.natCast_add]; rfl, ?_, trivial⟩ ⟨by omega, rfl⟩ (by omega)
        rw [hs, no fun h => g h.1, Int.add_zero]; rfl
    · refine ret1 (iv (S + sumN (fun i => oneV m (clA l i) i) k)) rfl ⟨?_, rfl⟩
      rw [show k = l.length by omega]
  | false =>
    have lateE : m.late = false := by rw [hm]
    have base : ∃ S, S = toV m.late (befL m) l ∧ 0 ≤ S ∧ S ≤ 664 * 1073741825 := ⟨_, rfl, by
      have := toN_b (late := m.late) (L := befL m) (by rw [hm]; show 0 ≤ L - 1; omega) hcl (Nat.le_refl l.length)
      unfold toV
      omega⟩
    rw [show toV false (L - 1) l = toV m.late (befL m) l by rw [hm]; rfl]
    obtain ⟨S, hS, hS0, hS1⟩ := base
    rw [← hS]
    refine loop_rule (fun k : Nat => [(10, iv (k : Int)), (9, iv (S + sumN (fun i => oneV m (clA l i) i) k))]) (fun k u => k ≤ n ∧ w1 = u) (fun k _ => n - k) 0 ⟨rfl, congrArg (Value.int .i64) (by show S = S + 0; omega), trivial⟩ ⟨by omega, rfl⟩ rfl ?_
    rintro G k u ⟨hk, rfl⟩
    have ob := oneB k (by omega)
    refine len ?_
    refine cD (fun hlt => ?_) (fun hge => ?_)
    · have hlt : k < n := by omega
      obtain ⟨b, o, cs, a, hA, ha, -, -, hc, rfl, -⟩ := hl.at_ hlt
      injection hA with hA
      injection hA with hA hA'
      subst hA; subst hA'
      have hab := hcl a (List.mem_of_getElem? ha)
      have hs : sumN (fun i => oneV m (clA l i) i) (k + 1) = sumN (fun i => oneV m (clA l i) i) k + oneV m a k := by
        show _ + oneV m (clA l k) k = _
        rw [clA_at ha]
      have no : ¬ (L ≤ (if false = true then a - a / 2 else a / 2) ∧ upTo m a k) → oneV m a k = 0 := fun g => if_neg (by rw [lateE, show m.level = L by rw [hm]]; exact g)
      have yes : (L ≤ (if false = true then a - a / 2 else a / 2) ∧ upTo m a k) → oneV m a k = 1 := fun g => if_pos (by rw [lateE, show m.level = L by rw [hm]]; exact g)
      refine drawX [0, 1, 2, 3, 4, 5, 6, 7, 8, 9, 10, 11, 12, 13, 14, 15, 16, 17, 18, 19, 20] [] mx (by kernel_rfl) ?_
      refine idx k rfl hlt ?_
      refine ldX (iv a) (hc 0 _ rfl) (.refl _ _) ?_
      refine callQB (fun u _ => c_r40has (l := false) (L := L) hab) (fun g => ?_) (fun g => ?_)
      · have g := of_decide_eq_true g
        refine idx k rfl hlt ?_
        refine ldX (iv a) (hc 0 _ rfl) (.refl _ _) ?_
        refine idx i rfl hi ?_
        refine ldX (iv ci) (hci' 0 _ rfl) (.refl _ _) ?_
        have ca : ∀ u, CallZ Tryz.prog 99 #[.bool false, iv a, iv (k : Int), iv ci, iv (i : Int)] u (fun v w' => v = .bool (decide (upTo m a k)) ∧ w' = u) := fun u => by
          have := c_r40ahead (w := u) (m := m) (c := a) (i := (k : Int))
          rw [hm, eci] at this ⊢
          exact this
        refine callQB (fun u _ => ca u) (fun g2 => ?_) (fun g2 => ?_)
        · have g2 := of_decide_eq_true g2
          refine arI (by omega) ?_
          refine arI (by omega) ?_
          refine next (k + 1) ⟨by rw [Int.natCast_add]; rfl, ?_, trivial⟩ ⟨by omega, rfl⟩ (by omega)
          rw [hs, yes ⟨g, g2⟩, ← Int.add_assoc]; rfl
        · have g2 := of_decide_eq_false g2
          refine arI (by omega) ?_
          refine next (k + 1) ⟨by rw [Int.natCast_add]; rfl, ?_, trivial⟩ ⟨by omega, rfl⟩ (by omega)
          rw [hs, no fun h => g2 h.2, Int.add_zero]; rfl
      · have g := of_decide_eq_false g
        refine arI (by omega) ?_
        refine next (k + 1) ⟨by rw [Int.natCast_add]; rfl, ?_, trivial⟩ ⟨by omega, rfl⟩ (by omega)
        rw [hs, no fun h => g h.1, Int.add_zero]; rfl
    · refine ret1 (iv (S + sumN (fun i => oneV m (clA l i) i) k)) rfl ⟨?_, rfl⟩
      rw [show k = l.length by omega]
theorem c_r40level {m : Mk} {E : Int} (hl : SlR tInt D w A n l) (hn : n ≤ 664) (hcl : OkL l) (h : m.Of l) (hs : ownS m l = E) : CallZ Tryz.prog 71 #[iv E, .slice A n c, .bool m.late] w (fun v w' => v = iv m.level ∧ w' = w) := by
  have l1 := hl.len
  have hl0 : ∀ k, k < l.length → 0 ≤ clA l k := fun k hk => (clA_b hcl hk).1
  have hci := clA_b hcl h.nat.1
  rw [← h.cl] at hci
  have L1 := h.lit.lo
  have L2 := h.lit.hi
  have L3 : m.level ≤ 1073741824 := by split at L2 <;> omega
  obtain ⟨late, hlate⟩ : ∃ b, b = m.late := ⟨_, rfl⟩
  rw [← hlate]
  refine fn_rule (args := [iv E, .slice A n c, .bool late]) Tryz.func71 (by kernel_rfl) ?_
  refine loop2 (fun (a b : Int) => [(7, iv a), (8, iv b)]) (fun a b u => w = u ∧ 1 ≤ a ∧ a ≤ m.level ∧ m.level ≤ b ∧ b ≤ 1073741824) (fun a b _ => (b - a).toNat) 1 1073741824 ⟨rfl, rfl, trivial⟩ ⟨rfl, by omega, L1, L3, by omega⟩ rfl ?_
  rintro G a b u ⟨rfl, h1, h2, h3, h4⟩
  refine cD (fun hlt => ?_) (fun hge => ?_)
  · refine arI (by omega) ?_
    refine quoI (by omega) (by omega) (by omega) ?_
    cases late with
    | false =>
      refine call_of (c_r40to (late := false) (L := (a + b) / 2) hl hn hcl (by omega)) ?_
      rintro _ u2 ⟨rfl, rfl⟩
      have le := lev_early h hl0 hs hlate.symm (x := (a + b) / 2) (by omega)
      refine cD (fun g => ?_) (fun g => ?_)
      · have := le.1 g
        exact next2 a ((a + b) / 2) ⟨rfl, rfl, trivial⟩ ⟨rfl, by omega, by omega, by omega, by omega⟩ (by omega)
      · have : ¬ m.level ≤ (a + b) / 2 := fun k => g (le.2 k)
        refine arI (by omega) ?_
        exact next2 ((a + b) / 2 + 1) b ⟨rfl, rfl, trivial⟩ ⟨rfl, by omega, by omega, by omega, by omega⟩ (by omega)
    | true =>
      refine arI (by omega) ?_
      refine arI (by omega) ?_
      refine quoI (by omega) (by omega) (by omega) ?_
      refine call_of (c_r40to (late := true) (L := (a + b + 1) / 2) hl hn hcl (by omega)) ?_
      rintro _ u2 ⟨rfl, rfl⟩
      have le := lev_late h hl0 hs hlate.symm (x := (a + b + 1) / 2) (by omega)
      refine cD (fun g => ?_) (fun g => ?_)
      · have := le.1 g
        exact next2 ((a + b + 1) / 2) b ⟨rfl, rfl, trivial⟩ ⟨rfl, by omega, by omega, by omega, by omega⟩ (by omega)
      · have : ¬ (a + b + 1) / 2 ≤ m.level := fun k => g (le.2 k)
        refine arI (by omega) ?_
        exact next2 a ((a + b + 1) / 2 - 1) ⟨rfl, rfl, trivial⟩ ⟨rfl, by omega, by omega, by omega, by omega⟩ (by omega)
  · exact ret1 (iv a) rfl ⟨by rw [show a = m.level by omega], rfl⟩
end
end Go.Proofs.YtmjcaclakggafaaGreat

/- The reference's Threshold and Award; the law GarmentSpec. -/
namespace Go.Proofs.YtmjcaclakggafaaGreat
open Go Go.RowKit

section
variable {D : Nat → Prop} {w : World} {l : List Int} {A : Option Addr} {n c : Nat}
set_option maxRecDepth 4000 in
theorem c_r40Thr {E : Int} {m : Mk} (hl : SlR tInt D w A n l) (hm : MarkOf E l m) : CallZ Tryz.prog 40 #[iv E, .slice A n c] w (fun v w' => v = .tuple #[.agg (encM m).toArray, iv (tErr E l)] ∧ Ext w w') := by
  have l1 := hl.len
  refine fn_rule (args := [iv E, .slice A n c]) Tryz.func40 (by kernel_rfl) ?_
  refine alloc (fun b w1 h1 => ?_)
  have B : Blk w1 b 92 (encM Mk.none) := h1.blk
  have e1 := h1.at_
  have x1 := h1.ext
  refine call_of (c_r40check (E := E) (hl.ext x1)) ?_
  rintro _ w2 ⟨rfl, rfl⟩
  obtain ⟨e, hee⟩ : ∃ e, e = tErr E l := ⟨_, rfl⟩
  rw [← hee]
  unfold MarkOf at hm
  refine cN (fun g => ?_) (fun gE => ?_)
  · rw [if_neg fun k => g (by rw [hee]; exact k.1)] at hm
    refine bld [.bool false, iv 0, iv 0, iv 0] (by kernel_rfl) ?_
    refine stA (vs := [.bool false, iv 0, iv 0, iv 0]) B rfl (Nat.le_of_ble_eq_true rfl) (by simp [Value.oneCell']) (fun w3 b3 k3 z3 => ?_)
    have B3 : Blk w3 b 92 (encM Mk.none) := b3
    refine ret ?_
    refine resL _ (holds_agg (CellsAt.blk B3) rfl) ?_
    exact ⟨by rw [hm]; rfl, x1.then k3 fun b hb _ e => by omega⟩
  refine cE (fun g2 => ?_) (fun g2 => ?_)
  · rw [if_neg fun k => k.2 g2] at hm
    subst gE
    refine bld [.bool false, iv 0, iv 0, iv 0] (by kernel_rfl) ?_
    refine stA (vs := [.bool false, iv 0, iv 0, iv 0]) B rfl (Nat.le_of_ble_eq_true rfl) (by simp [Value.oneCell']) (fun w3 b3 k3 z3 => ?_)
    have B3 : Blk w3 b 92 (encM Mk.none) := b3
    refine ret ?_
    refine resL _ (holds_agg (CellsAt.blk B3) rfl) ?_
    exact ⟨by rw [hm]; rfl, x1.then k3 fun b hb _ e => by omega⟩
  have he : tErr E l = 0 := by rw [← hee]; exact gE
  rw [if_pos ⟨he, g2⟩] at hm
  obtain ⟨hof, hs⟩ := hm
  obtain ⟨hlen, hcl, -⟩ := tErr_no he
  have hl0 : ∀ k, k < l.length → 0 ≤ clA l k := fun k hk => (clA_b hcl hk).1
  have sl := hl.ext x1
  refine call_of (c_r40to (late := false) (L := 1073741824) sl (by omega) hcl (by omega)) ?_
  rintro _ w3 ⟨rfl, rfl⟩
  have hci := clA_b hcl hof.nat.1
  rw [← hof.cl] at hci
  have L1 := hof.lit.lo
  have L2 := hof.lit.hi
  have L3 : m.level ≤ 1073741824 := by split at L2 <;> omega
  have big : m.late = true ↔ toV false 1073741824 l < E := by
    constructor
    · intro h; exact late_big hof hl0 hs h (by omega)
    · intro h
      cases hb : m.late with
      | true => rfl
      | false =>
        have := (lev_early hof hl0 hs hb (x := 1073741824) (by omega)).2 L3
        omega
  refine cD (fun g3 => ?_) (fun g3 => ?_)
  · have hlate : m.late = true := big.2 g3
    have hL : m.late = true := hlate
    have cl := c_r40level (E := E) (c := c) sl (by omega) hcl hof hs
    rw [hL] at cl
    refine call_of cl ?_
    clear cl
    rintro _ w4 ⟨rfl, rfl⟩
    have nat := hof.nat
    refine loop_rule (fun k : Nat => [(9, iv (k : Int))]) (fun k u => k ≤ m.index.toNat ∧ w4 = u) (fun k _ => n - k) 0 ⟨rfl, trivial⟩ ⟨by omega, rfl⟩ rfl ?_
    rintro G k u ⟨hk, rfl⟩
    refine len ?_
    refine cD (fun hlt => ?_) (fun hge => by omega)
    have hlt : k < n := by omega
    obtain ⟨bx, ox, cs, a, rfl, ha, -, -, hc, rfl, -⟩ := sl.at_ hlt
    have hab := hcl a (List.mem_of_getElem? ha)
    have ea := clA_at ha
    have ne : (k : Int) ≠ m.index → k + 1 ≤ m.index.toNat := fun h => by omega
    refine idx k rfl hlt ?_
    refine ld (iv a) (hc 0 _ rfl) ?_
    refine callB (c_r40has (l := true) (L := m.level) hab) (fun g => ?_) (fun g => ?_)
    · have g := of_decide_eq_true g
      have lit : (⟨true, m.level, clA l k, (k : Int)⟩ : Mk).Lit := ⟨L1, by rw [ea]; exact g, by rw [ea]; exact hab.1⟩
      have of' : (⟨true, m.level, clA l k, (k : Int)⟩ : Mk).Of l := ⟨lit, ⟨by show (0 : Int) ≤ k; omega, by show (k : Int) < _; omega⟩, rfl⟩
      refine call_of (c_r40place (c := c) sl (by omega) hcl hlt lit) ?_
      rintro _ w5 ⟨rfl, rfl⟩
      refine cE (fun g3 => ?_) (fun g3 => ?_)
      · have mm := of'.uniq hof hl0 (by rw [g3, hs])
        refine idx k rfl hlt ?_
        refine ld (iv a) (hc 0 _ rfl) ?_
        refine bld [.bool true, iv m.level, iv a, iv (k : Int)] (by kernel_rfl) ?_
        refine stA (vs := [.bool true, iv m.level, iv a, iv (k : Int)]) B rfl (Nat.le_of_ble_eq_true rfl) (by simp [Value.oneCell']) (fun w6 b6 k6 z6 => ?_)
        have B6 : Blk w6 b 92 [.bool true, iv m.level, iv a, iv (k : Int)] := b6
        refine ret ?_
        refine resL _ (holds_agg (CellsAt.blk B6) rfl) ?_
        refine ⟨?_, x1.then k6 fun b hb _ e => by omega⟩
        rw [← mm, ea, gE]; rfl
      · refine arI (by omega) ?_
        refine next (k + 1) ⟨by rw [Int.natCast_add]; rfl, trivial⟩ ⟨ne fun h => g3 ?_, rfl⟩ (by omega)
        rw [← hs]
        have : (⟨true, m.level, clA l k, (k : Int)⟩ : Mk) = m := by
          refine Mk.ext_j lit hof.lit ?_ h ?_
          · show clA l k = m.claim
            rw [hof.cl, ← h]; rfl
          · show (if true = true then clA l k - m.level + 1 else m.level) = m.j
            unfold Mk.j
            rw [hL, hof.cl, ← h]; rfl
        rw [this]
    · have g := of_decide_eq_false g
      refine arI (by omega) ?_
      refine next (k + 1) ⟨by rw [Int.natCast_add]; rfl, trivial⟩ ⟨ne fun h => g ?_, rfl⟩ (by omega)
      have : a = m.claim := by rw [hof.cl, ← h]; exact ea.symm
      rw [hL] at L2
      rw [this]; exact L2
  · have hlate : m.late = false := by
      cases hb : m.late with
      | true => exact absurd (big.1 hb) g3
      | false => rfl
    have hL : m.late = false := hlate
    have cl := c_r40level (E := E) (c := c) sl (by omega) hcl hof hs
    rw [hL] at cl
    refine call_of cl ?_
    clear cl
    rintro _ w4 ⟨rfl, rfl⟩
    have nat := hof.nat
    refine loop_rule (fun k : Nat => [(9, iv (k : Int))]) (fun k u => k ≤ m.index.toNat ∧ w4 = u) (fun k _ => n - k) 0 ⟨rfl, trivial⟩ ⟨by omega, rfl⟩ rfl ?_
    rintro G k u ⟨hk, rfl⟩
    refine len ?_
    refine cD (fun hlt => ?_) (fun hge => by omega)
    have hlt : k < n := by omega
    obtain ⟨bx, ox, cs, a, rfl, ha, -, -, hc, rfl, -⟩ := sl.at_ hlt
    have hab := hcl a (List.mem_of_getElem? ha)
    have ea := clA_at ha
    have ne : (k : Int) ≠ m.index → k + 1 ≤ m.index.toNat := fun h => by omega
    refine idx k rfl hlt ?_
    refine ld (iv a) (hc 0 _ rfl) ?_
    refine callB (c_r40has (l := false) (L := m.level) hab) (fun g => ?_) (fun g => ?_)
    · have g := of_decide_eq_true g
      have lit : (⟨false, m.level, clA l k, (k : Int)⟩ : Mk).Lit := ⟨L1, by rw [ea]; exact g, by rw [ea]; exact hab.1⟩
      have of' : (⟨false, m.level, clA l k, (k : Int)⟩ : Mk).Of l := ⟨lit, ⟨by show (0 : Int) ≤ k; omega, by show (k : Int) < _; omega⟩, rfl⟩
      refine call_of (c_r40place (c := c) sl (by omega) hcl hlt lit) ?_
      rintro _ w5 ⟨rfl, rfl⟩
      refine cE (fun g3 => ?_) (fun g3 => ?_)
      · have mm := of'.uniq hof hl0 (by rw [g3, hs])
        refine idx k rfl hlt ?_
        refine ld (iv a) (hc 0 _ rfl) ?_
        refine bld [.bool false, iv m.level, iv a, iv (k : Int)] (by kernel_rfl) ?_
        refine stA (vs := [.bool false, iv m.level, iv a, iv (k : Int)]) B rfl (Nat.le_of_ble_eq_true rfl) (by simp [Value.oneCell']) (fun w6 b6 k6 z6 => ?_)
        have B6 : Blk w6 b 92 [.bool false, iv m.level, iv a, iv (k : Int)] := b6
        refine ret ?_
        refine resL _ (holds_agg (CellsAt.blk B6) rfl) ?_
        refine ⟨?_, x1.then k6 fun b hb _ e => by omega⟩
        rw [← mm, ea, gE]; rfl
      · refine arI (by omega) ?_
        refine next (k + 1) ⟨by rw [Int.natCast_add]; rfl, trivial⟩ ⟨ne fun h => g3 ?_, rfl⟩ (by omega)
        rw [← hs]
        have : (⟨false, m.level, clA l k, (k : Int)⟩ : Mk) = m := by
          refine Mk.ext_j lit hof.lit ?_ h ?_
          · show clA l k = m.claim
            rw [hof.cl, ← h]; rfl
          · show (if false = true then clA l k - m.level + 1 else m.level) = m.j
            unfold Mk.j
            rw [hL, hof.cl, ← h]; rfl
        rw [this]
    · have g := of_decide_eq_false g
      refine arI (by omega) ?_
      refine next (k + 1) ⟨by rw [Int.natCast_add]; rfl, trivial⟩ ⟨ne fun h => g ?_, rfl⟩ (by omega)
      have : a = m.claim := by rw [hof.cl, ← h]; exact ea.symm
      rw [hL] at L2
      rw [this]; exact L2
/-- What Award answers. -/
noncomputable def awX (E : Int) (l : List Int) (m : Mk) : List Int := if tErr E l = 0 then awL m l else []
set_option maxRecDepth 4000 in
theorem c_r40Award {E : Int} {m : Mk} (hl : SlR tInt D w A n l) (hm : MarkOf E l m) : CallZ Tryz.prog 39 #[iv E, .slice A n c] w (fun v w' => ∃ A' n' c', v = .tuple #[.slice A' n' c', iv (tErr E l)] ∧ SlR tInt (fun _ => True) w' A' n' (awX E l m) ∧ Ext w w') := by
  have l1 := hl.len
  refine fn_rule (args := [iv E, .slice A n c]) Tryz.func39 (by kernel_rfl) ?_
  refine call_of (c_r40Thr hl hm) ?_
  rintro _ w1 ⟨rfl, x1⟩
  obtain ⟨e, hee⟩ : ∃ e, e = tErr E l := ⟨_, rfl⟩
  rw [← hee]
  refine alloc (fun b w2 h2 => ?_)
  refine stA (vs := encM m) h2.blk rfl (Nat.le_of_ble_eq_true rfl) (by simp [Value.oneCell']) (fun w3 B k3 z3 => ?_)
  have B : Blk w3 b 92 (encM m) := B
  have e2 := h2.at_
  have x3 : Ext w w3 := (x1.trans h2.ext).then k3 fun b hb _ e => by have := x1.size; omega
  refine cN (fun g => ?_) (fun g => ?_)
  · exact ret2 (.slice none 0 0) (iv e) rfl rfl ⟨none, 0, 0, rfl, by unfold awX; rw [if_neg (by rw [← hee]; exact g)]; exact .nil, x3⟩
  have he : tErr E l = 0 := by rw [← hee]; exact g
  obtain ⟨hlen, hcl, -⟩ := tErr_no he
  have hvm := hm.vm he
  have aw := hm.awd he
  refine lit (n := 0) [] (fun g0 w4 h4 => ?_)
  have own0 : OwnF w3 w4 (some (ad g0 0)) 0 0 3 1 [] := .lit (.refl _ _) h4 rfl
  refine loop_rule (fun s : Nat × Option Addr × Nat => [(9, iv (s.1 : Int)), (8, .slice s.2.1 s.1 s.2.2)]) (fun s u => s.1 ≤ n ∧ OwnF w3 u s.2.1 s.1 s.2.2 3 1 ((awL m (l.take s.1)).map fun k => .int .i64 k)) (fun s _ => n - s.1) (0, some (ad g0 0), 0) ⟨rfl, rfl, trivial⟩ ⟨by omega, own0⟩ rfl ?_
  rintro G ⟨k, C, cb⟩ u ⟨hk, own⟩
  refine len ?_
  refine cD (fun hlt => ?_) (fun hge => ?_)
  · have hlt : k < n := by omega
    obtain ⟨b', o, cs, a, rfl, ha, -, -, hc, rfl, hi⟩ := (hl.ext x3).at_ hlt
    have hac := hcl a (List.mem_of_getElem? ha)
    refine drawP (.take 0 (.take 1 (.take 2 (.take 3 (.take 4 (.take 5 (.take 6 (.eff 7 (.eff 8 (.eff 9 (.take 10 .done))))))))))) [] (fun z => Ext w3 z) mx (by kernel_rfl) own.ext ?_
    refine ldAX (encM m) (.blk B) rfl (.refl _ _) ?_
    refine idx k rfl hlt ?_
    refine ldX (iv a) (hc 0 _ rfl) (.refl _ _) ?_
    refine call_of (c_r40own (m := m) (c := a) (i := (k : Int)) hvm hac) ?_
    rintro _ u1 ⟨rfl, y1⟩
    refine strS (own.ext.trans y1) ?_
    refine lit [iv (ownV m a k)] (fun g u2 hq => ?_)
    refine strS ((own.ext.trans y1).trans hq.ext) ?_
    refine appF (own.then (y1.trans hq.ext)) (hq.src (sz := 1) rfl) (by omega) (fun A' c' u3 o3 _ _ => ?_)
    refine strS o3.ext ?_
    refine arI (by omega) ?_
    refine next (k + 1, A', c') ⟨by rw [Int.natCast_add]; rfl, rfl, trivial⟩ ⟨by omega, ?_⟩ (by simp only; omega)
    rw [awL_snoc ha, List.map_append]; exact o3
  · have hkn : k = n := by omega
    subst hkn
    rw [List.take_of_length_le (by omega)] at own
    refine ret2 (.slice C k cb) (iv 0) rfl rfl ⟨C, k, cb, by rw [g], ?_, x3.trans own.ext⟩
    unfold awX
    rw [if_pos he]
    exact (own.is (awL_small aw hcl) (by omega)).more (by decide) fun _ _ _ => trivial
theorem c_gAwardX {E : Int} (hl : SlR tInt D w A n l) (hE : I64 E) : CallZ Tryz.prog 35 #[iv E, .slice A n c] w (fun v w' => ∃ m A' n' c', MarkOf E l m ∧ v = .tuple #[.slice A' n' c', iv (tErr E l)] ∧ SlR tInt (fun _ => True) w' A' n' (awX E l m) ∧ Ext w w') := by
  intro w0 hw
  refine (c_gAward (c := c) hl hE w0 hw).mono ?_
  rintro e w' ⟨v, hv, hR⟩
  refine ⟨v, hv, ?_⟩
  rcases hR with ⟨h, hv2, x⟩ | ⟨he, m, A', n', c', hm, hv2, own, hn⟩
  · exact ⟨Mk.none, none, 0, 0, by unfold MarkOf; rw [if_neg fun k => h k.1], hv2, by unfold awX; rw [if_neg h]; exact .nil, x⟩
  · obtain ⟨hlen, hcl, -⟩ := tErr_no he
    refine ⟨m, A', n', c', hm, by rw [he]; exact hv2, ?_, own.ext⟩
    unfold awX
    rw [if_pos he]
    exact (own.is (awL_small (hm.awd he) hcl) (by omega)).more (by decide) fun _ _ _ => trivial
end
end Go.Proofs.YtmjcaclakggafaaGreat
