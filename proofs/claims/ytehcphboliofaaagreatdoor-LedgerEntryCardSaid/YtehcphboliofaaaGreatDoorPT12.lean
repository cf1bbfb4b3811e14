/- Parts of the proof: Lm Ln Lo Lp Lq Lr Lt Lu. -/
import Derived.Test.YtehcphboliofaaaGreatDoorPT11
import Derived.Test.YtehcphboliofaaaGreatDoorPT4

/- Layer 1: the program's reader of values. -/
namespace Go.Proofs.YtehcphboliofaaaGreatDoor
open Go Go.RowKit

/-- An element: its kind and its number. -/
def tVK : Ty (Int × Int) where
  sz := 4
  rep _ _ cs x := (∃ s A n c, cs = [iv x.1, iv x.2, .string s, .slice A n c]) ∧ I64 x.2
  len := fun ⟨⟨_, _, _, _, h⟩, _⟩ => by rw [h]; rfl
  keep _ h := h
  more _ h := h
theorem flatVK {D D' : Nat → Prop} {w w' : World} : ∀ {l : List (Int × Int)} {cs : List Value}, FlatR tVK D w l cs → FlatR tVK D' w' l cs
  | [], _, h => h
  | _ :: _, _, ⟨c, r, h, h1, h2⟩ => ⟨c, r, h, h1, flatVK h2⟩
theorem flatVK_one {D : Nat → Prop} {w : World} : ∀ {l : List (Int × Int)} {cs : List Value}, FlatR tVK D w l cs → ∀ v ∈ cs, v.oneCell' = true
  | [], _, h => by subst h; intro v hv; cases hv
  | _ :: _, _, ⟨c, r, h, ⟨⟨s, A, n, c', h1⟩, _⟩, h2⟩ => by
    subst h; subst h1
    intro v hv
    rcases List.mem_append.1 hv with hv | hv
    · simp only [List.mem_cons, List.not_mem_nil, or_false] at hv
      rcases hv with rfl | rfl | rfl | rfl <;> rfl
    · exact flatVK_one h2 v hv
/-- A value at hand. -/
def RepV (w0 w : World) (v : Value) (x : VS) : Prop := ∃ s A n c, v = .agg #[iv x.k, iv x.n, .string s, .slice A n c] ∧ SlR tVK (fun b => w0.heap.size ≤ b) w A n x.l ∧ n ≤ c ∧ I64 x.n
section
variable {D : Nat → Prop} {w : World}
theorem RdA.kept {D' : Nat → Prop} {w' : World} {r : Nat} {b : List Nat} (h : RdA D w r b) (k : Kept D' w w') (h1 : ∀ g, g < w.heap.size → D g → D' g) (h2 : D' r) : RdA D w' r b := by
  obtain ⟨⟨A, n, c, B, hs, hc⟩, hne⟩ := h
  exact ⟨⟨A, n, c, B.kept k h2, hs.kept k h1, hc⟩, hne⟩
theorem RdA.more {D' : Nat → Prop} {r : Nat} {b : List Nat} (h : RdA D w r b) (h1 : ∀ g, g < w.heap.size → D g → D' g) (hne : ∀ g, D' g → g ≠ r) : RdA D' w r b := by
  obtain ⟨⟨A, n, c, B, hs, hc⟩, _⟩ := h
  exact ⟨⟨A, n, c, B, hs.more (by decide) h1, hc⟩, hne⟩
theorem RdA.bys {r : Nat} {b : List Nat} (h : RdA D w r b) : Bys b := let ⟨⟨_, _, _, _, hs, _⟩, _⟩ := h; hs.u8b
theorem RdA.len {r : Nat} {b : List Nat} (h : RdA D w r b) : b.length ≤ 140737488355328 := let ⟨⟨_, _, _, _, hs, _⟩, _⟩ := h; by rw [hs.len]; exact hs.le
theorem RdA.lt {r : Nat} {b : List Nat} (h : RdA D w r b) : r < w.heap.size := let ⟨⟨_, _, _, B, _, _⟩, _⟩ := h; B.lt
theorem own_at {w : World} {A : Option Addr} {n c g sz : Nat} {e : TypeId} {xs : List Value} (h : Own w (.slice A n c) e sz n xs) (hg : (Value.slice A n c).ownBlock = some g) : A = some (ad g 0) := by
  rcases h.form with ⟨e1, _⟩ | ⟨g', cap, e1, _⟩
  · rw [e1] at hg; cases hg
  · injection e1 with e1
    subst e1
    injection hg with hg
    rw [← hg]
theorem own_of {A : Option Addr} {n c g : Nat} (h : A = some (ad g 0)) : (Value.slice A n c).ownBlock = some g := by subst h; rfl
/-- What the reader of values does, so many lists deep at most. -/
def RVal (f : Nat) : Prop := ∀ {D : Nat → Prop} {w : World} {r : Nat} {b : List Nat}, f ≤ 16 → RdA D w r b → b.length ≤ 1000000000 → CallX Tryz.prog 93 #[ptr r, iv (((16 - f : Nat) : Nat) : Int)] w
    (fun v w' => ∃ x b', prsV f b = some (x, b') ∧ RepV w w' v x ∧ RdA D w' r b' ∧ Kept (fun g => g ≠ r) w w')
    (fun ch w' => prsV f b = none ∧ Kept (fun g => g ≠ r) w w' ∧ ch = cErr)
theorem u_step {F : List Nat → Option (VS × List Nat)} {n : Nat} {b bk r1 : List Nat} {l : List (Int × Int)} {x : VS} {N k : Nat} (hk : N - k = n + 1) (he : prsM F N b = (match prsM F (N - k) bk with | some (l', r') => some (l ++ l', r') | none => none)) (hx : F bk = some (x, r1)) :
    prsM F N b = (match prsM F (N - (k + 1)) r1 with | some (l', r') => some ((l ++ [(x.k, x.n)]) ++ l', r') | none => none) := by
  rw [he, hk, show N - (k + 1) = n by omega]
  conv => lhs; unfold prsM
  rw [hx]
  simp only
  cases prsM F n r1 with
  | none => rfl
  | some p => simp
theorem rvalue_step (f : Nat) (ih : ∀ g, f = g + 1 → RVal g) : RVal f := by
    intro D w r b hf h hbl
    refine fn_ruleX (args := [ptr r, iv (((16 - f : Nat) : Nat) : Int)]) Tryz.func93 (by kernel_rfl) ?_
    have h0 : RdA (fun g => D g ∧ g < w.heap.size) w r b := h.more (fun g hg hd => ⟨hd, hg⟩) fun g hd => h.ne g hd.1
    have back : ∀ {w' : World} {b' : List Nat}, RdA (fun g => D g ∧ g < w.heap.size) w' r b' → RdA D w' r b' := fun h' => h'.more (fun _ _ hd => hd.1) h.ne
    have hlr := h.lt
    refine alloc (fun b4 w1 h1 => ?_)
    have e1 := h1.at_
    have B1 : Blk w1 b4 113 [iv 0, iv 0, .string emp, .slice none 0 0] := h1.blk
    have x1 := h1.ext
    have s1 := x1.size
    refine call_ofX (c_rtake (k := 1) (h0.kept x1 (fun _ _ _ => trivial) trivial) (by omega)) ?_ ?_
    rotate_left
    · rintro _ _ ⟨hlt, rfl, rfl⟩
      have : b = [] := List.eq_nil_of_length_eq_zero (by omega)
      subst this
      exact fun _ _ => ⟨rfl, by unfold prsV; rfl, x1.any, rfl⟩
    rintro _ w2 ⟨hle, A, rfl, hs, h2, k2⟩
    cases b with
    | nil => simp at hle
    | cons c t =>
    have hs : SlR tU8 (fun g => D g ∧ g < w.heap.size) w2 A 1 [c] := hs
    have h2 : RdA (fun g => D g ∧ g < w.heap.size) w2 r t := h2
    obtain ⟨bx, o, cs, x, rfl, hx, -, -, hc, hcs⟩ := hs.at_ (k := 0) (by omega)
    obtain ⟨rfl, hc256⟩ := hcs
    have hxc : c = x := by simpa using hx
    subst hxc
    have B2 := B1.kept k2 (show b4 ≠ r by omega)
    refine idx 0 rfl (by omega) ?_
    refine ld (uv8 c) (hc 0 _ rfl) ?_
    refine cvI (by omega) ?_
    refine fldA ?_
    refine st B2 (Nat.le_of_ble_eq_true rfl) rfl (fun w3 B3 k3 _ => ?_)
    have B3 : Blk w3 b4 113 [iv (c : Int), iv 0, .string emp, .slice none 0 0] := B3
    have h3 : RdA (fun g => D g ∧ g < w.heap.size) w3 r t := h2.kept k3 (fun g _ hd => by omega) (by omega)
    have k03 : Kept (fun g => g ≠ r) w w3 := (x1.any.trans k2).then k3 fun i hi _ => by omega
    rw [List.length_cons] at hbl
    refine fldA ?_
    refine ld (iv (c : Int)) (B3.cell rfl) ?_
    refine cE (fun hc1 => ?_) (fun hc1 => ?_)
    · have hc1 : c = 1 := by omega
      subst hc1
      refine call_ofX (c_rnumber h3) ?_ ?_
      rotate_left
      · rintro _ w4 ⟨hn, k4, rfl⟩
        exact fun _ _ => ⟨rfl, by unfold prsV; rw [if_pos rfl, hn], k03.trans k4, rfl⟩
      rintro _ w4 ⟨u, b', hp, rfl, h4, k4⟩
      have hu := ((prsN_num h3.bys).1 hp).1
      refine call_of (c_vsigned hu) ?_
      rintro _ _ ⟨rfl, rfl⟩
      have B4 := B3.kept k4 (show b4 ≠ r by omega)
      refine fldA ?_
      refine st B4 (Nat.le_of_ble_eq_true rfl) rfl (fun w5 B5 k5 _ => ?_)
      have B5 : Blk w5 b4 113 [iv 1, iv (sgn u), .string emp, .slice none 0 0] := B5
      refine ldA [iv 1, iv (sgn u), .string emp, .slice none 0 0] (.blk B5) rfl ?_
      refine stA (vs := [iv 1, iv (sgn u), .string emp, .slice none 0 0]) B5 rfl (Nat.le_of_ble_eq_true rfl) (by simp [Value.oneCell']) (fun we Be ke ze => ?_)
      refine ret ?_
      refine resL (.agg ([iv 1, iv (sgn u), .string emp, .slice none 0 0]).toArray) (holds_agg (.blk Be) rfl) ?_
      have k5e := k5.trans ke
      exact ⟨⟨1, sgn u, []⟩, b', by unfold prsV; rw [if_pos rfl, hp], ⟨emp, none, 0, 0, rfl, .nil, Nat.le_refl _, sgn_I64 hu⟩, back (h4.kept k5e (fun g _ hd => by omega) (by omega)), (k03.trans k4).then k5e fun i hi _ => by omega⟩
    have hc1 : c ≠ 1 := by omega
    refine cE (fun hc2 => ?_) (fun hc2 => ?_)
    · have hc2 : c = 2 := by omega
      subst hc2
      refine call_ofX (c_rlength h3 h3.bys) ?_ ?_
      rotate_left
      · rintro _ w4 ⟨hn, k4, rfl⟩
        exact fun _ _ => ⟨rfl, by unfold prsV; rw [if_neg hc1, if_pos rfl, hn], k03.trans k4, rfl⟩
      rintro _ w4 ⟨n, b', hp, rfl, hn, h4, k4⟩
      have h4l := h4.len
      refine call_ofX (c_rtake (k := n) h4 (by omega)) ?_ ?_
      rotate_left
      · rintro _ _ ⟨hlt, rfl, rfl⟩
        omega
      rintro _ w5 ⟨_, A5, rfl, hs5, h5, k5⟩
      refine cvBS rfl hs5 ?_
      have B5 := B3.kept (k4.trans k5) (show b4 ≠ r by omega)
      refine fldA ?_
      refine st B5 (Nat.le_of_ble_eq_true rfl) rfl (fun w6 B6 k6 _ => ?_)
      have B6 : Blk w6 b4 113 [iv 2, iv 0, .string (strB (b'.take n)), .slice none 0 0] := B6
      refine ldA [iv 2, iv 0, .string (strB (b'.take n)), .slice none 0 0] (.blk B6) rfl ?_
      refine stA (vs := [iv 2, iv 0, .string (strB (b'.take n)), .slice none 0 0]) B6 rfl (Nat.le_of_ble_eq_true rfl) (by simp [Value.oneCell']) (fun we Be ke ze => ?_)
      refine ret ?_
      refine resL (.agg ([iv 2, iv 0, .string (strB (b'.take n)), .slice none 0 0]).toArray) (holds_agg (.blk Be) rfl) ?_
      have k6e := k6.trans ke
      exact ⟨⟨2, 0, []⟩, b'.drop n, by unfold prsV; rw [if_neg hc1, if_pos rfl, hp], ⟨_, none, 0, 0, rfl, .nil, Nat.le_refl _, (show I64 0 by unfold I64; omega)⟩, back (h5.kept k6e (fun g _ hd => by omega) (by omega)), (k03.trans (k4.trans k5)).then k6e fun i hi _ => by omega⟩
    have hc2 : c ≠ 2 := by omega
    refine cE (fun hc3 => ?_) (fun hc3 => ?_)
    rotate_left
    · refine call_ofX c_want ?_ ?_
      · rintro _ _ ⟨_, h, _⟩
        cases h
      · rintro _ _ ⟨_, rfl, rfl⟩
        exact fun _ _ => ⟨rfl, by unfold prsV; rw [if_neg hc1, if_neg hc2, if_neg (by omega)], k03, rfl⟩
    have hc3 : c = 3 := by omega
    subst hc3
    cases f with
    | zero =>
      refine cD (fun h => absurd h (by omega)) (fun _ => ?_)
      refine wnt (fun h => Bool.noConfusion h) (fun _ => ?_)
      exact fun _ _ => ⟨rfl, by unfold prsV; rw [if_neg hc1, if_neg hc2, if_pos rfl], k03, rfl⟩
    | succ f =>
    refine cD (fun _ => ?_) (fun h => absurd (show ((16 - (f + 1) : Nat) : Int) < 16 by omega) h)
    refine wnt (fun _ => ?_) (fun h => Bool.noConfusion h)
    refine call_ofX (c_rlength h3 h3.bys) ?_ ?_
    rotate_left
    · rintro _ w4 ⟨hn, k4, rfl⟩
      exact fun _ _ => ⟨rfl, by unfold prsV; rw [if_neg hc1, if_neg hc2, if_pos rfl]; simp only; rw [hn], k03.trans k4, rfl⟩
    rintro _ w4 ⟨N, b', hp, rfl, hN, h4, k4⟩
    have hpl := prsL_len hp
    have B4 := B3.kept k4 (show b4 ≠ r by omega)
    have B4 : Blk w4 b4 113 [iv 3, iv 0, .string emp, .slice none 0 0] := B4
    have l4 := B4.lt
    have s4 := (k03.trans k4).size
    have pv : prsV (f + 1) (3 :: t) = (match prsM (prsV f) N b' with | some (l, r'') => some (⟨3, 0, l⟩, r'') | none => none) := by
      conv => lhs; unfold prsV
      rw [if_neg hc1, if_neg hc2, if_pos rfl]
      simp only
      rw [hp]
      rfl
    refine loop4 (fun (k : Nat) (A : Option Addr) (m d : Nat) => [(37, iv (k : Int))]) (fun k A m d u => k ≤ N ∧ Blk u b4 113 [iv 3, iv 0, .string emp, .slice A m d] ∧ m = k ∧ ∃ l cs bk, Own u (.slice A m d) 113 4 m cs ∧ FlatR tVK D u l cs ∧ l.length = m ∧ (∀ g, A = some (ad g 0) → w4.heap.size ≤ g) ∧ RdA (fun g => D g ∧ g < w.heap.size) u r bk ∧ bk.length ≤ 1000000000 ∧ Kept (fun g => g ≠ r ∧ g ≠ b4) w4 u ∧ prsM (prsV f) N b' = (match prsM (prsV f) (N - k) bk with | some (l', r') => some (l ++ l', r') | none => none)) (fun k _ _ _ _ => N - k) 0 none 0 0 ⟨rfl, trivial⟩
      ⟨by omega, B4, rfl, [], [], b', Own.nil _ _ _, rfl, rfl, (fun g hg => by cases hg), h4, by omega, .refl _ _, by rw [Nat.sub_zero]; cases prsM (prsV f) N b' <;> rfl⟩ rfl ?_
    rintro G k A m d u ⟨hk, Bu, rfl, l, cs, bk, own, hfl, hl, hA, hu, hbk, ku, he⟩
    have su := ku.size
    refine cD (fun hlt => ?_) (fun hge => ?_)
    · refine drawP (.take 0 (.take 1 (.take 2 (.take 3 (.take 4 (.eff 5 (.eff 6 (.eff 7 (.take 8 (.bar (.eff 9 .done))))))))))) [9] (fun y => Kept (fun g => g ≠ r ∧ A ≠ some (ad g 0)) u y) mx (by kernel_rfl) (.refl _ _) ?_
      have hb4 : b4 ≠ r ∧ A ≠ some (ad b4 0) := ⟨by omega, fun e => by have := hA b4 e; omega⟩
      refine fldA ?_
      refine ldK (.slice A m d) (Bu.cell rfl) hb4 (.refl _ _) ?_
      refine arI (by omega) ?_
      have hd : ((16 - (f + 1) : Nat) : Int) + 1 = ((16 - f : Nat) : Int) := by omega
      have hc := ih f rfl (by omega) hu hbk
      rw [← hd] at hc
      obtain ⟨n', hn'⟩ : ∃ n', N - m = n' + 1 := ⟨N - m - 1, by omega⟩
      refine call_ofX hc ?_ ?_
      rotate_left
      · rintro _ w5 ⟨hn, k5, rfl⟩
        refine fun _ _ => ⟨rfl, ?_, (k03.trans k4).then (ku.then k5 fun i hi h => h.1) fun i hi h => ⟨h, by omega⟩, rfl⟩
        rw [pv, he, hn']
        have : prsM (prsV f) (n' + 1) bk = none := by unfold prsM; rw [hn]
        rw [this]
      rintro _ w5 ⟨x, r1, hx, ⟨s5, A5, n5, c5, rfl, hs5, hc5, hI5⟩, h5, k5⟩
      have hAr : ∀ g, A = some (ad g 0) → g ≠ r := fun g e => by have := hA g e; omega
      have own5 := own.kept k5 (fun g hg => hAr g (own_at own hg))
      refine strS (k5.weak fun i _ h => h.1) ?_
      refine lit [.agg #[iv x.k, iv x.n, .string s5, .slice A5 n5 c5]] (fun q w6 h6 => ?_)
      have B6 : Blk w6 q 113 [iv x.k, iv x.n, .string s5, .slice A5 n5 c5] := h6.blk
      have own6 := own5.ext h6.ext
      have s6 := (k5.ext h6.ext).size
      have Bu6 := (Bu.kept k5 (show b4 ≠ r by omega)).ext h6.ext
      have ku6 : Kept (fun g => g ≠ r ∧ g ≠ b4) w4 w6 := (ku.then k5 fun i _ h => h.1).ext h6.ext
      refine strS ((k5.ext h6.ext).weak fun i _ h => h.1) ?_
      refine app own6 (⟨rfl, fun _ => ⟨q, 0, rfl, .blk B6⟩⟩ : Src w6 (some (ad q 0)) 1 4 [iv x.k, iv x.n, .string s5, .slice A5 n5 c5]) (by simp [Value.oneCell']) rfl (by omega) (by omega) (by omega) (fun v' w7 ha => ?_)
      have hown7 := ha.own
      rcases hown7.form with ⟨_, e0⟩ | ⟨g7, c7, rfl, hc7⟩
      · omega
      have k7 := ha.kept
      have hg7 : w4.heap.size ≤ g7 := by
        rcases ha.at_ with e | e
        · exact hA g7 (own_at own6 (e.symm.trans rfl))
        · have e : g7 = w6.heap.size := Option.some.inj e
          omega
      have k7u : Kept (fun g => g ≠ r ∧ A ≠ some (ad g 0)) u w7 := ((k5.ext h6.ext).weak fun i _ h => h.1).then k7 fun i _ h e => h.2 (own_at own6 e)
      refine strS k7u ?_
      refine fldA ?_
      refine barS (fun _ => True) trivial ?_
      have Bu7 := Bu6.kept k7 (fun e => by have := hA b4 (own_at own6 e); omega)
      refine st Bu7 (Nat.le_of_ble_eq_true rfl) rfl (fun w8 B8 k8 _ => ?_)
      have k78 : Kept (fun g => g ≠ b4 ∧ A ≠ some (ad g 0)) w6 w8 := (k7.weak fun i _ h e => h.2 (own_at own6 e)).then k8 fun i _ h => h.1
      refine strS trivial ?_
      refine arI (n := (m : Int) + 1) (by omega) ?_
      refine next4 (m + 1) (some (ad g7 0)) (m + 1) c7 ⟨by rw [Int.natCast_add]; rfl, trivial⟩ ⟨by omega, B8, rfl, l ++ [(x.k, x.n)], cs ++ [iv x.k, iv x.n, .string s5, .slice A5 n5 c5], r1, hown7.kept k8 (fun g hg => by have e := own_at hown7 hg; injection e with e; injection e with e; show g ≠ b4; omega), (flatVK hfl).app (FlatR.one ⟨⟨_, _, _, _, rfl⟩, hI5⟩), by simp [hl], fun g hg => by injection hg with hg; injection hg with hg; omega, ?_, ?_, ?_, u_step hn' he hx⟩ (by omega)
      · exact (h5.kept h6.ext (fun _ _ _ => trivial) trivial).kept k78 (fun g _ hd => ⟨by omega, fun e => by have := hA g e; omega⟩) ⟨by omega, fun e => by have := hA r e; omega⟩
      · have := prsV_len _ _ _ _ hx; omega
      · exact ku6.then k78 fun i hi h => ⟨h.2, fun e => by have := hA i e; omega⟩
    · have hkN : m = N := by omega
      subst hkN
      rw [Nat.sub_self] at he
      have he : prsM (prsV f) m b' = some (l, bk) := by rw [he]; unfold prsM; simp
      refine ldA [iv 3, iv 0, .string emp, .slice A m d] (.blk Bu) rfl ?_
      refine stA (vs := [iv 3, iv 0, .string emp, .slice A m d]) Bu rfl (Nat.le_of_ble_eq_true rfl) (by simp [Value.oneCell']) (fun we Be ke ze => ?_)
      refine ret ?_
      refine resL (.agg ([iv 3, iv 0, .string emp, .slice A m d]).toArray) (holds_agg (.blk Be) rfl) ?_
      have hown7 := own.kept ke (fun g hg => by have := hA g (own_at own hg); omega)
      refine ⟨⟨3, 0, l⟩, bk, by rw [pv, he], ⟨emp, A, m, d, rfl, ?_, ?_, (show I64 0 by unfold I64; omega)⟩, ?_, ?_⟩
      · have hs1 := hown7.rd (a := tVK) (D := fun b => w.heap.size ≤ b) (flatVK hfl) hl.symm (by omega) fun g hg => by have := hA g hg; omega
        exact hs1
      · exact own.form.elim (fun h => by injection h.1 with _ h1 h2; omega) fun ⟨_, _, h, h2⟩ => by injection h with _ _ h3; omega
      · exact back (hu.kept ke (fun g _ hd => by omega) (by omega))
      · exact (k03.trans k4).then (ku.then ke fun i hi h => h.2) fun i hi h => ⟨h, by omega⟩
theorem c_rvalue (f : Nat) : RVal f := by
  induction f with
  | zero => exact rvalue_step 0 fun g h => by omega
  | succ f ih =>
    refine rvalue_step (f + 1) fun g h => ?_
    have : f = g := by omega
    subst this
    exact @ih
end
end Go.Proofs.YtehcphboliofaaaGreatDoor

/- Layer 1: the program's Decode. -/
namespace Go.Proofs.YtehcphboliofaaaGreatDoor
open Go Go.RowKit

abbrev zeroV : List Value := [iv 0, iv 0, .string emp, .slice none 0 0]
section
variable {D : Nat → Prop} {w : World}
theorem c_drec {p q : Nat} {x : Int} {cs : List Value} {w0 : World} (hp : Blk (z w0) p 113 cs) (hcs : cs.length = 4) (hq : Blk (z w0) q 29 [iv x]) (hpq : p ≠ q) :
    CallsDIn Fence.wide 0 Tryz.prog 92 #[ptr p, ptr q] (.panicking cErr) w0 (fun e' u' w' => e' = .returned (.tuple #[]) ∧ u' = .panicking [{ v := .iface 29 (iv 10), recovered := true }] ∧ Blk (z w') p 113 zeroV ∧ Blk (z w') q 29 [iv 10] ∧ Kept (fun b => b ≠ p ∧ b ≠ q) (z w0) (z w')) := by
  refine rec_rule (args := [ptr p, ptr q]) (d0 := 3) (d1 := 2) (v := .iface 29 (iv 10)) (u' := .panicking [{ v := .iface 29 (iv 10), recovered := true }]) Tryz.func92 rfl (by kernel_rfl) ?_ w0 ?_
  · intro c₀ cs h
    simp [recoverD, h]
  · refine neNil u20 ?_
    refine drawP (.take 0 (.take 1 (.alt 2 (.eff 3 (.eff 4 .done)) (.eff 3 (.eff 2 (.eff 4 .done)))))) [] (fun _ => True) mx (by kernel_rfl) trivial ?_
    refine bld zeroV (by kernel_rfl) ?_
    have hz : cs.take 0 ++ zeroV ++ cs.drop (0 + zeroV.length) = zeroV := by
      rw [List.drop_of_length_le (by rw [hcs]; exact Nat.le_refl _), List.append_nil]; rfl
    constructor
    · refine tAs0 rfl (by kernel_rfl) ?_
      refine strS trivial ?_
      refine stA (vs := zeroV) hp rfl (by rw [hcs]; exact Nat.le_refl _) (by simp [Value.oneCell']) (fun w2 B2 k2 _ => ?_)
      refine strS trivial ?_
      rw [hz] at B2
      refine st1 (hq.kept k2 (show q ≠ p from fun e => hpq e.symm)) rfl (fun w3 B3 k3 => ?_)
      refine strS trivial ?_
      refine ⟨rfl, fun tmps w4 _ hw4 => ⟨.tuple #[], results_none rfl _ _ _, rfl, rfl, ?_⟩⟩
      subst hw4
      exact ⟨B2.kept k3 hpq, B3, (k2.weak fun i _ h => h.1).then k3 fun i _ h => h.2⟩
    · refine stA (vs := zeroV) hp rfl (by rw [hcs]; exact Nat.le_refl _) (by simp [Value.oneCell']) (fun w2 B2 k2 _ => ?_)
      refine strS trivial ?_
      refine tAs0 rfl (by kernel_rfl) ?_
      refine strS trivial ?_
      rw [hz] at B2
      refine st1 (hq.kept k2 (show q ≠ p from fun e => hpq e.symm)) rfl (fun w3 B3 k3 => ?_)
      refine strS trivial ?_
      refine ⟨rfl, fun tmps w4 _ hw4 => ⟨.tuple #[], results_none rfl _ _ _, rfl, rfl, ?_⟩⟩
      subst hw4
      exact ⟨B2.kept k3 hpq, B3, (k2.weak fun i _ h => h.1).then k3 fun i _ h => h.2⟩
theorem c_didle {p q : Nat} {w0 : World} :
    CallsDIn Fence.wide 0 Tryz.prog 92 #[ptr p, ptr q] .returning w0 (fun e' u' w' => e' = .returned (.tuple #[]) ∧ u' = .returning ∧ z w' = z w0) := by
  refine rec_rule (args := [ptr p, ptr q]) (d0 := 3) (d1 := 2) (v := .nilIface) (u' := .returning) Tryz.func92 rfl (by kernel_rfl) ?_ w0 ?_
  · intro c₀ cs h
    simp [recoverD, h]
  · refine neNil0 u20 ?_
    exact ⟨rfl, fun tmps w3 _ hw3 => ⟨.tuple #[], results_none rfl _ _ _, rfl, rfl, hw3⟩⟩
theorem invD {p q : Nat} (w0 : World) : (invoke (.fn (.func 92) #[ptr p, ptr q]) #[]).run Tryz.prog w0 = .ok (.enter 92 #[ptr p, ptr q]) w0 := (inferInstance : Enters Tryz.prog 92).h #[ptr p, ptr q] w0
theorem dEnd {p q : Nat} {x : Int} {cs : List Value} {F : Fr} {R : VK} {tmps : Array Value} {w0 : World} (hF : ∀ t, tmps.getD t undef = F t) (h2 : F 2 = ptr p) (h3 : F 3 = ptr q) (hp : Blk (z w0) p 113 cs) (hcs : cs.length = 4) (hb : Blk (z w0) q 29 [iv x]) (k : R (.tuple #[.agg cs.toArray, iv x]) (z w0)) :
    LeavesInM Fence.wide 0 Tryz.prog Tryz.f54 tmps (R2 R) [] .returning w0 :=
  leaves_soundG (a := { tmps := tmps, defers := [] }) (R := R) (fun v _ h => ⟨v, rfl, h⟩) hF [] w0 (z w0) rfl (by
    show ResLP _ _ (F 2) _ _
    rw [h2]
    refine resL _ (holds_agg (.blk hp) hcs) ?_
    show ResLP _ _ (F 3) _ _
    rw [h3]
    exact resL _ (holds_cell (hb.cell rfl)) k)
theorem ddoor_idle {p q : Nat} {x : Int} {cs : List Value} {F : Fr} {R : VK} {w : World} (h2 : F 2 = ptr p) (h3 : F 3 = ptr q) (hp : Blk w p 113 cs) (hcs : cs.length = 4) (hb : Blk w q 29 [iv x]) (k : R (.tuple #[.agg cs.toArray, iv x]) w) :
    KendL Tryz.prog Tryz.f54 (R2 R) .normal F [{ target := .fn (.func 92) #[ptr p, ptr q], args := #[] }] w := by
  intro tmps w0 hF hw
  subst hw
  refine ⟨by simp, .inr ⟨(fun h => Bool.noConfusion h), _, _, 92, #[ptr p, ptr q], rfl, invD w0, fun _ _ => trivial, c_didle.mono ?_⟩⟩
  rintro e u w1 ⟨rfl, rfl, hz⟩
  show LeavesInM _ _ _ _ _ _ [] .returning w1
  exact dEnd hF h2 h3 (by rw [hz]; exact hp) hcs (by rw [hz]; exact hb) (by rw [hz]; exact k)
theorem ddoor_pan {p q : Nat} {x : Int} {cs : List Value} {F : Fr} {R : VK} {w : World} (h2 : F 2 = ptr p) (h3 : F 3 = ptr q) (hp : Blk w p 113 cs) (hcs : cs.length = 4) (hb : Blk w q 29 [iv x]) (hpq : p ≠ q) (k : ∀ w', Kept (fun b => b ≠ p ∧ b ≠ q) w w' → R (.tuple #[.agg zeroV.toArray, iv 10]) w') :
    KendL Tryz.prog Tryz.f54 (R2 R) (.panic cErr) F [{ target := .fn (.func 92) #[ptr p, ptr q], args := #[] }] w := by
  intro tmps w0 hF hw
  subst hw
  refine ⟨by simp, .inr ⟨(fun h => Bool.noConfusion h), _, _, 92, #[ptr p, ptr q], rfl, invD w0, fun _ _ => trivial, (c_drec hp hcs hb hpq).mono ?_⟩⟩
  rintro e' u w1 ⟨rfl, rfl, hp1, hb1, hk⟩
  show LeavesInM _ _ _ _ _ _ [] .returning w1
  exact dEnd hF h2 h3 hp1 rfl hb1 (k _ hk)
/-- What Decode answers. -/
def DecR (w w' : World) (b : List Nat) (v : Value) : Prop := ∃ V e, v = .tuple #[V, iv e] ∧ ((∃ x, prsV 16 b = some (x, []) ∧ e = 0 ∧ RepV w w' V x) ∨ ((∀ x, prsV 16 b ≠ some (x, [])) ∧ e = 10 ∧ V = .agg zeroV.toArray))
theorem RepV.base {v0 w0 u : World} {v : Value} {x : VS} (h : RepV w0 u v x) (k : v0.heap.size ≤ w0.heap.size) : RepV v0 u v x := let ⟨s, A, n, c, h1, h2, h3, h4⟩ := h; ⟨s, A, n, c, h1, h2.more (by decide) fun _ _ h => Nat.le_trans k h, h3, h4⟩
theorem RepV.kept {D' : Nat → Prop} {w0 u u' : World} {v : Value} {x : VS} (h : RepV w0 u v x) (k : Kept D' u u') (hd : ∀ b, w0.heap.size ≤ b → D' b) : RepV w0 u' v x := let ⟨s, A, n, c, h1, h2, h3, h4⟩ := h; ⟨s, A, n, c, h1, h2.kept k fun b _ h => hd b h, h3, h4⟩
theorem c_vDecode {A : Option Addr} {n c : Nat} {b : List Nat} (hs : SlR tU8 D w A n b) (hc : n ≤ c) (hbl : b.length ≤ 1000000000) : CallZ Tryz.prog 54 #[.slice A n c] w (fun v w' => DecR w w' b v ∧ Ext w w') := by
  have hs := hs.more (D' := fun b => b < w.heap.size) (by decide) fun b hb _ => hb
  intro w00 hw00
  refine fn_ruleD2 (args := [.slice A n c]) (d0 := 5) (c0 := 2) (c1 := 3) (w := w) Tryz.func54 rfl (by kernel_rfl) ?_ w00 hw00
  refine alloc (fun p w1 h1 => ?_)
  refine alloc (fun q w2 h2 => ?_)
  refine ⟨rfl, ?_⟩
  have ep := h1.at_
  have eq := h2.at_
  have s1 := h1.ext.size
  have x2 := h1.ext.trans h2.ext
  have s2 := x2.size
  have P2 : Blk w2 p 113 zeroV := h1.blk.ext h2.ext
  have Q2 : Blk w2 q 29 [iv 0] := h2.blk
  have hpl := h1.blk.lt
  have hql := Q2.lt
  refine bld [.slice A n c] (by kernel_rfl) ?_
  refine box (fun r w3 h3 => ?_)
  have er := h3.at_
  have B3 : Blk w3 r 163 [.slice A n c] := h3.blk
  have x3 := h3.ext
  have s3 := x3.size
  have P3 := P2.ext x3
  have Q3 := Q2.ext x3
  have fin : ∀ {w5 : World}, Kept (fun g => g ≠ r) w3 w5 → ∀ w', Kept (fun b => b ≠ p ∧ b ≠ q) w5 w' → Ext w w' := fun k5 w' k => ((x2.trans x3).then k5 fun b hb _ => by omega).then k fun b hb _ => by omega
  have hrd : RdA (fun b => b < w.heap.size) w3 r b := ⟨⟨A, n, c, B3, hs.ext (x2.trans x3), hc⟩, fun g hg => by omega⟩
  refine call_ofX (c_rvalue 16 (Nat.le_refl _) hrd hbl) ?_ ?_
  rotate_left
  · rintro _ w4 ⟨hn, k4, rfl⟩
    exact fun F' hF' => ddoor_pan (R := fun v w' => DecR w w' b v ∧ Ext w w') (hF' 2 rfl) (hF' 3 rfl) (P3.kept k4 (show p ≠ r by omega)) rfl (Q3.kept k4 (show q ≠ r by omega)) (by omega) fun w' k => ⟨⟨_, _, rfl, .inr ⟨(fun x h => by rw [hn] at h; cases h), rfl, rfl⟩⟩, fin k4 w' k⟩
  rintro _ w4 ⟨x, b', hx, ⟨s, A4, n4, c4, rfl, hs4, hc4, hI⟩, h4, k4⟩
  have P4 := P3.kept k4 (show p ≠ r by omega)
  have Q4 := Q3.kept k4 (show q ≠ r by omega)
  refine stA (vs := [iv x.k, iv x.n, .string s, .slice A4 n4 c4]) P4 rfl (Nat.le_of_ble_eq_true rfl) (by simp [Value.oneCell']) (fun w5 P5 k5 _ => ?_)
  have P5 : Blk w5 p 113 [iv x.k, iv x.n, .string s, .slice A4 n4 c4] := P5
  have Q5 := Q4.kept k5 (show q ≠ p by omega)
  obtain ⟨⟨A5, n5, c5, B5, hs5, hc5⟩, hne⟩ := h4.kept k5 (fun g _ hg => by omega) (show r ≠ p by omega)
  have hl5 := hs5.len
  refine fldA ?_
  refine ld (.slice A5 n5 c5) (B5.cell rfl) ?_
  refine len ?_
  refine cE (fun h0 => ?_) (fun h0 => ?_)
  rotate_left
  · refine wnt (fun h => Bool.noConfusion h) (fun _ => ?_)
    have k35 : Kept (fun g => g ≠ r ∧ g ≠ p) w3 w5 := (k4.weak fun i _ h => h.1).then k5 fun i _ h => h.2
    refine fun F' hF' => ddoor_pan (R := fun v w' => DecR w w' b v ∧ Ext w w') (hF' 2 rfl) (hF' 3 rfl) P5 rfl Q5 (by omega) fun w' k => ⟨⟨_, _, rfl, .inr ⟨(fun y h => ?_), rfl, rfl⟩⟩, ?_⟩
    · rw [hx] at h
      simp only [Option.some.injEq, Prod.mk.injEq] at h
      rw [h.2, List.length_nil] at hl5
      omega
    · exact ((x2.trans x3).then k35 fun b hb _ => by omega).then k fun b hb _ => by omega
  refine wnt (fun _ => ?_) (fun h => Bool.noConfusion h)
  have hn5 : n5 = 0 := by omega
  have hb' : b' = [] := List.eq_nil_of_length_eq_zero (by omega)
  subst hb'
  refine ldA [iv x.k, iv x.n, .string s, .slice A4 n4 c4] (.blk P5) rfl ?_
  refine stA (vs := [iv x.k, iv x.n, .string s, .slice A4 n4 c4]) P5 rfl (Nat.le_of_ble_eq_true rfl) (by simp [Value.oneCell']) (fun w6 P6 k6 _ => ?_)
  have P6 : Blk w6 p 113 [iv x.k, iv x.n, .string s, .slice A4 n4 c4] := P6
  refine st1 (Q5.kept k6 (show q ≠ p by omega)) rfl (fun w7 Q7 k7 => ?_)
  have k47 : Kept (fun g => g ≠ p ∧ g ≠ q) w4 w7 := ((k5.trans k6).weak fun i _ h => h.1).then k7 fun i _ h => h.2
  refine ddoor_idle (R := fun v w' => DecR w w' b v ∧ Ext w w') rfl rfl (P6.kept k7 (show p ≠ q by omega)) rfl Q7 ⟨⟨_, _, rfl, .inl ⟨x, hx, rfl, ?_⟩⟩, ?_⟩
  · have h := (show RepV w3 w4 (.agg #[iv x.k, iv x.n, .string s, .slice A4 n4 c4]) x from ⟨s, A4, n4, c4, rfl, hs4, hc4, hI⟩)
    exact (h.kept k47 fun g hg => by omega).base (by omega)
  · exact ((x2.trans x3).then k4 fun b hb _ => by omega).then k47 fun b hb _ => by omega
end
end Go.Proofs.YtehcphboliofaaaGreatDoor

/- Layer 56: the reading of a record. -/
namespace Go.Proofs.YtehcphboliofaaaGreatDoor
open Go Go.RowKit Classical

/-- The posting with a text. -/
noncomputable def rdT (b : List Nat) : Option Post := if h : ∃ p : Post, b = txt p ∧ ∀ n ∈ p.ns, I64 n then some h.choose else none
theorem rdT_some {b : List Nat} {p : Post} : rdT b = some p ↔ b = txt p ∧ ∀ n ∈ p.ns, I64 n := by
  unfold rdT
  constructor
  · intro h
    split at h
    · rename_i hp
      have := hp.choose_spec
      injection h with h
      rw [h] at this
      exact this
    · cases h
  · intro h
    have hp : ∃ p : Post, b = txt p ∧ ∀ n ∈ p.ns, I64 n := ⟨p, h⟩
    rw [dif_pos hp]
    have := hp.choose_spec
    exact congrArg some (txt_inj (this.1.symm.trans h.1))
theorem rdT_none {b : List Nat} : rdT b = none ↔ ∀ p : Post, ¬ (b = txt p ∧ ∀ n ∈ p.ns, I64 n) := by
  constructor
  · intro h p hp
    rw [rdT_some.2 hp] at h; cases h
  · intro h
    cases he : rdT b with
    | none => rfl
    | some p => exact absurd (rdT_some.1 he) (h p)
section
variable {D : Nat → Prop} {w : World}
theorem c_idxV {A : Option Addr} {n c : Nat} {l : List (Int × Int)} (hs : SlR tVK D w A n l) : CallZ Tryz.prog 95 #[.slice A n c, .func (.func 56) #[] #[]] w (fun v w' => ∃ i : Int, v = iv i ∧ (0 ≤ i ↔ ¬ AllI l) ∧ Ext w w') := by
  refine fn_rule (args := [.slice A n c, .func (.func 56) #[] #[]]) Tryz.func95 (by kernel_rfl) ?_
  have hlen := hs.len
  have hle := hs.le
  refine len ?_
  refine loop_rule (fun k : Nat => [(8, iv (k : Int))]) (fun k u => k ≤ n ∧ Ext w u ∧ AllI (l.take k)) (fun k _ => n - k) 0 ⟨rfl, trivial⟩ ⟨by omega, .refl _ _, fun x hx => by simp at hx⟩ rfl ?_
  rintro G k u ⟨hk, xu, ha⟩
  refine cD (fun hlt => ?_) (fun hge => ?_)
  · obtain ⟨bx, o, cs, x, rfl, hx, -, -, hc, ⟨⟨s, A2, n2, c2, rfl⟩, hI⟩⟩ := (hs.ext xu).at_ (k := k) (by omega)
    refine idx k rfl (by omega) ?_
    refine ldA [iv x.1, iv x.2, .string s, .slice A2 n2 c2] hc rfl ?_
    have hcl : CallZ Tryz.prog 56 #[.agg #[iv x.1, iv x.2, .string s, .slice A2 n2 c2]] u (fun v w' => v = .bool (decide (x.1 ≠ 1)) ∧ Ext u w') := by
      refine fn_rule (args := [.agg #[iv x.1, iv x.2, .string s, .slice A2 n2 c2]]) Tryz.func56 (by kernel_rfl) ?_
      refine box (fun g w1 h1 => ?_)
      have B : Blk w1 g 113 [iv x.1, iv x.2, .string s, .slice A2 n2 c2] := h1.blk
      refine fldA ?_
      refine ld (iv x.1) (B.cell rfl) ?_
      refine cN (fun h => ?_) (fun h => ?_)
      · exact ret1 (.bool true) rfl ⟨by rw [decide_eq_true h], h1.ext⟩
      · exact ret1 (.bool false) rfl ⟨by rw [decide_eq_false (by omega)], h1.ext⟩
    refine callE hcl (fun w2 hq x2 => ?_) (fun w2 hq x2 => ?_)
    · refine ret1 (iv (k : Int)) rfl ⟨k, rfl, ⟨fun _ h => ?_, fun _ => by omega⟩, xu.trans x2⟩
      exact (of_decide_eq_true hq) (h x (List.mem_of_getElem? hx))
    · refine arI (n := (k : Int) + 1) (by omega) ?_
      refine next (k + 1) ⟨by rw [Int.natCast_add]; rfl, trivial⟩ ⟨by omega, xu.trans x2, fun y hy => ?_⟩ (by omega)
      rw [List.take_add_one, hx] at hy
      rcases List.mem_append.1 hy with hy | hy
      · exact ha y hy
      · have e : y = x := by simpa using hy
        subst e
        have := of_decide_eq_false hq
        omega
  · rw [List.take_of_length_le (by omega)] at ha
    exact ret1 (iv (-1)) rfl ⟨-1, rfl, ⟨fun h => by omega, fun h => absurd ha h⟩, xu⟩
theorem c_contV {A : Option Addr} {n c : Nat} {l : List (Int × Int)} (hs : SlR tVK D w A n l) : CallZ Tryz.prog 55 #[.slice A n c, .func (.func 56) #[] #[]] w (fun v w' => v = .bool (decide (¬ AllI l)) ∧ Ext w w') := by
  refine fn_rule (args := [.slice A n c, .func (.func 56) #[] #[]]) Tryz.func55 (by kernel_rfl) ?_
  refine call_of (c_idxV hs) ?_
  rintro _ w2 ⟨i, rfl, hi, x2⟩
  refine cD (fun h => ?_) (fun h => ?_)
  · exact ret1 (.bool true) rfl ⟨by rw [decide_eq_true (hi.1 h)], x2⟩
  · exact ret1 (.bool false) rfl ⟨by rw [decide_eq_false (fun q => h (hi.2 q))], x2⟩
theorem vk_cell {b o n k : Nat} {l : List (Int × Int)} {x : Int × Int} (h : SlR tVK D w (some (ad b o)) n l) (hx : l[k]? = some x) : w.cell? (ad b (o + k * 4 + 1)) = some (iv x.2) ∧ D b := by
  have hk : k < n := by have := (List.getElem?_eq_some_iff.1 hx).1; have := h.len; omega
  obtain ⟨b', o', cs, x', e, hx', -, hD, hc, ⟨⟨s, A2, n2, c2, rfl⟩, hI⟩⟩ := h.at_ (k := k) hk
  injection e with e
  injection e with e1 e2
  subst e1; subst e2
  rw [hx] at hx'
  injection hx' with hx'
  subst hx'
  exact ⟨hc 1 _ rfl, hD⟩
/-- The records that have been read. -/
structure RdS (w0 w : World) (p : Nat) (l : List Post) : Prop where
  of_ ::
  ex : ∃ A m d, Blk w p 22 [.slice A m d] ∧ OwnF w0 w A m d 26 6 (l.flatMap Post.c) ∧ m = l.length
  new : w0.heap.size ≤ p
theorem c_lLoad1 {w0 : World} {p : Nat} {l : List Post} {A : Option Addr} {n c : Nat} {b : List Nat} (hp : RdS w0 w p l) (hl : l.length ≤ 100000) (hs : SlR tU8 D w A n b) (hc : n ≤ c) (hbl : b.length ≤ 1000000000) :
    CallZ Tryz.prog 53 #[.slice A n c, ptr p] w (fun v w' => (rdT b = none ∧ v = .bool false ∧ Ext w w' ∧ RdS w0 w' p l) ∨ ∃ q, rdT b = some q ∧ v = .bool true ∧ RdS w0 w' p (l ++ [q])) := by
  obtain ⟨⟨A1, m, d, Bp, own, hm⟩, hnew⟩ := hp
  have hb := hs.u8b
  have hfm : A1 = none ∨ ∃ g, A1 = some (ad g 0) ∧ g < w.heap.size := by
    rcases own.form with ⟨h, -⟩ | ⟨g, h, -, hl, -⟩
    · exact .inl h
    · exact .inr ⟨g, h, hl⟩
  refine fn_rule (args := [.slice A n c, ptr p]) Tryz.func53 (by kernel_rfl) ?_
  refine call_of (c_vDecode hs hc hbl) ?_
  rintro _ w1 ⟨⟨V, e, rfl, hdec⟩, x1⟩
  have hno : rdT b = none → ∀ w', Ext w w' → (rdT b = none ∧ Value.bool false = .bool false ∧ Ext w w' ∧ RdS w0 w' p l) := fun h w' x => ⟨h, rfl, x, ⟨A1, m, d, Bp.ext x, own.then x, hm⟩, hnew⟩
  have hrd : ∀ p, rdT b = some p → prsV 16 b = some (⟨3, 0, p.ns.map (fun n => (1, n))⟩, []) := fun p h => by
    obtain ⟨h1, h2⟩ := rdT_some.1 h
    exact ((prsV_iff hb).2 ⟨p.ns, h1, rfl, h2, by show 6 < _; omega⟩).1
  rcases hdec with ⟨x, hx, rfl, ⟨s, A4, n4, c4, rfl, hs4, hc4, hI⟩⟩ | ⟨hx, rfl, rfl⟩
  rotate_left
  · have hn : rdT b = none := by
      cases he : rdT b with
      | none => rfl
      | some p => exact absurd (hrd p he) (hx _)
    refine alloc (fun b4 w2 h2 => ?_)
    refine stA (vs := zeroV) h2.blk rfl (Nat.le_of_ble_eq_true rfl) (by simp [Value.oneCell']) (fun w3 B3 k3 _ => ?_)
    have e2 := h2.at_
    refine cN (fun _ => ?_) (fun h => absurd h (by omega))
    exact ret1 (.bool false) rfl (.inl (hno hn w3 (x1.trans (h2.ext.then k3 fun i hi _ e => by omega))))
  have hno2 : (x.k = 3 → n4 = 6 → AllI x.l → False) → rdT b = none := fun h => by
    cases he : rdT b with
    | none => rfl
    | some q =>
      have h1 := hrd q he
      rw [hx] at h1
      simp only [Option.some.injEq, Prod.mk.injEq, and_true] at h1
      refine (h (by rw [h1]) ?_ (fun y hy => ?_)).elim
      · rw [← hs4.len, h1]; rfl
      · rw [h1] at hy
        obtain ⟨n, -, rfl⟩ := List.mem_map.1 hy
        rfl
  refine alloc (fun b4 w2 h2 => ?_)
  refine stA (vs := [iv x.k, iv x.n, .string s, .slice A4 n4 c4]) h2.blk rfl (Nat.le_of_ble_eq_true rfl) (by simp [Value.oneCell']) (fun w3 B3 k3 _ => ?_)
  have e2 := h2.at_
  have B3 : Blk w3 b4 113 [iv x.k, iv x.n, .string s, .slice A4 n4 c4] := B3
  have x13 : Ext w1 w3 := h2.ext.then k3 fun i hi _ e => by omega
  have x03 := x1.trans x13
  refine cN (fun h => absurd h (by omega)) (fun _ => ?_)
  refine fldA ?_
  refine ld (iv x.k) (B3.cell rfl) ?_
  refine cN (fun hk => ?_) (fun hk => ?_)
  · exact ret1 (.bool false) rfl (.inl (hno (hno2 fun h _ _ => hk h) w3 x03))
  refine fldA ?_
  refine ld (.slice A4 n4 c4) (B3.cell rfl) ?_
  refine len ?_
  refine cN (fun hn => ?_) (fun hn => ?_)
  · exact ret1 (.bool false) rfl (.inl (hno (hno2 fun _ h _ => by omega) w3 x03))
  refine fldA ?_
  refine ld (.slice A4 n4 c4) (B3.cell rfl) ?_
  refine callE (c_contV (hs4.ext x13)) (fun w4 hq x4 => ?_) (fun w4 hq x4 => ?_)
  · have := of_decide_eq_true hq
    exact ret1 (.bool false) rfl (.inl (hno (hno2 fun _ _ h => this h) w4 (x03.trans x4)))
  have ha : AllI x.l := by
    have := of_decide_eq_false hq
    exact Classical.byContradiction this
  obtain ⟨ns, h1, h2', h3, -⟩ := (prsV_iff hb).1 ⟨hx, hk, ha⟩
  have hn4 : n4 = 6 := by omega
  have hnl : ns.length = 6 := by have := hs4.len; rw [h2', List.length_map] at this; omega
  obtain ⟨n0, n1, n2, n3, n4', n5, rfl⟩ : ∃ a b c d e f, ns = [a, b, c, d, e, f] := by
    match ns, hnl with
    | [a, b, c, d, e, f], _ => exact ⟨a, b, c, d, e, f, rfl⟩
  subst hn4
  have hs5 := hs4.ext (x13.trans x4)
  rw [h2'] at hs5
  obtain ⟨b5, o5, cs5, y5, rfl, -⟩ := hs5.at_ (k := 0) (by omega)
  have hb5 := (vk_cell hs5 (k := 0) rfl).2
  have x04 := x03.trans x4
  have Bp := Bp.ext x04
  have own := own.then x04
  have B4 := B3.ext x4
  have s1 := x1.size
  have s2 := h2.ext.size
  have hfm : A1 = none ∨ ∃ g, A1 = some (ad g 0) ∧ g < w.heap.size := hfm
  have hA1 : ∀ g, g = b4 ∨ g = p ∨ w.heap.size ≤ g → A1 ≠ some (ad g 0) := fun g hg e => by
    by_cases hgp : g = p
    · subst hgp
      exact own_tyL own Bp (by decide) e
    · rcases hfm with h | ⟨g', h, hl⟩
      · rw [h] at e; cases e
      · rw [h] at e; injection e with e; injection e with e; omega
  refine drawP (.take 0 (.take 1 (.take 2 (.take 3 (.take 4 (.take 5 (.take 6 (.take 7 (.take 8 (.take 9 (.take 10 (.take 11 (.take 12 (.take 13 (.take 14 (.take 15 (.take 16 (.take 17 (.take 18 (.take 19 (.take 20 (.take 21 (.take 22 (.take 23 (.take 24 (.take 25 (.take 26 (.take 27 (.take 28 (.take 29 (.take 30 (.take 31 (.eff 32 (.eff 33 (.bar (.eff 34 .done)))))))))))))))))))))))))))))))))))) [34] (fun y => Kept (fun g => A1 ≠ some (ad g 0)) w4 y) mx (by kernel_rfl) (.refl _ _) ?_
  refine ldK (.slice A1 m d) (Bp.cell rfl) (hA1 p (by omega)) (.refl _ _) ?_
  refine fldA ?_
  refine ldK (.slice (some (ad b5 o5)) 6 c4) (B4.cell rfl) (hA1 b4 (by omega)) (.refl _ _) ?_
  refine idx 0 rfl (by omega) ?_
  refine fldA ?_
  refine ldK (iv n0) (vk_cell hs5 (k := 0) rfl).1 (hA1 b5 (.inr (.inr hb5))) (.refl _ _) ?_
  refine fldA ?_
  refine ldK (.slice (some (ad b5 o5)) 6 c4) (B4.cell rfl) (hA1 b4 (by omega)) (.refl _ _) ?_
  refine idx 1 rfl (by omega) ?_
  refine fldA ?_
  refine ldK (iv n1) (vk_cell hs5 (k := 1) rfl).1 (hA1 b5 (.inr (.inr hb5))) (.refl _ _) ?_
  refine fldA ?_
  refine ldK (.slice (some (ad b5 o5)) 6 c4) (B4.cell rfl) (hA1 b4 (by omega)) (.refl _ _) ?_
  refine idx 2 rfl (by omega) ?_
  refine fldA ?_
  refine ldK (iv n2) (vk_cell hs5 (k := 2) rfl).1 (hA1 b5 (.inr (.inr hb5))) (.refl _ _) ?_
  refine fldA ?_
  refine ldK (.slice (some (ad b5 o5)) 6 c4) (B4.cell rfl) (hA1 b4 (by omega)) (.refl _ _) ?_
  refine idx 3 rfl (by omega) ?_
  refine fldA ?_
  refine ldK (iv n3) (vk_cell hs5 (k := 3) rfl).1 (hA1 b5 (.inr (.inr hb5))) (.refl _ _) ?_
  refine fldA ?_
  refine ldK (.slice (some (ad b5 o5)) 6 c4) (B4.cell rfl) (hA1 b4 (by omega)) (.refl _ _) ?_
  refine idx 4 rfl (by omega) ?_
  refine fldA ?_
  refine ldK (iv n4') (vk_cell hs5 (k := 4) rfl).1 (hA1 b5 (.inr (.inr hb5))) (.refl _ _) ?_
  refine fldA ?_
  refine ldK (.slice (some (ad b5 o5)) 6 c4) (B4.cell rfl) (hA1 b4 (by omega)) (.refl _ _) ?_
  refine idx 5 rfl (by omega) ?_
  refine fldA ?_
  refine ldK (iv n5) (vk_cell hs5 (k := 5) rfl).1 (hA1 b5 (.inr (.inr hb5))) (.refl _ _) ?_
  have hq : rdT b = some ⟨n0, n1, n2, n3, n4', n5⟩ := rdT_some.2 ⟨h1, h3⟩
  refine bld (Post.c ⟨n0, n1, n2, n3, n4', n5⟩) (by kernel_rfl) ?_
  refine lit [.agg (Post.c ⟨n0, n1, n2, n3, n4', n5⟩).toArray] (fun g5 w5 h5 => ?_)
  have B5 : Blk w5 g5 26 (Post.c ⟨n0, n1, n2, n3, n4', n5⟩) := h5.blk
  refine strS h5.ext.any ?_
  refine appF (own.then h5.ext) (srcP6 B5) (by omega) (fun A' d' w6 own6 k6 hA' => ?_)
  have k46 : Kept (fun g => A1 ≠ some (ad g 0)) w4 w6 := h5.ext.any.trans k6
  refine strS k46 ?_
  refine barS (fun _ => True) trivial ?_
  refine st1 (Bp.kept k46 (hA1 p (by omega))) rfl (fun w7 B7 k7 => ?_)
  refine strS trivial ?_
  refine ret1 (.bool true) rfl (.inr ⟨_, hq, rfl, ⟨⟨A', m + 1, d', B7, ?_, by simp [hm]⟩, hnew⟩⟩)
  rw [List.flatMap_append]
  exact OwnF.thenK (by simpa using own6) k7 (fun g e h => own_tyL own6 (Bp.kept k46 (hA1 p (by omega))) (by decide) (by rw [← h]; exact e)) (own6.ext.then k7 fun i hi _ e => by omega)
end
end Go.Proofs.YtehcphboliofaaaGreatDoor

/- Layer 4: disks, plainly; Check. -/
namespace Go.Proofs.YtehcphboliofaaaGreatDoor
open Go Go.RowKit

structure Wr where
  at_ : Int
  data : List Nat
structure Dsk where
  secs : List (List Nat)
  pend : List Wr
  left : Int
  stop : Bool
def okW (n : Nat) (x : Wr) : Prop := 0 ≤ x.at_ ∧ x.at_ < n ∧ x.data.length = 128
def okD (d : Dsk) : Prop := 1 ≤ d.secs.length ∧ d.secs.length ≤ 4096 ∧ d.pend.length ≤ 4096 ∧ -1 ≤ d.left ∧ d.left ≤ 65536 ∧ (∀ x ∈ d.pend, okW d.secs.length x) ∧ ∀ s ∈ d.secs, s.length = 128
instance (n : Nat) (x : Wr) : Decidable (okW n x) := by unfold okW; infer_instance
instance (d : Dsk) : Decidable (okD d) := by unfold okD; infer_instance
def dskE (d : Dsk) : Int := if okD d then 0 else 40
def tWr : Ty Wr := tMap (tPair tInt (tSl tU8)) fun x => (x.at_, x.data)
/-- A disk at hand. -/
structure DskR (D : Nat → Prop) (w : World) (cs : List Value) (d : Dsk) : Prop where
  of_ ::
  ex : ∃ A n c B m c2, cs = [.slice A n c, .slice B m c2, iv d.left, .bool d.stop] ∧ SlR (tSl tU8) D w A n d.secs ∧ n ≤ c ∧ SlR tWr D w B m d.pend ∧ m ≤ c2 ∧ I64 d.left
theorem DskR.ext {D : Nat → Prop} {w w' : World} {cs : List Value} {d : Dsk} (h : DskR D w cs d) (k : Ext w w') : DskR D w' cs d :=
  let ⟨A, n, c, B, m, c2, h1, h2, h3, h4, h5⟩ := h.ex; ⟨A, n, c, B, m, c2, h1, h2.ext k, h3, h4.ext k, h5⟩
theorem DskR.more {D D' : Nat → Prop} {w : World} {cs : List Value} {d : Dsk} (h : DskR D w cs d) (hd : ∀ b, b < w.heap.size → D b → D' b) : DskR D' w cs d :=
  let ⟨A, n, c, B, m, c2, h1, h2, h3, h4, h5⟩ := h.ex; ⟨A, n, c, B, m, c2, h1, h2.more (by decide) hd, h3, h4.more (by decide) hd, h5⟩
theorem wr_ex {D : Nat → Prop} {w : World} {cs : List Value} {x : Wr} (h : tWr.rep D w cs x) : ∃ A n c, cs = [iv x.at_, .slice A n c] ∧ SlR tU8 D w A n x.data ∧ n ≤ c ∧ I64 x.at_ := by
  obtain ⟨c1, c2, h1, ⟨h2, h3⟩, A, n, c, h4, h5, h6⟩ := h
  subst h2; subst h4
  exact ⟨A, n, c, h1, h5, h6, h3⟩
section
variable {D : Nat → Prop} {w : World}
theorem c_isSector {A : Option Addr} {n c : Nat} : CallZ Tryz.prog 156 #[.slice A n c] w (fun v w' => v = .bool (decide (n = 128)) ∧ w' = w) := by
  refine fn_rule (args := [.slice A n c]) Tryz.func156 (by kernel_rfl) ?_
  refine len ?_
  refine cB (decide (n = 128)) (decide_eq_decide.2 (by omega)) ?_
  exact ret1 (.bool (decide (n = 128))) rfl ⟨rfl, rfl⟩
theorem c_dCheck2 {A : Option Addr} {n c : Nat} : CallZ Tryz.prog 159 #[.slice A n c] w (fun v w' => v = .bool (decide (n ≠ 128)) ∧ w' = w) := by
  refine fn_rule (args := [.slice A n c]) Tryz.func159 (by kernel_rfl) ?_
  refine callB c_isSector (fun h => ?_) (fun h => ?_)
  · exact ret1 (.bool false) rfl ⟨by rw [decide_eq_false (by have := of_decide_eq_true h; omega)], rfl⟩
  · exact ret1 (.bool true) rfl ⟨by rw [decide_eq_true (of_decide_eq_false h)], rfl⟩
theorem c_idxSf {A : Option Addr} {n c : Nat} {l : List (List Nat)} (hs : SlR (tSl tU8) D w A n l) : CallZ Tryz.prog 214 #[.slice A n c, .func (.func 159) #[] #[]] w (fun v w' => ∃ i : Int, v = iv i ∧ (0 ≤ i ↔ ¬ ∀ s ∈ l, s.length = 128) ∧ w' = w) := by
  refine fn_rule (args := [.slice A n c, .func (.func 159) #[] #[]]) Tryz.func214 (by kernel_rfl) ?_
  have hlen := hs.len
  have hle := hs.le
  refine len ?_
  refine loop_rule (fun k : Nat => [(8, iv (k : Int))]) (fun k u => k ≤ n ∧ u = w ∧ ∀ s ∈ l.take k, s.length = 128) (fun k _ => n - k) 0 ⟨rfl, trivial⟩ ⟨by omega, rfl, fun x hx => by simp at hx⟩ rfl ?_
  rintro G k u ⟨hk, hu, ha⟩
  refine cD (fun hlt => ?_) (fun hge => ?_)
  · obtain ⟨bx, o, cs, x, rfl, hx, -, -, hc, A2, n2, c2, rfl, hs2, hc2⟩ := hs.at_ (k := k) (by omega)
    subst hu
    have hx2 := hs2.len
    refine idx k rfl (by omega) ?_
    refine ld (.slice A2 n2 c2) (hc 0 _ rfl) ?_
    refine callB c_dCheck2 (fun hq => ?_) (fun hq => ?_)
    · refine ret1 (iv (k : Int)) rfl ⟨k, rfl, ⟨fun _ h => ?_, fun _ => by omega⟩, rfl⟩
      exact (of_decide_eq_true hq) (by rw [← hx2]; exact h x (List.mem_of_getElem? hx))
    · refine arI (n := (k : Int) + 1) (by omega) ?_
      refine next (k + 1) ⟨by rw [Int.natCast_add]; rfl, trivial⟩ ⟨by omega, rfl, fun y hy => ?_⟩ (by omega)
      rw [List.take_add_one, hx] at hy
      rcases List.mem_append.1 hy with hy | hy
      · exact ha y hy
      · have e : y = x := by simpa using hy
        subst e
        have := of_decide_eq_false hq
        omega
  · rw [List.take_of_length_le (by omega)] at ha
    exact ret1 (iv (-1)) rfl ⟨-1, rfl, ⟨fun h => by omega, fun h => absurd ha h⟩, hu⟩
theorem c_contS {A : Option Addr} {n c : Nat} {l : List (List Nat)} (hs : SlR (tSl tU8) D w A n l) : CallZ Tryz.prog 158 #[.slice A n c, .func (.func 159) #[] #[]] w (fun v w' => v = .bool (decide (¬ ∀ s ∈ l, s.length = 128)) ∧ w' = w) := by
  refine fn_rule (args := [.slice A n c, .func (.func 159) #[] #[]]) Tryz.func158 (by kernel_rfl) ?_
  refine call_of (c_idxSf hs) ?_
  rintro _ w2 ⟨i, rfl, hi, rfl⟩
  refine cD (fun h => ?_) (fun h => ?_)
  · exact ret1 (.bool true) rfl ⟨by rw [decide_eq_true (hi.1 h)], rfl⟩
  · exact ret1 (.bool false) rfl ⟨by rw [decide_eq_false (fun q => h (hi.2 q))], rfl⟩
theorem c_dCheck1 {A : Option Addr} {n c p N : Nat} {x : Wr} (hp : Blk w p 3 [iv (N : Int)]) (hs : SlR tU8 D w A n x.data) : CallZ Tryz.prog 155 #[.agg #[iv x.at_, .slice A n c], ptr p] w (fun v w' => v = .bool (decide (¬ okW N x)) ∧ Ext w w') := by
  refine fn_rule (args := [.agg #[iv x.at_, .slice A n c], ptr p]) Tryz.func155 (by kernel_rfl) ?_
  have hlen := hs.len
  refine box (fun g w1 h1 => ?_)
  have B : Blk w1 g 104 [iv x.at_, .slice A n c] := h1.blk
  have Bp := hp.ext h1.ext
  refine fldA ?_
  refine ld (iv x.at_) (B.cell rfl) ?_
  refine cD (fun h => ?_) (fun h0 => ?_)
  · exact ret1 (.bool true) rfl ⟨by rw [decide_eq_true (show ¬ okW N x from fun q => by have := q.1; omega)], h1.ext⟩
  refine fldA ?_
  refine ld (iv x.at_) (B.cell rfl) ?_
  refine ld (iv (N : Int)) (Bp.cell rfl) ?_
  refine cD (fun h => ?_) (fun h1' => ?_)
  · exact ret1 (.bool true) rfl ⟨by rw [decide_eq_true (show ¬ okW N x from fun q => by have := q.2.1; omega)], h1.ext⟩
  refine fldA ?_
  refine ld (.slice A n c) (B.cell rfl) ?_
  refine callB c_isSector (fun h => ?_) (fun h => ?_)
  · have h := of_decide_eq_true h
    exact ret1 (.bool false) rfl ⟨by rw [decide_eq_false (fun q => q ⟨by omega, by omega, by omega⟩)], h1.ext⟩
  · have h := of_decide_eq_false h
    exact ret1 (.bool true) rfl ⟨by rw [decide_eq_true (show ¬ okW N x from fun q => by have := q.2.2; omega)], h1.ext⟩
theorem c_idxWf {A : Option Addr} {n c p N : Nat} {l : List Wr} (hp : Blk w p 3 [iv (N : Int)]) (hs : SlR tWr D w A n l) : CallZ Tryz.prog 213 #[.slice A n c, .func (.func 155) #[] #[ptr p]] w (fun v w' => ∃ i : Int, v = iv i ∧ (0 ≤ i ↔ ¬ ∀ x ∈ l, okW N x) ∧ Ext w w') := by
  refine fn_rule (args := [.slice A n c, .func (.func 155) #[] #[ptr p]]) Tryz.func213 (by kernel_rfl) ?_
  have hlen := hs.len
  have hle := hs.le
  refine len ?_
  refine loop_rule (fun k : Nat => [(8, iv (k : Int))]) (fun k u => k ≤ n ∧ Ext w u ∧ ∀ x ∈ l.take k, okW N x) (fun k _ => n - k) 0 ⟨rfl, trivial⟩ ⟨by omega, .refl _ _, fun x hx => by simp at hx⟩ rfl ?_
  rintro G k u ⟨hk, xu, ha⟩
  refine cD (fun hlt => ?_) (fun hge => ?_)
  · obtain ⟨bx, o, cs, x, rfl, hx, -, -, hc, hrep⟩ := (hs.ext xu).at_ (k := k) (by omega)
    obtain ⟨A2, n2, c2, rfl, hs2, hc2, hI⟩ := wr_ex hrep
    refine idx k rfl (by omega) ?_
    refine ldA [iv x.at_, .slice A2 n2 c2] hc rfl ?_
    refine callE (c_dCheck1 (hp.ext xu) hs2) (fun w2 hq x2 => ?_) (fun w2 hq x2 => ?_)
    · refine ret1 (iv (k : Int)) rfl ⟨k, rfl, ⟨fun _ h => ?_, fun _ => by omega⟩, xu.trans x2⟩
      exact (of_decide_eq_true hq) (h x (List.mem_of_getElem? hx))
    · refine arI (n := (k : Int) + 1) (by omega) ?_
      refine next (k + 1) ⟨by rw [Int.natCast_add]; rfl, trivial⟩ ⟨by omega, xu.trans x2, fun y hy => ?_⟩ (by omega)
      rw [List.take_add_one, hx] at hy
      rcases List.mem_append.1 hy with hy | hy
      · exact ha y hy
      · have e : y = x := by simpa using hy
        subst e
        exact Decidable.not_not.1 (of_decide_eq_false hq)
  · rw [List.take_of_length_le (by omega)] at ha
    exact ret1 (iv (-1)) rfl ⟨-1, rfl, ⟨fun h => by omega, fun h => absurd ha h⟩, xu⟩
theorem c_contW {A : Option Addr} {n c p N : Nat} {l : List Wr} (hp : Blk w p 3 [iv (N : Int)]) (hs : SlR tWr D w A n l) : CallZ Tryz.prog 157 #[.slice A n c, .func (.func 155) #[] #[ptr p]] w (fun v w' => v = .bool (decide (¬ ∀ x ∈ l, okW N x)) ∧ Ext w w') := by
  refine fn_rule (args := [.slice A n c, .func (.func 155) #[] #[ptr p]]) Tryz.func157 (by kernel_rfl) ?_
  refine call_of (c_idxWf hp hs) ?_
  rintro _ w2 ⟨i, rfl, hi, x2⟩
  refine cD (fun h => ?_) (fun h => ?_)
  · exact ret1 (.bool true) rfl ⟨by rw [decide_eq_true (hi.1 h)], x2⟩
  · exact ret1 (.bool false) rfl ⟨by rw [decide_eq_false (fun q => h (hi.2 q))], x2⟩
theorem c_dCheck {d : Dsk} {cs : List Value} (hd : DskR D w cs d) : CallZ Tryz.prog 90 #[.agg cs.toArray] w (fun v w' => v = iv (dskE d) ∧ Ext w w') := by
  obtain ⟨A, n, c, B, m, c2, rfl, hs, hc, hp, hc2, hI⟩ := hd.ex
  have l1 := hs.len
  have l2 := hp.len
  refine fn_rule (args := [.agg #[.slice A n c, .slice B m c2, iv d.left, .bool d.stop]]) Tryz.func90 (by kernel_rfl) ?_
  have bad : ∀ {w'}, Ext w w' → ¬ okD d → (iv 40 = iv (dskE d) ∧ Ext w w') := fun x h => ⟨by unfold dskE; rw [if_neg h], x⟩
  refine box (fun g w1 h1 => ?_)
  have G1 : Blk w1 g 44 [.slice A n c, .slice B m c2, iv d.left, .bool d.stop] := h1.blk
  refine fldA ?_
  refine ld (.slice A n c) (G1.cell rfl) ?_
  refine len ?_
  refine alloc (fun b3 w2 h2 => ?_)
  refine st1 (v := iv (n : Int)) h2.blk rfl (fun w3 B3 k3 => ?_)
  have e2 := h2.at_
  have B3 : Blk w3 b3 3 [iv (n : Int)] := B3
  have x13 : Ext w1 w3 := h2.ext.then k3 fun i hi _ e => by omega
  have x03 := h1.ext.trans x13
  have G3 := G1.ext x13
  refine ld (iv (n : Int)) (B3.cell rfl) ?_
  refine cD (fun h => ?_) (fun h1' => ?_)
  · exact ret1 (iv 40) rfl (bad x03 fun q => by have := q.1; omega)
  refine ld (iv (n : Int)) (B3.cell rfl) ?_
  refine cD (fun h => ?_) (fun h2' => ?_)
  · exact ret1 (iv 40) rfl (bad x03 fun q => by have := q.2.1; omega)
  refine fldA ?_
  refine ld (.slice B m c2) (G3.cell rfl) ?_
  refine len ?_
  refine cD (fun h => ?_) (fun h3' => ?_)
  · exact ret1 (iv 40) rfl (bad x03 fun q => by have := q.2.2.1; omega)
  refine fldA ?_
  refine ld (iv d.left) (G3.cell rfl) ?_
  refine cD (fun h => ?_) (fun h4' => ?_)
  · exact ret1 (iv 40) rfl (bad x03 fun q => by have := q.2.2.2.1; omega)
  refine fldA ?_
  refine ld (iv d.left) (G3.cell rfl) ?_
  refine cD (fun h => ?_) (fun h5' => ?_)
  · exact ret1 (iv 40) rfl (bad x03 fun q => by have := q.2.2.2.2.1; omega)
  refine fldA ?_
  refine ld (.slice B m c2) (G3.cell rfl) ?_
  refine callE (c_contW B3 (hp.ext x03)) (fun w4 hq x4 => ?_) (fun w4 hq x4 => ?_)
  · exact ret1 (iv 40) rfl (bad (x03.trans x4) fun q => (of_decide_eq_true hq) (by have := q.2.2.2.2.2.1; rw [l1] at this; exact this))
  have hq1 := Decidable.not_not.1 (of_decide_eq_false hq)
  refine fldA ?_
  refine ld (.slice A n c) ((G3.ext x4).cell rfl) ?_
  refine callB (c_contS ((hs.ext x03).ext x4)) (fun hq => ?_) (fun hq => ?_)
  · exact ret1 (iv 40) rfl (bad (x03.trans x4) fun q => (of_decide_eq_true hq) q.2.2.2.2.2.2)
  have hq2 := Decidable.not_not.1 (of_decide_eq_false hq)
  exact ret1 (iv 0) rfl ⟨by unfold dskE; rw [if_pos ⟨by omega, by omega, by omega, by omega, by omega, by rw [l1]; exact hq1, hq2⟩], x03.trans x4⟩
end
end Go.Proofs.YtehcphboliofaaaGreatDoor

/- Layer 4: has, runs, Write, Stop, Restart. -/
namespace Go.Proofs.YtehcphboliofaaaGreatDoor
open Go Go.RowKit

section
variable {α : Type} {a : Ty α} {D : Nat → Prop} {w : World}
theorem SlR.none0 {n : Nat} {xs : List α} (h : SlR a D w none n xs) : n = 0 := by
  by_cases h0 : 0 < n
  · obtain ⟨b, o, cs, x, e, _⟩ := h.at_ (k := 0) h0
    cases e
  · omega
theorem Src.ext {w w' : World} {A : Option Addr} {m sz : Nat} {news : List Value} (h : Src w A m sz news) (k : Ext w w') : Src w' A m sz news := ⟨h.1, fun hm => let ⟨b, o, e, hc⟩ := h.2 hm; ⟨b, o, e, hc.kept k trivial⟩⟩
/-- The cells of a slice. -/
theorem SlR.srcs {A : Option Addr} {n : Nat} {xs : List α} (h : SlR a D w A n xs) : ∃ cs, Src w A n a.sz cs ∧ FlatR a D w xs cs := by
  rcases Nat.eq_zero_or_pos n with h0 | h0
  · subst h0
    have : xs = [] := List.eq_nil_of_length_eq_zero h.len
    subst this
    exact ⟨[], ⟨by simp, fun h => by omega⟩, rfl⟩
  · obtain ⟨b, o, cs, x, rfl, _⟩ := h.at_ (k := 0) h0
    obtain ⟨cs, hf, hc⟩ := h.cells
    refine ⟨cs, ⟨by rw [hf.len, h.len], fun _ => ⟨b, o, rfl, hc⟩⟩, hf⟩
end
theorem flatS_one {D : Nat → Prop} {w : World} : ∀ {l : List (List Nat)} {cs : List Value}, FlatR (tSl tU8) D w l cs → (cs.all fun u => u.oneCell') = true
  | [], _, h => by subst h; rfl
  | _ :: _, _, ⟨c, r, h, ⟨A, n, c', h1, _⟩, h2⟩ => by
    subst h; subst h1
    rw [List.all_append, flatS_one h2]; rfl
theorem flatW_one {D : Nat → Prop} {w : World} : ∀ {l : List Wr} {cs : List Value}, FlatR tWr D w l cs → (cs.all fun u => u.oneCell') = true
  | [], _, h => by subst h; rfl
  | _ :: _, _, ⟨c, r, h, h1, h2⟩ => by
    obtain ⟨A, n, c', h3, _⟩ := wr_ex h1
    subst h; subst h3
    rw [List.all_append, flatW_one h2]; rfl
section
variable {D : Nat → Prop} {w : World}
theorem c_cloneW {A : Option Addr} {n c : Nat} {l : List Wr} (hs : SlR tWr D w A n l) (hn : n ≤ 1000000) : CallZ Tryz.prog 173 #[.slice A n c] w (fun v w' => ∃ A' c' cs, v = .slice A' n c' ∧ OwnF w w' A' n c' 104 2 cs ∧ FlatR tWr D w' l cs) := by
  have hl := hs.len
  refine fn_rule (args := [.slice A n c]) Tryz.func173 (by kernel_rfl) ?_
  refine eqNilL (fun hA => ?_) (fun hA => ?_)
  · subst hA
    have h0 := hs.none0
    subst h0
    have hx : l = [] := List.eq_nil_of_length_eq_zero (by omega)
    subst hx
    exact ret1 (.slice none 0 0) rfl ⟨none, 0, [], rfl, .nil (.refl _ _), rfl⟩
  · refine lit [] (fun g w1 h1 => ?_)
    have o1 : OwnF w w1 (some (ad g 0)) 0 0 104 2 [] := OwnF.lit (cs := []) (.refl _ _) h1 rfl
    obtain ⟨cs, hsrc, hf⟩ := hs.srcs
    refine appF o1 (hsrc.ext h1.ext) (by omega) (fun A' c' w2 o2 k2 hA' => ?_) (h1 := flatW_one hf)
    rw [Nat.zero_add, List.nil_append] at o2
    exact ret1 (.slice A' (0 + n) c') rfl ⟨A', c', cs, by rw [Nat.zero_add], o2, hf.keep fun b hb _ => o2.ext.blk b hb trivial⟩
theorem c_cloneS {A : Option Addr} {n c : Nat} {l : List (List Nat)} (hs : SlR (tSl tU8) D w A n l) (hn : n ≤ 1000000) : CallZ Tryz.prog 222 #[.slice A n c] w (fun v w' => ∃ A' c' cs, v = .slice A' n c' ∧ OwnF w w' A' n c' 102 1 cs ∧ FlatR (tSl tU8) D w' l cs) := by
  have hl := hs.len
  refine fn_rule (args := [.slice A n c]) Tryz.func222 (by kernel_rfl) ?_
  refine eqNilL (fun hA => ?_) (fun hA => ?_)
  · subst hA
    have h0 := hs.none0
    subst h0
    have hx : l = [] := List.eq_nil_of_length_eq_zero (by omega)
    subst hx
    exact ret1 (.slice none 0 0) rfl ⟨none, 0, [], rfl, .nil (.refl _ _), rfl⟩
  · refine lit [] (fun g w1 h1 => ?_)
    have o1 : OwnF w w1 (some (ad g 0)) 0 0 102 1 [] := OwnF.lit (cs := []) (.refl _ _) h1 rfl
    obtain ⟨cs, hsrc, hf⟩ := hs.srcs
    refine appF o1 (hsrc.ext h1.ext) (by omega) (fun A' c' w2 o2 k2 hA' => ?_) (h1 := flatS_one hf)
    rw [Nat.zero_add, List.nil_append] at o2
    exact ret1 (.slice A' (0 + n) c') rfl ⟨A', c', cs, by rw [Nat.zero_add], o2, hf.keep fun b hb _ => o2.ext.blk b hb trivial⟩
theorem c_cloneB {A : Option Addr} {n c : Nat} {l : List Nat} (hs : SlR tU8 D w A n l) (hn : n ≤ 1000000) : CallZ Tryz.prog 104 #[.slice A n c] w (fun v w' => ∃ A' c', v = .slice A' n c' ∧ OwnF w w' A' n c' 5 1 (u8s l)) := by
  have hl := hs.len
  refine fn_rule (args := [.slice A n c]) Tryz.func104 (by kernel_rfl) ?_
  refine eqNilL (fun hA => ?_) (fun hA => ?_)
  · subst hA
    have h0 := hs.none0
    subst h0
    have hx : l = [] := List.eq_nil_of_length_eq_zero (by omega)
    subst hx
    exact ret1 (.slice none 0 0) rfl ⟨none, 0, rfl, .nil (.refl _ _)⟩
  · refine lit [] (fun g w1 h1 => ?_)
    have o1 : OwnF w w1 (some (ad g 0)) 0 0 5 1 [] := OwnF.lit (cs := []) (.refl _ _) h1 rfl
    refine appF o1 ((hs.ext h1.ext).u8src) (by omega) (fun A' c' w2 o2 k2 hA' => ?_) (h1 := u8s_one l)
    rw [Nat.zero_add, List.nil_append] at o2
    exact ret1 (.slice A' (0 + n) c') rfl ⟨A', c', by rw [Nat.zero_add], o2⟩
theorem c_clipW {A : Option Addr} {n c : Nat} {l : List Wr} (hs : SlR tWr D w A n l) (hc : n ≤ c) : CallZ Tryz.prog 172 #[.slice A n c] w (fun v w' => ∃ A', v = .slice A' n n ∧ (∀ (D' : Nat → Prop) (u : World), SlR tWr D' u A n l → SlR tWr D' u A' n l) ∧ w' = w) := by
  have hl := hs.len
  refine fn_rule (args := [.slice A n c]) Tryz.func172 (by kernel_rfl) ?_
  refine len ?_
  refine len ?_
  refine slcM 0 n n hs rfl rfl rfl (by omega) (Nat.le_refl _) (Nat.le_refl _) hc rfl (fun A2 hA2 => ?_)
  refine ret1 (.slice A2 (n - 0) (n - 0)) rfl ⟨A2, rfl, fun D' u h => ?_, rfl⟩
  have := hA2 D' u h
  rwa [List.drop_zero, List.take_of_length_le (by omega)] at this
theorem c_clipS {A : Option Addr} {n c : Nat} {l : List (List Nat)} (hs : SlR (tSl tU8) D w A n l) (hc : n ≤ c) : CallZ Tryz.prog 103 #[.slice A n c] w (fun v w' => ∃ A', v = .slice A' n n ∧ (∀ (D' : Nat → Prop) (u : World), SlR (tSl tU8) D' u A n l → SlR (tSl tU8) D' u A' n l) ∧ w' = w) := by
  have hl := hs.len
  refine fn_rule (args := [.slice A n c]) Tryz.func103 (by kernel_rfl) ?_
  refine len ?_
  refine len ?_
  refine slcM 0 n n hs rfl rfl rfl (by omega) (Nat.le_refl _) (Nat.le_refl _) hc rfl (fun A2 hA2 => ?_)
  refine ret1 (.slice A2 (n - 0) (n - 0)) rfl ⟨A2, rfl, fun D' u h => ?_, rfl⟩
  have := hA2 D' u h
  rwa [List.drop_zero, List.take_of_length_le (by omega)] at this
def runsB (d : Dsk) : Bool := decide (okD d ∧ d.stop = false)
theorem dskE_0 {d : Dsk} : dskE d = 0 ↔ okD d := by unfold dskE; split <;> simp [*]
theorem c_druns {d : Dsk} {cs : List Value} (hd : DskR D w cs d) : CallZ Tryz.prog 76 #[.agg cs.toArray] w (fun v w' => v = .bool (runsB d) ∧ Ext w w') := by
  obtain ⟨A, n, c, B, m, c2, rfl, hs, hc, hp, hc2, hI⟩ := hd.ex
  refine fn_rule (args := [.agg #[.slice A n c, .slice B m c2, iv d.left, .bool d.stop]]) Tryz.func76 (by kernel_rfl) ?_
  refine box (fun g w1 h1 => ?_)
  have G1 : Blk w1 g 44 [.slice A n c, .slice B m c2, iv d.left, .bool d.stop] := h1.blk
  refine ldA [.slice A n c, .slice B m c2, iv d.left, .bool d.stop] (.blk G1) rfl ?_
  refine call_of (c_dCheck (hd.ext h1.ext)) ?_
  rintro _ w2 ⟨rfl, x2⟩
  refine cE (fun h => ?_) (fun h => ?_)
  · have hok := dskE_0.1 h
    cases hst : d.stop with
    | false =>
      refine fldA ?_
      refine ld (.bool false) ((G1.ext x2).cell (by rw [hst]; rfl)) ?_
      refine ret1 (.bool true) rfl ⟨?_, h1.ext.trans x2⟩
      unfold runsB
      rw [decide_eq_true ⟨hok, hst⟩]
    | true =>
      refine fldA ?_
      refine ld (.bool true) ((G1.ext x2).cell (by rw [hst]; rfl)) ?_
      refine ret1 (.bool false) rfl ⟨?_, h1.ext.trans x2⟩
      unfold runsB
      rw [decide_eq_false (fun q => by rw [hst] at q; cases q.2)]
  · refine ret1 (.bool false) rfl ⟨?_, h1.ext.trans x2⟩
    unfold runsB
    rw [decide_eq_false (fun q => h (dskE_0.2 q.1))]
def dhasB (d : Dsk) (i : Int) : Bool := decide (0 ≤ i ∧ i < d.secs.length)
theorem c_dhas {d : Dsk} {cs : List Value} {i : Int} (hd : DskR D w cs d) : CallZ Tryz.prog 171 #[.agg cs.toArray, iv i] w (fun v w' => v = .bool (dhasB d i) ∧ Ext w w') := by
  obtain ⟨A, n, c, B, m, c2, rfl, hs, hc, hp, hc2, hI⟩ := hd.ex
  have hl := hs.len
  refine fn_rule (args := [.agg #[.slice A n c, .slice B m c2, iv d.left, .bool d.stop], iv i]) Tryz.func171 (by kernel_rfl) ?_
  refine box (fun g w1 h1 => ?_)
  have G1 : Blk w1 g 44 [.slice A n c, .slice B m c2, iv d.left, .bool d.stop] := h1.blk
  refine cD (fun h => ?_) (fun h => ?_)
  · refine fldA ?_
    refine ld (.slice A n c) (G1.cell rfl) ?_
    refine len ?_
    refine cD (fun h2 => ?_) (fun h2 => ?_)
    · exact ret1 (.bool true) rfl ⟨by unfold dhasB; rw [decide_eq_true ⟨h, by rw [hl]; exact h2⟩], h1.ext⟩
    · exact ret1 (.bool false) rfl ⟨by unfold dhasB; rw [decide_eq_false (fun q => h2 (by rw [← hl]; exact q.2))], h1.ext⟩
  · exact ret1 (.bool false) rfl ⟨by unfold dhasB; rw [decide_eq_false (fun q => h q.1)], h1.ext⟩
end
end Go.Proofs.YtehcphboliofaaaGreatDoor

/- Layer 4: Write, Stop, Restart, New. -/
namespace Go.Proofs.YtehcphboliofaaaGreatDoor
open Go Go.RowKit

abbrev zeroD : Dsk := ⟨[], [], 0, false⟩
abbrev zeroDC : List Value := [.slice none 0 0, .slice none 0 0, iv 0, .bool false]
theorem zeroD_r {D : Nat → Prop} {w : World} : DskR D w zeroDC zeroD := ⟨⟨none, 0, 0, none, 0, 0, rfl, .nil, Nat.le_refl _, .nil, Nat.le_refl _, (show I64 0 by unfold I64; omega)⟩⟩
def padB (b : List Nat) : List Nat := b ++ List.replicate (128 - b.length) 0
noncomputable def writeP (d : Dsk) (i : Int) (b : List Nat) : Dsk × Int :=
  if ¬ (runsB d = true ∧ dhasB d i = true) then (zeroD, 40) else if 128 < b.length then (zeroD, 1) else if d.pend.length = 4096 then (zeroD, 2) else (⟨d.secs, d.pend ++ [⟨i, padB b⟩], d.left, d.stop⟩, 0)
/-- A disk and an error that come back. -/
def RetD (w w' : World) (v : Value) (p : Dsk × Int) : Prop := ∃ cs, v = .tuple #[.agg cs.toArray, iv p.2] ∧ DskR (fun _ => True) w' cs p.1 ∧ Ext w w'
/-- .., and what it takes lies in D or is new. -/
def RetE (D : Nat → Prop) (w w' : World) (v : Value) (p : Dsk × Int) : Prop := ∃ cs, v = .tuple #[.agg cs.toArray, iv p.2] ∧ DskR (fun b => D b ∨ w.heap.size ≤ b) w' cs p.1 ∧ Ext w w'
theorem RetE.d {D : Nat → Prop} {w w' : World} {v : Value} {p : Dsk × Int} (h : RetE D w w' v p) : RetD w w' v p := let ⟨cs, h1, h2, h3⟩ := h; ⟨cs, h1, h2.more fun _ _ _ => trivial, h3⟩
theorem flatW_app {D : Nat → Prop} {w : World} {l : List Wr} {cs : List Value} {x : Wr} {A : Option Addr} {n c : Nat} (h : FlatR tWr D w l cs) (hs : SlR tU8 D w A n x.data) (hc : n ≤ c) (hI : I64 x.at_) : FlatR tWr D w (l ++ [x]) (cs ++ [iv x.at_, .slice A n c]) :=
  h.app (FlatR.one ⟨[iv x.at_], [.slice A n c], rfl, ⟨rfl, hI⟩, A, n, c, rfl, hs, hc⟩)
theorem padB_len {b : List Nat} (h : b.length ≤ 128) : (padB b).length = 128 := by unfold padB; rw [List.length_append, List.length_replicate]; omega
theorem padB_lt {b : List Nat} (h : ∀ x ∈ b, x < 256) : ∀ x ∈ padB b, x < 256 := fun x hx => by
  unfold padB at hx
  rcases List.mem_append.1 hx with hx | hx
  · exact h x hx
  · rw [List.mem_replicate] at hx; omega
section
variable {D : Nat → Prop} {w : World}
set_option maxRecDepth 8000 in
theorem c_dWriteE {D2 : Nat → Prop} {d : Dsk} {cs : List Value} {i : Int} {E : Option Addr} {k ce : Nat} {b : List Nat} (hd : DskR D w cs d) (hi : I64 i) (hb : SlR tU8 D2 w E k b) : CallZ Tryz.prog 107 #[.agg cs.toArray, iv i, .slice E k ce] w (fun v w' => RetE D w w' v (writeP d i b)) := by
  obtain ⟨A, n, c, B, m, c2, rfl, hs, hc, hp, hc2, hI⟩ := hd.ex
  have l2 := hp.len
  have lb := hb.len
  have hb8 := hb.u8b
  have hp := hp.more (D' := fun b => D b ∧ b < w.heap.size) (by decide) fun b hb h => ⟨h, hb⟩
  refine fn_rule (args := [.agg #[.slice A n c, .slice B m c2, iv d.left, .bool d.stop], iv i, .slice E k ce]) Tryz.func107 (by kernel_rfl) ?_
  refine box (fun g w1 h1 => ?_)
  have G1 : Blk w1 g 44 [.slice A n c, .slice B m c2, iv d.left, .bool d.stop] := h1.blk
  refine alloc (fun b6 w2 h2 => ?_)
  have R2 : Blk w2 b6 44 zeroDC := h2.blk
  have e1 := h1.at_
  have e2 := h2.at_
  have x02 := h1.ext.trans h2.ext
  have s1 := h1.ext.size
  have s12 := h2.ext.size
  have G2 := G1.ext h2.ext
  have lg := G1.lt
  refine ldA [.slice A n c, .slice B m c2, iv d.left, .bool d.stop] (.blk G2) rfl ?_
  have bad : ∀ {w3}, Ext w2 w3 → ¬ (runsB d = true ∧ dhasB d i = true) → ∀ we, Kept (fun b => b ≠ b6) w3 we → RetE D w we (.tuple #[.agg zeroDC.toArray, iv 40]) (writeP d i b) := fun {w3} x h we ke => by
    unfold writeP
    rw [if_pos h]
    exact ⟨zeroDC, rfl, zeroD_r, (x02.trans x).then ke fun j hj _ => by omega⟩
  refine callE (c_druns (hd.ext x02)) (fun w3 hq x3 => ?_) (fun w3 hq x3 => ?_)
  rotate_left
  · refine ldA zeroDC (.blk (R2.ext x3)) rfl ?_
    refine stA (vs := zeroDC) (R2.ext x3) rfl (Nat.le_of_ble_eq_true rfl) (by simp [Value.oneCell']) (fun we Be ke ze => ?_)
    refine ret ?_
    refine resL (.agg (zeroDC).toArray) (holds_agg (.blk Be) rfl) ?_
    exact bad x3 (fun q => by rw [hq] at q; cases q.1) we ke
  refine ldA [.slice A n c, .slice B m c2, iv d.left, .bool d.stop] (.blk (G2.ext x3)) rfl ?_
  refine callE (c_dhas (hd.ext (x02.trans x3))) (fun w4 hq2 x4 => ?_) (fun w4 hq2 x4 => ?_)
  rotate_left
  · refine ldA zeroDC (.blk ((R2.ext x3).ext x4)) rfl ?_
    refine stA (vs := zeroDC) ((R2.ext x3).ext x4) rfl (Nat.le_of_ble_eq_true rfl) (by simp [Value.oneCell']) (fun we Be ke ze => ?_)
    refine ret ?_
    refine resL (.agg (zeroDC).toArray) (holds_agg (.blk Be) rfl) ?_
    exact bad (x3.trans x4) (fun q => by rw [hq2] at q; cases q.2) we ke
  have hrun : ¬ ¬ (runsB d = true ∧ dhasB d i = true) := fun h => h ⟨hq, hq2⟩
  have x24 := x3.trans x4
  have x04 := x02.trans x24
  have R4 := R2.ext x24
  have G4 := G2.ext x24
  refine len ?_
  refine cD (fun h => ?_) (fun h128 => ?_)
  · refine ldA zeroDC (.blk R4) rfl ?_
    refine stA (vs := zeroDC) R4 rfl (Nat.le_of_ble_eq_true rfl) (by simp [Value.oneCell']) (fun we Be ke ze => ?_)
    refine ret ?_
    refine resL (.agg (zeroDC).toArray) (holds_agg (.blk Be) rfl) ?_
    refine ⟨zeroDC, ?_, ?_, x04.then ke fun j hj _ => by omega⟩
    · unfold writeP; rw [if_neg hrun, if_pos (by omega)]; rfl
    · unfold writeP; rw [if_neg hrun, if_pos (by omega)]; exact zeroD_r
  refine fldA ?_
  refine ld (.slice B m c2) (G4.cell rfl) ?_
  refine len ?_
  refine cE (fun h => ?_) (fun h4096 => ?_)
  · refine ldA zeroDC (.blk R4) rfl ?_
    refine stA (vs := zeroDC) R4 rfl (Nat.le_of_ble_eq_true rfl) (by simp [Value.oneCell']) (fun we Be ke ze => ?_)
    refine ret ?_
    refine resL (.agg (zeroDC).toArray) (holds_agg (.blk Be) rfl) ?_
    refine ⟨zeroDC, ?_, ?_, x04.then ke fun j hj _ => by omega⟩
    · unfold writeP; rw [if_neg hrun, if_neg (by omega), if_pos (by omega)]; rfl
    · unfold writeP; rw [if_neg hrun, if_neg (by omega), if_pos (by omega)]; exact zeroD_r
  have hok := (of_decide_eq_true hq).1
  have hm := hok.2.2.1
  refine mslc (sz := 1) (by_ := 1) 128 rfl rfl (by omega) (by omega) rfl (by omega) (fun q w5 h5 => ?_)
  have B5 : Blk w5 q 5 (List.replicate 128 (uv8 0)) := h5.blk
  have e5 := h5.at_
  refine cpy (n := 128) (m := k) B5 (by simp only [List.length_replicate]; omega) ((hb.ext x04).ext h5.ext).u8src (fun w6 B6 k6 z6 => ?_) (h1 := u8s_one _)
  have B6 : Blk w6 q 5 (u8s (padB b)) := by
    rw [List.take_zero, List.nil_append, List.take_of_length_le (by rw [List.length_map]; omega), Nat.zero_add, Nat.min_eq_left (by omega), List.drop_replicate] at B6
    unfold padB
    rw [u8s_app, u8s_rep, lb]
    exact B6
  have x46 : Ext w4 w6 := h5.ext.then k6 fun j hj _ e => by omega
  have x06 := x04.trans x46
  have G6 := G4.ext x46
  have R6 := R4.ext x46
  refine fldA ?_
  refine ld (.slice B m c2) (G6.cell rfl) ?_
  refine call_of (c_cloneW (hp.ext x06) (by omega)) ?_
  rintro _ w7 ⟨A7, c7, cs7, rfl, o7, f7⟩
  have s06 := x06.size
  have s02 := x02.size
  have lg6 := G6.lt
  have lR6 := R6.lt
  have rd7 : SlR tWr (fun j => (D j ∧ j < w.heap.size) ∨ w6.heap.size ≤ j) w7 A7 m d.pend := o7.own.rd (a := tWr) (f7.more fun j _ h => .inl h) l2.symm (by omega) fun j hj => .inr (o7.new j hj)
  refine call_of (c_clipW rd7 o7.le) ?_
  rintro _ _ ⟨A8, rfl, hA8, rfl⟩
  have rd8 := hA8 _ _ rd7
  have hpl := padB_len (show b.length ≤ 128 by omega)
  refine bld [iv i, .slice (some (ad q 0)) 128 128] (by kernel_rfl) ?_
  refine lit [.agg #[iv i, .slice (some (ad q 0)) 128 128]] (fun q9 w9 h9 => ?_)
  have B9 : Blk w9 q9 104 [iv i, .slice (some (ad q 0)) 128 128] := h9.blk
  obtain ⟨cs8, src8, f8⟩ := rd8.srcs
  refine appG (src8.ext h9.ext) (⟨rfl, fun _ => ⟨q9, 0, rfl, .blk B9⟩⟩ : Src w9 (some (ad q9 0)) 1 2 [iv i, .slice (some (ad q 0)) 128 128]) (by omega) (by omega) (fun A10 c10 w10 o10 => ?_) (hA := fun e => by subst e; exact rd8.none0)
  have G10 : Blk w10 g 44 [.slice A n c, .slice B m c2, iv d.left, .bool d.stop] := ((G6.ext o7.ext).ext h9.ext).ext o10.ext
  refine fldA ?_
  refine st G10 (Nat.le_of_ble_eq_true rfl) rfl (fun w11 G11 k11 _ => ?_)
  have G11 : Blk w11 g 44 [.slice A n c, .slice A10 (m + 1) c10, iv d.left, .bool d.stop] := G11
  have x6a : Ext w6 w10 := (o7.ext.trans h9.ext).trans o10.ext
  have s6 := x06.size
  have s6a := x6a.size
  have R11 := (R6.ext x6a).kept k11 (show b6 ≠ g by omega)
  refine ldA [.slice A n c, .slice A10 (m + 1) c10, iv d.left, .bool d.stop] (.blk G11) rfl ?_
  refine stA (vs := [.slice A n c, .slice A10 (m + 1) c10, iv d.left, .bool d.stop]) R11 rfl (Nat.le_of_ble_eq_true rfl) (by simp [Value.oneCell']) (fun we Be ke _ => ?_)
  refine ret ?_
  refine resL (.agg #[.slice A n c, .slice A10 (m + 1) c10, iv d.left, .bool d.stop]) (holds_agg (.blk Be) rfl) ?_
  have kE : Kept (fun j => j ≠ g ∧ j ≠ b6) w10 we := (k11.weak fun j _ h => h.1).then ke fun j _ h => h.2
  have x10 : Ext w we := (x06.trans x6a).then kE fun j hj _ => by omega
  have xq : Kept (fun j => j ≠ g ∧ j ≠ b6) w6 we := (Ext.any x6a).trans kE
  have hres : writeP d i b = (⟨d.secs, d.pend ++ [⟨i, padB b⟩], d.left, d.stop⟩, 0) := by
    unfold writeP; rw [if_neg hrun, if_neg (by omega), if_neg (by omega)]
  refine ⟨[.slice A n c, .slice A10 (m + 1) c10, iv d.left, .bool d.stop], by rw [hres]; rfl, ?_, x10⟩
  rw [hres]
  have lB6 := B6.lt
  have hdat : SlR tU8 (fun j => j = q) we (some (ad q 0)) 128 (padB b) := SlR.of_cells hpl.symm (by omega) rfl (.blk (B6.kept xq (show q ≠ g ∧ q ≠ b6 by have := x04.size; have := G4.lt; have := R4.lt; omega))) (flat_u8s (padB_lt hb8))
  refine ⟨⟨A, n, c, A10, m + 1, c10, rfl, (hs.ext x10).more (by decide) fun _ _ h => .inl h, hc, ?_, o10.le, hI⟩⟩
  have x79 := h9.ext.trans o10.ext
  have own := o10.own.kept kE (fun j hj => by
    have h := o10.new j (own_at o10.own hj)
    have := o7.ext.size
    have := h9.ext.size
    omega)
  refine own.rd (a := tWr) (flatW_app ((f8.keep fun j hj h => (Kept.then (D := fun j => j ≠ g ∧ j ≠ b6) (Ext.any x79) kE fun i _ h => h).blk j hj (by omega)).more fun j _ h => h.elim (fun h => .inl h.1) fun h => .inr (by omega)) (hdat.more (by decide) fun j _ (h : j = q) => .inr (by have := x04.size; omega)) (by omega) hi) (by rw [List.length_append, l2]; rfl) (by omega) fun j hj => .inr (by have h := o10.new j hj; have := o7.ext.size; have := h9.ext.size; omega)
end
end Go.Proofs.YtehcphboliofaaaGreatDoor

/- Layer 4: New, Stop, Restart. -/
namespace Go.Proofs.YtehcphboliofaaaGreatDoor
open Go Go.RowKit

theorem add64 {K : Value → Prop} {a b : Nat} (h : a + b < 18446744073709551616) (k : K (uv64 (a + b))) : ArP .u64 ((a : Int) + (b : Int)) K := by
  rw [ArP_eq, u64_wrap, ← Int.natCast_add, show (((a + b : Nat) : Int)) % 18446744073709551616 = ((a + b : Nat) : Int) by omega]; exact k
section
variable {D : Nat → Prop} {w : World}
theorem c_bMul64 {n : Nat} (hn : n ≤ 100000) : CallZ Tryz.prog 187 #[uv64 1, uv64 n] w (fun v w' => v = .tuple #[uv64 0, uv64 n] ∧ w' = w) := by
  refine fn_rule (args := [uv64 1, uv64 n]) Tryz.func187 (by kernel_rfl) ?_
  have a1 : 1 &&& 4294967295 = 1 := by decide
  have s0 : ∀ m, m < 4294967296 → m >>> 32 = 0 := fun m h => by rw [Nat.shiftRight_eq_div_pow]; omega
  have an : ∀ m, m < 4294967296 → m &&& 4294967295 = m := fun m h => by
    have := Nat.and_two_pow_sub_one_eq_mod m 32
    simp only [show 2 ^ 32 - 1 = 4294967295 from rfl] at this
    omega
  refine and64 (a := 1) (b := 4294967295) (by omega) (by omega) ?_
  refine shr64 (a := 1) 32 rfl (by omega) ?_
  refine and64 (a := n) (b := 4294967295) (by omega) (by omega) ?_
  refine shr64 (a := n) 32 rfl (by omega) ?_
  rw [an 1 (by omega), an n (by omega), s0 1 (by omega), s0 n (by omega)]
  refine mul64 (a := 1) (b := n) (by omega) ?_
  refine mul64 (a := 0) (b := n) (by omega) ?_
  refine shr64 (a := 1 * n) 32 rfl (by omega) ?_
  rw [s0 (1 * n) (by omega)]
  refine add64 (a := 0 * n) (b := 0) (by omega) ?_
  refine and64 (a := 0 * n + 0) (b := 4294967295) (by omega) (by omega) ?_
  refine shr64 (a := 0 * n + 0) 32 rfl (by omega) ?_
  rw [an (0 * n + 0) (by omega), s0 (0 * n + 0) (by omega)]
  refine mul64 (a := 1) (b := 0) (by omega) ?_
  refine add64 (a := 0 * n + 0) (b := 1 * 0) (by omega) ?_
  refine mul64 (a := 0) (b := 0) (by omega) ?_
  refine add64 (a := 0 * 0) (b := 0) (by omega) ?_
  refine shr64 (a := 0 * n + 0 + 1 * 0) 32 rfl (by omega) ?_
  rw [s0 (0 * n + 0 + 1 * 0) (by omega)]
  refine add64 (a := 0 * 0 + 0) (b := 0) (by omega) ?_
  refine mul64 (a := 1) (b := n) (by omega) ?_
  refine ret2 (uv64 0) (uv64 n) ?_ ?_ ⟨rfl, rfl⟩
  · rfl
  · show uv64 (1 * n) = uv64 n
    rw [Nat.one_mul]
theorem c_bMul {n : Nat} (hn : n ≤ 100000) : CallZ Tryz.prog 124 #[uv64 1, uv64 n] w (fun v w' => v = .tuple #[uv64 0, uv64 n] ∧ w' = w) := by
  refine fn_rule (args := [uv64 1, uv64 n]) Tryz.func124 (by kernel_rfl) ?_
  refine call_of (c_bMul64 hn) ?_
  rintro _ _ ⟨rfl, rfl⟩
  exact ret2 (uv64 0) (uv64 n) rfl rfl ⟨rfl, rfl⟩
theorem rep_cpy {α : Type} {x y : α} {k n j : Nat} (hj : j = min k (n - k)) : (List.replicate k x ++ List.replicate (n - k) y).take k ++ (List.replicate k x).take (n - k) ++ (List.replicate k x ++ List.replicate (n - k) y).drop (k + j) = List.replicate (k + j) x ++ List.replicate (n - (k + j)) y := by
  rw [List.take_append, List.take_of_length_le (by simp), List.length_replicate, Nat.sub_self, List.take_zero, List.append_nil, List.take_replicate, List.drop_append, List.drop_replicate, List.drop_replicate, List.length_replicate, show k - (k + j) = 0 by omega, show k + j - k = j by omega, show n - k - j = n - (k + j) by omega, Nat.min_comm, ← hj, ← List.replicate_append_replicate]
  simp
theorem rep_flat {α : Type} {x : α} : ∀ n, (List.replicate n [x]).flatten = List.replicate n x
  | 0 => rfl
  | n + 1 => by rw [List.replicate_succ, List.flatten_cons, rep_flat n]; rfl
set_option maxRecDepth 8000 in
/-- One text, so many times. -/
theorem c_repeat {q n : Nat} {B : Option Addr} {m cB : Nat} {t : TypeId} (hq : Blk w q t [.slice B m cB]) (h0 : 1 ≤ n) (hn : n ≤ 4096) : CallZ Tryz.prog 75 #[.slice (some (ad q 0)) 1 1, iv (n : Int)] w (fun v w' => ∃ g, v = .slice (some (ad g 0)) n n ∧ w.heap.size ≤ g ∧ Blk w' g 102 (List.replicate n (.slice B m cB)) ∧ Ext w w') := by
  refine fn_rule (args := [.slice (some (ad q 0)) 1 1, iv (n : Int)]) Tryz.func75 (by kernel_rfl) ?_
  refine cD (fun h => absurd h (by omega)) (fun _ => ?_)
  refine len ?_
  refine cv64 1 rfl ?_
  refine cv64 n rfl ?_
  rw [Nat.mod_eq_of_lt (show n < 18446744073709551616 by omega)]
  refine call_of (c_bMul (by omega)) ?_
  rintro _ _ ⟨rfl, rfl⟩
  refine cD (fun h => absurd h (by omega)) (fun _ => ?_)
  refine cD (fun h => absurd h (by omega)) (fun _ => ?_)
  refine cvI (by omega) ?_
  refine mslc (sz := 1) (by_ := 24) n rfl rfl (by omega) (by omega) rfl (by omega) (fun g w1 h1 => ?_)
  have e1 := h1.at_
  have B1 : Blk w1 g 102 (List.replicate n (.slice none 0 0)) := by
    have := h1.blk
    rw [show cellsL (.slice none 0 0) = [.slice none 0 0] from rfl, rep_flat] at this
    exact this
  refine cpy (n := n) (m := 1) B1 (by rw [List.length_replicate]; omega) (⟨rfl, fun _ => ⟨q, 0, rfl, .blk (hq.ext h1.ext)⟩⟩ : Src w1 (some (ad q 0)) 1 1 [.slice B m cB]) (fun w2 B2 k2 _ => ?_)
  obtain ⟨S, hS⟩ : ∃ S, S = Value.slice B m cB := ⟨_, rfl⟩
  rw [← hS] at B2 ⊢
  have B2 : Blk w2 g 102 (List.replicate 1 S ++ List.replicate (n - 1) (.slice none 0 0)) := by
    rw [List.take_zero, List.nil_append, List.take_of_length_le (by show 1 ≤ n; omega), Nat.zero_add, Nat.min_eq_left (by omega), List.drop_replicate] at B2
    exact B2
  have hS1 : S.oneCell' = true := by rw [hS]; rfl
  have h1s : ∀ k, ((List.replicate k S).all fun u => u.oneCell') = true := fun k => by
    rw [List.all_replicate, hS1]; simp
  have hmin : min 1 n = 1 := Nat.min_eq_left h0
  refine loop_rule (fun k : Nat => [(8, iv (k : Int))]) (fun k u => 1 ≤ k ∧ k ≤ n ∧ Blk u g 102 (List.replicate k S ++ List.replicate (n - k) (.slice none 0 0)) ∧ Kept (fun b => b ≠ g) w1 u) (fun k _ => n - k) 1 ⟨by rw [hmin]; rfl, trivial⟩ ⟨Nat.le_refl _, h0, B2, k2⟩ rfl ?_
  rintro G k u ⟨hk1, hkn, Bu, ku⟩
  refine len ?_
  refine cD (fun hlt => ?_) (fun hge => ?_)
  · have hlen : (List.replicate k S ++ List.replicate (n - k) (Value.slice none 0 0)).length = n := by rw [List.length_append, List.length_replicate, List.length_replicate]; omega
    refine drawP (.take 0 (.take 1 (.take 2 (.take 3 (.take 4 (.take 5 (.take 6 (.eff 7 (.take 8 (.take 9 .done)))))))))) [] (fun _ => True) mx (by kernel_rfl) trivial ?_
    refine slcA k n rfl rfl (by omega) (by omega) (by omega) ?_
    refine slcA 0 k rfl rfl (by omega) (by omega) (by omega) ?_
    refine cpy (n := n - k) (m := k) Bu (by rw [hlen]; omega) (⟨by simp, fun _ => ⟨g, 0, rfl, (CellsAt.app (CellsAt.blk Bu)).1⟩⟩ : Src u (some (ad g 0)) k 1 (List.replicate k S)) (fun w3 B3 k3 _ => ?_) (h1 := h1s k)
    refine strS trivial ?_
    rw [Nat.zero_add, Nat.mul_one, rep_cpy rfl] at B3
    refine arI (n := (k : Int) + ((min k (n - k) : Nat) : Int)) (by omega) ?_
    exact next (k + min k (n - k)) ⟨by rw [Int.natCast_add]; rfl, trivial⟩ ⟨by omega, by omega, B3, ku.trans k3⟩ (by omega)
  · have hk : k = n := by omega
    subst hk
    rw [Nat.sub_self, List.replicate_zero, List.append_nil] at Bu
    exact ret1 (.slice (some (ad g 0)) k k) rfl ⟨g, rfl, by omega, Bu, h1.ext.then ku fun i hi _ e => by omega⟩
def newP (n : Int) : Dsk × Int := if n < 1 ∨ n > 4096 then (zeroD, 1) else (⟨List.replicate n.toNat (List.replicate 128 0), [], -1, false⟩, 0)
theorem flat_rep {D : Nat → Prop} {w : World} {A : Option Addr} {m c : Nat} {b : List Nat} (hs : SlR tU8 D w A m b) (hc : m ≤ c) : ∀ n, FlatR (tSl tU8) D w (List.replicate n b) (List.replicate n (.slice A m c))
  | 0 => rfl
  | n + 1 => ⟨[.slice A m c], List.replicate n (.slice A m c), rfl, ⟨A, m, c, rfl, hs, hc⟩, flat_rep hs hc n⟩
set_option maxRecDepth 8000 in
theorem c_dNew {n : Int} (hI : I64 n) : CallZ Tryz.prog 33 #[iv n] w (fun v w' => RetD w w' v (newP n)) := by
  refine fn_rule (args := [iv n]) Tryz.func33 (by kernel_rfl) ?_
  refine alloc (fun b2 w1 h1 => ?_)
  have R1 : Blk w1 b2 44 zeroDC := h1.blk
  have e1 := h1.at_
  have x1 := h1.ext
  refine cD (fun h => ?_) (fun h1' => ?_)
  · refine ldA zeroDC (.blk R1) rfl ?_
    refine stA (vs := zeroDC) R1 rfl (Nat.le_of_ble_eq_true rfl) (by simp [Value.oneCell']) (fun we Be ke ze => ?_)
    refine ret ?_
    refine resL (.agg (zeroDC).toArray) (holds_agg (.blk Be) rfl) ?_
    exact ⟨zeroDC, by unfold newP; rw [if_pos (.inl h)]; rfl, by unfold newP; rw [if_pos (.inl h)]; exact zeroD_r, x1.then ke fun i hi _ e => by omega⟩
  refine cD (fun h => ?_) (fun h2' => ?_)
  · refine ldA zeroDC (.blk R1) rfl ?_
    refine stA (vs := zeroDC) R1 rfl (Nat.le_of_ble_eq_true rfl) (by simp [Value.oneCell']) (fun we Be ke ze => ?_)
    refine ret ?_
    refine resL (.agg (zeroDC).toArray) (holds_agg (.blk Be) rfl) ?_
    exact ⟨zeroDC, by unfold newP; rw [if_pos (.inr h)]; rfl, by unfold newP; rw [if_pos (.inr h)]; exact zeroD_r, x1.then ke fun i hi _ e => by omega⟩
  obtain ⟨m, rfl⟩ : ∃ m : Nat, n = (m : Int) := ⟨n.toNat, by omega⟩
  refine mslc (sz := 1) (by_ := 1) 128 rfl rfl (by omega) (by omega) rfl (by omega) (fun q w2 h2 => ?_)
  have Bq : Blk w2 q 5 (List.replicate 128 (uv8 0)) := h2.blk
  refine lit [.slice (some (ad q 0)) 128 128] (fun q3 w3 h3 => ?_)
  refine call_of (c_repeat (B := some (ad q 0)) (m := 128) (cB := 128) h3.blk (show 1 ≤ m by omega) (by omega)) ?_
  rintro _ w4 ⟨g, rfl, hg, B4, x4⟩
  refine bld [.slice (some (ad g 0)) m m, .slice none 0 0, iv (-1), .bool false] (by kernel_rfl) ?_
  have x14 := (h2.ext.trans h3.ext).trans x4
  have R4 := R1.ext x14
  refine stA (vs := [.slice (some (ad g 0)) m m, .slice none 0 0, iv (-1), .bool false]) R4 rfl (Nat.le_of_ble_eq_true rfl) (by simp [Value.oneCell']) (fun we Be ke _ => ?_)
  refine ret ?_
  refine resL (.agg #[.slice (some (ad g 0)) m m, .slice none 0 0, iv (-1), .bool false]) (holds_agg (.blk Be) rfl) ?_
  have hres : newP (m : Int) = (⟨List.replicate m (List.replicate 128 0), [], -1, false⟩, 0) := by
    unfold newP
    rw [if_neg (by omega), Int.toNat_natCast]
  have l2 := R1.lt
  have s14 := x14.size
  have eq2 := h2.at_
  have Bq4 := Bq.ext (h3.ext.trans x4)
  have s2 := h2.ext.size
  have s3 := h3.ext.size
  have hz : SlR tU8 (fun _ => True) we (some (ad q 0)) 128 (List.replicate 128 0) := SlR.of_cells (by rw [List.length_replicate]) (by omega) trivial (by rw [← u8s_rep] at Bq4; exact .blk (Bq4.kept ke (show q ≠ b2 by omega))) (flat_u8s fun x hx => by rw [List.mem_replicate] at hx; omega)
  refine ⟨[.slice (some (ad g 0)) m m, .slice none 0 0, iv (-1), .bool false], by rw [hres]; rfl, ?_, (x1.trans x14).then ke fun i hi _ e => by omega⟩
  rw [hres]
  refine ⟨⟨some (ad g 0), m, m, none, 0, 0, rfl, ?_, Nat.le_refl _, .nil, Nat.le_refl _, (show I64 (-1) by unfold I64; omega)⟩⟩
  exact SlR.of_cells (by rw [List.length_replicate]) (by omega) trivial (.blk (B4.kept ke (show g ≠ b2 by omega))) (flat_rep hz (Nat.le_refl _) m)
def stopP (d : Dsk) (l : Int) : Dsk × Int := if runsB d = false then (zeroD, 40) else if l < 0 ∨ l > 65536 then (zeroD, 1) else (⟨d.secs, d.pend, l, d.stop⟩, 0)
end
end Go.Proofs.YtehcphboliofaaaGreatDoor

/- Layer 4: perform, Sync. -/
namespace Go.Proofs.YtehcphboliofaaaGreatDoor
open Go Go.RowKit

def perfP (s : List (List Nat)) (l : List Wr) : List (List Nat) := l.foldl (fun s x => s.set x.at_.toNat x.data) s
theorem perfP_len (s : List (List Nat)) : ∀ l : List Wr, (perfP s l).length = s.length := by
  intro l
  induction l generalizing s with
  | nil => rfl
  | cons x l ih => exact (ih (s.set x.at_.toNat x.data)).trans (by simp)
theorem perfP_snoc (s : List (List Nat)) (l : List Wr) (x : Wr) : perfP s (l ++ [x]) = (perfP s l).set x.at_.toNat x.data := by unfold perfP; rw [List.foldl_append]; rfl
theorem flatS_set {D : Nat → Prop} {w : World} {A : Option Addr} {m c : Nat} {b : List Nat} (hb : SlR tU8 D w A m b) (hc : m ≤ c) : ∀ {l : List (List Nat)} {cs : List Value} (i : Nat), FlatR (tSl tU8) D w l cs → FlatR (tSl tU8) D w (l.set i b) (cs.set i (.slice A m c))
  | [], cs, i, h => by have h : cs = [] := h; subst h; exact (rfl : ([] : List Value) = [])
  | x :: l, cs, 0, ⟨c1, r, h, ⟨A1, n1, d1, h1, h1'⟩, h2⟩ => by
    subst h; subst h1
    exact ⟨[.slice A m c], r, rfl, ⟨A, m, c, rfl, hb, hc⟩, h2⟩
  | x :: l, cs, i + 1, ⟨c1, r, h, ⟨A1, n1, d1, h1, h1'⟩, h2⟩ => by
    subst h; subst h1
    exact ⟨[.slice A1 n1 d1], r.set i (.slice A m c), rfl, ⟨A1, n1, d1, rfl, h1'⟩, flatS_set hb hc i h2⟩
section
variable {D : Nat → Prop} {w : World}
/-- Sectors of the function's own. -/
def OwnS (D : Nat → Prop) (w0 w : World) (v : Value) (n : Nat) (l : List (List Nat)) : Prop := ∃ g c cs rest, v = .slice (some (ad g 0)) n c ∧ w0.heap.size ≤ g ∧ Blk w g 102 (cs ++ rest) ∧ cs.length = n ∧ (cs ++ rest).length = c ∧ FlatR (tSl tU8) D w l cs
theorem c_dperform {A B : Option Addr} {n c m c2 : Nat} {s : List (List Nat)} {l : List Wr} (hs : SlR (tSl tU8) D w A n s) (hl : SlR tWr D w B m l) (h0 : 0 < n) (hn : n ≤ 4096) (hm : m ≤ 4096) (hok : ∀ x ∈ l, 0 ≤ x.at_ ∧ x.at_ < n) :
    CallZ Tryz.prog 176 #[.slice A n c, .slice B m c2] w (fun v w' => OwnS (fun b => D b ∧ b < w.heap.size) w w' v n (perfP s l) ∧ Ext w w') := by
  have hs0 := hs.more (D' := fun b => D b ∧ b < w.heap.size) (by decide) fun b hb h => ⟨h, hb⟩
  have hl0 := hl.more (D' := fun b => D b ∧ b < w.heap.size) (by decide) fun b hb h => ⟨h, hb⟩
  have ln := hs.len
  have lm := hl.len
  refine fn_rule (args := [.slice A n c, .slice B m c2]) Tryz.func176 (by kernel_rfl) ?_
  refine call_of (c_cloneS hs0 (by omega)) ?_
  rintro _ w1 ⟨A1, c1, cs1, rfl, o1, f1⟩
  rcases o1.form with ⟨-, h, -⟩ | ⟨g, rfl, hg, hg1, hc1⟩
  · omega
  obtain ⟨rest, B1, hcap, -⟩ := o1.own.blk
  have hc1l : cs1.length = n := by have := o1.own.len; omega
  refine len ?_
  refine loop_rule (fun k : Nat => [(12, iv (k : Int))]) (fun k u => k ≤ m ∧ Kept (fun b => b ≠ g) w1 u ∧ ∃ cs, Blk u g 102 (cs ++ rest) ∧ cs.length = n ∧ FlatR (tSl tU8) (fun b => D b ∧ b < w.heap.size) u (perfP s (l.take k)) cs) (fun k _ => m - k) 0 ⟨rfl, trivial⟩ ⟨by omega, .refl _ _, cs1, B1, hc1l, f1⟩ rfl ?_
  rintro G k u ⟨hk, ku, cs, Bu, hcl, fu⟩
  have xu : Ext w u := o1.ext.then ku fun i hi _ e => by omega
  refine cD (fun hlt => ?_) (fun hge => ?_)
  · obtain ⟨bx, o, csx, x, rfl, hx, -, -, hc, hrep⟩ := (hl0.ext xu).at_ (k := k) (by omega)
    obtain ⟨A2, n2, d2, rfl, hs2, hd2, hI⟩ := wr_ex hrep
    refine idx k rfl (by omega) ?_
    refine ldA [iv x.at_, .slice A2 n2 d2] hc rfl ?_
    refine alloc (fun b7 w2 h2 => ?_)
    refine stA (vs := [iv x.at_, .slice A2 n2 d2]) h2.blk rfl (Nat.le_of_ble_eq_true rfl) (by simp [Value.oneCell']) (fun w3 B3 k3 _ => ?_)
    have B3 : Blk w3 b7 104 [iv x.at_, .slice A2 n2 d2] := B3
    have e2 := h2.at_
    have x3 : Ext u w3 := h2.ext.then k3 fun i hi _ e => by omega
    obtain ⟨hx0, hx1⟩ := hok x (List.mem_of_getElem? hx)
    refine fldA ?_
    refine ld (iv x.at_) (B3.cell rfl) ?_
    refine fldA ?_
    refine ld (.slice A2 n2 d2) (B3.cell rfl) ?_
    refine idx x.at_.toNat (by omega) (by omega) ?_
    have Bu3 := Bu.ext x3
    have hi : 0 + x.at_.toNat * 1 < (cs ++ rest).length := by rw [List.length_append]; omega
    refine st Bu3 hi rfl (fun w4 B4 k4 _ => ?_)
    rw [Nat.zero_add, Nat.mul_one, List.set_append_left _ _ (by omega)] at B4
    have k34 : Kept (fun b => b ≠ g) u w4 := (Ext.any x3).trans k4
    refine arI (n := (k : Int) + 1) (by omega) ?_
    refine next (k + 1) ⟨by rw [Int.natCast_add]; rfl, trivial⟩ ⟨by omega, ku.trans k34, _, B4, by simp [hcl], ?_⟩ (by omega)
    rw [List.take_add_one, hx]
    show FlatR _ _ _ (perfP s (l.take k ++ [x])) _
    rw [perfP_snoc]
    exact flatS_set (hs2.kept k34 fun b _ h => by omega) hd2 _ (fu.keep fun b hb h => k34.blk b hb (by omega))
  · have hk : k = m := by omega
    subst hk
    rw [List.take_of_length_le (by omega)] at fu
    exact ret1 (.slice (some (ad g 0)) n c1) rfl ⟨⟨g, c1, cs, rest, rfl, hg, Bu, hcl, by rw [List.length_append, hcl]; rw [List.length_append, hc1l] at hcap; omega, fu⟩, xu⟩
end
end Go.Proofs.YtehcphboliofaaaGreatDoor
