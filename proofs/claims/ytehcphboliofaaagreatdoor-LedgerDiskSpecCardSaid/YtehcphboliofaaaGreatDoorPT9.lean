/- Parts of the proof: Lp Lq Lr Lt Lu Lv Lw Lx. -/
import Derived.Test.YtehcphboliofaaaGreatDoorPT8
import Derived.Test.YtehcphboliofaaaGreatDoorPT4
import Derived.Test.YtehcphboliofaaaGreatDoorPT7
namespace Go.Proofs.YtehcphboliofaaaGreatDoor
open Go Go.RowKit
structure Wr where
  at_ : Int
  data : List Nat
structure Dsk where
  secs : List (List Nat)
  pend : List Wr
  left : Int
  stop : Bool
def okW (n : Nat) (x : Wr) : Prop := 0 ≤ x.at_ ∧ x.at_ < n ∧ x.data.length = 128
def okD (d : Dsk) : Prop := 1 ≤ d.secs.length ∧ d.secs.length ≤ 4096 ∧ d.pend.length ≤ 4096 ∧ -1 ≤ d.left ∧ d.left ≤ 65536 ∧ (∀ x ∈ d.pend, okW d.secs.length x) ∧ ∀ s ∈ d.secs, s.length = 128
instance (n : Nat) (x : Wr) : Decidable (okW n x) := by unfold okW; infer_instance
instance (d : Dsk) : Decidable (okD d) := by unfold okD; infer_instance
def dskE (d : Dsk) : Int := if okD d then 0 else 40
def tWr : Ty Wr := tMap (tPair tInt (tSl tU8)) fun x => (x.at_, x.data)
structure DskR (D : Nat → Prop) (w : World) (cs : List Value) (d : Dsk) : Prop where
  of_ ::
  ex : ∃ A n c B m c2, cs = [.slice A n c, .slice B m c2, iv d.left, .bool d.stop] ∧ SlR (tSl tU8) D w A n d.secs ∧ n ≤ c ∧ SlR tWr D w B m d.pend ∧ m ≤ c2 ∧ I64 d.left
theorem DskR.ext {D : Nat → Prop} {w w' : World} {cs : List Value} {d : Dsk} (h : DskR D w cs d) (k : Ext w w') : DskR D w' cs d :=
  let ⟨A, n, c, B, m, c2, h1, h2, h3, h4, h5⟩ := h.ex; ⟨A, n, c, B, m, c2, h1, h2.ext k, h3, h4.ext k, h5⟩
theorem DskR.more {D D' : Nat → Prop} {w : World} {cs : List Value} {d : Dsk} (h : DskR D w cs d) (hd : ∀ b, b < w.heap.size → D b → D' b) : DskR D' w cs d :=
  let ⟨A, n, c, B, m, c2, h1, h2, h3, h4, h5⟩ := h.ex; ⟨A, n, c, B, m, c2, h1, h2.more (by decide) hd, h3, h4.more (by decide) hd, h5⟩
theorem wr_ex {D : Nat → Prop} {w : World} {cs : List Value} {x : Wr} (h : tWr.rep D w cs x) : ∃ A n c, cs = [iv x.at_, .slice A n c] ∧ SlR tU8 D w A n x.data ∧ n ≤ c ∧ I64 x.at_ := by
  obtain ⟨c1, c2, h1, ⟨h2, h3⟩, A, n, c, h4, h5, h6⟩ := h; subst h2; subst h4; exact ⟨A, n, c, h1, h5, h6, h3⟩
section
variable {D : Nat → Prop} {w : World}
theorem c_isSector {A : Option Addr} {n c : Nat} : CallZ Tryz.prog 156 #[.slice A n c] w (fun v w' => v = .bool (decide (n = 128)) ∧ w' = w) := by
  refine fn_rule (args := [.slice A n c]) Tryz.func156 (by kernel_rfl) ?_; refine len ?_; refine cB (decide (n = 128)) (decide_eq_decide.2 (by omega)) ?_; exact ret1 (.bool (decide (n = 128))) rfl ⟨rfl, rfl⟩
theorem c_dCheck2 {A : Option Addr} {n c : Nat} : CallZ Tryz.prog 159 #[.slice A n c] w (fun v w' => v = .bool (decide (n ≠ 128)) ∧ w' = w) := by
  refine fn_rule (args := [.slice A n c]) Tryz.func159 (by kernel_rfl) ?_; refine callB c_isSector (fun h => ?_) (fun h => ?_)
  · exact ret1 (.bool false) rfl ⟨by rw [decide_eq_false (by have := of_decide_eq_true h; omega)], rfl⟩
  · exact ret1 (.bool true) rfl ⟨by rw [decide_eq_true (of_decide_eq_false h)], rfl⟩
theorem c_idxSf {A : Option Addr} {n c : Nat} {l : List (List Nat)} (hs : SlR (tSl tU8) D w A n l) : CallZ Tryz.prog 214 #[.slice A n c, .func (.func 159) #[] #[]] w (fun v w' => ∃ i : Int, v = iv i ∧ (0 ≤ i ↔ ¬ ∀ s ∈ l, s.length = 128) ∧ w' = w) := by
  refine fn_rule (args := [.slice A n c, .func (.func 159) #[] #[]]) Tryz.func214 (by kernel_rfl) ?_; have hlen := hs.len; have hle := hs.le; refine len ?_; refine loop_rule (fun k : Nat => [(8, iv (k : Int))]) (fun k u => k ≤ n ∧ u = w ∧ ∀ s ∈ l.take k, s.length = 128) (fun k _ => n - k) 0 ⟨rfl, trivial⟩ ⟨by omega, rfl, fun x hx => by simp at hx⟩ rfl ?_; rintro G k u ⟨hk, hu, ha⟩; refine cD (fun hlt => ?_) (fun hge => ?_)
  · obtain ⟨bx, o, cs, x, rfl, hx, -, -, hc, A2, n2, c2, rfl, hs2, hc2⟩ := hs.at_ (k := k) (by omega); subst hu; have hx2 := hs2.len; refine idx k rfl (by omega) ?_; refine ld (.slice A2 n2 c2) (hc 0 _ rfl) ?_; refine callB c_dCheck2 (fun hq => ?_) (fun hq => ?_)
    · refine ret1 (iv (k : Int)) rfl ⟨k, rfl, ⟨fun _ h => ?_, fun _ => by omega⟩, rfl⟩; exact (of_decide_eq_true hq) (by rw [← hx2]; exact h x (List.mem_of_getElem? hx))
    · refine arI (n := (k : Int) + 1) (by omega) ?_; refine next (k + 1) ⟨by rw [Int.natCast_add]; rfl, trivial⟩ ⟨by omega, rfl, fun y hy => ?_⟩ (by omega); rw [List.take_add_one, hx] at hy; rcases List.mem_append.1 hy with hy | hy
      · exact ha y hy
      · have e : y = x := by simpa using hy
        subst e; have := of_decide_eq_false hq; omega
  · rw [List.take_of_length_le (by omega)] at ha; exact ret1 (iv (-1)) rfl ⟨-1, rfl, ⟨fun h => by omega, fun h => absurd ha h⟩, hu⟩
theorem c_contS {A : Option Addr} {n c : Nat} {l : List (List Nat)} (hs : SlR (tSl tU8) D w A n l) : CallZ Tryz.prog 158 #[.slice A n c, .func (.func 159) #[] #[]] w (fun v w' => v = .bool (decide (¬ ∀ s ∈ l, s.length = 128)) ∧ w' = w) := by
  refine fn_rule (args := [.slice A n c, .func (.func 159) #[] #[]]) Tryz.func158 (by kernel_rfl) ?_; refine call_of (c_idxSf hs) ?_; rintro _ w2 ⟨i, rfl, hi, rfl⟩; refine cD (fun h => ?_) (fun h => ?_)
  · exact ret1 (.bool true) rfl ⟨by rw [decide_eq_true (hi.1 h)], rfl⟩
  · exact ret1 (.bool false) rfl ⟨by rw [decide_eq_false (fun q => h (hi.2 q))], rfl⟩
theorem c_dCheck1 {A : Option Addr} {n c p N : Nat} {x : Wr} (hp : Blk w p 3 [iv (N : Int)]) (hs : SlR tU8 D w A n x.data) : CallZ Tryz.prog 155 #[.agg #[iv x.at_, .slice A n c], ptr p] w (fun v w' => v = .bool (decide (¬ okW N x)) ∧ Ext w w') := by
  refine fn_rule (args := [.agg #[iv x.at_, .slice A n c], ptr p]) Tryz.func155 (by kernel_rfl) ?_; have hlen := hs.len; refine box (fun g w1 h1 => ?_); have B : Blk w1 g 104 [iv x.at_, .slice A n c] := h1.blk; have Bp := hp.ext h1.ext; refine fldA ?_; refine ld (iv x.at_) (B.cell rfl) ?_; refine cD (fun h => ?_) (fun h0 => ?_)
  · exact ret1 (.bool true) rfl ⟨by rw [decide_eq_true (show ¬ okW N x from fun q => by have := q.1; omega)], h1.ext⟩
  refine fldA ?_; refine ld (iv x.at_) (B.cell rfl) ?_; refine ld (iv (N : Int)) (Bp.cell rfl) ?_; refine cD (fun h => ?_) (fun h1' => ?_)
  · exact ret1 (.bool true) rfl ⟨by rw [decide_eq_true (show ¬ okW N x from fun q => by have := q.2.1; omega)], h1.ext⟩
  refine fldA ?_; refine ld (.slice A n c) (B.cell rfl) ?_; refine callB c_isSector (fun h => ?_) (fun h => ?_)
  · have h := of_decide_eq_true h; exact ret1 (.bool false) rfl ⟨by rw [decide_eq_false (fun q => q ⟨by omega, by omega, by omega⟩)], h1.ext⟩
  · have h := of_decide_eq_false h; exact ret1 (.bool true) rfl ⟨by rw [decide_eq_true (show ¬ okW N x from fun q => by have := q.2.2; omega)], h1.ext⟩
theorem c_idxWf {A : Option Addr} {n c p N : Nat} {l : List Wr} (hp : Blk w p 3 [iv (N : Int)]) (hs : SlR tWr D w A n l) : CallZ Tryz.prog 213 #[.slice A n c, .func (.func 155) #[] #[ptr p]] w (fun v w' => ∃ i : Int, v = iv i ∧ (0 ≤ i ↔ ¬ ∀ x ∈ l, okW N x) ∧ Ext w w') := by
  refine fn_rule (args := [.slice A n c, .func (.func 155) #[] #[ptr p]]) Tryz.func213 (by kernel_rfl) ?_; have hlen := hs.len; have hle := hs.le; refine len ?_; refine loop_rule (fun k : Nat => [(8, iv (k : Int))]) (fun k u => k ≤ n ∧ Ext w u ∧ ∀ x ∈ l.take k, okW N x) (fun k _ => n - k) 0 ⟨rfl, trivial⟩ ⟨by omega, .refl _ _, fun x hx => by simp at hx⟩ rfl ?_; rintro G k u ⟨hk, xu, ha⟩; refine cD (fun hlt => ?_) (fun hge => ?_)
  · obtain ⟨bx, o, cs, x, rfl, hx, -, -, hc, hrep⟩ := (hs.ext xu).at_ (k := k) (by omega); obtain ⟨A2, n2, c2, rfl, hs2, hc2, hI⟩ := wr_ex hrep; refine idx k rfl (by omega) ?_; refine ldA [iv x.at_, .slice A2 n2 c2] hc rfl ?_; refine callE (c_dCheck1 (hp.ext xu) hs2) (fun w2 hq x2 => ?_) (fun w2 hq x2 => ?_)
    · refine ret1 (iv (k : Int)) rfl ⟨k, rfl, ⟨fun _ h => ?_, fun _ => by omega⟩, xu.trans x2⟩; exact (of_decide_eq_true hq) (h x (List.mem_of_getElem? hx))
    · refine arI (n := (k : Int) + 1) (by omega) ?_; refine next (k + 1) ⟨by rw [Int.natCast_add]; rfl, trivial⟩ ⟨by omega, xu.trans x2, fun y hy => ?_⟩ (by omega); rw [List.take_add_one, hx] at hy; rcases List.mem_append.1 hy with hy | hy
      · exact ha y hy
      · have e : y = x := by simpa using hy
        subst e; exact Decidable.not_not.1 (of_decide_eq_false hq)
  · rw [List.take_of_length_le (by omega)] at ha; exact ret1 (iv (-1)) rfl ⟨-1, rfl, ⟨fun h => by omega, fun h => absurd ha h⟩, xu⟩
theorem c_contW {A : Option Addr} {n c p N : Nat} {l : List Wr} (hp : Blk w p 3 [iv (N : Int)]) (hs : SlR tWr D w A n l) : CallZ Tryz.prog 157 #[.slice A n c, .func (.func 155) #[] #[ptr p]] w (fun v w' => v = .bool (decide (¬ ∀ x ∈ l, okW N x)) ∧ Ext w w') := by
  refine fn_rule (args := [.slice A n c, .func (.func 155) #[] #[ptr p]]) Tryz.func157 (by kernel_rfl) ?_; refine call_of (c_idxWf hp hs) ?_; rintro _ w2 ⟨i, rfl, hi, x2⟩; refine cD (fun h => ?_) (fun h => ?_)
  · exact ret1 (.bool true) rfl ⟨by rw [decide_eq_true (hi.1 h)], x2⟩
  · exact ret1 (.bool false) rfl ⟨by rw [decide_eq_false (fun q => h (hi.2 q))], x2⟩
theorem c_dCheck {d : Dsk} {cs : List Value} (hd : DskR D w cs d) : CallZ Tryz.prog 90 #[.agg cs.toArray] w (fun v w' => v = iv (dskE d) ∧ Ext w w') := by
  obtain ⟨A, n, c, B, m, c2, rfl, hs, hc, hp, hc2, hI⟩ := hd.ex; have l1 := hs.len; have l2 := hp.len; refine fn_rule (args := [.agg #[.slice A n c, .slice B m c2, iv d.left, .bool d.stop]]) Tryz.func90 (by kernel_rfl) ?_; have bad : ∀ {w'}, Ext w w' → ¬ okD d → (iv 40 = iv (dskE d) ∧ Ext w w') := fun x h => ⟨by unfold dskE; rw [if_neg h], x⟩; refine box (fun g w1 h1 => ?_); have G1 : Blk w1 g 44 [.slice A n c, .slice B m c2, iv d.left, .bool d.stop] := h1.blk; refine fldA ?_; refine ld (.slice A n c) (G1.cell rfl) ?_; refine len ?_; refine alloc (fun b3 w2 h2 => ?_); refine st1 (v := iv (n : Int)) h2.blk rfl (fun w3 B3 k3 => ?_); have e2 := h2.at_; have B3 : Blk w3 b3 3 [iv (n : Int)] := B3
  have x13 : Ext w1 w3 := h2.ext.then k3 fun i hi _ e => by omega
  have x03 := h1.ext.trans x13; have G3 := G1.ext x13; refine ld (iv (n : Int)) (B3.cell rfl) ?_; refine cD (fun h => ?_) (fun h1' => ?_)
  · exact ret1 (iv 40) rfl (bad x03 fun q => by have := q.1; omega)
  refine ld (iv (n : Int)) (B3.cell rfl) ?_; refine cD (fun h => ?_) (fun h2' => ?_)
  · exact ret1 (iv 40) rfl (bad x03 fun q => by have := q.2.1; omega)
  refine fldA ?_; refine ld (.slice B m c2) (G3.cell rfl) ?_; refine len ?_; refine cD (fun h => ?_) (fun h3' => ?_)
  · exact ret1 (iv 40) rfl (bad x03 fun q => by have := q.2.2.1; omega)
  refine fldA ?_; refine ld (iv d.left) (G3.cell rfl) ?_; refine cD (fun h => ?_) (fun h4' => ?_)
  · exact ret1 (iv 40) rfl (bad x03 fun q => by have := q.2.2.2.1; omega)
  refine fldA ?_; refine ld (iv d.left) (G3.cell rfl) ?_; refine cD (fun h => ?_) (fun h5' => ?_)
  · exact ret1 (iv 40) rfl (bad x03 fun q => by have := q.2.2.2.2.1; omega)
  refine fldA ?_; refine ld (.slice B m c2) (G3.cell rfl) ?_; refine callE (c_contW B3 (hp.ext x03)) (fun w4 hq x4 => ?_) (fun w4 hq x4 => ?_)
  · exact ret1 (iv 40) rfl (bad (x03.trans x4) fun q => (of_decide_eq_true hq) (by have := q.2.2.2.2.2.1; rw [l1] at this; exact this))
  have hq1 := Decidable.not_not.1 (of_decide_eq_false hq); refine fldA ?_; refine ld (.slice A n c) ((G3.ext x4).cell rfl) ?_; refine callB (c_contS ((hs.ext x03).ext x4)) (fun hq => ?_) (fun hq => ?_)
  · exact ret1 (iv 40) rfl (bad (x03.trans x4) fun q => (of_decide_eq_true hq) q.2.2.2.2.2.2)
  have hq2 := Decidable.not_not.1 (of_decide_eq_false hq); exact ret1 (iv 0) rfl ⟨by unfold dskE; rw [if_pos ⟨by omega, by omega, by omega, by omega, by omega, by rw [l1]; exact hq1, hq2⟩], x03.trans x4⟩
end
section
variable {α : Type} {a : Ty α} {D : Nat → Prop} {w : World}
theorem SlR.none0 {n : Nat} {xs : List α} (h : SlR a D w none n xs) : n = 0 := by
  by_cases h0 : 0 < n
  · obtain ⟨b, o, cs, x, e, _⟩ := h.at_ (k := 0) h0
    cases e
  · omega
theorem Src.ext {w w' : World} {A : Option Addr} {m sz : Nat} {news : List Value} (h : Src w A m sz news) (k : Ext w w') : Src w' A m sz news := ⟨h.1, fun hm => let ⟨b, o, e, hc⟩ := h.2 hm; ⟨b, o, e, hc.kept k trivial⟩⟩
theorem SlR.srcs {A : Option Addr} {n : Nat} {xs : List α} (h : SlR a D w A n xs) : ∃ cs, Src w A n a.sz cs ∧ FlatR a D w xs cs := by
  rcases Nat.eq_zero_or_pos n with h0 | h0
  · subst h0; have : xs = [] := List.eq_nil_of_length_eq_zero h.len; subst this; exact ⟨[], ⟨by simp, fun h => by omega⟩, rfl⟩
  · obtain ⟨b, o, cs, x, rfl, _⟩ := h.at_ (k := 0) h0; obtain ⟨cs, hf, hc⟩ := h.cells; refine ⟨cs, ⟨by rw [hf.len, h.len], fun _ => ⟨b, o, rfl, hc⟩⟩, hf⟩
end
theorem flatS_one {D : Nat → Prop} {w : World} : ∀ {l : List (List Nat)} {cs : List Value}, FlatR (tSl tU8) D w l cs → (cs.all fun u => u.oneCell') = true
  | [], _, h => by subst h; rfl
  | _ :: _, _, ⟨c, r, h, ⟨A, n, c', h1, _⟩, h2⟩ => by
    subst h; subst h1
    rw [List.all_append, flatS_one h2]; rfl
theorem flatW_one {D : Nat → Prop} {w : World} : ∀ {l : List Wr} {cs : List Value}, FlatR tWr D w l cs → (cs.all fun u => u.oneCell') = true
  | [], _, h => by subst h; rfl
  | _ :: _, _, ⟨c, r, h, h1, h2⟩ => by
    obtain ⟨A, n, c', h3, _⟩ := wr_ex h1
    subst h; subst h3
    rw [List.all_append, flatW_one h2]; rfl
section
variable {D : Nat → Prop} {w : World}
theorem c_cloneW {A : Option Addr} {n c : Nat} {l : List Wr} (hs : SlR tWr D w A n l) (hn : n ≤ 1000000) : CallZ Tryz.prog 173 #[.slice A n c] w (fun v w' => ∃ A' c' cs, v = .slice A' n c' ∧ OwnF w w' A' n c' 104 2 cs ∧ FlatR tWr D w' l cs) := by
  have hl := hs.len; refine fn_rule (args := [.slice A n c]) Tryz.func173 (by kernel_rfl) ?_; refine eqNilL (fun hA => ?_) (fun hA => ?_)
  · subst hA; have h0 := hs.none0; subst h0; have hx : l = [] := List.eq_nil_of_length_eq_zero (by omega); subst hx; exact ret1 (.slice none 0 0) rfl ⟨none, 0, [], rfl, .nil (.refl _ _), rfl⟩
  · refine lit [] (fun g w1 h1 => ?_); have o1 : OwnF w w1 (some (ad g 0)) 0 0 104 2 [] := OwnF.lit (cs := []) (.refl _ _) h1 rfl; obtain ⟨cs, hsrc, hf⟩ := hs.srcs; refine appF o1 (hsrc.ext h1.ext) (by omega) (fun A' c' w2 o2 k2 hA' => ?_) (h1 := flatW_one hf); rw [Nat.zero_add, List.nil_append] at o2; exact ret1 (.slice A' (0 + n) c') rfl ⟨A', c', cs, by rw [Nat.zero_add], o2, hf.keep fun b hb _ => o2.ext.blk b hb trivial⟩
theorem c_cloneS {A : Option Addr} {n c : Nat} {l : List (List Nat)} (hs : SlR (tSl tU8) D w A n l) (hn : n ≤ 1000000) : CallZ Tryz.prog 222 #[.slice A n c] w (fun v w' => ∃ A' c' cs, v = .slice A' n c' ∧ OwnF w w' A' n c' 102 1 cs ∧ FlatR (tSl tU8) D w' l cs) := by
  have hl := hs.len; refine fn_rule (args := [.slice A n c]) Tryz.func222 (by kernel_rfl) ?_; refine eqNilL (fun hA => ?_) (fun hA => ?_)
  · subst hA; have h0 := hs.none0; subst h0; have hx : l = [] := List.eq_nil_of_length_eq_zero (by omega); subst hx; exact ret1 (.slice none 0 0) rfl ⟨none, 0, [], rfl, .nil (.refl _ _), rfl⟩
  · refine lit [] (fun g w1 h1 => ?_); have o1 : OwnF w w1 (some (ad g 0)) 0 0 102 1 [] := OwnF.lit (cs := []) (.refl _ _) h1 rfl; obtain ⟨cs, hsrc, hf⟩ := hs.srcs; refine appF o1 (hsrc.ext h1.ext) (by omega) (fun A' c' w2 o2 k2 hA' => ?_) (h1 := flatS_one hf); rw [Nat.zero_add, List.nil_append] at o2; exact ret1 (.slice A' (0 + n) c') rfl ⟨A', c', cs, by rw [Nat.zero_add], o2, hf.keep fun b hb _ => o2.ext.blk b hb trivial⟩
theorem c_cloneB {A : Option Addr} {n c : Nat} {l : List Nat} (hs : SlR tU8 D w A n l) (hn : n ≤ 1000000) : CallZ Tryz.prog 104 #[.slice A n c] w (fun v w' => ∃ A' c', v = .slice A' n c' ∧ OwnF w w' A' n c' 5 1 (u8s l)) := by
  have hl := hs.len; refine fn_rule (args := [.slice A n c]) Tryz.func104 (by kernel_rfl) ?_; refine eqNilL (fun hA => ?_) (fun hA => ?_)
  · subst hA; have h0 := hs.none0; subst h0; have hx : l = [] := List.eq_nil_of_length_eq_zero (by omega); subst hx; exact ret1 (.slice none 0 0) rfl ⟨none, 0, rfl, .nil (.refl _ _)⟩
  · refine lit [] (fun g w1 h1 => ?_); have o1 : OwnF w w1 (some (ad g 0)) 0 0 5 1 [] := OwnF.lit (cs := []) (.refl _ _) h1 rfl; refine appF o1 ((hs.ext h1.ext).u8src) (by omega) (fun A' c' w2 o2 k2 hA' => ?_) (h1 := u8s_one l); rw [Nat.zero_add, List.nil_append] at o2; exact ret1 (.slice A' (0 + n) c') rfl ⟨A', c', by rw [Nat.zero_add], o2⟩
theorem c_clipW {A : Option Addr} {n c : Nat} {l : List Wr} (hs : SlR tWr D w A n l) (hc : n ≤ c) : CallZ Tryz.prog 172 #[.slice A n c] w (fun v w' => ∃ A', v = .slice A' n n ∧ (∀ (D' : Nat → Prop) (u : World), SlR tWr D' u A n l → SlR tWr D' u A' n l) ∧ w' = w) := by
  have hl := hs.len; refine fn_rule (args := [.slice A n c]) Tryz.func172 (by kernel_rfl) ?_; refine len ?_; refine len ?_; refine slcM 0 n n hs rfl rfl rfl (by omega) (Nat.le_refl _) (Nat.le_refl _) hc rfl (fun A2 hA2 => ?_); refine ret1 (.slice A2 (n - 0) (n - 0)) rfl ⟨A2, rfl, fun D' u h => ?_, rfl⟩; have := hA2 D' u h
  rwa [List.drop_zero, List.take_of_length_le (by omega)] at this
theorem c_clipS {A : Option Addr} {n c : Nat} {l : List (List Nat)} (hs : SlR (tSl tU8) D w A n l) (hc : n ≤ c) : CallZ Tryz.prog 103 #[.slice A n c] w (fun v w' => ∃ A', v = .slice A' n n ∧ (∀ (D' : Nat → Prop) (u : World), SlR (tSl tU8) D' u A n l → SlR (tSl tU8) D' u A' n l) ∧ w' = w) := by
  have hl := hs.len; refine fn_rule (args := [.slice A n c]) Tryz.func103 (by kernel_rfl) ?_; refine len ?_; refine len ?_; refine slcM 0 n n hs rfl rfl rfl (by omega) (Nat.le_refl _) (Nat.le_refl _) hc rfl (fun A2 hA2 => ?_); refine ret1 (.slice A2 (n - 0) (n - 0)) rfl ⟨A2, rfl, fun D' u h => ?_, rfl⟩; have := hA2 D' u h
  rwa [List.drop_zero, List.take_of_length_le (by omega)] at this
def runsB (d : Dsk) : Bool := decide (okD d ∧ d.stop = false)
theorem dskE_0 {d : Dsk} : dskE d = 0 ↔ okD d := by unfold dskE; split <;> simp [*]
theorem c_druns {d : Dsk} {cs : List Value} (hd : DskR D w cs d) : CallZ Tryz.prog 76 #[.agg cs.toArray] w (fun v w' => v = .bool (runsB d) ∧ Ext w w') := by
  obtain ⟨A, n, c, B, m, c2, rfl, hs, hc, hp, hc2, hI⟩ := hd.ex; refine fn_rule (args := [.agg #[.slice A n c, .slice B m c2, iv d.left, .bool d.stop]]) Tryz.func76 (by kernel_rfl) ?_; refine box (fun g w1 h1 => ?_); have G1 : Blk w1 g 44 [.slice A n c, .slice B m c2, iv d.left, .bool d.stop] := h1.blk; refine ldA [.slice A n c, .slice B m c2, iv d.left, .bool d.stop] (.blk G1) rfl ?_; refine call_of (c_dCheck (hd.ext h1.ext)) ?_; rintro _ w2 ⟨rfl, x2⟩; refine cE (fun h => ?_) (fun h => ?_)
  · have hok := dskE_0.1 h
    cases hst : d.stop with
    | false =>
      refine fldA ?_; refine ld (.bool false) ((G1.ext x2).cell (by rw [hst]; rfl)) ?_; refine ret1 (.bool true) rfl ⟨?_, h1.ext.trans x2⟩; unfold runsB; rw [decide_eq_true ⟨hok, hst⟩]
    | true =>
      refine fldA ?_; refine ld (.bool true) ((G1.ext x2).cell (by rw [hst]; rfl)) ?_; refine ret1 (.bool false) rfl ⟨?_, h1.ext.trans x2⟩; unfold runsB; rw [decide_eq_false (fun q => by rw [hst] at q; cases q.2)]
  · refine ret1 (.bool false) rfl ⟨?_, h1.ext.trans x2⟩; unfold runsB; rw [decide_eq_false (fun q => h (dskE_0.2 q.1))]
def dhasB (d : Dsk) (i : Int) : Bool := decide (0 ≤ i ∧ i < d.secs.length)
theorem c_dhas {d : Dsk} {cs : List Value} {i : Int} (hd : DskR D w cs d) : CallZ Tryz.prog 171 #[.agg cs.toArray, iv i] w (fun v w' => v = .bool (dhasB d i) ∧ Ext w w') := by
  obtain ⟨A, n, c, B, m, c2, rfl, hs, hc, hp, hc2, hI⟩ := hd.ex; have hl := hs.len; refine fn_rule (args := [.agg #[.slice A n c, .slice B m c2, iv d.left, .bool d.stop], iv i]) Tryz.func171 (by kernel_rfl) ?_; refine box (fun g w1 h1 => ?_); have G1 : Blk w1 g 44 [.slice A n c, .slice B m c2, iv d.left, .bool d.stop] := h1.blk; refine cD (fun h => ?_) (fun h => ?_)
  · refine fldA ?_; refine ld (.slice A n c) (G1.cell rfl) ?_; refine len ?_; refine cD (fun h2 => ?_) (fun h2 => ?_)
    · exact ret1 (.bool true) rfl ⟨by unfold dhasB; rw [decide_eq_true ⟨h, by rw [hl]; exact h2⟩], h1.ext⟩
    · exact ret1 (.bool false) rfl ⟨by unfold dhasB; rw [decide_eq_false (fun q => h2 (by rw [← hl]; exact q.2))], h1.ext⟩
  · exact ret1 (.bool false) rfl ⟨by unfold dhasB; rw [decide_eq_false (fun q => h q.1)], h1.ext⟩
end
abbrev zeroD : Dsk := ⟨[], [], 0, false⟩
abbrev zeroDC : List Value := [.slice none 0 0, .slice none 0 0, iv 0, .bool false]
theorem zeroD_r {D : Nat → Prop} {w : World} : DskR D w zeroDC zeroD := ⟨⟨none, 0, 0, none, 0, 0, rfl, .nil, Nat.le_refl _, .nil, Nat.le_refl _, (show I64 0 by unfold I64; omega)⟩⟩
def padB (b : List Nat) : List Nat := b ++ List.replicate (128 - b.length) 0
noncomputable def writeP (d : Dsk) (i : Int) (b : List Nat) : Dsk × Int :=
  if ¬ (runsB d = true ∧ dhasB d i = true) then (zeroD, 40) else if 128 < b.length then (zeroD, 1) else if d.pend.length = 4096 then (zeroD, 2) else (⟨d.secs, d.pend ++ [⟨i, padB b⟩], d.left, d.stop⟩, 0)
def RetD (w w' : World) (v : Value) (p : Dsk × Int) : Prop := ∃ cs, v = .tuple #[.agg cs.toArray, iv p.2] ∧ DskR (fun _ => True) w' cs p.1 ∧ Ext w w'
def RetE (D : Nat → Prop) (w w' : World) (v : Value) (p : Dsk × Int) : Prop := ∃ cs, v = .tuple #[.agg cs.toArray, iv p.2] ∧ DskR (fun b => D b ∨ w.heap.size ≤ b) w' cs p.1 ∧ Ext w w'
theorem flatW_app {D : Nat → Prop} {w : World} {l : List Wr} {cs : List Value} {x : Wr} {A : Option Addr} {n c : Nat} (h : FlatR tWr D w l cs) (hs : SlR tU8 D w A n x.data) (hc : n ≤ c) (hI : I64 x.at_) : FlatR tWr D w (l ++ [x]) (cs ++ [iv x.at_, .slice A n c]) :=
  h.app (FlatR.one ⟨[iv x.at_], [.slice A n c], rfl, ⟨rfl, hI⟩, A, n, c, rfl, hs, hc⟩)
theorem padB_len {b : List Nat} (h : b.length ≤ 128) : (padB b).length = 128 := by unfold padB; rw [List.length_append, List.length_replicate]; omega
theorem padB_lt {b : List Nat} (h : ∀ x ∈ b, x < 256) : ∀ x ∈ padB b, x < 256 := fun x hx => by
  unfold padB at hx
  rcases List.mem_append.1 hx with hx | hx
  · exact h x hx
  · rw [List.mem_replicate] at hx; omega
section
variable {D : Nat → Prop} {w : World}
set_option maxRecDepth 8000 in
theorem c_dWriteE {D2 : Nat → Prop} {d : Dsk} {cs : List Value} {i : Int} {E : Option Addr} {k ce : Nat} {b : List Nat} (hd : DskR D w cs d) (hi : I64 i) (hb : SlR tU8 D2 w E k b) : CallZ Tryz.prog 107 #[.agg cs.toArray, iv i, .slice E k ce] w (fun v w' => RetE D w w' v (writeP d i b)) := by
  obtain ⟨A, n, c, B, m, c2, rfl, hs, hc, hp, hc2, hI⟩ := hd.ex; have l2 := hp.len; have lb := hb.len; have hb8 := hb.u8b; have hp := hp.more (D' := fun b => D b ∧ b < w.heap.size) (by decide) fun b hb h => ⟨h, hb⟩; refine fn_rule (args := [.agg #[.slice A n c, .slice B m c2, iv d.left, .bool d.stop], iv i, .slice E k ce]) Tryz.func107 (by kernel_rfl) ?_; refine box (fun g w1 h1 => ?_); have G1 : Blk w1 g 44 [.slice A n c, .slice B m c2, iv d.left, .bool d.stop] := h1.blk; refine alloc (fun b6 w2 h2 => ?_); have R2 : Blk w2 b6 44 zeroDC := h2.blk; have e1 := h1.at_; have e2 := h2.at_; have x02 := h1.ext.trans h2.ext; have s1 := h1.ext.size; have s12 := h2.ext.size; have G2 := G1.ext h2.ext; have lg := G1.lt; refine ldA [.slice A n c, .slice B m c2, iv d.left, .bool d.stop] (.blk G2) rfl ?_
  have bad : ∀ {w3}, Ext w2 w3 → ¬ (runsB d = true ∧ dhasB d i = true) → ∀ we, Kept (fun b => b ≠ b6) w3 we → RetE D w we (.tuple #[.agg zeroDC.toArray, iv 40]) (writeP d i b) := fun {w3} x h we ke => by
    unfold writeP; rw [if_pos h]; exact ⟨zeroDC, rfl, zeroD_r, (x02.trans x).then ke fun j hj _ => by omega⟩
  refine callE (c_druns (hd.ext x02)) (fun w3 hq x3 => ?_) (fun w3 hq x3 => ?_); rotate_left
  · refine ldA zeroDC (.blk (R2.ext x3)) rfl ?_; refine stA (vs := zeroDC) (R2.ext x3) rfl (Nat.le_of_ble_eq_true rfl) (by simp [Value.oneCell']) (fun we Be ke ze => ?_); refine ret ?_; refine resL (.agg (zeroDC).toArray) (holds_agg (.blk Be) rfl) ?_; exact bad x3 (fun q => by rw [hq] at q; cases q.1) we ke
  refine ldA [.slice A n c, .slice B m c2, iv d.left, .bool d.stop] (.blk (G2.ext x3)) rfl ?_; refine callE (c_dhas (hd.ext (x02.trans x3))) (fun w4 hq2 x4 => ?_) (fun w4 hq2 x4 => ?_); rotate_left
  · refine ldA zeroDC (.blk ((R2.ext x3).ext x4)) rfl ?_; refine stA (vs := zeroDC) ((R2.ext x3).ext x4) rfl (Nat.le_of_ble_eq_true rfl) (by simp [Value.oneCell']) (fun we Be ke ze => ?_); refine ret ?_; refine resL (.agg (zeroDC).toArray) (holds_agg (.blk Be) rfl) ?_; exact bad (x3.trans x4) (fun q => by rw [hq2] at q; cases q.2) we ke
  have hrun : ¬ ¬ (runsB d = true ∧ dhasB d i = true) := fun h => h ⟨hq, hq2⟩; have x24 := x3.trans x4; have x04 := x02.trans x24; have R4 := R2.ext x24; have G4 := G2.ext x24; refine len ?_; refine cD (fun h => ?_) (fun h128 => ?_)
  · refine ldA zeroDC (.blk R4) rfl ?_; refine stA (vs := zeroDC) R4 rfl (Nat.le_of_ble_eq_true rfl) (by simp [Value.oneCell']) (fun we Be ke ze => ?_); refine ret ?_; refine resL (.agg (zeroDC).toArray) (holds_agg (.blk Be) rfl) ?_; refine ⟨zeroDC, ?_, ?_, x04.then ke fun j hj _ => by omega⟩
    · unfold writeP; rw [if_neg hrun, if_pos (by omega)]; rfl
    · unfold writeP; rw [if_neg hrun, if_pos (by omega)]; exact zeroD_r
  refine fldA ?_; refine ld (.slice B m c2) (G4.cell rfl) ?_; refine len ?_; refine cE (fun h => ?_) (fun h4096 => ?_)
  · refine ldA zeroDC (.blk R4) rfl ?_; refine stA (vs := zeroDC) R4 rfl (Nat.le_of_ble_eq_true rfl) (by simp [Value.oneCell']) (fun we Be ke ze => ?_); refine ret ?_; refine resL (.agg (zeroDC).toArray) (holds_agg (.blk Be) rfl) ?_; refine ⟨zeroDC, ?_, ?_, x04.then ke fun j hj _ => by omega⟩
    · unfold writeP; rw [if_neg hrun, if_neg (by omega), if_pos (by omega)]; rfl
    · unfold writeP; rw [if_neg hrun, if_neg (by omega), if_pos (by omega)]; exact zeroD_r
  have hok := (of_decide_eq_true hq).1; have hm := hok.2.2.1; refine mslc (sz := 1) (by_ := 1) 128 rfl rfl (by omega) (by omega) rfl (by omega) (fun q w5 h5 => ?_); have B5 : Blk w5 q 5 (List.replicate 128 (uv8 0)) := h5.blk; have e5 := h5.at_; refine cpy (n := 128) (m := k) B5 (by simp only [List.length_replicate]; omega) ((hb.ext x04).ext h5.ext).u8src (fun w6 B6 k6 z6 => ?_) (h1 := u8s_one _)
  have B6 : Blk w6 q 5 (u8s (padB b)) := by
    rw [List.take_zero, List.nil_append, List.take_of_length_le (by rw [List.length_map]; omega), Nat.zero_add, Nat.min_eq_left (by omega), List.drop_replicate] at B6; unfold padB; rw [u8s_app, u8s_rep, lb]; exact B6
  have x46 : Ext w4 w6 := h5.ext.then k6 fun j hj _ e => by omega
  have x06 := x04.trans x46; have G6 := G4.ext x46; have R6 := R4.ext x46; refine fldA ?_; refine ld (.slice B m c2) (G6.cell rfl) ?_; refine call_of (c_cloneW (hp.ext x06) (by omega)) ?_; rintro _ w7 ⟨A7, c7, cs7, rfl, o7, f7⟩; have s06 := x06.size; have s02 := x02.size; have lg6 := G6.lt; have lR6 := R6.lt; have rd7 : SlR tWr (fun j => (D j ∧ j < w.heap.size) ∨ w6.heap.size ≤ j) w7 A7 m d.pend := o7.own.rd (a := tWr) (f7.more fun j _ h => .inl h) l2.symm (by omega) fun j hj => .inr (o7.new j hj); refine call_of (c_clipW rd7 o7.le) ?_; rintro _ _ ⟨A8, rfl, hA8, rfl⟩; have rd8 := hA8 _ _ rd7; have hpl := padB_len (show b.length ≤ 128 by omega); refine bld [iv i, .slice (some (ad q 0)) 128 128] (by kernel_rfl) ?_; refine lit [.agg #[iv i, .slice (some (ad q 0)) 128 128]] (fun q9 w9 h9 => ?_); have B9 : Blk w9 q9 104 [iv i, .slice (some (ad q 0)) 128 128] := h9.blk; obtain ⟨cs8, src8, f8⟩ := rd8.srcs; refine appG (src8.ext h9.ext) (⟨rfl, fun _ => ⟨q9, 0, rfl, .blk B9⟩⟩ : Src w9 (some (ad q9 0)) 1 2 [iv i, .slice (some (ad q 0)) 128 128]) (by omega) (by omega) (fun A10 c10 w10 o10 => ?_) (hA := fun e => by subst e; exact rd8.none0); have G10 : Blk w10 g 44 [.slice A n c, .slice B m c2, iv d.left, .bool d.stop] := ((G6.ext o7.ext).ext h9.ext).ext o10.ext; refine fldA ?_; refine st G10 (Nat.le_of_ble_eq_true rfl) rfl (fun w11 G11 k11 _ => ?_); have G11 : Blk w11 g 44 [.slice A n c, .slice A10 (m + 1) c10, iv d.left, .bool d.stop] := G11; have x6a : Ext w6 w10 := (o7.ext.trans h9.ext).trans o10.ext; have s6 := x06.size; have s6a := x6a.size; have R11 := (R6.ext x6a).kept k11 (show b6 ≠ g by omega); refine ldA [.slice A n c, .slice A10 (m + 1) c10, iv d.left, .bool d.stop] (.blk G11) rfl ?_; refine stA (vs := [.slice A n c, .slice A10 (m + 1) c10, iv d.left, .bool d.stop]) R11 rfl (Nat.le_of_ble_eq_true rfl) (by simp [Value.oneCell']) (fun we Be ke _ => ?_); refine ret ?_; refine resL (.agg #[.slice A n c, .slice A10 (m + 1) c10, iv d.left, .bool d.stop]) (holds_agg (.blk Be) rfl) ?_; have kE : Kept (fun j => j ≠ g ∧ j ≠ b6) w10 we := (k11.weak fun j _ h => h.1).then ke fun j _ h => h.2
  have x10 : Ext w we := (x06.trans x6a).then kE fun j hj _ => by omega
  have xq : Kept (fun j => j ≠ g ∧ j ≠ b6) w6 we := (Ext.any x6a).trans kE
  have hres : writeP d i b = (⟨d.secs, d.pend ++ [⟨i, padB b⟩], d.left, d.stop⟩, 0) := by
    unfold writeP; rw [if_neg hrun, if_neg (by omega), if_neg (by omega)]
  refine ⟨[.slice A n c, .slice A10 (m + 1) c10, iv d.left, .bool d.stop], by rw [hres]; rfl, ?_, x10⟩; rw [hres]; have lB6 := B6.lt; have hdat : SlR tU8 (fun j => j = q) we (some (ad q 0)) 128 (padB b) := SlR.of_cells hpl.symm (by omega) rfl (.blk (B6.kept xq (show q ≠ g ∧ q ≠ b6 by have := x04.size; have := G4.lt; have := R4.lt; omega))) (flat_u8s (padB_lt hb8)); refine ⟨⟨A, n, c, A10, m + 1, c10, rfl, (hs.ext x10).more (by decide) fun _ _ h => .inl h, hc, ?_, o10.le, hI⟩⟩; have x79 := h9.ext.trans o10.ext
  have own := o10.own.kept kE (fun j hj => by
    have h := o10.new j (own_at o10.own hj)
    have := o7.ext.size
    have := h9.ext.size
    omega)
  refine own.rd (a := tWr) (flatW_app ((f8.keep fun j hj h => (Kept.then (D := fun j => j ≠ g ∧ j ≠ b6) (Ext.any x79) kE fun i _ h => h).blk j hj (by omega)).more fun j _ h => h.elim (fun h => .inl h.1) fun h => .inr (by omega)) (hdat.more (by decide) fun j _ (h : j = q) => .inr (by have := x04.size; omega)) (by omega) hi) (by rw [List.length_append, l2]; rfl) (by omega) fun j hj => .inr (by have h := o10.new j hj; have := o7.ext.size; have := h9.ext.size; omega)
end
theorem add64 {K : Value → Prop} {a b : Nat} (h : a + b < 18446744073709551616) (k : K (uv64 (a + b))) : ArP .u64 ((a : Int) + (b : Int)) K := by
  rw [ArP_eq, u64_wrap, ← Int.natCast_add, show (((a + b : Nat) : Int)) % 18446744073709551616 = ((a + b : Nat) : Int) by omega]; exact k
section
variable {D : Nat → Prop} {w : World}
theorem c_bMul64 {n : Nat} (hn : n ≤ 100000) : CallZ Tryz.prog 187 #[uv64 1, uv64 n] w (fun v w' => v = .tuple #[uv64 0, uv64 n] ∧ w' = w) := by
  refine fn_rule (args := [uv64 1, uv64 n]) Tryz.func187 (by kernel_rfl) ?_
  have a1 : 1 &&& 4294967295 = 1 := by decide
  have s0 : ∀ m, m < 4294967296 → m >>> 32 = 0 := fun m h => by rw [Nat.shiftRight_eq_div_pow]; omega
  have an : ∀ m, m < 4294967296 → m &&& 4294967295 = m := fun m h => by
    have := Nat.and_two_pow_sub_one_eq_mod m 32; simp only [show 2 ^ 32 - 1 = 4294967295 from rfl] at this; omega
  refine and64 (a := 1) (b := 4294967295) (by omega) (by omega) ?_; refine shr64 (a := 1) 32 rfl (by omega) ?_; refine and64 (a := n) (b := 4294967295) (by omega) (by omega) ?_; refine shr64 (a := n) 32 rfl (by omega) ?_; rw [an 1 (by omega), an n (by omega), s0 1 (by omega), s0 n (by omega)]; refine mul64 (a := 1) (b := n) (by omega) ?_; refine mul64 (a := 0) (b := n) (by omega) ?_; refine shr64 (a := 1 * n) 32 rfl (by omega) ?_; rw [s0 (1 * n) (by omega)]; refine add64 (a := 0 * n) (b := 0) (by omega) ?_; refine and64 (a := 0 * n + 0) (b := 4294967295) (by omega) (by omega) ?_; refine shr64 (a := 0 * n + 0) 32 rfl (by omega) ?_; rw [an (0 * n + 0) (by omega), s0 (0 * n + 0) (by omega)]; refine mul64 (a := 1) (b := 0) (by omega) ?_; refine add64 (a := 0 * n + 0) (b := 1 * 0) (by omega) ?_; refine mul64 (a := 0) (b := 0) (by omega) ?_; refine add64 (a := 0 * 0) (b := 0) (by omega) ?_; refine shr64 (a := 0 * n + 0 + 1 * 0) 32 rfl (by omega) ?_; rw [s0 (0 * n + 0 + 1 * 0) (by omega)]; refine add64 (a := 0 * 0 + 0) (b := 0) (by omega) ?_; refine mul64 (a := 1) (b := n) (by omega) ?_; refine ret2 (uv64 0) (uv64 n) ?_ ?_ ⟨rfl, rfl⟩
  · rfl
  · show uv64 (1 * n) = uv64 n; rw [Nat.one_mul]
theorem c_bMul {n : Nat} (hn : n ≤ 100000) : CallZ Tryz.prog 124 #[uv64 1, uv64 n] w (fun v w' => v = .tuple #[uv64 0, uv64 n] ∧ w' = w) := by
  refine fn_rule (args := [uv64 1, uv64 n]) Tryz.func124 (by kernel_rfl) ?_; refine call_of (c_bMul64 hn) ?_; rintro _ _ ⟨rfl, rfl⟩; exact ret2 (uv64 0) (uv64 n) rfl rfl ⟨rfl, rfl⟩
theorem rep_cpy {α : Type} {x y : α} {k n j : Nat} (hj : j = min k (n - k)) : (List.replicate k x ++ List.replicate (n - k) y).take k ++ (List.replicate k x).take (n - k) ++ (List.replicate k x ++ List.replicate (n - k) y).drop (k + j) = List.replicate (k + j) x ++ List.replicate (n - (k + j)) y := by
  rw [List.take_append, List.take_of_length_le (by simp), List.length_replicate, Nat.sub_self, List.take_zero, List.append_nil, List.take_replicate, List.drop_append, List.drop_replicate, List.drop_replicate, List.length_replicate, show k - (k + j) = 0 by omega, show k + j - k = j by omega, show n - k - j = n - (k + j) by omega, Nat.min_comm, ← hj, ← List.replicate_append_replicate]; simp
theorem rep_flat {α : Type} {x : α} : ∀ n, (List.replicate n [x]).flatten = List.replicate n x
  | 0 => rfl
  | n + 1 => by rw [List.replicate_succ, List.flatten_cons, rep_flat n]; rfl
set_option maxRecDepth 8000 in
theorem c_repeat {q n : Nat} {B : Option Addr} {m cB : Nat} {t : TypeId} (hq : Blk w q t [.slice B m cB]) (h0 : 1 ≤ n) (hn : n ≤ 4096) : CallZ Tryz.prog 75 #[.slice (some (ad q 0)) 1 1, iv (n : Int)] w (fun v w' => ∃ g, v = .slice (some (ad g 0)) n n ∧ w.heap.size ≤ g ∧ Blk w' g 102 (List.replicate n (.slice B m cB)) ∧ Ext w w') := by
  refine fn_rule (args := [.slice (some (ad q 0)) 1 1, iv (n : Int)]) Tryz.func75 (by kernel_rfl) ?_; refine cD (fun h => absurd h (by omega)) (fun _ => ?_); refine len ?_; refine cv64 1 rfl ?_; refine cv64 n rfl ?_; rw [Nat.mod_eq_of_lt (show n < 18446744073709551616 by omega)]; refine call_of (c_bMul (by omega)) ?_; rintro _ _ ⟨rfl, rfl⟩; refine cD (fun h => absurd h (by omega)) (fun _ => ?_); refine cD (fun h => absurd h (by omega)) (fun _ => ?_); refine cvI (by omega) ?_; refine mslc (sz := 1) (by_ := 24) n rfl rfl (by omega) (by omega) rfl (by omega) (fun g w1 h1 => ?_); have e1 := h1.at_
  have B1 : Blk w1 g 102 (List.replicate n (.slice none 0 0)) := by
    have := h1.blk; rw [show cellsL (.slice none 0 0) = [.slice none 0 0] from rfl, rep_flat] at this; exact this
  refine cpy (n := n) (m := 1) B1 (by rw [List.length_replicate]; omega) (⟨rfl, fun _ => ⟨q, 0, rfl, .blk (hq.ext h1.ext)⟩⟩ : Src w1 (some (ad q 0)) 1 1 [.slice B m cB]) (fun w2 B2 k2 _ => ?_); obtain ⟨S, hS⟩ : ∃ S, S = Value.slice B m cB := ⟨_, rfl⟩; rw [← hS] at B2 ⊢
  have B2 : Blk w2 g 102 (List.replicate 1 S ++ List.replicate (n - 1) (.slice none 0 0)) := by
    rw [List.take_zero, List.nil_append, List.take_of_length_le (by show 1 ≤ n; omega), Nat.zero_add, Nat.min_eq_left (by omega), List.drop_replicate] at B2; exact B2
  have hS1 : S.oneCell' = true := by rw [hS]; rfl
  have h1s : ∀ k, ((List.replicate k S).all fun u => u.oneCell') = true := fun k => by
    rw [List.all_replicate, hS1]; simp
  have hmin : min 1 n = 1 := Nat.min_eq_left h0; refine loop_rule (fun k : Nat => [(8, iv (k : Int))]) (fun k u => 1 ≤ k ∧ k ≤ n ∧ Blk u g 102 (List.replicate k S ++ List.replicate (n - k) (.slice none 0 0)) ∧ Kept (fun b => b ≠ g) w1 u) (fun k _ => n - k) 1 ⟨by rw [hmin]; rfl, trivial⟩ ⟨Nat.le_refl _, h0, B2, k2⟩ rfl ?_; rintro G k u ⟨hk1, hkn, Bu, ku⟩; refine len ?_; refine cD (fun hlt => ?_) (fun hge => ?_)
  · have hlen : (List.replicate k S ++ List.replicate (n - k) (Value.slice none 0 0)).length = n := by rw [List.length_append, List.length_replicate, List.length_replicate]; omega
    refine drawP (.take 0 (.take 1 (.take 2 (.take 3 (.take 4 (.take 5 (.take 6 (.eff 7 (.take 8 (.take 9 .done)))))))))) [] (fun _ => True) mx (by kernel_rfl) trivial ?_; refine slcA k n rfl rfl (by omega) (by omega) (by omega) ?_; refine slcA 0 k rfl rfl (by omega) (by omega) (by omega) ?_; refine cpy (n := n - k) (m := k) Bu (by rw [hlen]; omega) (⟨by simp, fun _ => ⟨g, 0, rfl, (CellsAt.app (CellsAt.blk Bu)).1⟩⟩ : Src u (some (ad g 0)) k 1 (List.replicate k S)) (fun w3 B3 k3 _ => ?_) (h1 := h1s k); refine strS trivial ?_; rw [Nat.zero_add, Nat.mul_one, rep_cpy rfl] at B3; refine arI (n := (k : Int) + ((min k (n - k) : Nat) : Int)) (by omega) ?_; exact next (k + min k (n - k)) ⟨by rw [Int.natCast_add]; rfl, trivial⟩ ⟨by omega, by omega, B3, ku.trans k3⟩ (by omega)
  · have hk : k = n := by omega
    subst hk; rw [Nat.sub_self, List.replicate_zero, List.append_nil] at Bu; exact ret1 (.slice (some (ad g 0)) k k) rfl ⟨g, rfl, by omega, Bu, h1.ext.then ku fun i hi _ e => by omega⟩
def newP (n : Int) : Dsk × Int := if n < 1 ∨ n > 4096 then (zeroD, 1) else (⟨List.replicate n.toNat (List.replicate 128 0), [], -1, false⟩, 0)
theorem flat_rep {D : Nat → Prop} {w : World} {A : Option Addr} {m c : Nat} {b : List Nat} (hs : SlR tU8 D w A m b) (hc : m ≤ c) : ∀ n, FlatR (tSl tU8) D w (List.replicate n b) (List.replicate n (.slice A m c))
  | 0 => rfl
  | n + 1 => ⟨[.slice A m c], List.replicate n (.slice A m c), rfl, ⟨A, m, c, rfl, hs, hc⟩, flat_rep hs hc n⟩
set_option maxRecDepth 8000 in
theorem c_dNew {n : Int} (hI : I64 n) : CallZ Tryz.prog 33 #[iv n] w (fun v w' => RetD w w' v (newP n)) := by
  refine fn_rule (args := [iv n]) Tryz.func33 (by kernel_rfl) ?_; refine alloc (fun b2 w1 h1 => ?_); have R1 : Blk w1 b2 44 zeroDC := h1.blk; have e1 := h1.at_; have x1 := h1.ext; refine cD (fun h => ?_) (fun h1' => ?_)
  · refine ldA zeroDC (.blk R1) rfl ?_; refine stA (vs := zeroDC) R1 rfl (Nat.le_of_ble_eq_true rfl) (by simp [Value.oneCell']) (fun we Be ke ze => ?_); refine ret ?_; refine resL (.agg (zeroDC).toArray) (holds_agg (.blk Be) rfl) ?_; exact ⟨zeroDC, by unfold newP; rw [if_pos (.inl h)]; rfl, by unfold newP; rw [if_pos (.inl h)]; exact zeroD_r, x1.then ke fun i hi _ e => by omega⟩
  refine cD (fun h => ?_) (fun h2' => ?_)
  · refine ldA zeroDC (.blk R1) rfl ?_; refine stA (vs := zeroDC) R1 rfl (Nat.le_of_ble_eq_true rfl) (by simp [Value.oneCell']) (fun we Be ke ze => ?_); refine ret ?_; refine resL (.agg (zeroDC).toArray) (holds_agg (.blk Be) rfl) ?_; exact ⟨zeroDC, by unfold newP; rw [if_pos (.inr h)]; rfl, by unfold newP; rw [if_pos (.inr h)]; exact zeroD_r, x1.then ke fun i hi _ e => by omega⟩
  obtain ⟨m, rfl⟩ : ∃ m : Nat, n = (m : Int) := ⟨n.toNat, by omega⟩; refine mslc (sz := 1) (by_ := 1) 128 rfl rfl (by omega) (by omega) rfl (by omega) (fun q w2 h2 => ?_); have Bq : Blk w2 q 5 (List.replicate 128 (uv8 0)) := h2.blk; refine lit [.slice (some (ad q 0)) 128 128] (fun q3 w3 h3 => ?_); refine call_of (c_repeat (B := some (ad q 0)) (m := 128) (cB := 128) h3.blk (show 1 ≤ m by omega) (by omega)) ?_; rintro _ w4 ⟨g, rfl, hg, B4, x4⟩; refine bld [.slice (some (ad g 0)) m m, .slice none 0 0, iv (-1), .bool false] (by kernel_rfl) ?_; have x14 := (h2.ext.trans h3.ext).trans x4; have R4 := R1.ext x14; refine stA (vs := [.slice (some (ad g 0)) m m, .slice none 0 0, iv (-1), .bool false]) R4 rfl (Nat.le_of_ble_eq_true rfl) (by simp [Value.oneCell']) (fun we Be ke _ => ?_); refine ret ?_; refine resL (.agg #[.slice (some (ad g 0)) m m, .slice none 0 0, iv (-1), .bool false]) (holds_agg (.blk Be) rfl) ?_
  have hres : newP (m : Int) = (⟨List.replicate m (List.replicate 128 0), [], -1, false⟩, 0) := by
    unfold newP; rw [if_neg (by omega), Int.toNat_natCast]
  have l2 := R1.lt; have s14 := x14.size; have eq2 := h2.at_; have Bq4 := Bq.ext (h3.ext.trans x4); have s2 := h2.ext.size; have s3 := h3.ext.size; have hz : SlR tU8 (fun _ => True) we (some (ad q 0)) 128 (List.replicate 128 0) := SlR.of_cells (by rw [List.length_replicate]) (by omega) trivial (by rw [← u8s_rep] at Bq4; exact .blk (Bq4.kept ke (show q ≠ b2 by omega))) (flat_u8s fun x hx => by rw [List.mem_replicate] at hx; omega); refine ⟨[.slice (some (ad g 0)) m m, .slice none 0 0, iv (-1), .bool false], by rw [hres]; rfl, ?_, (x1.trans x14).then ke fun i hi _ e => by omega⟩; rw [hres]; refine ⟨⟨some (ad g 0), m, m, none, 0, 0, rfl, ?_, Nat.le_refl _, .nil, Nat.le_refl _, (show I64 (-1) by unfold I64; omega)⟩⟩; exact SlR.of_cells (by rw [List.length_replicate]) (by omega) trivial (.blk (B4.kept ke (show g ≠ b2 by omega))) (flat_rep hz (Nat.le_refl _) m)
end
def perfP (s : List (List Nat)) (l : List Wr) : List (List Nat) := l.foldl (fun s x => s.set x.at_.toNat x.data) s
theorem perfP_len (s : List (List Nat)) : ∀ l : List Wr, (perfP s l).length = s.length := by
  intro l
  induction l generalizing s with
  | nil => rfl
  | cons x l ih => exact (ih (s.set x.at_.toNat x.data)).trans (by simp)
theorem perfP_snoc (s : List (List Nat)) (l : List Wr) (x : Wr) : perfP s (l ++ [x]) = (perfP s l).set x.at_.toNat x.data := by unfold perfP; rw [List.foldl_append]; rfl
theorem flatS_set {D : Nat → Prop} {w : World} {A : Option Addr} {m c : Nat} {b : List Nat} (hb : SlR tU8 D w A m b) (hc : m ≤ c) : ∀ {l : List (List Nat)} {cs : List Value} (i : Nat), FlatR (tSl tU8) D w l cs → FlatR (tSl tU8) D w (l.set i b) (cs.set i (.slice A m c))
  | [], cs, i, h => by have h : cs = [] := h; subst h; exact (rfl : ([] : List Value) = [])
  | x :: l, cs, 0, ⟨c1, r, h, ⟨A1, n1, d1, h1, h1'⟩, h2⟩ => by
    subst h; subst h1
    exact ⟨[.slice A m c], r, rfl, ⟨A, m, c, rfl, hb, hc⟩, h2⟩
  | x :: l, cs, i + 1, ⟨c1, r, h, ⟨A1, n1, d1, h1, h1'⟩, h2⟩ => by
    subst h; subst h1
    exact ⟨[.slice A1 n1 d1], r.set i (.slice A m c), rfl, ⟨A1, n1, d1, rfl, h1'⟩, flatS_set hb hc i h2⟩
section
variable {D : Nat → Prop} {w : World}
def OwnS (D : Nat → Prop) (w0 w : World) (v : Value) (n : Nat) (l : List (List Nat)) : Prop := ∃ g c cs rest, v = .slice (some (ad g 0)) n c ∧ w0.heap.size ≤ g ∧ Blk w g 102 (cs ++ rest) ∧ cs.length = n ∧ (cs ++ rest).length = c ∧ FlatR (tSl tU8) D w l cs
theorem c_dperform {A B : Option Addr} {n c m c2 : Nat} {s : List (List Nat)} {l : List Wr} (hs : SlR (tSl tU8) D w A n s) (hl : SlR tWr D w B m l) (h0 : 0 < n) (hn : n ≤ 4096) (hm : m ≤ 4096) (hok : ∀ x ∈ l, 0 ≤ x.at_ ∧ x.at_ < n) :
    CallZ Tryz.prog 176 #[.slice A n c, .slice B m c2] w (fun v w' => OwnS (fun b => D b ∧ b < w.heap.size) w w' v n (perfP s l) ∧ Ext w w') := by
  have hs0 := hs.more (D' := fun b => D b ∧ b < w.heap.size) (by decide) fun b hb h => ⟨h, hb⟩; have hl0 := hl.more (D' := fun b => D b ∧ b < w.heap.size) (by decide) fun b hb h => ⟨h, hb⟩; have ln := hs.len; have lm := hl.len; refine fn_rule (args := [.slice A n c, .slice B m c2]) Tryz.func176 (by kernel_rfl) ?_; refine call_of (c_cloneS hs0 (by omega)) ?_; rintro _ w1 ⟨A1, c1, cs1, rfl, o1, f1⟩; rcases o1.form with ⟨-, h, -⟩ | ⟨g, rfl, hg, hg1, hc1⟩
  · omega
  obtain ⟨rest, B1, hcap, -⟩ := o1.own.blk
  have hc1l : cs1.length = n := by have := o1.own.len; omega
  refine len ?_; refine loop_rule (fun k : Nat => [(12, iv (k : Int))]) (fun k u => k ≤ m ∧ Kept (fun b => b ≠ g) w1 u ∧ ∃ cs, Blk u g 102 (cs ++ rest) ∧ cs.length = n ∧ FlatR (tSl tU8) (fun b => D b ∧ b < w.heap.size) u (perfP s (l.take k)) cs) (fun k _ => m - k) 0 ⟨rfl, trivial⟩ ⟨by omega, .refl _ _, cs1, B1, hc1l, f1⟩ rfl ?_; rintro G k u ⟨hk, ku, cs, Bu, hcl, fu⟩
  have xu : Ext w u := o1.ext.then ku fun i hi _ e => by omega
  refine cD (fun hlt => ?_) (fun hge => ?_)
  · obtain ⟨bx, o, csx, x, rfl, hx, -, -, hc, hrep⟩ := (hl0.ext xu).at_ (k := k) (by omega); obtain ⟨A2, n2, d2, rfl, hs2, hd2, hI⟩ := wr_ex hrep; refine idx k rfl (by omega) ?_; refine ldA [iv x.at_, .slice A2 n2 d2] hc rfl ?_; refine alloc (fun b7 w2 h2 => ?_); refine stA (vs := [iv x.at_, .slice A2 n2 d2]) h2.blk rfl (Nat.le_of_ble_eq_true rfl) (by simp [Value.oneCell']) (fun w3 B3 k3 _ => ?_); have B3 : Blk w3 b7 104 [iv x.at_, .slice A2 n2 d2] := B3; have e2 := h2.at_
    have x3 : Ext u w3 := h2.ext.then k3 fun i hi _ e => by omega
    obtain ⟨hx0, hx1⟩ := hok x (List.mem_of_getElem? hx); refine fldA ?_; refine ld (iv x.at_) (B3.cell rfl) ?_; refine fldA ?_; refine ld (.slice A2 n2 d2) (B3.cell rfl) ?_; refine idx x.at_.toNat (by omega) (by omega) ?_; have Bu3 := Bu.ext x3
    have hi : 0 + x.at_.toNat * 1 < (cs ++ rest).length := by rw [List.length_append]; omega
    refine st Bu3 hi rfl (fun w4 B4 k4 _ => ?_); rw [Nat.zero_add, Nat.mul_one, List.set_append_left _ _ (by omega)] at B4; have k34 : Kept (fun b => b ≠ g) u w4 := (Ext.any x3).trans k4; refine arI (n := (k : Int) + 1) (by omega) ?_; refine next (k + 1) ⟨by rw [Int.natCast_add]; rfl, trivial⟩ ⟨by omega, ku.trans k34, _, B4, by simp [hcl], ?_⟩ (by omega); rw [List.take_add_one, hx]; show FlatR _ _ _ (perfP s (l.take k ++ [x])) _; rw [perfP_snoc]; exact flatS_set (hs2.kept k34 fun b _ h => by omega) hd2 _ (fu.keep fun b hb h => k34.blk b hb (by omega))
  · have hk : k = m := by omega
    subst hk; rw [List.take_of_length_le (by omega)] at fu; exact ret1 (.slice (some (ad g 0)) n c1) rfl ⟨⟨g, c1, cs, rest, rfl, hg, Bu, hcl, by rw [List.length_append, hcl]; rw [List.length_append, hc1l] at hcap; omega, fu⟩, xu⟩
end
noncomputable def tornP (d : Dsk) : Dsk := match d.pend[d.left.toNat]? with
  | some x => ⟨(perfP d.secs (d.pend.take d.left.toNat)).set x.at_.toNat (x.data.take 64 ++ ((perfP d.secs (d.pend.take d.left.toNat)).getD x.at_.toNat []).drop 64), [], 0, true⟩
  | none => zeroD
noncomputable def syncP (d : Dsk) : Dsk × Int := if runsB d = false then (zeroD, 40) else if 0 ≤ d.left ∧ d.left < d.pend.length then (tornP d, 40)
  else (⟨perfP d.secs d.pend, [], if 0 ≤ d.left then d.left - d.pend.length else d.left, false⟩, 0)
theorem perfP_128 {s : List (List Nat)} {l : List Wr} (hs : ∀ x ∈ s, x.length = 128) (hl : ∀ x ∈ l, x.data.length = 128) : ∀ x ∈ perfP s l, x.length = 128 := by
  induction l generalizing s with
  | nil => exact hs
  | cons y l ih =>
    refine ih (s := s.set y.at_.toNat y.data) (fun x hx => ?_) fun x hx => hl x (List.mem_cons_of_mem _ hx); rcases List.mem_or_eq_of_mem_set hx with h | rfl
    · exact hs x h
    · exact hl y List.mem_cons_self
theorem flatS_at {D : Nat → Prop} {w : World} : ∀ {l : List (List Nat)} {cs : List Value} {i : Nat} {x : List Nat}, FlatR (tSl tU8) D w l cs → l[i]? = some x → ∃ A n c, cs[i]? = some (.slice A n c) ∧ SlR tU8 D w A n x ∧ n ≤ c
  | [], _, _, _, _, h => by simp at h
  | y :: l, cs, 0, x, ⟨c1, r, h, ⟨A1, n1, d1, h1, h1', h1''⟩, h2⟩, hx => by
    subst h; subst h1
    simp only [List.getElem?_cons_zero, Option.some.injEq] at hx
    subst hx
    exact ⟨A1, n1, d1, rfl, h1', h1''⟩
  | y :: l, cs, i + 1, x, ⟨c1, r, h, ⟨A1, n1, d1, h1, h1'⟩, h2⟩, hx => by
    subst h; subst h1
    simp only [List.getElem?_cons_succ] at hx
    obtain ⟨A, n, c, e, h3⟩ := flatS_at h2 hx
    exact ⟨A, n, c, by simpa using e, h3⟩
section
variable {D : Nat → Prop} {w : World}
theorem c_dSyncE {d : Dsk} {cs : List Value} (hd : DskR D w cs d) : CallZ Tryz.prog 109 #[.agg cs.toArray] w (fun v w' => RetE D w w' v (syncP d)) := by
  obtain ⟨A, n, c, B, m, c2, rfl, hs, hc, hp, hc2, hId⟩ := hd.ex; have ln := hs.len; have lm := hp.len; have hs0 := hs.more (D' := fun b => D b ∧ b < w.heap.size) (by decide) fun b hb h => ⟨h, hb⟩; have hp0 := hp.more (D' := fun b => D b ∧ b < w.heap.size) (by decide) fun b hb h => ⟨h, hb⟩; refine fn_rule (args := [.agg #[.slice A n c, .slice B m c2, iv d.left, .bool d.stop]]) Tryz.func109 (by kernel_rfl) ?_; refine box (fun g w1 h1 => ?_); have G1 : Blk w1 g 44 [.slice A n c, .slice B m c2, iv d.left, .bool d.stop] := h1.blk; refine alloc (fun b2 w2 h2 => ?_); have R2 : Blk w2 b2 44 zeroDC := h2.blk; have e1 := h1.at_; have e2 := h2.at_; have x02 := h1.ext.trans h2.ext; have s1 := h1.ext.size; have s02 := x02.size; have G2 := G1.ext h2.ext; have lg := G1.lt; have lR := R2.lt; refine ldA [.slice A n c, .slice B m c2, iv d.left, .bool d.stop] (.blk G2) rfl ?_; refine callE (c_druns (hd.ext x02)) (fun w3 hq x3 => ?_) (fun w3 hq x3 => ?_); rotate_left
  · refine ldA zeroDC (.blk (R2.ext x3)) rfl ?_; refine stA (vs := zeroDC) (R2.ext x3) rfl (Nat.le_of_ble_eq_true rfl) (by simp [Value.oneCell']) (fun we Be ke ze => ?_); refine ret ?_; refine resL (.agg (zeroDC).toArray) (holds_agg (.blk Be) rfl) ?_; exact ⟨zeroDC, by unfold syncP; rw [if_pos hq]; rfl, by unfold syncP; rw [if_pos hq]; exact zeroD_r, (x02.trans x3).then ke fun i hi _ e => by omega⟩
  have hq' : ¬ runsB d = false := by rw [hq]; decide
  have hok := (of_decide_eq_true hq).1; obtain ⟨k1, k2, k3, k4, k5, k6, k7'⟩ := hok; have x03 := x02.trans x3; have G3 := G2.ext x3; have R3 := R2.ext x3; have s23 := x3.size
  have hat : ∀ x ∈ d.pend, 0 ≤ x.at_ ∧ x.at_ < n := fun x hx => by have := k6 x hx; rw [ln] at this; exact ⟨this.1, this.2.1⟩
  refine fldA ?_; refine ld (.slice B m c2) (G3.cell rfl) ?_; refine len ?_; refine fldA ?_; refine ld (iv d.left) (G3.cell rfl) ?_; refine cD (fun h0 => ?_) (fun h0 => ?_)
  · refine fldA ?_; refine ld (iv d.left) (G3.cell rfl) ?_; refine cD (fun hlt => ?_) (fun hge => ?_)
    · obtain ⟨l, hl⟩ : ∃ l : Nat, d.left = (l : Int) := ⟨d.left.toNat, by omega⟩
      have hlm : l < m := by omega
      refine fldA ?_; refine ld (.slice B m c2) (G3.cell rfl) ?_; refine fldA ?_; refine ld (iv d.left) (G3.cell rfl) ?_; refine fldA ?_; refine ld (iv d.left) (G3.cell rfl) ?_; refine slcM 0 l l hp rfl hl hl (by omega) (by omega) (Nat.le_refl _) (by omega) rfl (fun A5 hA5 => ?_)
      have hfst : SlR tWr (fun b => D b ∧ b < w.heap.size) w3 A5 l (d.pend.take l) := by
        have := hA5 (fun b => D b ∧ b < w.heap.size) w3 (hp0.ext x03)
        rwa [List.drop_zero] at this
      refine fldA ?_; refine ld (.slice A n c) (G3.cell rfl) ?_; refine call_of (c_dperform (hs0.ext x03) hfst (by omega) (by omega) (by omega) fun x hx => hat x (List.mem_of_mem_take hx)) ?_; rintro _ w4 ⟨⟨g4, c4, cs4, rest4, rfl, hg4, B4, hcs4, hc4, f4⟩, x4⟩; refine bld [.slice (some (ad g4 0)) n c4, .slice none 0 0, iv 0, .bool true] (by kernel_rfl) ?_; refine stA (vs := [.slice (some (ad g4 0)) n c4, .slice none 0 0, iv 0, .bool true]) (R3.ext x4) rfl (Nat.le_of_ble_eq_true rfl) (by simp [Value.oneCell']) (fun w5 R5 k5 _ => ?_); have R5 : Blk w5 b2 44 [.slice (some (ad g4 0)) n c4, .slice none 0 0, iv 0, .bool true] := R5; have s4 := x4.size; have s5 := k5.size
      have x05 : Ext w w5 := (x03.trans x4).then k5 fun j hj _ => by omega
      have G5 := (G3.ext x4).kept k5 (show g ≠ b2 by omega); have B5 := B4.kept k5 (show g4 ≠ b2 by omega); have f5 := f4.keep fun j hj h => k5.blk j hj (show j ≠ b2 by have := h.2; omega); have lB4 := B4.lt; obtain ⟨bx, o, csx, x, hB, hx, -, -, hcx, hrep⟩ := (hp.ext x05).at_ (k := l) hlm; subst hB; obtain ⟨A6, n6, c6, rfl, hs6, hc6, hI6⟩ := wr_ex hrep; refine fldA ?_; refine ld (.slice (some (ad bx o)) m c2) (G5.cell rfl) ?_; refine fldA ?_; refine ld (iv d.left) (G5.cell rfl) ?_; refine idx l hl hlm ?_; refine ldA [iv x.at_, .slice A6 n6 c6] hcx rfl ?_; refine alloc (fun b6 w6 h6 => ?_); refine stA (vs := [iv x.at_, .slice A6 n6 c6]) h6.blk rfl (Nat.le_of_ble_eq_true rfl) (by simp [Value.oneCell']) (fun w7 B7 k7 _ => ?_); have B7 : Blk w7 b6 104 [iv x.at_, .slice A6 n6 c6] := B7; have e6 := h6.at_
      have x57 : Ext w5 w7 := h6.ext.then k7 fun j hj _ e => by omega
      have R7 := R5.ext x57; have Bs7 := B5.ext x57; obtain ⟨hx0, hx1⟩ := hat x (List.mem_of_getElem? hx); obtain ⟨i, hi⟩ : ∃ i : Nat, x.at_ = (i : Int) := ⟨x.at_.toNat, by omega⟩
      have hin : i < n := by omega
      have hpl : (perfP d.secs (d.pend.take l)).length = n := by rw [perfP_len, ln]
      obtain ⟨y, hy⟩ : ∃ y, (perfP d.secs (d.pend.take l))[i]? = some y := ⟨_, List.getElem?_eq_getElem (by omega)⟩; have hy128 : y.length = 128 := perfP_128 k7' (fun z hz => (k6 z (List.mem_of_mem_take hz)).2.2) y (List.mem_of_getElem? hy); have hx128 : x.data.length = 128 := (k6 x (List.mem_of_getElem? hx)).2.2; obtain ⟨A8, n8, c8, hcell, hs8, hc8⟩ := flatS_at f5 hy
      have hn8 : n8 = 128 := by have := hs8.len; omega
      have hn6 : n6 = 128 := by have := hs6.len; omega
      have hcell' : (cs4 ++ rest4)[i]? = some (.slice A8 n8 c8) := by rw [List.getElem?_append_left (by omega)]; exact hcell
      refine fldA ?_; refine ld (.slice (some (ad g4 0)) n c4) (R7.cell rfl) ?_; refine fldA ?_; refine ld (iv x.at_) (B7.cell rfl) ?_; refine idx i hi hin ?_; refine ld (.slice A8 n8 c8) (by rw [Nat.zero_add, Nat.mul_one]; exact Bs7.cell hcell') ?_; refine call_of (c_cloneB (hs8.ext x57) (by omega)) ?_; rintro _ w8 ⟨A9, c9, rfl, o9⟩; rcases o9.form with ⟨-, h, -⟩ | ⟨g9, rfl, hg9, hg9', hc9⟩
      · omega
      obtain ⟨rest9, B9, hcap9, -⟩ := o9.own.blk; have B78 := B7.ext o9.ext; have s57 := x57.size; have s78 := o9.ext.size; have l7 := B7.lt; subst hn8; subst hn6; refine drawP (.take 0 (.take 1 (.take 2 (.take 3 (.eff 4 .done))))) [] (fun y => Kept (fun j => j ≠ g9) w8 y) mx (by kernel_rfl) (.refl _ _) ?_; refine slcA 0 64 rfl rfl (by omega) (by omega) (by omega) ?_; refine fldA ?_; refine ldK (.slice A6 128 c6) (B78.cell rfl) (show b6 ≠ g9 by omega) (.refl _ _) ?_; refine cpy (n := 64) (m := 128) B9 (by rw [List.length_append, List.length_map]; omega) (((hs6.ext x57).ext o9.ext).u8src) (fun w9 B10 k9 _ => ?_) (h1 := u8s_one _)
      have B10 : Blk w9 g9 5 (u8s (x.data.take 64 ++ y.drop 64) ++ rest9) := by
        have e : (u8s y ++ rest9).drop (0 + min 128 64) = u8s (y.drop 64) ++ rest9 := by
          have hz : 0 + min 128 64 = 64 := rfl; rw [hz, List.drop_append_of_le_length (by rw [List.length_map]; omega), ← List.map_drop]
        rw [e, List.take_zero, List.nil_append, ← List.map_take, ← List.append_assoc, ← List.map_append] at B10; exact B10
      refine strS k9 ?_; have R9 := (R7.ext o9.ext).kept k9 (show b2 ≠ g9 by omega); have B79 := B78.kept k9 (show b6 ≠ g9 by omega); have Bs9 := (Bs7.ext o9.ext).kept k9 (show g4 ≠ g9 by omega); refine fldA ?_; refine ld (.slice (some (ad g4 0)) n c4) (R9.cell rfl) ?_; refine fldA ?_; refine ld (iv x.at_) (B79.cell rfl) ?_; refine idx i hi hin ?_; refine st Bs9 (by rw [List.length_append]; omega) rfl (fun wa Ba ka _ => ?_); rw [Nat.zero_add, Nat.mul_one, List.set_append_left _ _ (by omega)] at Ba; have Ba : Blk wa g4 102 (cs4.set i (.slice (some (ad g9 0)) 128 c9) ++ rest4) := Ba; have Ra := R9.kept ka (show b2 ≠ g4 by omega); refine ldA [.slice (some (ad g4 0)) n c4, .slice none 0 0, iv 0, .bool true] (.blk Ra) rfl ?_; refine stA (vs := [.slice (some (ad g4 0)) n c4, .slice none 0 0, iv 0, .bool true]) Ra rfl (Nat.le_of_ble_eq_true rfl) (by simp [Value.oneCell']) (fun we Be ke _ => ?_); refine ret ?_; refine resL (.agg #[.slice (some (ad g4 0)) n c4, .slice none 0 0, iv 0, .bool true]) (holds_agg (.blk Be) rfl) ?_; have k5e : Kept (fun j => j ≠ g9 ∧ j ≠ g4 ∧ j ≠ b2) w5 we := ((((Ext.any x57).trans (Ext.any o9.ext)).trans (k9.weak fun j _ h => h.1)).trans (ka.weak fun j _ h => h.2.1)).trans (ke.weak fun j _ h => h.2.2)
      have xe : Ext w we := x05.then k5e fun j hj _ => by omega
      have kae : Kept (fun j => j ≠ g4 ∧ j ≠ b2) w9 we := (ka.weak fun j _ h => h.1).trans (ke.weak fun j _ h => h.2)
      have hb9 : ∀ z ∈ x.data.take 64 ++ y.drop 64, z < 256 := fun z hz => by
        rcases List.mem_append.1 hz with hz | hz
        · exact hs6.u8b z (List.mem_of_mem_take hz)
        · exact hs8.u8b z (List.mem_of_mem_drop hz)
      have hl9 : (x.data.take 64 ++ y.drop 64).length = 128 := by rw [List.length_append, List.length_take, List.length_drop]; omega
      have ht : SlR tU8 (fun j => (D j ∧ j < w.heap.size) ∧ j < w3.heap.size ∨ j = g9) we (some (ad g9 0)) 128 (x.data.take 64 ++ y.drop 64) := SlR.of_cells hl9.symm (by omega) (.inr rfl) (fun j v hv => by rw [Nat.zero_add]; exact (B10.kept kae ⟨by omega, by omega⟩).cell (by rw [List.getElem?_append_left (List.getElem?_eq_some_iff.1 hv).1]; exact hv)) (flat_u8s hb9); have fe := flatS_set ht hc9 i ((f5.keep fun j hj h => k5e.blk j hj (by have := h.2; exact ⟨by omega, by omega, by omega⟩)).more fun _ _ h => .inl h); have hsl : SlR (tSl tU8) (fun j => D j ∨ w.heap.size ≤ j) we (some (ad g4 0)) n ((perfP d.secs (d.pend.take l)).set i (x.data.take 64 ++ y.drop 64)) := SlR.of_cells (by rw [List.length_set, hpl]) (by omega) (.inr (by omega)) (fun j v hv => by rw [Nat.zero_add]; exact (Ba.kept ke (show g4 ≠ b2 by omega)).cell (by rw [List.getElem?_append_left (List.getElem?_eq_some_iff.1 hv).1]; exact hv)) (fe.more fun j _ h => h.elim (fun h => .inl h.1.1) fun h => .inr (by omega))
      have hres : syncP d = (⟨(perfP d.secs (d.pend.take l)).set i (x.data.take 64 ++ y.drop 64), [], 0, true⟩, 40) := by
        unfold syncP tornP; rw [if_neg hq', if_pos (by omega), hl, Int.toNat_natCast, hx]; simp only [hi, Int.toNat_natCast]; rw [List.getD_eq_getElem?_getD, hy]
        rfl
      rw [List.length_append] at hc4; refine ⟨[.slice (some (ad g4 0)) n c4, .slice none 0 0, iv 0, .bool true], by rw [hres]; rfl, ?_, xe⟩; rw [hres]; exact ⟨⟨some (ad g4 0), n, c4, none, 0, 0, rfl, hsl, by omega, .nil, Nat.le_refl _, (show I64 0 by unfold I64; omega)⟩⟩
    · have hres : syncP d = (⟨perfP d.secs d.pend, [], d.left - d.pend.length, false⟩, 0) := by
        unfold syncP; rw [if_neg hq', if_neg (by omega), if_pos (by omega)]
      rw [lm] at hres; refine drawP (.take 0 (.take 1 (.take 2 (.take 3 (.take 5 (.take 6 (.eff 4 (.take 7 (.bar (.eff 8 .done)))))))))) [8] (fun y => Ext w3 y) mx (by kernel_rfl) (.refl _ _) ?_; refine fldA ?_; refine ldX (.slice A n c) (G3.cell rfl) (.refl _ _) ?_; refine fldA ?_; refine ldX (.slice B m c2) (G3.cell rfl) (.refl _ _) ?_; refine fldA ?_; refine ldX (iv d.left) (G3.cell rfl) (.refl _ _) ?_; refine call_of (c_dperform (hs0.ext x03) (hp0.ext x03) (by omega) (by omega) (by omega) hat) ?_; rintro _ w4 ⟨⟨g4, c4, cs4, rest4, rfl, hg4, B4, hcs4, hc4, f4⟩, x4⟩; refine strS x4 ?_; refine bld [.slice (some (ad g4 0)) n c4, .slice none 0 0, iv d.left, .bool false] (by kernel_rfl) ?_; refine barS (fun _ => True) trivial ?_; refine stA (vs := [.slice (some (ad g4 0)) n c4, .slice none 0 0, iv d.left, .bool false]) (R3.ext x4) rfl (Nat.le_of_ble_eq_true rfl) (by simp [Value.oneCell']) (fun w5 R5 k5 _ => ?_); have R5 : Blk w5 b2 44 [.slice (some (ad g4 0)) n c4, .slice none 0 0, iv d.left, .bool false] := R5; refine strS trivial ?_; refine fldA ?_; refine ld (iv d.left) (R5.cell rfl) ?_; refine cD (fun _ => ?_) (fun h => absurd h0 h); refine fldA ?_; refine ld (iv d.left) (R5.cell rfl) ?_; refine arI (n := d.left - (m : Int)) (by omega) ?_; refine fldA ?_; refine st R5 (Nat.le_of_ble_eq_true rfl) rfl (fun w6 R6 k6 _ => ?_); have R6 : Blk w6 b2 44 [.slice (some (ad g4 0)) n c4, .slice none 0 0, iv (d.left - (m : Int)), .bool false] := R6; refine ldA [.slice (some (ad g4 0)) n c4, .slice none 0 0, iv (d.left - (m : Int)), .bool false] (.blk R6) rfl ?_; refine stA (vs := [.slice (some (ad g4 0)) n c4, .slice none 0 0, iv (d.left - (m : Int)), .bool false]) R6 rfl (Nat.le_of_ble_eq_true rfl) (by simp [Value.oneCell']) (fun we Be ke _ => ?_); refine ret ?_; refine resL (.agg #[.slice (some (ad g4 0)) n c4, .slice none 0 0, iv (d.left - (m : Int)), .bool false]) (holds_agg (.blk Be) rfl) ?_; have kE : Kept (fun j => j ≠ b2) w4 we := (k5.trans k6).trans ke
      have xe : Ext w we := (x03.trans x4).then kE fun j hj _ => by omega
      have hsl : SlR (tSl tU8) (fun j => D j ∨ w.heap.size ≤ j) we (some (ad g4 0)) n (perfP d.secs d.pend) := SlR.of_cells (by rw [perfP_len, ln]) (by omega) (.inr (by omega)) (fun j v hv => by rw [Nat.zero_add]; exact (B4.kept kE (show g4 ≠ b2 by omega)).cell (by rw [List.getElem?_append_left (List.getElem?_eq_some_iff.1 hv).1]; exact hv)) ((f4.keep fun j hj h => kE.blk j hj (show j ≠ b2 by have := h.2; omega)).more fun _ _ h => .inl h.1.1); rw [List.length_append] at hc4; refine ⟨[.slice (some (ad g4 0)) n c4, .slice none 0 0, iv (d.left - (m : Int)), .bool false], by rw [hres]; rfl, ?_, xe⟩; rw [hres]; exact ⟨⟨some (ad g4 0), n, c4, none, 0, 0, rfl, hsl, by omega, .nil, Nat.le_refl _, (show I64 (d.left - (m : Int)) by unfold I64 at *; omega)⟩⟩
  · have hres : syncP d = (⟨perfP d.secs d.pend, [], d.left, false⟩, 0) := by
      unfold syncP; rw [if_neg hq', if_neg (by omega), if_neg (by omega)]
    refine drawP (.take 0 (.take 1 (.take 2 (.take 3 (.take 5 (.take 6 (.eff 4 (.take 7 (.bar (.eff 8 .done)))))))))) [8] (fun y => Ext w3 y) mx (by kernel_rfl) (.refl _ _) ?_; refine fldA ?_; refine ldX (.slice A n c) (G3.cell rfl) (.refl _ _) ?_; refine fldA ?_; refine ldX (.slice B m c2) (G3.cell rfl) (.refl _ _) ?_; refine fldA ?_; refine ldX (iv d.left) (G3.cell rfl) (.refl _ _) ?_; refine call_of (c_dperform (hs0.ext x03) (hp0.ext x03) (by omega) (by omega) (by omega) hat) ?_; rintro _ w4 ⟨⟨g4, c4, cs4, rest4, rfl, hg4, B4, hcs4, hc4, f4⟩, x4⟩; refine strS x4 ?_; refine bld [.slice (some (ad g4 0)) n c4, .slice none 0 0, iv d.left, .bool false] (by kernel_rfl) ?_; refine barS (fun _ => True) trivial ?_; refine stA (vs := [.slice (some (ad g4 0)) n c4, .slice none 0 0, iv d.left, .bool false]) (R3.ext x4) rfl (Nat.le_of_ble_eq_true rfl) (by simp [Value.oneCell']) (fun w5 R5 k5 _ => ?_); have R5 : Blk w5 b2 44 [.slice (some (ad g4 0)) n c4, .slice none 0 0, iv d.left, .bool false] := R5; refine strS trivial ?_; refine fldA ?_; refine ld (iv d.left) (R5.cell rfl) ?_; refine cD (fun h => absurd h h0) (fun _ => ?_); refine ldA [.slice (some (ad g4 0)) n c4, .slice none 0 0, iv (d.left), .bool false] (.blk R5) rfl ?_; refine stA (vs := [.slice (some (ad g4 0)) n c4, .slice none 0 0, iv (d.left), .bool false]) R5 rfl (Nat.le_of_ble_eq_true rfl) (by simp [Value.oneCell']) (fun we Be ke _ => ?_); refine ret ?_; refine resL (.agg #[.slice (some (ad g4 0)) n c4, .slice none 0 0, iv (d.left), .bool false]) (holds_agg (.blk Be) rfl) ?_; have kE : Kept (fun j => j ≠ b2) w4 we := k5.trans ke
    have xe : Ext w we := (x03.trans x4).then kE fun j hj _ => by omega
    have hsl : SlR (tSl tU8) (fun j => D j ∨ w.heap.size ≤ j) we (some (ad g4 0)) n (perfP d.secs d.pend) := SlR.of_cells (by rw [perfP_len, ln]) (by omega) (.inr (by omega)) (fun j v hv => by rw [Nat.zero_add]; exact (B4.kept kE (show g4 ≠ b2 by omega)).cell (by rw [List.getElem?_append_left (List.getElem?_eq_some_iff.1 hv).1]; exact hv)) ((f4.keep fun j hj h => kE.blk j hj (show j ≠ b2 by have := h.2; omega)).more fun _ _ h => .inl h.1.1); rw [List.length_append] at hc4; refine ⟨[.slice (some (ad g4 0)) n c4, .slice none 0 0, iv (d.left), .bool false], by rw [hres]; rfl, ?_, xe⟩; rw [hres]; exact ⟨⟨some (ad g4 0), n, c4, none, 0, 0, rfl, hsl, by omega, .nil, Nat.le_refl _, (show I64 (d.left) by unfold I64 at *; omega)⟩⟩
end
def crcS (n : Nat) : Nat := n >>> 1 ^^^ (3988292384 * (n &&& 1)) % 4294967296
def crc8 : Nat → Nat → Nat
  | 0, n => n
  | k + 1, n => crcS (crc8 k n)
def crcF (n : Nat) (b : List Nat) : Nat := b.foldl (fun n c => crc8 8 (n ^^^ c)) n
def crcL (b : List Nat) : Nat := 4294967295 ^^^ crcF 4294967295 b
theorem crcS_lt {n : Nat} (h : n < 4294967296) : crcS n < 4294967296 := xor_lt (shr_lt h) (Nat.mod_lt _ (by omega))
theorem crc8_lt {n : Nat} (h : n < 4294967296) : ∀ k, crc8 k n < 4294967296
  | 0 => h
  | k + 1 => crcS_lt (crc8_lt h k)
theorem crcF_lt : ∀ (b : List Nat) {n : Nat}, (∀ x ∈ b, x < 256) → n < 4294967296 → crcF n b < 4294967296
  | [], n, _, h => h
  | x :: b, n, hb, h => crcF_lt b (fun y hy => hb y (List.mem_cons_of_mem _ hy)) (crc8_lt (xor_lt h (by have := hb x List.mem_cons_self; omega)) 8)
theorem crcL_lt {b : List Nat} (h : ∀ x ∈ b, x < 256) : crcL b < 4294967296 := xor_lt (by omega) (crcF_lt b h (by omega))
def getB (b : List Nat) : Nat := b.foldl (fun n c => ((n <<< 8) % 18446744073709551616) ||| c) 0
theorem get_lt : ∀ (b : List Nat) (n : Nat), n < 18446744073709551616 → (∀ x ∈ b, x < 256) → b.foldl (fun n c => ((n <<< 8) % 18446744073709551616) ||| c) n < 18446744073709551616
  | [], n, h, _ => h
  | x :: b, n, h, hb => get_lt b _ (Nat.or_lt_two_pow (n := 64) (Nat.mod_lt _ (by omega)) (by have := hb x List.mem_cons_self; omega)) fun y hy => hb y (List.mem_cons_of_mem _ hy)
theorem getB_lt {b : List Nat} (h : ∀ x ∈ b, x < 256) : getB b < 18446744073709551616 := get_lt b 0 (by omega) h
theorem notX32 {P : Program} {K : Value → Prop} {a : Nat} (h : a < 4294967296) (k : K (uv32 (4294967295 ^^^ a))) : PureP P (vS (Op.unary .xor (.int .u32 (a : Int)))) K := by
  rw [PureP_eq]; refine pure_vval (fun w => ?_) k; have e : bits .xor .u32 (4294967295 : Int) (a : Int) = ((4294967295 ^^^ a : Nat) : Int) := u32_xor_nat 4294967295 a (by omega) h; have h1 : (Op.intBits .xor .u32 4294967295 (a : Int)).run P w = .ok (.int .u32 (bits .xor .u32 (4294967295 : Int) (a : Int))) w := rfl; rw [e] at h1; exact h1
section
variable {D : Nat → Prop} {w : World}
theorem c_jput {g o n c N : Nat} {t : TypeId} {cs : List Value} (hb : Blk w g t cs) (ho : o + n ≤ cs.length) (hn : n ≤ 8) : CallZ Tryz.prog 174 #[.slice (some (ad g o)) n c, uv64 N] w (fun v w' => v = .tuple #[] ∧ Blk w' g t (cs.take o ++ u8s (beB n N) ++ cs.drop (o + n)) ∧ Kept (fun b => b ≠ g) w w') := by
  have hl := beB_len n N; refine fn_rule (args := [.slice (some (ad g o)) n c, uv64 N]) Tryz.func174 (by kernel_rfl) ?_; refine len ?_; refine loop_rule (fun k : Nat => [(7, iv (k : Int))]) (fun k u => k ≤ n ∧ Blk u g t (cs.take (o + (n - k)) ++ u8s ((beB n N).drop (n - k)) ++ cs.drop (o + n)) ∧ Kept (fun b => b ≠ g) w u) (fun k _ => n - k) 0 ⟨rfl, trivial⟩ ⟨by omega, ?_, .refl _ _⟩ rfl ?_
  · rw [Nat.sub_zero, List.drop_of_length_le (by omega)]
    simpa using hb
  rintro G k u ⟨hk, Bu, ku⟩; refine cD (fun hlt => ?_) (fun hge => ?_)
  · refine len ?_; refine arI (n := (n : Int) - 1) (by omega) ?_; refine arI (n := (n : Int) - 1 - (k : Int)) (by omega) ?_; refine arI (n := 8 * (k : Int)) (by omega) ?_; refine shr64 (8 * k) (by omega) (by omega) ?_; refine cv8 (N >>> (8 * k)) rfl ?_; refine idx (n - 1 - k) (by omega) (by omega) ?_; refine st (v := uv8 ((N >>> (8 * k)) % 256)) Bu ?_ rfl (fun u2 B2 k2 z2 => ?_)
    · rw [Nat.mul_one]; simp only [List.length_append, List.length_take, List.length_map, List.length_drop]; omega
    refine arI (by omega) ?_; refine next (k + 1) ⟨by rw [Int.natCast_add]; rfl, trivial⟩ ⟨by omega, ?_, ku.trans k2⟩ (by omega); rw [Nat.mul_one, show o + (n - k) = o + (n - 1 - k) + 1 by omega, set_back (by omega)] at B2; rw [beB_drop (show k < n by omega), show o + (n - (k + 1)) = o + (n - 1 - k) by omega]; exact B2
  · obtain rfl : k = n := by omega
    rw [Nat.sub_self, List.drop_zero, Nat.add_zero] at Bu; exact ret0 ⟨rfl, Bu, ku⟩
theorem c_jget {A : Option Addr} {n c : Nat} {b : List Nat} (hs : SlR tU8 D w A n b) : CallZ Tryz.prog 105 #[.slice A n c] w (fun v w' => v = uv64 (getB b) ∧ w' = w) := by
  have hb := hs.u8b; have hlen := hs.len; have hle := hs.le; refine fn_rule (args := [.slice A n c]) Tryz.func105 (by kernel_rfl) ?_; refine len ?_; refine loop_rule (fun k : Nat => [(2, uv64 (getB (b.take k))), (7, iv (k : Int))]) (fun k u => k ≤ n ∧ w = u) (fun k _ => n - k) 0 ⟨rfl, rfl, trivial⟩ ⟨by omega, rfl⟩ rfl ?_; rintro G k u ⟨hk, rfl⟩; refine cD (fun hlt => ?_) (fun hge => ?_)
  · obtain ⟨bb, o, cs, x, rfl, hx, -, -, hcc, rfl, hx2⟩ := hs.at_ (k := k) (by omega); refine idx k rfl (by omega) ?_; refine ld (uv8 x) (hcc 0 _ rfl) ?_
    have htk : b.take (k + 1) = b.take k ++ [x] := by rw [List.take_add_one, hx]; rfl
    have hf := getB_lt (b := b.take k) fun y hy => hb y (List.mem_of_mem_take hy); obtain ⟨f, hfe⟩ : ∃ f, f = getB (b.take k) := ⟨_, rfl⟩; rw [← hfe] at hf ⊢; refine shl64 8 rfl (by omega) ?_; refine cv64 x rfl ?_; rw [Nat.mod_eq_of_lt (show x < 18446744073709551616 by omega)]; refine or64 (Nat.mod_lt _ (by omega)) (by omega) ?_; refine arI (by omega) ?_; refine next (k + 1) ⟨?_, by rw [Int.natCast_add]; rfl, trivial⟩ ⟨by omega, rfl⟩ (by omega); rw [htk]; unfold getB at hfe ⊢; rw [List.foldl_append, ← hfe]; rfl
  · rw [List.take_of_length_le (by omega)]; exact ret1 (uv64 _) rfl ⟨rfl, rfl⟩
theorem c_jsum {A : Option Addr} {n c : Nat} {b : List Nat} (hs : SlR tU8 D w A n b) : CallZ Tryz.prog 175 #[.slice A n c] w (fun v w' => v = uv32 (crcL b) ∧ w' = w) := by
  have hb := hs.u8b; have hlen := hs.len; have hle := hs.le; refine fn_rule (args := [.slice A n c]) Tryz.func175 (by kernel_rfl) ?_; refine len ?_; refine loop2 (fun (k f : Nat) => [(3, uv32 f), (8, iv (k : Int))]) (fun k f u => k ≤ n ∧ w = u ∧ f = crcF 4294967295 (b.take k)) (fun k _ _ => n - k) 0 4294967295 ⟨rfl, rfl, trivial⟩ ⟨by omega, rfl, rfl⟩ rfl ?_; rintro G k f u ⟨hk, rfl, hf⟩
  have hfl : f < 4294967296 := by rw [hf]; exact crcF_lt _ (fun y hy => hb y (List.mem_of_mem_take hy)) (by omega)
  refine cD (fun hlt => ?_) (fun hge => ?_)
  · obtain ⟨bb, o, cs, x, rfl, hx, -, -, hcc, rfl, hx2⟩ := hs.at_ (k := k) (by omega); refine idx k rfl (by omega) ?_; refine ld (uv8 x) (hcc 0 _ rfl) ?_; refine cv32 x rfl ?_; rw [Nat.mod_eq_of_lt (show x < 4294967296 by omega)]; refine xor32 hfl (by omega) ?_; obtain ⟨f0, hf0⟩ : ∃ f0, f0 = f ^^^ x := ⟨_, rfl⟩
    have hf0l : f0 < 4294967296 := by rw [hf0]; exact xor_lt hfl (by omega)
    rw [← hf0]; refine loop2 (fun (i h : Nat) => [(3, uv32 h), (16, iv (i : Int))]) (fun i h u => i ≤ 8 ∧ w = u ∧ h = crc8 i f0) (fun i _ _ => 8 - i) 0 f0 ⟨rfl, rfl, trivial⟩ ⟨by omega, rfl, rfl⟩ rfl ?_; rintro G2 i h u2 ⟨hi, rfl, hh⟩
    have hhl : h < 4294967296 := by rw [hh]; exact crc8_lt hf0l i
    refine cD (fun hlt2 => ?_) (fun hge2 => ?_)
    · refine shr32 1 rfl (by omega) ?_; refine and32 (a := h) (b := 1) hhl (by omega) ?_; refine arW ?_
      have e : IntKind.u32.wrap (3988292384 * ((h &&& 1 : Nat) : Int)) = ((3988292384 * (h &&& 1) % 4294967296 : Nat) : Int) := by
        rw [u32_wrap]; omega
      rw [e]; refine xor32 (shr_lt hhl) (Nat.mod_lt _ (by omega)) ?_; refine arI (n := (i : Int) + 1) (by omega) ?_; exact next2 (i + 1) (crcS h) ⟨rfl, by rw [Int.natCast_add]; rfl, trivial⟩ ⟨by omega, rfl, by rw [hh]; rfl⟩ (by omega)
    · have hi8 : i = 8 := by omega
      subst hi8; refine arI (n := (k : Int) + 1) (by omega) ?_; refine next2 (k + 1) h ⟨rfl, by rw [Int.natCast_add]; rfl, trivial⟩ ⟨by omega, rfl, ?_⟩ (by omega); rw [List.take_add_one, hx, hh, hf0, hf]; unfold crcF; rw [List.foldl_append]
      rfl
  · rw [List.take_of_length_le (by omega)] at hf; refine notX32 hfl ?_; exact ret1 (uv32 (crcL b)) (by unfold crcL; rw [← hf]; rfl) ⟨rfl, rfl⟩
def bodyB (num kind : Nat) (b : List Nat) : List Nat := beB 2 num ++ ([kind, b.length] ++ (b ++ List.replicate (112 - b.length) 0))
def encB (g num kind : Nat) (b : List Nat) : List Nat := beB 4 g ++ (beB 4 (crcL (bodyB num kind b)) ++ (bodyB num kind b ++ beB 4 g))
theorem bodyB_len {num kind : Nat} {b : List Nat} (h : b.length ≤ 112) : (bodyB num kind b).length = 116 := by
  unfold bodyB; simp only [List.length_append, beB_len, List.length_cons, List.length_nil, List.length_replicate]; omega
theorem bodyB_lt {num kind : Nat} {b : List Nat} (h : b.length ≤ 112) (hk : kind < 256) (hb : ∀ x ∈ b, x < 256) : ∀ x ∈ bodyB num kind b, x < 256 := fun x hx => by
  unfold bodyB at hx
  rcases List.mem_append.1 hx with hx | hx
  · exact beB_lt _ _ x hx
  rcases List.mem_append.1 hx with hx | hx
  · simp only [List.mem_cons, List.not_mem_nil, or_false] at hx; omega
  rcases List.mem_append.1 hx with hx | hx
  · exact hb x hx
  · rw [List.mem_replicate] at hx; omega
theorem encB_len {g num kind : Nat} {b : List Nat} (h : b.length ≤ 112) : (encB g num kind b).length = 128 := by
  unfold encB; simp only [List.length_append, beB_len, bodyB_len h]
theorem encB_lt {g num kind : Nat} {b : List Nat} (h : b.length ≤ 112) (hk : kind < 256) (hb : ∀ x ∈ b, x < 256) : ∀ x ∈ encB g num kind b, x < 256 := fun x hx => by
  unfold encB at hx
  rcases List.mem_append.1 hx with hx | hx
  · exact beB_lt _ _ x hx
  rcases List.mem_append.1 hx with hx | hx
  · exact beB_lt _ _ x hx
  rcases List.mem_append.1 hx with hx | hx
  · exact bodyB_lt h hk hb x hx
  · exact beB_lt _ _ x hx
def setL (l : List Nat) (o : Nat) (new : List Nat) : List Nat := l.take o ++ new ++ l.drop (o + new.length)
theorem spl {X Y Z new : List Nat} {o : Nat} (hX : X.length = o) (hY : Y.length = new.length) : setL (X ++ (Y ++ Z)) o new = X ++ (new ++ Z) := by
  unfold setL; rw [List.take_append, List.take_of_length_le (by omega), hX, Nat.sub_self, List.take_zero, List.append_nil, List.drop_append, List.drop_of_length_le (by omega), hX, show o + new.length - o = Y.length by omega, List.drop_append, List.drop_of_length_le (Nat.le_refl _), Nat.sub_self, List.drop_zero, List.nil_append, List.nil_append, List.append_assoc]
theorem rep_sp (a b : Nat) : List.replicate (a + b) 0 = List.replicate a 0 ++ List.replicate b 0 := List.replicate_append_replicate.symm
theorem enc_list {a b2 b : List Nat} {k : Nat} (ha : a.length = 4) (h2 : b2.length = 2) (hb : b.length ≤ 112) :
    setL (setL (setL (setL (setL (setL (List.replicate 128 0) 0 a) 8 b2) 10 [k]) 11 [b.length]) 12 b) 124 a = a ++ (List.replicate 4 0 ++ ((b2 ++ ([k, b.length] ++ (b ++ List.replicate (112 - b.length) 0))) ++ a)) := by
  have s1 : setL (List.replicate 128 0) 0 a = a ++ List.replicate 124 0 := by
    rw [show (128 : Nat) = 4 + 124 from rfl, rep_sp]; exact spl (X := []) (Y := List.replicate 4 0) (Z := List.replicate 124 0) rfl (by rw [List.length_replicate, ha])
  rw [s1]
  have s2 : setL (a ++ List.replicate 124 0) 8 b2 = (a ++ List.replicate 4 0) ++ (b2 ++ List.replicate 118 0) := by
    rw [show (124 : Nat) = 4 + (2 + 118) from rfl, rep_sp, rep_sp 2, ← List.append_assoc]; exact spl (by simp [ha]) (by simp [h2])
  rw [s2]
  have s3 : setL ((a ++ List.replicate 4 0) ++ (b2 ++ List.replicate 118 0)) 10 [k] = ((a ++ List.replicate 4 0) ++ b2) ++ ([k] ++ List.replicate 117 0) := by
    rw [show (118 : Nat) = 1 + 117 from rfl, rep_sp, ← List.append_assoc]; exact spl (by simp [ha, h2]) (by simp)
  rw [s3]
  have s4 : setL (((a ++ List.replicate 4 0) ++ b2) ++ ([k] ++ List.replicate 117 0)) 11 [b.length] = (((a ++ List.replicate 4 0) ++ b2) ++ [k]) ++ ([b.length] ++ List.replicate 116 0) := by
    rw [show (117 : Nat) = 1 + 116 from rfl, rep_sp, ← List.append_assoc]; exact spl (by simp [ha, h2]) (by simp)
  rw [s4]
  have s5 : setL ((((a ++ List.replicate 4 0) ++ b2) ++ [k]) ++ ([b.length] ++ List.replicate 116 0)) 12 b = ((((a ++ List.replicate 4 0) ++ b2) ++ [k]) ++ [b.length]) ++ (b ++ List.replicate (116 - b.length) 0) := by
    rw [show (116 : Nat) = b.length + (116 - b.length) by omega, rep_sp, ← List.append_assoc]; rw [show b.length + (116 - b.length) - b.length = 116 - b.length by omega]; exact spl (by simp [ha, h2]) (by simp)
  rw [s5]
  have s6 : setL (((((a ++ List.replicate 4 0) ++ b2) ++ [k]) ++ [b.length]) ++ (b ++ List.replicate (116 - b.length) 0)) 124 a = (((((a ++ List.replicate 4 0) ++ b2) ++ [k]) ++ [b.length]) ++ (b ++ List.replicate (112 - b.length) 0)) ++ (a ++ []) := by
    have h := spl (X := (((((a ++ List.replicate 4 0) ++ b2) ++ [k]) ++ [b.length]) ++ (b ++ List.replicate (112 - b.length) 0))) (Y := List.replicate 4 0) (Z := []) (new := a) (o := 124) (by simp [ha, h2]; omega) (by simp [ha]); rw [← h]
    congr 1
    rw [show 116 - b.length = (112 - b.length) + 4 by omega, rep_sp]; simp only [List.append_assoc, List.append_nil]
  rw [s6]; simp only [List.append_assoc, List.append_nil, List.cons_append, List.nil_append]
theorem u8s_setL {L new : List Nat} {o : Nat} : u8s (setL L o new) = (u8s L).take o ++ u8s new ++ (u8s L).drop (o + new.length) := by
  unfold setL; simp only [u8s, List.map_append, List.map_take, List.map_drop]
theorem u8s_set1 {L : List Nat} {i x : Nat} (h : i < L.length) : (u8s L).set i (uv8 x) = u8s (setL L i [x]) := by
  rw [u8s_setL, List.set_eq_take_append_cons_drop, if_pos (by rw [List.length_map]; exact h)]; simp
theorem setL_len {L new : List Nat} {o : Nat} (h : o + new.length ≤ L.length) : (setL L o new).length = L.length := by
  unfold setL; simp only [List.length_append, List.length_take, List.length_drop]; omega
set_option maxRecDepth 8000 in
theorem c_jencode {A : Option Addr} {n c g num kind : Nat} {b : List Nat} (hs : SlR tU8 D w A n b) (hn : n ≤ 112) (hk : kind < 256) (hnum : num ≤ 140737488355328) : CallZ Tryz.prog 108 #[uv64 g, iv (num : Int), uv8 kind, .slice A n c] w (fun v w' => ∃ q, v = .slice (some (ad q 0)) 128 128 ∧ w.heap.size ≤ q ∧ Blk w' q 246 (u8s (encB g num kind b)) ∧ Ext w w') := by
  have hs := hs.more (D' := fun b => b < w.heap.size) (by decide) fun b hb _ => hb; have hb8 := hs.u8b; have hlen := hs.len; refine fn_rule (args := [uv64 g, iv (num : Int), uv8 kind, .slice A n c]) Tryz.func108 (by kernel_rfl) ?_; refine alloc (fun q w1 h1 => ?_); have e1 := h1.at_; obtain ⟨L1, hL1⟩ : ∃ L1, L1 = List.replicate 128 0 := ⟨_, rfl⟩
  have B1 : Blk w1 q 246 (u8s L1) := by rw [hL1, u8s_rep]; exact h1.blk
  have l1 : L1.length = 128 := by rw [hL1, List.length_replicate]
  refine slcArr 0 4 rfl rfl (by omega) (by omega) (by omega) ?_; refine call_of (c_jput (o := 0) (n := 4) (N := g) B1 (by rw [List.length_map]; omega) (by omega)) ?_; rintro _ w2 ⟨rfl, B2, k2⟩; obtain ⟨L2, hL2⟩ : ∃ L2, L2 = setL L1 0 (beB 4 g) := ⟨_, rfl⟩
  have B2 : Blk w2 q 246 (u8s L2) := by rw [hL2, u8s_setL, beB_len]; exact B2
  have l2 : L2.length = 128 := by rw [hL2, setL_len (by rw [beB_len]; omega)]; exact l1
  refine slcArr 8 10 rfl rfl (by omega) (by omega) (by omega) ?_; refine cv64 num rfl ?_; rw [Nat.mod_eq_of_lt (show num < 18446744073709551616 by omega)]; refine call_of (c_jput (o := 8) (n := 2) (N := num) B2 (by rw [List.length_map]; omega) (by omega)) ?_; rintro _ w3 ⟨rfl, B3, k3⟩; obtain ⟨L3, hL3⟩ : ∃ L3, L3 = setL L2 8 (beB 2 num) := ⟨_, rfl⟩
  have B3 : Blk w3 q 246 (u8s L3) := by rw [hL3, u8s_setL, beB_len]; exact B3
  have l3 : L3.length = 128 := by rw [hL3, setL_len (by rw [beB_len]; omega)]; exact l2
  refine len ?_; refine cv8 n rfl ?_; rw [Nat.mod_eq_of_lt (show n < 256 by omega)]; refine idxR 10 rfl (by omega) ?_; refine st B3 (by rw [List.length_map]; omega) rfl (fun w4 B4 k4 _ => ?_); obtain ⟨L4, hL4⟩ : ∃ L4, L4 = setL L3 10 [kind] := ⟨_, rfl⟩
  have B4 : Blk w4 q 246 (u8s L4) := by rw [hL4, ← u8s_set1 (by omega)]; exact B4
  have l4 : L4.length = 128 := by rw [hL4, setL_len (by simp; omega)]; exact l3
  refine idxR 11 rfl (by omega) ?_; refine st B4 (by rw [List.length_map]; omega) rfl (fun w5 B5 k5 _ => ?_); obtain ⟨L5, hL5⟩ : ∃ L5, L5 = setL L4 11 [n] := ⟨_, rfl⟩
  have B5 : Blk w5 q 246 (u8s L5) := by rw [hL5, ← u8s_set1 (by omega)]; exact B5
  have l5 : L5.length = 128 := by rw [hL5, setL_len (by simp; omega)]; exact l4
  have x15 : Ext w w5 := ((((h1.ext.then k2 fun j hj _ e => by omega).then k3 fun j hj _ e => by omega).then k4 fun j hj _ e => by omega).then k5 fun j hj _ e => by omega); refine slcArr 12 128 rfl rfl (by omega) (by omega) (by omega) ?_; refine cpy (o := 12) (n := 116) (m := n) B5 (by rw [List.length_map]; omega) (hs.ext x15).u8src (fun w6 B6 k6 _ => ?_) (h1 := u8s_one _); obtain ⟨L6, hL6⟩ : ∃ L6, L6 = setL L5 12 b := ⟨_, rfl⟩
  have B6 : Blk w6 q 246 (u8s L6) := by
    rw [hL6, u8s_setL, hlen]; rw [List.take_of_length_le (i := 116) (by rw [List.length_map]; omega), Nat.min_eq_left (show n ≤ 116 by omega)] at B6; exact B6
  have l6 : L6.length = 128 := by rw [hL6, setL_len (by omega)]; exact l5
  refine slcArr 124 128 rfl rfl (by omega) (by omega) (by omega) ?_; refine call_of (c_jput (o := 124) (n := 4) (N := g) B6 (by rw [List.length_map]; omega) (by omega)) ?_; rintro _ w7 ⟨rfl, B7, k7⟩
  have hL7 : setL L6 124 (beB 4 g) = beB 4 g ++ (List.replicate 4 0 ++ (bodyB num kind b ++ beB 4 g)) := by
    rw [hL6, hL5, hL4, hL3, hL2, hL1, ← hlen]; exact enc_list (beB_len _ _) (beB_len _ _) (by omega)
  have B7 : Blk w7 q 246 (u8s (beB 4 g ++ (List.replicate 4 0 ++ (bodyB num kind b ++ beB 4 g)))) := by
    rw [← hL7, u8s_setL, beB_len]; exact B7
  have x17 : Ext w w7 := (x15.then k6 fun j hj _ e => by omega).then k7 fun j hj _ e => by omega
  have hbl := bodyB_len (num := num) (kind := kind) (show b.length ≤ 112 by omega); have hbt := bodyB_lt (num := num) (show b.length ≤ 112 by omega) hk hb8
  have sl : SlR tU8 (fun _ => True) w7 (some (ad q 8)) 116 (bodyB num kind b) := SlR.of_cells hbl.symm (by omega) trivial (by
    have h := CellsAt.blk B7
    rw [u8s_app, u8s_app, u8s_app] at h
    have h2 := (CellsAt.app (CellsAt.app (CellsAt.app h).2).2).1
    rw [List.length_map, List.length_map, beB_len, List.length_replicate] at h2
    exact h2) (flat_u8s hbt)
  refine drawP (.take 0 (.take 1 (.take 2 (.take 3 (.bar (.eff 4 .done)))))) [4] (fun y => Ext w7 y) mx (by kernel_rfl) (.refl _ _) ?_; refine slcArr 4 8 rfl rfl (by omega) (by omega) (by omega) ?_; refine slcArr 8 124 rfl rfl (by omega) (by omega) (by omega) ?_; refine callQ (fun y hy => c_jsum (sl.ext hy)) ?_; refine cv64 (crcL (bodyB num kind b)) rfl ?_; have hcl := crcL_lt hbt; rw [Nat.mod_eq_of_lt (show crcL (bodyB num kind b) < 18446744073709551616 by omega)]; refine barS (fun _ => True) trivial ?_; refine call_of (c_jput (o := 4) (n := 4) (N := crcL (bodyB num kind b)) B7 (by simp only [List.length_map, List.length_append, beB_len, List.length_replicate, hbl]; omega) (by omega)) ?_; rintro _ w8 ⟨rfl, B8, k8⟩
  have B8 : Blk w8 q 246 (u8s (encB g num kind b)) := by
    have e : encB g num kind b = setL (beB 4 g ++ (List.replicate 4 0 ++ (bodyB num kind b ++ beB 4 g))) 4 (beB 4 (crcL (bodyB num kind b))) := by
      rw [spl (beB_len _ _) (by rw [List.length_replicate, beB_len])]
      rfl
    rw [e, u8s_setL, beB_len]; exact B8
  refine strS trivial ?_; refine slcArr 0 128 rfl rfl (by omega) (by omega) (by omega) ?_; exact ret1 (.slice (some (ad q 0)) 128 128) rfl ⟨q, rfl, by omega, B8, x17.then k8 fun j hj _ e => by omega⟩
end
def at8 (s : List Nat) (i : Nat) : Nat := s.getD i 0
def goodP (s : List Nat) (num : Nat) : Prop := at8 s 11 ≤ 112 ∧ at8 s 10 ≤ 3 ∧ ¬ (at8 s 10 &&& 2 = 0 ∧ at8 s 11 < 112) ∧ ¬ (at8 s 10 &&& 1 = 0 ∧ at8 s 11 = 0) ∧ 0 < getB (s.take 4) ∧ s = encB (getB (s.take 4)) num (at8 s 10) ((s.drop 12).take (at8 s 11))
instance (s : List Nat) (num : Nat) : Decidable (goodP s num) := by unfold goodP; infer_instance
def goodB (s : List Nat) (num : Nat) : Bool := decide (goodP s num)
section
variable {D : Nat → Prop} {w : World}
theorem c_bytesEq {D2 : Nat → Prop} {A B : Option Addr} {n c m d : Nat} {a b : List Nat} (hs : SlR tU8 D w A n a) (ht : SlR tU8 D2 w B m b) : CallZ Tryz.prog 106 #[.slice A n c, .slice B m d] w (fun v w' => v = .bool (decide (a = b)) ∧ w' = w) := by
  have h1 := hs.u8b; have h2 := ht.u8b; refine fn_rule (args := [.slice A n c, .slice B m d]) Tryz.func106 (by kernel_rfl) ?_; refine cvBS rfl hs ?_; refine cvBS rfl ht ?_; refine eqStr (fun h => ?_) (fun h => ?_)
  · exact ret1 (.bool true) rfl ⟨by rw [decide_eq_true (strB_inj h1 h2 h)], rfl⟩
  · exact ret1 (.bool false) rfl ⟨by rw [decide_eq_false (fun e => h (by rw [e]))], rfl⟩
theorem u8_cell {b o n k : Nat} {l : List Nat} (h : SlR tU8 D w (some (ad b o)) n l) (hk : k < n) : w.cell? (ad b (o + k * 1)) = some (uv8 (at8 l k)) ∧ at8 l k < 256 := by
  obtain ⟨b', o', cs, x, e, hx, -, -, hc, rfl, hx2⟩ := h.at_ hk; injection e with e; injection e with e1 e2; subst e1; subst e2
  have hx3 : at8 l k = x := by unfold at8; rw [List.getD_eq_getElem?_getD, hx]; rfl
  rw [hx3]; exact ⟨hc 0 _ rfl, hx2⟩
theorem c_jgood {A : Option Addr} {c num : Nat} {s : List Nat} (hs : SlR tU8 D w A 128 s) (hc : 128 ≤ c) (hnum : num ≤ 100000) : CallZ Tryz.prog 161 #[.slice A 128 c, iv (num : Int)] w (fun v w' => v = .bool (goodB s num) ∧ Ext w w') := by
  have hlen := hs.len; obtain ⟨b, o, cs0, x0, rfl, -⟩ := hs.at_ (k := 0) (by omega); obtain ⟨c11, l11⟩ := u8_cell hs (k := 11) (by omega); obtain ⟨c10, l10⟩ := u8_cell hs (k := 10) (by omega); obtain ⟨n, hn⟩ : ∃ n, n = at8 s 11 := ⟨_, rfl⟩; obtain ⟨k, hk⟩ : ∃ k, k = at8 s 10 := ⟨_, rfl⟩; rw [← hn] at c11 l11; rw [← hk] at c10 l10; refine fn_rule (args := [.slice (some (ad b o)) 128 c, iv (num : Int)]) Tryz.func161 (by kernel_rfl) ?_; have bad : ¬ goodP s num → (Value.bool false = .bool (goodB s num) ∧ Ext w w) := fun h => ⟨by unfold goodB; rw [decide_eq_false h], .refl _ _⟩; refine idx 11 rfl (by omega) ?_; refine ld (uv8 n) c11 ?_; refine cvI (by omega) ?_; refine cD (fun h => ?_) (fun h1 => ?_)
  · exact ret1 (.bool false) rfl (bad fun q => by have := q.1; omega)
  refine idx 10 rfl (by omega) ?_; refine ld (uv8 k) c10 ?_; refine cD (fun h => ?_) (fun h2 => ?_)
  · exact ret1 (.bool false) rfl (bad fun q => by have := q.2.1; omega)
  refine idx 10 rfl (by omega) ?_; refine ld (uv8 k) c10 ?_; refine and8 (a := k) (b := 2) l10 (by omega) ?_; refine cE (fun h3 => ?_) (fun h3 => ?_)
  · refine cD (fun h4 => ?_) (fun h4 => ?_)
    · exact ret1 (.bool false) rfl (bad fun q => by have := q.2.2.1; rw [← hk, ← hn] at this; exact this ⟨by omega, by omega⟩)
    · refine idx 10 rfl (by omega) ?_; refine ld (uv8 k) c10 ?_; refine and8 (a := k) (b := 1) l10 (by omega) ?_; refine cE (fun h5 => ?_) (fun h5 => ?_)
      · refine cE (fun h6 => ?_) (fun h6 => ?_)
        · exact ret1 (.bool false) rfl (bad fun q => by have := q.2.2.2.1; rw [← hk, ← hn] at this; exact this ⟨by omega, by omega⟩)
        · refine slcR 0 4 hs hc rfl rfl (by omega) (by omega) rfl (fun A4 hA4 => ?_); have s4 := hA4 _ w hs; rw [List.drop_zero] at s4; refine call_of (c_jget s4) ?_; rintro _ w1 ⟨rfl, hw1⟩; rw [hw1]; clear hw1 w1; refine drawP (.take 0 (.take 1 (.take 2 (.take 3 (.take 4 (.take 5 (.take 6 (.take 7 (.take 8 (.take 9 (.take 10 (.take 11 (.take 12 (.eff 13 (.eff 14 (.take 15 (.take 16 .done))))))))))))))))) [] (fun y => Ext w y) mx (by kernel_rfl) (.refl _ _) ?_; refine cD (fun hg => ?_) (fun hg => ?_)
          · refine idx 10 rfl (by omega) ?_; refine ldX (uv8 k) c10 (.refl _ _) ?_; refine arI (n := 12 + (n : Int)) (by omega) ?_; refine slcR 12 (12 + n) hs hc rfl (by show 12 + (n : Int) = ((12 + n : Nat) : Int); omega) (by omega) (by omega) rfl (fun A5 hA5 => ?_); have s5 := hA5 _ w hs
            have e5 : (s.take (12 + n)).drop 12 = (s.drop 12).take n := by rw [List.drop_take, Nat.add_sub_cancel_left]
            rw [e5, Nat.add_sub_cancel_left] at s5; have hgl := getB_lt s4.u8b; rw [Nat.add_sub_cancel_left]; refine call_of (c_jencode (g := getB (s.take 4)) s5 (by omega) l10 (by omega)) ?_; rintro _ w2 ⟨q, rfl, hq, B2, x2⟩; have hb5 := s5.u8b; have hl5 := s5.len; refine strS x2 ?_; have s6 : SlR tU8 (fun _ => True) w2 (some (ad q 0)) 128 (encB (getB (s.take 4)) num k ((s.drop 12).take n)) := SlR.of_cells (encB_len (by omega)).symm (by omega) trivial (.blk B2) (flat_u8s (encB_lt (by omega) l10 hb5)); refine callB (c_bytesEq (hs.ext x2) s6) (fun hq2 => ?_) (fun hq2 => ?_)
            · refine strS x2 ?_; refine ret1 (.bool true) rfl ⟨?_, x2⟩; unfold goodB; rw [decide_eq_true]; refine ⟨by omega, by omega, (fun q => by rw [← hn] at q; omega), (fun q => by rw [← hn] at q; omega), by omega, ?_⟩; rw [← hk, ← hn]; exact of_decide_eq_true hq2
            · refine strS x2 ?_; refine ret1 (.bool false) rfl ⟨?_, x2⟩; unfold goodB; rw [decide_eq_false]; intro q; have := q.2.2.2.2.2; rw [← hk, ← hn] at this; exact (of_decide_eq_false hq2) this
          · refine strS (.refl _ _) ?_; refine strS (.refl _ _) ?_; exact ret1 (.bool false) rfl (bad fun q => by have := q.2.2.2.2.1; omega)
      · refine slcR 0 4 hs hc rfl rfl (by omega) (by omega) rfl (fun A4 hA4 => ?_); have s4 := hA4 _ w hs; rw [List.drop_zero] at s4; refine call_of (c_jget s4) ?_; rintro _ w1 ⟨rfl, hw1⟩; rw [hw1]; clear hw1 w1; refine drawP (.take 0 (.take 1 (.take 2 (.take 3 (.take 4 (.take 5 (.take 6 (.take 7 (.take 8 (.take 9 (.take 10 (.take 11 (.take 12 (.eff 13 (.eff 14 (.take 15 (.take 16 .done))))))))))))))))) [] (fun y => Ext w y) mx (by kernel_rfl) (.refl _ _) ?_; refine cD (fun hg => ?_) (fun hg => ?_)
        · refine idx 10 rfl (by omega) ?_; refine ldX (uv8 k) c10 (.refl _ _) ?_; refine arI (n := 12 + (n : Int)) (by omega) ?_; refine slcR 12 (12 + n) hs hc rfl (by show 12 + (n : Int) = ((12 + n : Nat) : Int); omega) (by omega) (by omega) rfl (fun A5 hA5 => ?_); have s5 := hA5 _ w hs
          have e5 : (s.take (12 + n)).drop 12 = (s.drop 12).take n := by rw [List.drop_take, Nat.add_sub_cancel_left]
          rw [e5, Nat.add_sub_cancel_left] at s5; have hgl := getB_lt s4.u8b; rw [Nat.add_sub_cancel_left]; refine call_of (c_jencode (g := getB (s.take 4)) s5 (by omega) l10 (by omega)) ?_; rintro _ w2 ⟨q, rfl, hq, B2, x2⟩; have hb5 := s5.u8b; have hl5 := s5.len; refine strS x2 ?_; have s6 : SlR tU8 (fun _ => True) w2 (some (ad q 0)) 128 (encB (getB (s.take 4)) num k ((s.drop 12).take n)) := SlR.of_cells (encB_len (by omega)).symm (by omega) trivial (.blk B2) (flat_u8s (encB_lt (by omega) l10 hb5)); refine callB (c_bytesEq (hs.ext x2) s6) (fun hq2 => ?_) (fun hq2 => ?_)
          · refine strS x2 ?_; refine ret1 (.bool true) rfl ⟨?_, x2⟩; unfold goodB; rw [decide_eq_true]; refine ⟨by omega, by omega, (fun q => by rw [← hn] at q; omega), (fun q => by rw [← hk] at q; omega), by omega, ?_⟩; rw [← hk, ← hn]; exact of_decide_eq_true hq2
          · refine strS x2 ?_; refine ret1 (.bool false) rfl ⟨?_, x2⟩; unfold goodB; rw [decide_eq_false]; intro q; have := q.2.2.2.2.2; rw [← hk, ← hn] at this; exact (of_decide_eq_false hq2) this
        · refine strS (.refl _ _) ?_; refine strS (.refl _ _) ?_; exact ret1 (.bool false) rfl (bad fun q => by have := q.2.2.2.2.1; omega)
  · refine idx 10 rfl (by omega) ?_; refine ld (uv8 k) c10 ?_; refine and8 (a := k) (b := 1) l10 (by omega) ?_; refine cE (fun h5 => ?_) (fun h5 => ?_)
    · refine cE (fun h6 => ?_) (fun h6 => ?_)
      · exact ret1 (.bool false) rfl (bad fun q => by have := q.2.2.2.1; rw [← hk, ← hn] at this; exact this ⟨by omega, by omega⟩)
      · refine slcR 0 4 hs hc rfl rfl (by omega) (by omega) rfl (fun A4 hA4 => ?_); have s4 := hA4 _ w hs; rw [List.drop_zero] at s4; refine call_of (c_jget s4) ?_; rintro _ w1 ⟨rfl, hw1⟩; rw [hw1]; clear hw1 w1; refine drawP (.take 0 (.take 1 (.take 2 (.take 3 (.take 4 (.take 5 (.take 6 (.take 7 (.take 8 (.take 9 (.take 10 (.take 11 (.take 12 (.eff 13 (.eff 14 (.take 15 (.take 16 .done))))))))))))))))) [] (fun y => Ext w y) mx (by kernel_rfl) (.refl _ _) ?_; refine cD (fun hg => ?_) (fun hg => ?_)
        · refine idx 10 rfl (by omega) ?_; refine ldX (uv8 k) c10 (.refl _ _) ?_; refine arI (n := 12 + (n : Int)) (by omega) ?_; refine slcR 12 (12 + n) hs hc rfl (by show 12 + (n : Int) = ((12 + n : Nat) : Int); omega) (by omega) (by omega) rfl (fun A5 hA5 => ?_); have s5 := hA5 _ w hs
          have e5 : (s.take (12 + n)).drop 12 = (s.drop 12).take n := by rw [List.drop_take, Nat.add_sub_cancel_left]
          rw [e5, Nat.add_sub_cancel_left] at s5; have hgl := getB_lt s4.u8b; rw [Nat.add_sub_cancel_left]; refine call_of (c_jencode (g := getB (s.take 4)) s5 (by omega) l10 (by omega)) ?_; rintro _ w2 ⟨q, rfl, hq, B2, x2⟩; have hb5 := s5.u8b; have hl5 := s5.len; refine strS x2 ?_; have s6 : SlR tU8 (fun _ => True) w2 (some (ad q 0)) 128 (encB (getB (s.take 4)) num k ((s.drop 12).take n)) := SlR.of_cells (encB_len (by omega)).symm (by omega) trivial (.blk B2) (flat_u8s (encB_lt (by omega) l10 hb5)); refine callB (c_bytesEq (hs.ext x2) s6) (fun hq2 => ?_) (fun hq2 => ?_)
          · refine strS x2 ?_; refine ret1 (.bool true) rfl ⟨?_, x2⟩; unfold goodB; rw [decide_eq_true]; refine ⟨by omega, by omega, (fun q => by rw [← hk] at q; omega), (fun q => by rw [← hn] at q; omega), by omega, ?_⟩; rw [← hk, ← hn]; exact of_decide_eq_true hq2
          · refine strS x2 ?_; refine ret1 (.bool false) rfl ⟨?_, x2⟩; unfold goodB; rw [decide_eq_false]; intro q; have := q.2.2.2.2.2; rw [← hk, ← hn] at this; exact (of_decide_eq_false hq2) this
        · refine strS (.refl _ _) ?_; refine strS (.refl _ _) ?_; exact ret1 (.bool false) rfl (bad fun q => by have := q.2.2.2.2.1; omega)
    · refine slcR 0 4 hs hc rfl rfl (by omega) (by omega) rfl (fun A4 hA4 => ?_); have s4 := hA4 _ w hs; rw [List.drop_zero] at s4; refine call_of (c_jget s4) ?_; rintro _ w1 ⟨rfl, hw1⟩; rw [hw1]; clear hw1 w1; refine drawP (.take 0 (.take 1 (.take 2 (.take 3 (.take 4 (.take 5 (.take 6 (.take 7 (.take 8 (.take 9 (.take 10 (.take 11 (.take 12 (.eff 13 (.eff 14 (.take 15 (.take 16 .done))))))))))))))))) [] (fun y => Ext w y) mx (by kernel_rfl) (.refl _ _) ?_; refine cD (fun hg => ?_) (fun hg => ?_)
      · refine idx 10 rfl (by omega) ?_; refine ldX (uv8 k) c10 (.refl _ _) ?_; refine arI (n := 12 + (n : Int)) (by omega) ?_; refine slcR 12 (12 + n) hs hc rfl (by show 12 + (n : Int) = ((12 + n : Nat) : Int); omega) (by omega) (by omega) rfl (fun A5 hA5 => ?_); have s5 := hA5 _ w hs
        have e5 : (s.take (12 + n)).drop 12 = (s.drop 12).take n := by rw [List.drop_take, Nat.add_sub_cancel_left]
        rw [e5, Nat.add_sub_cancel_left] at s5; have hgl := getB_lt s4.u8b; rw [Nat.add_sub_cancel_left]; refine call_of (c_jencode (g := getB (s.take 4)) s5 (by omega) l10 (by omega)) ?_; rintro _ w2 ⟨q, rfl, hq, B2, x2⟩; have hb5 := s5.u8b; have hl5 := s5.len; refine strS x2 ?_; have s6 : SlR tU8 (fun _ => True) w2 (some (ad q 0)) 128 (encB (getB (s.take 4)) num k ((s.drop 12).take n)) := SlR.of_cells (encB_len (by omega)).symm (by omega) trivial (.blk B2) (flat_u8s (encB_lt (by omega) l10 hb5)); refine callB (c_bytesEq (hs.ext x2) s6) (fun hq2 => ?_) (fun hq2 => ?_)
        · refine strS x2 ?_; refine ret1 (.bool true) rfl ⟨?_, x2⟩; unfold goodB; rw [decide_eq_true]; refine ⟨by omega, by omega, (fun q => by rw [← hk] at q; omega), (fun q => by rw [← hk] at q; omega), by omega, ?_⟩; rw [← hk, ← hn]; exact of_decide_eq_true hq2
        · refine strS x2 ?_; refine ret1 (.bool false) rfl ⟨?_, x2⟩; unfold goodB; rw [decide_eq_false]; intro q; have := q.2.2.2.2.2; rw [← hk, ← hn] at this; exact (of_decide_eq_false hq2) this
      · refine strS (.refl _ _) ?_; refine strS (.refl _ _) ?_; exact ret1 (.bool false) rfl (bad fun q => by have := q.2.2.2.2.1; omega)
end
end Go.Proofs.YtehcphboliofaaaGreatDoor
