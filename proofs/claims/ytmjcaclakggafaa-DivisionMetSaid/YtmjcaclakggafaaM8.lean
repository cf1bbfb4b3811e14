/- Parts of the proof: D8 D9 Da Db Dc. -/
import Derived.Test.YtmjcaclakggafaaM7
import Derived.Test.YtmjcaclakggafaaM3
import Derived.Test.YtmjcaclakggafaaM4

/- Layer 41: contracts of least, claims, check, reaches. -/
namespace Go.Proofs.Ytmjcaclakggafaa
open Go Go.RowKit

section
variable {D : Nat → Prop} {w : World}
theorem c_dleast {n : Int} {l : List Int} {A : Option Addr} {m c : Nat} (hl : SlR tInt D w A m l) : CallZ Try.prog 26 #[iv n, .slice A m c] w (fun v w' => v = iv (l.foldl min n) ∧ w' = w) := by
  have ll := hl.len
  have hle := hl.le
  refine fn_rule (args := [iv n, .slice A m c]) Try.func26 (by kernel_rfl) ?_
  refine len ?_
  refine loop_rule (fun k : Nat => [(9, iv (k : Int)), (0, iv ((l.take k).foldl min n))]) (fun k u => k ≤ m ∧ w = u) (fun k _ => m - k) 0 ⟨rfl, rfl, trivial⟩ ⟨by omega, rfl⟩ rfl ?_
  rintro G k u ⟨hk, rfl⟩
  refine cD (fun hlt => ?_) (fun hge => ?_)
  · have hlt : k < m := by omega
    obtain ⟨b, o, cs, x, rfl, hx, -, -, hc, rfl, -⟩ := hl.at_ hlt
    have htk : l.take (k + 1) = l.take k ++ [x] := by rw [List.take_add_one, hx]; rfl
    refine idx k rfl hlt ?_
    refine ld (iv x) (hc 0 _ rfl) ?_
    refine arI (by omega) ?_
    exact next (k + 1) ⟨by rw [Int.natCast_add]; rfl, by rw [htk, List.foldl_append]; rfl, trivial⟩ ⟨by omega, rfl⟩ (by omega)
  · exact ret1 (iv ((l.take k).foldl min n)) rfl ⟨by rw [List.take_of_length_le (by omega)], rfl⟩
theorem isum_map {α : Type} {f : α → Int} {l : List α} {x : α} : isum ((l ++ [x]).map f) = isum (l.map f) + f x := by rw [List.map_append]; exact isum_snoc
theorem c_dclaims {ps : List Pt} {cl hs : List Int} {A B C : Option Addr} {n c m cb k cc : Nat} (hp : SlR tPt D w A n ps) (hb : SlR tInt D w B m cl) (hh : SlR tInt D w C k hs) (hn : n ≤ 664) (hi : ∀ p ∈ ps, (p.1 = true → p.2 < m) ∧ (p.1 = false → p.2 < k)) (h1 : OkL cl) (h2 : OkL hs) :
    CallZ Try.prog 28 #[.slice A n c, .slice B m cb, .slice C k cc] w (fun v w' => ∃ A' c', v = .tuple #[.slice A' n c', iv (isum (ps.map (clP cl hs)))] ∧ OwnF w w' A' n c' 3 1 ((ps.map (clP cl hs)).map fun x => .int .i64 x)) := by
  have lp := hp.len
  have lb := hb.len
  have lh := hh.len
  have ok : ∀ p, 0 ≤ clP cl hs p ∧ clP cl hs p ≤ 1073741824 := fun p => by
    unfold clP
    have q : ∀ {l : List Int}, OkL l → ∀ i, 0 ≤ clA l i ∧ clA l i ≤ 1073741824 := fun {l} h i => by
      by_cases hi : i < l.length
      · exact clA_b h hi
      · unfold clA; rw [List.getD_eq_getElem?_getD, List.getElem?_eq_none (by omega)]; exact ⟨Int.le_refl _, by decide⟩
    split
    · exact q h1 _
    · exact q h2 _
  have okl : ∀ k : Nat, OkL ((ps.take k).map (clP cl hs)) := fun k c hc => by
    obtain ⟨p, -, rfl⟩ := List.mem_map.1 hc
    exact ok p
  refine fn_rule (args := [.slice A n c, .slice B m cb, .slice C k cc]) Try.func28 (by kernel_rfl) ?_
  refine len ?_
  refine loop_rule (fun s : Nat × Option Addr × Nat => [(13, iv (s.1 : Int)), (6, .slice s.2.1 s.1 s.2.2), (7, iv (isum ((ps.take s.1).map (clP cl hs))))]) (fun s u => s.1 ≤ n ∧ OwnF w u s.2.1 s.1 s.2.2 3 1 (((ps.take s.1).map (clP cl hs)).map fun x => .int .i64 x)) (fun s _ => n - s.1) (0, none, 0) ⟨rfl, rfl, rfl, trivial⟩ ⟨by omega, .nil (.refl _ _)⟩ rfl ?_
  rintro G ⟨j, E, ce⟩ u ⟨hj, own⟩
  have hj : j ≤ n := hj
  have own : OwnF w u E j ce 3 1 (((ps.take j).map (clP cl hs)).map fun x => .int .i64 x) := own
  refine cD (fun hlt => ?_) (fun hge => ?_)
  · have hlt : j < n := by omega
    obtain ⟨b, o, cs, p, rfl, hpj, -, -, hc, rfl⟩ := (hp.ext own.ext).at_ hlt
    have htk : ps.take (j + 1) = ps.take j ++ [p] := by rw [List.take_add_one, hpj]; rfl
    have sb := isum_b (okl j)
    rw [List.length_map, List.length_take] at sb
    have okp := ok p
    obtain ⟨i1, i2⟩ := hi p (List.mem_of_getElem? hpj)
    refine idx j rfl hlt ?_
    refine ldA (encP p) hc rfl ?_
    refine alloc (fun q u1 a1 => ?_)
    refine stA (vs := encP p) a1.blk rfl (Nat.le_of_ble_eq_true rfl) (by simp [Value.oneCell']) (fun u2 b2 k2 z2 => ?_)
    have b2 : Blk u2 q 92 (encP p) := b2
    have ea := a1.at_
    have x2 : Ext u u2 := a1.ext.then k2 fun b hb _ e => by omega
    have own := own.then x2
    obtain ⟨vp, hvp⟩ : ∃ vp, vp = clP cl hs p := ⟨_, rfl⟩
    have nxt : ∀ (G : Fr) (K : KK), True := fun _ _ => trivial
    obtain ⟨pf, pi⟩ := p
    cases pf with
    | true =>
      have i1 : pi < m := i1 rfl
      obtain ⟨b', o', cs', x, rfl, hx, -, -, hc', rfl, -⟩ := (hb.ext own.ext).at_ i1
      have ex : x = vp := by rw [hvp]; show x = clA cl pi; rw [clA_at hx]
      refine fldA ?_
      refine ld (.bool true) (b2.cell rfl) ?_
      refine fldA ?_
      refine ld (iv (pi : Int)) (b2.cell rfl) ?_
      refine idx pi rfl i1 ?_
      refine ld (iv x) (hc' 0 _ rfl) ?_
      refine lit [iv x] (fun g u3 hq => ?_)
      refine appF (own.then hq.ext) (hq.src (sz := 1) rfl) (by omega) (fun A' c' u4 o4 _ _ => ?_)
      refine arI (by dsimp only; omega) ?_
      refine arI (by omega) ?_
      refine next (j + 1, A', c') ⟨by rw [Int.natCast_add]; rfl, rfl, by rw [htk, isum_map, ← hvp, ← ex]; rfl, trivial⟩ ⟨by show j + 1 ≤ n; omega, ?_⟩ (by show n - (j + 1) < n - j; omega)
      show OwnF w u4 A' (j + 1) c' 3 1 (((ps.take (j + 1)).map (clP cl hs)).map fun x => .int .i64 x)
      rw [htk, List.map_append, List.map_append]
      have e : ([(true, pi)] : List Pt).map (clP cl hs) = [x] := by rw [ex, hvp]; rfl
      rw [e]; exact o4
    | false =>
      have i2 : pi < k := i2 rfl
      obtain ⟨b', o', cs', x, rfl, hx, -, -, hc', rfl, -⟩ := (hh.ext own.ext).at_ i2
      have ex : x = vp := by rw [hvp]; show x = clA hs pi; rw [clA_at hx]
      refine fldA ?_
      refine ld (.bool false) (b2.cell rfl) ?_
      refine fldA ?_
      refine ld (iv (pi : Int)) (b2.cell rfl) ?_
      refine idx pi rfl i2 ?_
      refine ld (iv x) (hc' 0 _ rfl) ?_
      refine lit [iv x] (fun g u3 hq => ?_)
      refine appF (own.then hq.ext) (hq.src (sz := 1) rfl) (by omega) (fun A' c' u4 o4 _ _ => ?_)
      refine arI (by dsimp only; omega) ?_
      refine arI (by omega) ?_
      refine next (j + 1, A', c') ⟨by rw [Int.natCast_add]; rfl, rfl, by rw [htk, isum_map, ← hvp, ← ex]; rfl, trivial⟩ ⟨by show j + 1 ≤ n; omega, ?_⟩ (by show n - (j + 1) < n - j; omega)
      show OwnF w u4 A' (j + 1) c' 3 1 (((ps.take (j + 1)).map (clP cl hs)).map fun x => .int .i64 x)
      rw [htk, List.map_append, List.map_append]
      have e : ([(false, pi)] : List Pt).map (clP cl hs) = [x] := by rw [ex, hvp]; rfl
      rw [e]; exact o4
  · obtain rfl : j = n := by omega
    have e : ps.take j = ps := List.take_of_length_le (by omega)
    rw [e] at own
    exact ret2 (.slice E j ce) (iv (isum ((ps.take j).map (clP cl hs)))) rfl rfl ⟨E, ce, by rw [e], own⟩
theorem c_dcheck1 {x : Int} : CallZ Try.prog 66 #[iv x] w (fun v w' => v = .bool (!okC x) ∧ Ext w w') := by
  refine fn_rule (args := [iv x]) Try.func66 (by kernel_rfl) ?_
  have e : okC x = decide (0 ≤ x ∧ x ≤ 1073741824) := rfl
  refine cD (fun g => ?_) (fun g => ?_)
  · exact ret1 (.bool true) rfl ⟨by rw [e, decide_eq_false (by omega)]; rfl, .refl _ _⟩
  refine cD (fun g2 => ?_) (fun g2 => ?_)
  · exact ret1 (.bool true) rfl ⟨by rw [e, decide_eq_false (by omega)]; rfl, .refl _ _⟩
  · exact ret1 (.bool false) rfl ⟨by rw [e, decide_eq_true (by omega)]; rfl, .refl _ _⟩
theorem c_indI {xs : List Int} {A : Option Addr} {n c : Nat} (h : SlR tInt D w A n xs) : CallZ Try.prog 78 #[.slice A n c, .func (.func 66) #[] #[]] w (fun v w' => (∃ i : Int, v = iv i ∧ (0 ≤ i ↔ xs.all okC = false)) ∧ Ext w w') := by
  refine fn_rule (args := [.slice A n c, .func (.func 66) #[] #[]]) Try.func78 (by kernel_rfl) ?_
  refine len ?_
  refine loop_rule (fun k : Nat => [(8, iv (k : Int))]) (fun k w' => k ≤ n ∧ Ext w w' ∧ xs.all okC = (xs.drop k).all okC) (fun k _ => n - k) 0 ⟨rfl, trivial⟩ ⟨by omega, .refl _ _, rfl⟩ rfl ?_
  rintro G k w' ⟨hk, xw, he⟩
  refine cD (fun hlt => ?_) (fun hge => ?_)
  · obtain ⟨b, o, cs, x, rfl, hx, hdx, -, hc, rfl, -⟩ := (h.ext xw).at_ (show k < n by omega)
    rw [hdx, List.all_cons] at he
    refine idx k rfl (by omega) ?_
    refine ld (iv x) (hc 0 _ rfl) ?_
    refine callE (c_dcheck1 (x := x)) (fun w2 g x2 => ?_) (fun w2 g x2 => ?_)
    · refine ret1 (iv (k : Int)) rfl ⟨⟨k, rfl, ?_⟩, xw.trans x2⟩
      simp only [Bool.not_eq_true'] at g
      rw [he, g]; simp
    · simp only [Bool.not_eq_false'] at g
      refine arI (by have := h.le; omega) ?_
      refine next (k + 1) ⟨by rw [Int.natCast_add]; rfl, trivial⟩ ⟨by omega, xw.trans x2, ?_⟩ (by omega)
      rw [he, g]; rfl
  · refine ret1 (iv (-1)) rfl ⟨⟨-1, rfl, ?_⟩, xw⟩
    rw [he, List.drop_eq_nil_of_le (by have := h.len; omega)]; simp
theorem c_contI {xs : List Int} {A : Option Addr} {n c : Nat} (h : SlR tInt D w A n xs) : CallZ Try.prog 65 #[.slice A n c, .func (.func 66) #[] #[]] w (fun v w' => v = .bool (!xs.all okC) ∧ Ext w w') := by
  refine fn_rule (args := [.slice A n c, .func (.func 66) #[] #[]]) Try.func65 (by kernel_rfl) ?_
  refine call_of (c_indI h) ?_
  rintro _ w' ⟨⟨i, rfl, hi⟩, xw⟩
  refine cD (fun g => ?_) (fun g => ?_)
  · exact ret1 (.bool true) rfl ⟨by rw [hi.1 g]; rfl, xw⟩
  · exact ret1 (.bool false) rfl ⟨by rw [show xs.all okC = true from by cases ha : xs.all okC with | true => rfl | false => exact absurd (hi.2 ha) g]; rfl, xw⟩
theorem c_dcheck {csd : List Value} {d : Dist} {cl : List Int} {A : Option Addr} {n c : Nat} (hd : DiR D w csd d) (hl : SlR tInt D w A n cl) : CallZ Try.prog 42 #[.agg csd.toArray, .slice A n c] w (fun v w' => v = iv (divErr d cl) ∧ Ext w w') := by
  have hd0 := hd
  obtain ⟨A1, n1, c1, A2, n2, c2, A3, n3, c3, A4, n4, c4, A5, n5, c5, A6, n6, c6, rfl, hr, hf, -⟩ := hd.ex
  have lf := hf.len
  have ll := hl.len
  refine fn_rule (args := [.agg #[.string d.name, iv d.hours, iv d.cap, iv d.start, .slice A1 n1 c1, .slice A2 n2 c2, .slice A3 n3 c3, .slice A4 n4 c4, .slice A5 n5 c5, .slice A6 n6 c6], .slice A n c]) Try.func42 (by kernel_rfl) ?_
  refine box (fun b1 w1 h1 => ?_)
  have B1 : Blk w1 b1 31 [.string d.name, iv d.hours, iv d.cap, iv d.start, .slice A1 n1 c1, .slice A2 n2 c2, .slice A3 n3 c3, .slice A4 n4 c4, .slice A5 n5 c5, .slice A6 n6 c6] := h1.blk
  refine ldA [.string d.name, iv d.hours, iv d.cap, iv d.start, .slice A1 n1 c1, .slice A2 n2 c2, .slice A3 n3 c3, .slice A4 n4 c4, .slice A5 n5 c5, .slice A6 n6 c6] (.blk B1) rfl ?_
  refine call_of (c_eCheck (hd0.ext h1.ext)) ?_
  rintro _ w2 ⟨rfl, x2⟩
  have B1 := B1.ext x2
  have xx := h1.ext.trans x2
  refine cN (fun g => ?_) (fun g => ?_)
  · exact ret1 (iv (dErr d)) rfl ⟨by unfold divErr; rw [if_pos g], xx⟩
  have e0 : divErr d cl = if claimOk d cl then 0 else 410 := by unfold divErr; rw [if_neg (fun h => h g)]
  refine len ?_
  refine fldA ?_
  refine ld (.slice A2 n2 c2) (B1.cell rfl) ?_
  refine len ?_
  refine cN (fun g1 => ?_) (fun g1 => ?_)
  · exact ret1 (iv 410) rfl ⟨by rw [e0, if_neg]; unfold claimOk; rw [decide_eq_false (by omega)]; simp, xx⟩
  refine callE (c_contI (hl.ext xx)) (fun w3 g2 e3 => ?_) (fun w3 g2 e3 => ?_)
  · simp only [Bool.not_eq_true'] at g2
    exact ret1 (iv 410) rfl ⟨by rw [e0, if_neg]; unfold claimOk; rw [g2]; simp, xx.trans e3⟩
  · simp only [Bool.not_eq_false'] at g2
    exact ret1 (iv 0) rfl ⟨by rw [e0, if_pos]; unfold claimOk; rw [g2, decide_eq_true (by omega)]; rfl, xx.trans e3⟩
theorem c_dreaches {d : Dist} {A1 A2 A3 A4 A5 A6 : Option Addr} {n1 c1 n2 c2 n3 c3 n4 c4 n5 c5 n6 c6 g : Nat} {lv : Bool} : CallZ Try.prog 27 #[.agg #[.string d.name, iv d.hours, iv d.cap, iv d.start, .slice A1 n1 c1, .slice A2 n2 c2, .slice A3 n3 c3, .slice A4 n4 c4, .slice A5 n5 c5, .slice A6 n6 c6, .map (some g)], .bool lv] w (fun v w' => ∃ b1 b2, v = .func (.func 47) #[] #[ptr b1, ptr b2] ∧ Ext w w' ∧ Blk w' b1 78 [.string d.name, iv d.hours, iv d.cap, iv d.start, .slice A1 n1 c1, .slice A2 n2 c2, .slice A3 n3 c3, .slice A4 n4 c4, .slice A5 n5 c5, .slice A6 n6 c6, .map (some g)] ∧ Blk w' b2 4 [.bool lv] ∧ w.heap.size ≤ b1 ∧ b1 < b2) := by
  refine fn_rule (args := [.agg #[.string d.name, iv d.hours, iv d.cap, iv d.start, .slice A1 n1 c1, .slice A2 n2 c2, .slice A3 n3 c3, .slice A4 n4 c4, .slice A5 n5 c5, .slice A6 n6 c6, .map (some g)], .bool lv]) Try.func27 (by kernel_rfl) ?_
  refine box (fun b1 w1 h1 => ?_)
  refine box (fun b2 w2 h2 => ?_)
  have e1 := h1.at_
  have e2 := h2.at_
  have s1 := h1.size
  exact ret1 (.func (.func 47) #[] #[ptr b1, ptr b2]) rfl ⟨b1, b2, rfl, h1.ext.trans h2.ext, h1.blk.ext h2.ext, h2.blk, by omega, by omega⟩
/-- The index of the k-th reach that comes. -/
def ixR (n : Nat) (lv : Bool) (k : Nat) : Nat := if lv then n - 1 - k else k
theorem c_dreaches1 {d : Dist} {A1 A2 A3 A4 A5 A6 : Option Addr} {n1 c1 n2 c2 n3 c3 n4 c4 n5 c5 n6 c6 g b1 b2 l : Nat} {lv : Bool} {D D' : Nat → Prop} {Q : World → Prop} {w w0 : World} (J : Nat → World → Prop) (hD1 : D b1) (hD2 : D b2) (hDD : ∀ b, D' b → D b)
    (h1 : Blk w b1 78 [.string d.name, iv d.hours, iv d.cap, iv d.start, .slice A1 n1 c1, .slice A2 n2 c2, .slice A3 n3 c3, .slice A4 n4 c4, .slice A5 n5 c5, .slice A6 n6 c6, .map (some g)]) (h2 : Blk w b2 4 [.bool lv]) (ht : TreR D' w g d) (hn : n1 = d.reaches.length ∧ n1 ≤ 64) (hw0 : w0 = w)
    (hstep : ∀ (k : Nat) A n c u, k < n1 → J k u → Kept D w u → SlR tPt D' u A n (ptsV d (ixR n1 lv k : Nat)) → n ≤ c → YieldP Try.prog l [iv (ixR n1 lv k : Int), .slice A n c].toArray (fun v u' => (v = .bool true ∧ J (k + 1) u' ∧ Kept D w0 u') ∨ (v = .bool false ∧ Q u')) u)
    (h0 : J 0 w) : CallZ Try.prog 47 #[.func (.yield l) #[] #[], ptr b1, ptr b2] w (fun _ w' => (J n1 w' ∧ Kept D w0 w') ∨ Q w') := by
  subst hw0
  refine fn_rule (args := [.func (.yield l) #[] #[], ptr b1, ptr b2]) Try.func47 (by kernel_rfl) ?_
  refine fldA ?_
  refine fldA ?_
  refine ld (.slice A1 n1 c1) (h1.cell rfl) ?_
  refine len ?_
  refine loop_rule (fun k : Nat => [(9, iv (k : Int))]) (fun k u => k ≤ n1 ∧ J k u ∧ Kept D w0 u) (fun k _ => n1 - k) 0 ⟨rfl, trivial⟩ ⟨by omega, h0, .refl _ _⟩ rfl ?_
  rintro G k u ⟨hk, hj, ku⟩
  have B1 := h1.kept ku hD1
  have B2 := h2.kept ku hD2
  have T := ht.kept ku fun b _ h => hDD b h
  refine cD (fun hlt => ?_) (fun hge => ?_)
  · have hlt : k < n1 := by omega
    obtain ⟨-, m, Mm, hm⟩ := T
    obtain ⟨A, n, c, e, hs, hc⟩ := hm ((ixR n1 lv k : Nat) : Int)
    have st := hstep k A n c u hlt hj ku hs hc
    refine ld (.bool lv) (B2.cell rfl) ?_
    cases lv with
    | true =>
      refine fldA ?_
      refine fldA ?_
      refine ld (.slice A1 n1 c1) (B1.cell rfl) ?_
      refine len ?_
      refine arI (by omega) ?_
      refine arI (by omega) ?_
      have ei : ((n1 : Int) - 1 - (k : Int)) = ((ixR n1 true k : Nat) : Int) := by unfold ixR; rw [if_pos rfl]; omega
      rw [ei]
      refine fldA ?_
      refine ld (.map (some g)) (B1.cell rfl) ?_
      refine lookG1 (kv := kvI) ((ixR n1 true k : Nat) : Int) (.slice A n c) (fun z hz => ⟨m, by rw [hz]; exact Mm, e⟩) ?_
      refine yield_of st ?_
      rintro _ u2 (⟨rfl, hj2, k2⟩ | ⟨rfl, hq⟩)
      · refine arI (by omega) ?_
        exact next (k + 1) ⟨by rw [Int.natCast_add]; rfl, trivial⟩ ⟨by omega, hj2, k2⟩ (by omega)
      · exact ret0 (.inr hq)
    | false =>
      have ei : ((k : Nat) : Int) = ((ixR n1 false k : Nat) : Int) := by unfold ixR; rw [if_neg (by simp)]
      rw [show ixR n1 false k = k from by unfold ixR; rw [if_neg (by simp)]] at st e
      refine fldA ?_
      refine ld (.map (some g)) (B1.cell rfl) ?_
      refine lookG1 (kv := kvI) ((k : Nat) : Int) (.slice A n c) (fun z hz => ⟨m, by rw [hz]; exact Mm, e⟩) ?_
      refine yield_of st ?_
      rintro _ u2 (⟨rfl, hj2, k2⟩ | ⟨rfl, hq⟩)
      · refine arI (by omega) ?_
        exact next (k + 1) ⟨by rw [Int.natCast_add]; rfl, trivial⟩ ⟨by omega, hj2, k2⟩ (by omega)
      · exact ret0 (.inr hq)
  · obtain rfl : k = n1 := by omega
    exact ret0 (.inl ⟨hj, ku⟩)
end
end Go.Proofs.Ytmjcaclakggafaa

/- Layer 41: contract of needs. -/
namespace Go.Proofs.Ytmjcaclakggafaa
open Go Go.RowKit

theorem needsN_none {d : Dist} {cl : List Int} {k : Nat} (h : needsN d cl k = none) : ∀ m, k ≤ m → needsN d cl m = none
  | 0, hm => by obtain rfl : k = 0 := by omega
                exact h
  | m + 1, hm => by
    by_cases e : k = m + 1
    · rw [← e]; exact h
    · show (match needsN d cl m with | none => none | some hs => _) = none
      rw [needsN_none h m (by omega)]
theorem needsN_zero {d : Dist} {cl : List Int} : ∀ (k : Nat) {hs : List Int}, k ≤ d.reaches.length → needsN d cl k = some hs → hs.length = d.reaches.length ∧ ∀ i, i < d.reaches.length - k → clA hs i = 0
  | 0, hs, _, h => by
    injection h with h; subst h
    refine ⟨List.length_replicate .., fun i hi => ?_⟩
    unfold clA
    rw [List.getD_eq_getElem?_getD, List.getElem?_replicate]
    split <;> rfl
  | k + 1, hs, hk, h => by
    unfold needsN at h
    cases h1 : needsN d cl k with
    | none => rw [h1] at h; cases h
    | some hs0 =>
      obtain ⟨e1, e2⟩ := needsN_zero k (by omega) h1
      rw [h1] at h
      dsimp only at h
      cases h2 : needV (rcC d (d.reaches.length - 1 - k)) (isum (clmV d cl hs0 (d.reaches.length - 1 - k))) with
      | none => rw [h2] at h; cases h
      | some u =>
        rw [h2] at h
        injection h with h; subst h
        refine ⟨by rw [List.length_set]; exact e1, fun i hi => ?_⟩
        rw [clA_set (by omega), if_neg (by omega)]
        exact e2 i (by omega)
theorem needsN_step {d : Dist} {cl hs : List Int} {k i : Nat} {r : Reach} (h : needsN d cl k = some hs) (hi : i = d.reaches.length - 1 - k) (hr : rcC d i = r) : needsN d cl (k + 1) = (needV r (isum (clmV d cl hs i))).map fun v => hs.set i v := by
  subst hi hr
  rw [needsN, h]
  dsimp only
  cases needV _ _ <;> rfl
abbrev ivs (l : List Int) : List Value := l.map fun x => .int .i64 x
theorem okL_i64 {l : List Int} (h : OkL l) : ∀ x ∈ l, I64 x := fun x hx => by have := h x hx; unfold I64; omega
theorem blk_ints {w : World} {b n : Nat} {t : TypeId} {l : List Int} {D : Nat → Prop} (h : Blk w b t (ivs l)) (hn : n = l.length) (hl : OkL l) (hle : n ≤ 140737488355328) (hD : D b) : SlR tInt D w (some (ad b 0)) n l :=
  SlR.of_cells hn hle hD (CellsAt.blk h) (flat_ints (okL_i64 hl))
theorem ivs_set {l : List Int} {i : Nat} {x : Int} : (ivs l).set i (iv x) = ivs (l.set i x) := by unfold ivs; rw [List.map_set]
section
variable {D : Nat → Prop} {w : World}
set_option maxRecDepth 8000 in
theorem c_dneeds {d : Dist} {cl : List Int} {A1 A2 A3 A4 A5 A6 A : Option Addr} {n1 c1 n2 c2 n3 c3 n4 c4 n5 c5 n6 c6 n c g : Nat} (hv : Val d) (hr : SlR tReach D w A1 n1 d.reaches) (ht : TreR D w g d) (hl : SlR tInt D w A n cl) (hk : OkL cl) (hn : n = d.farms.length) :
    CallZ Try.prog 43 #[.agg #[.string d.name, iv d.hours, iv d.cap, iv d.start, .slice A1 n1 c1, .slice A2 n2 c2, .slice A3 n3 c3, .slice A4 n4 c4, .slice A5 n5 c5, .slice A6 n6 c6, .map (some g)], .slice A n c] w (fun v w' => Ext w w' ∧ ((needsV d cl = none ∧ v = .tuple #[.slice none 0 0, .bool false]) ∨
      ∃ hs bh, needsV d cl = some hs ∧ v = .tuple #[.slice (some (ad bh 0)) n1 n1, .bool true] ∧ w.heap.size ≤ bh ∧ Blk w' bh 3 (ivs hs))) := by
  have lr := hr.len
  have hvn := hv.n
  refine fn_rule (args := [.agg #[.string d.name, iv d.hours, iv d.cap, iv d.start, .slice A1 n1 c1, .slice A2 n2 c2, .slice A3 n3 c3, .slice A4 n4 c4, .slice A5 n5 c5, .slice A6 n6 c6, .map (some g)], .slice A n c]) Try.func43 (by kernel_rfl) ?_
  refine box (fun b2 w1 h1 => ?_)
  refine box (fun b3 w2 h2 => ?_)
  refine alloc (fun b4 w3 h3 => ?_)
  refine alloc (fun b5 w4 h4 => ?_)
  have e1 := h1.at_
  have e2 := h2.at_
  have e3 := h3.at_
  have e4 := h4.at_
  have s1 := h1.size
  have s2 := h2.size
  have s3 := h3.size
  have s4 := h4.size
  have x4 : Ext w w4 := ((h1.ext.trans h2.ext).trans h3.ext).trans h4.ext
  have B2 : Blk w4 b2 78 [.string d.name, iv d.hours, iv d.cap, iv d.start, .slice A1 n1 c1, .slice A2 n2 c2, .slice A3 n3 c3, .slice A4 n4 c4, .slice A5 n5 c5, .slice A6 n6 c6, .map (some g)] := h1.blk.ext ((h2.ext.trans h3.ext).trans h4.ext)
  have B3 : Blk w4 b3 32 [.slice A n c] := h2.blk.ext (h3.ext.trans h4.ext)
  have B4 : Blk w4 b4 32 [.slice none 0 0] := h3.blk.ext h4.ext
  have B5 : Blk w4 b5 4 [.bool false] := h4.blk
  refine fldA ?_
  refine fldA ?_
  refine ld (.slice A1 n1 c1) (B2.cell rfl) ?_
  refine len ?_
  refine mslc (sz := 1) (zv := iv 0) n1 rfl rfl (by omega) (by omega) rfl (by decide) (fun bh w5 h5 => ?_)
  have e5 := h5.at_
  have s5 := h5.size
  refine st1 (B4.ext h5.ext) rfl (fun w6 B4 k6 => ?_)
  have s6 := k6.size
  have Bh : Blk w6 bh 3 (ivs (List.replicate n1 0)) := by
    have q := h5.blk.kept k6 (by omega)
    have e : ivs (List.replicate n1 0) = (List.replicate n1 (cellsL (iv 0))).flatten := by
      unfold ivs
      rw [List.map_replicate]
      show List.replicate n1 (iv 0) = (List.replicate n1 [iv 0]).flatten
      rw [List.flatten_replicate_singleton]
    rw [e]; exact q
  have B2 := (B2.ext h5.ext).kept k6 (by omega)
  have B3 := (B3.ext h5.ext).kept k6 (by omega)
  have B5 := (B5.ext h5.ext).kept k6 (by omega)
  have x6 : Ext w w6 := (x4.trans h5.ext).then k6 fun b hb _ e => by omega
  refine ldA [.string d.name, iv d.hours, iv d.cap, iv d.start, .slice A1 n1 c1, .slice A2 n2 c2, .slice A3 n3 c3, .slice A4 n4 c4, .slice A5 n5 c5, .slice A6 n6 c6, .map (some g)] (.blk B2) rfl ?_
  refine call_of (c_dreaches (d := d) (lv := true)) ?_
  rintro _ w7 ⟨b6, b7, rfl, x7, C6, C7, hb6, hb67⟩
  have s7 := x7.size
  have lc7 := C7.lt
  have B2 := B2.ext x7
  have B3 := B3.ext x7
  have B4 := B4.ext x7
  have B5 := B5.ext x7
  have Bh := Bh.ext x7
  have lb2 := B2.lt
  refine range (gf := 47) (lb := #[ptr b6, ptr b7]) rfl (fun fn tmps w8 R hRR hF' hwf x8 z8 hD8 hl8 => ?_)
  show CallZ _ _ #[.func (.yield (w7.heap.size + 1)) #[] #[], ptr b6, ptr b7] w8 _
  have x08 : Ext w w8 := (x6.trans x7).trans x8
  have B2 := B2.ext x8
  have B3 := B3.ext x8
  have B4 := B4.ext x8
  have B5 := B5.ext x8
  have Bh := Bh.ext x8
  have C6 := C6.ext x8
  have C7 := C7.ext x8
  have z04 := x4.size
  refine (c_dreaches1 (Q := fun u => ∃ r, LoopAt u (w7.heap.size + 1) r ∧ r.state ≠ .busy ∧ r.pending = some .ret ∧ needsV d cl = none ∧ Blk u b4 32 [.slice none 0 0] ∧ Blk u b5 4 [.bool false] ∧ Kept (fun b => b ≠ bh ∧ b ≠ w7.heap.size + 1 ∧ b ≠ b4 ∧ b ≠ b5) w8 u)
    (D := fun b => b ≠ bh ∧ b ≠ w7.heap.size + 1) (D' := fun b => b < w.heap.size) (fun k u => ∃ hs, needsN d cl k = some hs ∧ Blk u bh 3 (ivs hs) ∧ LoopAt u (w7.heap.size + 1) R)
    ⟨by omega, by omega⟩ ⟨by omega, by omega⟩ (fun b hb => ⟨by omega, by omega⟩) C6 C7 ((show TreR (fun b => b < w.heap.size) w g d from ⟨ht.ex.elim fun m hm => hm.1.lt, ht.ex.imp fun m hm => ⟨hm.1, fun r => by obtain ⟨A, n, c, e, hs, hc⟩ := hm.2 r; exact ⟨A, n, c, e, hs.more (by decide) fun b hb _ => hb, hc⟩⟩⟩).ext x08) ⟨by omega, by omega⟩ rfl ?_ ⟨_, rfl, by rw [lr]; exact Bh, hl8⟩).mono ?_
  · rintro k P np cp u hkn ⟨hs, hns, bhu, lu⟩ ku sp hcp
    obtain ⟨lhs, ohs, -⟩ := needsN_ok hv k (by omega) hns
    obtain ⟨-, zhs⟩ := needsN_zero k (by omega) hns
    have hi : ixR n1 true k = d.reaches.length - 1 - k := by unfold ixR; rw [if_pos rfl, lr]
    obtain ⟨i, hie⟩ : ∃ i, i = ixR n1 true k := ⟨_, rfl⟩
    rw [← hie] at sp ⊢
    rw [← hie] at hi
    have hin : i < d.reaches.length := by omega
    obtain ⟨r, hri⟩ : ∃ r, d.reaches[i]? = some r := ⟨_, List.getElem?_eq_getElem hin⟩
    have hrc := rcC_at hri
    obtain ⟨rl1, rl2, rl3⟩ := hv.loss hin
    rw [hrc] at rl1 rl2 rl3
    have step : needsN d cl (k + 1) = (needV r (isum (clmV d cl hs i))).map fun v => hs.set i v := needsN_step hns hi hrc
    have none_ : needV r (isum (clmV d cl hs i)) = none → needsV d cl = none := fun h => needsN_none (k := k + 1) (by rw [step, h]; rfl) _ (by omega)
    obtain ⟨tot, htot⟩ : ∃ t, t = isum (clmV d cl hs i) := ⟨_, rfl⟩
    have okc := clmV_ok (d := d) hk ohs i
    have tb := isum_b okc
    have lcl := hv.len (cl := cl) (hs := hs) (r := i)
    have tb2 : 0 ≤ tot ∧ tot ≤ 712964571136 := by
      rw [htot]
      refine ⟨tb.1, Int.le_trans tb.2 ?_⟩
      have : ((clmV d cl hs i).length : Int) ≤ 664 := by omega
      omega
    rw [← htot] at step none_
    subst hRR
    have ll := lu.lt
    refine yield_rule (args := [iv (i : Int), .slice P np cp]) lu rfl rfl hF' hwf ?_
    refine mid' lu (fun u1 k1 z1 l1 => ?_)
    have ku1 : Kept (fun b => b ≠ bh ∧ b ≠ w7.heap.size + 1) w8 u1 := ku.then k1 fun b _ h => h.2
    have q2 := B2.kept ku1 ⟨by omega, by omega⟩
    have q3 := B3.kept ku1 ⟨by omega, by omega⟩
    have q4 := B4.kept ku1 ⟨by omega, by omega⟩
    have q5 := B5.kept ku1 ⟨by omega, by omega⟩
    have kw1 : Kept (fun b => b < w.heap.size) w u1 := (Ext.any x08).then ku1 fun b hb h => ⟨by omega, by omega⟩
    have cl1 : SlR tInt (fun b => b < w.heap.size) u1 A n cl := (hl.more (D' := fun b => b < w.heap.size) (by decide) fun b hb _ => hb).kept kw1 fun b _ h => h
    have rr1 : SlR tReach (fun b => b < w.heap.size) u1 A1 n1 d.reaches := (hr.more (D' := fun b => b < w.heap.size) (by decide) fun b hb _ => hb).kept kw1 fun b _ h => h
    have bh1 := bhu.kept k1 (by have := bhu.lt; omega)
    have sp1 := sp.kept k1 fun b hb h => by omega
    have lsp := sp1.len
    have hs1 : SlR tInt (fun b => b = bh) u1 (some (ad bh 0)) n1 hs := blk_ints bh1 (by omega) ohs (by omega) rfl
    refine ld (.slice A n c) (q3.cell rfl) ?_
    refine ld (.slice (some (ad bh 0)) n1 n1) (q4.cell rfl) ?_
    refine call_of (c_dclaims (D := fun _ => True) (sp1.more (by decide) fun _ _ _ => trivial) (cl1.more (by decide) fun _ _ _ => trivial) (hs1.more (by decide) fun _ _ _ => trivial) (by rw [← lsp, ← clmV_len (cl := cl) (hs := hs)]; exact lcl) (fun p hp => ?_) hk ohs) ?_
    · rcases mem_ptsV.1 hp with h | h
      · exact ⟨fun _ => by omega, fun e => (by rw [h.1] at e; cases e)⟩
      · exact ⟨fun e => (by rw [h.1] at e; cases e), fun _ => by omega⟩
    rintro _ u2 ⟨A', c', rfl, o2⟩
    have x12 := o2.ext
    have eT : isum ((ptsV d (i : Int)).map (clP cl hs)) = tot := htot.symm
    rw [eT]
    have ku2 : Kept (fun b => b ≠ bh ∧ b ≠ w7.heap.size + 1) w8 u2 := ku1.then x12 fun b _ h => trivial
    have l2 := l1.kept x12 trivial
    have q2 := q2.ext x12
    have q4 := q4.ext x12
    have q5 := q5.ext x12
    have bh2 := bh1.ext x12
    have rr2 := rr1.ext x12
    have kw2 := kw1.then x12 fun b hb _ => trivial
    have kuu : Kept (fun b => b ≠ bh ∧ b ≠ w7.heap.size + 1) u u2 := (k1.weak fun b _ h => h.2).then x12 fun b _ h => trivial
    refine cD (fun g0 => ?_) (fun g0 => ?_)
    · refine roundN' _ l2 (fun u3 k3 l3 => ?_)
      refine .inl ⟨rfl, ⟨hs, ?_, bh2.kept k3 (by have := bh2.lt; omega), l3⟩, ku2.then k3 fun b _ h => h.2⟩
      rw [step]
      unfold needV
      rw [if_pos g0]
      show some (hs.set i 0) = some hs
      congr 1
      refine List.ext_getElem (by rw [List.length_set]) fun j p1 p2 => ?_
      rw [List.getElem_set]
      split
      · rename_i e
        subst e
        have := zhs i (by omega)
        rw [clA_at (List.getElem?_eq_getElem p2)] at this
        exact this.symm
      · rfl
    refine cD (fun g1 => ?_) (fun g1 => ?_)
    · have hno := none_ (by unfold needV; rw [if_neg g0, if_pos (by omega)])
      refine st1 q4 rfl (fun u3 p4 k3 => ?_)
      refine st1 (q5.kept k3 (by omega)) rfl (fun u4 p5 k4 => ?_)
      refine roundR' _ ((l2.kept k3 (by omega)).kept k4 (by omega)) (fun u5 k5 l5 => ?_)
      refine .inr ⟨rfl, _, l5, by simp, rfl, hno, (p4.kept k4 (by omega)).kept k5 (by omega), p5.kept k5 (by omega), ?_⟩
      exact (((ku2.weak fun b _ h => ⟨h.1, h.2.1⟩).then k3 fun b _ h => h.2.2.1).then k4 fun b _ h => h.2.2.2).then k5 fun b _ h => h.2.1
    obtain ⟨bb, oo, cs, y, rfl, hy, -, -, hc, rfl⟩ := rr2.at_ (k := i) (by omega)
    obtain rfl : r = y := by rw [hri] at hy; injection hy
    refine fldA ?_
    refine fldA ?_
    refine ld (.slice (some (ad bb oo)) n1 c1) (q2.cell rfl) ?_
    refine idx i rfl (by omega) ?_
    refine ldA r.c hc rfl ?_
    refine call_of (c_lNeed (r := r) (x := tot)) ?_
    rintro _ u3 ⟨rfl, x3⟩
    have er : lErr r tot = 0 := lErr_ok.2 ⟨rl1, by omega, by omega⟩
    have en : needL r tot = if lvW r tot > 1073741824 then (0, false) else (lvW r tot, true) := by unfold needL; rw [if_neg (by simp [er])]
    have ku3 : Kept (fun b => b ≠ bh ∧ b ≠ w7.heap.size + 1) w8 u3 := ku2.then x3 fun b _ h => trivial
    have l3 := l2.kept x3 trivial
    have q2 := q2.ext x3
    have q4 := q4.ext x3
    have q5 := q5.ext x3
    have bh3 := bh2.ext x3
    have hcc := rr2.ext x3
    by_cases g2 : lvW r tot > 1073741824
    · rw [en, if_pos g2]
      have hno := none_ (by unfold needV; rw [if_neg g0, if_neg (by omega), if_pos g2])
      refine st1 q4 rfl (fun u4 p4 k4 => ?_)
      refine st1 (q5.kept k4 (by omega)) rfl (fun u5 p5 k5 => ?_)
      refine roundR' _ ((l3.kept k4 (by omega)).kept k5 (by omega)) (fun u6 k6 l6 => ?_)
      refine .inr ⟨rfl, _, l6, by simp, rfl, hno, (p4.kept k5 (by omega)).kept k6 (by omega), p5.kept k6 (by omega), ?_⟩
      exact (((ku3.weak fun b _ h => ⟨h.1, h.2.1⟩).then k4 fun b _ h => h.2.2.1).then k5 fun b _ h => h.2.2.2).then k6 fun b _ h => h.2.1
    rw [en, if_neg g2]
    have hf := lvW_first (w := tot) rl1
    have hfl := hf.le
    refine drawP (.take 0 (.take 1 (.take 2 (.take 3 (.take 4 (.take 5 (.take 6 (.take 7 (.take 8 (.take 9 (.take 10 (.take 11 (.bar (.eff 12 .done)))))))))))))) [12] (fun z => z = u3) mx (by kernel_rfl) rfl ?_
    obtain ⟨bb', oo', cs', y', hbe, hy', -, -, hc3, rfl⟩ := hcc.at_ (k := i) (by omega)
    obtain rfl : r = y' := by rw [hri] at hy'; injection hy'
    injection hbe with hbe
    injection hbe with hb1 hb2
    subst hb1; subst hb2
    refine ld (.slice (some (ad bh 0)) n1 n1) (q4.cell rfl) ?_
    refine fldA ?_
    refine fldA ?_
    refine ld (.slice (some (ad bb oo)) n1 c1) (q2.cell rfl) ?_
    refine idx i rfl (by omega) ?_
    refine fldA ?_
    refine ld (iv r.siphon) (hc3 5 _ rfl) ?_
    refine idx i rfl (by omega) ?_
    refine barS (fun _ => True) trivial ?_
    refine st (v := iv (max (lvW r tot) r.siphon)) bh3 (by simp; omega) rfl (fun u4 bh4 k4 z4 => ?_)
    refine strS trivial ?_
    refine roundN' _ (l3.kept k4 (by omega)) (fun u5 k5 l5 => ?_)
    refine .inl ⟨rfl, ⟨hs.set i (max (lvW r tot) r.siphon), ?_, ?_, l5⟩, ?_⟩
    · rw [step]
      unfold needV
      rw [if_neg g0, if_neg (by omega), if_neg g2]; rfl
    · rw [← ivs_set]
      have := bh4.kept k5 (by have := bh3.lt; omega)
      simpa using this
    · exact (ku3.then k4 fun b _ h => h.1).then k5 fun b _ h => h.2
  · rintro _ u (⟨⟨hs, hns, bhu, lu⟩, ku⟩ | ⟨r, lu, hr1, hr2, hno, p4, p5, ku⟩)
    · subst hRR
      have hns : needsV d cl = some hs := by unfold needsV; rw [lr]; exact hns
      refine range_end _ lu (by simp) (fun u1 k1 => ?_)
      have ll := lu.lt
      have ku1 : Kept (fun b => b ≠ bh ∧ b ≠ w7.heap.size + 1) w8 u1 := ku.then k1 fun b _ h => h.2
      have q4 := B4.kept ku1 ⟨by omega, by omega⟩
      have q5 := B5.kept ku1 ⟨by omega, by omega⟩
      have bh1 := bhu.kept k1 (by have := bhu.lt; omega)
      refine ld (.slice (some (ad bh 0)) n1 n1) (q4.cell rfl) ?_
      refine st1 q4 rfl (fun u2 p4 k2 => ?_)
      refine st1 (q5.kept k2 (by omega)) rfl (fun u3 p5 k3 => ?_)
      have ku3 : Kept (fun b => b ≠ bh ∧ b ≠ w7.heap.size + 1 ∧ b ≠ b4 ∧ b ≠ b5) w8 u3 := ((ku1.weak fun b _ h => ⟨h.1, h.2.1⟩).then k2 fun b _ h => h.2.2.1).then k3 fun b _ h => h.2.2.2
      have hD3 : u3.heap[w7.heap.size]? = some (.deferred (some [])) := (ku3.blk _ (by omega) ⟨by omega, by omega, by omega, by omega⟩).trans hD8
      refine retM hD3 ?_
      have k4 := Kept.putObj u3 w7.heap.size (.deferred none)
      refine resL _ (holds_cell (((p4.kept k3 (by omega)).kept k4 (by omega)).cell rfl)) ?_
      refine resL _ (holds_cell ((p5.kept k4 (by omega)).cell rfl)) ?_
      refine ⟨(x08.then ku3 fun b hb _ => ⟨by omega, by omega, by omega, by omega⟩).then k4 fun b hb _ => by omega, .inr ⟨hs, bh, hns, rfl, by omega, ((bh1.kept k2 (by omega)).kept k3 (by omega)).kept k4 (by omega)⟩⟩
    · refine range_end r lu hr1 (fun u1 k1 => ?_)
      rw [hr2]
      have ll := lu.lt
      have ku1 : Kept (fun b => b ≠ bh ∧ b ≠ w7.heap.size + 1 ∧ b ≠ b4 ∧ b ≠ b5) w8 u1 := ku.then k1 fun b _ h => h.2.1
      have hD3 : u1.heap[w7.heap.size]? = some (.deferred (some [])) := (ku1.blk _ (by omega) ⟨by omega, by omega, by omega, by omega⟩).trans hD8
      refine retM hD3 ?_
      have k4 := Kept.putObj u1 w7.heap.size (.deferred none)
      have lp4 := p4.lt
      have lp5 := p5.lt
      refine resL _ (holds_cell (((p4.kept k1 (by omega)).kept k4 (by omega)).cell rfl)) ?_
      refine resL _ (holds_cell (((p5.kept k1 (by omega)).kept k4 (by omega)).cell rfl)) ?_
      refine ⟨(x08.then ku1 fun b hb _ => ⟨by omega, by omega, by omega, by omega⟩).then k4 fun b hb _ => by omega, .inl ⟨hno, rfl⟩⟩
end
end Go.Proofs.Ytmjcaclakggafaa

/- Layer 41: contracts of Needs, open, Shares, Part. -/
namespace Go.Proofs.Ytmjcaclakggafaa
open Go Go.RowKit

instance eqPart : EqTy Try.prog 92 := ⟨by kernel_rfl⟩
/-- What Needs answers. -/
def NeedsR (w w' : World) (d : Dist) (cl : List Int) (v : Value) : Prop :=
  (divErr d cl ≠ 0 ∧ v = .tuple #[.slice none 0 0, .bool false, iv (divErr d cl)]) ∨
  (divErr d cl = 0 ∧ needsV d cl = none ∧ v = .tuple #[.slice none 0 0, .bool false, iv 0]) ∨
  (divErr d cl = 0 ∧ ∃ hs bh, needsV d cl = some hs ∧ v = .tuple #[.slice (some (ad bh 0)) d.reaches.length d.reaches.length, .bool true, iv 0] ∧ w.heap.size ≤ bh ∧ Blk w' bh 3 (ivs hs))
def openErr (d : Dist) (cl : List Int) : Int := if divErr d cl ≠ 0 then divErr d cl else if needsV d cl = none then 410 else 0
theorem openErr_ok {d : Dist} {cl : List Int} : openErr d cl = 0 ↔ divErr d cl = 0 ∧ ∃ hs, needsV d cl = some hs := by
  unfold openErr
  by_cases h : divErr d cl = 0
  · rw [if_neg (fun q => q h)]
    cases hn : needsV d cl with
    | none => simp [h]
    | some hs => simp [h]
  · rw [if_pos h]; simp [h]
def shErr (d : Dist) (cl : List Int) (r : Int) : Int := if openErr d cl ≠ 0 then openErr d cl else if 0 ≤ r ∧ r < d.reaches.length then 0 else 1
def ptErr (d : Dist) (i : Int) : Int := if dErr d ≠ 0 then dErr d else if 0 ≤ i ∧ i < d.farms.length then 0 else 1
section
variable {D : Nat → Prop} {w : World}
theorem c_dNeeds {csd : List Value} {d : Dist} {cl : List Int} {A : Option Addr} {n c : Nat} (hd : DiR D w csd d) (hl : SlR tInt D w A n cl) : CallZ Try.prog 20 #[.agg csd.toArray, .slice A n c] w (fun v w' => Ext w w' ∧ NeedsR w w' d cl v) := by
  have hd0 := hd
  obtain ⟨A1, n1, c1, A2, n2, c2, A3, n3, c3, A4, n4, c4, A5, n5, c5, A6, n6, c6, rfl, hr, hf, -⟩ := hd.ex
  have lr := hr.len
  have ll := hl.len
  refine fn_rule (args := [.agg #[.string d.name, iv d.hours, iv d.cap, iv d.start, .slice A1 n1 c1, .slice A2 n2 c2, .slice A3 n3 c3, .slice A4 n4 c4, .slice A5 n5 c5, .slice A6 n6 c6], .slice A n c]) Try.func20 (by kernel_rfl) ?_
  refine box (fun b1 w1 h1 => ?_)
  have B1 : Blk w1 b1 31 [.string d.name, iv d.hours, iv d.cap, iv d.start, .slice A1 n1 c1, .slice A2 n2 c2, .slice A3 n3 c3, .slice A4 n4 c4, .slice A5 n5 c5, .slice A6 n6 c6] := h1.blk
  refine ldA [.string d.name, iv d.hours, iv d.cap, iv d.start, .slice A1 n1 c1, .slice A2 n2 c2, .slice A3 n3 c3, .slice A4 n4 c4, .slice A5 n5 c5, .slice A6 n6 c6] (.blk B1) rfl ?_
  refine call_of (c_dcheck (hd0.ext h1.ext) (hl.ext h1.ext)) ?_
  rintro _ w2 ⟨rfl, x2⟩
  have B1 := B1.ext x2
  have xx := h1.ext.trans x2
  refine cN (fun g => ?_) (fun g => ?_)
  · exact ret3 (.slice none 0 0) (.bool false) (iv (divErr d cl)) rfl rfl rfl ⟨xx, .inl ⟨g, rfl⟩⟩
  have g : divErr d cl = 0 := g
  obtain ⟨g1, g2⟩ := divErr_ok.1 g
  have V := val_of g1
  obtain ⟨k1, k2⟩ := claimOk_iff.1 g2
  refine ldA [.string d.name, iv d.hours, iv d.cap, iv d.start, .slice A1 n1 c1, .slice A2 n2 c2, .slice A3 n3 c3, .slice A4 n4 c4, .slice A5 n5 c5, .slice A6 n6 c6] (.blk B1) rfl ?_
  refine call_of (c_dgrow (hr.ext xx) (hf.ext xx) ⟨V.n.2, V.f⟩) ?_
  rintro _ w3 ⟨gm, rfl, x3, T⟩
  have x03 := xx.trans x3
  refine call_of (c_dneeds (D := fun _ => True) V ((hr.ext x03).more (by decide) fun _ _ _ => trivial) ⟨trivial, T.ex.imp fun m hm => ⟨hm.1, fun r => by obtain ⟨A, n, c, e, hs, hc⟩ := hm.2 r; exact ⟨A, n, c, e, hs.more (by decide) fun _ _ _ => trivial, hc⟩⟩⟩ ((hl.ext x03).more (by decide) fun _ _ _ => trivial) k2 (by omega)) ?_
  rintro _ w4 ⟨x4, ⟨hno, rfl⟩ | ⟨hs, bh, hne, rfl, hb, Bh⟩⟩
  · exact ret3 (.slice none 0 0) (.bool false) (iv 0) rfl rfl rfl ⟨x03.trans x4, .inr (.inl ⟨g, hno, rfl⟩)⟩
  · exact ret3 (.slice (some (ad bh 0)) n1 n1) (.bool true) (iv 0) rfl rfl rfl ⟨x03.trans x4, .inr (.inr ⟨g, hs, bh, hne, by rw [lr], by have := x03.size; omega, Bh⟩)⟩
set_option maxRecDepth 4000 in
theorem c_dopen {d : Dist} {cl : List Int} {A1 A2 A3 A4 A5 A6 A : Option Addr} {n1 c1 n2 c2 n3 c3 n4 c4 n5 c5 n6 c6 n c : Nat} (hd : DiR D w [.string d.name, iv d.hours, iv d.cap, iv d.start, .slice A1 n1 c1, .slice A2 n2 c2, .slice A3 n3 c3, .slice A4 n4 c4, .slice A5 n5 c5, .slice A6 n6 c6] d) (hr : SlR tReach D w A1 n1 d.reaches) (hf : SlR tFarm D w A2 n2 d.farms) (hl : SlR tInt D w A n cl) :
    CallZ Try.prog 24 #[.agg #[.string d.name, iv d.hours, iv d.cap, iv d.start, .slice A1 n1 c1, .slice A2 n2 c2, .slice A3 n3 c3, .slice A4 n4 c4, .slice A5 n5 c5, .slice A6 n6 c6], .slice A n c] w (fun v w' => Ext w w' ∧ ((openErr d cl ≠ 0 ∧ ∃ ts : List Value, ts.length = 11 ∧ ts.all (fun u => u.oneCell') = true ∧ v = .tuple #[.agg ts.toArray, .slice none 0 0, iv (openErr d cl)]) ∨
      (openErr d cl = 0 ∧ ∃ hs bh g, needsV d cl = some hs ∧ v = .tuple #[.agg #[.string d.name, iv d.hours, iv d.cap, iv d.start, .slice A1 n1 c1, .slice A2 n2 c2, .slice A3 n3 c3, .slice A4 n4 c4, .slice A5 n5 c5, .slice A6 n6 c6, .map (some g)], .slice (some (ad bh 0)) n1 n1, iv 0] ∧ w.heap.size ≤ bh ∧ Blk w' bh 3 (ivs hs) ∧ TreR (fun b => w.heap.size ≤ b) w' g d))) := by
  have lr := hr.len
  have ll := hl.len
  refine fn_rule (args := [.agg #[.string d.name, iv d.hours, iv d.cap, iv d.start, .slice A1 n1 c1, .slice A2 n2 c2, .slice A3 n3 c3, .slice A4 n4 c4, .slice A5 n5 c5, .slice A6 n6 c6], .slice A n c]) Try.func24 (by kernel_rfl) ?_
  refine box (fun b1 w1 h1 => ?_)
  refine alloc (fun b2 w2 h2 => ?_)
  have e1 := h1.at_
  have e2 := h2.at_
  have s1 := h1.size
  have s2 := h2.size
  have x2 := h1.ext.trans h2.ext
  have B1 : Blk w2 b1 31 [.string d.name, iv d.hours, iv d.cap, iv d.start, .slice A1 n1 c1, .slice A2 n2 c2, .slice A3 n3 c3, .slice A4 n4 c4, .slice A5 n5 c5, .slice A6 n6 c6] := h1.blk.ext h2.ext
  have B2 : Blk w2 b2 78 [.string ByteArray.empty, iv 0, iv 0, iv 0, .slice none 0 0, .slice none 0 0, .slice none 0 0, .slice none 0 0, .slice none 0 0, .slice none 0 0, .map none] := h2.blk
  refine ldA [.string d.name, iv d.hours, iv d.cap, iv d.start, .slice A1 n1 c1, .slice A2 n2 c2, .slice A3 n3 c3, .slice A4 n4 c4, .slice A5 n5 c5, .slice A6 n6 c6] (.blk B1) rfl ?_
  refine call_of (c_dcheck (hd.ext x2) (hl.ext x2)) ?_
  rintro _ w3 ⟨rfl, x3⟩
  have x03 := x2.trans x3
  have B1 := B1.ext x3
  have B2 := B2.ext x3
  have z3 := x3.size
  refine cN (fun g => ?_) (fun g => ?_)
  · refine ldA [.string ByteArray.empty, iv 0, iv 0, iv 0, .slice none 0 0, .slice none 0 0, .slice none 0 0, .slice none 0 0, .slice none 0 0, .slice none 0 0, .map none] (.blk B2) rfl ?_
    refine stA (vs := [.string ByteArray.empty, iv 0, iv 0, iv 0, .slice none 0 0, .slice none 0 0, .slice none 0 0, .slice none 0 0, .slice none 0 0, .slice none 0 0, .map none]) B2 rfl (Nat.le_of_ble_eq_true rfl) (by simp [Value.oneCell']) (fun w4 B4 k4 z4 => ?_)
    have B4 : Blk w4 b2 78 [.string ByteArray.empty, iv 0, iv 0, iv 0, .slice none 0 0, .slice none 0 0, .slice none 0 0, .slice none 0 0, .slice none 0 0, .slice none 0 0, .map none] := B4
    refine ret ?_
    refine resL _ (holds_agg (CellsAt.blk B4) rfl) ?_
    have eo : openErr d cl = divErr d cl := by unfold openErr; rw [if_pos g]
    exact ⟨x03.then k4 fun b hb _ e => by omega, .inl ⟨by rw [eo]; exact g, [.string ByteArray.empty, iv 0, iv 0, iv 0, .slice none 0 0, .slice none 0 0, .slice none 0 0, .slice none 0 0, .slice none 0 0, .slice none 0 0, .map none], rfl, rfl, by rw [eo]; rfl⟩⟩
  have g : divErr d cl = 0 := g
  obtain ⟨g1, g2⟩ := divErr_ok.1 g
  have V := val_of g1
  obtain ⟨k1, k2⟩ := claimOk_iff.1 g2
  refine ldA [.string d.name, iv d.hours, iv d.cap, iv d.start, .slice A1 n1 c1, .slice A2 n2 c2, .slice A3 n3 c3, .slice A4 n4 c4, .slice A5 n5 c5, .slice A6 n6 c6] (.blk B1) rfl ?_
  refine call_of (c_dgrow (hr.ext x03) (hf.ext x03) ⟨V.n.2, V.f⟩) ?_
  rintro _ w4 ⟨gm, rfl, x4, T⟩
  have x04 := x03.trans x4
  refine stA (vs := [.string d.name, iv d.hours, iv d.cap, iv d.start, .slice A1 n1 c1, .slice A2 n2 c2, .slice A3 n3 c3, .slice A4 n4 c4, .slice A5 n5 c5, .slice A6 n6 c6, .map (some gm)]) (B2.ext x4) rfl (Nat.le_of_ble_eq_true rfl) (by simp [Value.oneCell']) (fun w5 B5 k5 z5 => ?_)
  have B5 : Blk w5 b2 78 [.string d.name, iv d.hours, iv d.cap, iv d.start, .slice A1 n1 c1, .slice A2 n2 c2, .slice A3 n3 c3, .slice A4 n4 c4, .slice A5 n5 c5, .slice A6 n6 c6, .map (some gm)] := B5
  have z4 := x4.size
  have x05 : Ext w w5 := x04.then k5 fun b hb _ e => by omega
  have T0 : TreR (fun b => w3.heap.size ≤ b) w5 gm d := T.kept k5 fun b hb h => by omega
  have T5 : TreR (fun b => w.heap.size ≤ b) w5 gm d := ⟨by have := T0.own; have := x03.size; omega, T0.ex.imp fun m hm => ⟨hm.1, fun r => by obtain ⟨A, n, c, e, hs, hc⟩ := hm.2 r; exact ⟨A, n, c, e, hs.more (by decide) fun b _ h => by have := x03.size; omega, hc⟩⟩⟩
  refine ldA [.string d.name, iv d.hours, iv d.cap, iv d.start, .slice A1 n1 c1, .slice A2 n2 c2, .slice A3 n3 c3, .slice A4 n4 c4, .slice A5 n5 c5, .slice A6 n6 c6, .map (some gm)] (.blk B5) rfl ?_
  refine call_of (c_dneeds (D := fun _ => True) V ((hr.ext x05).more (by decide) fun _ _ _ => trivial) ⟨trivial, T5.ex.imp fun m hm => ⟨hm.1, fun r => by obtain ⟨A, n, c, e, hs, hc⟩ := hm.2 r; exact ⟨A, n, c, e, hs.more (by decide) fun _ _ _ => trivial, hc⟩⟩⟩ ((hl.ext x05).more (by decide) fun _ _ _ => trivial) k2 (by omega)) ?_
  rintro _ w6 ⟨x6, ⟨hno, rfl⟩ | ⟨hs, bh, hne, rfl, hb, Bh⟩⟩
  · have B6 := B5.ext x6
    refine ldA [.string d.name, iv d.hours, iv d.cap, iv d.start, .slice A1 n1 c1, .slice A2 n2 c2, .slice A3 n3 c3, .slice A4 n4 c4, .slice A5 n5 c5, .slice A6 n6 c6, .map (some gm)] (.blk B6) rfl ?_
    refine stA (vs := [.string d.name, iv d.hours, iv d.cap, iv d.start, .slice A1 n1 c1, .slice A2 n2 c2, .slice A3 n3 c3, .slice A4 n4 c4, .slice A5 n5 c5, .slice A6 n6 c6, .map (some gm)]) B6 rfl (Nat.le_of_ble_eq_true rfl) (by simp [Value.oneCell']) (fun w7 B7 k7 z7 => ?_)
    have B7 : Blk w7 b2 78 [.string d.name, iv d.hours, iv d.cap, iv d.start, .slice A1 n1 c1, .slice A2 n2 c2, .slice A3 n3 c3, .slice A4 n4 c4, .slice A5 n5 c5, .slice A6 n6 c6, .map (some gm)] := B7
    refine ret ?_
    refine resL _ (holds_agg (CellsAt.blk B7) rfl) ?_
    have eo : openErr d cl = 410 := by unfold openErr; rw [if_neg (fun h => h g), if_pos hno]
    exact ⟨(x05.trans x6).then k7 fun b hb _ e => by omega, .inl ⟨by rw [eo]; decide, [.string d.name, iv d.hours, iv d.cap, iv d.start, .slice A1 n1 c1, .slice A2 n2 c2, .slice A3 n3 c3, .slice A4 n4 c4, .slice A5 n5 c5, .slice A6 n6 c6, .map (some gm)], rfl, rfl, by rw [eo]; rfl⟩⟩
  · have B6 := B5.ext x6
    refine ldA [.string d.name, iv d.hours, iv d.cap, iv d.start, .slice A1 n1 c1, .slice A2 n2 c2, .slice A3 n3 c3, .slice A4 n4 c4, .slice A5 n5 c5, .slice A6 n6 c6, .map (some gm)] (.blk B6) rfl ?_
    refine stA (vs := [.string d.name, iv d.hours, iv d.cap, iv d.start, .slice A1 n1 c1, .slice A2 n2 c2, .slice A3 n3 c3, .slice A4 n4 c4, .slice A5 n5 c5, .slice A6 n6 c6, .map (some gm)]) B6 rfl (Nat.le_of_ble_eq_true rfl) (by simp [Value.oneCell']) (fun w7 B7 k7 z7 => ?_)
    have B7 : Blk w7 b2 78 [.string d.name, iv d.hours, iv d.cap, iv d.start, .slice A1 n1 c1, .slice A2 n2 c2, .slice A3 n3 c3, .slice A4 n4 c4, .slice A5 n5 c5, .slice A6 n6 c6, .map (some gm)] := B7
    refine ret ?_
    refine resL _ (holds_agg (CellsAt.blk B7) rfl) ?_
    have eo : openErr d cl = 0 := openErr_ok.2 ⟨g, hs, hne⟩
    have z05 := x05.size
    have l5 := B5.lt
    exact ⟨(x05.trans x6).then k7 fun b hb _ e => by omega, .inr ⟨eo, hs, bh, gm, hne, by rfl, by omega, Bh.kept k7 (by omega), ⟨T5.own, ((T0.ext x6).kept k7 fun b hb h => by omega).ex.imp fun m hm => ⟨hm.1, fun r => by obtain ⟨A, n, c, e, hs, hc⟩ := hm.2 r; exact ⟨A, n, c, e, hs.more (by decide) fun b _ h => by have := x03.size; omega, hc⟩⟩⟩⟩⟩
theorem c_dShares {csd : List Value} {d : Dist} {cl : List Int} {A : Option Addr} {n c : Nat} {r : Int} (hd : DiR D w csd d) (hl : SlR tInt D w A n cl) : CallZ Try.prog 12 #[.agg csd.toArray, .slice A n c, iv r] w (fun v w' => Ext w w' ∧ ((shErr d cl r ≠ 0 ∧ v = .tuple #[.slice none 0 0, iv (shErr d cl r)]) ∨
    (shErr d cl r = 0 ∧ ∃ hs A' n' c', needsV d cl = some hs ∧ v = .tuple #[.slice A' n' c', iv 0] ∧ OwnF w w' A' n' c' 3 1 (ivs (clmV d cl hs r.toNat))))) := by
  have hd0 := hd
  obtain ⟨A1, n1, c1, A2, n2, c2, A3, n3, c3, A4, n4, c4, A5, n5, c5, A6, n6, c6, rfl, hr, hf, -⟩ := hd.ex
  have lr := hr.len
  have lf := hf.len
  have ll := hl.len
  refine fn_rule (args := [.agg #[.string d.name, iv d.hours, iv d.cap, iv d.start, .slice A1 n1 c1, .slice A2 n2 c2, .slice A3 n3 c3, .slice A4 n4 c4, .slice A5 n5 c5, .slice A6 n6 c6], .slice A n c, iv r]) Try.func12 (by kernel_rfl) ?_
  refine box (fun b1 w1 h1 => ?_)
  have e1 := h1.at_
  have s1 := h1.size
  have B1 : Blk w1 b1 31 [.string d.name, iv d.hours, iv d.cap, iv d.start, .slice A1 n1 c1, .slice A2 n2 c2, .slice A3 n3 c3, .slice A4 n4 c4, .slice A5 n5 c5, .slice A6 n6 c6] := h1.blk
  refine ldA [.string d.name, iv d.hours, iv d.cap, iv d.start, .slice A1 n1 c1, .slice A2 n2 c2, .slice A3 n3 c3, .slice A4 n4 c4, .slice A5 n5 c5, .slice A6 n6 c6] (.blk B1) rfl ?_
  refine call_of (c_dopen (hd0.ext h1.ext) (hr.ext h1.ext) (hf.ext h1.ext) (hl.ext h1.ext)) ?_
  rintro _ w2 ⟨x2, ⟨g, ts, ht1, ht2, rfl⟩ | ⟨g, hs, bh, gm, hne, rfl, hbh, Bh, T⟩⟩
  · refine alloc (fun b2 w3 h3 => ?_)
    refine stA (vs := ts) h3.blk ht1 (by rw [ht1]; exact Nat.le_of_ble_eq_true rfl) (fun u hu => List.all_eq_true.1 ht2 u hu) (fun w4 B4 k4 z4 => ?_)
    have e3 := h3.at_
    have z2 := x2.size
    have x4 : Ext w w4 := ((h1.ext.trans x2).trans h3.ext).then k4 fun b hb _ e => by omega
    have eo : shErr d cl r = openErr d cl := by unfold shErr; rw [if_pos g]
    refine cN (fun g' => ?_) (fun g' => absurd g' g)
    exact ret2 (.slice none 0 0) (iv (openErr d cl)) rfl rfl ⟨x4, .inl ⟨by rw [eo]; exact g, by rw [eo]⟩⟩
  · have eo : shErr d cl r = if 0 ≤ r ∧ r < d.reaches.length then 0 else 1 := by unfold shErr; rw [if_neg (fun h => h g)]
    obtain ⟨g0, -⟩ := openErr_ok.1 g
    have R := rdy_of g0 hne
    refine alloc (fun b2 w3 h3 => ?_)
    refine stA (vs := [.string d.name, iv d.hours, iv d.cap, iv d.start, .slice A1 n1 c1, .slice A2 n2 c2, .slice A3 n3 c3, .slice A4 n4 c4, .slice A5 n5 c5, .slice A6 n6 c6, .map (some gm)]) h3.blk rfl (Nat.le_of_ble_eq_true rfl) (by simp [Value.oneCell']) (fun w4 B4 k4 z4 => ?_)
    have B4 : Blk w4 b2 78 [.string d.name, iv d.hours, iv d.cap, iv d.start, .slice A1 n1 c1, .slice A2 n2 c2, .slice A3 n3 c3, .slice A4 n4 c4, .slice A5 n5 c5, .slice A6 n6 c6, .map (some gm)] := B4
    have e3 := h3.at_
    have z2 := x2.size
    have z3 := h3.size
    have x24 : Ext w2 w4 := h3.ext.then k4 fun b hb _ e => by omega
    have x4 : Ext w w4 := (h1.ext.trans x2).trans x24
    have B1 := (B1.ext x2).ext x24
    have Bh := Bh.ext x24
    have T := T.ext x24
    refine cN (fun g' => absurd rfl g') (fun _ => ?_)
    refine cD (fun g1 => ?_) (fun g1 => ?_)
    · have e1 : shErr d cl r = 1 := by rw [eo, if_neg (by omega)]
      exact ret2 (.slice none 0 0) (iv 1) rfl rfl ⟨x4, .inl ⟨by rw [e1]; decide, by rw [e1]⟩⟩
    refine fldA ?_
    refine ld (.slice A1 n1 c1) (B1.cell rfl) ?_
    refine len ?_
    refine cD (fun g2 => ?_) (fun g2 => ?_)
    · have e1 : shErr d cl r = 1 := by rw [eo, if_neg (by omega)]
      exact ret2 (.slice none 0 0) (iv 1) rfl rfl ⟨x4, .inl ⟨by rw [e1]; decide, by rw [e1]⟩⟩
    have e1 : shErr d cl r = 0 := by rw [eo, if_pos (by omega)]
    obtain ⟨-, m, Mm, hm⟩ := T
    obtain ⟨P, np, cp, e, hs1, hc⟩ := hm r
    refine fldA ?_
    refine ld (.map (some gm)) (B4.cell rfl) ?_
    refine lookG1 (kv := kvI) r (.slice P np cp) (fun z hz => ⟨m, by rw [hz]; exact Mm, e⟩) ?_
    have lp := hs1.len
    have er : ((r.toNat : Nat) : Int) = r := by omega
    have lc := R.v.len (cl := cl) (hs := hs) (r := r.toNat)
    rw [clmV_len, er] at lc
    refine call_of (c_dclaims (D := fun _ => True) (hs1.more (by decide) fun _ _ _ => trivial) ((hl.ext x4).more (by decide) fun _ _ _ => trivial) (blk_ints (D := fun _ => True) Bh (by rw [R.lh]; omega) R.okh (by have := R.v.n; omega) trivial) (by omega) (fun p hp => ?_) R.okc R.okh) ?_
    · rcases mem_ptsV.1 hp with h | h
      · exact ⟨fun _ => by have := R.lc; omega, fun e => (by rw [h.1] at e; cases e)⟩
      · exact ⟨fun e => (by rw [h.1] at e; cases e), fun _ => by omega⟩
    rintro _ w5 ⟨A', c', rfl, o⟩
    refine ret2 (.slice A' np c') (iv 0) rfl rfl ⟨x4.trans o.ext, .inr ⟨e1, hs, A', np, c', hne, rfl, ?_⟩⟩
    have := o.base x4
    unfold clmV
    rw [er]
    exact this
theorem c_dIndex {ps : List Pt} {p : Pt} {A : Option Addr} {n c : Nat} (h : SlR tPt D w A n ps) (hp : p ∈ ps) : CallZ Try.prog 34 #[.slice A n c, .agg (encP p).toArray] w (fun v w' => Ext w w' ∧ ∃ k : Nat, v = iv (k : Int) ∧ ps[k]? = some p) := by
  have ll := h.len
  have hle := h.le
  refine fn_rule (args := [.slice A n c, .agg #[.bool p.1, iv (p.2 : Int)]]) Try.func34 (by kernel_rfl) ?_
  refine box (fun b1 w1 h1 => ?_)
  have B1 : Blk w1 b1 92 [.bool p.1, iv (p.2 : Int)] := h1.blk
  refine len ?_
  refine loop_rule (fun k : Nat => [(8, iv (k : Int))]) (fun k u => k ≤ n ∧ w1 = u ∧ p ∉ ps.take k) (fun k _ => n - k) 0 ⟨rfl, trivial⟩ ⟨by omega, rfl, by simp⟩ rfl ?_
  rintro G k u ⟨hk, rfl, hno⟩
  refine cD (fun hlt => ?_) (fun hge => ?_)
  · have hlt : k < n := by omega
    obtain ⟨b, o, cs, x, rfl, hx, -, -, hc, rfl⟩ := (h.ext h1.ext).at_ hlt
    refine drawQ mx (by kernel_rfl) ?_
    refine ldA [.bool p.1, iv (p.2 : Int)] (.blk B1) rfl ?_
    refine idx k rfl hlt ?_
    refine ldA (encP x) hc rfl ?_
    refine eqS ((p.1 == x.1) && (((p.2 : Int) == (x.2 : Int)) && true)) (by kernel_rfl) (fun q => ?_) (fun q => ?_)
    · simp only [Bool.and_true, Bool.and_eq_true, beq_iff_eq] at q
      obtain rfl : p = x := by obtain ⟨p1, p2⟩ := p; obtain ⟨x1, x2⟩ := x; simp only at q; rw [q.1]; congr 1; omega
      exact ret1 (iv (k : Int)) rfl ⟨h1.ext, k, rfl, hx⟩
    · refine arI (by omega) ?_
      refine next (k + 1) ⟨by rw [Int.natCast_add]; rfl, trivial⟩ ⟨by omega, rfl, fun hm => ?_⟩ (by omega)
      rw [List.take_add_one, hx, List.mem_append] at hm
      rcases hm with hm | hm
      · exact hno hm
      · simp at hm
        subst hm
        simp at q
  · rw [List.take_of_length_le (by omega)] at hno
    exact absurd hp hno
theorem c_dPart {csd : List Value} {d : Dist} {i : Int} (hd : DiR D w csd d) : CallZ Try.prog 15 #[.agg csd.toArray, iv i] w (fun v w' => Ext w w' ∧ ((ptErr d i ≠ 0 ∧ v = .tuple #[iv 0, iv 0, iv (ptErr d i)]) ∨
    (ptErr d i = 0 ∧ ∃ k : Nat, v = .tuple #[iv (fmC d i.toNat).reach, iv (k : Int), iv 0] ∧ (ptsV d (fmC d i.toNat).reach)[k]? = some (true, i.toNat)))) := by
  have hd0 := hd
  obtain ⟨A1, n1, c1, A2, n2, c2, A3, n3, c3, A4, n4, c4, A5, n5, c5, A6, n6, c6, rfl, hr, hf, -⟩ := hd.ex
  have lr := hr.len
  have lf := hf.len
  refine fn_rule (args := [.agg #[.string d.name, iv d.hours, iv d.cap, iv d.start, .slice A1 n1 c1, .slice A2 n2 c2, .slice A3 n3 c3, .slice A4 n4 c4, .slice A5 n5 c5, .slice A6 n6 c6], iv i]) Try.func15 (by kernel_rfl) ?_
  refine box (fun b1 w1 h1 => ?_)
  have B1 : Blk w1 b1 31 [.string d.name, iv d.hours, iv d.cap, iv d.start, .slice A1 n1 c1, .slice A2 n2 c2, .slice A3 n3 c3, .slice A4 n4 c4, .slice A5 n5 c5, .slice A6 n6 c6] := h1.blk
  refine ldA [.string d.name, iv d.hours, iv d.cap, iv d.start, .slice A1 n1 c1, .slice A2 n2 c2, .slice A3 n3 c3, .slice A4 n4 c4, .slice A5 n5 c5, .slice A6 n6 c6] (.blk B1) rfl ?_
  refine call_of (c_eCheck (hd0.ext h1.ext)) ?_
  rintro _ w2 ⟨rfl, x2⟩
  have xx := h1.ext.trans x2
  have B1 := B1.ext x2
  refine cN (fun g => ?_) (fun g => ?_)
  · have e : ptErr d i = dErr d := by unfold ptErr; rw [if_pos g]
    exact ret3 (iv 0) (iv 0) (iv (dErr d)) rfl rfl rfl ⟨xx, .inl ⟨by rw [e]; exact g, by rw [e]⟩⟩
  have g : dErr d = 0 := g
  have V := val_of g
  have e0 : ptErr d i = if 0 ≤ i ∧ i < d.farms.length then 0 else 1 := by unfold ptErr; rw [if_neg (fun h => h g)]
  refine cD (fun g1 => ?_) (fun g1 => ?_)
  · have e : ptErr d i = 1 := by rw [e0, if_neg (by omega)]
    exact ret3 (iv 0) (iv 0) (iv 1) rfl rfl rfl ⟨xx, .inl ⟨by rw [e]; decide, by rw [e]⟩⟩
  refine fldA ?_
  refine ld (.slice A2 n2 c2) (B1.cell rfl) ?_
  refine len ?_
  refine cD (fun g2 => ?_) (fun g2 => ?_)
  · have e : ptErr d i = 1 := by rw [e0, if_neg (by omega)]
    exact ret3 (iv 0) (iv 0) (iv 1) rfl rfl rfl ⟨xx, .inl ⟨by rw [e]; decide, by rw [e]⟩⟩
  have e : ptErr d i = 0 := by rw [e0, if_pos (by omega)]
  obtain ⟨j, rfl⟩ : ∃ j : Nat, i = j := ⟨i.toNat, by omega⟩
  obtain ⟨bb, o, cs, x, rfl, hx, -, -, hc, rfl⟩ := (hf.ext xx).at_ (k := j) (by omega)
  have hfm := fmC_at hx
  refine fldA ?_
  refine ld (.slice (some (ad bb o)) n2 c2) (B1.cell rfl) ?_
  refine idx j rfl (by omega) ?_
  refine fldA ?_
  refine ld (iv x.reach) (hc 1 _ rfl) ?_
  refine ldA _ (.blk B1) rfl ?_
  refine call_of (c_dgrow (hr.ext xx) (hf.ext xx) ⟨V.n.2, V.f⟩) ?_
  rintro _ w3 ⟨gm, rfl, x3, -, m, Mm, hm⟩
  obtain ⟨P, np, cp, ee, hs1, hcp⟩ := hm x.reach
  refine fldV (cs := [.string d.name, iv d.hours, iv d.cap, iv d.start, .slice A1 n1 c1, .slice (some (ad bb o)) n2 c2, .slice A3 n3 c3, .slice A4 n4 c4, .slice A5 n5 c5, .slice A6 n6 c6, .map (some gm)]) (.map (some gm)) rfl ?_
  refine lookG1 (kv := kvI) x.reach (.slice P np cp) (fun z hz => ⟨m, by rw [hz]; exact Mm, ee⟩) ?_
  refine bld [.bool true, iv (j : Int)] (by kernel_rfl) ?_
  refine call_of (c_dIndex (p := (true, j)) hs1 (mem_ptsV.2 (.inl ⟨rfl, by simp only; omega, by rw [hfm]⟩))) ?_
  rintro _ w4 ⟨x4, k, rfl, hk⟩
  exact ret3 (iv x.reach) (iv (k : Int)) (iv 0) rfl rfl rfl ⟨(xx.trans x3).trans x4, .inr ⟨e, k, by rw [show (j : Int).toNat = j from rfl, hfm], by rw [show (j : Int).toNat = j from rfl, hfm]; exact hk⟩⟩
end
end Go.Proofs.Ytmjcaclakggafaa

/- Layer 41, plainly: a division on the way. -/
namespace Go.Proofs.Ytmjcaclakggafaa
open Go Go.RowKit

/-- A division, after i reaches. -/
structure Div0 (d : Dist) (cl hs : List Int) (E : Int) (hd aw : List Int) (mk : List Mk) (i : Nat) : Prop where
  lh : hd.length = d.reaches.length
  la : aw.length = d.farms.length
  lm : mk.length = d.reaches.length
  oh : OkL hd
  oa : OkL aw
  top : clA hd 0 = cut d 0 (min E (clA hs 0))
  at_ : ∀ r, r < i → DivAt d cl hs hd aw mk r
/-- .. and after k parts of the next one. -/
structure DivK (d : Dist) (cl hs : List Int) (E : Int) (hd aw : List Int) (mk : List Mk) (i k : Nat) (m : Mk) : Prop where
  b : Div0 d cl hs E hd aw mk i
  mi : mkA mk i = m
  mm : MarkOf (workV d cl hs hd i) (clmV d cl hs i) m
  f : ∀ j f, j < k → (ptsV d i)[j]? = some (true, f) → clA aw f = ownV m (clA (clmV d cl hs i) j) j
  c : ∀ j f, j < k → (ptsV d i)[j]? = some (false, f) → clA hd f = cut d f (ownV m (clA (clmV d cl hs i) j) j)
section
variable {d : Dist} {cl hs hd aw : List Int} {mk : List Mk} {E : Int} {i k : Nat} {m : Mk}
theorem mkA_set {l : List Mk} {i j : Nat} {x : Mk} (hi : i < l.length) : mkA (l.set i x) j = if i = j then x else mkA l j := by
  unfold mkA
  rw [List.getD_eq_getElem?_getD, List.getElem?_set]
  by_cases h : i = j
  · rw [if_pos h, if_pos h, if_pos hi]; rfl
  · rw [if_neg h, if_neg h, ← List.getD_eq_getElem?_getD]
theorem okL_set {l : List Int} {i : Nat} {x : Int} (h : OkL l) (hx : 0 ≤ x ∧ x ≤ 1073741824) : OkL (l.set i x) := fun c hc => by
  rcases List.mem_or_eq_of_mem_set hc with hc | rfl
  · exact h c hc
  · exact hx
theorem Div0.ok (D : Div0 d cl hs E hd aw mk i) (r : Nat) : 0 ≤ clA hd r ∧ clA hd r ≤ 1073741824 := clA_ok D.oh r
/-- The mark of the next reach is written. -/
theorem Div0.mark (D : Div0 d cl hs E hd aw mk i) (hi : i < d.reaches.length) (hm : MarkOf (workV d cl hs hd i) (clmV d cl hs i) m) : DivK d cl hs E hd aw (mk.set i m) i 0 m := by
  have hl := D.lm
  have hii : i < mk.length := by omega
  refine ⟨⟨D.lh, D.la, by rw [List.length_set]; exact hl, D.oh, D.oa, D.top, fun r hr => ?_⟩, by rw [mkA_set hii, if_pos rfl], hm, fun j f hj => by omega, fun j f hj => by omega⟩
  obtain ⟨a, b, c⟩ := D.at_ r hr
  have e : mkA (mk.set i m) r = mkA mk r := by rw [mkA_set hii, if_neg (by omega)]
  exact ⟨by rw [e]; exact a, fun k i h => by rw [e]; exact b k i h, fun k i h => by rw [e]; exact c k i h⟩
theorem nodup_ix {α : Type} {l : List α} (h : l.Nodup) {i j : Nat} {x : α} (hi : l[i]? = some x) (hj : l[j]? = some x) : i = j := by
  have h1 := (List.getElem?_eq_some_iff.1 hi)
  have h2 := (List.getElem?_eq_some_iff.1 hj)
  obtain ⟨a, ha⟩ := h1
  obtain ⟨b, hb⟩ := h2
  rcases Nat.lt_trichotomy i j with q | q | q
  · exact absurd (ha.trans hb.symm) (List.pairwise_iff_getElem.1 h i j a b q)
  · exact q
  · exact absurd (hb.trans ha.symm) (List.pairwise_iff_getElem.1 h j i b a q)
theorem DivK.val (D : DivK d cl hs E hd aw mk i k m) (R : Rdy d cl hs) (hi : i < d.reaches.length) (hk : k < (ptsV d i).length) : 0 ≤ ownV m (clA (clmV d cl hs i) k) k ∧ ownV m (clA (clmV d cl hs i) k) k ≤ 1073741824 := by
  have h1 := (R.work (hd := hd) hi (D.b.ok i)).1
  exact own_small (D.mm.awd h1) (clmV_ok R.okc R.okh i) (by rw [clmV_len]; exact hk)
theorem DivK.farm (D : DivK d cl hs E hd aw mk i k m) (R : Rdy d cl hs) (hi : i < d.reaches.length) {f : Nat} (hk : (ptsV d i)[k]? = some (true, f)) : DivK d cl hs E hd (aw.set f (ownV m (clA (clmV d cl hs i) k) k)) mk i (k + 1) m := by
  have hm := mem_ptsV.1 (List.mem_of_getElem? hk)
  have hm : f < d.farms.length ∧ (fmC d f).reach = i := by
    rcases hm with h | h
    · exact h.2
    · cases h.1
  have hla := D.b.la
  have hf : f < aw.length := by omega
  have hv := D.val R hi (List.getElem?_eq_some_iff.1 hk).1
  refine ⟨⟨D.b.lh, by rw [List.length_set]; exact hla, D.b.lm, D.b.oh, okL_set D.b.oa hv, D.b.top, fun r hr => ?_⟩, D.mi, D.mm, fun j g hj h => ?_, fun j g hj h => ?_⟩
  · obtain ⟨a, b, c⟩ := D.b.at_ r hr
    refine ⟨a, fun j g h => ?_, c⟩
    rw [clA_set hf, if_neg (fun e => ?_)]
    · exact b j g h
    · subst e
      rcases mem_ptsV.1 (List.mem_of_getElem? h) with q | q
      · have := q.2.2; simp only at this; omega
      · cases q.1
  · rw [clA_set hf]
    by_cases e : f = g
    · subst e
      rw [if_pos rfl, nodup_ix ptsV_nodup h hk]
    · rw [if_neg e]
      by_cases q : j = k
      · subst q
        rw [hk] at h
        injection h with h; injection h with _ h; exact absurd h e
      · exact D.f j g (by omega) h
  · by_cases q : j = k
    · subst q; rw [hk] at h; injection h with h; injection h with h; cases h
    · exact D.c j g (by omega) h
theorem DivK.child (D : DivK d cl hs E hd aw mk i k m) (R : Rdy d cl hs) (hi : i < d.reaches.length) {f : Nat} (hk : (ptsV d i)[k]? = some (false, f)) : DivK d cl hs E (hd.set f (cut d f (ownV m (clA (clmV d cl hs i) k) k))) aw mk i (k + 1) m := by
  have hc := R.v.child (List.mem_of_getElem? hk)
  have hup : (rcC d f).up = i := by
    rcases mem_ptsV.1 (List.mem_of_getElem? hk) with h | h
    · cases h.1
    · exact h.2.2
  have hlh := D.b.lh
  have hf : f < hd.length := by omega
  have hv := D.val R hi (List.getElem?_eq_some_iff.1 hk).1
  have hcb := cut_b (d := d) (r := f) hv.1
  have ew : ∀ r, r ≤ i → workV d cl hs (hd.set f (cut d f (ownV m (clA (clmV d cl hs i) k) k))) r = workV d cl hs hd r := fun r hr => by
    unfold workV
    rw [clA_set hf, if_neg (by omega)]
  refine ⟨⟨by rw [List.length_set]; exact hlh, D.b.la, D.b.lm, okL_set D.b.oh (by omega), D.b.oa, by rw [clA_set hf, if_neg (by omega)]; exact D.b.top, fun r hr => ?_⟩, D.mi, by rw [ew i (Nat.le_refl _)]; exact D.mm, fun j g hj h => ?_, fun j g hj h => ?_⟩
  · obtain ⟨a, b, c⟩ := D.b.at_ r hr
    refine ⟨by rw [ew r (by omega)]; exact a, b, fun j g h => ?_⟩
    rw [clA_set hf, if_neg (fun e => ?_)]
    · exact c j g h
    · subst e
      rcases mem_ptsV.1 (List.mem_of_getElem? h) with q | q
      · cases q.1
      · have := q.2.2; simp only at this; omega
  · by_cases q : j = k
    · subst q; rw [hk] at h; injection h with h; injection h with h; cases h
    · exact D.f j g (by omega) h
  · rw [clA_set hf]
    by_cases e : f = g
    · subst e
      rw [if_pos rfl, nodup_ix ptsV_nodup h hk]
    · rw [if_neg e]
      by_cases q : j = k
      · subst q
        rw [hk] at h
        injection h with h; injection h with _ h; exact absurd h e
      · exact D.c j g (by omega) h
theorem DivK.done (D : DivK d cl hs E hd aw mk i k m) (hk : (ptsV d i).length ≤ k) : Div0 d cl hs E hd aw mk (i + 1) := by
  refine ⟨D.b.lh, D.b.la, D.b.lm, D.b.oh, D.b.oa, D.b.top, fun r hr => ?_⟩
  by_cases e : r = i
  · subst e
    exact ⟨by rw [D.mi]; exact D.mm, fun j g h => by rw [D.mi]; exact D.f j g (by have := (List.getElem?_eq_some_iff.1 h).1; omega) h, fun j g h => by rw [D.mi]; exact D.c j g (by have := (List.getElem?_eq_some_iff.1 h).1; omega) h⟩
  · exact D.b.at_ r (by omega)
theorem Div0.all (D : Div0 d cl hs E hd aw mk d.reaches.length) : DivV d cl hs E hd aw mk := ⟨D.lh, D.la, D.lm, D.top, D.at_⟩
/-- The beginning. -/
theorem Div0.start (R : Rdy d cl hs) (hE : 0 ≤ E) : Div0 d cl hs E ((List.replicate d.reaches.length 0).set 0 (cut d 0 (min E (clA hs 0)))) (List.replicate d.farms.length 0) (List.replicate d.reaches.length Mk.none) 0 := by
  have h0 := clA_ok R.okh 0
  have hb := cut_b (d := d) (r := 0) (n := min E (clA hs 0)) (by omega)
  refine ⟨by rw [List.length_set, List.length_replicate], List.length_replicate .., List.length_replicate .., okL_set okL_zero (by omega), okL_zero, ?_, fun r hr => by omega⟩
  rw [clA_set (by rw [List.length_replicate]; exact R.v.n.1), if_pos rfl]
end
end Go.Proofs.Ytmjcaclakggafaa

/- Layer 41: contract of Divide. (Printed by gen_XDc.py.) -/
namespace Go.Proofs.Ytmjcaclakggafaa
open Go Go.RowKit

abbrev mks (l : List Mk) : List Value := l.flatMap encM
theorem mks_app {a b : List Mk} : mks (a ++ b) = mks a ++ mks b := List.flatMap_append
theorem mks_len : ∀ {a : List Mk}, (mks a).length = a.length * 4
  | [] => rfl
  | x :: a => by show (encM x ++ mks a).length = (a.length + 1) * 4; rw [List.length_append, mks_len]; show 4 + _ = _; omega
theorem mks_take : ∀ (l : List Mk) (i : Nat), (mks l).take (i * 4) = mks (l.take i)
  | [], i => by simp [mks]
  | x :: l, 0 => by simp [mks]
  | x :: l, i + 1 => by
    show (encM x ++ mks l).take ((i + 1) * 4) = encM x ++ mks (l.take i)
    rw [show (i + 1) * 4 = (encM x).length + i * 4 by show _ = 4 + _; omega, List.take_length_add_append, mks_take l i]
theorem mks_drop : ∀ (l : List Mk) (i : Nat), (mks l).drop (i * 4) = mks (l.drop i)
  | [], i => by simp [mks]
  | x :: l, 0 => by simp [mks]
  | x :: l, i + 1 => by
    show (encM x ++ mks l).drop ((i + 1) * 4) = mks (l.drop i)
    rw [show (i + 1) * 4 = (encM x).length + i * 4 by show _ = 4 + _; omega, List.drop_length_add_append, mks_drop l i]
theorem mks_set {l : List Mk} {i : Nat} {m : Mk} (h : i < l.length) : (mks l).take (i * 4) ++ encM m ++ (mks l).drop (i * 4 + 4) = mks (l.set i m) := by
  rw [mks_take, show i * 4 + 4 = (i + 1) * 4 by omega, mks_drop, List.set_eq_take_append_cons_drop, if_pos h, mks_app, List.append_assoc]; rfl
theorem zI {n : Nat} : ivs (List.replicate n 0) = (List.replicate n (cellsL (iv 0))).flatten := by
  unfold ivs
  rw [List.map_replicate]
  show List.replicate n (iv 0) = (List.replicate n [iv 0]).flatten
  rw [List.flatten_replicate_singleton]
theorem zM : ∀ {n : Nat}, mks (List.replicate n Mk.none) = (List.replicate n (cellsL (.agg #[.bool false, iv 0, iv 0, iv 0]))).flatten
  | 0 => rfl
  | n + 1 => by
    rw [List.replicate_succ, List.replicate_succ, List.flatten_cons, ← zM]; rfl
def dvErr (d : Dist) (cl : List Int) (E : Int) : Int := if openErr d cl ≠ 0 then openErr d cl else if 0 ≤ E ∧ E ≤ 1099511627776 then 0 else 1
section
variable {D : Nat → Prop} {w : World}
theorem c_denter {d : Dist} {A1 A2 A3 A4 A5 A6 G M : Option Addr} {n1 c1 n2 c2 n3 c3 n4 c4 n5 c5 n6 c6 b3 b6 bh r nh ch ng cg nm cm : Nat} {n : Int} {hd : List Int} (hr : SlR tReach D w A1 n1 d.reaches) (h3 : Blk w b3 31 [.string d.name, iv d.hours, iv d.cap, iv d.start, .slice A1 n1 c1, .slice A2 n2 c2, .slice A3 n3 c3, .slice A4 n4 c4, .slice A5 n5 c5, .slice A6 n6 c6]) (h6 : Blk w b6 37 [.slice (some (ad bh 0)) nh ch, .slice G ng cg, .slice M nm cm]) (hb : Blk w bh 3 (ivs hd)) (hl : hd.length = nh) (hrn : r < n1) (hrh : r < nh) :
    CallZ Try.prog 25 #[iv (r : Int), iv n, ptr b3, ptr b6] w (fun v w' => v = .tuple #[] ∧ Blk w' bh 3 (ivs (hd.set r (cut d r n))) ∧ Kept (fun b => b ≠ bh) w w') := by
  refine fn_rule (args := [iv (r : Int), iv n, ptr b3, ptr b6]) Try.func25 (by kernel_rfl) ?_
  obtain ⟨bb, o, cs, x, rfl, hx, -, -, hc, rfl⟩ := hr.at_ hrn
  have hrc := rcC_at hx
  refine fldA ?_
  refine ld (.slice (some (ad bb o)) n1 c1) (h3.cell rfl) ?_
  refine idx r rfl hrn ?_
  refine fldA ?_
  refine ld (iv x.siphon) (hc 5 _ rfl) ?_
  refine cD (fun g => ?_) (fun g => ?_)
  · have e : cut d r n = 0 := by unfold cut; rw [hrc, if_pos g]
    refine fldA ?_
    refine ld (.slice (some (ad bh 0)) nh ch) (h6.cell rfl) ?_
    refine idx r rfl hrh ?_
    refine st (v := iv 0) hb (by simp; omega) rfl (fun u2 B2 k2 z2 => ?_)
    refine ret0 ⟨rfl, ?_, k2⟩
    rw [e, ← ivs_set]
    simpa using B2
  · have e : cut d r n = n := by unfold cut; rw [hrc, if_neg g]
    refine fldA ?_
    refine ld (.slice (some (ad bh 0)) nh ch) (h6.cell rfl) ?_
    refine idx r rfl hrh ?_
    refine st (v := iv n) hb (by simp; omega) rfl (fun u2 B2 k2 z2 => ?_)
    refine ret0 ⟨rfl, ?_, k2⟩
    rw [e, ← ivs_set]
    simpa using B2
set_option maxRecDepth 8000 in
set_option maxHeartbeats 1000000 in
theorem c_dDivide {csd : List Value} {d : Dist} {cl : List Int} {A : Option Addr} {n c : Nat} {E : Int} (hd : DiR D w csd d) (hl : SlR tInt D w A n cl) : CallZ Try.prog 10 #[.agg csd.toArray, .slice A n c, iv E] w (fun v w' => Ext w w' ∧ ((dvErr d cl E ≠ 0 ∧ v = .tuple #[.agg #[.slice none 0 0, .slice none 0 0, .slice none 0 0], iv (dvErr d cl E)]) ∨
    (dvErr d cl E = 0 ∧ ∃ hs H G M bh ba bm, needsV d cl = some hs ∧ Rdy d cl hs ∧ DivV d cl hs E H G M ∧ OkL H ∧ OkL G ∧ v = .tuple #[.agg #[.slice (some (ad bh 0)) d.reaches.length d.reaches.length, .slice (some (ad ba 0)) d.farms.length d.farms.length, .slice (some (ad bm 0)) d.reaches.length d.reaches.length], iv 0] ∧
      Blk w' bh 3 (ivs H) ∧ Blk w' ba 3 (ivs G) ∧ Blk w' bm 50 (mks M) ∧ w.heap.size ≤ bh ∧ w.heap.size ≤ ba ∧ w.heap.size ≤ bm))) := by
  have hd0 := hd
  obtain ⟨A1, n1, c1, A2, n2, c2, A3, n3, c3, A4, n4, c4, A5, n5, c5, A6, n6, c6, rfl, hr, hf, -⟩ := hd.ex
  have lr := hr.len
  have lf := hf.len
  have ll := hl.len
  refine fn_rule (args := [.agg #[.string d.name, iv d.hours, iv d.cap, iv d.start, .slice A1 n1 c1, .slice A2 n2 c2, .slice A3 n3 c3, .slice A4 n4 c4, .slice A5 n5 c5, .slice A6 n6 c6], .slice A n c, iv E]) Try.func10 (by kernel_rfl) ?_
  refine box (fun b3 w1 h1 => ?_)
  refine box (fun b4 w2 h2 => ?_)
  refine alloc (fun b6 w3 h3 => ?_)
  have e1 := h1.at_
  have e2 := h2.at_
  have e3 := h3.at_
  have s1 := h1.size
  have s2 := h2.size
  have s3 := h3.size
  have x3 := (h1.ext.trans h2.ext).trans h3.ext
  have B3 : Blk w3 b3 31 [.string d.name, iv d.hours, iv d.cap, iv d.start, .slice A1 n1 c1, .slice A2 n2 c2, .slice A3 n3 c3, .slice A4 n4 c4, .slice A5 n5 c5, .slice A6 n6 c6] := h1.blk.ext (h2.ext.trans h3.ext)
  have B4 : Blk w3 b4 32 [.slice A n c] := h2.blk.ext h3.ext
  have B6 : Blk w3 b6 37 [.slice none 0 0, .slice none 0 0, .slice none 0 0] := h3.blk
  refine ldA [.string d.name, iv d.hours, iv d.cap, iv d.start, .slice A1 n1 c1, .slice A2 n2 c2, .slice A3 n3 c3, .slice A4 n4 c4, .slice A5 n5 c5, .slice A6 n6 c6] (.blk B3) rfl ?_
  refine ld (.slice A n c) (B4.cell rfl) ?_
  refine call_of (c_dopen (hd0.ext x3) (hr.ext x3) (hf.ext x3) (hl.ext x3)) ?_
  rintro _ w4 ⟨x4, ⟨g, ts, ht1, ht2, rfl⟩ | ⟨g, hs, bs, gm, hne, rfl, hbs, Bs, T⟩⟩
  · refine alloc (fun b8 v1 h4 => ?_)
    refine alloc (fun b9 v2 h5 => ?_)
    refine stA (vs := ts) (h4.blk.ext h5.ext) ht1 (by rw [ht1]; exact Nat.le_of_ble_eq_true rfl) (fun u hu => List.all_eq_true.1 ht2 u hu) (fun v3 C3 k3 z3 => ?_)
    have f4 := h4.at_
    have f5 := h5.at_
    have g4 := h4.size
    have g5 := h5.size
    have z4 := x4.size
    have z03 := x3.size
    refine st1 (h5.blk.kept k3 (by omega)) rfl (fun v4 C4 k4 => ?_)
    have xv : Ext w3 v4 := (((x4.trans h4.ext).trans h5.ext).then k3 fun b hb _ e => by omega).then k4 fun b hb _ e => by omega
    have eo : dvErr d cl E = openErr d cl := by unfold dvErr; rw [if_pos g]
    refine cN (fun g' => ?_) (fun g' => absurd g' g)
    have B6 := B6.ext xv
    refine ldA [.slice none 0 0, .slice none 0 0, .slice none 0 0] (.blk B6) rfl ?_
    refine stA (vs := [.slice none 0 0, .slice none 0 0, .slice none 0 0]) B6 rfl (Nat.le_of_ble_eq_true rfl) (by simp [Value.oneCell']) (fun v5 C5 k5 z5 => ?_)
    have C5 : Blk v5 b6 37 [.slice none 0 0, .slice none 0 0, .slice none 0 0] := C5
    refine ret ?_
    refine resL _ (holds_agg (CellsAt.blk C5) rfl) ?_
    have z34 := xv.size
    exact ⟨(x3.trans xv).then k5 fun b hb _ e => by omega, .inl ⟨by rw [eo]; exact g, by rw [eo]; rfl⟩⟩
  have eo : dvErr d cl E = if 0 ≤ E ∧ E ≤ 1099511627776 then 0 else 1 := by unfold dvErr; rw [if_neg (fun h => h g)]
  obtain ⟨g0, -⟩ := openErr_ok.1 g
  have R := rdy_of g0 hne
  have hvn := R.v.n
  have hvf := R.v.f
  have z4 := x4.size
  have z03 := x3.size
  have lbs := Bs.lt
  have x04 := x3.trans x4
  have z04 := x04.size
  have hr4 : SlR tReach (fun b => b < w4.heap.size ∧ b ≠ b6) w4 A1 n1 d.reaches := ((hr.more (D' := fun b => b < w.heap.size) (by decide) fun b hb _ => hb).ext x04).more (by decide) fun b hb h => ⟨hb, by omega⟩
  have hl4 : SlR tInt (fun b => b < w4.heap.size ∧ b ≠ b6) w4 A n cl := ((hl.more (D' := fun b => b < w.heap.size) (by decide) fun b hb _ => hb).ext x04).more (by decide) fun b hb h => ⟨hb, by omega⟩
  have T4 : TreR (fun b => b < w4.heap.size ∧ b ≠ b6) w4 gm d := ⟨⟨T.ex.elim fun m hm => hm.1.lt, by have := T.own; omega⟩, T.ex.imp fun m hm => ⟨hm.1, fun r => by obtain ⟨A, n, c, e, hs, hc⟩ := hm.2 r; exact ⟨A, n, c, e, hs.more (by decide) fun b hb h => ⟨hb, by omega⟩, hc⟩⟩⟩
  refine alloc (fun b8 v1 h4 => ?_)
  refine alloc (fun b9 v2 h5 => ?_)
  refine stA (vs := [.string d.name, iv d.hours, iv d.cap, iv d.start, .slice A1 n1 c1, .slice A2 n2 c2, .slice A3 n3 c3, .slice A4 n4 c4, .slice A5 n5 c5, .slice A6 n6 c6, .map (some gm)]) (h4.blk.ext h5.ext) rfl (Nat.le_of_ble_eq_true rfl) (by simp [Value.oneCell']) (fun v3 B8 k3 z3 => ?_)
  have B8 : Blk v3 b8 78 [.string d.name, iv d.hours, iv d.cap, iv d.start, .slice A1 n1 c1, .slice A2 n2 c2, .slice A3 n3 c3, .slice A4 n4 c4, .slice A5 n5 c5, .slice A6 n6 c6, .map (some gm)] := B8
  have f4 := h4.at_
  have f5 := h5.at_
  have g4 := h4.size
  have g5 := h5.size
  refine st1 (h5.blk.kept k3 (by omega)) rfl (fun w5 B9 k4 => ?_)
  have g6 := k4.size
  have B8 := B8.kept k4 (by omega)
  have x45 : Ext w4 w5 := ((h4.ext.trans h5.ext).then k3 fun b hb _ e => by omega).then k4 fun b hb _ e => by omega
  have B3 := (B3.ext x4).ext x45
  have B4 := (B4.ext x4).ext x45
  have B6 := (B6.ext x4).ext x45
  have hr5 := hr4.ext x45
  have hl5 := hl4.ext x45
  have T5 := T4.ext x45
  have Bs := Bs.ext x45
  have x05 := x04.trans x45
  refine cN (fun g' => absurd rfl g') (fun _ => ?_)
  have bad : ¬ (0 ≤ E ∧ E ≤ 1099511627776) → dvErr d cl E = 1 := fun h => by rw [eo, if_neg h]
  refine cD (fun gE => ?_) (fun gE => ?_)
  · refine ldA [.slice none 0 0, .slice none 0 0, .slice none 0 0] (.blk B6) rfl ?_
    refine stA (vs := [.slice none 0 0, .slice none 0 0, .slice none 0 0]) B6 rfl (Nat.le_of_ble_eq_true rfl) (by simp [Value.oneCell']) (fun v5 C5 k5 z5 => ?_)
    have C5 : Blk v5 b6 37 [.slice none 0 0, .slice none 0 0, .slice none 0 0] := C5
    refine ret ?_
    refine resL _ (holds_agg (CellsAt.blk C5) rfl) ?_
    exact ⟨x05.then k5 fun b hb _ e => by omega, .inl ⟨by rw [bad (by omega)]; decide, by rw [bad (by omega)]; rfl⟩⟩
  refine cD (fun gF => ?_) (fun gF => ?_)
  · refine ldA [.slice none 0 0, .slice none 0 0, .slice none 0 0] (.blk B6) rfl ?_
    refine stA (vs := [.slice none 0 0, .slice none 0 0, .slice none 0 0]) B6 rfl (Nat.le_of_ble_eq_true rfl) (by simp [Value.oneCell']) (fun v5 C5 k5 z5 => ?_)
    have C5 : Blk v5 b6 37 [.slice none 0 0, .slice none 0 0, .slice none 0 0] := C5
    refine ret ?_
    refine resL _ (holds_agg (CellsAt.blk C5) rfl) ?_
    exact ⟨x05.then k5 fun b hb _ e => by omega, .inl ⟨by rw [bad (by omega)]; decide, by rw [bad (by omega)]; rfl⟩⟩
  have hE : 0 ≤ E ∧ E ≤ 1099511627776 := by omega
  have eo : dvErr d cl E = 0 := by rw [eo, if_pos hE]
  have lb6 := B6.lt
  -- the three lists
  refine draw_w (fun u => Kept (fun b => b ≠ b6) w5 u ∧ ∃ bh ba bm, Blk u b6 37 [.slice (some (ad bh 0)) n1 n1, .slice (some (ad ba 0)) n2 n2, .slice (some (ad bm 0)) n1 n1] ∧ Blk u bh 3 (ivs (List.replicate n1 0)) ∧ Blk u ba 3 (ivs (List.replicate n2 0)) ∧ Blk u bm 50 (mks (List.replicate n1 Mk.none)) ∧ (w5.heap.size ≤ bh ∧ w5.heap.size ≤ ba ∧ w5.heap.size ≤ bm) ∧ bh ≠ ba ∧ bh ≠ bm ∧ ba ≠ bm) ?_ ?_
  · refine drawP (.take 0 (.take 1 (.take 2 (.take 4 (.take 5 (.take 6 (.take 8 (.take 9 (.take 10 (.alt 3 (.alt 7 (.eff 11 (.take 12 (.eff 13 .done))) (.eff 11 (.eff 7 (.take 12 (.eff 13 .done))))) (.alt 7 (.alt 3 (.eff 11 (.take 12 (.eff 13 .done))) (.eff 11 (.eff 3 (.take 12 (.eff 13 .done))))) (.eff 11 (.alt 3 (.eff 7 (.take 12 (.eff 13 .done))) (.eff 7 (.eff 3 (.take 12 (.eff 13 .done))))))))))))))))) [] (fun u => Kept (fun b => b ≠ b6) w5 u) mx (by kernel_rfl) (.refl _ _) ?_
    refine fldA ?_
    refine ldS (.slice A1 n1 c1) (fun u hu => hu.cell (B3.cell rfl) (show b3 ≠ b6 by omega)) ?_
    refine len ?_
    refine fldA ?_
    refine ldS (.slice A2 n2 c2) (fun u hu => hu.cell (B3.cell rfl) (show b3 ≠ b6 by omega)) ?_
    refine len ?_
    refine fldA ?_
    refine ldS (.slice A1 n1 c1) (fun u hu => hu.cell (B3.cell rfl) (show b3 ≠ b6 by omega)) ?_
    refine len ?_
    refine ⟨?_, ?_⟩
    · refine mslc (sz := 1) (zv := iv 0) n1 rfl rfl (by omega) (by omega) rfl (by decide) (fun bh u1 i1 => ?_)
      refine strS (Ext.any i1.ext) ?_
      refine ⟨?_, ?_⟩
      · refine mslc (sz := 1) (zv := iv 0) n2 rfl rfl (by omega) (by omega) rfl (by decide) (fun ba u2 i2 => ?_)
        refine strS (Ext.any (i1.ext.trans i2.ext)) ?_
        refine mslc (sz := 4) (zv := .agg #[.bool false, iv 0, iv 0, iv 0]) n1 rfl rfl (by omega) (by omega) rfl (by decide) (fun bm u3 i3 => ?_)
        refine strS (Ext.any ((i1.ext.trans i2.ext).trans i3.ext)) ?_
        have xx := ((i1.ext.trans i2.ext).trans i3.ext)
        have z0 := xx.size
        have y1 := i1.at_
        have q1 := i1.size
        have y2 := i2.at_
        have q2 := i2.size
        have y3 := i3.at_
        have q3 := i3.size
        refine bld [.slice (some (ad bh 0)) n1 n1, .slice (some (ad ba 0)) n2 n2, .slice (some (ad bm 0)) n1 n1] (by kernel_rfl) ?_
        refine stA (vs := [.slice (some (ad bh 0)) n1 n1, .slice (some (ad ba 0)) n2 n2, .slice (some (ad bm 0)) n1 n1]) (B6.ext xx) rfl (Nat.le_of_ble_eq_true rfl) (by simp [Value.oneCell']) (fun u4 b4 k4 z4 => ?_)
        have kk : Kept (fun b => b ≠ b6) w5 u4 := (Ext.any xx).trans k4
        refine strS kk ?_
        exact ⟨kk, bh, ba, bm, b4, by rw [zI]; exact (((i1.blk.ext i2.ext).ext i3.ext).kept k4 (by omega)), by rw [zI]; exact ((i2.blk.ext i3.ext).kept k4 (by omega)), by rw [zM]; exact (i3.blk.kept k4 (by omega)), ⟨by omega, by omega, by omega⟩, by omega, by omega, by omega⟩
      · refine mslc (sz := 4) (zv := .agg #[.bool false, iv 0, iv 0, iv 0]) n1 rfl rfl (by omega) (by omega) rfl (by decide) (fun bm u2 i2 => ?_)
        refine strS (Ext.any (i1.ext.trans i2.ext)) ?_
        refine mslc (sz := 1) (zv := iv 0) n2 rfl rfl (by omega) (by omega) rfl (by decide) (fun ba u3 i3 => ?_)
        refine strS (Ext.any ((i1.ext.trans i2.ext).trans i3.ext)) ?_
        have xx := ((i1.ext.trans i2.ext).trans i3.ext)
        have z0 := xx.size
        have y1 := i1.at_
        have q1 := i1.size
        have y2 := i2.at_
        have q2 := i2.size
        have y3 := i3.at_
        have q3 := i3.size
        refine bld [.slice (some (ad bh 0)) n1 n1, .slice (some (ad ba 0)) n2 n2, .slice (some (ad bm 0)) n1 n1] (by kernel_rfl) ?_
        refine stA (vs := [.slice (some (ad bh 0)) n1 n1, .slice (some (ad ba 0)) n2 n2, .slice (some (ad bm 0)) n1 n1]) (B6.ext xx) rfl (Nat.le_of_ble_eq_true rfl) (by simp [Value.oneCell']) (fun u4 b4 k4 z4 => ?_)
        have kk : Kept (fun b => b ≠ b6) w5 u4 := (Ext.any xx).trans k4
        refine strS kk ?_
        exact ⟨kk, bh, ba, bm, b4, by rw [zI]; exact (((i1.blk.ext i2.ext).ext i3.ext).kept k4 (by omega)), by rw [zI]; exact (i3.blk.kept k4 (by omega)), by rw [zM]; exact ((i2.blk.ext i3.ext).kept k4 (by omega)), ⟨by omega, by omega, by omega⟩, by omega, by omega, by omega⟩
    · refine ⟨?_, ?_⟩
      · refine mslc (sz := 1) (zv := iv 0) n2 rfl rfl (by omega) (by omega) rfl (by decide) (fun ba u1 i1 => ?_)
        refine strS (Ext.any i1.ext) ?_
        refine ⟨?_, ?_⟩
        · refine mslc (sz := 1) (zv := iv 0) n1 rfl rfl (by omega) (by omega) rfl (by decide) (fun bh u2 i2 => ?_)
          refine strS (Ext.any (i1.ext.trans i2.ext)) ?_
          refine mslc (sz := 4) (zv := .agg #[.bool false, iv 0, iv 0, iv 0]) n1 rfl rfl (by omega) (by omega) rfl (by decide) (fun bm u3 i3 => ?_)
          refine strS (Ext.any ((i1.ext.trans i2.ext).trans i3.ext)) ?_
          have xx := ((i1.ext.trans i2.ext).trans i3.ext)
          have z0 := xx.size
          have y1 := i1.at_
          have q1 := i1.size
          have y2 := i2.at_
          have q2 := i2.size
          have y3 := i3.at_
          have q3 := i3.size
          refine bld [.slice (some (ad bh 0)) n1 n1, .slice (some (ad ba 0)) n2 n2, .slice (some (ad bm 0)) n1 n1] (by kernel_rfl) ?_
          refine stA (vs := [.slice (some (ad bh 0)) n1 n1, .slice (some (ad ba 0)) n2 n2, .slice (some (ad bm 0)) n1 n1]) (B6.ext xx) rfl (Nat.le_of_ble_eq_true rfl) (by simp [Value.oneCell']) (fun u4 b4 k4 z4 => ?_)
          have kk : Kept (fun b => b ≠ b6) w5 u4 := (Ext.any xx).trans k4
          refine strS kk ?_
          exact ⟨kk, bh, ba, bm, b4, by rw [zI]; exact ((i2.blk.ext i3.ext).kept k4 (by omega)), by rw [zI]; exact (((i1.blk.ext i2.ext).ext i3.ext).kept k4 (by omega)), by rw [zM]; exact (i3.blk.kept k4 (by omega)), ⟨by omega, by omega, by omega⟩, by omega, by omega, by omega⟩
        · refine mslc (sz := 4) (zv := .agg #[.bool false, iv 0, iv 0, iv 0]) n1 rfl rfl (by omega) (by omega) rfl (by decide) (fun bm u2 i2 => ?_)
          refine strS (Ext.any (i1.ext.trans i2.ext)) ?_
          refine mslc (sz := 1) (zv := iv 0) n1 rfl rfl (by omega) (by omega) rfl (by decide) (fun bh u3 i3 => ?_)
          refine strS (Ext.any ((i1.ext.trans i2.ext).trans i3.ext)) ?_
          have xx := ((i1.ext.trans i2.ext).trans i3.ext)
          have z0 := xx.size
          have y1 := i1.at_
          have q1 := i1.size
          have y2 := i2.at_
          have q2 := i2.size
          have y3 := i3.at_
          have q3 := i3.size
          refine bld [.slice (some (ad bh 0)) n1 n1, .slice (some (ad ba 0)) n2 n2, .slice (some (ad bm 0)) n1 n1] (by kernel_rfl) ?_
          refine stA (vs := [.slice (some (ad bh 0)) n1 n1, .slice (some (ad ba 0)) n2 n2, .slice (some (ad bm 0)) n1 n1]) (B6.ext xx) rfl (Nat.le_of_ble_eq_true rfl) (by simp [Value.oneCell']) (fun u4 b4 k4 z4 => ?_)
          have kk : Kept (fun b => b ≠ b6) w5 u4 := (Ext.any xx).trans k4
          refine strS kk ?_
          exact ⟨kk, bh, ba, bm, b4, by rw [zI]; exact (i3.blk.kept k4 (by omega)), by rw [zI]; exact (((i1.blk.ext i2.ext).ext i3.ext).kept k4 (by omega)), by rw [zM]; exact ((i2.blk.ext i3.ext).kept k4 (by omega)), ⟨by omega, by omega, by omega⟩, by omega, by omega, by omega⟩
      · refine mslc (sz := 4) (zv := .agg #[.bool false, iv 0, iv 0, iv 0]) n1 rfl rfl (by omega) (by omega) rfl (by decide) (fun bm u1 i1 => ?_)
        refine strS (Ext.any i1.ext) ?_
        refine ⟨?_, ?_⟩
        · refine mslc (sz := 1) (zv := iv 0) n1 rfl rfl (by omega) (by omega) rfl (by decide) (fun bh u2 i2 => ?_)
          refine strS (Ext.any (i1.ext.trans i2.ext)) ?_
          refine mslc (sz := 1) (zv := iv 0) n2 rfl rfl (by omega) (by omega) rfl (by decide) (fun ba u3 i3 => ?_)
          refine strS (Ext.any ((i1.ext.trans i2.ext).trans i3.ext)) ?_
          have xx := ((i1.ext.trans i2.ext).trans i3.ext)
          have z0 := xx.size
          have y1 := i1.at_
          have q1 := i1.size
          have y2 := i2.at_
          have q2 := i2.size
          have y3 := i3.at_
          have q3 := i3.size
          refine bld [.slice (some (ad bh 0)) n1 n1, .slice (some (ad ba 0)) n2 n2, .slice (some (ad bm 0)) n1 n1] (by kernel_rfl) ?_
          refine stA (vs := [.slice (some (ad bh 0)) n1 n1, .slice (some (ad ba 0)) n2 n2, .slice (some (ad bm 0)) n1 n1]) (B6.ext xx) rfl (Nat.le_of_ble_eq_true rfl) (by simp [Value.oneCell']) (fun u4 b4 k4 z4 => ?_)
          have kk : Kept (fun b => b ≠ b6) w5 u4 := (Ext.any xx).trans k4
          refine strS kk ?_
          exact ⟨kk, bh, ba, bm, b4, by rw [zI]; exact ((i2.blk.ext i3.ext).kept k4 (by omega)), by rw [zI]; exact (i3.blk.kept k4 (by omega)), by rw [zM]; exact (((i1.blk.ext i2.ext).ext i3.ext).kept k4 (by omega)), ⟨by omega, by omega, by omega⟩, by omega, by omega, by omega⟩
        · refine mslc (sz := 1) (zv := iv 0) n2 rfl rfl (by omega) (by omega) rfl (by decide) (fun ba u2 i2 => ?_)
          refine strS (Ext.any (i1.ext.trans i2.ext)) ?_
          refine mslc (sz := 1) (zv := iv 0) n1 rfl rfl (by omega) (by omega) rfl (by decide) (fun bh u3 i3 => ?_)
          refine strS (Ext.any ((i1.ext.trans i2.ext).trans i3.ext)) ?_
          have xx := ((i1.ext.trans i2.ext).trans i3.ext)
          have z0 := xx.size
          have y1 := i1.at_
          have q1 := i1.size
          have y2 := i2.at_
          have q2 := i2.size
          have y3 := i3.at_
          have q3 := i3.size
          refine bld [.slice (some (ad bh 0)) n1 n1, .slice (some (ad ba 0)) n2 n2, .slice (some (ad bm 0)) n1 n1] (by kernel_rfl) ?_
          refine stA (vs := [.slice (some (ad bh 0)) n1 n1, .slice (some (ad ba 0)) n2 n2, .slice (some (ad bm 0)) n1 n1]) (B6.ext xx) rfl (Nat.le_of_ble_eq_true rfl) (by simp [Value.oneCell']) (fun u4 b4 k4 z4 => ?_)
          have kk : Kept (fun b => b ≠ b6) w5 u4 := (Ext.any xx).trans k4
          refine strS kk ?_
          exact ⟨kk, bh, ba, bm, b4, by rw [zI]; exact (i3.blk.kept k4 (by omega)), by rw [zI]; exact ((i2.blk.ext i3.ext).kept k4 (by omega)), by rw [zM]; exact (((i1.blk.ext i2.ext).ext i3.ext).kept k4 (by omega)), ⟨by omega, by omega, by omega⟩, by omega, by omega, by omega⟩
  rintro G6 w6 ⟨k56, bh, ba, bm, B6, Bh, Ba, Bm, ⟨hbh, hba, hbm⟩, nha, nhm, nam⟩
  have z56 := k56.size
  have B3 := B3.kept k56 (by omega)
  have B4 := B4.kept k56 (by omega)
  have B8 := B8.kept k56 (by omega)
  have B9 := B9.kept k56 (by omega)
  have Bs := Bs.kept k56 (by omega)
  have hr6 := hr5.kept k56 fun b _ h => by omega
  have hl6 := hl5.kept k56 fun b _ h => by omega
  have T6 := T5.kept k56 fun b _ h => by omega
  have x06 : Ext w w6 := x05.then k56 fun b hb _ e => by omega
  have lb3 := B3.lt
  have lb4 := B4.lt
  have lb8 := B8.lt
  have lb9 := B9.lt
  have lbh := Bh.lt
  have lba := Ba.lt
  have lbm := Bm.lt
  -- enter
  refine alloc (fun b10 w7 h7 => ?_)
  refine st1 h7.blk rfl (fun w8 B10 k8 => ?_)
  have f7 := h7.at_
  have g7 := h7.size
  have z8 := k8.size
  have x68 : Ext w6 w8 := h7.ext.then k8 fun b hb _ e => by omega
  have B3 := B3.ext x68
  have B4 := B4.ext x68
  have B6 := B6.ext x68
  have B8 := B8.ext x68
  have B9 := B9.ext x68
  have Bs := Bs.ext x68
  have Bh := Bh.ext x68
  have Ba := Ba.ext x68
  have Bm := Bm.ext x68
  have hr8 := hr6.ext x68
  have hl8 := hl6.ext x68
  have T8 := T6.ext x68
  have x08 := x06.trans x68
  have h0s := clA_ok R.okh 0
  refine drawP (.take 0 (.take 1 (.take 2 (.take 3 (.take 4 (.eff 5 (.eff 6 (.bar (.eff 7 .done))))))))) [7] (fun z => Ext w8 z) mx (by kernel_rfl) (.refl _ _) ?_
  have hsl : SlR tInt (fun b => b = bs) w8 (some (ad bs 0)) n1 hs := blk_ints Bs (by rw [R.lh]; omega) R.okh (by omega) rfl
  obtain ⟨bq, oq, csq, x0, hbq, hx0, -, -, hcq, rfl, -⟩ := hsl.at_ (k := 0) (by omega)
  injection hbq with hbq
  injection hbq with hq1 hq2
  subst hq1; subst hq2
  have ex0 : x0 = clA hs 0 := by rw [clA_at hx0]
  refine ldK (.func (.func 25) #[] #[ptr b3, ptr b6]) (B10.cell rfl) trivial (.refl _ _) ?_
  refine ldK (.slice (some (ad bs 0)) n1 n1) (B9.cell rfl) trivial (.refl _ _) ?_
  refine idx 0 rfl (by omega) ?_
  refine ldK (iv x0) (hcq 0 _ rfl) trivial (.refl _ _) ?_
  refine lit [iv x0] (fun gg v4 hq => ?_)
  refine strS hq.ext ?_
  refine call_of (c_dleast (n := E) (l := [x0]) (m := 1) (D := fun _ => True) (SlR.of_cells rfl (by decide) trivial (.blk hq.blk) (flat_ints fun x hx => by rw [List.mem_singleton] at hx; rw [hx]; unfold I64; omega))) ?_
  rintro _ v5 ⟨rfl, rfl⟩
  refine strS hq.ext ?_
  refine barS (fun _ => True) trivial ?_
  have em : List.foldl min E [x0] = min E (clA hs 0) := by rw [← ex0]; rfl
  rw [em]
  have xq := hq.ext
  have zq := xq.size
  refine call_of (c_denter (r := 0) (hr8.ext xq) (B3.ext xq) (B6.ext xq) (Bh.ext xq) (List.length_replicate ..) (by omega : 0 < n1) (by omega)) ?_
  rintro _ w9 ⟨rfl, Bh, k9⟩
  refine strS trivial ?_
  have z9 := k9.size
  have k89 : Kept (fun b => b ≠ bh) w8 w9 := (Ext.any xq).trans k9
  have Ba := Ba.kept k89 (by omega)
  have Bm := Bm.kept k89 (by omega)
  have B3 := B3.kept k89 (by omega)
  have B4 := B4.kept k89 (by omega)
  have B6 := B6.kept k89 (by omega)
  have B8 := B8.kept k89 (by omega)
  have B9 := B9.kept k89 (by omega)
  have B10 := (show Blk w8 b10 _ _ from B10).kept k89 (by omega)
  have Bs := Bs.kept k89 (by omega)
  have hr9 := hr8.kept k89 fun b _ h => by omega
  have hl9 := hl8.kept k89 fun b _ h => by omega
  have T9 := T8.kept k89 fun b _ h => by omega
  have x09 : Ext w w9 := x08.then k89 fun b hb _ => by omega
  have D0 := Div0.start (E := E) R hE.1
  rw [lr, lf] at D0
  -- the reaches
  refine ldA [.string d.name, iv d.hours, iv d.cap, iv d.start, .slice A1 n1 c1, .slice A2 n2 c2, .slice A3 n3 c3, .slice A4 n4 c4, .slice A5 n5 c5, .slice A6 n6 c6, .map (some gm)] (.blk B8) rfl ?_
  refine call_of (c_dreaches (d := d) (lv := false)) ?_
  rintro _ w10 ⟨bt, bl, rfl, x10, Ct, Cl, hbt, hbl⟩
  have z10 := x10.size
  have lcl := Cl.lt
  have B3 := B3.ext x10
  have B4 := B4.ext x10
  have B6 := B6.ext x10
  have B9 := B9.ext x10
  have B10 := B10.ext x10
  have Bs := Bs.ext x10
  have Bh := Bh.ext x10
  have Ba := Ba.ext x10
  have Bm := Bm.ext x10
  refine range (gf := 47) (lb := #[ptr bt, ptr bl]) rfl (fun fn tmps w11 RR hRR hF' hwf x11 z11 hD11 hl11 => ?_)
  show CallZ _ _ #[.func (.yield (w10.heap.size + 1)) #[] #[], ptr bt, ptr bl] w11 _
  have x0B : Ext w w11 := (x09.trans x10).trans x11
  have x9B := x10.trans x11
  have hrB := hr9.ext x9B
  have hlB := hl9.ext x9B
  have TB := T9.ext x9B
  have B3 := B3.ext x11
  have B4 := B4.ext x11
  have B6 := B6.ext x11
  have B9 := B9.ext x11
  have B10 := B10.ext x11
  have Bs := Bs.ext x11
  have Bh := Bh.ext x11
  have Ba := Ba.ext x11
  have Bm := Bm.ext x11
  have Ct := Ct.ext x11
  have Cl := Cl.ext x11
  refine (c_dreaches1 (Q := fun _ => False) (D := fun b => b ≠ bh ∧ b ≠ ba ∧ b ≠ bm ∧ b ≠ w10.heap.size + 1) (D' := fun b => b < w4.heap.size ∧ b ≠ b6) (fun k u => ∃ hd aw mk, Div0 d cl hs E hd aw mk k ∧ Blk u bh 3 (ivs hd) ∧ Blk u ba 3 (ivs aw) ∧ Blk u bm 50 (mks mk) ∧ LoopAt u (w10.heap.size + 1) RR)
    ⟨by omega, by omega, by omega, by omega⟩ ⟨by omega, by omega, by omega, by omega⟩ (fun b hb => ⟨by omega, by omega, by omega, by omega⟩) Ct Cl TB ⟨by omega, by omega⟩ rfl ?_ ⟨_, _, _, D0, Bh, Ba, Bm, hl11⟩).mono ?_
  · rintro i P np cp u hin ⟨hd', aw, mk, Dv, bhu, bau, bmu, lu⟩ ku sp hcp
    have hi : ixR n1 false i = i := by unfold ixR; rw [if_neg (by simp)]
    rw [hi] at sp
    rw [hi]
    have hir : i < d.reaches.length := by omega
    obtain ⟨r, hri⟩ : ∃ r, d.reaches[i]? = some r := ⟨_, List.getElem?_eq_getElem hir⟩
    have hrc := rcC_at hri
    obtain ⟨rl1, rl2, rl3⟩ := R.v.loss hir
    obtain ⟨tE, wk0, wk1, wk2⟩ := R.work (hd := hd') hir (Dv.ok i)
    have sumB := R.sum i
    have okh := Dv.ok i
    have arb := arr_le rl1 okh
    have lenB := R.v.len (cl := cl) (hs := hs) (r := i)
    have okc := clmV_ok (d := d) R.okc R.okh i
    obtain ⟨tot, htot⟩ : ∃ t, t = isum (clmV d cl hs i) := ⟨_, rfl⟩
    obtain ⟨own, hown⟩ : ∃ t, t = clmV d cl hs i := ⟨_, rfl⟩
    subst hRR
    have ll' := lu.lt
    have lp := sp.len
    refine yield_rule (args := [iv (i : Int), .slice P np cp]) lu rfl rfl hF' hwf ?_
    refine mid' lu (fun u1 k1 z1 l1 => ?_)
    have ku1 : Kept (fun b => b ≠ bh ∧ b ≠ ba ∧ b ≠ bm ∧ b ≠ w10.heap.size + 1) w11 u1 := ku.then k1 fun b _ h => h.2.2.2
    have zu1 := ku1.size
    have q3 := B3.kept ku1 ⟨by omega, by omega, by omega, by omega⟩
    have q4 := B4.kept ku1 ⟨by omega, by omega, by omega, by omega⟩
    have q6 := B6.kept ku1 ⟨by omega, by omega, by omega, by omega⟩
    have q9 := B9.kept ku1 ⟨by omega, by omega, by omega, by omega⟩
    have q10 := B10.kept ku1 ⟨by omega, by omega, by omega, by omega⟩
    have qs := Bs.kept ku1 ⟨by omega, by omega, by omega, by omega⟩
    have qr := hrB.kept ku1 fun b _ h => ⟨by omega, by omega, by omega, by omega⟩
    have ql := hlB.kept ku1 fun b _ h => ⟨by omega, by omega, by omega, by omega⟩
    have sp1 := sp.kept k1 fun b hb h => by omega
    have bh1 := bhu.kept k1 (by omega)
    have ba1 := bau.kept k1 (by omega)
    have bm1 := bmu.kept k1 (by omega)
    refine ld (.slice A n c) (q4.cell rfl) ?_
    refine ld (.slice (some (ad bs 0)) n1 n1) (q9.cell rfl) ?_
    refine call_of (c_dclaims (D := fun _ => True) (sp1.more (by decide) fun _ _ _ => trivial) (ql.more (by decide) fun _ _ _ => trivial) (blk_ints (D := fun _ => True) qs (by rw [R.lh]; omega) R.okh (by omega) trivial) (by rw [← lp, ← clmV_len (cl := cl) (hs := hs)]; exact lenB) (fun p hp => ?_) R.okc R.okh) ?_
    · rcases mem_ptsV.1 hp with h | h
      · exact ⟨fun _ => by have := R.lc; omega, fun e => (by rw [h.1] at e; cases e)⟩
      · exact ⟨fun e => (by rw [h.1] at e; cases e), fun _ => by omega⟩
    rintro _ u2 ⟨A', c', rfl, o2⟩
    have x12 := o2.ext
    have eT : isum ((ptsV d (i : Int)).map (clP cl hs)) = tot := htot.symm
    rw [eT]
    rw [show (ptsV d (i : Int)).map (clP cl hs) = own from hown.symm] at o2
    rw [← hown] at tE wk2 lenB okc
    rw [← htot] at sumB
    have htot' : tot = isum own := by rw [hown]; exact htot
    have own64 := okL_i64 okc
    have lown : own.length = np := by rw [hown, clmV_len]; exact lp
    have so2 : SlR tInt (fun b => u1.heap.size ≤ b) u2 A' np own := o2.ints own64 (by omega) fun _ h => h
    have q3 := q3.ext x12
    have q6 := q6.ext x12
    have q10 := q10.ext x12
    have qr := qr.ext x12
    have sp2 := sp1.ext x12
    have bh2 := bh1.ext x12
    have ba2 := ba1.ext x12
    have bm2 := bm1.ext x12
    have l2 := l1.kept x12 trivial
    have ku2 : Kept (fun b => b ≠ bh ∧ b ≠ ba ∧ b ≠ bm ∧ b ≠ w10.heap.size + 1) w11 u2 := ku1.then x12 fun _ _ _ => trivial
    have zu2 := x12.size
    -- what arrives
    have hidx : clA hd' i = clA hd' i := rfl
    obtain ⟨hv, hhv⟩ : ∃ hv, hv = clA hd' i := ⟨_, rfl⟩
    have hgi : hd'[i]? = some hv := by
      have hl := Dv.lh
      have : i < hd'.length := by omega
      rw [List.getElem?_eq_getElem this, hhv, clA_at (List.getElem?_eq_getElem this)]
    have shd : SlR tInt (fun b => b = bh) u2 (some (ad bh 0)) n1 hd' := blk_ints bh2 (by have := Dv.lh; omega) Dv.oh (by omega) rfl
    obtain ⟨bx, ox, csx, hv', hbx, hgx, -, -, hcx, rfl, -⟩ := shd.at_ (k := i) (by omega)
    injection hbx with hbx
    injection hbx with hx1 hx2
    subst hx1; subst hx2
    obtain rfl : hv = hv' := by rw [hgi] at hgx; injection hgx
    obtain ⟨br, or_, csr, r', rfl, hr', -, -, hcr, rfl⟩ := qr.at_ (k := i) (by omega)
    obtain rfl : r = r' := by rw [hri] at hr'; injection hr'
    rw [hrc] at rl1 rl2 rl3 arb
    refine drawP (.take 0 (.take 1 (.take 2 (.take 3 (.take 4 (.take 5 (.take 6 (.take 7 (.take 8 (.take 9 (.eff 10 (.take 11 (.take 12 (.take 13 (.take 14 (.take 15 .done)))))))))))))))) [] (fun z => Ext u2 z) mx (by kernel_rfl) (.refl _ _) ?_
    refine fldA ?_
    refine ldK (.slice (some (ad br or_)) n1 c1) (q3.cell rfl) trivial (.refl _ _) ?_
    refine idx i rfl (by omega) ?_
    refine ldAK r.c hcr rfl trivial (.refl _ _) ?_
    refine fldA ?_
    refine ldK (.slice (some (ad bh 0)) n1 n1) (q6.cell rfl) trivial (.refl _ _) ?_
    refine idx i rfl (by omega) ?_
    refine ldK (iv hv) (hcx 0 _ rfl) trivial (.refl _ _) ?_
    refine call_of (c_lWorst (r := r) (v := hv)) ?_
    rintro _ u3 ⟨rfl, x3'⟩
    have eL : lErr r hv = 0 := lErr_ok.2 ⟨rl1, by omega, by omega⟩
    rw [eL, if_pos rfl]
    refine strS x3' ?_
    refine lit [iv tot] (fun gg u4 hq4 => ?_)
    have x24 : Ext u2 u4 := x3'.trans hq4.ext
    refine call_of (c_dleast (n := hv - (lostR r hv).hi) (l := [tot]) (m := 1) (D := fun _ => True) (SlR.of_cells rfl (by decide) trivial (.blk hq4.blk) (flat_ints fun x hx => by rw [List.mem_singleton] at hx; rw [hx]; unfold I64; omega))) ?_
    rintro _ u5 ⟨rfl, rfl⟩
    obtain ⟨wk, hwk⟩ : ∃ wk, wk = workV d cl hs hd' i := ⟨_, rfl⟩
    have ewk : List.foldl min (hv - (lostR r hv).hi) [tot] = wk := by
      rw [hwk]; unfold workV; rw [← htot, hrc, ← hhv]; rfl
    rw [ewk]
    rw [← hwk] at tE wk0 wk1 wk2
    rw [hrc, ← hhv] at wk1
    have so4 := so2.ext x24
    have z24 := x24.size
    -- the awards
    refine call_of (c_gAward' (E := wk) (l := own) so4 tE) ?_
    rintro _ u6 ⟨m, A3', n3', c3', hmk, rfl, sa6, hca, x46, ln3⟩
    have x26 := x24.trans x46
    have z46 := x46.size
    have q3 := q3.ext x26
    have q6 := q6.ext x26
    have q10 := q10.ext x26
    have qr := qr.ext x26
    have sp6 := sp2.ext x26
    have bh6 := bh2.ext x26
    have ba6 := ba2.ext x26
    have bm6 := bm2.ext x26
    have l6 := l2.kept x26 trivial
    have ku6 := ku2.then x26 fun _ _ _ => trivial
    have so6 := so4.ext x46
    have hlm := Dv.lm
    have Dk := Dv.mark hir (m := m) (by rw [← hwk, ← hown]; exact hmk)
    -- the mark
    refine drawP (.take 0 (.take 1 (.take 2 (.take 3 (.take 4 (.eff 5 (.take 6 (.take 7 (.take 8 (.take 9 (.bar (.eff 10 .done)))))))))))) [10] (fun z => Ext u6 z) mx (by kernel_rfl) (.refl _ _) ?_
    refine fldA ?_
    refine ldK (.slice (some (ad bm 0)) n1 n1) (q6.cell rfl) trivial (.refl _ _) ?_
    refine call_of (c_gThr (E := wk) (l := own) so6 (by unfold I64; omega)) ?_
    rintro _ u7 ⟨x67, m', rfl, hmk'⟩
    obtain rfl : m = m' := hmk.uniq hmk'
    refine strS x67 ?_
    refine idx i rfl (by omega) ?_
    refine barS (fun _ => True) trivial ?_
    refine stA (vs := encM m) (bm6.ext x67) rfl (by rw [mks_len]; show _ + 4 ≤ _; omega) (by simp [Value.oneCell']) (fun u8 bm8 k8' z8' => ?_)
    refine strS trivial ?_
    have bm8 : Blk u8 bm 50 (mks (mk.set i m)) := by
      rw [← mks_set (by omega : i < mk.length)]
      have := bm8
      simpa using this
    have z67 := x67.size
    have q3 := (q3.ext x67).kept k8' (by omega)
    have q6 := (q6.ext x67).kept k8' (by omega)
    have q10 := (q10.ext x67).kept k8' (by omega)
    have qr := (qr.ext x67).kept k8' fun b _ h => by omega
    have sp8 := (sp6.ext x67).kept k8' fun b _ h => by omega
    have bh8 := (bh6.ext x67).kept k8' (by omega)
    have ba8 := (ba6.ext x67).kept k8' (by omega)
    have l8 := (l6.kept x67 trivial).kept k8' (by omega)
    have sa8 := (sa6.ext x67).kept k8' fun b _ h => by omega
    have ku8 : Kept (fun b => b ≠ bh ∧ b ≠ ba ∧ b ≠ bm ∧ b ≠ w10.heap.size + 1) w11 u8 := (ku6.then x67 fun _ _ _ => trivial).then k8' fun b _ h => h.2.2.1
    have zk8 := ku8.size
    have zu8 : u6.heap.size ≤ u8.heap.size := by omega
    -- the parts
    refine len ?_
    refine loop_rule (fun j : Nat => [(108, iv (j : Int))]) (fun j z => j ≤ np ∧ ∃ hd2 aw2, DivK d cl hs E hd2 aw2 (mk.set i m) i j m ∧ Blk z bh 3 (ivs hd2) ∧ Blk z ba 3 (ivs aw2) ∧ Kept (fun b => b ≠ bh ∧ b ≠ ba) u8 z) (fun j _ => np - j) 0 ⟨rfl, trivial⟩ ⟨by omega, hd', aw, Dk, bh8, ba8, .refl _ _⟩ rfl ?_
    rintro G9 j z ⟨hj, hd2, aw2, DK, bhz, baz, kz⟩
    have q3 := q3.kept kz (by omega)
    have q6 := q6.kept kz (by omega)
    have q10 := q10.kept kz (by omega)
    have qr := qr.kept kz fun b _ h => by omega
    have spz := sp8.kept kz fun b _ h => by omega
    have saz := sa8.kept kz fun b _ h => by omega
    have lz := l8.kept kz (by omega)
    have bmz := bm8.kept kz (by omega)
    have zz := kz.size
    refine cD (fun hlt => ?_) (fun hge => ?_)
    · have hlt : j < np := by omega
      obtain ⟨bp, op, csp, p, rfl, hp, -, -, hcp', rfl⟩ := spz.at_ hlt
      obtain ⟨av, hav⟩ : ∃ av, av = ownV m (clA own j) j := ⟨_, rfl⟩
      refine idx j rfl hlt ?_
      refine ldA (encP p) hcp' rfl ?_
      refine alloc (fun b20 z1 i1 => ?_)
      have y1 := i1.at_
      have r1 := i1.size
      refine stA (vs := encP p) i1.blk rfl (Nat.le_of_ble_eq_true rfl) (by simp [Value.oneCell']) (fun z2 B20 k2 s2' => ?_)
      have B20 : Blk z2 b20 92 (encP p) := B20
      have xz2 : Ext z z2 := i1.ext.then k2 fun b hb _ e => by omega
      have zz2 := xz2.size
      have q3 := q3.ext xz2
      have q6 := q6.ext xz2
      have q10 := q10.ext xz2
      have qr := qr.ext xz2
      have bhz := bhz.ext xz2
      have baz := baz.ext xz2
      obtain ⟨by_, oy, csy, av', rfl, hgy, -, -, hcy2, rfl, -⟩ := (saz.ext xz2).at_ (k := j) (by omega)
      obtain rfl : av = av' := by
        have := awL_at (m := m) (l := own) (i := j) (by omega)
        rw [hgy] at this; injection this with this; rw [hav, this]
      have hll := DK.b.la
      have hlh := DK.b.lh
      have lbz1 := bhz.lt
      have lbz2 := baz.lt
      obtain ⟨pf, f⟩ := p
      have eav : av = ownV m (clA (clmV d cl hs i) j) j := by rw [hav, hown]
      cases pf with
      | true =>
        have hfl : f < d.farms.length := by
          rcases mem_ptsV.1 (List.mem_of_getElem? hp) with h | h
          · exact h.2.1
          · cases h.1
        have DK2 := DK.farm R hir hp
        rw [← eav] at DK2
        refine fldA ?_
        refine ld (.bool true) (B20.cell rfl) ?_
        refine drawP (.take 0 (.take 1 (.take 2 (.take 3 (.take 4 (.take 5 (.take 6 (.take 7 (.take 8 (.bar (.eff 9 .done))))))))))) [9] (fun y => y = z2) mx (by kernel_rfl) rfl ?_
        refine fldA ?_
        refine ld (.slice (some (ad ba 0)) n2 n2) (q6.cell rfl) ?_
        refine fldA ?_
        refine ld (iv (f : Int)) (B20.cell rfl) ?_
        refine idx j rfl (by omega) ?_
        refine ld (iv av) (hcy2 0 _ rfl) ?_
        refine idx f rfl (by omega) ?_
        refine barS (fun _ => True) trivial ?_
        refine st (v := iv av) baz (by simp; omega) rfl (fun z3 ba3 k3 s3' => ?_)
        refine strS trivial ?_
        refine arI (by omega) ?_
        refine next (j + 1) ⟨by rw [Int.natCast_add]; rfl, trivial⟩ ⟨by omega, hd2, _, DK2, bhz.kept k3 (by omega), ?_, (kz.then xz2 fun _ _ _ => trivial).then k3 fun b _ h => h.2⟩ (by omega)
        rw [← ivs_set]
        simpa using ba3
      | false =>
        have hfl := R.v.child (List.mem_of_getElem? hp)
        have DK2 := DK.child R hir hp
        rw [← eav] at DK2
        refine fldA ?_
        refine ld (.bool false) (B20.cell rfl) ?_
        refine drawP (.take 0 (.take 1 (.take 2 (.take 3 (.take 4 (.take 5 (.take 6 (.bar (.eff 7 .done))))))))) [7] (fun y => y = z2) mx (by kernel_rfl) rfl ?_
        refine ld (.func (.func 25) #[] #[ptr b3, ptr b6]) (q10.cell rfl) ?_
        refine fldA ?_
        refine ld (iv (f : Int)) (B20.cell rfl) ?_
        refine idx j rfl (by omega) ?_
        refine ld (iv av) (hcy2 0 _ rfl) ?_
        refine barS (fun _ => True) trivial ?_
        refine call_of (c_denter (r := f) qr q3 q6 bhz (by omega) (by omega : f < n1) (by omega)) ?_
        rintro _ z3 ⟨rfl, bh3, k3⟩
        refine strS trivial ?_
        refine arI (by omega) ?_
        exact next (j + 1) ⟨by rw [Int.natCast_add]; rfl, trivial⟩ ⟨by omega, _, aw2, DK2, bh3, baz.kept k3 (by omega), (kz.then xz2 fun _ _ _ => trivial).then k3 fun b _ h => h.1⟩ (by omega)
    · have DD := DK.done (by omega)
      refine roundN' _ lz (fun z1 k1' l1' => ?_)
      have lbz1 := bhz.lt
      have lbz2 := baz.lt
      have lbz3 := bmz.lt
      refine .inl ⟨rfl, ⟨hd2, aw2, _, DD, bhz.kept k1' (by omega), baz.kept k1' (by omega), bmz.kept k1' (by omega), l1'⟩, (ku8.then kz fun b _ h => ⟨h.1, h.2.1⟩).then k1' fun b _ h => h.2.2.2⟩
  · rintro _ u (⟨⟨hd', aw, mk, Dv, bhu, bau, bmu, lu⟩, ku⟩ | h)
    · subst hRR
      rw [← lr] at Dv
      have DV := Dv.all
      refine range_end _ lu (by simp) (fun u1 k1 => ?_)
      have ll' := lu.lt
      have ku1 : Kept (fun b => b ≠ bh ∧ b ≠ ba ∧ b ≠ bm ∧ b ≠ w10.heap.size + 1) w11 u1 := ku.then k1 fun b _ h => h.2.2.2
      have q6 := B6.kept ku1 ⟨by omega, by omega, by omega, by omega⟩
      have bh1 := bhu.kept k1 (by omega)
      have ba1 := bau.kept k1 (by omega)
      have bm1 := bmu.kept k1 (by omega)
      have lb61 := q6.lt
      refine ldA [.slice (some (ad bh 0)) n1 n1, .slice (some (ad ba 0)) n2 n2, .slice (some (ad bm 0)) n1 n1] (.blk q6) rfl ?_
      refine stA (vs := [.slice (some (ad bh 0)) n1 n1, .slice (some (ad ba 0)) n2 n2, .slice (some (ad bm 0)) n1 n1]) q6 rfl (Nat.le_of_ble_eq_true rfl) (by simp [Value.oneCell']) (fun u2 q62 k2 z2 => ?_)
      have q62 : Blk u2 b6 37 [.slice (some (ad bh 0)) n1 n1, .slice (some (ad ba 0)) n2 n2, .slice (some (ad bm 0)) n1 n1] := q62
      have z05 := x05.size
      have z09 := x09.size
      have zku1 := ku1.size
      have hD2 : u2.heap[w10.heap.size]? = some (.deferred (some [])) := ((k2.blk _ (by omega) (by omega)).trans (ku1.blk _ (by omega) ⟨by omega, by omega, by omega, by omega⟩)).trans hD11
      refine retM hD2 ?_
      have k3 := Kept.putObj u2 w10.heap.size (.deferred none)
      refine resL _ (holds_agg (CellsAt.blk (q62.kept k3 (by omega))) rfl) ?_
      have xF : Ext w (u2.putObj w10.heap.size (.deferred none)) := ((x0B.then ku1 fun b hb _ => ⟨by omega, by omega, by omega, by omega⟩).then k2 fun b hb _ => by omega).then k3 fun b hb _ => by omega
      refine ⟨xF, .inr ⟨eo, hs, hd', aw, mk, bh, ba, bm, hne, R, DV, Dv.oh, Dv.oa, by rw [lr, lf]; rfl, (bh1.kept k2 (by omega)).kept k3 (by omega), (ba1.kept k2 (by omega)).kept k3 (by omega), (bm1.kept k2 (by omega)).kept k3 (by omega), by omega, by omega, by omega⟩⟩
    · exact h.elim
end
end Go.Proofs.Ytmjcaclakggafaa
