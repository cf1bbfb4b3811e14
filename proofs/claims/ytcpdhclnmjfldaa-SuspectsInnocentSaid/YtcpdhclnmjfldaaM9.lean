/- Parts of the proof: S6 S7 S8 S9 Sa Za. -/
import Derived.Test.YtcpdhclnmjfldaaM8
import Derived.Test.YtcpdhclnmjfldaaM3
import Derived.Test.YtcpdhclnmjfldaaM5
import Derived.Test.YtcpdhclnmjfldaaRows
import Derived.Stop.LaidErr

/- Layer 49: contracts of Contains, Has, chosen, Smallest, Blame. -/
namespace Go.Proofs.Ytcpdhclnmjfldaa
open Go Go.RowKit

theorem mem_take_succ {α : Type} {l : List α} {k : Nat} {y x : α} (hy : l[k]? = some y) : x ∈ l.take (k + 1) ↔ x ∈ l.take k ∨ x = y := by
  rw [List.take_add_one, hy, List.mem_append]; simp
section
variable {D : Nat → Prop} {w : World}
theorem c_indexI {l : List Int} {x : Int} {A : Option Addr} {n c : Nat} (h : SlR tInt D w A n l) : CallZ Try.prog 48 #[.slice A n c, iv x] w (fun v w' => (∃ i : Int, v = iv i ∧ (0 ≤ i ↔ x ∈ l)) ∧ w' = w) := by
  have hl := h.len
  refine fn_rule (args := [.slice A n c, iv x]) Try.func48 (by kernel_rfl) ?_
  have hle := h.le
  refine len ?_
  refine loop_rule (fun k : Nat => [(8, iv (k : Int))]) (fun k u => k ≤ n ∧ w = u ∧ x ∉ l.take k) (fun k _ => n - k) 0 ⟨rfl, trivial⟩ ⟨by omega, rfl, by simp⟩ rfl ?_
  rintro G k u ⟨hk, rfl, hno⟩
  refine cD (fun hlt => ?_) (fun hge => ?_)
  · have hlt : k < n := by omega
    obtain ⟨b, o, cs, y, rfl, hy, -, -, hc, rfl, -⟩ := h.at_ hlt
    refine idx k rfl hlt ?_
    refine ld (iv y) (hc 0 _ rfl) ?_
    refine cE (fun e => ?_) (fun e => ?_)
    · exact ret1 (iv (k : Int)) rfl ⟨⟨_, rfl, fun _ => by rw [e]; exact List.mem_of_getElem? hy, fun _ => by omega⟩, rfl⟩
    · refine arI (by omega) ?_
      exact next (k + 1) ⟨by rw [Int.natCast_add]; rfl, trivial⟩ ⟨by omega, rfl, fun hm => by
        rcases (mem_take_succ hy).1 hm with h | h
        · exact hno h
        · exact e h⟩ (by omega)
  · rw [List.take_of_length_le (by omega)] at hno
    exact ret1 (iv (-1)) rfl ⟨⟨_, rfl, fun h => by omega, fun h => absurd h hno⟩, rfl⟩
theorem c_containsI {l : List Int} {x : Int} {A : Option Addr} {n c : Nat} (h : SlR tInt D w A n l) : CallZ Try.prog 33 #[.slice A n c, iv x] w (fun v w' => v = .bool (decide (x ∈ l)) ∧ w' = w) := by
  refine fn_rule (args := [.slice A n c, iv x]) Try.func33 (by kernel_rfl) ?_
  refine call_of (c_indexI h) ?_
  rintro _ _ ⟨⟨i, rfl, hi⟩, rfl⟩
  refine cD (fun g => ?_) (fun g => ?_)
  · exact ret1 (.bool true) rfl ⟨by rw [decide_eq_true (hi.1 (by omega))], rfl⟩
  · exact ret1 (.bool false) rfl ⟨by rw [decide_eq_false fun h => absurd (hi.2 h) (by omega)], rfl⟩
theorem c_r49Has {l : List Int} {x : Int} {A : Option Addr} {n c : Nat} (h : SlR tInt D w A n l) : CallZ Try.prog 9 #[.slice A n c, iv x] w (fun v w' => v = .bool (decide (x ∈ l)) ∧ w' = w) := by
  have hl := h.len
  have hle := h.le
  refine fn_rule (args := [.slice A n c, iv x]) Try.func9 (by kernel_rfl) ?_
  refine loop_rule (fun k : Nat => [(5, iv (k : Int))]) (fun k u => k ≤ n ∧ w = u ∧ x ∉ l.take k) (fun k _ => n - k) 0 ⟨rfl, trivial⟩ ⟨by omega, rfl, by simp⟩ rfl ?_
  rintro G k u ⟨hk, rfl, hno⟩
  refine len ?_
  refine cD (fun hlt => ?_) (fun hge => ?_)
  · have hlt : k < n := by omega
    obtain ⟨b, o, cs, y, rfl, hy, -, -, hc, rfl, -⟩ := h.at_ hlt
    refine idx k rfl hlt ?_
    refine ld (iv y) (hc 0 _ rfl) ?_
    refine cE (fun e => ?_) (fun e => ?_)
    · exact ret1 (.bool true) rfl ⟨by rw [decide_eq_true (by rw [← e]; exact List.mem_of_getElem? hy)], rfl⟩
    · refine arI (by omega) ?_
      exact next (k + 1) ⟨by rw [Int.natCast_add]; rfl, trivial⟩ ⟨by omega, rfl, fun hm => by
        rcases (mem_take_succ hy).1 hm with h | h
        · exact hno h
        · exact e h.symm⟩ (by omega)
  · rw [List.take_of_length_le (by omega)] at hno
    exact ret1 (.bool false) rfl ⟨by rw [decide_eq_false hno], rfl⟩
/-- A cell of a list of lists. -/
theorem OwnL.cell {w0 : World} {A : Option Addr} {n c : Nat} {s : List Hd} (h : OwnL w0 w A n c s) {k : Nat} (hk : k < n) : ∃ g hd, A = some (ad g 0) ∧ s[k]? = some hd ∧ w.cell? (ad g (0 + k * 1)) = some hd.v ∧ HdI w0 w hd := by
  have hn := h.len
  rcases h.own.form with ⟨-, rfl, -⟩ | ⟨g, rfl, -⟩
  · omega
  · obtain ⟨rest, hB, -⟩ := Own.blk h.own.own
    obtain ⟨hd, hhd⟩ : ∃ hd, s[k]? = some hd := ⟨_, List.getElem?_eq_getElem (by omega : k < s.length)⟩
    refine ⟨g, hd, rfl, hhd, ?_, h.hds hd (List.mem_of_getElem? hhd)⟩
    rw [Nat.zero_add, Nat.mul_one]
    exact hB.cell (by rw [List.getElem?_append_left (by rw [List.length_map]; omega), List.getElem?_map, hhd]; rfl)
set_option maxRecDepth 4000 in
theorem c_chosenL {w0 : World} {f : FuncId} [he : Enters Try.prog f] {cv : Value} {A : Option Addr} {n c : Nat} {s : List Hd} (p : List Int → Bool) (o : OwnL w0 w A n c s) (hn : n ≤ 100000)
    (hp : ∀ u (h : Hd), Ext w u → HdI w0 u h → CallZ Try.prog f #[h.v, cv] u (fun v w' => v = .bool (p h.l) ∧ w' = u)) :
    CallZ Try.prog 29 #[.slice A n c, .func (.func f) #[] #[cv]] w (fun v w' => ∃ A' n' c', v = .slice A' n' c' ∧ OwnF w w' A' n' c' 36 1 ((s.filter fun h => p h.l).map Hd.v) ∧ n' ≤ n) := by
  have hln := o.len
  refine fn_rule (args := [.slice A n c, .func (.func f) #[] #[cv]]) Try.func29 (by kernel_rfl) ?_
  refine len ?_
  refine loop4 (fun (k : Nat) (B : Option Addr) (m e : Nat) => [(9, iv (k : Int)), (4, .slice B m e)]) (fun k B m e u => k ≤ n ∧ m ≤ k ∧ OwnF w u B m e 36 1 (((s.take k).filter fun h => p h.l).map Hd.v)) (fun k _ _ _ _ => n - k) 0 none 0 0 ⟨rfl, rfl, trivial⟩ ⟨by omega, Nat.le_refl _, OwnF.nil (.refl _ _)⟩ rfl ?_
  rintro G k B m e u ⟨hk, hm, q⟩
  refine cD (fun hlt => ?_) (fun hge => ?_)
  · have hlt : k < n := by omega
    obtain ⟨g, hd, rfl, hhd, hc, hI⟩ := o.cell hlt
    have htk : s.take (k + 1) = s.take k ++ [hd] := by rw [List.take_add_one, hhd]; rfl
    refine idx k rfl hlt ?_
    refine ld hd.v (q.ext.cell hc trivial) ?_
    have hI' := hI.ext q.ext
    refine call_of (hp u hd q.ext hI') ?_
    rintro _ _ ⟨rfl, rfl⟩
    cases hb : p hd.l with
    | true =>
      refine lit [hd.v] (fun gg u1 hq => ?_)
      refine appF (q.then hq.ext) (hq.src (sz := 1) rfl) (by omega) (fun B' e' u2 q2 kk hA => ?_)
      refine arI (by omega) ?_
      refine next4 (k + 1) B' (m + 1) e' ⟨by rw [Int.natCast_add]; rfl, rfl, trivial⟩ ⟨by omega, by omega, ?_⟩ (by omega)
      rw [htk, List.filter_append, List.map_append, show [hd].filter (fun h => p h.l) = [hd] by simp [hb]]
      exact q2
    | false =>
      refine arI (by omega) ?_
      refine next4 (k + 1) B m e ⟨by rw [Int.natCast_add]; rfl, rfl, trivial⟩ ⟨by omega, by omega, ?_⟩ (by omega)
      rw [htk, List.filter_append, List.map_append, show [hd].filter (fun h => p h.l) = [] by simp [hb]]
      simpa using q
  · rw [List.take_of_length_le (by omega)] at q
    exact ret1 (.slice B m e) rfl ⟨B, m, e, rfl, q, by omega⟩
theorem c_sSmall1 {b : Nat} {k : Int} {A : Option Addr} {n c : Nat} (hb : Blk w b 3 [iv k]) (_h : n ≤ 140737488355328) : CallZ Try.prog 30 #[.slice A n c, ptr b] w (fun v w' => v = .bool (decide ((n : Int) = k)) ∧ w' = w) := by
  refine fn_rule (args := [.slice A n c, ptr b]) Try.func30 (by kernel_rfl) ?_
  refine len ?_
  refine ld (iv k) (hb.cell rfl) ?_
  refine cE (fun g => ?_) (fun g => ?_)
  · exact ret1 (.bool true) rfl ⟨by rw [decide_eq_true g], rfl⟩
  · exact ret1 (.bool false) rfl ⟨by rw [decide_eq_false g], rfl⟩
theorem c_sBlame1 {b : Nat} {k : Int} {A : Option Addr} {n c : Nat} {l : List Int} (hb : Blk w b 3 [iv k]) (h : SlR tInt D w A n l) : CallZ Try.prog 32 #[.slice A n c, ptr b] w (fun v w' => v = .bool (decide (k ∈ l)) ∧ w' = w) := by
  refine fn_rule (args := [.slice A n c, ptr b]) Try.func32 (by kernel_rfl) ?_
  refine ld (iv k) (hb.cell rfl) ?_
  refine call_of (c_containsI h) ?_
  rintro _ _ ⟨rfl, rfl⟩
  exact ret1 (.bool (decide (k ∈ l))) rfl ⟨rfl, rfl⟩
theorem min_len {d : Dist} {x : Ev} : (minSets d x).length ≤ 4096 := by
  by_cases h : evErr d x = 0
  · obtain ⟨-, -, hS⟩ := ev_sizes h
    have h1 : (minSets d x).length = (minL (tableV d x) x.suspects.length).length := by
      unfold minSets minV; exact (putsS_ok (minL_nodup table_le2)).1.length_eq
    have h2 : (minL (tableV d x) x.suspects.length).length ≤ (tableV d x).length := by
      unfold minL
      rw [List.length_map]
      have := List.length_filter_le (minB (tableV d x) x.suspects.length) (List.range (tableV d x).length)
      rw [List.length_range] at this; exact this
    have h3 := table_len h
    have h4 : 2 ^ x.suspects.length ≤ 4096 := Nat.le_trans (Nat.pow_le_pow_right (by omega) hS) (by decide)
    omega
  · rw [minSets_err h]; simp
theorem min_mem_len {d : Dist} {x : Ev} {l : List Int} (hl : l ∈ minSets d x) : l.length ≤ 12 ∧ ∀ v ∈ l, 0 ≤ v ∧ v < x.suspects.length := by
  obtain ⟨n, -, -, rfl⟩ := mem_min.1 hl
  have he := (min_expl hl).1
  obtain ⟨-, -, hS⟩ := ev_sizes he
  have := members_len n x.suspects.length
  exact ⟨by omega, members_bound n _⟩
set_option maxRecDepth 8000 in
theorem c_sSmallest {csd csx : List Value} {d : Dist} {x : Ev} (hd : DiR D w csd d) (hx : EvR D w csx x) : CallZ Try.prog 13 #[.agg csd.toArray, .agg csx.toArray] w
    (fun v w' => ∃ A n c s, v = .tuple #[.slice A n c, iv (evErr d x)] ∧ OwnL w w' A n c s ∧ s.map (·.l) = smallV x.suspects.length (minSets d x)) := by
  have hd := hd.more (D' := fun _ => True) fun _ _ _ => trivial
  have hx := hx.more (D' := fun _ => True) fun _ _ _ => trivial
  obtain ⟨A1, n1, c1, A2, n2, c2, A3, n3, c3, A4, n4, c4, A5, n5, c5, A6, n6, c6, rfl, -⟩ := hd.ex
  obtain ⟨W1, m1, e1, S1, m2, e2, rfl, hwv, hsu, -⟩ := hx.ex
  have lsu := hsu.len
  refine fn_rule (args := [.agg #[.string d.name, iv d.hours, iv d.cap, iv d.start, .slice A1 n1 c1, .slice A2 n2 c2, .slice A3 n3 c3, .slice A4 n4 c4, .slice A5 n5 c5, .slice A6 n6 c6], .agg #[.slice W1 m1 e1, .slice S1 m2 e2]]) Try.func13 (by kernel_rfl) ?_
  refine box (fun bd w1 h1 => ?_)
  refine box (fun bx w2 h2 => ?_)
  have x2 := h1.ext.trans h2.ext
  have Bd : Blk w2 bd 31 [.string d.name, iv d.hours, iv d.cap, iv d.start, .slice A1 n1 c1, .slice A2 n2 c2, .slice A3 n3 c3, .slice A4 n4 c4, .slice A5 n5 c5, .slice A6 n6 c6] := h1.blk.ext h2.ext
  have Bx : Blk w2 bx 35 [.slice W1 m1 e1, .slice S1 m2 e2] := h2.blk
  refine ldA [.string d.name, iv d.hours, iv d.cap, iv d.start, .slice A1 n1 c1, .slice A2 n2 c2, .slice A3 n3 c3, .slice A4 n4 c4, .slice A5 n5 c5, .slice A6 n6 c6] (.blk Bd) rfl ?_
  refine ldA [.slice W1 m1 e1, .slice S1 m2 e2] (.blk Bx) rfl ?_
  refine call_of (c_sMinimal (hd.ext x2) (hx.ext x2)) ?_
  rintro _ w3 ⟨A, n, c, s, rfl, o, hs⟩
  have x3 := x2.trans o.own.ext
  have Bx := Bx.ext o.own.ext
  obtain ⟨e, he⟩ : ∃ e, e = evErr d x := ⟨_, rfl⟩
  rw [← he]
  refine cN (fun g => ?_) (fun g => ?_)
  · exact ret2 (.slice none 0 0) (iv e) rfl rfl ⟨none, 0, 0, [], rfl, OwnL.nil x3, by rw [minSets_err (by rw [← he]; exact g)]; rfl⟩
  have hln := o.len
  have hml := min_len (d := d) (x := x)
  have hml2 : n = (minSets d x).length := by rw [← hs, List.length_map]; exact hln
  have hev : evErr d x = 0 := by rw [← he]; exact g
  obtain ⟨-, -, hS⟩ := ev_sizes hev
  refine fldA ?_
  refine ld (.slice S1 m2 e2) (Bx.cell rfl) ?_
  refine len ?_
  refine alloc (fun bf w4 h4 => ?_)
  refine st1 h4.blk rfl (fun w5 B5 k5 => ?_)
  have a4 := h4.at_
  have x35 : Ext w3 w5 := h4.ext.then k5 fun b hb _ => by omega
  have o5 := o.ext x35
  refine len ?_
  refine loop_rule (fun k : Nat => [(23, iv (k : Int))]) (fun k u => k ≤ n ∧ Kept (fun b => b ≠ bf) w5 u ∧ ∃ m : Nat, Blk u bf 3 [iv (m : Int)] ∧ m = ((minSets d x).take k).foldl (fun m l => min m l.length) x.suspects.length) (fun k _ => n - k) 0 ⟨rfl, trivial⟩ ⟨by omega, .refl _ _, m2, B5, by rw [List.take_zero]; exact lsu.symm⟩ rfl ?_
  rintro G k u ⟨hk, ku, m, Bm, hm⟩
  have xu : Ext w3 u := x35.then ku fun b hb _ => by omega
  refine cD (fun hlt => ?_) (fun hge => ?_)
  · have hlt : k < n := by omega
    obtain ⟨g', hh, rfl, hhd, hc, hI⟩ := o.cell hlt
    have hmk : (minSets d x)[k]? = some hh.l := by rw [← hs, List.getElem?_map, hhd]; rfl
    have hhl := (min_mem_len (List.mem_of_getElem? hmk)).1
    have hll := hI.rd.len
    refine idx k rfl hlt ?_
    refine ld hh.v (xu.cell hc trivial) ?_
    refine ld (iv (m : Int)) (Bm.cell rfl) ?_
    refine len ?_
    refine st1 Bm rfl (fun u1 B1 k1 => ?_)
    refine arI (by omega) ?_
    refine next (k + 1) ⟨by rw [Int.natCast_add]; rfl, trivial⟩ ⟨by omega, ku.trans k1, min m hh.l.length, ?_, ?_⟩ (by omega)
    · have : min (m : Int) (hh.n : Int) = ((min m hh.l.length : Nat) : Int) := by rw [hll]; omega
      rw [← this]; exact B1
    · rw [List.take_add_one, hmk, List.foldl_append, ← hm]; rfl
  · rw [List.take_of_length_le (by omega)] at hm
    refine call_of (c_chosenL (fun l => decide (l.length = m)) (o.ext xu) (by omega) (fun u' h xu' hI => ?_)) ?_
    · refine (c_sSmall1 (k := (m : Int)) (Bm.ext xu') (hI.rd.le)).mono ?_
      rintro v _ ⟨rfl, rfl⟩
      refine ⟨?_, rfl⟩
      have := hI.rd.len
      rw [this]
      congr 1
      exact decide_eq_decide.2 (by omega)
    rintro _ w7 ⟨A', n', c', rfl, o', hn'⟩
    refine ret2 (.slice A' n' c') (iv 0) rfl rfl ⟨A', n', c', _, by rw [g], ⟨o'.base (x3.trans xu), fun h hh => (((o.hds h (List.mem_filter.1 hh).1).base x2.size).ext xu).ext o'.ext⟩, ?_⟩
    unfold smallV
    rw [← hm, ← hs, List.filter_map]
    rfl
set_option maxRecDepth 8000 in
theorem c_sBlame {csd csx : List Value} {d : Dist} {x : Ev} {k : Int} (hd : DiR D w csd d) (hx : EvR D w csx x) : CallZ Try.prog 15 #[.agg csd.toArray, .agg csx.toArray, iv k] w
    (fun v w' => ∃ A n c, v = .tuple #[.slice A n c, .bool (if 0 ≤ k ∧ k < x.suspects.length then (blameV d x k).isSome else false), iv (if evErr d x ≠ 0 then evErr d x else if 0 ≤ k ∧ k < x.suspects.length then 0 else 1)] ∧ Ext w w' ∧
      SlR tInt (fun b => w.heap.size ≤ b) w' A n (if 0 ≤ k ∧ k < x.suspects.length then (blameV d x k).getD [] else [])) := by
  have hd := hd.more (D' := fun _ => True) fun _ _ _ => trivial
  have hx := hx.more (D' := fun _ => True) fun _ _ _ => trivial
  obtain ⟨A1, n1, c1, A2, n2, c2, A3, n3, c3, A4, n4, c4, A5, n5, c5, A6, n6, c6, rfl, -⟩ := hd.ex
  obtain ⟨W1, m1, e1, S1, m2, e2, rfl, hwv, hsu, -⟩ := hx.ex
  have lsu := hsu.len
  refine fn_rule (args := [.agg #[.string d.name, iv d.hours, iv d.cap, iv d.start, .slice A1 n1 c1, .slice A2 n2 c2, .slice A3 n3 c3, .slice A4 n4 c4, .slice A5 n5 c5, .slice A6 n6 c6], .agg #[.slice W1 m1 e1, .slice S1 m2 e2], iv k]) Try.func15 (by kernel_rfl) ?_
  refine box (fun bd w1 h1 => ?_)
  refine box (fun bx w2 h2 => ?_)
  refine box (fun bk w2' h2' => ?_)
  have x2 := (h1.ext.trans h2.ext).trans h2'.ext
  have Bd : Blk w2' bd 31 [.string d.name, iv d.hours, iv d.cap, iv d.start, .slice A1 n1 c1, .slice A2 n2 c2, .slice A3 n3 c3, .slice A4 n4 c4, .slice A5 n5 c5, .slice A6 n6 c6] := h1.blk.ext (h2.ext.trans h2'.ext)
  have Bx : Blk w2' bx 35 [.slice W1 m1 e1, .slice S1 m2 e2] := h2.blk.ext h2'.ext
  have Bk : Blk w2' bk 3 [iv k] := h2'.blk
  refine ldA [.string d.name, iv d.hours, iv d.cap, iv d.start, .slice A1 n1 c1, .slice A2 n2 c2, .slice A3 n3 c3, .slice A4 n4 c4, .slice A5 n5 c5, .slice A6 n6 c6] (.blk Bd) rfl ?_
  refine ldA [.slice W1 m1 e1, .slice S1 m2 e2] (.blk Bx) rfl ?_
  refine call_of (c_sMinimal (hd.ext x2) (hx.ext x2)) ?_
  rintro _ w3 ⟨A, n, c, s, rfl, o, hs⟩
  have x3 := x2.trans o.own.ext
  have Bx := Bx.ext o.own.ext
  have Bk := Bk.ext o.own.ext
  obtain ⟨e, he⟩ : ∃ e, e = evErr d x := ⟨_, rfl⟩
  rw [← he]
  refine cN (fun g => ?_) (fun g => ?_)
  · have hb : blameV d x k = none := by unfold blameV; rw [minSets_err (by rw [← he]; exact g)]; rfl
    exact ret3 (.slice none 0 0) (.bool false) (iv e) rfl rfl rfl ⟨none, 0, 0, by rw [if_pos g, hb]; simp, x3, by rw [hb]; simp; exact .nil⟩
  have e0 : ¬ e ≠ 0 := fun h => h g
  have no : ¬ (0 ≤ k ∧ k < x.suspects.length) → ∃ A n c, Value.tuple #[.slice none 0 0, .bool false, iv 1] = .tuple #[.slice A n c, .bool (if 0 ≤ k ∧ k < x.suspects.length then (blameV d x k).isSome else false), iv (if e ≠ 0 then e else if 0 ≤ k ∧ k < x.suspects.length then 0 else 1)] ∧ Ext w w3 ∧
      SlR tInt (fun b => w.heap.size ≤ b) w3 A n (if 0 ≤ k ∧ k < x.suspects.length then (blameV d x k).getD [] else []) := fun h => ⟨none, 0, 0, by rw [if_neg e0, if_neg h, if_neg h], x3, by rw [if_neg h]; exact .nil⟩
  refine ld (iv k) (Bk.cell rfl) ?_
  refine cD (fun g1 => ?_) (fun g1 => ?_)
  · exact ret3 (.slice none 0 0) (.bool false) (iv 1) rfl rfl rfl (no (by omega))
  refine ld (iv k) (Bk.cell rfl) ?_
  refine fldA ?_
  refine ld (.slice S1 m2 e2) (Bx.cell rfl) ?_
  refine len ?_
  refine cD (fun g2 => ?_) (fun g2 => ?_)
  · exact ret3 (.slice none 0 0) (.bool false) (iv 1) rfl rfl rfl (no (by omega))
  have hk : 0 ≤ k ∧ k < x.suspects.length := by omega
  rw [if_neg e0, if_pos hk, if_pos hk, if_pos hk]
  have hml := min_len (d := d) (x := x)
  have hml2 : n = (minSets d x).length := by rw [← hs, List.length_map]; exact o.len
  refine call_of (c_chosenL (fun l => decide (k ∈ l)) o (by omega) (fun u' h xu' hI => ?_)) ?_
  · exact c_sBlame1 (Bk.ext xu') hI.rdT
  rintro _ w7 ⟨A', n', c', rfl, o', hn'⟩
  have hbl : blameV d x k = ((s.filter fun h => decide (k ∈ h.l)).map (·.l))[0]? := by
    unfold blameV
    rw [← List.head?_filter, ← hs, List.filter_map, List.head?_eq_getElem?]
    rfl
  have oL : OwnL w w7 A' n' c' (s.filter fun h => decide (k ∈ h.l)) := ⟨o'.base x3, fun h hh => ((o.hds h (List.mem_filter.1 hh).1).base x2.size).ext o'.ext⟩
  have hlen := oL.len
  refine len ?_
  refine cD (fun g3 => ?_) (fun g3 => ?_)
  · obtain ⟨g', hh, rfl, hhd, hc, hI⟩ := oL.cell (show 0 < n' by omega)
    refine idx 0 rfl (by omega) ?_
    refine ld hh.v hc ?_
    have hb : blameV d x k = some hh.l := by rw [hbl, List.getElem?_map, hhd]; rfl
    exact ret3 hh.v (.bool true) (iv 0) rfl rfl rfl ⟨hh.A, hh.n, hh.c, by rw [hb]; rfl, x3.trans o'.ext, by rw [hb]; exact hI.rdN⟩
  · have hb : blameV d x k = none := by
      rw [hbl, List.getElem?_map, List.getElem?_eq_none (by omega)]; rfl
    exact ret3 (.slice none 0 0) (.bool false) (iv 0) rfl rfl rfl ⟨none, 0, 0, by rw [hb]; rfl, x3.trans o'.ext, by rw [hb]; exact .nil⟩
end
end Go.Proofs.Ytcpdhclnmjfldaa

/- Layer 49: contracts of counted, Named, Needed. -/
namespace Go.Proofs.Ytcpdhclnmjfldaa
open Go Go.RowKit

theorem count_nodup {L : List (List Int)} {i : Int} (h : ∀ l ∈ L, l.Nodup) : L.flatten.count i = cntS L i := by
  unfold cntS
  induction L with
  | nil => rfl
  | cons l L ih =>
    have h1 := h l List.mem_cons_self
    have h2 := ih fun x hx => h x (List.mem_cons_of_mem _ hx)
    rw [List.flatten_cons, List.count_append, h2]
    by_cases hi : i ∈ l
    · rw [List.filter_cons_of_pos (by simpa using hi), List.length_cons, h1.count, if_pos hi]; omega
    · rw [List.filter_cons_of_neg (by simpa using hi), List.count_eq_zero.2 hi]; omega
theorem min_nodup {d : Dist} {x : Ev} {l : List Int} (hl : l ∈ minSets d x) : l.Nodup := by
  obtain ⟨n, -, -, rfl⟩ := mem_min.1 hl
  have := (setB_iff49.1 (members_set (n := n) (S := x.suspects.length))).2
  exact this.imp fun {a b} h => by omega
section
variable {D : Nat → Prop} {w : World}
set_option maxRecDepth 4000 in
theorem c_chosenI {f : FuncId} [he : Enters Try.prog f] {cv1 cv2 cv3 : Value} {A : Option Addr} {n c : Nat} {l : List Int} (p : Int → Bool) (o : SlR tInt D w A n l) (hn : n ≤ 100000)
    (hp : ∀ u (i : Int), Ext w u → i ∈ l → CallZ Try.prog f #[iv i, cv1, cv2, cv3] u (fun v w' => v = .bool (p i) ∧ w' = u)) :
    CallZ Try.prog 42 #[.slice A n c, .func (.func f) #[] #[cv1, cv2, cv3]] w (fun v w' => ∃ A' n' c', v = .slice A' n' c' ∧ OwnF w w' A' n' c' 3 1 ((l.filter p).map fun k => .int .i64 k) ∧ n' ≤ n) := by
  have hln := o.len
  refine fn_rule (args := [.slice A n c, .func (.func f) #[] #[cv1, cv2, cv3]]) Try.func42 (by kernel_rfl) ?_
  refine len ?_
  refine loop4 (fun (k : Nat) (B : Option Addr) (m e : Nat) => [(9, iv (k : Int)), (4, .slice B m e)]) (fun k B m e u => k ≤ n ∧ m ≤ k ∧ OwnF w u B m e 3 1 (((l.take k).filter p).map fun k => .int .i64 k)) (fun k _ _ _ _ => n - k) 0 none 0 0 ⟨rfl, rfl, trivial⟩ ⟨by omega, Nat.le_refl _, OwnF.nil (.refl _ _)⟩ rfl ?_
  rintro G k B m e u ⟨hk, hm, q⟩
  refine cD (fun hlt => ?_) (fun hge => ?_)
  · have hlt : k < n := by omega
    obtain ⟨g, ofs, cs, i, rfl, hhd, -, -, hc, rfl, -⟩ := o.at_ hlt
    have htk : l.take (k + 1) = l.take k ++ [i] := by rw [List.take_add_one, hhd]; rfl
    refine idx k rfl hlt ?_
    refine ld (iv i) (q.ext.cell (hc 0 _ rfl) trivial) ?_
    refine call_of (hp u i q.ext (List.mem_of_getElem? hhd)) ?_
    rintro _ _ ⟨rfl, rfl⟩
    cases hb : p i with
    | true =>
      refine lit [iv i] (fun gg u1 hq => ?_)
      refine appF (q.then hq.ext) (hq.src (sz := 1) rfl) (by omega) (fun B' e' u2 q2 kk hA => ?_)
      refine arI (by omega) ?_
      refine next4 (k + 1) B' (m + 1) e' ⟨by rw [Int.natCast_add]; rfl, rfl, trivial⟩ ⟨by omega, by omega, ?_⟩ (by omega)
      rw [htk, List.filter_append, List.map_append, show [i].filter p = [i] by simp [hb]]
      exact q2
    | false =>
      refine arI (by omega) ?_
      refine next4 (k + 1) B m e ⟨by rw [Int.natCast_add]; rfl, rfl, trivial⟩ ⟨by omega, by omega, ?_⟩ (by omega)
      rw [htk, List.filter_append, List.map_append, show [i].filter p = [] by simp [hb]]
      simpa using q
  · rw [List.take_of_length_le (by omega)] at q
    exact ret1 (.slice B m e) rfl ⟨B, m, e, rfl, q, by omega⟩
set_option maxRecDepth 8000 in
theorem c_scounted {f : FuncId} [he : Enters Try.prog f] {csd csx : List Value} {d : Dist} {x : Ev} (q : Nat → Nat → Bool) (hd : DiR D w csd d) (hx : EvR D w csx x)
    (hq : ∀ u (a b : Nat), CallZ Try.prog f #[iv (a : Int), iv (b : Int)] u (fun v w' => v = .bool (q a b) ∧ w' = u)) : CallZ Try.prog 21 #[.agg csd.toArray, .agg csx.toArray, .func (.func f) #[] #[]] w
    (fun v w' => ∃ A n c, v = .tuple #[.slice A n c, iv (evErr d x)] ∧ OwnF w w' A n c 3 1 ((if evErr d x = 0 then ((List.range x.suspects.length).filter fun i : Nat => q (cntS (minSets d x) i) (minSets d x).length).map fun i : Nat => (i : Int) else []).map fun k => .int .i64 k)) := by
  have hd := hd.more (D' := fun _ => True) fun _ _ _ => trivial
  have hx := hx.more (D' := fun _ => True) fun _ _ _ => trivial
  obtain ⟨A1, n1, c1, A2, n2, c2, A3, n3, c3, A4, n4, c4, A5, n5, c5, A6, n6, c6, rfl, -⟩ := hd.ex
  obtain ⟨W1, m1, e1, S1, m2, e2, rfl, hwv, hsu, -⟩ := hx.ex
  have lsu := hsu.len
  refine fn_rule (args := [.agg #[.string d.name, iv d.hours, iv d.cap, iv d.start, .slice A1 n1 c1, .slice A2 n2 c2, .slice A3 n3 c3, .slice A4 n4 c4, .slice A5 n5 c5, .slice A6 n6 c6], .agg #[.slice W1 m1 e1, .slice S1 m2 e2], .func (.func f) #[] #[]]) Try.func21 (by kernel_rfl) ?_
  refine box (fun bd w1 h1 => ?_)
  refine box (fun bx w2 h2 => ?_)
  refine box (fun bf w2' h2' => ?_)
  have x2 := (h1.ext.trans h2.ext).trans h2'.ext
  have Bd : Blk w2' bd 31 [.string d.name, iv d.hours, iv d.cap, iv d.start, .slice A1 n1 c1, .slice A2 n2 c2, .slice A3 n3 c3, .slice A4 n4 c4, .slice A5 n5 c5, .slice A6 n6 c6] := h1.blk.ext (h2.ext.trans h2'.ext)
  have Bx : Blk w2' bx 35 [.slice W1 m1 e1, .slice S1 m2 e2] := h2.blk.ext h2'.ext
  have Bf : Blk w2' bf _ [.func (.func f) #[] #[]] := h2'.blk
  refine ldA [.string d.name, iv d.hours, iv d.cap, iv d.start, .slice A1 n1 c1, .slice A2 n2 c2, .slice A3 n3 c3, .slice A4 n4 c4, .slice A5 n5 c5, .slice A6 n6 c6] (.blk Bd) rfl ?_
  refine ldA [.slice W1 m1 e1, .slice S1 m2 e2] (.blk Bx) rfl ?_
  refine call_of (c_sMinimal (hd.ext x2) (hx.ext x2)) ?_
  rintro _ w3 ⟨A, n, c, s, rfl, o, hs⟩
  have x3 := x2.trans o.own.ext
  have Bx := Bx.ext o.own.ext
  have Bf := Bf.ext o.own.ext
  refine alloc (fun b8 w4 h4 => ?_)
  refine st1 h4.blk rfl (fun w5 B8 k5 => ?_)
  have a4 := h4.at_
  have x35 : Ext w3 w5 := h4.ext.then k5 fun b hb _ => by omega
  have x05 := x3.trans x35
  have Bx := Bx.ext x35
  have Bf := Bf.ext x35
  have lx5 := Bx.lt
  have lf5 := Bf.lt
  have o := o.ext x35
  obtain ⟨e, he'⟩ : ∃ e, e = evErr d x := ⟨_, rfl⟩
  rw [← he']
  refine cN (fun g => ?_) (fun g => ?_)
  · exact ret2 (.slice none 0 0) (iv e) rfl rfl ⟨none, 0, 0, rfl, by rw [if_neg g]; exact OwnF.nil x05⟩
  rw [if_pos g]
  have hev : evErr d x = 0 := by rw [← he']; exact g
  obtain ⟨-, -, hS⟩ := ev_sizes hev
  have hln := o.len
  have hml := min_len (d := d) (x := x)
  have hml2 : n = (minSets d x).length := by rw [← hs, List.length_map]; exact hln
  refine mmap (fun gm v1 hgm hv1 => ?_)
  have xv1 : Ext w5 v1 := by rw [hv1]; exact Kept.alloc _ _ _
  have M1 : MapFn .i64 v1 gm (fun _ => none) := by rw [hv1, hgm]; exact MapFn.new .i64 w5
  refine alloc (fun b9 w6 h6 => ?_)
  refine st1 h6.blk rfl (fun w7 B9 k7 => ?_)
  have a6 := h6.at_
  have x67 : Ext v1 w7 := h6.ext.then k7 fun b hb _ => by omega
  have M7 := M1.kept x67 trivial
  have x57 := xv1.trans x67
  have B8 := B8.ext x57
  have Bx := Bx.ext x57
  have Bf := Bf.ext x57
  have o7 := o.ext x57
  have lgm := M1.lt
  have l8 := B8.lt
  have lx := Bx.lt
  have lf := Bf.lt
  have gm8 : gm = w5.heap.size := hgm
  have z5 := x35.size
  have l8' : b8 < w5.heap.size := by have := k5.size; have := h4.size; omega
  refine ld (.slice A n c) (B8.cell rfl) ?_
  refine len ?_
  refine loop_rule (fun k : Nat => [(27, iv (k : Int))]) (fun k u => k ≤ n ∧ Kept (fun b => b ≠ gm) w7 u ∧ ∃ F, MapFn .i64 u gm F ∧ ∀ i, (F i).getD (iv 0) = iv (((((minSets d x).take k).flatten.count i : Nat)) : Int)) (fun k _ => n - k) 0 ⟨rfl, trivial⟩ ⟨by omega, .refl _ _, _, M7, fun i => rfl⟩ rfl ?_
  rintro G k u ⟨hk, ku, F, MF, hF⟩
  have xu : Ext w5 u := x57.then ku fun b hb _ => by omega
  refine cD (fun hlt => ?_) (fun hge => ?_)
  · have hlt : k < n := by omega
    obtain ⟨g', ⟨Ah, nh, ch, lh⟩, rfl, hhd, hc, hI⟩ := o.cell hlt
    have hc : u.cell? (ad g' (0 + k * 1)) = some (.slice Ah nh ch) := xu.cell hc trivial
    have hI : HdI w2' w5 ⟨Ah, nh, ch, lh⟩ := hI
    have hmk : (minSets d x)[k]? = some lh := by rw [← hs, List.getElem?_map, hhd]; rfl
    obtain ⟨hhl, hhb⟩ := min_mem_len (List.mem_of_getElem? hmk)
    have hll : lh.length = nh := hI.rd.len
    have htk : ((minSets d x).take (k + 1)).flatten = ((minSets d x).take k).flatten ++ lh := by rw [List.take_add_one, hmk, List.flatten_append]; simp
    refine idx k rfl hlt ?_
    refine ld (.slice Ah nh ch) hc ?_
    refine len ?_
    refine loop_rule (fun j : Nat => [(33, iv (j : Int))]) (fun j z => j ≤ nh ∧ Kept (fun b => b ≠ gm) u z ∧ ∃ F, MapFn .i64 z gm F ∧ ∀ i, (F i).getD (iv 0) = iv ((((((minSets d x).take k).flatten ++ lh.take j).count i : Nat)) : Int)) (fun j _ => nh - j) 0 ⟨rfl, trivial⟩ ⟨by omega, .refl _ _, F, MF, fun i => by rw [hF, List.take_zero, List.append_nil]⟩ rfl ?_
    rintro G2 j z ⟨hj, kz, F2, MF2, hF2⟩
    have hcnt : ∀ i, (((minSets d x).take k).flatten ++ lh.take j).count i ≤ 60000 := fun i => by
      refine Nat.le_trans List.count_le_length ?_
      rw [List.length_append, List.length_flatten]
      have h1 : ∀ (L : List (List Int)), (∀ l ∈ L, l.length ≤ 12) → (L.map List.length).sum ≤ 12 * L.length := by
        intro L
        induction L with
        | nil => intro _; simp
        | cons l L ih => intro h; have := h l List.mem_cons_self; have := ih fun x hx => h x (List.mem_cons_of_mem _ hx); simp only [List.map_cons, List.sum_cons, List.length_cons]; omega
      have h2 := h1 ((minSets d x).take k) fun l hl => (min_mem_len (List.mem_of_mem_take hl)).1
      have h3 := List.length_take_le k (minSets d x)
      have h4 := List.length_take_le j lh
      have h5 := List.length_take_le' k (minSets d x)
      have h6 := List.length_take_le' j lh
      omega
    refine cD (fun hltj => ?_) (fun hgej => ?_)
    · have hltj : j < nh := by omega
      have kk : Kept (fun b => b ≠ gm) w7 z := ku.trans kz
      have xz : Ext w5 z := x57.then kk fun b hb _ => by omega
      have B9 := B9.kept kk (by omega)
      obtain ⟨b', o', cs, i, rfl, hi, -, -, hc', rfl, -⟩ := (show SlR tInt (fun _ => True) z Ah nh lh from (hI.ext xz).rdT).at_ hltj
      have htj : lh.take (j + 1) = lh.take j ++ [i] := by rw [List.take_add_one, hi]; rfl
      have hcn := hcnt i
      refine idx j rfl hltj ?_
      refine ld (iv i) (hc' 0 _ rfl) ?_
      refine ld (.map (some gm)) (B9.cell rfl) ?_
      refine look1 (f := F2) (iv ((((((minSets d x).take k).flatten ++ lh.take j).count i : Nat)) : Int)) (fun y hy => by subst hy; exact MF2) (hF2 i) ?_
      refine arI (by omega) ?_
      refine mupd MF2 (fun z2 M2 k2 zz2 => ?_)
      have M2 : MapFn .i64 z2 gm (fset F2 i (iv ((((((minSets d x).take k).flatten ++ lh.take j).count i : Nat) : Int) + 1))) := M2
      refine arI (by omega) ?_
      refine next (j + 1) ⟨by rw [Int.natCast_add]; rfl, trivial⟩ ⟨by omega, kz.trans k2, _, M2, fun i' => ?_⟩ (by omega)
      unfold fset
      have key : ∀ i', (((minSets d x).take k).flatten ++ lh.take j ++ [i]).count i' = (((minSets d x).take k).flatten ++ lh.take j).count i' + [i].count i' := fun _ => List.count_append
      rw [htj, ← List.append_assoc, key]
      by_cases hii : i' = i
      · rw [if_pos hii, hii, show List.count i [i] = 1 by simp]; rfl
      · rw [if_neg hii, hF2 i', show List.count i' [i] = 0 from List.count_eq_zero.2 (by simpa using hii)]; rfl
    · refine arI (by omega) ?_
      have etk : lh.take j = lh := List.take_of_length_le (by omega)
      refine next (k + 1) ⟨by rw [Int.natCast_add]; rfl, trivial⟩ ⟨by omega, ku.trans kz, F2, MF2, fun i => by rw [hF2, htk, etk]⟩ (by omega)
  · have hF : ∀ i, (F i).getD (iv 0) = iv ((cntS (minSets d x) i : Nat) : Int) := fun i => by
      rw [hF, List.take_of_length_le (by omega), count_nodup fun l hl => min_nodup hl]
    have Bx := Bx.kept ku (by omega)
    have Bf := Bf.kept ku (by omega)
    have B8 := B8.kept ku (by omega)
    have B9 := B9.kept ku (by omega)
    refine fldA ?_
    refine ld (.slice S1 m2 e2) (Bx.cell rfl) ?_
    refine len ?_
    refine loop4 (fun (k : Nat) (B : Option Addr) (m e : Nat) => [(46, iv (k : Int)), (6, .slice B m e)]) (fun k B m e z => k ≤ m2 ∧ m ≤ k ∧ OwnF u z B m e 3 1 (((List.range k).map fun i : Nat => (i : Int)).map fun k => .int .i64 k)) (fun k _ _ _ _ => m2 - k) 0 none 0 0 ⟨rfl, rfl, trivial⟩ ⟨by omega, Nat.le_refl _, OwnF.nil (.refl _ _)⟩ rfl ?_
    rintro G2 k2 B m e' z ⟨hk2, hm, oz⟩
    refine cD (fun hltk => ?_) (fun hgek => ?_)
    · have hltk : k2 < m2 := by omega
      refine lit [iv (k2 : Int)] (fun gg u1 hq1 => ?_)
      refine appF (oz.then hq1.ext) (hq1.src (sz := 1) rfl) (by omega) (fun B' e2' u2 q2 kk hA => ?_)
      refine arI (by omega) ?_
      refine next4 (k2 + 1) B' (m + 1) e2' ⟨by rw [Int.natCast_add]; rfl, rfl, trivial⟩ ⟨by omega, by omega, ?_⟩ (by omega)
      rw [List.range_succ, List.map_append, List.map_append]
      exact q2
    obtain rfl : k2 = m2 := by omega
    have zz := oz.ext
    have MF := MF.kept zz trivial
    have Bf := Bf.ext zz
    have B8 := B8.ext zz
    have B9 := B9.ext zz
    have hi12 : k2 ≤ 12 := by rw [← lsu]; exact hS
    have si := oz.ints (D := fun _ => True) (fun v hv => by obtain ⟨i, hi, rfl⟩ := List.mem_map.1 hv; have := List.mem_range.1 hi; unfold I64; omega) (by omega) fun _ _ => trivial
    refine call_of (c_chosenI (f := 43) (cv1 := ptr bf) (cv2 := ptr b9) (cv3 := ptr b8) (fun i => q (cntS (minSets d x) i) (minSets d x).length) si (by omega) (fun u' i xu' hi => ?_)) ?_
    · refine fn_rule (args := [iv i, ptr bf, ptr b9, ptr b8]) Try.func43 (by kernel_rfl) ?_
      refine ld (.func (.func f) #[] #[]) ((Bf.ext xu').cell rfl) ?_
      refine ld (.map (some gm)) ((B9.ext xu').cell rfl) ?_
      refine look1 (f := F) (iv ((cntS (minSets d x) i : Nat) : Int)) (fun y hy => by subst hy; exact MF.kept xu' trivial) (hF i) ?_
      refine ld (.slice A n c) ((B8.ext xu').cell rfl) ?_
      refine len ?_
      refine call_of (hq u' (cntS (minSets d x) i) n) ?_
      rintro _ _ ⟨rfl, rfl⟩
      exact ret1 (.bool _) rfl ⟨by rw [hml2], rfl⟩
    rintro _ w8 ⟨A', n', c', rfl, o', hn'⟩
    have xe : Ext w z := (x05.trans (x57.then ku fun b hb _ => by omega)).trans zz
    refine ret2 (.slice A' n' c') (iv 0) rfl rfl ⟨A', n', c', by rw [g], ?_⟩
    have := o'.base xe
    rw [List.filter_map] at this
    rw [lsu]
    exact this
theorem c_sNamed {csd csx : List Value} {d : Dist} {x : Ev} (hd : DiR D w csd d) (hx : EvR D w csx x) : CallZ Try.prog 8 #[.agg csd.toArray, .agg csx.toArray] w
    (fun v w' => ∃ A n c, v = .tuple #[.slice A n c, iv (evErr d x)] ∧ OwnF w w' A n c 3 1 ((namedV d x).map fun k => .int .i64 k)) := by
  obtain ⟨A1, n1, c1, A2, n2, c2, A3, n3, c3, A4, n4, c4, A5, n5, c5, A6, n6, c6, rfl, -⟩ := hd.ex
  obtain ⟨W1, m1, e1, S1, m2, e2, rfl, -⟩ := hx.ex
  refine fn_rule (args := [.agg #[.string d.name, iv d.hours, iv d.cap, iv d.start, .slice A1 n1 c1, .slice A2 n2 c2, .slice A3 n3 c3, .slice A4 n4 c4, .slice A5 n5 c5, .slice A6 n6 c6], .agg #[.slice W1 m1 e1, .slice S1 m2 e2]]) Try.func8 (by kernel_rfl) ?_
  refine box (fun bd w1 h1 => ?_)
  refine box (fun bx w2 h2 => ?_)
  have x2 := h1.ext.trans h2.ext
  have Bd : Blk w2 bd 31 [.string d.name, iv d.hours, iv d.cap, iv d.start, .slice A1 n1 c1, .slice A2 n2 c2, .slice A3 n3 c3, .slice A4 n4 c4, .slice A5 n5 c5, .slice A6 n6 c6] := h1.blk.ext h2.ext
  have Bx : Blk w2 bx 35 [.slice W1 m1 e1, .slice S1 m2 e2] := h2.blk
  refine ldA [.string d.name, iv d.hours, iv d.cap, iv d.start, .slice A1 n1 c1, .slice A2 n2 c2, .slice A3 n3 c3, .slice A4 n4 c4, .slice A5 n5 c5, .slice A6 n6 c6] (.blk Bd) rfl ?_
  refine ldA [.slice W1 m1 e1, .slice S1 m2 e2] (.blk Bx) rfl ?_
  refine call_of (c_scounted (f := 22) (fun a _ => decide (0 < a)) (hd.ext x2) (hx.ext x2) (fun u a b => ?_)) ?_
  · refine fn_rule (args := [iv (a : Int), iv (b : Int)]) Try.func22 (by kernel_rfl) ?_
    refine cD (fun h => ?_) (fun h => ?_)
    · exact ret1 (.bool true) rfl ⟨by rw [decide_eq_true (by omega)], rfl⟩
    · exact ret1 (.bool false) rfl ⟨by rw [decide_eq_false (by omega)], rfl⟩
  rintro _ w3 ⟨A, n, c, rfl, o⟩
  refine ret2 (.slice A n c) (iv (evErr d x)) rfl rfl ⟨A, n, c, rfl, ?_⟩
  have e : (if evErr d x = 0 then ((List.range x.suspects.length).filter fun i : Nat => decide (0 < cntS (minSets d x) i)).map fun i : Nat => (i : Int) else []) = namedV d x := by
    by_cases h : evErr d x = 0
    · rw [if_pos h]; rfl
    · rw [if_neg h]
      unfold namedV
      rw [minSets_err h]
      rw [List.filter_eq_nil_iff.2 fun i _ => by simp [cntS]]; rfl
  rw [e] at o
  exact o.base x2
theorem c_sNeeded {csd csx : List Value} {d : Dist} {x : Ev} (hd : DiR D w csd d) (hx : EvR D w csx x) : CallZ Try.prog 14 #[.agg csd.toArray, .agg csx.toArray] w
    (fun v w' => ∃ A n c, v = .tuple #[.slice A n c, iv (evErr d x)] ∧ OwnF w w' A n c 3 1 ((neededV d x).map fun k => .int .i64 k)) := by
  obtain ⟨A1, n1, c1, A2, n2, c2, A3, n3, c3, A4, n4, c4, A5, n5, c5, A6, n6, c6, rfl, -⟩ := hd.ex
  obtain ⟨W1, m1, e1, S1, m2, e2, rfl, -⟩ := hx.ex
  refine fn_rule (args := [.agg #[.string d.name, iv d.hours, iv d.cap, iv d.start, .slice A1 n1 c1, .slice A2 n2 c2, .slice A3 n3 c3, .slice A4 n4 c4, .slice A5 n5 c5, .slice A6 n6 c6], .agg #[.slice W1 m1 e1, .slice S1 m2 e2]]) Try.func14 (by kernel_rfl) ?_
  refine box (fun bd w1 h1 => ?_)
  refine box (fun bx w2 h2 => ?_)
  have x2 := h1.ext.trans h2.ext
  have Bd : Blk w2 bd 31 [.string d.name, iv d.hours, iv d.cap, iv d.start, .slice A1 n1 c1, .slice A2 n2 c2, .slice A3 n3 c3, .slice A4 n4 c4, .slice A5 n5 c5, .slice A6 n6 c6] := h1.blk.ext h2.ext
  have Bx : Blk w2 bx 35 [.slice W1 m1 e1, .slice S1 m2 e2] := h2.blk
  refine ldA [.string d.name, iv d.hours, iv d.cap, iv d.start, .slice A1 n1 c1, .slice A2 n2 c2, .slice A3 n3 c3, .slice A4 n4 c4, .slice A5 n5 c5, .slice A6 n6 c6] (.blk Bd) rfl ?_
  refine ldA [.slice W1 m1 e1, .slice S1 m2 e2] (.blk Bx) rfl ?_
  refine call_of (c_scounted (f := 31) (fun a b => decide (0 < a) && decide (a = b)) (hd.ext x2) (hx.ext x2) (fun u a b => ?_)) ?_
  · refine fn_rule (args := [iv (a : Int), iv (b : Int)]) Try.func31 (by kernel_rfl) ?_
    refine cD (fun h => ?_) (fun h => ?_)
    · refine cE (fun h2 => ?_) (fun h2 => ?_)
      · exact ret1 (.bool true) rfl ⟨by rw [decide_eq_true (by omega), decide_eq_true (by omega)]; rfl, rfl⟩
      · exact ret1 (.bool false) rfl ⟨by rw [decide_eq_true (by omega), decide_eq_false (by omega)]; rfl, rfl⟩
    · exact ret1 (.bool false) rfl ⟨by rw [decide_eq_false (by omega)]; rfl, rfl⟩
  rintro _ w3 ⟨A, n, c, rfl, o⟩
  refine ret2 (.slice A n c) (iv (evErr d x)) rfl rfl ⟨A, n, c, rfl, ?_⟩
  have e : (if evErr d x = 0 then ((List.range x.suspects.length).filter fun i : Nat => decide (0 < cntS (minSets d x) i) && decide (cntS (minSets d x) i = (minSets d x).length)).map fun i : Nat => (i : Int) else []) = neededV d x := by
    by_cases h : evErr d x = 0
    · rw [if_pos h]; rfl
    · rw [if_neg h]
      unfold neededV
      rw [minSets_err h]
      rw [List.filter_eq_nil_iff.2 fun i _ => by simp [cntS]]; rfl
  rw [e] at o
  exact o.base x2
end
end Go.Proofs.Ytcpdhclnmjfldaa

/- Layer 49: the laws' examples. -/
namespace Go.Proofs.Ytcpdhclnmjfldaa
open Go Go.RowKit

def cD49 : Dist := ⟨ByteArray.empty, 4, 0, 0, [⟨ByteArray.empty, -1, 1, 50, 50, 0, ⟨0, 0⟩, ⟨0, 1⟩, ⟨0, 1⟩⟩], [⟨ByteArray.empty, 0, 0, -1⟩], [], [], [], []⟩
def mX49 : Ev := ⟨[⟨0, [⟨10, 10⟩], [⟨4, 4⟩], [⟨3, 3⟩]⟩], [⟨1, 0, 20⟩, ⟨2, 0, 6⟩, ⟨4, 0, 2⟩]⟩
def nX49 : Ev := ⟨[], []⟩
theorem sv0 : evErr cD49 mX49 = 0 := by kernel_rfl
theorem sv1 : minSets cD49 mX49 = [[0], [1, 2]] := by kernel_rfl
theorem sv2 : smallV 3 (minSets cD49 mX49) = [[0]] := by kernel_rfl
theorem sv3 : namedV cD49 mX49 = [0, 1, 2] := by kernel_rfl
theorem sv4 : neededV cD49 mX49 = [] := by kernel_rfl
theorem sv5 : blameV cD49 mX49 2 = some [1, 2] := by kernel_rfl
theorem sv6 : minSets cD49 nX49 = [[]] := by kernel_rfl
theorem sv7 : evErr cD49 nX49 = 0 := by kernel_rfl
section
variable {w : World}
set_option maxRecDepth 4000 in
theorem c_scanal : CallZ Try.prog 11 #[] w (fun v w' => Ext w w' ∧ ∃ csd, v = .agg csd.toArray ∧ DiR (fun b => w.heap.size ≤ b) w' csd cD49) := by
  refine fn_rule (args := []) Try.func11 (by kernel_rfl) ?_
  refine alloc (fun q1 w1 h1 => ?_)
  refine bld [iv 0, iv 1] (by kernel_rfl) ?_
  refine bld [iv 0, iv 1] (by kernel_rfl) ?_
  refine bld [iv 0, iv 1, iv 0, iv 1] (by kernel_rfl) ?_
  refine bld [.string ByteArray.empty, iv (-1), iv 1, iv 50, iv 50, iv 0, iv 0, iv 0, iv 0, iv 1, iv 0, iv 1] (by kernel_rfl) ?_
  refine alloc (fun q2 w2 h2 => ?_)
  refine stA (vs := [.string ByteArray.empty, iv (-1), iv 1, iv 50, iv 50, iv 0, iv 0, iv 0, iv 0, iv 1, iv 0, iv 1]) h2.blk rfl (Nat.le_of_ble_eq_true rfl) (by simp [Value.oneCell']) (fun w3 b3 k3 s3 => ?_)
  have y1 := h1.at_
  have y2 := h2.at_
  have z1 := h1.size
  have z2 := h2.size
  have m3 : Blk w3 q2 _ [.string ByteArray.empty, iv (-1), iv 1, iv 50, iv 50, iv 0, iv 0, iv 0, iv 0, iv 1, iv 0, iv 1] := b3
  refine ldA [.string ByteArray.empty, iv (-1), iv 1, iv 50, iv 50, iv 0, iv 0, iv 0, iv 0, iv 1, iv 0, iv 1] (CellsAt.blk m3) rfl ?_
  refine lit [.agg #[.string ByteArray.empty, iv (-1), iv 1, iv 50, iv 50, iv 0, iv 0, iv 0, iv 0, iv 1, iv 0, iv 1]] (fun q4 w4 h4 => ?_)
  refine bld [.string ByteArray.empty, iv 0, iv 0, iv (-1)] (by kernel_rfl) ?_
  refine lit [.agg #[.string ByteArray.empty, iv 0, iv 0, iv (-1)]] (fun q5 w5 h5 => ?_)
  refine bld [.string ByteArray.empty, iv 4, iv 0, iv 0, .slice (some (ad q4 0)) 1 1, .slice (some (ad q5 0)) 1 1, .slice none 0 0, .slice none 0 0, .slice none 0 0, .slice none 0 0] (by kernel_rfl) ?_
  have y4 := h4.at_
  have z4 := h4.size
  have y5 := h5.at_
  have z5 := h5.size
  have e15 : Kept (fun b => b ≠ q2) w1 w5 := (((Ext.any h2.ext).then k3 fun b _ h => h).then h4.ext fun _ _ _ => trivial).then h5.ext fun _ _ _ => trivial
  refine stA (vs := [.string ByteArray.empty, iv 4, iv 0, iv 0, .slice (some (ad q4 0)) 1 1, .slice (some (ad q5 0)) 1 1, .slice none 0 0, .slice none 0 0, .slice none 0 0, .slice none 0 0]) (h1.blk.kept e15 (by omega)) rfl (Nat.le_of_ble_eq_true rfl) (by simp [Value.oneCell']) (fun w6 b6 k6 s6 => ?_)
  have m1 : Blk w6 q1 _ [.string ByteArray.empty, iv 4, iv 0, iv 0, .slice (some (ad q4 0)) 1 1, .slice (some (ad q5 0)) 1 1, .slice none 0 0, .slice none 0 0, .slice none 0 0, .slice none 0 0] := b6
  refine ret ?_
  refine resL _ (holds_agg (CellsAt.blk m1) rfl) ?_
  refine ⟨(h1.ext.then e15 fun b hb _ => by omega).then k6 fun b hb _ => by omega, _, rfl, DiR.of_ ⟨_, _, _, _, _, _, _, _, _, _, _, _, _, _, _, _, _, _, rfl, ?_, ?_, SlR.nil, SlR.nil, SlR.nil, SlR.nil⟩⟩
  · exact SlR.of_cells rfl (by decide) (by omega) (.blk ((h4.blk.ext h5.ext).kept k6 (by omega))) ⟨_, _, rfl, rfl, rfl⟩
  · exact SlR.of_cells rfl (by decide) (by omega) (.blk (h5.blk.kept k6 (by omega))) ⟨_, _, rfl, rfl, rfl⟩
theorem c_sexactly {n : Int} : CallZ Try.prog 28 #[iv n] w (fun v w' => ∃ g, v = .slice (some (ad g 0)) 1 1 ∧ Ext w w' ∧ w.heap.size ≤ g ∧ SlR tRg (fun b => w.heap.size ≤ b) w' (some (ad g 0)) 1 [⟨n, n⟩]) := by
  refine fn_rule (args := [iv n]) Try.func28 (by kernel_rfl) ?_
  refine bld [iv n, iv n] (by kernel_rfl) ?_
  refine lit [.agg #[iv n, iv n]] (fun g w1 h1 => ?_)
  have a1 := h1.at_
  exact ret1 (.slice (some (ad g 0)) 1 1) rfl ⟨g, rfl, h1.ext, by omega, SlR.of_cells rfl (by decide) (by omega) (.blk h1.blk) ⟨_, _, rfl, rfl, rfl⟩⟩
set_option maxRecDepth 4000 in
theorem c_smissing : CallZ Try.prog 12 #[] w (fun v w' => Ext w w' ∧ ∃ csx, v = .agg csx.toArray ∧ EvR (fun b => w.heap.size ≤ b) w' csx mX49) := by
  refine fn_rule (args := []) Try.func12 (by kernel_rfl) ?_
  refine alloc (fun q1 w1 h1 => ?_)
  refine call_of c_sexactly ?_
  rintro _ w2 ⟨g2, rfl, x2, hg2, s2⟩
  refine call_of c_sexactly ?_
  rintro _ w3 ⟨g3, rfl, x3, hg3, s3⟩
  refine call_of c_sexactly ?_
  rintro _ w4 ⟨g4, rfl, x4, hg4, s4⟩
  have y1 := h1.at_
  have z1 := h1.size
  have z2 := x2.size
  have z3 := x3.size
  have z4 := x4.size
  refine bld [iv 0, .slice (some (ad g2 0)) 1 1, .slice (some (ad g3 0)) 1 1, .slice (some (ad g4 0)) 1 1] (by kernel_rfl) ?_
  refine alloc (fun q5 w5 h5 => ?_)
  refine stA (vs := [iv 0, .slice (some (ad g2 0)) 1 1, .slice (some (ad g3 0)) 1 1, .slice (some (ad g4 0)) 1 1]) h5.blk rfl (Nat.le_of_ble_eq_true rfl) (by simp [Value.oneCell']) (fun w6 b6 k6 s6 => ?_)
  have y5 := h5.at_
  have z5 := h5.size
  have m6 : Blk w6 q5 _ [iv 0, .slice (some (ad g2 0)) 1 1, .slice (some (ad g3 0)) 1 1, .slice (some (ad g4 0)) 1 1] := b6
  refine ldA [iv 0, .slice (some (ad g2 0)) 1 1, .slice (some (ad g3 0)) 1 1, .slice (some (ad g4 0)) 1 1] (CellsAt.blk m6) rfl ?_
  refine lit [.agg #[iv 0, .slice (some (ad g2 0)) 1 1, .slice (some (ad g3 0)) 1 1, .slice (some (ad g4 0)) 1 1]] (fun q7 w7 h7 => ?_)
  refine bld [iv 1, iv 0, iv 20] (by kernel_rfl) ?_
  refine bld [iv 2, iv 0, iv 6] (by kernel_rfl) ?_
  refine bld [iv 4, iv 0, iv 2] (by kernel_rfl) ?_
  refine lit [.agg #[iv 1, iv 0, iv 20], .agg #[iv 2, iv 0, iv 6], .agg #[iv 4, iv 0, iv 2]] (fun q8 w8 h8 => ?_)
  refine bld [.slice (some (ad q7 0)) 1 1, .slice (some (ad q8 0)) 3 3] (by kernel_rfl) ?_
  have y7 := h7.at_
  have z7 := h7.size
  have y8 := h8.at_
  have z8 := h8.size
  have x46 : Ext w4 w6 := h5.ext.then k6 fun b hb _ => by omega
  have x48 : Ext w4 w8 := x46.trans (h7.ext.trans h8.ext)
  have x18 : Ext w1 w8 := ((x2.trans x3).trans x4).trans x48
  refine stA (vs := [.slice (some (ad q7 0)) 1 1, .slice (some (ad q8 0)) 3 3]) (h1.blk.ext x18) rfl (Nat.le_of_ble_eq_true rfl) (by simp [Value.oneCell']) (fun w9 b9 k9 s9 => ?_)
  have m1 : Blk w9 q1 _ [.slice (some (ad q7 0)) 1 1, .slice (some (ad q8 0)) 3 3] := b9
  refine ret ?_
  refine resL _ (holds_agg (CellsAt.blk m1) rfl) ?_
  have D' : ∀ {g : Nat} {l : List Rg} {u : World} (_ : w1.heap.size ≤ u.heap.size), SlR tRg (fun b => u.heap.size ≤ b) w8 (some (ad g 0)) 1 l → SlR tRg (fun b => w.heap.size ≤ b) w9 (some (ad g 0)) 1 l := fun hu h =>
    ((h.more (D' := fun b => w.heap.size ≤ b ∧ b ≠ q1) (by decide) fun b hb hD => ⟨by omega, by omega⟩).kept k9 fun b _ h => h.2).more (by decide) fun b _ h => h.1
  refine ⟨(h1.ext.trans x18).then k9 fun b hb _ => by omega, _, rfl, EvR.of_ ⟨_, _, _, _, _, _, rfl, ?_, ?_, Nat.le_refl _, Nat.le_refl _⟩⟩
  · exact SlR.of_cells rfl (by decide) (by omega) (.blk ((h7.blk.ext h8.ext).kept k9 (by omega))) ⟨[iv 0, .slice (some (ad g2 0)) 1 1, .slice (some (ad g3 0)) 1 1, .slice (some (ad g4 0)) 1 1], [], rfl, ⟨[iv 0], _, rfl, ⟨rfl, by unfold I64; decide⟩, _, _, rfl, ⟨_, _, _, rfl, D' (Nat.le_refl _) (((s2.ext x3).ext x4).ext x48), Nat.le_refl _⟩, _, _, rfl, ⟨_, _, _, rfl, D' (by omega) ((s3.ext x4).ext x48), Nat.le_refl _⟩, _, _, _, rfl, D' (by omega) (s4.ext x48), Nat.le_refl _⟩, rfl⟩
  · exact SlR.of_cells rfl (by decide) (by omega) (.blk (h8.blk.kept k9 (by omega))) ⟨_, _, rfl, rfl, _, _, rfl, rfl, _, _, rfl, rfl, rfl⟩
theorem c_r49Few {D : Nat → Prop} {csd csx : List Value} {d : Dist} {x : Ev} (hd : DiR D w csd d) (hx : EvR D w csx x) : CallZ Try.prog 6 #[.agg csd.toArray, .agg csx.toArray] w (fun v w' => ∃ b, v = .bool b ∧ Ext w w') := by
  obtain ⟨A1, n1, c1, A2, n2, c2, A3, n3, c3, A4, n4, c4, A5, n5, c5, A6, n6, c6, rfl, -⟩ := hd.ex
  obtain ⟨W1, m1, e1, S1, m2, e2, rfl, -⟩ := hx.ex
  refine fn_rule (args := [.agg #[.string d.name, iv d.hours, iv d.cap, iv d.start, .slice A1 n1 c1, .slice A2 n2 c2, .slice A3 n3 c3, .slice A4 n4 c4, .slice A5 n5 c5, .slice A6 n6 c6], .agg #[.slice W1 m1 e1, .slice S1 m2 e2]]) Try.func6 (by kernel_rfl) ?_
  refine box (fun bd w1 h1 => ?_)
  refine box (fun bx w2 h2 => ?_)
  have x2 := h1.ext.trans h2.ext
  refine ldA [.string d.name, iv d.hours, iv d.cap, iv d.start, .slice A1 n1 c1, .slice A2 n2 c2, .slice A3 n3 c3, .slice A4 n4 c4, .slice A5 n5 c5, .slice A6 n6 c6] (.blk (h1.blk.ext h2.ext)) rfl ?_
  refine ldA [.slice W1 m1 e1, .slice S1 m2 e2] (.blk h2.blk) rfl ?_
  refine call_of (c_r48Few (hd.ext x2) (hx.ext x2)) ?_
  rintro _ w3 ⟨b, rfl, x3⟩
  exact ret1 (.bool b) rfl ⟨b, rfl, x2.trans x3⟩
end
end Go.Proofs.Ytcpdhclnmjfldaa

/- Layer 49: the laws' sanity check. -/
namespace Go.Proofs.Ytcpdhclnmjfldaa
open Go Go.RowKit

section
variable {w : World}
theorem OwnL.at_ {w0 u : World} {A : Option Addr} {n c : Nat} {s : List Hd} {ls : List (List Int)} (h : OwnL w0 u A n c s) (hs : s.map (·.l) = ls) {k : Nat} {l : List Int} (hl : ls[k]? = some l) : ∃ g B m e, A = some (ad g 0) ∧ k < n ∧ u.cell? (ad g (0 + k * 1)) = some (.slice B m e) ∧ SlR tInt (fun _ => True) u B m l := by
  have hn := h.len
  have hk : k < ls.length := (List.getElem?_eq_some_iff.1 hl).1
  rw [← hs, List.length_map] at hk
  obtain ⟨g, hd, hA, hhd, hc, hI⟩ := h.cell (show k < n by omega)
  have : hd.l = l := by
    rw [← hs, List.getElem?_map, hhd] at hl
    injection hl
  exact ⟨g, hd.A, hd.n, hd.c, hA, by omega, hc, this ▸ hI.rdT⟩
theorem OwnL.cnt {w0 u : World} {A : Option Addr} {n c : Nat} {s : List Hd} {ls : List (List Int)} (h : OwnL w0 u A n c s) (hs : s.map (·.l) = ls) : n = ls.length := by rw [← hs, List.length_map]; exact h.len
theorem SlR.one {D : Nat → Prop} {u : World} {B : Option Addr} {m : Nat} {l : List Int} (h : SlR tInt D u B m l) {k : Nat} {x : Int} (hx : l[k]? = some x) : ∃ b o, B = some (ad b o) ∧ k < m ∧ u.cell? (ad b (o + k * 1)) = some (iv x) := by
  obtain ⟨b, o, cs, h1, -, h3, rfl, -⟩ := h.2.2 k x hx
  have := (List.getElem?_eq_some_iff.1 hx).1
  exact ⟨b, o, h1, by rw [h.1]; exact this, h3 0 _ rfl⟩
set_option maxRecDepth 8000 in
theorem c_ssane : CallZ Try.prog 5 #[] w (fun v w' => v = .bool true ∧ Ext w w') := by
  refine fn_rule (args := []) Try.func5 (by kernel_rfl) ?_
  refine call_of c_scanal ?_
  rintro _ w1 ⟨x1, csd, rfl, hd⟩
  refine call_of c_smissing ?_
  rintro _ w2 ⟨x2, csx, rfl, hx⟩
  have hd := (hd.ext x2).more (D' := fun _ => True) fun _ _ _ => trivial
  have hx := hx.more (D' := fun _ => True) fun _ _ _ => trivial
  obtain ⟨A1, n1, c1, A2, n2, c2, A3, n3, c3, A4, n4, c4, A5, n5, c5, A6, n6, c6, rfl, -⟩ := hd.ex
  obtain ⟨W1, m1, e1, S1, m2, e2, rfl, -⟩ := hx.ex
  refine alloc (fun b1 w3 h3 => ?_)
  refine alloc (fun b2 w4 h4 => ?_)
  have a3 := h3.at_
  have a4 := h4.at_
  have z3 := h3.size
  have z4 := h4.size
  refine stA (vs := [.string cD49.name, iv cD49.hours, iv cD49.cap, iv cD49.start, .slice A1 n1 c1, .slice A2 n2 c2, .slice A3 n3 c3, .slice A4 n4 c4, .slice A5 n5 c5, .slice A6 n6 c6]) (h3.blk.ext h4.ext) rfl (Nat.le_of_ble_eq_true rfl) (by simp [Value.oneCell']) (fun w5 Bd k5 s5 => ?_)
  refine stA (vs := [.slice W1 m1 e1, .slice S1 m2 e2]) (h4.blk.kept k5 (by omega)) rfl (Nat.le_of_ble_eq_true rfl) (by simp [Value.oneCell']) (fun w6 Bx k6 s6 => ?_)
  have Bd : Blk w6 b1 31 [.string cD49.name, iv cD49.hours, iv cD49.cap, iv cD49.start, .slice A1 n1 c1, .slice A2 n2 c2, .slice A3 n3 c3, .slice A4 n4 c4, .slice A5 n5 c5, .slice A6 n6 c6] := Blk.kept Bd k6 (by omega)
  have Bx : Blk w6 b2 35 [.slice W1 m1 e1, .slice S1 m2 e2] := Bx
  have x26 : Ext w2 w6 := ((h3.ext.trans h4.ext).then k5 fun b hb _ => by omega).then k6 fun b hb _ => by omega
  have X := (x1.trans x2).trans x26
  have hd := hd.ext x26
  have hx := hx.ext x26
  clear x1 x2 h3 h4 a3 a4 z3 z4 k5 k6 s5 s6 x26
  refine ldA [.string cD49.name, iv cD49.hours, iv cD49.cap, iv cD49.start, .slice A1 n1 c1, .slice A2 n2 c2, .slice A3 n3 c3, .slice A4 n4 c4, .slice A5 n5 c5, .slice A6 n6 c6] (.blk Bd) rfl ?_
  refine ldA [.slice W1 m1 e1, .slice S1 m2 e2] (.blk Bx) rfl ?_
  refine call_of (c_sMinimal hd hx) ?_
  rintro _ u1 ⟨LA, ln, lc, ls, rfl, ol, hl⟩
  rw [sv0]
  rw [sv1] at hl
  have y := ol.own.ext
  have X := X.trans y
  have hd := hd.ext y
  have hx := hx.ext y
  have Bd := Bd.ext y
  have Bx := Bx.ext y
  refine ldA [.string cD49.name, iv cD49.hours, iv cD49.cap, iv cD49.start, .slice A1 n1 c1, .slice A2 n2 c2, .slice A3 n3 c3, .slice A4 n4 c4, .slice A5 n5 c5, .slice A6 n6 c6] (.blk Bd) rfl ?_
  refine ldA [.slice W1 m1 e1, .slice S1 m2 e2] (.blk Bx) rfl ?_
  refine call_of (c_sSmallest hd hx) ?_
  rintro _ u2 ⟨FA, fn, fc, fs, rfl, of_, hf⟩
  rw [sv0]
  rw [show mX49.suspects.length = 3 from rfl, sv2] at hf
  have y := of_.own.ext
  have X := X.trans y
  have hd := hd.ext y
  have hx := hx.ext y
  have Bd := Bd.ext y
  have Bx := Bx.ext y
  have ol := ol.ext y
  refine ldA [.string cD49.name, iv cD49.hours, iv cD49.cap, iv cD49.start, .slice A1 n1 c1, .slice A2 n2 c2, .slice A3 n3 c3, .slice A4 n4 c4, .slice A5 n5 c5, .slice A6 n6 c6] (.blk Bd) rfl ?_
  refine ldA [.slice W1 m1 e1, .slice S1 m2 e2] (.blk Bx) rfl ?_
  refine call_of (c_sNamed hd hx) ?_
  rintro _ u3 ⟨NA, nn, nc, rfl, on⟩
  rw [sv0]
  rw [sv3] at on
  have y := on.ext
  have X := X.trans y
  have hd := hd.ext y
  have hx := hx.ext y
  have Bd := Bd.ext y
  have Bx := Bx.ext y
  have ol := ol.ext y
  have of_ := of_.ext y
  refine ldA [.string cD49.name, iv cD49.hours, iv cD49.cap, iv cD49.start, .slice A1 n1 c1, .slice A2 n2 c2, .slice A3 n3 c3, .slice A4 n4 c4, .slice A5 n5 c5, .slice A6 n6 c6] (.blk Bd) rfl ?_
  refine ldA [.slice W1 m1 e1, .slice S1 m2 e2] (.blk Bx) rfl ?_
  refine call_of (c_sNeeded hd hx) ?_
  rintro _ u4 ⟨MA, mn, mc, rfl, om⟩
  rw [sv0]
  rw [sv4] at om
  have y := om.ext
  have X := X.trans y
  have hd := hd.ext y
  have hx := hx.ext y
  have Bd := Bd.ext y
  have Bx := Bx.ext y
  have ol := ol.ext y
  have of_ := of_.ext y
  refine ldA [.string cD49.name, iv cD49.hours, iv cD49.cap, iv cD49.start, .slice A1 n1 c1, .slice A2 n2 c2, .slice A3 n3 c3, .slice A4 n4 c4, .slice A5 n5 c5, .slice A6 n6 c6] (.blk Bd) rfl ?_
  refine ldA [.slice W1 m1 e1, .slice S1 m2 e2] (.blk Bx) rfl ?_
  refine call_of (c_sBlame (k := 2) hd hx) ?_
  rintro _ u5 ⟨BA, bn, bc, rfl, y, ob⟩
  rw [show mX49.suspects.length = 3 from rfl, if_pos (by decide), sv5] at ob
  rw [sv0, show mX49.suspects.length = 3 from rfl, if_pos (by decide), if_neg (by simp), if_pos (by decide), sv5]
  have ob : SlR tInt (fun _ => True) u5 BA bn [1, 2] := ob.more (by decide) fun _ _ _ => trivial
  have X := X.trans y
  have hd := hd.ext y
  have hx := hx.ext y
  have Bd := Bd.ext y
  have Bx := Bx.ext y
  have ol := ol.ext y
  have of_ := of_.ext y
  refine ldA [.string cD49.name, iv cD49.hours, iv cD49.cap, iv cD49.start, .slice A1 n1 c1, .slice A2 n2 c2, .slice A3 n3 c3, .slice A4 n4 c4, .slice A5 n5 c5, .slice A6 n6 c6] (.blk Bd) rfl ?_
  refine ldA [.slice W1 m1 e1, .slice S1 m2 e2] (.blk Bx) rfl ?_
  refine call_of (c_sBlame (k := 3) hd hx) ?_
  rintro _ u6 ⟨BA', bn', bc', rfl, y, -⟩
  rw [sv0, show mX49.suspects.length = 3 from rfl, if_neg (by decide), if_neg (by simp), if_neg (by decide)]
  have X := X.trans y
  have hd := hd.ext y
  have Bd := Bd.ext y
  have ol := ol.ext y
  have of_ := of_.ext y
  have ob := ob.ext y
  refine ldA [.string cD49.name, iv cD49.hours, iv cD49.cap, iv cD49.start, .slice A1 n1 c1, .slice A2 n2 c2, .slice A3 n3 c3, .slice A4 n4 c4, .slice A5 n5 c5, .slice A6 n6 c6] (.blk Bd) rfl ?_
  refine bld [.slice none 0 0, .slice none 0 0] (by kernel_rfl) ?_
  refine call_of (c_sMinimal (x := nX49) (D := fun _ => True) (csx := [.slice none 0 0, .slice none 0 0]) hd (EvR.of_ ⟨_, _, _, _, _, _, rfl, .nil, .nil, Nat.le_refl _, Nat.le_refl _⟩)) ?_
  rintro _ u7 ⟨OA, on', oc, os, rfl, oo, ho⟩
  rw [sv7]
  rw [sv6] at ho
  have y := oo.own.ext
  have X := X.trans y
  have ol := ol.ext y
  have of_ := of_.ext y
  have ob := ob.ext y
  have hln := ol.cnt hl
  have hfn := of_.cnt hf
  have hon := oo.cnt ho
  have hnn := on.own.len
  have hmn := om.own.len
  have hbn := ob.len
  refine cN (fun h => absurd rfl h) (fun _ => ?_)
  refine cN (fun h => absurd rfl h) (fun _ => ?_)
  refine cN (fun h => absurd rfl h) (fun _ => ?_)
  refine cN (fun h => absurd rfl h) (fun _ => ?_)
  refine cN (fun h => absurd rfl h) (fun _ => ?_)
  refine cN (fun h => absurd rfl h) (fun _ => ?_)
  refine cN (fun h => absurd rfl h) (fun _ => ?_)
  have hnn : 3 = nn * 1 := hnn
  have hmn : 0 = mn * 1 := hmn
  have hln : ln = 2 := hln
  have hfn : fn = 1 := hfn
  have hon : on' = 1 := hon
  have hbn : 2 = bn := hbn
  obtain ⟨g0, B0, m0, e0, rfl, -, hc0, r0⟩ := ol.at_ hl (k := 0) (l := [0]) rfl
  obtain ⟨g0', B1, m1', e1', hg, -, hc1, r1⟩ := ol.at_ hl (k := 1) (l := [1, 2]) rfl
  obtain rfl : g0 = g0' := by injection hg with hg; injection hg
  obtain ⟨gf, Bf, mf, ef, rfl, -, hcf, rf⟩ := of_.at_ hf (k := 0) (l := [0]) rfl
  obtain ⟨go, Bo, mo, eo, rfl, -, hco, ro⟩ := oo.at_ ho (k := 0) (l := []) rfl
  have l0 := r0.len
  have l1 := r1.len
  have lo := ro.len
  have l0 : 1 = m0 := l0
  have l1 : 2 = m1' := l1
  have lo : 0 = mo := lo
  obtain ⟨_, _, rfl, -, v0⟩ := r0.one (k := 0) (x := 0) rfl
  obtain ⟨p1, q1, rfl, -, v1⟩ := r1.one (k := 0) (x := 1) rfl
  obtain ⟨p1', q1', hg, -, v2⟩ := r1.one (k := 1) (x := 2) rfl
  obtain ⟨rfl, rfl⟩ : p1 = p1' ∧ q1 = q1' := by injection hg with hg; injection hg with h1 h2; exact ⟨h1, h2⟩
  obtain ⟨_, _, rfl, -, v3⟩ := rf.one (k := 0) (x := 0) rfl
  obtain ⟨pb, qb, rfl, -, v4⟩ := ob.one (k := 0) (x := 1) rfl
  obtain ⟨pb', qb', hg, -, v5⟩ := ob.one (k := 1) (x := 2) rfl
  obtain ⟨rfl, rfl⟩ : pb = pb' ∧ qb = qb' := by injection hg with hg; injection hg with h1 h2; exact ⟨h1, h2⟩
  have lf : 1 = mf := rf.len
  refine len ?_
  refine cN (fun h => absurd (by omega) h) (fun _ => ?_)
  refine len ?_
  refine cN (fun h => absurd (by omega) h) (fun _ => ?_)
  refine len ?_
  refine cN (fun h => absurd (by omega) h) (fun _ => ?_)
  refine len ?_
  refine cN (fun h => absurd (by omega) h) (fun _ => ?_)
  refine len ?_
  refine cN (fun h => absurd (by omega) h) (fun _ => ?_)
  refine len ?_
  refine cN (fun h => absurd (by omega) h) (fun _ => ?_)
  refine idx 0 rfl (by omega) ?_
  refine ld _ hco ?_
  refine len ?_
  refine cN (fun h => absurd (by omega) h) (fun _ => ?_)
  refine idx 0 rfl (by omega) ?_
  refine ld _ hc0 ?_
  refine len ?_
  refine cE (fun _ => ?_) (fun h => absurd (by omega) h)
  refine idx 0 rfl (by omega) ?_
  refine ld _ hc0 ?_
  refine idx 0 rfl (by omega) ?_
  refine ld _ v0 ?_
  refine cE (fun _ => ?_) (fun h => absurd rfl h)
  refine idx 1 rfl (by omega) ?_
  refine ld _ hc1 ?_
  refine len ?_
  refine cE (fun _ => ?_) (fun h => absurd (by omega) h)
  refine idx 1 rfl (by omega) ?_
  refine ld _ hc1 ?_
  refine idx 0 rfl (by omega) ?_
  refine ld _ v1 ?_
  refine cE (fun _ => ?_) (fun h => absurd rfl h)
  refine idx 1 rfl (by omega) ?_
  refine ld _ hc1 ?_
  refine idx 1 rfl (by omega) ?_
  refine ld _ v2 ?_
  refine cE (fun _ => ?_) (fun h => absurd rfl h)
  refine idx 0 rfl (by omega) ?_
  refine ld _ hcf ?_
  refine idx 0 rfl (by omega) ?_
  refine ld _ v3 ?_
  refine cE (fun _ => ?_) (fun h => absurd rfl h)
  refine idx 0 rfl (by omega) ?_
  refine ld _ v4 ?_
  refine cE (fun _ => ?_) (fun h => absurd rfl h)
  refine idx 1 rfl (by omega) ?_
  refine ld _ v5 ?_
  refine cE (fun _ => ?_) (fun h => absurd rfl h)
  exact ret1 (.bool true) rfl ⟨rfl, X⟩
end
end Go.Proofs.Ytcpdhclnmjfldaa

/- Layer 49: the law SuspectsInnocent. -/
namespace Go.Proofs.Ytcpdhclnmjfldaa
open Go Go.RowKit

section
variable {D : Nat → Prop} {w : World}
set_option maxRecDepth 8000 in
theorem c_SuspectsInnocent {csd csx : List Value} {d : Dist} {x : Ev} {set : List Int} {AS : Option Addr} {nS cS : Nat} (hd : DiR D w csd d) (hx : EvR D w csx x) (hset : SlR tInt D w AS nS set) : CallZ Try.prog 3 #[.agg csd.toArray, .agg csx.toArray, .slice AS nS cS] w
    (fun v w' => v = .bool true ∧ Ext w w') := by
  have hd := hd.more (D' := fun _ => True) fun _ _ _ => trivial
  have hx := hx.more (D' := fun _ => True) fun _ _ _ => trivial
  have hset := hset.more (D' := fun _ => True) (by decide) fun _ _ _ => trivial
  obtain ⟨A1, n1, c1, A2, n2, c2, A3, n3, c3, A4, n4, c4, A5, n5, c5, A6, n6, c6, rfl, -⟩ := hd.ex
  obtain ⟨W1, m1, e1, S1, m2, e2, rfl, hwv, hsu, -⟩ := hx.ex
  have hsl := hset.len
  refine fn_rule (args := [.agg #[.string d.name, iv d.hours, iv d.cap, iv d.start, .slice A1 n1 c1, .slice A2 n2 c2, .slice A3 n3 c3, .slice A4 n4 c4, .slice A5 n5 c5, .slice A6 n6 c6], .agg #[.slice W1 m1 e1, .slice S1 m2 e2], .slice AS nS cS]) Try.func3 (by kernel_rfl) ?_
  refine box (fun bd w1 i1 => ?_)
  refine box (fun bx w2 i2 => ?_)
  have x2 := i1.ext.trans i2.ext
  have Bd : Blk w2 bd 31 [.string d.name, iv d.hours, iv d.cap, iv d.start, .slice A1 n1 c1, .slice A2 n2 c2, .slice A3 n3 c3, .slice A4 n4 c4, .slice A5 n5 c5, .slice A6 n6 c6] := i1.blk.ext i2.ext
  have Bx : Blk w2 bx 35 [.slice W1 m1 e1, .slice S1 m2 e2] := i2.blk
  refine call_of (c_ssane) ?_
  rintro _ w3 ⟨rfl, x3⟩
  refine ldA [.string d.name, iv d.hours, iv d.cap, iv d.start, .slice A1 n1 c1, .slice A2 n2 c2, .slice A3 n3 c3, .slice A4 n4 c4, .slice A5 n5 c5, .slice A6 n6 c6] (.blk (Bd.ext x3)) rfl ?_
  refine ldA [.slice W1 m1 e1, .slice S1 m2 e2] (.blk (Bx.ext x3)) rfl ?_
  refine callSE (c_r49Few ((hd.ext x2).ext x3) ((hx.ext x2).ext x3)) (fun w4 x4 => ?_) (fun w4 x4 => ?_)
  rotate_left
  · exact ret1 (.bool true) rfl ⟨rfl, x2.trans (x3.trans x4)⟩
  have z4 := x2.trans (x3.trans x4)
  have Bd := Bd.ext (x3.trans x4)
  have Bx := Bx.ext (x3.trans x4)
  refine len ?_
  refine cD (fun _ => ?_) (fun h12 => ?_)
  · exact ret1 (.bool true) rfl ⟨rfl, z4⟩
  obtain ⟨b, hb⟩ : ∃ b, b = explV d x set := ⟨_, rfl⟩
  refine ldA [.string d.name, iv d.hours, iv d.cap, iv d.start, .slice A1 n1 c1, .slice A2 n2 c2, .slice A3 n3 c3, .slice A4 n4 c4, .slice A5 n5 c5, .slice A6 n6 c6] (.blk Bd) rfl ?_
  refine ldA [.slice W1 m1 e1, .slice S1 m2 e2] (.blk Bx) rfl ?_
  have cc := c_Explains (c := cS) (hd.ext z4) (hx.ext z4) (hset.ext z4)
  rw [← hb] at cc
  refine call_of cc ?_
  clear cc
  rintro _ w5 ⟨rfl, x5⟩
  have z5 := z4.trans x5
  have Bd := Bd.ext x5
  have Bx := Bx.ext x5
  refine ldA [.string d.name, iv d.hours, iv d.cap, iv d.start, .slice A1 n1 c1, .slice A2 n2 c2, .slice A3 n3 c3, .slice A4 n4 c4, .slice A5 n5 c5, .slice A6 n6 c6] (.blk Bd) rfl ?_
  refine ldA [.slice W1 m1 e1, .slice S1 m2 e2] (.blk Bx) rfl ?_
  refine call_of (c_sNamed (hd.ext z5) (hx.ext z5)) ?_
  rintro _ w6 ⟨NA, nn, nc, rfl, oN⟩
  have z6 := z5.trans oN.ext
  have Bd := Bd.ext oN.ext
  have Bx := Bx.ext oN.ext
  refine cN (fun _ => ?_) (fun q0 => ?_)
  · exact ret1 (.bool true) rfl ⟨rfl, z6⟩
  have q0 : askErr d x set = 0 := q0
  refine cN (fun _ => ?_) (fun q1 => ?_)
  · exact ret1 (.bool true) rfl ⟨rfl, z6⟩
  cases b with
  | false => exact ret1 (.bool true) rfl ⟨rfl, z6⟩
  | true =>
  have q1 : evErr d x = 0 := q1
  obtain ⟨-, -, hS⟩ := ev_sizes q1
  obtain ⟨hr1, hr2⟩ := innocent q0 hb.symm
  have hnl : nn ≤ 12 := by
    have h1 := oN.own.len
    rw [List.length_map] at h1
    unfold namedV at h1
    rw [List.length_map] at h1
    have h2 := List.length_filter_le (fun i : Nat => decide (0 < cntS (minSets d x) i)) (List.range x.suspects.length)
    rw [List.length_range] at h2
    omega
  have sN := oN.ints (D := fun _ => True) (fun v hv => by
    unfold namedV at hv
    obtain ⟨i, hi, rfl⟩ := List.mem_map.1 hv
    have := List.mem_range.1 (List.mem_filter.1 hi).1
    unfold I64; omega) (by omega) fun _ _ => trivial
  have hset6 := hset.ext z6
  refine len ?_
  refine loop4 (fun (k : Nat) (B : Option Addr) (m e : Nat) => [(52, iv (k : Int)), (11, .slice B m e)]) (fun k B m e u => k ≤ nS ∧ m ≤ k ∧ OwnF w6 u B m e 3 1 (((set.take k).filter fun t => decide (t ∈ namedV d x)).map fun k => .int .i64 k)) (fun k _ _ _ _ => nS - k) 0 none 0 0 ⟨rfl, rfl, trivial⟩ ⟨by omega, Nat.le_refl _, OwnF.nil (.refl _ _)⟩ rfl ?_
  rintro G k B m e u ⟨hk, hm, q⟩
  refine cD (fun hlt => ?_) (fun hge => ?_)
  · have hlt : k < nS := by omega
    obtain ⟨g, ofs, cs, i, rfl, hi, -, -, hc, rfl, -⟩ := hset6.at_ hlt
    have htk : set.take (k + 1) = set.take k ++ [i] := by rw [List.take_add_one, hi]; rfl
    refine idx k rfl hlt ?_
    refine ld (iv i) (q.ext.cell (hc 0 _ rfl) trivial) ?_
    refine callB (c_r49Has (sN.ext q.ext)) (fun hh => ?_) (fun hh => ?_)
    · refine lit [iv i] (fun gg u1 hq => ?_)
      refine appF (q.then hq.ext) (hq.src (sz := 1) rfl) (by omega) (fun B' e' u2 q2 kk hA => ?_)
      refine arI (by omega) ?_
      refine next4 (k + 1) B' (m + 1) e' ⟨by rw [Int.natCast_add]; rfl, rfl, trivial⟩ ⟨by omega, by omega, ?_⟩ (by omega)
      rw [htk, List.filter_append, List.map_append, show [i].filter (fun t => decide (t ∈ namedV d x)) = [i] by simp only [List.filter_cons, hh, List.filter_nil]; rfl]
      exact q2
    · refine arI (by omega) ?_
      refine next4 (k + 1) B m e ⟨by rw [Int.natCast_add]; rfl, rfl, trivial⟩ ⟨by omega, by omega, ?_⟩ (by omega)
      rw [htk, List.filter_append, List.map_append, show [i].filter (fun t => decide (t ∈ namedV d x)) = [] by simp only [List.filter_cons, hh, List.filter_nil]; rfl]
      simpa using q
  rw [List.take_of_length_le (by omega)] at q
  have zu := z6.trans q.ext
  have sR := q.ints (D := fun _ => True) (fun v hv => by
    have h1 := (List.mem_filter.1 hv).1
    have := (setB_iff49.1 (askErr_ok.1 q0).2).1 v h1
    unfold I64; omega) (by omega) fun _ _ => trivial
  refine ldA [.string d.name, iv d.hours, iv d.cap, iv d.start, .slice A1 n1 c1, .slice A2 n2 c2, .slice A3 n3 c3, .slice A4 n4 c4, .slice A5 n5 c5, .slice A6 n6 c6] (.blk (Bd.ext q.ext)) rfl ?_
  refine ldA [.slice W1 m1 e1, .slice S1 m2 e2] (.blk (Bx.ext q.ext)) rfl ?_
  have cc := c_Explains (c := e) (hd.ext zu) (hx.ext zu) sR
  rw [hr1, hr2] at cc
  refine call_of cc ?_
  clear cc
  rintro _ w8 ⟨rfl, x8⟩
  refine cE (fun _ => ?_) (fun h => absurd rfl h)
  exact ret1 (.bool true) rfl ⟨rfl, zu.trans x8⟩
end
end Go.Proofs.Ytcpdhclnmjfldaa

/- Closing: what evidence and Truths that are handed in read as. -/
namespace Go.Proofs.Ytcpdhclnmjfldaa
open Go Go.RowKit Go.ChangeShapes Go.WideShapes Go.ChangeAt

def tEvR : Ty Ev where
  sz := 2
  rep := EvR
  len h := by obtain ⟨_, _, _, _, _, _, rfl, -⟩ := h.ex; rfl
  keep hk h := h.keep hk
  more hk h := h.more hk
theorem rd_is : Rd Try.prog 36 (tSl tInt) := inferInstance
theorem rd_rg : Rd Try.prog 56 tRg := by
  refine Rd.of (fun y : Int × Int => (⟨y.1, y.2⟩ : Rg)) rd_range ?_
  rintro W cs ⟨s, u⟩ ⟨_, _, rfl, ⟨rfl, -⟩, ⟨rfl, -⟩⟩
  rfl
theorem rd_su : Rd Try.prog 92 tSu := by
  refine Rd.of (fun y : Int × Int × Int => (⟨y.1, y.2.1, y.2.2⟩ : Su))
    (Rd.struct Try.underlying92 (by kernel_rfl) fun n => .cons (rdAt Try.prog 3 tInt n) rfl (.cons (rdAt Try.prog 3 tInt n) rfl (.one (rdAt Try.prog 3 tInt n) rfl))) ?_
  rintro W cs ⟨s, u, d⟩ ⟨_, _, rfl, ⟨rfl, -⟩, _, _, rfl, ⟨rfl, -⟩, ⟨rfl, -⟩⟩
  rfl
instance : Rd Try.prog 56 tRg := rd_rg
instance : Rd Try.prog 92 tSu := rd_su
theorem rd_rgs : Rd Try.prog 50 (tSl tRg) := inferInstance
theorem rd_wave : Rd Try.prog 52 tWv := Rd.map (g := fun y : Int × List Rg × List Rg × List Rg => (⟨y.1, y.2.1, y.2.2.1, y.2.2.2⟩ : Wv))
    (Rd.struct Try.underlying52 (by kernel_rfl) fun n => .cons (rdAt Try.prog 3 tInt n) rfl (.cons (rd_rgs.h n) rfl (.cons (rd_rgs.h n) rfl (.one (rd_rgs.h n) rfl)))) fun _ => rfl
theorem rd_tru : Rd Try.prog 101 tTru := Rd.map (g := fun y : List Int × List Int × List Int × List Int × List Int => (⟨y.1, y.2.1, y.2.2.1, y.2.2.2.1, y.2.2.2.2⟩ : Tru))
    (Rd.struct Try.underlying101 (by kernel_rfl) fun n => .cons (rd_is.h n) rfl (.cons (rd_is.h n) rfl (.cons (rd_is.h n) rfl (.cons (rd_is.h n) rfl (.one (rd_is.h n) rfl))))) fun _ => rfl
instance : Rd Try.prog 52 tWv := rd_wave
instance : Rd Try.prog 101 tTru := rd_tru
theorem rd_waves : Rd Try.prog 32 (tSl tWv) := inferInstance
theorem rd_sus : Rd Try.prog 33 (tSl tSu) := inferInstance
theorem rd_ev : Rd Try.prog 35 tEvR := by
  refine Rd.of (fun y : List Wv × List Su => (⟨y.1, y.2⟩ : Ev))
    (Rd.struct Try.underlying35 (by kernel_rfl) fun n => .cons (rd_waves.h n) rfl (.one (rd_sus.h n) rfl)) ?_
  rintro W cs ⟨l1, l2⟩ ⟨_, _, rfl, ⟨A1, n1, c1, rfl, h1, g1⟩, A2, n2, c2, rfl, h2, g2⟩
  exact EvR.of_ ⟨A1, n1, c1, A2, n2, c2, rfl, h1, h2, g1, g2⟩
end Go.Proofs.Ytcpdhclnmjfldaa
