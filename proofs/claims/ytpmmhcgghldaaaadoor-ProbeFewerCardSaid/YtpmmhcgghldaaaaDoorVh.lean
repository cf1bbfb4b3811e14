/- Own layer, part h: what writes and makes memory. Nothing of the program stands here. -/
import Derived.Test.YtpmmhcgghldaaaaDoorVf
import Derived.Maps.AppendAt
namespace Go.Proofs.YtpmmhcgghldaaaaDoor
open Go Go.RowKit

def cellsL : Value → List Value
  | .agg cs => cs.toList
  | v => [v]
theorem cellsL_eq (v : Value) : v.cells = (cellsL v).toArray := by cases v <;> simp [Value.cells, cellsL]
def stoOk (P : Program) (t : TypeId) : Bool := oneCell P t && (match P.info? t with | some i => i.size == 1 | none => false)
class StoTy (P : Program) (t : TypeId) : Prop where h : stoOk P t = true

section
variable {P : Program}
theorem zeroOf_spec {t : TypeId} {zv : Value} (h : zeroOf P t = some zv) : ∃ i, P.info? t = some i ∧ i.zero = some zv := by
  unfold zeroOf at h; cases hi : P.info? t with
  | none => rw [hi] at h; cases h
  | some i => rw [hi] at h; exact ⟨i, rfl, h⟩
theorem run_zeroValue' {t : TypeId} {zv : Value} (h : zeroOf P t = some zv) (w : World) : (zeroValue t).run P w = .ok zv w := by
  obtain ⟨i, hi, hz⟩ := zeroOf_spec h
  simp [zeroValue, typeInfo, hi, hz]

/-- A new block. -/
def NewB (w : World) (e : TypeId) (cs : List Value) (g : Nat) (w' : World) : Prop := g = w.heap.size ∧ w' = w.alloc (.cells cs.toArray e)
theorem NewB.blk {w w' : World} {e : TypeId} {cs : List Value} {g : Nat} (h : NewB w e cs g w') : Blk w' g e cs := by obtain ⟨rfl, rfl⟩ := h; exact Blk.new w e cs
theorem NewB.ext {w w' : World} {e : TypeId} {cs : List Value} {g : Nat} (h : NewB w e cs g w') : Ext w w' := by obtain ⟨rfl, rfl⟩ := h; exact Kept.alloc _ w _
theorem NewB.size {w w' : World} {e : TypeId} {cs : List Value} {g : Nat} (h : NewB w e cs g w') : w'.heap.size = w.heap.size + 1 := by obtain ⟨rfl, rfl⟩ := h; simp
theorem NewB.at_ {w w' : World} {e : TypeId} {cs : List Value} {g : Nat} (h : NewB w e cs g w') : g = w.heap.size := h.1

theorem alloc {e : TypeId} {zv : Value} [h : ZeroTy P e zv] {w : World} {K : VK} (kk : ∀ g w', NewB w e (cellsL zv) g w' → K (.pointer (some (ad g 0))) w') : AllocP P e K w := by
  rw [AllocP_eq]
  intro w0 hw
  subst hw
  rw [run_vS]
  simp only [Instr.alloc, Sem.run_bind, run_zeroValue' h.h, Result.andThen_ok, newVar, newRow, run_newObj, cellsL_eq]
  exact kk _ _ ⟨rfl, rfl⟩
theorem box {e : TypeId} {v : Value} {w : World} {K : VK} (kk : ∀ g w', NewB w e (cellsL v) g w' → K (.pointer (some (ad g 0))) w') : BoxP P e v K w := by
  rw [BoxP_eq]
  intro w0 hw
  subst hw
  rw [run_vS]
  simp only [Instr.box, Sem.run_bind, Result.andThen_ok, newVar, newRow, run_newObj, cellsL_eq]
  exact kk _ _ ⟨rfl, rfl⟩
theorem mmap {t : TypeId} {w : World} {K : VK} (kk : ∀ g w', g = w.heap.size → w' = w.alloc (.map #[] 0) → K (.map (some g)) w') : MMapP P t none K w := by
  rw [MMapP_eq]
  intro w0 hw
  subst hw
  rw [run_vS, run_makeMap]
  exact kk _ _ rfl rfl

/-! ### a composite literal of a slice -/
theorem splice_mid (xs ys c old : List Value) (hl : old.length = c.length) : ((c.zipIdx).foldl (fun (cs : Array Value) (p : Value × Nat) => cs.setIfInBounds (xs.length + p.2) p.1) (xs ++ old ++ ys).toArray) = (xs ++ c ++ ys).toArray := by
  have key : ∀ (c old : List Value) (pre : List Value) (k : Nat), old.length = c.length → pre.length = xs.length + k →
      ((c.zipIdx k).foldl (fun (cs : Array Value) (p : Value × Nat) => cs.setIfInBounds (xs.length + p.2) p.1) (pre ++ old ++ ys).toArray) = (pre ++ c ++ ys).toArray := by
    intro c
    induction c with
    | nil => intro old pre k h1 h2; have : old = [] := List.eq_nil_of_length_eq_zero (by simpa using h1); subst this; simp
    | cons v c ih =>
      intro old pre k h1 h2
      cases old with
      | nil => simp at h1
      | cons o old =>
        simp only [List.zipIdx_cons, List.foldl_cons]
        have e : ((pre ++ o :: old ++ ys).toArray.setIfInBounds (xs.length + k) v) = ((pre ++ [v]) ++ old ++ ys).toArray := by
          simp only [List.setIfInBounds_toArray]
          rw [← h2]
          simp
        rw [e, ih old (pre ++ [v]) (k + 1) (by simpa using h1) (by simp; omega)]
        simp
  exact key c old xs 0 hl (by simp)

theorem fill_seq {sz : Nat} : ∀ (vs : List Value) (k : Nat) (pre old : List Value), (∀ v ∈ vs, (cellsL v).length = sz) → pre.length = k * sz → old.length = vs.length * sz →
    Instr.fill (fun i => some (i * sz, sz)) (pre ++ old).toArray ((vs.zipIdx k).map fun p => (p.2, p.1)) = some (pre ++ vs.flatMap cellsL).toArray
  | [], k, pre, old, _, _, ho => by have : old = [] := List.eq_nil_of_length_eq_zero (by simpa using ho); subst this; simp [Instr.fill]
  | v :: vs, k, pre, old, h, hp, ho => by
    have hv := h v List.mem_cons_self
    have hr : ∀ u ∈ vs, (cellsL u).length = sz := fun u hu => h u (List.mem_cons_of_mem _ hu)
    have hlen : old.length = sz + vs.length * sz := by rw [ho, List.length_cons, Nat.add_mul]; omega
    simp only [List.zipIdx_cons, List.map_cons, Instr.fill, cellsL_eq v, List.size_toArray, hv]
    rw [if_neg (by simp; omega)]
    have e1 : (pre ++ old) = pre ++ old.take sz ++ old.drop sz := by rw [List.append_assoc, List.take_append_drop]
    have e2 : (List.foldl (fun (cs : Array Value) (p : Value × Nat) => cs.setIfInBounds (k * sz + p.2) p.1) (pre ++ old).toArray (cellsL v).zipIdx) = (pre ++ cellsL v ++ old.drop sz).toArray := by
      rw [e1, ← hp]
      exact splice_mid pre (old.drop sz) (cellsL v) (old.take sz) (by rw [List.length_take, hv]; omega)
    have e3 : ((cellsL v).toArray.zipIdx.foldl (fun (cs : Array Value) (x : Value × Nat) => match x with | (c, j) => cs.setIfInBounds (k * sz + j) c) (pre ++ old).toArray) = (pre ++ cellsL v ++ old.drop sz).toArray := by
      rw [← e2, ← Array.foldl_toList]
      simp
    rw [e3, fill_seq vs (k + 1) (pre ++ cellsL v) (old.drop sz) hr (by rw [List.length_append, hp, hv, Nat.add_mul]; omega) (by rw [List.length_drop]; omega)]
    simp

theorem run_buildSlice_seq {t e : TypeId} {sz : Nat} {zv : Value} (h : sliceOf P t = some (e, sz)) (hz : zeroOf P e = some zv) (hzs : (cellsL zv).length = sz) (vs : List Value) (hv : ∀ v ∈ vs, (cellsL v).length = sz) (hbig : vs.length * sz ≤ 16777216) (w : World) :
    (Instr.buildSlice t vs.length ((vs.zipIdx 0).map fun p => (p.2, p.1)).toArray).run P w = .ok (.slice (some ⟨w.heap.size, 0, none⟩) vs.length vs.length) (w.alloc (.cells (vs.flatMap cellsL).toArray e)) := by
  obtain ⟨hu, i, hi, hs⟩ := sliceOf_spec h
  subst hs
  have hfill : ∀ z0 : List Value, z0.length = vs.length * i.size → Instr.fill (fun j => some (j * i.size, i.size)) z0.toArray ((vs.zipIdx 0).map fun p => (p.2, p.1)) = some (vs.flatMap cellsL).toArray := fun z0 hl => by
    have := fill_seq (sz := i.size) vs 0 [] z0 hv (by simp) hl
    simpa using this
  have hb : ¬ (vs.length * i.size > 2 ^ 24) := by omega
  unfold Instr.buildSlice
  have er : Array.range 0 = #[] := rfl
  simp only [Sem.run_bind, run_underlying hu, Result.andThen_ok, run_sizeOf hi, hb, if_false]
  by_cases h0 : vs.length * i.size = 0
  · have := hfill [] (by simpa using h0.symm)
    simp [h0, er, this, newRow]
  · have := hfill ((Array.range (vs.length * i.size)).map (fun j => zv.cells[j % zv.cells.size]!)).toList (by simp)
    simp only [Array.toArray_toList] at this
    simp only [h0, if_false, Sem.run_bind, run_zeroValue' hz, Sem.run_pure, Result.andThen_ok, this]
    simp [newRow]

/-- A slice written out: its elements' values. -/
theorem bslc {t e : TypeId} {sz : Nat} {zv : Value} [h : SliceTy P t e sz] [hz : ZeroTy P e zv] (vs : List Value) {n : Nat} {ps : Array (Nat × Value)} {w : World} {K : VK}
    (hp : ps = ((vs.zipIdx 0).map fun p => (p.2, p.1)).toArray) (hn : n = vs.length) (hv : ∀ v ∈ vs, (cellsL v).length = sz) (hzs : (cellsL zv).length = sz) (hbig : vs.length * sz ≤ 16777216)
    (kk : ∀ g w', NewB w e (vs.flatMap cellsL) g w' → K (.slice (some (ad g 0)) n n) w') : BSlcP P t n ps K w := by
  rw [BSlcP_eq]
  intro w0 hw
  subst hw; subst hp; subst hn
  rw [run_vS, run_buildSlice_seq h.h hz.h hzs vs hv hbig]
  exact kk _ _ ⟨rfl, rfl⟩

/-! ### stores -/
theorem stoOk_spec {t : TypeId} (h : stoOk P t = true) : CellTy P t ∧ ∃ i, P.info? t = some i ∧ i.size = 1 := by
  unfold stoOk at h
  obtain ⟨h1, h2⟩ := bothT h
  refine ⟨⟨h1⟩, ?_⟩
  cases hi : P.info? t with
  | none => rw [hi] at h2; cases h2
  | some i => rw [hi] at h2; exact ⟨i, rfl, by simpa using h2⟩
/-- A store of one cell into a block that is known. -/
theorem st {t e : TypeId} [h : StoTy P t] {g i : Nat} {v : Value} {cs : List Value} {w : World} {K : VK} (hb : Blk w g e cs) (hi : i < cs.length) (hv : v.oneCell' = true)
    (kk : ∀ w', Blk w' g e (cs.set i v) → Kept (fun b => b ≠ g) w w' → w'.heap.size = w.heap.size → K undef w') : StoreP P t (.pointer (some (ad g i))) v K w := by
  rw [StoreP_eq]
  intro w0 hw
  subst hw
  obtain ⟨hc, inf, hinf, hs⟩ := stoOk_spec h.h
  have hcell : w0.cell? (ad g i) = some cs[i] := hb.cell (List.getElem?_eq_getElem hi)
  have hfr : w0.frozen? (ad g i) = false := hb.frozen i
  have hcv : v.cells = #[v] := by cases v <;> first | rfl | cases hv
  have hrun : (uS (Instr.storeAt t (.pointer (some (ad g i))) v)).run P w0 = .ok .skip (w0.setCell (ad g i) v) := by
    have h1 : (store (ad g i) v .plain).run P w0 = .ok () (w0.setCell (ad g i) v) := by rw [run_store P w0 (ad g i) v .plain hv, hcell]; simp [hfr]
    have h2 : (ad g i).add 0 = ad g i := rfl
    simp only [uS, Instr.storeAt, Instr.sureAddr, storeVar, Sem.run_bind, Sem.run_pure, Result.andThen_ok, run_sizeOf hinf, hs, hcv]
    simp [storeCells, h2, h1]
  rw [hrun]
  exact kk (z (w0.setCell (ad g i) v)) (Blk.set hb i v) (Kept.setCell (z w0) (ad g i) v) (by simp [World.setCell])

theorem run_storeCells' {g : Nat} {e : TypeId} : ∀ (vs : List Value) (o i : Nat) (cs : List Value) (w : World), Blk w g e cs → o + i + vs.length ≤ cs.length → (∀ v ∈ vs, v.oneCell' = true) →
    ∃ w', (storeCells (ad g o) vs i).run P w = .ok () w' ∧ Blk w' g e (cs.take (o + i) ++ vs ++ cs.drop (o + i + vs.length)) ∧ Kept (fun b => b ≠ g) w w' ∧ w'.heap.size = w.heap.size
  | [], o, i, cs, w, hb, hl, _ => ⟨w, rfl, by simpa using hb, .refl _ _, rfl⟩
  | v :: vs, o, i, cs, w, hb, hl, hv => by
    have hi : o + i < cs.length := by simp at hl; omega
    have hv1 := hv v List.mem_cons_self
    have hcell : w.cell? (ad g (o + i)) = some cs[o + i] := hb.cell (List.getElem?_eq_getElem hi)
    have hfr : w.frozen? (ad g (o + i)) = false := hb.frozen _
    have h1 : (store ((ad g o).add i) v .plain).run P w = .ok () (w.setCell (ad g (o + i)) v) := by rw [add_ad, run_store P w _ v .plain hv1, hcell]; simp [hfr]
    obtain ⟨w', hr, hb', hk, hz⟩ := run_storeCells' vs o (i + 1) (cs.set (o + i) v) (w.setCell (ad g (o + i)) v) (hb.set _ _) (by simp at hl ⊢; omega) (fun u hu => hv u (List.mem_cons_of_mem _ hu))
    refine ⟨w', ?_, ?_, (Kept.setCell w (ad g (o + i)) v).trans hk, by rw [hz]; simp [World.setCell]⟩
    · simp only [storeCells, Sem.run_bind, h1, Result.andThen_ok]; exact hr
    · have e1 : (cs.set (o + i) v).take (o + (i + 1)) = cs.take (o + i) ++ [v] := by
        rw [← Nat.add_assoc, List.take_succ_eq_append_getElem (by simpa using hi), List.take_set_of_le (Nat.le_refl _)]
        simp
      have e2 : (cs.set (o + i) v).drop (o + (i + 1) + vs.length) = cs.drop (o + i + (v :: vs).length) := by
        rw [List.drop_set_of_lt (by omega)]
        congr 1; simp; omega
      rw [e1, e2] at hb'
      simpa using hb'
/-- A store of a struct or an array into a block that is known. -/
theorem stA {t e : TypeId} {n : Nat} [h : AggTy P t n] {g i : Nat} {vs cs : List Value} {w : World} {K : VK} (hb : Blk w g e cs) (hn : vs.length = n) (hi : i + vs.length ≤ cs.length) (hv : ∀ v ∈ vs, v.oneCell' = true)
    (kk : ∀ w', Blk w' g e (cs.take i ++ vs ++ cs.drop (i + vs.length)) → Kept (fun b => b ≠ g) w w' → w'.heap.size = w.heap.size → K undef w') : StoreP P t (.pointer (some (ad g i))) (.agg vs.toArray) K w := by
  rw [StoreP_eq]
  intro w0 hw
  subst hw
  obtain ⟨_, inf, hinf, hs⟩ := aggSize_spec h.h
  obtain ⟨w', hr, hb', hk, hz⟩ := run_storeCells' (P := P) vs i 0 cs w0 hb (by simpa using hi) hv
  have hrun : (uS (Instr.storeAt t (.pointer (some (ad g i))) (.agg vs.toArray))).run P w0 = .ok .skip w' := by
    simp only [uS, Instr.storeAt, Instr.sureAddr, storeVar, Sem.run_bind, Sem.run_pure, Result.andThen_ok, run_sizeOf hinf, hs, Value.cells]
    simp [hn, hr]
  rw [hrun]
  exact kk (z w') hb' ⟨hk.os, hk.tape, hk.output, hk.size, hk.blk⟩ hz

/-! ### append -/
/-- A slice that the call has made: its cells. -/
abbrev Own (w : World) (v : Value) (e : TypeId) (sz n : Nat) (xs : List Value) : Prop := w.ownsRow 0 e sz v n xs
theorem Own.nil (w : World) (e : TypeId) (sz : Nat) : Own w (.slice none 0 0) e sz 0 [] := ⟨by simp, .inl ⟨rfl, rfl⟩⟩
theorem Own.blk {w : World} {e : TypeId} {sz g n cap : Nat} {xs : List Value} (h : Own w (.slice (some (ad g 0)) n cap) e sz n xs) : ∃ rest, Blk w g e (xs ++ rest) ∧ (xs ++ rest).length = cap * sz ∧ n ≤ cap := by
  obtain ⟨hl, h⟩ := h
  rcases h with ⟨h, _⟩ | ⟨g', cap', cur, hv, _, hb, h1, h2, h3, h4⟩
  · cases h
  · injection hv with ha _ hc
    injection ha with ha
    injection ha with ha
    subst ha; subst hc
    refine ⟨cur.toList.drop (n * sz), ?_, ?_, h1⟩
    · unfold Blk; rw [← h4, List.take_append_drop, Array.toArray_toList]; exact hb
    · rw [← h4, List.take_append_drop]; simpa using h3
theorem Own.of_blk {w : World} {e : TypeId} {sz g n cap : Nat} {xs rest : List Value} (hb : Blk w g e (xs ++ rest)) (hl : xs.length = n * sz) (hc : (xs ++ rest).length = cap * sz) (hn : n ≤ cap) (hcap : cap ≤ maxLen) : Own w (.slice (some (ad g 0)) n cap) e sz n xs :=
  ⟨hl, .inr ⟨g, cap, (xs ++ rest).toArray, rfl, Nat.zero_le _, hb, hn, hcap, by simpa using hc, by simp [← hl]⟩⟩
theorem Own.form {w : World} {v : Value} {e : TypeId} {sz n : Nat} {xs : List Value} (h : Own w v e sz n xs) : (v = .slice none 0 0 ∧ n = 0) ∨ ∃ g cap, v = .slice (some (ad g 0)) n cap ∧ n ≤ cap := by
  rcases h.2 with h | ⟨g, cap, _, h1, _, _, h2, _⟩
  · exact .inl h
  · exact .inr ⟨g, cap, h1, h2⟩
theorem Own.kept {D : Nat → Prop} {w w' : World} {v : Value} {e : TypeId} {sz n : Nat} {xs : List Value} (h : Own w v e sz n xs) (k : Kept D w w') (hD : ∀ g, v.ownBlock = some g → D g) : Own w' v e sz n xs := by
  obtain ⟨hl, h⟩ := h
  refine ⟨hl, ?_⟩
  rcases h with h | ⟨g, cap, cur, h1, h2, h3, h4⟩
  · exact .inl h
  · subst h1
    exact .inr ⟨g, cap, cur, rfl, h2, (k.blk g (Array.getElem?_eq_some_iff.1 h3).1 (hD g rfl)).trans h3, h4⟩
theorem Own.ext {w w' : World} {v : Value} {e : TypeId} {sz n : Nat} {xs : List Value} (h : Own w v e sz n xs) (k : Ext w w') : Own w' v e sz n xs := h.kept k fun _ _ => trivial
theorem Own.lt {w : World} {v : Value} {e : TypeId} {sz n g : Nat} {xs : List Value} (h : Own w v e sz n xs) (hg : v.ownBlock = some g) : g < w.heap.size := by
  rcases h.2 with ⟨rfl, _⟩ | ⟨g', cap, cur, rfl, _, h3, _⟩
  · cases hg
  · injection hg with hg; subst hg; exact (Array.getElem?_eq_some_iff.1 h3).1
theorem Own.len {w : World} {v : Value} {e : TypeId} {sz n : Nat} {xs : List Value} (h : Own w v e sz n xs) : xs.length = n * sz := h.1

/-- What an append takes: the cells behind the other slice's head. -/
def Src (w : World) (A : Option Addr) (m sz : Nat) (news : List Value) : Prop := news.length = m * sz ∧ (0 < m → ∃ b o, A = some (ad b o) ∧ CellsAt w b o news)
/-- What an append leaves. -/
structure Appd (w : World) (v : Value) (w' : World) (v' : Value) (e : TypeId) (sz n : Nat) (xs : List Value) : Prop where
  own : Own w' v' e sz n xs
  kept : Kept (fun b => v.ownBlock ≠ some b) w w'
  at_ : v'.ownBlock = v.ownBlock ∨ v'.ownBlock = some w.heap.size

theorem run_append_nil {t e : TypeId} {i : TypeInfo} {ty : TypeId} (hu : P.underlying t = some (.slice e)) (hi : P.info? e = some i) {w : World} {v : Value} {sz n : Nat} {xs : List Value} (h : Own w v e sz n xs) (A : Option Addr) (c : Nat) :
    ∃ v', (Builtin.append_ #[t, t] ty #[v, .slice A 0 c]).run P w = .ok v w ∧ v' = v := by
  refine ⟨v, ?_, rfl⟩
  rcases h.2 with ⟨rfl, rfl⟩ | ⟨g, cap, cur, rfl, _, _, hnc, _⟩
  · cases A <;> simp [Builtin.append_, run_underlying hu, run_sizeOf hi, Builtin.lenOf, Builtin.firstCells, loadCells, loadCellsFrom]
  · cases A <;> simp [Builtin.append_, run_underlying hu, run_sizeOf hi, Builtin.lenOf, Builtin.firstCells, hnc, storeCells, loadCells, loadCellsFrom]

theorem app {t e : TypeId} {sz by_ : Nat} {zv : Value} [h : SliceTy P t e sz] [hz : ZeroTy P e zv] [hby : BytesTy P e by_] {ty : TypeId} {cst : Array Bool} {v : Value} {n m c : Nat} {A : Option Addr} {xs news : List Value} {w : World} {K : VK}
    (hown : Own w v e sz n xs) (hs : Src w A m sz news) (h1 : ∀ u ∈ news, u.oneCell' = true) (hzs : (cellsL zv).length = sz) (hpos : 0 < sz) (hb : (n + m) * by_ ≤ 140737488355328) (h63 : n + m ≤ 9223372036854775807)
    (kk : ∀ v' w', Appd w v w' v' e sz (n + m) (xs ++ news) → K v' w') : BuiP P .append #[t, t] ty cst #[v, .slice A m c] K w := by
  rw [BuiP_eq]
  intro w0 hw
  subst hw
  obtain ⟨hu, i, hi, hsz⟩ := sliceOf_spec h.h
  obtain ⟨i', hi', hzz⟩ := zeroOf_spec hz.h
  rw [hi] at hi'; cases hi'
  have hbb : i.bytes = by_ := by have := hby.h; unfold bytesOf at this; rw [hi] at this; simpa using this
  have hrun : ∃ v' w', (Builtin.append_ #[t, t] ty #[v, .slice A m c]).run P w0 = .ok v' w' ∧ Appd (z w0) v (z w') v' e sz (n + m) (xs ++ news) := by
    have hown0 : w0.ownsRow 0 e sz v n xs := hown
    rcases Nat.eq_zero_or_pos m with hm | hm
    · subst hm
      obtain ⟨v', hr, e'⟩ := run_append_nil (ty := ty) hu hi hown0 A c
      have : news = [] := List.eq_nil_of_length_eq_zero (by simpa using hs.1)
      subst this
      exact ⟨v, w0, hr, by simpa using hown, .refl _ _, .inl rfl⟩
    · obtain ⟨b, o, rfl, hc⟩ := hs.2 hm
      obtain ⟨v', w', hr, ho, hg, _, hat⟩ := run_append_own_at (P := P) (w := w0) 0 t ty e i zv sz by_ hu hi hzz hsz hbb (by rw [cellsL_eq]; simpa using hzs) hpos v n xs hown0 (ad b o) m c news hs.1
        (fun j u hju => by rw [add_ad]; exact hc j u hju) h1 (by unfold maxLen; omega) hb (Nat.zero_le _)
      exact ⟨v', w', hr, ho, ⟨hg.os, hg.tape, hg.output, hg.size, fun k hk hD => hg.block k hk (fun e => hD e.symm)⟩, hat⟩
  obtain ⟨v', w', hr, ha⟩ := hrun
  rw [show builtin .append #[t, t] ty cst #[v, .slice A m c] = vS (Builtin.append_ #[t, t] ty #[v, .slice A m c]) from rfl, run_vS, hr]
  exact kk v' (z w') ha

/-! ### make -/
theorem mslc {t e : TypeId} {sz by_ : Nat} {zv : Value} [h : SliceTy P t e sz] [hz : ZeroTy P e zv] [hby : BytesTy P e by_] {k1 k2 : IntKind} (n : Nat) {i j : Int} {w : World} {K : VK} (hi : i = n) (hj : j = n) (hb : by_ * n ≤ 140737488355328) (hn : n ≤ 9223372036854775807) (hzs : (cellsL zv).length = sz) (hpos : 0 < sz)
    (kk : ∀ g w', NewB w e ((List.replicate n (cellsL zv)).flatten) g w' → K (.slice (some (ad g 0)) n n) w') : MSlcP P t (.int k1 i) (.int k2 j) K w := by
  rw [MSlcP_eq]
  intro w0 hw
  subst hw; subst hi; subst hj
  obtain ⟨hu, inf, hinf, hsz⟩ := sliceOf_spec h.h
  obtain ⟨i', hi', hzz⟩ := zeroOf_spec hz.h
  rw [hinf] at hi'; cases hi'
  have hbb : inf.bytes = by_ := by have := hby.h; unfold bytesOf at this; rw [hinf] at this; simpa using this
  have hbytes : (inf.bytes : Int) * (n : Int) ≤ 281474976710656 := by
    rw [hbb]; have : ((by_ * n : Nat) : Int) ≤ 140737488355328 := by omega
    rw [Int.natCast_mul] at this; omega
  have hr := run_make (P := P) w0 t e inf zv hu hinf hzz k1 k2 n n (by omega) (Int.le_refl _) hbytes (by omega)
  rw [run_vS, hr]
  have hcells : madeCells zv.cells ((n : Int).toNat * inf.size) = ((List.replicate n (cellsL zv)).flatten).toArray := by
    rw [hsz, Int.toNat_natCast, cellsL_eq]
    apply Array.ext
    · simp [madeCells, hzs]
    · intro k h1 h2
      have hk : k < n * sz := by simpa [madeCells] using h1
      simp only [madeCells, Array.getElem_map, Array.getElem_range, List.getElem_toArray, List.size_toArray, hzs]
      have key : ∀ (n k : Nat) (l : List Value), l.length = sz → k < n * sz → (List.replicate n l).flatten[k]? = l[k % sz]? := by
        intro n
        induction n with
        | zero => intro k l _ hk; omega
        | succ n ih =>
          intro k l hl hk
          rw [List.replicate_succ, List.flatten_cons]
          by_cases hlt : k < sz
          · rw [List.getElem?_append_left (by omega), Nat.mod_eq_of_lt hlt]
          · rw [List.getElem?_append_right (by omega), hl, ih (k - sz) l hl (by have : (n + 1) * sz = n * sz + sz := Nat.succ_mul n sz; omega), show k % sz = (k - sz) % sz from Nat.mod_eq_sub_mod (by omega)]
      have hm : k % sz < (cellsL zv).length := by rw [hzs]; exact Nat.mod_lt _ hpos
      have e1 := key n k (cellsL zv) hzs hk
      rw [List.getElem?_eq_getElem (by simp [hzs]; exact hk), List.getElem?_eq_getElem hm] at e1
      simp only [Option.some.injEq] at e1
      rw [e1]
      simp [hm]
  rw [hcells]
  exact kk _ _ ⟨rfl, rfl⟩

/-! ### an owned slice, read as data -/
section
variable {α : Type} {a : Ty α} {D : Nat → Prop} {w : World}
theorem Own.src {e : TypeId} {sz n cap : Nat} {A : Option Addr} {xs : List Value} (h : Own w (.slice A n cap) e sz n xs) : Src w A n sz xs := by
  refine ⟨h.1, fun hn => ?_⟩
  rcases h.form with ⟨_, h0⟩ | ⟨g, cap', hv, _⟩
  · omega
  · injection hv with hv _ hc
    subst hv; subst hc
    obtain ⟨rest, hb, _, _⟩ := h.blk
    exact ⟨g, 0, rfl, fun j _ hv => hb.cell (by rw [Nat.zero_add, List.getElem?_append_left (List.getElem?_eq_some_iff.1 hv).1]; exact hv)⟩
/-- A slice of the call's own reads as the list of what its cells read as. -/
theorem Own.rd {A : Option Addr} {n cap : Nat} {e : TypeId} {cs : List Value} {xs : List α} (h : Own w (.slice A n cap) e a.sz n cs) (hf : FlatR a D w xs cs) (hn : n = xs.length) (hle : n ≤ 140737488355328) (hD : ∀ g, A = some (ad g 0) → D g) : SlR a D w A n xs := by
  rcases h.form with ⟨hv, h0⟩ | ⟨g, cap', hv, _⟩
  · subst h0
    have : xs = [] := List.eq_nil_of_length_eq_zero hn.symm
    subst this; exact .nil
  · injection hv with hv _ hc
    subst hv; subst hc
    obtain ⟨b, o, hA, hc⟩ | hn0 : (∃ b o, some (ad g 0) = some (ad b o) ∧ CellsAt w b o cs) ∨ n = 0 := by
      rcases Nat.eq_zero_or_pos n with h0 | h0
      · exact .inr h0
      · exact .inl (h.src.2 h0)
    · simp only [Option.some.injEq, Addr.mk.injEq] at hA
      obtain ⟨rfl, rfl, _⟩ := hA
      exact .of_cells hn hle (hD _ rfl) hc hf
    · subst hn0
      have : xs = [] := List.eq_nil_of_length_eq_zero hn.symm
      subst this; exact .nil
end
end
end Go.Proofs.YtpmmhcgghldaaaaDoor
