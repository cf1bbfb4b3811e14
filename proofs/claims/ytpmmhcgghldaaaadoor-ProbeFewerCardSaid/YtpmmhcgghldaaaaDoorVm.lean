/- Own layer, part m: what an argument that reads as data is in this layer's words. Nothing of the program stands here. -/
import Derived.Test.YtpmmhcgghldaaaaDoorVl
import Derived.OpenShut
import Derived.SizedLaws
namespace Go.Proofs.YtpmmhcgghldaaaaDoor
open Go Go.RowKit

abbrev AnyB : Nat → Prop := fun _ => True
/-- Whatever of type t reads as data, with n steps, reads as a value of a's. -/
structure RdN {α : Type} (P : Program) (n : Nat) (t : TypeId) (a : Ty α) : Prop where
  h : ∀ {H : Type} {enc : TypeId × Value → H} {W : World} {cs : List Value} {x : DataW H × List MemPlace}, DataW.trod enc P W 0 (fun _ => true) true n t cs = some x → (x.1.weights P t).all (· ≤ reachBytes) = true → ∃ y, a.rep AnyB W cs y
class Rd {α : Type} (P : Program) (t : TypeId) (a : Ty α) : Prop where
  h : ∀ n, RdN P n t a

section
variable {P : Program} {α β : Type} {a : Ty α} {b : Ty β}

theorem intOf_spec {t : TypeId} {k : IntKind} (h : intOf P t = some k) : P.underlying t = some (.int k) := by
  unfold intOf at h; split at h <;> simp_all
theorem isBoo_spec {t : TypeId} (h : isBoo P t = true) : P.underlying t = some .bool := by
  unfold isBoo at h; split at h <;> simp_all
instance rd_int {t : TypeId} [h : IntTy P t .i64] : Rd P t tInt := ⟨fun n => ⟨fun {H enc W cs x} hx _ => by
  obtain ⟨k, rfl, _, hw⟩ := DataW.trod_int (intOf_spec h.h) hx
  refine ⟨k, rfl, ?_⟩
  simp [Lit.wf, IntKind.min, IntKind.max, IntKind.signed, IntKind.bits] at hw
  unfold I64; omega⟩⟩
/-- Numbers of another kind. -/
def tK (k : IntKind) : Ty Int where
  sz := 1
  rep _ _ cs x := cs = [.int k x] ∧ (Lit.int k x).wf = true
  len h := by rw [h.1]; rfl
  keep _ h := h
  more _ h := h
instance rd_k {t : TypeId} {k : IntKind} [h : IntTy P t k] : Rd P t (tK k) := ⟨fun n => ⟨fun {H enc W cs x} hx _ => by
  obtain ⟨z, rfl, _, hw⟩ := DataW.trod_int (intOf_spec h.h) hx
  exact ⟨z, rfl, hw⟩⟩⟩
instance rd_bool {t : TypeId} [h : BoolTy P t] : Rd P t tBool := ⟨fun n => ⟨fun {H enc W cs x} hx _ => by
  have key : ∃ bb, cs = [.bool bb] := by
    cases n with
    | zero => simp [DataW.trod] at hx
    | succ n =>
      unfold DataW.trod at hx
      rw [isBoo_spec h.h] at hx
      split at hx <;> simp_all
  exact key⟩⟩

theorem list_choose {Q : Nat → α → Prop} : ∀ (n : Nat), (∀ i, i < n → ∃ y, Q i y) → ∃ ys : List α, ys.length = n ∧ ∀ k y, ys[k]? = some y → Q k y
  | 0, _ => ⟨[], rfl, fun k y h => by simp at h⟩
  | n + 1, h => by
    obtain ⟨ys, h1, h2⟩ := list_choose n fun i hi => h i (by omega)
    obtain ⟨y, hy⟩ := h n (by omega)
    refine ⟨ys ++ [y], by simp [h1], fun k z hz => ?_⟩
    by_cases hk : k < n
    · rw [List.getElem?_append_left (by omega)] at hz; exact h2 k z hz
    · rw [List.getElem?_append_right (by omega)] at hz
      have : k = n := by
        have := (List.getElem?_eq_some_iff.1 hz).1
        simp at this; omega
      subst this
      simp [h1] at hz; subst hz; exact hy
theorem cells_at {w : World} {A : Addr} {n : Nat} {cs : List Value} (h : w.cells? 0 A n = some cs) : cs.length = n ∧ ∀ j v, cs[j]? = some v → w.cell? (A.add j) = some v := by
  unfold World.cells? at h
  rw [if_pos (Nat.zero_le _)] at h
  refine ⟨by simpa using mapM_some_length h, fun j v hv => ?_⟩
  have hl := mapM_some_length h
  have hj : j < n := by have := (List.getElem?_eq_some_iff.1 hv).1; simp at hl; omega
  rw [mapM_some_get h j j (by simp [hj]), hv]
theorem weightsAll_mem {H : Type} {e : TypeId} : ∀ {l : List (DataW H)} {d : DataW H}, d ∈ l → (DataW.weightsAll P e l).all (· ≤ reachBytes) = true → (d.weights P e).all (· ≤ reachBytes) = true
  | x :: r, d, hd, h => by
    unfold DataW.weightsAll at h
    rw [List.all_append, Bool.and_eq_true] at h
    rcases List.mem_cons.1 hd with rfl | hd
    · exact h.1
    · exact weightsAll_mem hd h.2
theorem rd_slice {n : Nat} {t e : TypeId} {sz by_ : Nat} [hs : SliceTy P t e sz] [hb : BytesTy P e by_] (hpos : 0 < a.sz) (hr : RdN P n e a) (hby : 0 < by_) : RdN P (n + 1) t (tSl a hpos) := ⟨fun {H enc W cs x} hx hw => by
  obtain ⟨hu, i, hi, _⟩ := sliceOf_spec hs.h
  rcases DataW.trod_slice hu hx with ⟨rfl, rfl⟩ | ⟨A, len, cap, elems, rest, m, hm, rfl, rfl, _, hle, _, hlen, hel, hsp, _⟩
  · exact ⟨[], none, 0, 0, rfl, .nil, Nat.le_refl _⟩
  · obtain rfl : n = m := by omega
    dsimp only at hw
    rw [DataW.weights, hu] at hw
    dsimp only at hw
    rw [List.all_cons, Bool.and_eq_true, List.all_append, Bool.and_eq_true] at hw
    obtain ⟨hw1, hw2, _⟩ := hw
    have hbe : P.bytesOf e = by_ := by have := hb.h; unfold bytesOf at this; unfold Program.bytesOf; rw [this]; rfl
    rw [hbe, List.length_map, List.length_map, decide_eq_true_eq] at hw1
    have hbound : len ≤ 140737488355328 := by
      have h1 : len * 1 ≤ (elems.length + rest.length) * by_ := Nat.mul_le_mul (by omega) hby
      have h2 : reachBytes ≤ 140737488355328 := by decide
      omega
    have hel' : ∀ k, k < len → ∃ y, ∃ cs, W.cells? 0 (A.add (k * P.cellsOf e)) (P.cellsOf e) = some cs ∧ a.rep AnyB W cs y := fun k hk => by
      have h1 := hel k hk
      have hk' : k < elems.length := by omega
      rw [List.getElem?_eq_getElem hk', Option.bind_eq_some_iff] at h1
      obtain ⟨c, hc, ht⟩ := h1
      obtain ⟨y, hy⟩ := hr.h ht (weightsAll_mem (List.mem_map_of_mem (List.getElem_mem hk')) hw2)
      exact ⟨y, c, hc, hy⟩
    obtain ⟨ys, hyl, hy⟩ := list_choose len hel'
    refine ⟨ys, some A, len, cap, rfl, ⟨hyl.symm, hbound, fun k y hky => ?_⟩, hle⟩
    obtain ⟨c, hc, hrep⟩ := hy k y hky
    obtain ⟨hc1, hc2⟩ := cells_at hc
    have hca : P.cellsOf e = a.sz := by rw [← hc1]; exact a.len hrep
    -- the first element's first cell tells the address's form
    have h0 : 0 < len := by have := (List.getElem?_eq_some_iff.1 hky).1; omega
    obtain ⟨y0, c0, hc0, hrep0⟩ := hel' 0 h0
    obtain ⟨hl0, hcell0⟩ := cells_at hc0
    have hl0' : 0 < c0.length := by omega
    have hsp0 := World.cell?_spot (hcell0 0 _ (List.getElem?_eq_getElem hl0'))
    obtain ⟨bk, off, spot⟩ := A
    have hspot : spot = none := by simpa [Addr.add] using hsp0
    subst hspot
    refine ⟨bk, off, c, rfl, trivial, fun j v hv => ?_, hrep⟩
    have := hc2 j v hv
    rw [show (⟨bk, off, none⟩ : Addr) = ad bk off from rfl, add_ad, add_ad, hca] at this
    exact this⟩
instance rd_sl {t e : TypeId} {sz by_ : Nat} [hs : SliceTy P t e sz] [hb : BytesTy P e by_] [hr : Rd P e a] {hpos : 0 < a.sz} [hby : NeZero by_] : Rd P t (tSl a hpos) := ⟨fun n => by
  cases n with
  | zero => exact ⟨fun {H enc W cs x} hx _ => by simp [DataW.trod] at hx⟩
  | succ n => exact rd_slice hpos (hr.h n) (Nat.pos_of_ne_zero hby.out)⟩

/-- A struct's fields, from cell o on. -/
structure RdF (P : Program) (n : Nat) (fs : List Field) (o : Nat) (a : Ty α) : Prop where
  h : ∀ {H : Type} {enc : TypeId × Value → H} {W : World} {cs : List Value}, (∀ f ∈ fs, ∃ x, DataW.trod enc P W 0 (fun _ => true) true n f.type ((cs.drop f.offset).take (P.cellsOf f.type)) = some x ∧ (x.1.weights P f.type).all (· ≤ reachBytes) = true) →
    cs.length = o + a.sz → ∃ y, a.rep AnyB W (cs.drop o) y
theorem take_same {l : List Value} {n m : Nat} (h : (l.take n).length = m) : l.take n = l.take m := by
  rw [List.length_take] at h
  by_cases hn : n ≤ l.length
  · rw [Nat.min_eq_left hn] at h; rw [h]
  · rw [Nat.min_eq_right (by omega)] at h
    rw [List.take_of_length_le (by omega), List.take_of_length_le (by omega)]
theorem RdF.one {n : Nat} {f : Field} {o : Nat} (hr : RdN P n f.type a) (ho : f.offset = o) : RdF P n [f] o a := ⟨fun {H enc W cs} hf hl => by
  obtain ⟨x, hx, hw⟩ := hf f List.mem_cons_self
  obtain ⟨y, hy⟩ := hr.h hx hw
  rw [ho] at hy
  have h2 := take_same (a.len hy)
  rw [h2, List.take_of_length_le (by rw [List.length_drop]; omega)] at hy
  exact ⟨y, hy⟩⟩
theorem RdF.cons {n : Nat} {f : Field} {fs : List Field} {o : Nat} (hr : RdN P n f.type a) (ho : f.offset = o) (hs : RdF P n fs (o + a.sz) b) : RdF P n (f :: fs) o (tPair a b) := ⟨fun {H enc W cs} hf hl => by
  obtain ⟨x, hx, hw⟩ := hf f List.mem_cons_self
  obtain ⟨y, hy⟩ := hr.h hx hw
  rw [ho] at hy
  have h2 := take_same (a.len hy)
  rw [h2] at hy
  obtain ⟨z, hz⟩ := hs.h (fun g hg => hf g (List.mem_cons_of_mem _ hg)) (by rw [hl]; show o + (a.sz + b.sz) = _; omega)
  refine ⟨(y, z), (cs.drop o).take a.sz, cs.drop (o + a.sz), ?_, hy, hz⟩
  rw [← List.drop_drop, List.take_append_drop]⟩
theorem weightsEach_mem {H : Type} : ∀ {ts : List TypeId} {ds : List (DataW H)} {j : Nat} {t : TypeId} {d : DataW H}, ts[j]? = some t → ds[j]? = some d → (DataW.weightsEach P ts ds).all (· ≤ reachBytes) = true → (d.weights P t).all (· ≤ reachBytes) = true := fun h1 h2 h => by
  rw [List.all_eq_true] at h ⊢
  exact fun n hn => h n (DataW.weights_mem_each h1 h2 n hn)
theorem rd_struct {n : Nat} {t : TypeId} {fs : Array Field} (hu : P.underlying t = some (.struct fs)) (hc : P.cellsOf t = a.sz) (hf : RdF P n fs.toList 0 a) : RdN P (n + 1) t a := ⟨fun {H enc W cs x} hx hw => by
  obtain ⟨xs, m, hm, rfl, hl, hxl, hxs⟩ := DataW.trod_struct hu hx
  obtain rfl : n = m := by omega
  dsimp only at hw
  rw [DataW.weights, hu] at hw
  dsimp only at hw
  obtain ⟨y, hy⟩ := hf.h (W := W) (cs := cs) (enc := enc) (fun f hfm => by
    obtain ⟨i, hi⟩ := List.getElem?_of_mem hfm
    have hi' : fs[i]? = some f := by simpa using hi
    have h1 := hxs i f hi'
    have hil : i < xs.length := by have := (Array.getElem?_eq_some_iff.1 hi').1; omega
    rw [List.getElem?_eq_getElem hil] at h1
    exact ⟨_, h1, weightsEach_mem (j := i) (by rw [List.getElem?_map, hi]; rfl) (by rw [List.getElem?_map, List.getElem?_eq_getElem hil]; rfl) hw⟩) (by rw [Nat.zero_add, hl, hc])
  exact ⟨y, by rwa [List.drop_zero] at hy⟩⟩
theorem Rd.struct {t : TypeId} {fs : Array Field} (hu : P.underlying t = some (.struct fs)) (hc : P.cellsOf t = a.sz) (hf : ∀ n, RdF P n fs.toList 0 a) : Rd P t a := ⟨fun n => by
  cases n with
  | zero => exact ⟨fun {H enc W cs x} hx _ => by simp [DataW.trod] at hx⟩
  | succ n => exact rd_struct hu hc (hf n)⟩
/-- The same cells, another Lean type. -/
theorem RdN.map {n : Nat} {t : TypeId} {f : β → α} {g : α → β} (hr : RdN P n t a) (hfg : ∀ x, f (g x) = x) : RdN P n t (tMap a f) := ⟨fun {H enc W cs x} hx hw => by
  obtain ⟨y, hy⟩ := hr.h hx hw
  exact ⟨g y, show a.rep AnyB W cs (f (g y)) from by rw [hfg]; exact hy⟩⟩
theorem Rd.map {t : TypeId} {f : β → α} {g : α → β} (hr : Rd P t a) (hfg : ∀ x, f (g x) = x) : Rd P t (tMap a f) := ⟨fun n => (hr.h n).map hfg⟩

/-! ### an argument -/
variable {H : Type} {enc : TypeId × Value → H} {W : World} {base : Nat} {t : TypeId} {v : Value} {d : DataW H} {ps : List MemPlace}
theorem Rd.arg (hr : Rd P t a) (h : DataW.Trod enc P W 0 (fun _ => true) true t v d ps) (hw : (d.weights P t).all (· ≤ reachBytes) = true) : ∃ y, a.rep AnyB W v.cells.toList y := by
  obtain ⟨n, hn⟩ := h
  exact (hr.h n).h hn hw
theorem arg_slice {e : TypeId} {sz : Nat} [hs : SliceTy P t e sz] {hpos : 0 < a.sz} (hr : Rd P t (tSl a hpos)) (hv : Value.okWide P W .any base t v) (h : DataW.Trod enc P W 0 (fun _ => true) true t v d ps) (hw : (d.weights P t).all (· ≤ reachBytes) = true) :
    ∃ A n c xs, v = .slice A n c ∧ SlR a AnyB W A n xs ∧ n ≤ c := by
  obtain ⟨hu, _⟩ := sliceOf_spec hs.h
  obtain ⟨xs, A, n, c, hcs, h1, h2⟩ := hr.arg h hw
  obtain ⟨A', n', c', rfl⟩ := Go.WideShapes.okWide_slice hu hv
  have : Value.slice A' n' c' = .slice A n c := by simpa [Value.cells] using hcs
  exact ⟨A, n, c, xs, this, h1, h2⟩
theorem arg_agg {n : Nat} [ht : AggTy P t n] (hr : Rd P t a) (hv : Value.okWide P W .any base t v) (h : DataW.Trod enc P W 0 (fun _ => true) true t v d ps) (hw : (d.weights P t).all (· ≤ reachBytes) = true) :
    ∃ cs y, v = .agg cs.toArray ∧ a.rep AnyB W cs y := by
  obtain ⟨⟨dd, hu, hd⟩, _⟩ := aggSize_spec ht.h
  obtain ⟨y, hy⟩ := hr.arg h hw
  unfold Value.okWide at hv
  rw [hu] at hv
  have : ∃ cs, v = .agg cs := by
    cases dd <;> simp at hd
    all_goals (obtain ⟨cs, h1, _⟩ := hv; exact ⟨cs, h1⟩)
  obtain ⟨cs, rfl⟩ := this
  exact ⟨cs.toList, y, by simp, by simpa [Value.cells] using hy⟩
theorem arg_k {k : IntKind} [ht : IntTy P t k] (hv : Value.okWide P W .any base t v) (h : DataW.Trod enc P W 0 (fun _ => true) true t v d ps) : ∃ z, v = .int k z ∧ (Lit.int k z).wf = true := by
  obtain ⟨n, hn⟩ := h
  obtain ⟨z, e1, _, hw⟩ := DataW.trod_int (intOf_spec ht.h) hn
  obtain ⟨z', rfl⟩ := Go.WideShapes.okWide_int (intOf_spec ht.h) hv
  have : Value.int k z' = .int k z := by simpa [Value.cells] using e1
  exact ⟨z, this, hw⟩
end

/-! ### from a contract of this layer to the kit's -/
section
variable {P : Program}
theorem CallZ.calls {f : FuncId} {args : Array Value} {W : World} {R : VK} (h : CallZ P f args (z W) R) : Calls P f args W (fun e W' => ∃ v, e = .returned v ∧ R v (z W')) := callsIn_wide.1 (h W rfl)
theorem Ext.below {W W' : World} (h : Ext (z W) (z W')) : Below W.heap.size W W' := ⟨h.os, h.tape, h.output, h.size, fun k hk => h.blk k hk trivial⟩
end
end Go.Proofs.YtpmmhcgghldaaaaDoor
