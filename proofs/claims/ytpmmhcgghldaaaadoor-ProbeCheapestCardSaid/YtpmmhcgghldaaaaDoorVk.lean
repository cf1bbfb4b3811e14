/- Own layer, part k: maps whose keys are numbers. Nothing of the program stands here. -/
import Derived.Test.YtpmmhcgghldaaaaDoorVj
import Derived.MapKept
namespace Go.Proofs.YtpmmhcgghldaaaaDoor
open Go Go.RowKit Classical

/-- What a map's entries say of a key. -/
noncomputable def look (kd : IntKind) : List MapEntry → Int → Option Value
  | [], _ => none
  | e :: r, k => if e.key = .int kd k then some e.val else look kd r k
def KeysI (kd : IntKind) (L : List MapEntry) : Prop := ∀ e ∈ L, ∃ a, e.key = .int kd a
/-- Block g is a map that says f. -/
def MapFn (kd : IntKind) (w : World) (g : Nat) (f : Int → Option Value) : Prop := ∃ (L : List MapEntry) (clock : Nat), w.heap[g]? = some (.map L.toArray clock) ∧ KeysI kd L ∧ ∀ k, look kd L k = f k
theorem MapFn.lt {kd : IntKind} {w : World} {g : Nat} {f : Int → Option Value} (h : MapFn kd w g f) : g < w.heap.size := by obtain ⟨L, c, h, _⟩ := h; exact (Array.getElem?_eq_some_iff.1 h).1
theorem MapFn.kept {kd : IntKind} {D : Nat → Prop} {w w' : World} {g : Nat} {f : Int → Option Value} (h : MapFn kd w g f) (k : Kept D w w') (hD : D g) : MapFn kd w' g f := by
  have hlt := h.lt
  obtain ⟨L, c, h1, h2⟩ := h
  exact ⟨L, c, (k.blk g hlt hD).trans h1, h2⟩
theorem MapFn.new (kd : IntKind) (w : World) : MapFn kd (w.alloc (.map #[] 0)) w.heap.size (fun _ => none) := ⟨[], 0, by unfold World.alloc; simp, fun _ h => (by cases h), fun _ => rfl⟩

section
variable {P : Program}
def intKey (P : Program) (t : TypeId) (kd : IntKind) : Bool := match P.underlying t with | some (.map k _) => (match P.underlying k with | some (.int d) => Nat.beq (kno d) (kno kd) | _ => false) | _ => false
theorem intKey_spec {t k e : TypeId} {kd : IntKind} (hm : mapOf P t = some (k, e)) (h : intKey P t kd = true) : P.underlying t = some (.map k e) ∧ P.underlying k = some (.int kd) := by
  unfold mapOf at hm
  split at hm
  · rename_i k' e' hu
    simp only [Option.some.injEq, Prod.mk.injEq] at hm
    obtain ⟨rfl, rfl⟩ := hm
    unfold intKey at h
    rw [hu] at h
    refine ⟨hu, ?_⟩
    dsimp only at h
    split at h
    · rename_i d hd; rw [hd, kno_inj h]
    · cases h
  · cases hm

theorem findNow_int {kd : IntKind} {k : Int} : ∀ (L : List MapEntry) (i : Nat), KeysI kd L →
    (look kd L k = none ∧ Instr.findNow (.int kd) (.int kd k) L i = some none) ∨
    (∃ j v, look kd L k = some v ∧ Instr.findNow (.int kd) (.int kd k) L i = some (some (i + j, v)) ∧ ∃ e, L[j]? = some e ∧ e.key = .int kd k)
  | [], i, _ => .inl ⟨rfl, rfl⟩
  | e :: r, i, h => by
    obtain ⟨a, ha⟩ := h e List.mem_cons_self
    have hr : KeysI kd r := fun x hx => h x (List.mem_cons_of_mem _ hx)
    unfold look Instr.findNow
    rw [ha]
    simp only [Instr.sameNow, if_true]
    by_cases hk : k = a
    · subst hk
      right
      refine ⟨0, e.val, by simp, by simp, e, rfl, ha⟩
    · have h1 : ¬ (Value.int kd a = Value.int kd k) := fun e => by injection e with _ e; exact hk e.symm
      have h2 : (k == a) = false := beq_eq_false_iff_ne.2 hk
      rw [if_neg h1, h2]
      rcases findNow_int r (i + 1) hr with h | ⟨j, v, h3, h4, x, h5, h6⟩
      · exact .inl h
      · refine .inr ⟨j + 1, v, h3, ?_, x, by simpa using h5, h6⟩
        rw [h4, show i + 1 + j = i + (j + 1) from by omega]

theorem run_checkKey_int {key : TypeId} {kd : IntKind} (hk : P.underlying key = some (.int kd)) (b : Bool) (k : Int) (w : World) : (Instr.checkKey b 10000 key (.int kd k)).run P w = .ok () w := by
  rw [show (10000 : Nat) = 9999 + 1 from rfl]
  unfold Instr.checkKey
  rw [Sem.run_bind, run_underlying hk]
  rfl
theorem run_findKey_int {key : TypeId} {kd : IntKind} (hk : P.underlying key = some (.int kd)) {k : Int} {L : List MapEntry} {r : Option (Nat × Value)} (h : Instr.findNow (.int kd) (.int kd k) L 0 = some r) (w : World) : (Instr.findKey key (.int kd k) L).run P w = .ok r w := by
  unfold Instr.findKey
  rw [Sem.run_bind, run_underlying hk]
  simp only [Result.andThen_ok, h, Sem.run_pure]

/-- A look into a map: the key is there, or not. -/
theorem run_lookup_int {t k e : TypeId} {kd : IntKind} {zv : Value} (hm : P.underlying t = some (.map k e)) (hk : P.underlying k = some (.int kd)) (hz : zeroOf P e = some zv) {w : World} {g : Nat} {f : Int → Option Value} (h : MapFn kd w g f) (i : Int) (ok : Bool) :
    (Instr.lookup t (.map (some g)) (.int kd i) ok).run P w = .ok (match f i with | some v => (if ok then .tuple #[v, .bool true] else v) | none => (if ok then .tuple #[zv, .bool false] else zv)) w := by
  obtain ⟨L, c, hb, hL, hf⟩ := h
  unfold Instr.lookup
  simp only [Sem.run_bind, run_underlying hm, Result.andThen_ok, MapKept.run_getObj_map hb, Sem.run_pure, run_checkKey_int hk]
  rcases findNow_int (kd := kd) (k := i) L 0 hL with ⟨h1, h2⟩ | ⟨j, v, h1, h2, _⟩
  · rw [← hf, h1, run_findKey_int hk h2]
    simp only [Result.andThen_ok, Sem.run_bind, run_zeroValue' hz, Sem.run_pure]
  · rw [← hf, h1, run_findKey_int hk h2]
    simp only [Result.andThen_ok, Sem.run_bind, Sem.run_pure]

theorem lookT {S : World → Prop} {t k e : TypeId} {kd : IntKind} {zv : Value} [hm : MapTy P t k e] [hz : ZeroTy P e zv] {g : Nat} {f : Int → Option Value} {i : Int} {K : Value → Prop} (v : Value) (h : ∀ u, S u → MapFn kd u g f) (hi : f i = some v) (kk : K (.tuple #[v, .bool true])) (hk : intKey P t kd = true := by kernel_rfl) : LookG P S t (.map (some g)) (.int kd i) true K := by
  rw [LookG_eq]
  obtain ⟨h1, h2⟩ := intKey_spec hm.h hk
  refine ⟨_, fun w hw w0 e0 => ?_, kk⟩
  subst e0
  have := run_lookup_int h1 h2 hz.h (w := w0) (show MapFn kd w0 g f from h (z w0) hw) i true
  rw [hi] at this
  rw [run_vS, this]; exact ⟨rfl, rfl⟩
theorem lookF {S : World → Prop} {t k e : TypeId} {kd : IntKind} {zv : Value} [hm : MapTy P t k e] [hz : ZeroTy P e zv] {g : Nat} {f : Int → Option Value} {i : Int} {K : Value → Prop} (h : ∀ u, S u → MapFn kd u g f) (hi : f i = none) (kk : K (.tuple #[zv, .bool false])) (hk : intKey P t kd = true := by kernel_rfl) : LookG P S t (.map (some g)) (.int kd i) true K := by
  rw [LookG_eq]
  obtain ⟨h1, h2⟩ := intKey_spec hm.h hk
  refine ⟨_, fun w hw w0 e0 => ?_, kk⟩
  subst e0
  have := run_lookup_int h1 h2 hz.h (w := w0) (show MapFn kd w0 g f from h (z w0) hw) i true
  rw [hi] at this
  rw [run_vS, this]; exact ⟨rfl, rfl⟩
/-- .. the value alone. -/
theorem look1 {S : World → Prop} {t k e : TypeId} {kd : IntKind} {zv : Value} [hm : MapTy P t k e] [hz : ZeroTy P e zv] {g : Nat} {f : Int → Option Value} {i : Int} {K : Value → Prop} (v : Value) (h : ∀ u, S u → MapFn kd u g f) (hi : (f i).getD zv = v) (kk : K v) (hk : intKey P t kd = true := by kernel_rfl) : LookG P S t (.map (some g)) (.int kd i) false K := by
  rw [LookG_eq]
  obtain ⟨h1, h2⟩ := intKey_spec hm.h hk
  refine ⟨v, fun w hw w0 e0 => ?_, kk⟩
  subst e0
  have := run_lookup_int h1 h2 hz.h (w := w0) (show MapFn kd w0 g f from h (z w0) hw) i false
  rw [run_vS, this]
  cases hf : f i with
  | none => rw [hf] at hi; exact ⟨hi, rfl⟩
  | some x => rw [hf] at hi; exact ⟨hi, rfl⟩

/-! ### a map's entry set -/
def fset (f : Int → Option Value) (k : Int) (v : Value) : Int → Option Value := fun j => if j = k then some v else f j
theorem look_push {kd : IntKind} {x : MapEntry} {i : Int} (hx : x.key = .int kd i) : ∀ (L : List MapEntry), look kd L i = none → ∀ j, look kd (L ++ [x]) j = fset (look kd L) i x.val j
  | [], _, j => by
    unfold fset
    show (if x.key = .int kd j then some x.val else none) = if j = i then some x.val else none
    rw [hx]
    by_cases h : j = i
    · subst h; simp
    · have : ¬ (Value.int kd i = Value.int kd j) := fun e => by injection e with _ e; exact h e.symm
      rw [if_neg this, if_neg h]
  | e :: r, hn, j => by
    rw [look] at hn
    split at hn
    · cases hn
    rename_i hne
    rw [List.cons_append, look, look_push hx r hn j]
    unfold fset
    rw [look]
    by_cases h : j = i
    · subst h; rw [if_neg hne, if_pos rfl, if_pos rfl]
    · simp only [if_neg h]
theorem look_modify {kd : IntKind} {i : Int} {v : Value} : ∀ (L : List MapEntry) (j : Nat) (x : MapEntry), L[j]? = some x → x.key = .int kd i → (∀ m y, m < j → L[m]? = some y → y.key ≠ .int kd i) →
    ∀ k, look kd (L.modify j fun e => { e with key := .int kd i, val := v }) k = fset (look kd L) i v k
  | [], j, x, h, _, _, k => by simp at h
  | e :: r, 0, x, h, hx, _, k => by
    simp at h; subst h
    show (if Value.int kd i = .int kd k then some v else look kd r k) = fset (look kd (e :: r)) i v k
    unfold fset
    by_cases hk : k = i
    · subst hk; simp
    · have : ¬ (Value.int kd i = Value.int kd k) := fun e => by injection e with _ e; exact hk e.symm
      rw [if_neg this, if_neg hk, look, hx, if_neg this]
  | e :: r, j + 1, x, h, hx, hn, k => by
    have hne := hn 0 e (by omega) rfl
    show (if e.key = .int kd k then some e.val else look kd (r.modify j _) k) = fset (look kd (e :: r)) i v k
    rw [look_modify r j x (by simpa using h) hx (fun m y hm hy => hn (m + 1) y (by omega) (by simpa using hy)) k]
    unfold fset
    by_cases hk : k = i
    · subst hk; rw [if_neg hne, if_pos rfl, if_pos rfl]
    · simp only [if_neg hk]; rfl
theorem findNow_first {kd : IntKind} {k : Int} : ∀ (L : List MapEntry) (i j : Nat) (v : Value), KeysI kd L → Instr.findNow (.int kd) (.int kd k) L i = some (some (i + j, v)) → ∀ m y, m < j → L[m]? = some y → y.key ≠ .int kd k
  | [], i, j, v, _, h => by simp [Instr.findNow] at h
  | e :: r, i, j, v, hL, h => by
    obtain ⟨a, ha⟩ := hL e List.mem_cons_self
    unfold Instr.findNow at h
    rw [ha] at h
    simp only [Instr.sameNow, if_true] at h
    by_cases hk : k = a
    · subst hk
      simp at h
      intro m y hm; omega
    · have h2 : (k == a) = false := beq_eq_false_iff_ne.2 hk
      rw [h2] at h
      intro m y hm hy
      cases m with
      | zero => simp at hy; subst hy; rw [ha]; intro e; injection e with _ e; exact hk e.symm
      | succ m =>
        have hj : i + j = i + 1 + (j - 1) := by omega
        rw [hj] at h
        exact findNow_first r (i + 1) (j - 1) v (fun x hx => hL x (List.mem_cons_of_mem _ hx)) h m y (by omega) (by simpa using hy)

theorem mupd {t k e : TypeId} {kd : IntKind} [hm : MapTy P t k e] {g : Nat} {f : Int → Option Value} {i : Int} {v : Value} {w : World} {K : VK} (h : MapFn kd w g f) (kk : ∀ w', MapFn kd w' g (fset f i v) → Kept (fun b => b ≠ g) w w' → w'.heap.size = w.heap.size → K undef w') (hk : intKey P t kd = true := by kernel_rfl) : MUpdP P t (.map (some g)) (.int kd i) v K w := by
  rw [MUpdP_eq]
  intro w0 hw
  subst hw
  obtain ⟨h1, h2⟩ := intKey_spec hm.h hk
  obtain ⟨L, c, hb, hL, hf⟩ := h
  have hb : w0.heap[g]? = some (.map L.toArray c) := hb
  have hlt := (Array.getElem?_eq_some_iff.1 hb).1
  have key : ∀ (L' : List MapEntry) (c' : Nat), KeysI kd L' → (∀ j, look kd L' j = fset (look kd L) i v j) → (uS (Instr.mapUpdate t (.map (some g)) (.int kd i) v)).run P w0 = .ok .skip { w0 with heap := w0.heap.setIfInBounds g (.map L'.toArray c') } → uponZ P K ((uS (Instr.mapUpdate t (.map (some g)) (.int kd i) v)).run P w0) := by
    intro L' c' hL' hf' hr
    rw [hr]
    refine kk (z { w0 with heap := w0.heap.setIfInBounds g (.map L'.toArray c') }) ⟨L', c', by simp [z, hlt], hL', fun j => ?_⟩ ⟨rfl, rfl, rfl, by simp [z], fun b hb1 hne => ?_⟩ (by simp [z])
    · rw [hf']; unfold fset; rw [hf]
    · show (w0.heap.setIfInBounds g _)[b]? = w0.heap[b]?
      rw [Array.getElem?_setIfInBounds_ne (fun e => hne e.symm)]
  rcases findNow_int (kd := kd) (k := i) L 0 hL with ⟨h3, h4⟩ | ⟨j, v0, h3, h4, x, h5, h6⟩
  · refine key (L ++ [{ key := .int kd i, val := v, born := c }]) (c + 1) (fun y hy => ?_) (look_push (x := { key := .int kd i, val := v, born := c }) rfl L h3) ?_
    · rcases List.mem_append.1 hy with h | h
      · exact hL y h
      · simp at h; subst h; exact ⟨i, rfl⟩
    · unfold uS Instr.mapUpdate
      simp only [Sem.run_bind, run_underlying h1, Result.andThen_ok, MapKept.run_getObj_map hb, run_checkKey_int h2, run_findKey_int h2 h4, MapKept.run_setObj_map _ hb, Sem.run_pure]
      simp
  · have hfst := findNow_first L 0 j v0 hL h4
    rw [Nat.zero_add] at h4
    refine key (L.modify j fun e => { e with key := .int kd i, val := v }) c (fun y hy => ?_) (look_modify L j x h5 h6 hfst) ?_
    · obtain ⟨m, hm'⟩ := List.getElem?_of_mem hy
      rw [List.getElem?_modify] at hm'
      cases hLm : L[m]? with
      | none => rw [hLm] at hm'; cases hm'
      | some y0 =>
        rw [hLm] at hm'
        simp only [Option.map_eq_map, Option.map_some, Option.some.injEq] at hm'
        subst hm'
        split
        · exact ⟨i, rfl⟩
        · exact hL y0 (List.mem_of_getElem? hLm)
    · unfold uS Instr.mapUpdate
      have hkey : ((L.toArray[j]?).map (·.key)).getD (.int kd i) = .int kd i := by simp [h5, h6]
      have hsame : Instr.sameBits 10000 (.int kd i) (.int kd i) = true := by simp [Instr.sameBits]
      simp only [Sem.run_bind, run_underlying h1, Result.andThen_ok, MapKept.run_getObj_map hb, run_checkKey_int h2, run_findKey_int h2 h4, hkey, Instr.keyThatStays, hsame, if_true, Sem.run_pure, MapKept.run_setObj_map _ hb]
      simp
end
end Go.Proofs.YtpmmhcgghldaaaaDoor
