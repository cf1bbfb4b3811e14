/- Parts of the proof: Vs Vt Vu Vw Vx Vy. -/
import Derived.Test.YtcpogcdadlcdaaaGreatM3
import Derived.MapKept
import Derived.Laws.AppendOwn
import Derived.Maps.RangeRun

/- Own layer, part s: maps, whatever their keys. Nothing of the program stands here. -/
namespace Go.Proofs.YtcpogcdadlcdaaaGreat
open Go Go.RowKit Classical

abbrev mkE (k v : Value) (c : Nat) : MapEntry := { key := k, val := v, born := c }
noncomputable def findP (v : Value) : List MapEntry → Nat → Option (Nat × Value)
  | [], _ => none
  | e :: r, i => if e.key = v then some (i, e.val) else findP v r (i + 1)
theorem findP_none {v : Value} : ∀ {L : List MapEntry} {i : Nat}, findP v L i = none ↔ ∀ e ∈ L, e.key ≠ v
  | [], _ => by simp [findP]
  | e :: r, i => by
    unfold findP
    by_cases h : e.key = v
    · simp [h]
    · rw [if_neg h, findP_none]; simp [h]
theorem findP_some {v x : Value} {n : Nat} : ∀ {L : List MapEntry} {i : Nat}, findP v L i = some (n, x) → ∃ j e, n = i + j ∧ L[j]? = some e ∧ e.key = v ∧ e.val = x ∧ ∀ m y, m < j → L[m]? = some y → y.key ≠ v
  | [], _, h => by simp [findP] at h
  | e :: r, i, h => by
    unfold findP at h
    by_cases hk : e.key = v
    · rw [if_pos hk] at h
      simp only [Option.some.injEq, Prod.mk.injEq] at h
      exact ⟨0, e, h.1.symm, rfl, hk, h.2, fun m y hm => by omega⟩
    · rw [if_neg hk] at h
      obtain ⟨j, e', h1, h2, h3, h4, h5⟩ := findP_some h
      refine ⟨j + 1, e', by omega, by simpa using h2, h3, h4, fun m y hm hy => ?_⟩
      cases m with
      | zero => simp at hy; subst hy; exact hk
      | succ m => exact h5 m y (by omega) (by simpa using hy)
noncomputable def lookP (v : Value) (L : List MapEntry) : Option Value := (findP v L 0).map (·.2)
theorem findP_val (v : Value) : ∀ (L : List MapEntry) (i j : Nat), (findP v L i).map (·.2) = (findP v L j).map (·.2)
  | [], _, _ => rfl
  | e :: r, i, j => by
    unfold findP
    split
    · rfl
    · exact findP_val v r _ _
theorem lookP_cons (v : Value) (e : MapEntry) (r : List MapEntry) : lookP v (e :: r) = if e.key = v then some e.val else lookP v r := by
  unfold lookP
  rw [findP]
  split
  · rfl
  · exact findP_val v r _ _
theorem lookP_none {v : Value} {L : List MapEntry} : lookP v L = none ↔ findP v L 0 = none := by unfold lookP; simp
theorem lookP_push {v : Value} {x : MapEntry} : ∀ (L : List MapEntry), lookP x.key L = none → lookP v (L ++ [x]) = if x.key = v then some x.val else lookP v L
  | [], _ => by rw [List.nil_append, lookP_cons]
  | e :: r, h => by
    rw [lookP_cons] at h
    split at h
    · cases h
    rename_i hne
    rw [List.cons_append, lookP_cons, lookP_cons, lookP_push r h]
    by_cases h1 : e.key = v
    · rw [if_pos h1, if_pos h1]
      subst h1
      rw [if_neg (fun e => hne e.symm)]
    · rw [if_neg h1, if_neg h1]
theorem lookP_modify {k v u : Value} : ∀ (L : List MapEntry) (j : Nat) (e : MapEntry), L[j]? = some e → e.key = k → (∀ m y, m < j → L[m]? = some y → y.key ≠ k) →
    lookP u (L.modify j fun e => { e with val := v }) = if k = u then some v else lookP u L
  | [], j, e, h, _, _ => by simp at h
  | x :: r, 0, e, h, hk, _ => by
    simp at h; subst h
    show lookP u ({ x with val := v } :: r) = _
    rw [lookP_cons, lookP_cons, hk]
    by_cases h : k = u
    · rw [if_pos h, if_pos h]
    · rw [if_neg h, if_neg h, if_neg h]
  | x :: r, j + 1, e, h, hk, hn => by
    have hne := hn 0 x (by omega) rfl
    show lookP u (x :: r.modify j _) = _
    rw [lookP_cons, lookP_cons, lookP_modify r j e (by simpa using h) hk (fun m y hm hy => hn (m + 1) y (by omega) (by simpa using hy))]
    by_cases h : k = u
    · subst h; rw [if_pos rfl, if_neg hne, if_pos rfl]
    · rw [if_neg h, if_neg h]
/-- What the rules ask of a type of keys. -/
class KeyL (P : Program) (k : TypeId) {κ : Type} (kv : κ → Value) : Prop where
  inj : ∀ a b, kv a = kv b → a = b
  chk : ∀ (b : Bool) (a : κ) (w : World), (Instr.checkKey b 10000 k (kv a)).run P w = .ok () w
  bits : ∀ a, Instr.sameBits 10000 (kv a) (kv a) = true
  fnd : ∀ (a : κ) (L : List MapEntry) (w : World), (∀ e ∈ L, ∃ q, e.key = kv q) → (Instr.findKey k (kv a) L).run P w = .ok (findP (kv a) L 0) w
def BornL (L : List MapEntry) (c : Nat) : Prop := ∀ (i : Nat) (e : MapEntry), L[i]? = some e → e.born < c ∧ ∀ (j : Nat) (e' : MapEntry), L[j]? = some e' → e'.born = e.born → j = i
/-- A map's entries. -/
structure Ents {κ : Type} (kv : κ → Value) (w : World) (g : Nat) (L : List MapEntry) (c : Nat) : Prop where
  at_ : w.heap[g]? = some (.map L.toArray c)
  keys : ∀ e ∈ L, ∃ q, e.key = kv q
  born : BornL L c
/-- Block g is a map that says f. -/
def MapG {κ : Type} (kv : κ → Value) (w : World) (g : Nat) (f : κ → Option Value) : Prop := ∃ L c, Ents kv w g L c ∧ ∀ a, lookP (kv a) L = f a
/-- .. and the entry of a has the stamp s. -/
def MapS {κ : Type} (kv : κ → Value) (w : World) (g : Nat) (f : κ → Option Value) (a : κ) (s : Nat) : Prop := ∃ L c, Ents kv w g L c ∧ (∀ a, lookP (kv a) L = f a) ∧
  ∃ (j : Nat) (e : MapEntry), L[j]? = some e ∧ e.key = kv a ∧ e.born = s ∧ ∀ (m : Nat) (y : MapEntry), m < j → L[m]? = some y → y.key ≠ kv a
section
variable {P : Program} {κ : Type} {kv : κ → Value}
theorem MapS.g {w : World} {g s : Nat} {f : κ → Option Value} {a : κ} (h : MapS kv w g f a s) : MapG kv w g f := by obtain ⟨L, c, h1, h2, _⟩ := h; exact ⟨L, c, h1, h2⟩
theorem MapG.lt {w : World} {g : Nat} {f : κ → Option Value} (h : MapG kv w g f) : g < w.heap.size := by obtain ⟨L, c, h, _⟩ := h; exact (Array.getElem?_eq_some_iff.1 h.at_).1
theorem Ents.kept {D : Nat → Prop} {w w' : World} {g : Nat} {L : List MapEntry} {c : Nat} (h : Ents kv w g L c) (k : Kept D w w') (hD : D g) : Ents kv w' g L c :=
  ⟨(k.blk g (Array.getElem?_eq_some_iff.1 h.at_).1 hD).trans h.at_, h.keys, h.born⟩
theorem MapG.kept {D : Nat → Prop} {w w' : World} {g : Nat} {f : κ → Option Value} (h : MapG kv w g f) (k : Kept D w w') (hD : D g) : MapG kv w' g f := by
  obtain ⟨L, c, h1, h2⟩ := h; exact ⟨L, c, h1.kept k hD, h2⟩
theorem MapS.kept {D : Nat → Prop} {w w' : World} {g s : Nat} {f : κ → Option Value} {a : κ} (h : MapS kv w g f a s) (k : Kept D w w') (hD : D g) : MapS kv w' g f a s := by
  obtain ⟨L, c, h1, h2⟩ := h; exact ⟨L, c, h1.kept k hD, h2⟩
theorem MapG.new (kv : κ → Value) (w : World) : MapG kv (w.alloc (.map #[] 0)) w.heap.size (fun _ => none) := ⟨[], 0, ⟨by unfold World.alloc; simp, fun _ h => (by cases h), fun i e h => by simp at h⟩, fun _ => rfl⟩
noncomputable def pset (f : κ → Option Value) (a : κ) (v : Value) : κ → Option Value := fun b => if b = a then some v else f b

theorem mapOf_spec {t k e : TypeId} (hm : mapOf P t = some (k, e)) : P.underlying t = some (.map k e) := by
  unfold mapOf at hm
  split at hm
  · rename_i k' e' hu
    simp only [Option.some.injEq, Prod.mk.injEq] at hm
    obtain ⟨rfl, rfl⟩ := hm
    exact hu
  · cases hm
theorem run_lookupG {t k e : TypeId} {zv : Value} (hm : P.underlying t = some (.map k e)) [hk : KeyL P k kv] (hz : zeroOf P e = some zv) {w : World} {g : Nat} {f : κ → Option Value} (h : MapG kv w g f) (a : κ) (ok : Bool) :
    (Instr.lookup t (.map (some g)) (kv a) ok).run P w = .ok (match f a with | some v => (if ok then .tuple #[v, .bool true] else v) | none => (if ok then .tuple #[zv, .bool false] else zv)) w := by
  obtain ⟨L, c, hE, hf⟩ := h
  unfold Instr.lookup
  simp only [Sem.run_bind, run_underlying hm, Result.andThen_ok, MapKept.run_getObj_map hE.at_, Sem.run_pure, hk.chk]
  have hfn := hk.fnd a L w hE.keys
  rw [← hf a, hfn]
  unfold lookP
  cases hp : findP (kv a) L 0 with
  | none => simp only [Result.andThen_ok, Sem.run_bind, run_zeroValue' hz, Sem.run_pure, Option.map_none]
  | some p => obtain ⟨n, x⟩ := p; simp only [Result.andThen_ok, Sem.run_bind, Sem.run_pure, Option.map_some]
/-- A look into a map, the value alone. -/
theorem lookG1 {S : World → Prop} {t k e : TypeId} {zv : Value} [hm : MapTy P t k e] [hk : KeyL P k kv] [hz : ZeroTy P e zv] {g : Nat} (a : κ) {K : Value → Prop} (v : Value) (h : ∀ u, S u → ∃ f : κ → Option Value, MapG kv u g f ∧ (f a).getD zv = v) (kk : K v) : LookG P S t (.map (some g)) (kv a) false K := by
  rw [LookG_eq]
  refine ⟨v, fun w hw w0 e0 => ?_, kk⟩
  subst e0
  obtain ⟨f, h1, h2⟩ := h _ hw
  have := run_lookupG (mapOf_spec hm.h) hz.h (w := w0) (show MapG kv w0 g f from by obtain ⟨L, c, hE, hf⟩ := h1; exact ⟨L, c, ⟨hE.at_, hE.keys, hE.born⟩, hf⟩) a false
  rw [run_vS, this]
  cases hf : f a with
  | none => rw [hf] at h2; exact ⟨h2, rfl⟩
  | some x => rw [hf] at h2; exact ⟨h2, rfl⟩
theorem BornL.push {L : List MapEntry} {c : Nat} (h : BornL L c) (k v : Value) : BornL (L ++ [(mkE (k) v c)]) (c + 1) := by
  intro i e he
  have hi : i < L.length + 1 := by have := (List.getElem?_eq_some_iff.1 he).1; simpa using this
  by_cases h1 : i < L.length
  · rw [List.getElem?_append_left h1] at he
    obtain ⟨h2, h3⟩ := h i e he
    refine ⟨by omega, fun j e' hj hb => ?_⟩
    by_cases h4 : j < L.length
    · rw [List.getElem?_append_left h4] at hj
      exact h3 j e' hj hb
    · rw [List.getElem?_append_right (by omega)] at hj
      have : e' = (mkE (k) v c) := by
        have hl := (List.getElem?_eq_some_iff.1 hj).1
        have : j - L.length = 0 := by simpa using hl
        rw [this] at hj; simpa using hj.symm
      subst this
      simp only at hb
      omega
  · have hi' : i = L.length := by omega
    subst hi'
    have he' : e = (mkE (k) v c) := by rw [List.getElem?_append_right (by omega)] at he; simpa using he.symm
    subst he'
    refine ⟨Nat.lt_succ_self c, fun j e' hj hb => ?_⟩
    by_cases h4 : j < L.length
    · rw [List.getElem?_append_left h4] at hj
      have := (h j e' hj).1
      simp only at hb
      omega
    · have := (List.getElem?_eq_some_iff.1 hj).1
      simp at this
      omega
theorem BornL.modify {L : List MapEntry} {c : Nat} (h : BornL L c) (j : Nat) (v : Value) : BornL (L.modify j fun e => { e with val := v }) c := by
  have key : ∀ (i : Nat) (e : MapEntry), (L.modify j fun e => { e with val := v })[i]? = some e → ∃ e0, L[i]? = some e0 ∧ e.born = e0.born := by
    intro i e he
    rw [List.getElem?_modify] at he
    cases hL : L[i]? with
    | none => rw [hL] at he; cases he
    | some e0 =>
      rw [hL] at he
      simp only [Option.map_eq_map, Option.map_some, Option.some.injEq] at he
      refine ⟨e0, rfl, ?_⟩
      subst he
      split <;> rfl
  intro i e he
  obtain ⟨e0, h1, h2⟩ := key i e he
  obtain ⟨h3, h4⟩ := h i e0 h1
  refine ⟨by omega, fun j' e' hj hb => ?_⟩
  obtain ⟨e1, h5, h6⟩ := key j' e' hj
  exact h4 j' e1 h5 (by omega)
theorem keys_modify {L : List MapEntry} (h : ∀ e ∈ L, ∃ q, e.key = kv q) (j : Nat) (v : Value) : ∀ e ∈ (L.modify j fun e => { e with val := v }), ∃ q, e.key = kv q := by
  intro y hy
  obtain ⟨m, hm'⟩ := List.getElem?_of_mem hy
  rw [List.getElem?_modify] at hm'
  cases hLm : L[m]? with
  | none => rw [hLm] at hm'; cases hm'
  | some y0 =>
    rw [hLm] at hm'
    simp only [Option.map_eq_map, Option.map_some, Option.some.injEq] at hm'
    obtain ⟨q, hq⟩ := h y0 (List.mem_of_getElem? hLm)
    refine ⟨q, ?_⟩
    subst hm'
    split
    · exact hq
    · exact hq
theorem modify_same {L : List MapEntry} {j : Nat} {e : MapEntry} {k : Value} (h : L[j]? = some e) (hk : e.key = k) : (L.modify j fun e => { e with key := k }) = L := by
  apply List.ext_getElem?
  intro m
  rw [List.getElem?_modify]
  by_cases hm : j = m
  · subst hm
    rw [h]; subst hk; simp
  · cases L[m]? <;> simp [hm]
theorem modify_both {L : List MapEntry} {j : Nat} {e : MapEntry} {k v : Value} (h : L[j]? = some e) (hk : e.key = k) : (L.modify j fun e => { e with key := k, val := v }) = L.modify j fun e => { e with val := v } := by
  apply List.ext_getElem?
  intro m
  rw [List.getElem?_modify, List.getElem?_modify]
  by_cases hm : j = m
  · subst hm
    rw [h]; subst hk; rfl
  · cases L[m]? <;> simp [hm]
theorem heap_set {w0 : World} {g : Nat} {L : List MapEntry} {c : Nat} {o : Obj} (hb : w0.heap[g]? = some (.map L.toArray c)) : Kept (fun b => b ≠ g) (z w0) (z { w0 with heap := w0.heap.setIfInBounds g o }) ∧ (z { w0 with heap := w0.heap.setIfInBounds g o }).heap[g]? = some o := by
  have hlt := (Array.getElem?_eq_some_iff.1 hb).1
  exact ⟨⟨rfl, rfl, rfl, by simp [z], fun b hb1 hne => by
    show (w0.heap.setIfInBounds g _)[b]? = w0.heap[b]?
    rw [Array.getElem?_setIfInBounds_ne (fun e => hne e.symm)]⟩, by simp [z, hlt]⟩
/-- A map's entry set. -/
theorem mupdG {t k e : TypeId} [hm : MapTy P t k e] [hk : KeyL P k kv] {g : Nat} {f : κ → Option Value} (a : κ) {v : Value} {w : World} {K : VK} (h : MapG kv w g f) (kk : ∀ w', MapG kv w' g (pset f a v) → Kept (fun b => b ≠ g) w w' → w'.heap.size = w.heap.size → K undef w') : MUpdP P t (.map (some g)) (kv a) v K w := by
  rw [MUpdP_eq]
  intro w0 hw
  subst hw
  have h1 := mapOf_spec hm.h
  obtain ⟨L, c, hE, hf⟩ := h
  have hb : w0.heap[g]? = some (.map L.toArray c) := hE.at_
  have hfn := hk.fnd a L w0 hE.keys
  cases hp : findP (kv a) L 0 with
  | none =>
    rw [hp] at hfn
    have hr : (uS (Instr.mapUpdate t (.map (some g)) (kv a) v)).run P w0 = .ok .skip { w0 with heap := w0.heap.setIfInBounds g (.map (L ++ [(mkE (kv a) v c)]).toArray (c + 1)) } := by
      unfold uS Instr.mapUpdate
      simp only [Sem.run_bind, run_underlying h1, Result.andThen_ok, MapKept.run_getObj_map hb, hk.chk, hfn, MapKept.run_setObj_map _ hb, Sem.run_pure]
      simp
    rw [hr]
    obtain ⟨k1, k2⟩ := heap_set (o := .map (L ++ [(mkE (kv a) v c)]).toArray (c + 1)) hb
    refine kk (z { w0 with heap := w0.heap.setIfInBounds g _ }) ⟨_, _, ⟨k2, fun y hy => ?_, hE.born.push _ _⟩, fun b => ?_⟩ k1 (by simp [z])
    · rcases List.mem_append.1 hy with h | h
      · exact hE.keys y h
      · simp at h; subst h; exact ⟨a, rfl⟩
    · rw [lookP_push (x := (mkE (kv a) v c)) L (lookP_none.2 hp)]
      unfold pset
      by_cases hab : b = a
      · subst hab; rw [if_pos rfl, if_pos rfl]
      · rw [if_neg (fun e => hab (hk.inj _ _ e).symm), if_neg hab, hf]
  | some p =>
    obtain ⟨n, x⟩ := p
    rw [hp] at hfn
    obtain ⟨j, y, hn, hj, hy, _, hfirst⟩ := findP_some hp
    have hn : n = j := by omega
    subst hn
    have hr : (uS (Instr.mapUpdate t (.map (some g)) (kv a) v)).run P w0 = .ok .skip { w0 with heap := w0.heap.setIfInBounds g (.map (L.modify n fun e => { e with val := v }).toArray c) } := by
      unfold uS Instr.mapUpdate
      have hkey : ((L.toArray[n]?).map (·.key)).getD (kv a) = kv a := by simp [hj, hy]
      simp only [Sem.run_bind, run_underlying h1, Result.andThen_ok, MapKept.run_getObj_map hb, hk.chk, hfn, hkey, Instr.keyThatStays, hk.bits, if_true, Sem.run_pure, MapKept.run_setObj_map _ hb]
      rw [← modify_both hj hy]
      simp
    rw [hr]
    obtain ⟨k1, k2⟩ := heap_set (o := .map (L.modify n fun e => { e with val := v }).toArray c) hb
    refine kk (z { w0 with heap := w0.heap.setIfInBounds g _ }) ⟨_, _, ⟨k2, keys_modify hE.keys n v, hE.born.modify n v⟩, fun b => ?_⟩ k1 (by simp [z])
    rw [lookP_modify (k := kv a) L n y hj hy hfirst]
    unfold pset
    by_cases hab : b = a
    · subst hab; rw [if_pos rfl, if_pos rfl]
    · rw [if_neg (fun e => hab (hk.inj _ _ e).symm), if_neg hab, hf]
/-- An entry taken hold of ('m[a] op= ..'). -/
theorem mentG {t k e : TypeId} {zv : Value} [hm : MapTy P t k e] [hk : KeyL P k kv] [hz : ZeroTy P e zv] {g : Nat} {f : κ → Option Value} (a : κ) {w : World} {K : VK} (h : MapG kv w g f) (kk : ∀ w' (s : Nat), MapS kv w' g (pset f a ((f a).getD zv)) a s → Kept (fun b => b ≠ g) w w' → w'.heap.size = w.heap.size → K (.tuple #[(f a).getD zv, .int .i64 (s : Int)]) w') : MEntP P t (.map (some g)) (kv a) K w := by
  rw [MEntP_eq]
  intro w0 hw
  subst hw
  have h1 := mapOf_spec hm.h
  obtain ⟨L, c, hE, hf⟩ := h
  have hb : w0.heap[g]? = some (.map L.toArray c) := hE.at_
  have hfn := hk.fnd a L w0 hE.keys
  cases hp : findP (kv a) L 0 with
  | none =>
    rw [hp] at hfn
    have hfa : f a = none := by rw [← hf a]; exact lookP_none.2 hp
    have hr : (vS (Instr.mapEntry t (.map (some g)) (kv a))).run P w0 = .ok (.value (.tuple #[zv, .int .i64 (c : Int)])) { w0 with heap := w0.heap.setIfInBounds g (.map (L ++ [(mkE (kv a) zv c)]).toArray (c + 1)) } := by
      rw [run_vS]
      unfold Instr.mapEntry
      simp only [Sem.run_bind, run_underlying h1, Result.andThen_ok, MapKept.run_getObj_map hb, hk.chk, hfn, run_zeroValue' hz.h, MapKept.run_setObj_map _ hb, Sem.run_pure]
      simp [goInt]
    rw [hr]
    obtain ⟨k1, k2⟩ := heap_set (o := .map (L ++ [(mkE (kv a) zv c)]).toArray (c + 1)) hb
    have := kk (z { w0 with heap := w0.heap.setIfInBounds g (.map (L ++ [(mkE (kv a) zv c)]).toArray (c + 1)) }) c ⟨_, _, ⟨k2, fun y hy => ?_, hE.born.push _ _⟩, fun b => ?_, L.length, (mkE (kv a) zv c), by simp, rfl, rfl, fun m y hm hy => ?_⟩ k1 (by simp [z])
    · rw [hfa] at this; exact this
    · rcases List.mem_append.1 hy with h | h
      · exact hE.keys y h
      · simp at h; subst h; exact ⟨a, rfl⟩
    · rw [lookP_push (x := (mkE (kv a) zv c)) L (lookP_none.2 hp), hfa]
      unfold pset
      by_cases hab : b = a
      · subst hab; rw [if_pos rfl, if_pos rfl]; rfl
      · rw [if_neg (fun e => hab (hk.inj _ _ e).symm), if_neg hab, hf]
    · rw [List.getElem?_append_left hm] at hy
      exact findP_none.1 hp y (List.mem_of_getElem? hy)
  | some p =>
    obtain ⟨n, x⟩ := p
    rw [hp] at hfn
    obtain ⟨j, y, hn, hj, hy, hyx, hfirst⟩ := findP_some hp
    have hn : n = j := by omega
    subst hn
    have hfa : f a = some x := by rw [← hf a]; unfold lookP; rw [hp]; rfl
    have hr : (vS (Instr.mapEntry t (.map (some g)) (kv a))).run P w0 = .ok (.value (.tuple #[x, .int .i64 (y.born : Int)])) { w0 with heap := w0.heap.setIfInBounds g (.map L.toArray c) } := by
      rw [run_vS]
      unfold Instr.mapEntry
      have hkey : ((L.toArray[n]?).map (·.key)).getD (kv a) = kv a := by simp [hj, hy]
      simp only [Sem.run_bind, run_underlying h1, Result.andThen_ok, MapKept.run_getObj_map hb, hk.chk, hfn, hkey, Instr.keyThatStays, hk.bits, if_true, Sem.run_pure, MapKept.run_setObj_map _ hb]
      have e1 := modify_same hj hy
      have e2 : (L.toArray.modify n fun e => { e with key := kv a }) = L.toArray := by have := congrArg List.toArray e1; simpa using this
      rw [e2]
      simp [goInt, hj]
    rw [hr]
    obtain ⟨k1, k2⟩ := heap_set (o := .map L.toArray c) hb
    have := kk (z { w0 with heap := w0.heap.setIfInBounds g (.map L.toArray c) }) y.born ⟨L, c, ⟨k2, hE.keys, hE.born⟩, fun b => ?_, n, y, hj, hy, rfl, hfirst⟩ k1 (by simp [z])
    · rw [hfa] at this; exact this
    · rw [hf, hfa]
      unfold pset
      by_cases hab : b = a
      · subst hab; rw [if_pos rfl]; exact hfa
      · rw [if_neg hab]
/-- .. and set. -/
theorem estoG {t k e : TypeId} [_hm : MapTy P t k e] [hk : KeyL P k kv] {g s : Nat} {f : κ → Option Value} {a : κ} {v : Value} {w : World} {K : VK} (h : MapS kv w g f a s) (kk : ∀ w', MapG kv w' g (pset f a v) → Kept (fun b => b ≠ g) w w' → w'.heap.size = w.heap.size → K undef w') : EStoP P t (.map (some g)) (.int .i64 (s : Int)) v K w := by
  rw [EStoP_eq]
  intro w0 hw
  subst hw
  obtain ⟨L, c, hE, hf, j, y, hj, hy, hs, hfirst⟩ := h
  have hb : w0.heap[g]? = some (.map L.toArray c) := hE.at_
  subst hs
  have hjl := (List.getElem?_eq_some_iff.1 hj).1
  have hidx : L.toArray.findIdx? (fun e => (e.born : Int) == (y.born : Int)) = some j := by
    rw [List.findIdx?_toArray]
    rw [List.findIdx?_eq_some_iff_getElem]
    refine ⟨hjl, ?_, fun m hm => ?_⟩
    · have : L[j] = y := (List.getElem?_eq_some_iff.1 hj).2
      simp [this]
    · have hm' : L[m]? = some L[m] := List.getElem?_eq_getElem (by omega)
      simp only [beq_iff_eq, Int.natCast_inj]
      intro e
      have := (hE.born j y hj).2 m _ hm' e
      omega
  have hr : (uS (Instr.entryStore t (.map (some g)) (.int .i64 (y.born : Int)) v)).run P w0 = .ok .skip { w0 with heap := w0.heap.setIfInBounds g (.map (L.modify j fun e => { e with val := v }).toArray c) } := by
    have hai : (asInt (.int .i64 (y.born : Int))).run P w0 = .ok (y.born : Int) w0 := rfl
    unfold uS Instr.entryStore
    simp only [Sem.run_bind, Result.andThen_ok, MapKept.run_getObj_map hb, hai, Sem.run_pure, hidx, MapKept.run_setObj_map _ hb]
    simp
  rw [hr]
  obtain ⟨k1, k2⟩ := heap_set (o := .map (L.modify j fun e => { e with val := v }).toArray c) hb
  refine kk (z { w0 with heap := w0.heap.setIfInBounds g _ }) ⟨_, _, ⟨k2, keys_modify hE.keys j v, hE.born.modify j v⟩, fun b => ?_⟩ k1 (by simp [z])
  rw [lookP_modify (k := kv a) L j y hj hy hfirst]
  unfold pset
  by_cases hab : b = a
  · subst hab; rw [if_pos rfl, if_pos rfl]
  · rw [if_neg (fun e => hab (hk.inj _ _ e).symm), if_neg hab, hf]

/-! ### keys of two numbers -/
abbrev kv2 (p : Int × Int) : Value := .agg #[.int .i64 p.1, .int .i64 p.2]
/-- What the rules ask of the array's type. -/
structure Key2 (P : Program) (k e : TypeId) : Prop where
  u : P.underlying k = some (.array 2 e)
  ue : P.underlying e = some (.int .i64)
  i : (P.info? e).isSome = true
  one : P.cellsOf e = 1
  eq : ∀ a b c d : Int, eqV P 8 k (.agg #[.int .i64 a, .int .i64 b]) (.agg #[.int .i64 c, .int .i64 d]) = some ((a == c) && ((b == d) && true))
theorem run_chk2 {k e : TypeId} (h : Key2 P k e) (b : Bool) (a : Int × Int) (w : World) : (Instr.checkKey b 10000 k (kv2 a)).run P w = .ok () w := by
  obtain ⟨i, hi⟩ := Option.isSome_iff_exists.1 h.i
  have hs : (sizeOf e).run P w = .ok (P.cellsOf e) w := Go.run_sizeOf w hi
  have p0 : (part e #[.int .i64 a.1, .int .i64 a.2] 0).run P w = .ok (.int .i64 a.1) w := run_partV (by unfold partV; rw [h.ue]; rfl) w
  have p1 : (part e #[.int .i64 a.1, .int .i64 a.2] 1).run P w = .ok (.int .i64 a.2) w := run_partV (by unfold partV; rw [h.ue]; rfl) w
  have ck : ∀ n : Int, (Instr.checkKey b 9999 e (.int .i64 n)).run P w = .ok () w := fun n => by
    rw [show (9999 : Nat) = 9998 + 1 from rfl]
    unfold Instr.checkKey
    rw [Sem.run_bind, run_underlying h.ue]
    rfl
  rw [show (10000 : Nat) = 9999 + 1 from rfl]
  unfold Instr.checkKey
  simp only [Sem.run_bind, run_underlying h.u, Result.andThen_ok]
  simp only [Std.Legacy.Range.forIn_eq_forIn_range', Std.Legacy.Range.size, Nat.sub_zero, Nat.add_one_sub_one, Nat.div_one]
  simp only [List.range', List.forIn_cons, List.forIn_nil, Sem.run_bind, hs, h.one, Result.andThen_ok, p0, p1, ck, Sem.run_pure, Nat.zero_mul, Nat.mul_one, Nat.zero_add]
theorem run_fnd2 {k e : TypeId} (h : Key2 P k e) (a : Int × Int) (L : List MapEntry) (w : World) (hL : ∀ e ∈ L, ∃ q, e.key = kv2 q) : (Instr.findKey k (kv2 a) L).run P w = .ok (findP (kv2 a) L 0) w := by
  have heq : ∀ q, (Op.equal k (kv2 a) (kv2 q)).run P w = .ok ((a.1 == q.1) && ((a.2 == q.2) && true)) w := fun q => run_eqV 9992 8 k _ _ _ (h.eq a.1 a.2 q.1 q.2) w
  have ask : ∀ (L : List MapEntry) (i : Nat), (∀ e ∈ L, ∃ q, e.key = kv2 q) → (Instr.findAsking k (kv2 a) L i).run P w = .ok (findP (kv2 a) L i) w := by
    intro L
    induction L with
    | nil => intro i _; simp [Instr.findAsking, findP]
    | cons x r ih =>
      intro i hx
      obtain ⟨q, hq⟩ := hx x List.mem_cons_self
      unfold Instr.findAsking findP
      rw [hq, Sem.run_bind, heq q]
      by_cases hab : a = q
      · subst hab
        simp
      · have h1 : ((a.1 == q.1) && ((a.2 == q.2) && true)) = false := by
          rw [Bool.eq_false_iff]
          intro e
          simp at e
          exact hab (Prod.ext e.1 e.2)
        have h2 : ¬ (kv2 q = kv2 a) := fun e => by
          simp at e
          exact hab (Prod.ext e.1.symm e.2.symm)
        rw [h1, if_neg h2]
        simpa using ih (i + 1) fun y hy => hx y (List.mem_cons_of_mem _ hy)
  unfold Instr.findKey
  rw [Sem.run_bind, run_underlying h.u]
  simp only [Result.andThen_ok]
  cases L with
  | nil => simp [Instr.findNow, findP]
  | cons x r =>
    obtain ⟨q, hq⟩ := hL x List.mem_cons_self
    have : Instr.findNow (.array 2 e) (kv2 a) (x :: r) 0 = none := by unfold Instr.findNow; rw [hq]; rfl
    rw [this]
    exact ask _ 0 hL
theorem Key2.law {k e : TypeId} (h : Key2 P k e) : KeyL P k kv2 where
  inj a b h := by simp at h; exact Prod.ext h.1 h.2
  chk := run_chk2 h
  bits a := by
    rw [show (10000 : Nat) = 9998 + 1 + 1 from rfl]
    simp [Instr.sameBits]
  fnd := run_fnd2 h
end
end Go.Proofs.YtcpogcdadlcdaaaGreat

/- Own layer, part t: a loop that holds ranges over functions; a return behind several of these. Nothing of the program stands here. -/
namespace Go.Proofs.YtcpogcdadlcdaaaGreat
open Go Go.RowKit

section
variable {P : Program}
structure NextDP {α β : Type} (enc : α → β → List (Nat × Value)) (I : α → β → List Deferred → World → Prop) (μ : α → β → World → Nat) (m : Nat) (F : Fr) (ds : List Deferred) (w : World) : Prop where
  of_ ::
  un_ : ∃ (a : α) (b : β), Has F (enc a b) ∧ I a b ds w ∧ μ a b w < m
theorem nextD {α β : Type} {enc : α → β → List (Nat × Value)} {I : α → β → List Deferred → World → Prop} {μ : α → β → World → Nat} {m : Nat} {F : Fr} {ds : List Deferred} {w : World} (a : α) (b : β) (h : Has F (enc a b)) (hi : I a b ds w) (hm : μ a b w < m) : NextDP enc I μ m F ds w := ⟨a, b, h, hi, hm⟩
theorem loopD {c : Code} {K : KK} {F0 : Fr} {ds0 : List Deferred} {w0 : World} {α β : Type} (enc : α → β → List (Nat × Value)) (I : α → β → List Deferred → World → Prop) (μ : α → β → World → Nat)
    (a0 : α) (b0 : β) (h0 : Has F0 (enc a0 b0)) (hI : I a0 b0 ds0 w0)
    (step : ∀ (G : Fr) (a : α) (b : β) (ds : List Deferred) (w : World), I a b ds w →
      V P c (fun e F' ds' w' => match e with | .normal => NextDP enc I μ (μ a b w) F' ds' w' | e => K e F' ds' w') (upds (enc a b) (mix (writes c) F0 G)) ds w) :
    LoopH c (V P c) K F0 ds0 w0 := by
  rw [LoopH_eq]
  refine ⟨fun n F ds' w => Off (writes c) F0 F ∧ ∃ a b, Has F (enc a b) ∧ I a b ds' w ∧ μ a b w = n, ⟨_, .refl _ _, a0, b0, h0, hI, rfl⟩, ?_⟩
  rintro n F ds' w ⟨hf, a, b, hs, hi, rfl⟩
  have hm : mix (writes c) F0 F = F := funext fun j => by
    show (bif memN j (writes c) then F j else F0 j) = F j
    cases hb : memN j (writes c) with
    | true => rfl
    | false => exact (hf j hb).symm
  have h1 := step F a b ds' w hi
  rw [hm, upds_has hs] at h1
  refine V_mf c _ _ F ds' w (fun e F' ds'' w' hf' hd h => ?_) h1
  cases e with
  | normal =>
    have h : NextDP enc I μ (μ a b w) F' ds'' w' := h
    obtain ⟨a', b', a1, a2, a3⟩ := h.un_
    exact ⟨_, a3, hf.trans (hf' (fun _ e => by cases e)), a', b', a1, a2, rfl⟩
  | _ => exact h
/-- The marks that have been laid. -/
def Marks (lo : Nat) : List Deferred → World → Prop
  | [], _ => True
  | d :: ds, w => (∃ b, d.target = .collected b ∧ lo ≤ b ∧ w.heap[b]? = some (.deferred (some [])) ∧ ∀ d' ∈ ds, d'.target ≠ .collected b) ∧ Marks lo ds w
theorem Marks.lt {lo : Nat} : ∀ {ds : List Deferred} {w : World}, Marks lo ds w → ∀ d ∈ ds, ∀ b, d.target = .collected b → b < w.heap.size
  | d :: ds, w, ⟨⟨b, h1, h2, h3, h4⟩, h5⟩, x, hx, b', hb => by
    rcases List.mem_cons.1 hx with rfl | hx
    · rw [h1] at hb; injection hb with hb; subst hb
      exact (Array.getElem?_eq_some_iff.1 h3).1
    · exact h5.lt x hx b' hb
theorem Marks.kept {lo : Nat} {D : Nat → Prop} : ∀ {ds : List Deferred} {w w' : World}, Marks lo ds w → Kept D w w' → (∀ b, lo ≤ b → b < w.heap.size → w.heap[b]? = some (.deferred (some [])) → D b) → Marks lo ds w'
  | [], _, _, _, _, _ => trivial
  | _ :: _, _, _, ⟨⟨b, h1, h2, h3, h4⟩, h5⟩, k, hD => ⟨⟨b, h1, h2, (k.blk b (Array.getElem?_eq_some_iff.1 h3).1 (hD b h2 (Array.getElem?_eq_some_iff.1 h3).1 h3)).trans h3, h4⟩, h5.kept k hD⟩
theorem Marks.ext {lo : Nat} {ds : List Deferred} {w w' : World} (h : Marks lo ds w) (k : Ext w w') : Marks lo ds w' := h.kept k fun _ _ _ _ => trivial
theorem Marks.add {lo b : Nat} {ds : List Deferred} {w w' : World} (h : Marks lo ds w) (k : Ext w w') (hb : w.heap.size ≤ b) (hlo : lo ≤ b) (hw : w'.heap[b]? = some (.deferred (some []))) : Marks lo ({ target := .collected b, args := #[] } :: ds) w' :=
  ⟨⟨b, rfl, hlo, hw, fun d' hd e => by have := h.lt d' hd b e; omega⟩, h.ext k⟩
theorem Marks.shut {lo : Nat} : ∀ {ds : List Deferred} {w : World}, Marks lo ds w → ∃ w', shutMarks ds w = some w' ∧ Kept (fun b => b < lo) w w'
  | [], w, _ => ⟨w, rfl, .refl _ _⟩
  | d :: ds, w, ⟨⟨b, h1, h2, h3, h4⟩, h5⟩ => by
    have k : Kept (fun c => c ≠ b) w (w.putObj b (.deferred none)) := Kept.putObj w b _
    have h6 : Marks lo ds (w.putObj b (.deferred none)) := by
      clear h2
      induction ds with
      | nil => trivial
      | cons x r ih =>
        obtain ⟨⟨c, g1, g2, g3, g4⟩, g5⟩ := h5
        have hne : c ≠ b := fun e => h4 x List.mem_cons_self (e ▸ g1)
        exact ⟨⟨c, g1, g2, (k.blk c (Array.getElem?_eq_some_iff.1 g3).1 hne).trans g3, g4⟩, ih (fun y hy => h4 y (List.mem_cons_of_mem _ hy)) g5⟩
    obtain ⟨w', h7, h8⟩ := Marks.shut h6
    refine ⟨w', ?_, (k.weak fun i _ hi => by omega).trans h8⟩
    unfold shutMarks
    rw [h1]
    simp only [h3]
    exact h7
/-- A return behind marks. -/
theorem retMs {rs : List ResultVar} {F : Fr} {R : VK} {lo : Nat} {ds : List Deferred} {w : World} (hm : Marks lo ds w) (h : ∀ w', Kept (fun b => b < lo) w w' → VRes P F w' rs [] (fun vs => R (resV vs) w')) : RetP P rs F ds R w := by
  rw [RetP_eq]
  obtain ⟨w', h1, h2⟩ := hm.shut
  exact ⟨w', h1, h w' h2⟩
end
end Go.Proofs.YtcpogcdadlcdaaaGreat

/- Own layer, part u: 'clear' of a slice; a slice of a known block. Nothing of the program stands here. -/
namespace Go.Proofs.YtcpogcdadlcdaaaGreat
open Go Go.RowKit

section
variable {P : Program} {X : XK}
theorem zeroCells_one (zs : List Value) (hz : (zs.all fun v => v.oneCell') = true) (n : Nat) : ∀ v ∈ (Builtin.zeroCells zs.toArray n).toList, v.oneCell' = true := by
  intro v hv
  unfold Builtin.zeroCells at hv
  simp only [List.size_toArray, Array.toList_map, Array.toList_range, List.mem_map, List.mem_range] at hv
  obtain ⟨i, hi, rfl⟩ := hv
  have hpos : 0 < zs.length := by
    rcases Nat.eq_zero_or_pos zs.length with h | h
    · rw [h, Nat.mul_zero] at hi; omega
    · exact h
  have hlt : i % zs.length < zs.toArray.size := by simpa using Nat.mod_lt i hpos
  rw [getElem!_pos zs.toArray (i % zs.length) hlt]
  exact List.all_eq_true.1 hz _ (by simp)
/-- clear(xs[..]), xs's block known: what stands ahead of it stays. -/
theorem clr {t e : TypeId} {sz : Nat} {zv : Value} [h : SliceTy P t e sz] [hz : ZeroTy P e zv] {ty : TypeId} {cst : Array Bool} {g o n c : Nat} {cs : List Value} {w : World} {K : VK} (hb : Blk w g e cs) (hn : 0 < n) (ho : o + n * sz ≤ cs.length)
    (kk : ∀ w' cs', Blk w' g e cs' → cs'.take o = cs.take o → cs'.length = cs.length → Kept (fun b => b ≠ g) w w' → K (.tuple #[]) w') (hzs : (cellsL zv).length = sz := by rfl) (h1 : ((cellsL zv).all fun u => u.oneCell') = true := by rfl) :
    BuiP P .clear #[t] ty cst #[.slice (some (ad g o)) n c] K X w := by
  rw [BuiP_eq]
  refine OpS.x fun w0 hw => ?_
  subst hw
  obtain ⟨hu, _⟩ := sliceOf_spec h.h
  have hsz : (Builtin.zeroCells (cellsL zv).toArray n).toList.length = n * sz := by rw [Array.length_toList, size_zeroCells]; simp [hzs]
  obtain ⟨w', hr, hb', hk, _⟩ := run_storeCells' (P := P) (Builtin.zeroCells (cellsL zv).toArray n).toList o 0 cs w0 hb (by rw [hsz]; omega) (zeroCells_one _ h1 n)
  have hrun : (builtin .clear #[t] ty cst #[.slice (some (ad g o)) n c]).run P w0 = .ok (.value (.tuple #[])) w' := by
    have hbc : builtin .clear #[t] ty cst #[.slice (some (ad g o)) n c] = (do pure (.value (← Builtin.clear_ #[t] ty #[.slice (some (ad g o)) n c]))) := rfl
    rw [hbc, Sem.run_bind]
    have : (Builtin.clear_ #[t] ty #[.slice (some (ad g o)) n c]).run P w0 = .ok (.tuple #[]) w' := by
      obtain ⟨m, rfl⟩ : ∃ m, n = m + 1 := ⟨n - 1, by omega⟩
      simp [Builtin.clear_, run_underlying hu, run_zeroValue' hz.h, cellsL_eq, hr]
    rw [this]; rfl
  rw [hrun]
  refine kk (z w') _ hb' ?_ ?_ ⟨hk.os, hk.tape, hk.output, hk.size, hk.blk⟩
  · rw [Nat.add_zero, List.append_assoc, List.take_append_of_le_length (by rw [List.length_take]; omega), List.take_take, Nat.min_self]
  · simp only [List.length_append, List.length_take, List.length_drop, hsz]; omega
/-- xs[l:h], xs's address known. -/
theorem slcA {t e : TypeId} {sz : Nat} [hst : SliceTy P t e sz] {g o n c : Nat} {lo hi : Option Value} {K : Value → Prop} (l h : Nat) (hlo : IsB lo l 0) (hhi : IsB hi h n) (h1 : l ≤ h) (h2 : h ≤ c) (hlc : l < c)
    (kk : K (.slice (some (ad g (o + l * sz))) (h - l) (c - l))) : SlcP P t (.slice (some (ad g o)) n c) lo hi none K := by
  rw [SlcP_eq]
  obtain ⟨hu, inf, hinf, hs'⟩ := sliceOf_spec hst.h
  refine pure_vval (fun w => ?_) kk
  unfold Instr.sliceAt
  rw [Sem.run_bind, run_underlying hu]
  simp only [Result.andThen_ok]
  unfold Instr.slice
  rw [Sem.run_bind, run_underlying hu]
  simp only [Result.andThen_ok]
  rw [Sem.run_bind, run_sliceBounds hlo hhi h1 h2]
  simp only [Result.andThen_ok]
  rw [Sem.run_bind, run_sizeOf hinf, hs']
  have : ¬ (c = l) := by omega
  show Result.ok (Value.slice (if c = l then some (ad g o) else (some (ad g o)).map (·.add (l * sz))) (h - l) (c - l)) w = _
  rw [if_neg this]
  show Result.ok (Value.slice (some ((ad g o).add (l * sz))) (h - l) (c - l)) w = _
  rw [add_ad]
end
end Go.Proofs.YtcpogcdadlcdaaaGreat

/- Own layer, part w: maps whose keys are records of two numbers; a look with its truth. Nothing of the program stands here. -/
namespace Go.Proofs.YtcpogcdadlcdaaaGreat
open Go Go.RowKit Classical

/-- What the rules ask of the record's type. -/
structure KeyS (P : Program) (k e : TypeId) (f0 f1 : Field) : Prop where
  u : P.underlying k = some (.struct #[f0, f1])
  t0 : f0.type = e
  t1 : f1.type = e
  o0 : f0.offset = 0
  o1 : f1.offset = 1
  n0 : f0.name ≠ "_"
  n1 : f1.name ≠ "_"
  ue : P.underlying e = some (.int .i64)
  eq : ∀ a b c d : Int, eqV P 8 k (.agg #[.int .i64 a, .int .i64 b]) (.agg #[.int .i64 c, .int .i64 d]) = some ((a == c) && ((b == d) && true))
section
variable {P : Program}
theorem run_chkS {k e : TypeId} {f0 f1 : Field} (h : KeyS P k e f0 f1) (b : Bool) (a : Int × Int) (w : World) : (Instr.checkKey b 10000 k (kv2 a)).run P w = .ok () w := by
  have p0 : (part e #[.int .i64 a.1, .int .i64 a.2] 0).run P w = .ok (.int .i64 a.1) w := run_partV (by unfold partV; rw [h.ue]; rfl) w
  have p1 : (part e #[.int .i64 a.1, .int .i64 a.2] 1).run P w = .ok (.int .i64 a.2) w := run_partV (by unfold partV; rw [h.ue]; rfl) w
  have ck : ∀ n : Int, (Instr.checkKey b 9999 e (.int .i64 n)).run P w = .ok () w := fun n => by
    rw [show (9999 : Nat) = 9998 + 1 from rfl]
    unfold Instr.checkKey
    rw [Sem.run_bind, run_underlying h.ue]
    rfl
  rw [show (10000 : Nat) = 9999 + 1 from rfl]
  unfold Instr.checkKey
  simp only [Sem.run_bind, run_underlying h.u, Result.andThen_ok]
  simp only [← Array.forIn_toList, List.forIn_cons, List.forIn_nil, if_pos h.n0, if_pos h.n1, Sem.run_bind, h.t0, h.t1, h.o0, h.o1, p0, p1, ck, Result.andThen_ok, Sem.run_pure]
theorem run_fndS {k e : TypeId} {f0 f1 : Field} (h : KeyS P k e f0 f1) (a : Int × Int) (L : List MapEntry) (w : World) (hL : ∀ e ∈ L, ∃ q, e.key = kv2 q) : (Instr.findKey k (kv2 a) L).run P w = .ok (findP (kv2 a) L 0) w := by
  have heq : ∀ q, (Op.equal k (kv2 a) (kv2 q)).run P w = .ok ((a.1 == q.1) && ((a.2 == q.2) && true)) w := fun q => run_eqV 9992 8 k _ _ _ (h.eq a.1 a.2 q.1 q.2) w
  have ask : ∀ (L : List MapEntry) (i : Nat), (∀ e ∈ L, ∃ q, e.key = kv2 q) → (Instr.findAsking k (kv2 a) L i).run P w = .ok (findP (kv2 a) L i) w := by
    intro L
    induction L with
    | nil => intro i _; simp [Instr.findAsking, findP]
    | cons x r ih =>
      intro i hx
      obtain ⟨q, hq⟩ := hx x List.mem_cons_self
      unfold Instr.findAsking findP
      rw [hq, Sem.run_bind, heq q]
      by_cases hab : a = q
      · subst hab
        simp
      · have h1 : ((a.1 == q.1) && ((a.2 == q.2) && true)) = false := by
          rw [Bool.eq_false_iff]
          intro e
          simp at e
          exact hab (Prod.ext e.1 e.2)
        have h2 : ¬ (kv2 q = kv2 a) := fun e => by
          simp at e
          exact hab (Prod.ext e.1.symm e.2.symm)
        rw [h1, if_neg h2]
        simpa using ih (i + 1) fun y hy => hx y (List.mem_cons_of_mem _ hy)
  unfold Instr.findKey
  rw [Sem.run_bind, run_underlying h.u]
  simp only [Result.andThen_ok]
  cases L with
  | nil => simp [Instr.findNow, findP]
  | cons x r =>
    obtain ⟨q, hq⟩ := hL x List.mem_cons_self
    have : Instr.findNow (.struct #[f0, f1]) (kv2 a) (x :: r) 0 = none := by unfold Instr.findNow; rw [hq]; rfl
    rw [this]
    exact ask _ 0 hL
theorem KeyS.law {k e : TypeId} {f0 f1 : Field} (h : KeyS P k e f0 f1) : KeyL P k kv2 where
  inj a b h := by simp at h; exact Prod.ext h.1 h.2
  chk := run_chkS h
  bits a := by
    rw [show (10000 : Nat) = 9998 + 1 + 1 from rfl]
    simp [Instr.sameBits]
  fnd := run_fndS h
/-- A look into a map, the value and whether it is there. -/
theorem lookG2 {κ : Type} {kv : κ → Value} {S : World → Prop} {t k e : TypeId} {zv : Value} [hm : MapTy P t k e] [hk : KeyL P k kv] [hz : ZeroTy P e zv] {g : Nat} (a : κ) {K : Value → Prop} (v : Option Value) (h : ∀ u, S u → ∃ f : κ → Option Value, MapG kv u g f ∧ f a = v)
    (k1 : ∀ x, v = some x → K (.tuple #[x, .bool true])) (k2 : v = none → K (.tuple #[zv, .bool false])) : LookG P S t (.map (some g)) (kv a) true K := by
  rw [LookG_eq]
  cases v with
  | none =>
    refine ⟨_, fun w hw w0 e0 => ?_, k2 rfl⟩
    subst e0
    obtain ⟨f, h1, h2⟩ := h _ hw
    have := run_lookupG (mapOf_spec hm.h) hz.h (w := w0) (show MapG kv w0 g f from by obtain ⟨L, c, hE, hf⟩ := h1; exact ⟨L, c, ⟨hE.at_, hE.keys, hE.born⟩, hf⟩) a true
    rw [run_vS, this, h2]
    exact ⟨rfl, rfl⟩
  | some x =>
    refine ⟨_, fun w hw w0 e0 => ?_, k1 x rfl⟩
    subst e0
    obtain ⟨f, h1, h2⟩ := h _ hw
    have := run_lookupG (mapOf_spec hm.h) hz.h (w := w0) (show MapG kv w0 g f from by obtain ⟨L, c, hE, hf⟩ := h1; exact ⟨L, c, ⟨hE.at_, hE.keys, hE.born⟩, hf⟩) a true
    rw [run_vS, this, h2]
    exact ⟨rfl, rfl⟩
end
end Go.Proofs.YtcpogcdadlcdaaaGreat

/- Own layer, part x: drawn regions: one slot told apart; effects that may come in any order. Nothing of the program stands here. -/
namespace Go.Proofs.YtcpogcdadlcdaaaGreat
open Go Go.RowKit

section
variable {P : Program} {X : XK} {ops : Array Oper} {K : Fr → World → Prop} {F : Fr} {w : World}
theorem mix_off {l : List Nat} {F F' : Fr} (h : Off l F F') : mix l F F' = F' := funext fun j => by
  show (bif memN j l then F' j else F j) = F' j
  cases hb : memN j l with
  | true => rfl
  | false => exact (h j hb).symm
/-- What is said of a region that draws, if it is of the world and of one slot. -/
theorem draw_slot (j : Nat) (K' : Value → World → Prop) (h : DrawH P ops (fun F' w' => K' (F' j) w') X F w) (k : ∀ G v w', K' v w' → K (upds [(j, v)] (mix (wr ops.toList) F G)) w') : DrawH P ops K X F w :=
  draw_then h fun F' w' hoff hk => by
    have e : upds [(j, F' j)] (mix (wr ops.toList) F F') = F' := by
      rw [mix_off hoff]
      exact upd_self rfl
    rw [← e]; exact k F' _ w' hk
/-- .. if it is of the world alone. -/
theorem draw_w (K' : World → Prop) (h : DrawH P ops (fun _ w' => K' w') X F w) (k : ∀ G w', K' w' → K (mix (wr ops.toList) F G) w') : DrawH P ops K X F w :=
  draw_then h fun F' w' hoff hk => by
    rw [← mix_off hoff]; exact k F' w' hk
end

/-! ### effects in any order -/
/-- All orders of some effects, then the rest. -/
def altsP (g : Nat → Plan) : List Nat → Plan
  | [] => .done
  | [e] => .eff e (g e)
  | e :: e2 :: es => .alt e (g e) (altsP g (e2 :: es))
def permP : Nat → List Nat → Plan → Plan
  | 0, _, t => t
  | n + 1, rem, t => altsP (fun e => permP n (rem.erase e) t) rem
/-- What an effect asks, with what comes next. -/
def EffP (P : Program) (ops : List Oper) (X : XK) (i : Nat) (C : (World → Prop) → Fr → World → Prop) (S : World → Prop) (F : Fr) (w : World) : Prop := match ops[i]? with
  | some o => VGuard ops o F (VOp P o F (fun v w' => fv v fun v => StrP S w' (fun S' => C S' (updO F o.dst v) w')) X w) (StrP S w (fun S' => C S' (updO F o.dst undef) w))
  | none => False
theorem vplan_perm {P : Program} {ops : List Oper} {K : Fr → World → Prop} {X : XK} {S : World → Prop} {t : Plan} (I : List Nat → Fr → World → Prop)
    (step : ∀ rem e F w (C : (World → Prop) → Fr → World → Prop), e ∈ rem → I rem F w → (∀ F' w', I (rem.erase e) F' w' → C S F' w') → EffP P ops X e C S F w)
    (fin : ∀ F w, I [] F w → VPlan P ops K X t S F w) : ∀ (n : Nat) (rem : List Nat) (F : Fr) (w : World), rem.length = n → I rem F w → VPlan P ops K X (permP n rem t) S F w := by
  intro n
  induction n with
  | zero =>
    intro rem F w hl hI
    obtain rfl : rem = [] := List.eq_nil_of_length_eq_zero hl
    exact fin F w hI
  | succ n ih =>
    intro rem F w hl hI
    have key : ∀ es : List Nat, es ≠ [] → (∀ e ∈ es, e ∈ rem) → VPlan P ops K X (altsP (fun e => permP n (rem.erase e) t) es) S F w := by
      intro es
      induction es with
      | nil => intro h _; exact absurd rfl h
      | cons e es ihe =>
        intro _ hs
        have one : EffP P ops X e (fun S' F' w' => VPlan P ops K X (permP n (rem.erase e) t) S' F' w') S F w :=
          step rem e F w _ (hs e List.mem_cons_self) hI fun F' w' hI' => ih (rem.erase e) F' w' (by rw [List.length_erase_of_mem (hs e List.mem_cons_self), hl]; rfl) hI'
        cases es with
        | nil => exact one
        | cons e2 es => exact ⟨one, ihe (by simp) fun a ha => hs a (List.mem_cons_of_mem _ ha)⟩
    exact key rem (by intro e; subst e; cases hl) fun _ h => h
end Go.Proofs.YtcpogcdadlcdaaaGreat

/- Own layer, part y: ranging over a map. Nothing of the program stands here. -/
namespace Go.Proofs.YtcpogcdadlcdaaaGreat
open Go Go.RowKit Go.ChangeMaps

theorem BornL.nodup {L : List MapEntry} {c : Nat} (h : BornL L c) : (L.map (·.born)).Nodup := by
  rw [List.nodup_iff_pairwise_ne, List.pairwise_map, List.pairwise_iff_getElem]
  intro i j hi hj hij e
  have := (h i L[i] (List.getElem?_eq_getElem hi)).2 j L[j] (List.getElem?_eq_getElem hj) e.symm
  omega
/-- Block r ranges over the map in block g; the entries with the stamps 'seen' have come. -/
def IterM (w : World) (r g c : Nat) (seen : List Nat) : Prop := w.heap[r]? = some (.mapIter (some g) c seen.toArray c)
theorem IterM.kept {D : Nat → Prop} {w w' : World} {r g c : Nat} {seen : List Nat} (h : IterM w r g c seen) (k : Kept D w w') (hD : D r) : IterM w' r g c seen :=
  (k.blk r (Array.getElem?_eq_some_iff.1 h).1 hD).trans h
theorem heap_set2 {w0 : World} {g : Nat} {o0 o : Obj} (hb : w0.heap[g]? = some o0) : Kept (fun b => b ≠ g) (z w0) (z { w0 with heap := w0.heap.setIfInBounds g o }) ∧ (z { w0 with heap := w0.heap.setIfInBounds g o }).heap[g]? = some o := by
  have hlt := (Array.getElem?_eq_some_iff.1 hb).1
  exact ⟨⟨rfl, rfl, rfl, by simp [z], fun b hb1 hne => by
    show (w0.heap.setIfInBounds g _)[b]? = w0.heap[b]?
    rw [Array.getElem?_setIfInBounds_ne (fun e => hne e.symm)]⟩, by simp [z, hlt]⟩
section
variable {P : Program} {κ : Type} {kv : κ → Value}
theorem rngM {t k e : TypeId} [hm : MapTy P t k e] {s : Sem Next} {g c : Nat} {L : List MapEntry} {w : World} {K : VK} {X : XK} (hs : s = vS (Instr.range t (.map (some g)))) (h : Ents kv w g L c)
    (kk : ∀ w', Ents kv w' g L c → IterM w' w.heap.size g c [] → Ext w w' → w'.heap.size = w.heap.size + 1 → K (.pointer (some (ad w.heap.size 0))) w') : OthP P s K X w := by
  subst hs
  rw [OthP_eq]
  refine OpS.x fun w0 hw => ?_
  subst hw
  have hb : w0.heap[g]? = some (.map L.toArray c) := h.at_
  rw [run_vS]
  unfold Instr.range
  simp only [Sem.run_bind, run_underlying (mapOf_spec hm.h), Result.andThen_ok, MapKept.run_getObj_map hb, Sem.run_pure, run_newObj]
  have x : Ext (z w0) (z (w0.alloc (.mapIter (some g) c #[] c))) := ⟨rfl, rfl, rfl, by show w0.heap.size ≤ (w0.heap.push _).size; simp, fun i hi _ => by
    show (w0.heap.push _)[i]? = w0.heap[i]?
    rw [Array.getElem?_push, if_neg (by have : i < w0.heap.size := hi; omega)]⟩
  exact kk _ (h.kept x trivial) (by show (w0.heap.push _)[w0.heap.size]? = _; simp) x (by show (w0.heap.push _).size = w0.heap.size + 1; simp)
theorem nxtM {ty : TypeId} {s : Sem Next} {r g c : Nat} {seen : List Nat} {L : List MapEntry} {w : World} {K : VK} {X : XK} (hs : s = vS (Instr.next (.pointer (some (ad r 0))) false ty)) (h : Ents kv w g L c) (hi : IterM w r g c seen)
    (k1 : (∀ e ∈ L, e.born ∈ seen) → K (.tuple #[.bool false]) w)
    (k2 : ∀ e ∈ L, e.born ∉ seen → ∀ w', Ents kv w' g L c → IterM w' r g c (seen ++ [e.born]) → Kept (fun b => b ≠ r) w w' → w'.heap.size = w.heap.size → K (.tuple #[.bool true, e.key, e.val]) w') : OthP P s K X w := by
  subst hs
  rw [OthP_eq]
  refine OpS.x fun w0 hw => ?_
  subst hw
  have hb : w0.heap[g]? = some (.map L.toArray c) := h.at_
  have hr : w0.heap[r]? = some (.mapIter (some g) c seen.toArray c) := hi
  have hrg : r ≠ g := fun e => by rw [e, hb] at hr; cases hr
  have hold : ∀ x ∈ L.toArray.toList, x.born < c := fun x hx => by
    obtain ⟨i, hi⟩ := List.getElem?_of_mem (show x ∈ L from hx)
    exact (h.born i x hi).1
  have hmem : ∀ x, x ∈ (leftOf L.toArray seen.toArray).toList ↔ x ∈ L ∧ x.born ∉ seen := fun x => by
    unfold leftOf
    simp
  rw [run_vS]
  rcases run_next_at (P := P) w0 ty r g c c seen.toArray L.toArray c hr hb hold (Nat.le_refl _) with ⟨h0, hrun⟩ | ⟨e, he, w1, hw1, hrun⟩
  · rw [hrun]
    refine k1 fun e he => Classical.byContradiction fun hn => ?_
    have := (hmem e).2 ⟨he, hn⟩
    rw [Array.eq_empty_of_size_eq_zero h0] at this
    cases this
  · rw [hrun]
    obtain ⟨h1, h2⟩ := (hmem e).1 he
    have hh : z (setBlock w1 r (.mapIter (some g) c (seen.toArray.push e.born) c)) = z { w0 with heap := w0.heap.setIfInBounds r (.mapIter (some g) c (seen ++ [e.born]).toArray c) } := by
      rw [List.push_toArray]
      rcases hw1 with rfl | rfl <;> rfl
    show K _ (z _)
    rw [hh]
    obtain ⟨q1, q2⟩ := heap_set2 (o := .mapIter (some g) c (seen ++ [e.born]).toArray c) hr
    exact k2 e h1 h2 _ (h.kept q1 fun e => hrg e.symm) q2 q1 (by simp [z])
theorem entM {s : Sem Next} {r g c : Nat} {seen : List Nat} {L : List MapEntry} {e : MapEntry} {w : World} {K : VK} {X : XK} (hs : s = vS (Instr.entry (.pointer (some (ad r 0))))) (h : Ents kv w g L c) (he : e ∈ L) (hi : IterM w r g c (seen ++ [e.born]))
    (k1 : K (.tuple #[e.key, e.val]) w) : OthP P s K X w := by
  subst hs
  rw [OthP_eq]
  refine OpS.x fun w0 hw => ?_
  subst hw
  have hr : w0.heap[r]? = some (.mapIter (some g) c (seen.toArray.push e.born) c) := by rw [List.push_toArray]; exact hi
  rw [run_vS, run_entry_at (P := P) w0 r g c seen.toArray L.toArray c e hr h.at_ (by simpa using he) h.born.nodup]
  exact k1
/-! ### keys that are numbers -/
abbrev kvI (i : Int) : Value := .int .i64 i
theorem findNow_I : ∀ (L : List MapEntry) (a : Int) (i : Nat), (∀ e ∈ L, ∃ q, e.key = kvI q) → Instr.findNow (.int .i64) (kvI a) L i = some (findP (kvI a) L i)
  | [], _, _, _ => rfl
  | e :: r, a, i, h => by
    obtain ⟨q, hq⟩ := h e List.mem_cons_self
    have ih := findNow_I r a (i + 1) fun x hx => h x (List.mem_cons_of_mem _ hx)
    unfold Instr.findNow findP
    rw [hq]
    simp only [Instr.sameNow, if_true]
    by_cases hk : a = q
    · subst hk; simp
    · have h1 : ¬ (kvI q = kvI a) := fun e => by injection e with _ e; exact hk e.symm
      have h2 : (a == q) = false := beq_eq_false_iff_ne.2 hk
      rw [if_neg h1, h2]
      exact ih
theorem keyI {k : TypeId} (hu : P.underlying k = some (.int .i64)) : KeyL P k kvI where
  inj a b h := by injection h
  chk b a w := run_checkKey_int hu b a w
  bits a := by simp [Instr.sameBits]
  fnd a L w h := run_findKey_int hu (findNow_I L a 0 h) w
/-- A new key. -/
theorem mupdN {t k e : TypeId} [hm : MapTy P t k e] [hk : KeyL P k kv] {g c : Nat} {L : List MapEntry} (a : κ) {v : Value} {w : World} {K : VK} (h : Ents kv w g L c) (hn : ∀ e ∈ L, e.key ≠ kv a)
    (kk : ∀ w', Ents kv w' g (L ++ [mkE (kv a) v c]) (c + 1) → Kept (fun b => b ≠ g) w w' → w'.heap.size = w.heap.size → K undef w') : MUpdP P t (.map (some g)) (kv a) v K w := by
  rw [MUpdP_eq]
  intro w0 hw
  subst hw
  have h1 := mapOf_spec hm.h
  have hb : w0.heap[g]? = some (.map L.toArray c) := h.at_
  have hfn := hk.fnd a L w0 h.keys
  rw [findP_none.2 hn] at hfn
  have hr : (uS (Instr.mapUpdate t (.map (some g)) (kv a) v)).run P w0 = .ok .skip { w0 with heap := w0.heap.setIfInBounds g (.map (L ++ [(mkE (kv a) v c)]).toArray (c + 1)) } := by
    unfold uS Instr.mapUpdate
    simp only [Sem.run_bind, run_underlying h1, Result.andThen_ok, MapKept.run_getObj_map hb, hk.chk, hfn, MapKept.run_setObj_map _ hb, Sem.run_pure]
    simp
  rw [hr]
  obtain ⟨k1, k2⟩ := heap_set2 (o := .map (L ++ [(mkE (kv a) v c)]).toArray (c + 1)) hb
  refine kk (z { w0 with heap := w0.heap.setIfInBounds g _ }) ⟨k2, fun y hy => ?_, h.born.push _ _⟩ k1 (by simp [z])
  rcases List.mem_append.1 hy with h' | h'
  · exact h.keys y h'
  · simp at h'; subst h'; exact ⟨a, rfl⟩
/-- How many entries. -/
theorem lenM {S : World → Prop} {t k e : TypeId} [hm : MapTy P t k e] {g n : Nat} {K : Value → Prop} (h : ∀ u, S u → ∃ L c, Ents kv u g L c ∧ L.length = n) (kk : K (.int .i64 n)) : LenG P S t (.map (some g)) K := by
  rw [LenG_eq]
  refine ⟨.int .i64 n, fun w hw w0 e0 => ?_, kk⟩
  subst e0
  obtain ⟨L, c, h1, h2⟩ := h _ hw
  have hb : w0.heap[g]? = some (.map L.toArray c) := h1.at_
  rw [run_vS]
  unfold Builtin.len_
  have e1 : (#[t] : Array TypeId)[0]? = some t := rfl
  have e2 : (#[Value.map (some g)] : Array Value)[0]? = some (.map (some g)) := rfl
  simp only [e1, e2, Sem.run_bind, run_underlying (mapOf_spec hm.h), Result.andThen_ok, MapKept.run_getObj_map hb, Sem.run_pure]
  exact ⟨by simp [goInt, h2], rfl⟩
theorem Ents.new (kv : κ → Value) (w : World) : Ents kv (w.alloc (.map #[] 0)) w.heap.size [] 0 := ⟨by unfold World.alloc; simp, fun _ h => (by cases h), fun i e h => by simp at h⟩
theorem Ents.g {w : World} {g c : Nat} {L : List MapEntry} (h : Ents kv w g L c) : MapG kv w g (fun a => lookP (kv a) L) := ⟨L, c, h, fun _ => rfl⟩
end
end Go.Proofs.YtcpogcdadlcdaaaGreat
