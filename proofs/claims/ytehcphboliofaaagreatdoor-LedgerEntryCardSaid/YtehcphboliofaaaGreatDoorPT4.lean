/- Parts of the proof: Vs Vt Vu Vy Vv Vz V0 V1 V2 V3. -/
import Derived.Test.YtehcphboliofaaaGreatDoorPT3
import Derived.MapKept
import Derived.Laws.AppendOwn
import Derived.Maps.RangeRun
import Derived.Laws.IdiomCopy
import Derived.Lib.AppendZerosOnto
import Derived.Laws.IdiomStrings
import Derived.Laws.BytesArg
import Derived.ChangeKeysEq
import Derived.ArgAppend
import Derived.Scope

/- Own layer, part s: maps, whatever their keys. Nothing of the program stands here. -/
namespace Go.Proofs.YtehcphboliofaaaGreatDoor
open Go Go.RowKit Classical

abbrev mkE (k v : Value) (c : Nat) : MapEntry := { key := k, val := v, born := c }
noncomputable def findP (v : Value) : List MapEntry → Nat → Option (Nat × Value)
  | [], _ => none
  | e :: r, i => if e.key = v then some (i, e.val) else findP v r (i + 1)
theorem findP_none {v : Value} : ∀ {L : List MapEntry} {i : Nat}, findP v L i = none ↔ ∀ e ∈ L, e.key ≠ v
  | [], _ => by simp [findP]
  | e :: r, i => by
    unfold findP
    by_cases h : e.key = v
    · simp [h]
    · rw [if_neg h, findP_none]; simp [h]
theorem findP_some {v x : Value} {n : Nat} : ∀ {L : List MapEntry} {i : Nat}, findP v L i = some (n, x) → ∃ j e, n = i + j ∧ L[j]? = some e ∧ e.key = v ∧ e.val = x ∧ ∀ m y, m < j → L[m]? = some y → y.key ≠ v
  | [], _, h => by simp [findP] at h
  | e :: r, i, h => by
    unfold findP at h
    by_cases hk : e.key = v
    · rw [if_pos hk] at h
      simp only [Option.some.injEq, Prod.mk.injEq] at h
      exact ⟨0, e, h.1.symm, rfl, hk, h.2, fun m y hm => by omega⟩
    · rw [if_neg hk] at h
      obtain ⟨j, e', h1, h2, h3, h4, h5⟩ := findP_some h
      refine ⟨j + 1, e', by omega, by simpa using h2, h3, h4, fun m y hm hy => ?_⟩
      cases m with
      | zero => simp at hy; subst hy; exact hk
      | succ m => exact h5 m y (by omega) (by simpa using hy)
noncomputable def lookP (v : Value) (L : List MapEntry) : Option Value := (findP v L 0).map (·.2)
theorem findP_val (v : Value) : ∀ (L : List MapEntry) (i j : Nat), (findP v L i).map (·.2) = (findP v L j).map (·.2)
  | [], _, _ => rfl
  | e :: r, i, j => by
    unfold findP
    split
    · rfl
    · exact findP_val v r _ _
theorem lookP_cons (v : Value) (e : MapEntry) (r : List MapEntry) : lookP v (e :: r) = if e.key = v then some e.val else lookP v r := by
  unfold lookP
  rw [findP]
  split
  · rfl
  · exact findP_val v r _ _
theorem lookP_none {v : Value} {L : List MapEntry} : lookP v L = none ↔ findP v L 0 = none := by unfold lookP; simp
theorem lookP_push {v : Value} {x : MapEntry} : ∀ (L : List MapEntry), lookP x.key L = none → lookP v (L ++ [x]) = if x.key = v then some x.val else lookP v L
  | [], _ => by rw [List.nil_append, lookP_cons]
  | e :: r, h => by
    rw [lookP_cons] at h
    split at h
    · cases h
    rename_i hne
    rw [List.cons_append, lookP_cons, lookP_cons, lookP_push r h]
    by_cases h1 : e.key = v
    · rw [if_pos h1, if_pos h1]
      subst h1
      rw [if_neg (fun e => hne e.symm)]
    · rw [if_neg h1, if_neg h1]
theorem lookP_modify {k v u : Value} : ∀ (L : List MapEntry) (j : Nat) (e : MapEntry), L[j]? = some e → e.key = k → (∀ m y, m < j → L[m]? = some y → y.key ≠ k) →
    lookP u (L.modify j fun e => { e with val := v }) = if k = u then some v else lookP u L
  | [], j, e, h, _, _ => by simp at h
  | x :: r, 0, e, h, hk, _ => by
    simp at h; subst h
    show lookP u ({ x with val := v } :: r) = _
    rw [lookP_cons, lookP_cons, hk]
    by_cases h : k = u
    · rw [if_pos h, if_pos h]
    · rw [if_neg h, if_neg h, if_neg h]
  | x :: r, j + 1, e, h, hk, hn => by
    have hne := hn 0 x (by omega) rfl
    show lookP u (x :: r.modify j _) = _
    rw [lookP_cons, lookP_cons, lookP_modify r j e (by simpa using h) hk (fun m y hm hy => hn (m + 1) y (by omega) (by simpa using hy))]
    by_cases h : k = u
    · subst h; rw [if_pos rfl, if_neg hne, if_pos rfl]
    · rw [if_neg h, if_neg h]
/-- What the rules ask of a type of keys. -/
class KeyL (P : Program) (k : TypeId) {κ : Type} (kv : κ → Value) : Prop where
  inj : ∀ a b, kv a = kv b → a = b
  chk : ∀ (b : Bool) (a : κ) (w : World), (Instr.checkKey b 10000 k (kv a)).run P w = .ok () w
  bits : ∀ a, Instr.sameBits 10000 (kv a) (kv a) = true
  fnd : ∀ (a : κ) (L : List MapEntry) (w : World), (∀ e ∈ L, ∃ q, e.key = kv q) → (Instr.findKey k (kv a) L).run P w = .ok (findP (kv a) L 0) w
def BornL (L : List MapEntry) (c : Nat) : Prop := ∀ (i : Nat) (e : MapEntry), L[i]? = some e → e.born < c ∧ ∀ (j : Nat) (e' : MapEntry), L[j]? = some e' → e'.born = e.born → j = i
/-- A map's entries. -/
structure Ents {κ : Type} (kv : κ → Value) (w : World) (g : Nat) (L : List MapEntry) (c : Nat) : Prop where
  at_ : w.heap[g]? = some (.map L.toArray c)
  keys : ∀ e ∈ L, ∃ q, e.key = kv q
  born : BornL L c
/-- Block g is a map that says f. -/
def MapG {κ : Type} (kv : κ → Value) (w : World) (g : Nat) (f : κ → Option Value) : Prop := ∃ L c, Ents kv w g L c ∧ ∀ a, lookP (kv a) L = f a
/-- .. and the entry of a has the stamp s. -/
def MapS {κ : Type} (kv : κ → Value) (w : World) (g : Nat) (f : κ → Option Value) (a : κ) (s : Nat) : Prop := ∃ L c, Ents kv w g L c ∧ (∀ a, lookP (kv a) L = f a) ∧
  ∃ (j : Nat) (e : MapEntry), L[j]? = some e ∧ e.key = kv a ∧ e.born = s ∧ ∀ (m : Nat) (y : MapEntry), m < j → L[m]? = some y → y.key ≠ kv a
section
variable {P : Program} {κ : Type} {kv : κ → Value}
theorem MapS.g {w : World} {g s : Nat} {f : κ → Option Value} {a : κ} (h : MapS kv w g f a s) : MapG kv w g f := by obtain ⟨L, c, h1, h2, _⟩ := h; exact ⟨L, c, h1, h2⟩
theorem MapG.lt {w : World} {g : Nat} {f : κ → Option Value} (h : MapG kv w g f) : g < w.heap.size := by obtain ⟨L, c, h, _⟩ := h; exact (Array.getElem?_eq_some_iff.1 h.at_).1
theorem Ents.kept {D : Nat → Prop} {w w' : World} {g : Nat} {L : List MapEntry} {c : Nat} (h : Ents kv w g L c) (k : Kept D w w') (hD : D g) : Ents kv w' g L c :=
  ⟨(k.blk g (Array.getElem?_eq_some_iff.1 h.at_).1 hD).trans h.at_, h.keys, h.born⟩
theorem MapG.kept {D : Nat → Prop} {w w' : World} {g : Nat} {f : κ → Option Value} (h : MapG kv w g f) (k : Kept D w w') (hD : D g) : MapG kv w' g f := by
  obtain ⟨L, c, h1, h2⟩ := h; exact ⟨L, c, h1.kept k hD, h2⟩
theorem MapS.kept {D : Nat → Prop} {w w' : World} {g s : Nat} {f : κ → Option Value} {a : κ} (h : MapS kv w g f a s) (k : Kept D w w') (hD : D g) : MapS kv w' g f a s := by
  obtain ⟨L, c, h1, h2⟩ := h; exact ⟨L, c, h1.kept k hD, h2⟩
theorem MapG.new (kv : κ → Value) (w : World) : MapG kv (w.alloc (.map #[] 0)) w.heap.size (fun _ => none) := ⟨[], 0, ⟨by unfold World.alloc; simp, fun _ h => (by cases h), fun i e h => by simp at h⟩, fun _ => rfl⟩
noncomputable def pset (f : κ → Option Value) (a : κ) (v : Value) : κ → Option Value := fun b => if b = a then some v else f b

theorem mapOf_spec {t k e : TypeId} (hm : mapOf P t = some (k, e)) : P.underlying t = some (.map k e) := by
  unfold mapOf at hm
  split at hm
  · rename_i k' e' hu
    simp only [Option.some.injEq, Prod.mk.injEq] at hm
    obtain ⟨rfl, rfl⟩ := hm
    exact hu
  · cases hm
theorem run_lookupG {t k e : TypeId} {zv : Value} (hm : P.underlying t = some (.map k e)) [hk : KeyL P k kv] (hz : zeroOf P e = some zv) {w : World} {g : Nat} {f : κ → Option Value} (h : MapG kv w g f) (a : κ) (ok : Bool) :
    (Instr.lookup t (.map (some g)) (kv a) ok).run P w = .ok (match f a with | some v => (if ok then .tuple #[v, .bool true] else v) | none => (if ok then .tuple #[zv, .bool false] else zv)) w := by
  obtain ⟨L, c, hE, hf⟩ := h
  unfold Instr.lookup
  simp only [Sem.run_bind, run_underlying hm, Result.andThen_ok, MapKept.run_getObj_map hE.at_, Sem.run_pure, hk.chk]
  have hfn := hk.fnd a L w hE.keys
  rw [← hf a, hfn]
  unfold lookP
  cases hp : findP (kv a) L 0 with
  | none => simp only [Result.andThen_ok, Sem.run_bind, run_zeroValue' hz, Sem.run_pure, Option.map_none]
  | some p => obtain ⟨n, x⟩ := p; simp only [Result.andThen_ok, Sem.run_bind, Sem.run_pure, Option.map_some]
/-- A look into a map, the value alone. -/
theorem lookG1 {S : World → Prop} {t k e : TypeId} {zv : Value} [hm : MapTy P t k e] [hk : KeyL P k kv] [hz : ZeroTy P e zv] {g : Nat} (a : κ) {K : Value → Prop} (v : Value) (h : ∀ u, S u → ∃ f : κ → Option Value, MapG kv u g f ∧ (f a).getD zv = v) (kk : K v) : LookG P S t (.map (some g)) (kv a) false K := by
  rw [LookG_eq]
  refine ⟨v, fun w hw w0 e0 => ?_, kk⟩
  subst e0
  obtain ⟨f, h1, h2⟩ := h _ hw
  have := run_lookupG (mapOf_spec hm.h) hz.h (w := w0) (show MapG kv w0 g f from by obtain ⟨L, c, hE, hf⟩ := h1; exact ⟨L, c, ⟨hE.at_, hE.keys, hE.born⟩, hf⟩) a false
  rw [run_vS, this]
  cases hf : f a with
  | none => rw [hf] at h2; exact ⟨h2, rfl⟩
  | some x => rw [hf] at h2; exact ⟨h2, rfl⟩
theorem BornL.push {L : List MapEntry} {c : Nat} (h : BornL L c) (k v : Value) : BornL (L ++ [(mkE (k) v c)]) (c + 1) := by
  intro i e he
  have hi : i < L.length + 1 := by have := (List.getElem?_eq_some_iff.1 he).1; simpa using this
  by_cases h1 : i < L.length
  · rw [List.getElem?_append_left h1] at he
    obtain ⟨h2, h3⟩ := h i e he
    refine ⟨by omega, fun j e' hj hb => ?_⟩
    by_cases h4 : j < L.length
    · rw [List.getElem?_append_left h4] at hj
      exact h3 j e' hj hb
    · rw [List.getElem?_append_right (by omega)] at hj
      have : e' = (mkE (k) v c) := by
        have hl := (List.getElem?_eq_some_iff.1 hj).1
        have : j - L.length = 0 := by simpa using hl
        rw [this] at hj; simpa using hj.symm
      subst this
      simp only at hb
      omega
  · have hi' : i = L.length := by omega
    subst hi'
    have he' : e = (mkE (k) v c) := by rw [List.getElem?_append_right (by omega)] at he; simpa using he.symm
    subst he'
    refine ⟨Nat.lt_succ_self c, fun j e' hj hb => ?_⟩
    by_cases h4 : j < L.length
    · rw [List.getElem?_append_left h4] at hj
      have := (h j e' hj).1
      simp only at hb
      omega
    · have := (List.getElem?_eq_some_iff.1 hj).1
      simp at this
      omega
theorem BornL.modify {L : List MapEntry} {c : Nat} (h : BornL L c) (j : Nat) (v : Value) : BornL (L.modify j fun e => { e with val := v }) c := by
  have key : ∀ (i : Nat) (e : MapEntry), (L.modify j fun e => { e with val := v })[i]? = some e → ∃ e0, L[i]? = some e0 ∧ e.born = e0.born := by
    intro i e he
    rw [List.getElem?_modify] at he
    cases hL : L[i]? with
    | none => rw [hL] at he; cases he
    | some e0 =>
      rw [hL] at he
      simp only [Option.map_eq_map, Option.map_some, Option.some.injEq] at he
      refine ⟨e0, rfl, ?_⟩
      subst he
      split <;> rfl
  intro i e he
  obtain ⟨e0, h1, h2⟩ := key i e he
  obtain ⟨h3, h4⟩ := h i e0 h1
  refine ⟨by omega, fun j' e' hj hb => ?_⟩
  obtain ⟨e1, h5, h6⟩ := key j' e' hj
  exact h4 j' e1 h5 (by omega)
theorem keys_modify {L : List MapEntry} (h : ∀ e ∈ L, ∃ q, e.key = kv q) (j : Nat) (v : Value) : ∀ e ∈ (L.modify j fun e => { e with val := v }), ∃ q, e.key = kv q := by
  intro y hy
  obtain ⟨m, hm'⟩ := List.getElem?_of_mem hy
  rw [List.getElem?_modify] at hm'
  cases hLm : L[m]? with
  | none => rw [hLm] at hm'; cases hm'
  | some y0 =>
    rw [hLm] at hm'
    simp only [Option.map_eq_map, Option.map_some, Option.some.injEq] at hm'
    obtain ⟨q, hq⟩ := h y0 (List.mem_of_getElem? hLm)
    refine ⟨q, ?_⟩
    subst hm'
    split
    · exact hq
    · exact hq
theorem modify_same {L : List MapEntry} {j : Nat} {e : MapEntry} {k : Value} (h : L[j]? = some e) (hk : e.key = k) : (L.modify j fun e => { e with key := k }) = L := by
  apply List.ext_getElem?
  intro m
  rw [List.getElem?_modify]
  by_cases hm : j = m
  · subst hm
    rw [h]; subst hk; simp
  · cases L[m]? <;> simp [hm]
theorem modify_both {L : List MapEntry} {j : Nat} {e : MapEntry} {k v : Value} (h : L[j]? = some e) (hk : e.key = k) : (L.modify j fun e => { e with key := k, val := v }) = L.modify j fun e => { e with val := v } := by
  apply List.ext_getElem?
  intro m
  rw [List.getElem?_modify, List.getElem?_modify]
  by_cases hm : j = m
  · subst hm
    rw [h]; subst hk; rfl
  · cases L[m]? <;> simp [hm]
theorem heap_set {w0 : World} {g : Nat} {L : List MapEntry} {c : Nat} {o : Obj} (hb : w0.heap[g]? = some (.map L.toArray c)) : Kept (fun b => b ≠ g) (z w0) (z { w0 with heap := w0.heap.setIfInBounds g o }) ∧ (z { w0 with heap := w0.heap.setIfInBounds g o }).heap[g]? = some o := by
  have hlt := (Array.getElem?_eq_some_iff.1 hb).1
  exact ⟨⟨rfl, rfl, rfl, by simp [z], fun b hb1 hne => by
    show (w0.heap.setIfInBounds g _)[b]? = w0.heap[b]?
    rw [Array.getElem?_setIfInBounds_ne (fun e => hne e.symm)]⟩, by simp [z, hlt]⟩
/-- A map's entry set. -/
theorem mupdG {t k e : TypeId} [hm : MapTy P t k e] [hk : KeyL P k kv] {g : Nat} {f : κ → Option Value} (a : κ) {v : Value} {w : World} {K : VK} (h : MapG kv w g f) (kk : ∀ w', MapG kv w' g (pset f a v) → Kept (fun b => b ≠ g) w w' → w'.heap.size = w.heap.size → K undef w') : MUpdP P t (.map (some g)) (kv a) v K w := by
  rw [MUpdP_eq]
  intro w0 hw
  subst hw
  have h1 := mapOf_spec hm.h
  obtain ⟨L, c, hE, hf⟩ := h
  have hb : w0.heap[g]? = some (.map L.toArray c) := hE.at_
  have hfn := hk.fnd a L w0 hE.keys
  cases hp : findP (kv a) L 0 with
  | none =>
    rw [hp] at hfn
    have hr : (uS (Instr.mapUpdate t (.map (some g)) (kv a) v)).run P w0 = .ok .skip { w0 with heap := w0.heap.setIfInBounds g (.map (L ++ [(mkE (kv a) v c)]).toArray (c + 1)) } := by
      unfold uS Instr.mapUpdate
      simp only [Sem.run_bind, run_underlying h1, Result.andThen_ok, MapKept.run_getObj_map hb, hk.chk, hfn, MapKept.run_setObj_map _ hb, Sem.run_pure]
      simp
    rw [hr]
    obtain ⟨k1, k2⟩ := heap_set (o := .map (L ++ [(mkE (kv a) v c)]).toArray (c + 1)) hb
    refine kk (z { w0 with heap := w0.heap.setIfInBounds g _ }) ⟨_, _, ⟨k2, fun y hy => ?_, hE.born.push _ _⟩, fun b => ?_⟩ k1 (by simp [z])
    · rcases List.mem_append.1 hy with h | h
      · exact hE.keys y h
      · simp at h; subst h; exact ⟨a, rfl⟩
    · rw [lookP_push (x := (mkE (kv a) v c)) L (lookP_none.2 hp)]
      unfold pset
      by_cases hab : b = a
      · subst hab; rw [if_pos rfl, if_pos rfl]
      · rw [if_neg (fun e => hab (hk.inj _ _ e).symm), if_neg hab, hf]
  | some p =>
    obtain ⟨n, x⟩ := p
    rw [hp] at hfn
    obtain ⟨j, y, hn, hj, hy, _, hfirst⟩ := findP_some hp
    have hn : n = j := by omega
    subst hn
    have hr : (uS (Instr.mapUpdate t (.map (some g)) (kv a) v)).run P w0 = .ok .skip { w0 with heap := w0.heap.setIfInBounds g (.map (L.modify n fun e => { e with val := v }).toArray c) } := by
      unfold uS Instr.mapUpdate
      have hkey : ((L.toArray[n]?).map (·.key)).getD (kv a) = kv a := by simp [hj, hy]
      simp only [Sem.run_bind, run_underlying h1, Result.andThen_ok, MapKept.run_getObj_map hb, hk.chk, hfn, hkey, Instr.keyThatStays, hk.bits, if_true, Sem.run_pure, MapKept.run_setObj_map _ hb]
      rw [← modify_both hj hy]
      simp
    rw [hr]
    obtain ⟨k1, k2⟩ := heap_set (o := .map (L.modify n fun e => { e with val := v }).toArray c) hb
    refine kk (z { w0 with heap := w0.heap.setIfInBounds g _ }) ⟨_, _, ⟨k2, keys_modify hE.keys n v, hE.born.modify n v⟩, fun b => ?_⟩ k1 (by simp [z])
    rw [lookP_modify (k := kv a) L n y hj hy hfirst]
    unfold pset
    by_cases hab : b = a
    · subst hab; rw [if_pos rfl, if_pos rfl]
    · rw [if_neg (fun e => hab (hk.inj _ _ e).symm), if_neg hab, hf]
/-- An entry taken hold of ('m[a] op= ..'). -/
theorem mentG {t k e : TypeId} {zv : Value} [hm : MapTy P t k e] [hk : KeyL P k kv] [hz : ZeroTy P e zv] {g : Nat} {f : κ → Option Value} (a : κ) {w : World} {K : VK} (h : MapG kv w g f) (kk : ∀ w' (s : Nat), MapS kv w' g (pset f a ((f a).getD zv)) a s → Kept (fun b => b ≠ g) w w' → w'.heap.size = w.heap.size → K (.tuple #[(f a).getD zv, .int .i64 (s : Int)]) w') : MEntP P t (.map (some g)) (kv a) K w := by
  rw [MEntP_eq]
  intro w0 hw
  subst hw
  have h1 := mapOf_spec hm.h
  obtain ⟨L, c, hE, hf⟩ := h
  have hb : w0.heap[g]? = some (.map L.toArray c) := hE.at_
  have hfn := hk.fnd a L w0 hE.keys
  cases hp : findP (kv a) L 0 with
  | none =>
    rw [hp] at hfn
    have hfa : f a = none := by rw [← hf a]; exact lookP_none.2 hp
    have hr : (vS (Instr.mapEntry t (.map (some g)) (kv a))).run P w0 = .ok (.value (.tuple #[zv, .int .i64 (c : Int)])) { w0 with heap := w0.heap.setIfInBounds g (.map (L ++ [(mkE (kv a) zv c)]).toArray (c + 1)) } := by
      rw [run_vS]
      unfold Instr.mapEntry
      simp only [Sem.run_bind, run_underlying h1, Result.andThen_ok, MapKept.run_getObj_map hb, hk.chk, hfn, run_zeroValue' hz.h, MapKept.run_setObj_map _ hb, Sem.run_pure]
      simp [goInt]
    rw [hr]
    obtain ⟨k1, k2⟩ := heap_set (o := .map (L ++ [(mkE (kv a) zv c)]).toArray (c + 1)) hb
    have := kk (z { w0 with heap := w0.heap.setIfInBounds g (.map (L ++ [(mkE (kv a) zv c)]).toArray (c + 1)) }) c ⟨_, _, ⟨k2, fun y hy => ?_, hE.born.push _ _⟩, fun b => ?_, L.length, (mkE (kv a) zv c), by simp, rfl, rfl, fun m y hm hy => ?_⟩ k1 (by simp [z])
    · rw [hfa] at this; exact this
    · rcases List.mem_append.1 hy with h | h
      · exact hE.keys y h
      · simp at h; subst h; exact ⟨a, rfl⟩
    · rw [lookP_push (x := (mkE (kv a) zv c)) L (lookP_none.2 hp), hfa]
      unfold pset
      by_cases hab : b = a
      · subst hab; rw [if_pos rfl, if_pos rfl]; rfl
      · rw [if_neg (fun e => hab (hk.inj _ _ e).symm), if_neg hab, hf]
    · rw [List.getElem?_append_left hm] at hy
      exact findP_none.1 hp y (List.mem_of_getElem? hy)
  | some p =>
    obtain ⟨n, x⟩ := p
    rw [hp] at hfn
    obtain ⟨j, y, hn, hj, hy, hyx, hfirst⟩ := findP_some hp
    have hn : n = j := by omega
    subst hn
    have hfa : f a = some x := by rw [← hf a]; unfold lookP; rw [hp]; rfl
    have hr : (vS (Instr.mapEntry t (.map (some g)) (kv a))).run P w0 = .ok (.value (.tuple #[x, .int .i64 (y.born : Int)])) { w0 with heap := w0.heap.setIfInBounds g (.map L.toArray c) } := by
      rw [run_vS]
      unfold Instr.mapEntry
      have hkey : ((L.toArray[n]?).map (·.key)).getD (kv a) = kv a := by simp [hj, hy]
      simp only [Sem.run_bind, run_underlying h1, Result.andThen_ok, MapKept.run_getObj_map hb, hk.chk, hfn, hkey, Instr.keyThatStays, hk.bits, if_true, Sem.run_pure, MapKept.run_setObj_map _ hb]
      have e1 := modify_same hj hy
      have e2 : (L.toArray.modify n fun e => { e with key := kv a }) = L.toArray := by have := congrArg List.toArray e1; simpa using this
      rw [e2]
      simp [goInt, hj]
    rw [hr]
    obtain ⟨k1, k2⟩ := heap_set (o := .map L.toArray c) hb
    have := kk (z { w0 with heap := w0.heap.setIfInBounds g (.map L.toArray c) }) y.born ⟨L, c, ⟨k2, hE.keys, hE.born⟩, fun b => ?_, n, y, hj, hy, rfl, hfirst⟩ k1 (by simp [z])
    · rw [hfa] at this; exact this
    · rw [hf, hfa]
      unfold pset
      by_cases hab : b = a
      · subst hab; rw [if_pos rfl]; exact hfa
      · rw [if_neg hab]
/-- .. and set. -/
theorem estoG {t k e : TypeId} [_hm : MapTy P t k e] [hk : KeyL P k kv] {g s : Nat} {f : κ → Option Value} {a : κ} {v : Value} {w : World} {K : VK} (h : MapS kv w g f a s) (kk : ∀ w', MapG kv w' g (pset f a v) → Kept (fun b => b ≠ g) w w' → w'.heap.size = w.heap.size → K undef w') : EStoP P t (.map (some g)) (.int .i64 (s : Int)) v K w := by
  rw [EStoP_eq]
  intro w0 hw
  subst hw
  obtain ⟨L, c, hE, hf, j, y, hj, hy, hs, hfirst⟩ := h
  have hb : w0.heap[g]? = some (.map L.toArray c) := hE.at_
  subst hs
  have hjl := (List.getElem?_eq_some_iff.1 hj).1
  have hidx : L.toArray.findIdx? (fun e => (e.born : Int) == (y.born : Int)) = some j := by
    rw [List.findIdx?_toArray]
    rw [List.findIdx?_eq_some_iff_getElem]
    refine ⟨hjl, ?_, fun m hm => ?_⟩
    · have : L[j] = y := (List.getElem?_eq_some_iff.1 hj).2
      simp [this]
    · have hm' : L[m]? = some L[m] := List.getElem?_eq_getElem (by omega)
      simp only [beq_iff_eq, Int.natCast_inj]
      intro e
      have := (hE.born j y hj).2 m _ hm' e
      omega
  have hr : (uS (Instr.entryStore t (.map (some g)) (.int .i64 (y.born : Int)) v)).run P w0 = .ok .skip { w0 with heap := w0.heap.setIfInBounds g (.map (L.modify j fun e => { e with val := v }).toArray c) } := by
    have hai : (asInt (.int .i64 (y.born : Int))).run P w0 = .ok (y.born : Int) w0 := rfl
    unfold uS Instr.entryStore
    simp only [Sem.run_bind, Result.andThen_ok, MapKept.run_getObj_map hb, hai, Sem.run_pure, hidx, MapKept.run_setObj_map _ hb]
    simp
  rw [hr]
  obtain ⟨k1, k2⟩ := heap_set (o := .map (L.modify j fun e => { e with val := v }).toArray c) hb
  refine kk (z { w0 with heap := w0.heap.setIfInBounds g _ }) ⟨_, _, ⟨k2, keys_modify hE.keys j v, hE.born.modify j v⟩, fun b => ?_⟩ k1 (by simp [z])
  rw [lookP_modify (k := kv a) L j y hj hy hfirst]
  unfold pset
  by_cases hab : b = a
  · subst hab; rw [if_pos rfl, if_pos rfl]
  · rw [if_neg (fun e => hab (hk.inj _ _ e).symm), if_neg hab, hf]

/-! ### keys of two numbers -/
abbrev kv2 (p : Int × Int) : Value := .agg #[.int .i64 p.1, .int .i64 p.2]
/-- What the rules ask of the array's type. -/
structure Key2 (P : Program) (k e : TypeId) : Prop where
  u : P.underlying k = some (.array 2 e)
  ue : P.underlying e = some (.int .i64)
  i : (P.info? e).isSome = true
  one : P.cellsOf e = 1
  eq : ∀ a b c d : Int, eqV P 8 k (.agg #[.int .i64 a, .int .i64 b]) (.agg #[.int .i64 c, .int .i64 d]) = some ((a == c) && ((b == d) && true))
theorem run_chk2 {k e : TypeId} (h : Key2 P k e) (b : Bool) (a : Int × Int) (w : World) : (Instr.checkKey b 10000 k (kv2 a)).run P w = .ok () w := by
  obtain ⟨i, hi⟩ := Option.isSome_iff_exists.1 h.i
  have hs : (sizeOf e).run P w = .ok (P.cellsOf e) w := Go.run_sizeOf w hi
  have p0 : (part e #[.int .i64 a.1, .int .i64 a.2] 0).run P w = .ok (.int .i64 a.1) w := run_partV (by unfold partV; rw [h.ue]; rfl) w
  have p1 : (part e #[.int .i64 a.1, .int .i64 a.2] 1).run P w = .ok (.int .i64 a.2) w := run_partV (by unfold partV; rw [h.ue]; rfl) w
  have ck : ∀ n : Int, (Instr.checkKey b 9999 e (.int .i64 n)).run P w = .ok () w := fun n => by
    rw [show (9999 : Nat) = 9998 + 1 from rfl]
    unfold Instr.checkKey
    rw [Sem.run_bind, run_underlying h.ue]
    rfl
  rw [show (10000 : Nat) = 9999 + 1 from rfl]
  unfold Instr.checkKey
  simp only [Sem.run_bind, run_underlying h.u, Result.andThen_ok]
  simp only [Std.Legacy.Range.forIn_eq_forIn_range', Std.Legacy.Range.size, Nat.sub_zero, Nat.add_one_sub_one, Nat.div_one]
  simp only [List.range', List.forIn_cons, List.forIn_nil, Sem.run_bind, hs, h.one, Result.andThen_ok, p0, p1, ck, Sem.run_pure, Nat.zero_mul, Nat.mul_one, Nat.zero_add]
theorem run_fnd2 {k e : TypeId} (h : Key2 P k e) (a : Int × Int) (L : List MapEntry) (w : World) (hL : ∀ e ∈ L, ∃ q, e.key = kv2 q) : (Instr.findKey k (kv2 a) L).run P w = .ok (findP (kv2 a) L 0) w := by
  have heq : ∀ q, (Op.equal k (kv2 a) (kv2 q)).run P w = .ok ((a.1 == q.1) && ((a.2 == q.2) && true)) w := fun q => run_eqV 9992 8 k _ _ _ (h.eq a.1 a.2 q.1 q.2) w
  have ask : ∀ (L : List MapEntry) (i : Nat), (∀ e ∈ L, ∃ q, e.key = kv2 q) → (Instr.findAsking k (kv2 a) L i).run P w = .ok (findP (kv2 a) L i) w := by
    intro L
    induction L with
    | nil => intro i _; simp [Instr.findAsking, findP]
    | cons x r ih =>
      intro i hx
      obtain ⟨q, hq⟩ := hx x List.mem_cons_self
      unfold Instr.findAsking findP
      rw [hq, Sem.run_bind, heq q]
      by_cases hab : a = q
      · subst hab
        simp
      · have h1 : ((a.1 == q.1) && ((a.2 == q.2) && true)) = false := by
          rw [Bool.eq_false_iff]
          intro e
          simp at e
          exact hab (Prod.ext e.1 e.2)
        have h2 : ¬ (kv2 q = kv2 a) := fun e => by
          simp at e
          exact hab (Prod.ext e.1.symm e.2.symm)
        rw [h1, if_neg h2]
        simpa using ih (i + 1) fun y hy => hx y (List.mem_cons_of_mem _ hy)
  unfold Instr.findKey
  rw [Sem.run_bind, run_underlying h.u]
  simp only [Result.andThen_ok]
  cases L with
  | nil => simp [Instr.findNow, findP]
  | cons x r =>
    obtain ⟨q, hq⟩ := hL x List.mem_cons_self
    have : Instr.findNow (.array 2 e) (kv2 a) (x :: r) 0 = none := by unfold Instr.findNow; rw [hq]; rfl
    rw [this]
    exact ask _ 0 hL
theorem Key2.law {k e : TypeId} (h : Key2 P k e) : KeyL P k kv2 where
  inj a b h := by simp at h; exact Prod.ext h.1 h.2
  chk := run_chk2 h
  bits a := by
    rw [show (10000 : Nat) = 9998 + 1 + 1 from rfl]
    simp [Instr.sameBits]
  fnd := run_fnd2 h
end
end Go.Proofs.YtehcphboliofaaaGreatDoor

/- Own layer, part t: a loop that holds ranges over functions; a return behind several of these. Nothing of the program stands here. -/
namespace Go.Proofs.YtehcphboliofaaaGreatDoor
open Go Go.RowKit

section
variable {P : Program}
structure NextDP {α β : Type} (enc : α → β → List (Nat × Value)) (I : α → β → List Deferred → World → Prop) (μ : α → β → World → Nat) (m : Nat) (F : Fr) (ds : List Deferred) (w : World) : Prop where
  of_ ::
  un_ : ∃ (a : α) (b : β), Has F (enc a b) ∧ I a b ds w ∧ μ a b w < m
theorem nextD {α β : Type} {enc : α → β → List (Nat × Value)} {I : α → β → List Deferred → World → Prop} {μ : α → β → World → Nat} {m : Nat} {F : Fr} {ds : List Deferred} {w : World} (a : α) (b : β) (h : Has F (enc a b)) (hi : I a b ds w) (hm : μ a b w < m) : NextDP enc I μ m F ds w := ⟨a, b, h, hi, hm⟩
theorem loopD {c : Code} {K : KK} {F0 : Fr} {ds0 : List Deferred} {w0 : World} {α β : Type} (enc : α → β → List (Nat × Value)) (I : α → β → List Deferred → World → Prop) (μ : α → β → World → Nat)
    (a0 : α) (b0 : β) (h0 : Has F0 (enc a0 b0)) (hI : I a0 b0 ds0 w0)
    (step : ∀ (G : Fr) (a : α) (b : β) (ds : List Deferred) (w : World), I a b ds w →
      V P c (fun e F' ds' w' => match e with | .normal => NextDP enc I μ (μ a b w) F' ds' w' | e => K e F' ds' w') (upds (enc a b) (mix (writes c) F0 G)) ds w) :
    LoopH c (V P c) K F0 ds0 w0 := by
  rw [LoopH_eq]
  refine ⟨fun n F ds' w => Off (writes c) F0 F ∧ ∃ a b, Has F (enc a b) ∧ I a b ds' w ∧ μ a b w = n, ⟨_, .refl _ _, a0, b0, h0, hI, rfl⟩, ?_⟩
  rintro n F ds' w ⟨hf, a, b, hs, hi, rfl⟩
  have hm : mix (writes c) F0 F = F := funext fun j => by
    show (bif memN j (writes c) then F j else F0 j) = F j
    cases hb : memN j (writes c) with
    | true => rfl
    | false => exact (hf j hb).symm
  have h1 := step F a b ds' w hi
  rw [hm, upds_has hs] at h1
  refine V_mf c _ _ F ds' w (fun e F' ds'' w' hf' hd h => ?_) h1
  cases e with
  | normal =>
    have h : NextDP enc I μ (μ a b w) F' ds'' w' := h
    obtain ⟨a', b', a1, a2, a3⟩ := h.un_
    exact ⟨_, a3, hf.trans (hf' (fun _ e => by cases e)), a', b', a1, a2, rfl⟩
  | _ => exact h
/-- The marks that have been laid. -/
def Marks (lo : Nat) : List Deferred → World → Prop
  | [], _ => True
  | d :: ds, w => (∃ b, d.target = .collected b ∧ lo ≤ b ∧ w.heap[b]? = some (.deferred (some [])) ∧ ∀ d' ∈ ds, d'.target ≠ .collected b) ∧ Marks lo ds w
theorem Marks.lt {lo : Nat} : ∀ {ds : List Deferred} {w : World}, Marks lo ds w → ∀ d ∈ ds, ∀ b, d.target = .collected b → b < w.heap.size
  | d :: ds, w, ⟨⟨b, h1, h2, h3, h4⟩, h5⟩, x, hx, b', hb => by
    rcases List.mem_cons.1 hx with rfl | hx
    · rw [h1] at hb; injection hb with hb; subst hb
      exact (Array.getElem?_eq_some_iff.1 h3).1
    · exact h5.lt x hx b' hb
theorem Marks.kept {lo : Nat} {D : Nat → Prop} : ∀ {ds : List Deferred} {w w' : World}, Marks lo ds w → Kept D w w' → (∀ b, lo ≤ b → b < w.heap.size → w.heap[b]? = some (.deferred (some [])) → D b) → Marks lo ds w'
  | [], _, _, _, _, _ => trivial
  | _ :: _, _, _, ⟨⟨b, h1, h2, h3, h4⟩, h5⟩, k, hD => ⟨⟨b, h1, h2, (k.blk b (Array.getElem?_eq_some_iff.1 h3).1 (hD b h2 (Array.getElem?_eq_some_iff.1 h3).1 h3)).trans h3, h4⟩, h5.kept k hD⟩
theorem Marks.ext {lo : Nat} {ds : List Deferred} {w w' : World} (h : Marks lo ds w) (k : Ext w w') : Marks lo ds w' := h.kept k fun _ _ _ _ => trivial
theorem Marks.add {lo b : Nat} {ds : List Deferred} {w w' : World} (h : Marks lo ds w) (k : Ext w w') (hb : w.heap.size ≤ b) (hlo : lo ≤ b) (hw : w'.heap[b]? = some (.deferred (some []))) : Marks lo ({ target := .collected b, args := #[] } :: ds) w' :=
  ⟨⟨b, rfl, hlo, hw, fun d' hd e => by have := h.lt d' hd b e; omega⟩, h.ext k⟩
theorem Marks.shut {lo : Nat} : ∀ {ds : List Deferred} {w : World}, Marks lo ds w → ∃ w', shutMarks ds w = some w' ∧ Kept (fun b => b < lo) w w'
  | [], w, _ => ⟨w, rfl, .refl _ _⟩
  | d :: ds, w, ⟨⟨b, h1, h2, h3, h4⟩, h5⟩ => by
    have k : Kept (fun c => c ≠ b) w (w.putObj b (.deferred none)) := Kept.putObj w b _
    have h6 : Marks lo ds (w.putObj b (.deferred none)) := by
      clear h2
      induction ds with
      | nil => trivial
      | cons x r ih =>
        obtain ⟨⟨c, g1, g2, g3, g4⟩, g5⟩ := h5
        have hne : c ≠ b := fun e => h4 x List.mem_cons_self (e ▸ g1)
        exact ⟨⟨c, g1, g2, (k.blk c (Array.getElem?_eq_some_iff.1 g3).1 hne).trans g3, g4⟩, ih (fun y hy => h4 y (List.mem_cons_of_mem _ hy)) g5⟩
    obtain ⟨w', h7, h8⟩ := Marks.shut h6
    refine ⟨w', ?_, (k.weak fun i _ hi => by omega).trans h8⟩
    unfold shutMarks
    rw [h1]
    simp only [h3]
    exact h7
/-- A return behind marks. -/
theorem retMs {rs : List ResultVar} {F : Fr} {R : VK} {lo : Nat} {ds : List Deferred} {w : World} (hm : Marks lo ds w) (h : ∀ w', Kept (fun b => b < lo) w w' → VRes P F w' rs [] (fun vs => R (resV vs) w')) : RetP P rs F ds R w := by
  rw [RetP_eq]
  obtain ⟨w', h1, h2⟩ := hm.shut
  exact ⟨w', h1, h w' h2⟩
end
end Go.Proofs.YtehcphboliofaaaGreatDoor

/- Own layer, part u: 'clear' of a slice; a slice of a known block. Nothing of the program stands here. -/
namespace Go.Proofs.YtehcphboliofaaaGreatDoor
open Go Go.RowKit

section
variable {P : Program} {X : XK}
theorem zeroCells_one (zs : List Value) (hz : (zs.all fun v => v.oneCell') = true) (n : Nat) : ∀ v ∈ (Builtin.zeroCells zs.toArray n).toList, v.oneCell' = true := by
  intro v hv
  unfold Builtin.zeroCells at hv
  simp only [List.size_toArray, Array.toList_map, Array.toList_range, List.mem_map, List.mem_range] at hv
  obtain ⟨i, hi, rfl⟩ := hv
  have hpos : 0 < zs.length := by
    rcases Nat.eq_zero_or_pos zs.length with h | h
    · rw [h, Nat.mul_zero] at hi; omega
    · exact h
  have hlt : i % zs.length < zs.toArray.size := by simpa using Nat.mod_lt i hpos
  rw [getElem!_pos zs.toArray (i % zs.length) hlt]
  exact List.all_eq_true.1 hz _ (by simp)
/-- clear(xs[..]), xs's block known: what stands ahead of it stays. -/
theorem clr {t e : TypeId} {sz : Nat} {zv : Value} [h : SliceTy P t e sz] [hz : ZeroTy P e zv] {ty : TypeId} {cst : Array Bool} {g o n c : Nat} {cs : List Value} {w : World} {K : VK} (hb : Blk w g e cs) (hn : 0 < n) (ho : o + n * sz ≤ cs.length)
    (kk : ∀ w' cs', Blk w' g e cs' → cs'.take o = cs.take o → cs'.length = cs.length → Kept (fun b => b ≠ g) w w' → K (.tuple #[]) w') (hzs : (cellsL zv).length = sz := by rfl) (h1 : ((cellsL zv).all fun u => u.oneCell') = true := by rfl) :
    BuiP P .clear #[t] ty cst #[.slice (some (ad g o)) n c] K X w := by
  rw [BuiP_eq]
  refine OpS.x fun w0 hw => ?_
  subst hw
  obtain ⟨hu, _⟩ := sliceOf_spec h.h
  have hsz : (Builtin.zeroCells (cellsL zv).toArray n).toList.length = n * sz := by rw [Array.length_toList, size_zeroCells]; simp [hzs]
  obtain ⟨w', hr, hb', hk, _⟩ := run_storeCells' (P := P) (Builtin.zeroCells (cellsL zv).toArray n).toList o 0 cs w0 hb (by rw [hsz]; omega) (zeroCells_one _ h1 n)
  have hrun : (builtin .clear #[t] ty cst #[.slice (some (ad g o)) n c]).run P w0 = .ok (.value (.tuple #[])) w' := by
    have hbc : builtin .clear #[t] ty cst #[.slice (some (ad g o)) n c] = (do pure (.value (← Builtin.clear_ #[t] ty #[.slice (some (ad g o)) n c]))) := rfl
    rw [hbc, Sem.run_bind]
    have : (Builtin.clear_ #[t] ty #[.slice (some (ad g o)) n c]).run P w0 = .ok (.tuple #[]) w' := by
      obtain ⟨m, rfl⟩ : ∃ m, n = m + 1 := ⟨n - 1, by omega⟩
      simp [Builtin.clear_, run_underlying hu, run_zeroValue' hz.h, cellsL_eq, hr]
    rw [this]; rfl
  rw [hrun]
  refine kk (z w') _ hb' ?_ ?_ ⟨hk.os, hk.tape, hk.output, hk.size, hk.blk⟩
  · rw [Nat.add_zero, List.append_assoc, List.take_append_of_le_length (by rw [List.length_take]; omega), List.take_take, Nat.min_self]
  · simp only [List.length_append, List.length_take, List.length_drop, hsz]; omega
/-- xs[l:h], xs's address known. -/
theorem slcA {t e : TypeId} {sz : Nat} [hst : SliceTy P t e sz] {g o n c : Nat} {lo hi : Option Value} {K : Value → Prop} (l h : Nat) (hlo : IsB lo l 0) (hhi : IsB hi h n) (h1 : l ≤ h) (h2 : h ≤ c) (hlc : l < c)
    (kk : K (.slice (some (ad g (o + l * sz))) (h - l) (c - l))) : SlcP P t (.slice (some (ad g o)) n c) lo hi none K := by
  rw [SlcP_eq]
  obtain ⟨hu, inf, hinf, hs'⟩ := sliceOf_spec hst.h
  refine pure_vval (fun w => ?_) kk
  unfold Instr.sliceAt
  rw [Sem.run_bind, run_underlying hu]
  simp only [Result.andThen_ok]
  unfold Instr.slice
  rw [Sem.run_bind, run_underlying hu]
  simp only [Result.andThen_ok]
  rw [Sem.run_bind, run_sliceBounds hlo hhi h1 h2]
  simp only [Result.andThen_ok]
  rw [Sem.run_bind, run_sizeOf hinf, hs']
  have : ¬ (c = l) := by omega
  show Result.ok (Value.slice (if c = l then some (ad g o) else (some (ad g o)).map (·.add (l * sz))) (h - l) (c - l)) w = _
  rw [if_neg this]
  show Result.ok (Value.slice (some ((ad g o).add (l * sz))) (h - l) (c - l)) w = _
  rw [add_ad]
end
end Go.Proofs.YtehcphboliofaaaGreatDoor

/- Own layer, part y: ranging over a map. Nothing of the program stands here. -/
namespace Go.Proofs.YtehcphboliofaaaGreatDoor
open Go Go.RowKit Go.ChangeMaps

theorem BornL.nodup {L : List MapEntry} {c : Nat} (h : BornL L c) : (L.map (·.born)).Nodup := by
  rw [List.nodup_iff_pairwise_ne, List.pairwise_map, List.pairwise_iff_getElem]
  intro i j hi hj hij e
  have := (h i L[i] (List.getElem?_eq_getElem hi)).2 j L[j] (List.getElem?_eq_getElem hj) e.symm
  omega
/-- Block r ranges over the map in block g; the entries with the stamps 'seen' have come. -/
def IterM (w : World) (r g c : Nat) (seen : List Nat) : Prop := w.heap[r]? = some (.mapIter (some g) c seen.toArray c)
theorem IterM.kept {D : Nat → Prop} {w w' : World} {r g c : Nat} {seen : List Nat} (h : IterM w r g c seen) (k : Kept D w w') (hD : D r) : IterM w' r g c seen :=
  (k.blk r (Array.getElem?_eq_some_iff.1 h).1 hD).trans h
theorem heap_set2 {w0 : World} {g : Nat} {o0 o : Obj} (hb : w0.heap[g]? = some o0) : Kept (fun b => b ≠ g) (z w0) (z { w0 with heap := w0.heap.setIfInBounds g o }) ∧ (z { w0 with heap := w0.heap.setIfInBounds g o }).heap[g]? = some o := by
  have hlt := (Array.getElem?_eq_some_iff.1 hb).1
  exact ⟨⟨rfl, rfl, rfl, by simp [z], fun b hb1 hne => by
    show (w0.heap.setIfInBounds g _)[b]? = w0.heap[b]?
    rw [Array.getElem?_setIfInBounds_ne (fun e => hne e.symm)]⟩, by simp [z, hlt]⟩
section
variable {P : Program} {κ : Type} {kv : κ → Value}
theorem rngM {t k e : TypeId} [hm : MapTy P t k e] {s : Sem Next} {g c : Nat} {L : List MapEntry} {w : World} {K : VK} {X : XK} (hs : s = vS (Instr.range t (.map (some g)))) (h : Ents kv w g L c)
    (kk : ∀ w', Ents kv w' g L c → IterM w' w.heap.size g c [] → Ext w w' → w'.heap.size = w.heap.size + 1 → K (.pointer (some (ad w.heap.size 0))) w') : OthP P s K X w := by
  subst hs
  rw [OthP_eq]
  refine OpS.x fun w0 hw => ?_
  subst hw
  have hb : w0.heap[g]? = some (.map L.toArray c) := h.at_
  rw [run_vS]
  unfold Instr.range
  simp only [Sem.run_bind, run_underlying (mapOf_spec hm.h), Result.andThen_ok, MapKept.run_getObj_map hb, Sem.run_pure, run_newObj]
  have x : Ext (z w0) (z (w0.alloc (.mapIter (some g) c #[] c))) := ⟨rfl, rfl, rfl, by show w0.heap.size ≤ (w0.heap.push _).size; simp, fun i hi _ => by
    show (w0.heap.push _)[i]? = w0.heap[i]?
    rw [Array.getElem?_push, if_neg (by have : i < w0.heap.size := hi; omega)]⟩
  exact kk _ (h.kept x trivial) (by show (w0.heap.push _)[w0.heap.size]? = _; simp) x (by show (w0.heap.push _).size = w0.heap.size + 1; simp)
theorem nxtM {ty : TypeId} {s : Sem Next} {r g c : Nat} {seen : List Nat} {L : List MapEntry} {w : World} {K : VK} {X : XK} (hs : s = vS (Instr.next (.pointer (some (ad r 0))) false ty)) (h : Ents kv w g L c) (hi : IterM w r g c seen)
    (k1 : (∀ e ∈ L, e.born ∈ seen) → K (.tuple #[.bool false]) w)
    (k2 : ∀ e ∈ L, e.born ∉ seen → ∀ w', Ents kv w' g L c → IterM w' r g c (seen ++ [e.born]) → Kept (fun b => b ≠ r) w w' → w'.heap.size = w.heap.size → K (.tuple #[.bool true, e.key, e.val]) w') : OthP P s K X w := by
  subst hs
  rw [OthP_eq]
  refine OpS.x fun w0 hw => ?_
  subst hw
  have hb : w0.heap[g]? = some (.map L.toArray c) := h.at_
  have hr : w0.heap[r]? = some (.mapIter (some g) c seen.toArray c) := hi
  have hrg : r ≠ g := fun e => by rw [e, hb] at hr; cases hr
  have hold : ∀ x ∈ L.toArray.toList, x.born < c := fun x hx => by
    obtain ⟨i, hi⟩ := List.getElem?_of_mem (show x ∈ L from hx)
    exact (h.born i x hi).1
  have hmem : ∀ x, x ∈ (leftOf L.toArray seen.toArray).toList ↔ x ∈ L ∧ x.born ∉ seen := fun x => by
    unfold leftOf
    simp
  rw [run_vS]
  rcases run_next_at (P := P) w0 ty r g c c seen.toArray L.toArray c hr hb hold (Nat.le_refl _) with ⟨h0, hrun⟩ | ⟨e, he, w1, hw1, hrun⟩
  · rw [hrun]
    refine k1 fun e he => Classical.byContradiction fun hn => ?_
    have := (hmem e).2 ⟨he, hn⟩
    rw [Array.eq_empty_of_size_eq_zero h0] at this
    cases this
  · rw [hrun]
    obtain ⟨h1, h2⟩ := (hmem e).1 he
    have hh : z (setBlock w1 r (.mapIter (some g) c (seen.toArray.push e.born) c)) = z { w0 with heap := w0.heap.setIfInBounds r (.mapIter (some g) c (seen ++ [e.born]).toArray c) } := by
      rw [List.push_toArray]
      rcases hw1 with rfl | rfl <;> rfl
    show K _ (z _)
    rw [hh]
    obtain ⟨q1, q2⟩ := heap_set2 (o := .mapIter (some g) c (seen ++ [e.born]).toArray c) hr
    exact k2 e h1 h2 _ (h.kept q1 fun e => hrg e.symm) q2 q1 (by simp [z])
theorem entM {s : Sem Next} {r g c : Nat} {seen : List Nat} {L : List MapEntry} {e : MapEntry} {w : World} {K : VK} {X : XK} (hs : s = vS (Instr.entry (.pointer (some (ad r 0))))) (h : Ents kv w g L c) (he : e ∈ L) (hi : IterM w r g c (seen ++ [e.born]))
    (k1 : K (.tuple #[e.key, e.val]) w) : OthP P s K X w := by
  subst hs
  rw [OthP_eq]
  refine OpS.x fun w0 hw => ?_
  subst hw
  have hr : w0.heap[r]? = some (.mapIter (some g) c (seen.toArray.push e.born) c) := by rw [List.push_toArray]; exact hi
  rw [run_vS, run_entry_at (P := P) w0 r g c seen.toArray L.toArray c e hr h.at_ (by simpa using he) h.born.nodup]
  exact k1
/-! ### keys that are numbers -/
abbrev kvI (i : Int) : Value := .int .i64 i
theorem findNow_I : ∀ (L : List MapEntry) (a : Int) (i : Nat), (∀ e ∈ L, ∃ q, e.key = kvI q) → Instr.findNow (.int .i64) (kvI a) L i = some (findP (kvI a) L i)
  | [], _, _, _ => rfl
  | e :: r, a, i, h => by
    obtain ⟨q, hq⟩ := h e List.mem_cons_self
    have ih := findNow_I r a (i + 1) fun x hx => h x (List.mem_cons_of_mem _ hx)
    unfold Instr.findNow findP
    rw [hq]
    simp only [Instr.sameNow, if_true]
    by_cases hk : a = q
    · subst hk; simp
    · have h1 : ¬ (kvI q = kvI a) := fun e => by injection e with _ e; exact hk e.symm
      have h2 : (a == q) = false := beq_eq_false_iff_ne.2 hk
      rw [if_neg h1, h2]
      exact ih
theorem keyI {k : TypeId} (hu : P.underlying k = some (.int .i64)) : KeyL P k kvI where
  inj a b h := by injection h
  chk b a w := run_checkKey_int hu b a w
  bits a := by simp [Instr.sameBits]
  fnd a L w h := run_findKey_int hu (findNow_I L a 0 h) w
/-- A new key. -/
theorem mupdN {t k e : TypeId} [hm : MapTy P t k e] [hk : KeyL P k kv] {g c : Nat} {L : List MapEntry} (a : κ) {v : Value} {w : World} {K : VK} (h : Ents kv w g L c) (hn : ∀ e ∈ L, e.key ≠ kv a)
    (kk : ∀ w', Ents kv w' g (L ++ [mkE (kv a) v c]) (c + 1) → Kept (fun b => b ≠ g) w w' → w'.heap.size = w.heap.size → K undef w') : MUpdP P t (.map (some g)) (kv a) v K w := by
  rw [MUpdP_eq]
  intro w0 hw
  subst hw
  have h1 := mapOf_spec hm.h
  have hb : w0.heap[g]? = some (.map L.toArray c) := h.at_
  have hfn := hk.fnd a L w0 h.keys
  rw [findP_none.2 hn] at hfn
  have hr : (uS (Instr.mapUpdate t (.map (some g)) (kv a) v)).run P w0 = .ok .skip { w0 with heap := w0.heap.setIfInBounds g (.map (L ++ [(mkE (kv a) v c)]).toArray (c + 1)) } := by
    unfold uS Instr.mapUpdate
    simp only [Sem.run_bind, run_underlying h1, Result.andThen_ok, MapKept.run_getObj_map hb, hk.chk, hfn, MapKept.run_setObj_map _ hb, Sem.run_pure]
    simp
  rw [hr]
  obtain ⟨k1, k2⟩ := heap_set2 (o := .map (L ++ [(mkE (kv a) v c)]).toArray (c + 1)) hb
  refine kk (z { w0 with heap := w0.heap.setIfInBounds g _ }) ⟨k2, fun y hy => ?_, h.born.push _ _⟩ k1 (by simp [z])
  rcases List.mem_append.1 hy with h' | h'
  · exact h.keys y h'
  · simp at h'; subst h'; exact ⟨a, rfl⟩
/-- How many entries. -/
theorem lenM {S : World → Prop} {t k e : TypeId} [hm : MapTy P t k e] {g n : Nat} {K : Value → Prop} (h : ∀ u, S u → ∃ L c, Ents kv u g L c ∧ L.length = n) (kk : K (.int .i64 n)) : LenG P S t (.map (some g)) K := by
  rw [LenG_eq]
  refine ⟨.int .i64 n, fun w hw w0 e0 => ?_, kk⟩
  subst e0
  obtain ⟨L, c, h1, h2⟩ := h _ hw
  have hb : w0.heap[g]? = some (.map L.toArray c) := h1.at_
  rw [run_vS]
  unfold Builtin.len_
  have e1 : (#[t] : Array TypeId)[0]? = some t := rfl
  have e2 : (#[Value.map (some g)] : Array Value)[0]? = some (.map (some g)) := rfl
  simp only [e1, e2, Sem.run_bind, run_underlying (mapOf_spec hm.h), Result.andThen_ok, MapKept.run_getObj_map hb, Sem.run_pure]
  exact ⟨by simp [goInt, h2], rfl⟩
theorem Ents.new (kv : κ → Value) (w : World) : Ents kv (w.alloc (.map #[] 0)) w.heap.size [] 0 := ⟨by unfold World.alloc; simp, fun _ h => (by cases h), fun i e h => by simp at h⟩
theorem Ents.g {w : World} {g c : Nat} {L : List MapEntry} (h : Ents kv w g L c) : MapG kv w g (fun a => lookP (kv a) L) := ⟨L, c, h, fun _ => rfl⟩
end
end Go.Proofs.YtehcphboliofaaaGreatDoor

/- Own layer, part v: numbers without signs, as Lean's Nat. Nothing of the program stands here. -/
namespace Go.Proofs.YtehcphboliofaaaGreatDoor
open Go Go.RowKit

theorem u8_wrap (n : Int) : IntKind.u8.wrap n = n % 256 := by simp [IntKind.wrap, IntKind.bits, IntKind.signed]
theorem u16_wrap (n : Int) : IntKind.u16.wrap n = n % 65536 := by simp [IntKind.wrap, IntKind.bits, IntKind.signed]
theorem u32_wrap (n : Int) : IntKind.u32.wrap n = n % 4294967296 := by simp [IntKind.wrap, IntKind.bits, IntKind.signed]
theorem ofInt_nat {k a : Nat} (h : a < 2 ^ k) : (BitVec.ofInt k (a : Int)).toNat = a := by rw [BitVec.ofInt_natCast, BitVec.toNat_ofNat]; exact Nat.mod_eq_of_lt h
theorem u32_and_nat (a b : Nat) (ha : a < 4294967296) (hb : b < 4294967296) : bits .and .u32 (a : Int) (b : Int) = ((a &&& b : Nat) : Int) := by
  have hx : a &&& b < 2 ^ 32 := Nat.and_lt_two_pow _ (by omega)
  show IntKind.u32.wrap ((BitVec.ofInt 32 (a : Int) &&& BitVec.ofInt 32 (b : Int)).toNat : Int) = _
  rw [BitVec.toNat_and, ofInt_nat (by omega), ofInt_nat (by omega), u32_wrap]
  omega
theorem u32_or_nat (a b : Nat) (ha : a < 4294967296) (hb : b < 4294967296) : bits .or .u32 (a : Int) (b : Int) = ((a ||| b : Nat) : Int) := by
  have hx : a ||| b < 2 ^ 32 := Nat.or_lt_two_pow (by omega) (by omega)
  show IntKind.u32.wrap ((BitVec.ofInt 32 (a : Int) ||| BitVec.ofInt 32 (b : Int)).toNat : Int) = _
  rw [BitVec.toNat_or, ofInt_nat (by omega), ofInt_nat (by omega), u32_wrap]
  omega
theorem u32_xor_nat (a b : Nat) (ha : a < 4294967296) (hb : b < 4294967296) : bits .xor .u32 (a : Int) (b : Int) = ((a ^^^ b : Nat) : Int) := by
  have hx : a ^^^ b < 2 ^ 32 := Nat.xor_lt_two_pow (by omega) (by omega)
  show IntKind.u32.wrap ((BitVec.ofInt 32 (a : Int) ^^^ BitVec.ofInt 32 (b : Int)).toNat : Int) = _
  rw [BitVec.toNat_xor, ofInt_nat (by omega), ofInt_nat (by omega), u32_wrap]
  omega
theorem u64_or_nat (a b : Nat) (ha : a < 18446744073709551616) (hb : b < 18446744073709551616) : bits .or .u64 (a : Int) (b : Int) = ((a ||| b : Nat) : Int) := by
  have hx : a ||| b < 2 ^ 64 := Nat.or_lt_two_pow (by omega) (by omega)
  show IntKind.u64.wrap ((BitVec.ofInt 64 (a : Int) ||| BitVec.ofInt 64 (b : Int)).toNat : Int) = _
  rw [BitVec.toNat_or, ofInt_nat (by omega), ofInt_nat (by omega), u64_wrap]
  omega
theorem u64_xor_nat (a b : Nat) (ha : a < 18446744073709551616) (hb : b < 18446744073709551616) : bits .xor .u64 (a : Int) (b : Int) = ((a ^^^ b : Nat) : Int) := by
  have hx : a ^^^ b < 2 ^ 64 := Nat.xor_lt_two_pow (by omega) (by omega)
  show IntKind.u64.wrap ((BitVec.ofInt 64 (a : Int) ^^^ BitVec.ofInt 64 (b : Int)).toNat : Int) = _
  rw [BitVec.toNat_xor, ofInt_nat (by omega), ofInt_nat (by omega), u64_wrap]
  omega
theorem u8_or_nat (a b : Nat) (ha : a < 256) (hb : b < 256) : bits .or .u8 (a : Int) (b : Int) = ((a ||| b : Nat) : Int) := by
  have hx : a ||| b < 2 ^ 8 := Nat.or_lt_two_pow (by omega) (by omega)
  show IntKind.u8.wrap ((BitVec.ofInt 8 (a : Int) ||| BitVec.ofInt 8 (b : Int)).toNat : Int) = _
  rw [BitVec.toNat_or, ofInt_nat (by omega), ofInt_nat (by omega), u8_wrap]
  omega
theorem u8_and_nat (a b : Nat) (ha : a < 256) (hb : b < 256) : bits .and .u8 (a : Int) (b : Int) = ((a &&& b : Nat) : Int) := by
  have hx : a &&& b < 2 ^ 8 := Nat.and_lt_two_pow _ (by omega)
  show IntKind.u8.wrap ((BitVec.ofInt 8 (a : Int) &&& BitVec.ofInt 8 (b : Int)).toNat : Int) = _
  rw [BitVec.toNat_and, ofInt_nat (by omega), ofInt_nat (by omega), u8_wrap]
  omega
abbrev uv32 (n : Nat) : Value := .int .u32 (n : Int)
abbrev uv64 (n : Nat) : Value := .int .u64 (n : Int)
abbrev uv8 (n : Nat) : Value := .int .u8 (n : Int)
section
variable {K : Value → Prop}
theorem add32 {a b : Nat} (k : K (uv32 ((a + b) % 4294967296))) : ArP .u32 ((a : Int) + (b : Int)) K := by
  rw [ArP_eq, u32_wrap, show ((a : Int) + (b : Int)) % 4294967296 = (((a + b) % 4294967296 : Nat) : Int) by omega]; exact k
theorem xor32 {a b : Nat} (ha : a < 4294967296) (hb : b < 4294967296) (k : K (uv32 (a ^^^ b))) : BitP .xor .u32 (a : Int) (b : Int) K := bitR _ (u32_xor_nat a b ha hb) k
theorem and32 {a b : Nat} (ha : a < 4294967296) (hb : b < 4294967296) (k : K (uv32 (a &&& b))) : BitP .and .u32 (a : Int) (b : Int) K := bitR _ (u32_and_nat a b ha hb) k
theorem or32 {a b : Nat} (ha : a < 4294967296) (hb : b < 4294967296) (k : K (uv32 (a ||| b))) : BitP .or .u32 (a : Int) (b : Int) K := bitR _ (u32_or_nat a b ha hb) k
theorem xor64 {a b : Nat} (ha : a < 18446744073709551616) (hb : b < 18446744073709551616) (k : K (uv64 (a ^^^ b))) : BitP .xor .u64 (a : Int) (b : Int) K := bitR _ (u64_xor_nat a b ha hb) k
theorem and64 {a b : Nat} (ha : a < 18446744073709551616) (hb : b < 18446744073709551616) (k : K (uv64 (a &&& b))) : BitP .and .u64 (a : Int) (b : Int) K := bitR _ (u64_and_nat a b ha hb) k
theorem or64 {a b : Nat} (ha : a < 18446744073709551616) (hb : b < 18446744073709551616) (k : K (uv64 (a ||| b))) : BitP .or .u64 (a : Int) (b : Int) K := bitR _ (u64_or_nat a b ha hb) k
theorem or8 {a b : Nat} (ha : a < 256) (hb : b < 256) (k : K (uv8 (a ||| b))) : BitP .or .u8 (a : Int) (b : Int) K := bitR _ (u8_or_nat a b ha hb) k
theorem and8 {a b : Nat} (ha : a < 256) (hb : b < 256) (k : K (uv8 (a &&& b))) : BitP .and .u8 (a : Int) (b : Int) K := bitR _ (u8_and_nat a b ha hb) k
theorem shr_val {kd : IntKind} {a : Nat} {b : Int} {c : Nat} (hb : b = (c : Int)) (hc : c ≤ kd.bits) : (a : Int).fdiv (2 ^ (min b.toNat kd.bits)) = ((a >>> c : Nat) : Int) := by
  subst hb
  rw [Int.toNat_natCast, Nat.min_eq_left hc]
  have : ((2 : Int) ^ c) = ((2 ^ c : Nat) : Int) := by simp
  rw [this, Nat.shiftRight_eq_div_pow, Int.fdiv_eq_ediv_of_nonneg _ (Int.natCast_nonneg _)]
  rfl
theorem shr32 {a : Nat} {b : Int} (c : Nat) (hb : b = (c : Int)) (hc : c ≤ 32) (k : K (uv32 (a >>> c))) : ShrP .u32 (a : Int) b K := by
  rw [ShrP_eq, shr_val (kd := .u32) hb hc]; exact ⟨by omega, k⟩
theorem shr64 {a : Nat} {b : Int} (c : Nat) (hb : b = (c : Int)) (hc : c ≤ 64) (k : K (uv64 (a >>> c))) : ShrP .u64 (a : Int) b K := by
  rw [ShrP_eq, shr_val (kd := .u64) hb hc]; exact ⟨by omega, k⟩
theorem shl_val {kd : IntKind} {a : Nat} {b : Int} {c : Nat} (hb : b = (c : Int)) (hc : c ≤ kd.bits) : (a : Int) * 2 ^ (min b.toNat kd.bits) = ((a <<< c : Nat) : Int) := by
  subst hb
  rw [Int.toNat_natCast, Nat.min_eq_left hc, Nat.shiftLeft_eq]
  simp
theorem shl32 {a : Nat} {b : Int} (c : Nat) (hb : b = (c : Int)) (hc : c ≤ 32) (k : K (uv32 ((a <<< c) % 4294967296))) : ShlP .u32 (a : Int) b K := by
  rw [ShlP_eq, shl_val (kd := .u32) hb hc, u32_wrap, show (((a <<< c : Nat) : Int)) % 4294967296 = (((a <<< c) % 4294967296 : Nat) : Int) by omega]; exact ⟨by omega, k⟩
theorem shl64 {a : Nat} {b : Int} (c : Nat) (hb : b = (c : Int)) (hc : c ≤ 64) (k : K (uv64 ((a <<< c) % 18446744073709551616))) : ShlP .u64 (a : Int) b K := by
  rw [ShlP_eq, shl_val (kd := .u64) hb hc, u64_wrap, show (((a <<< c : Nat) : Int)) % 18446744073709551616 = (((a <<< c) % 18446744073709551616 : Nat) : Int) by omega]; exact ⟨by omega, k⟩
variable {P : Program}
theorem cv32 {s t : TypeId} {k0 : IntKind} {n : Int} [IntTy P s k0] [IntTy P t .u32] (a : Nat) (h : n = (a : Int)) (k : K (uv32 (a % 4294967296))) : ConvP P s t (.int k0 n) K :=
  conv (by rw [u32_wrap, h, show (a : Int) % 4294967296 = ((a % 4294967296 : Nat) : Int) by omega]; exact k)
theorem cv64 {s t : TypeId} {k0 : IntKind} {n : Int} [IntTy P s k0] [IntTy P t .u64] (a : Nat) (h : n = (a : Int)) (k : K (uv64 (a % 18446744073709551616))) : ConvP P s t (.int k0 n) K :=
  conv (by rw [u64_wrap, h, show (a : Int) % 18446744073709551616 = ((a % 18446744073709551616 : Nat) : Int) by omega]; exact k)
theorem cv8 {s t : TypeId} {k0 : IntKind} {n : Int} [IntTy P s k0] [IntTy P t .u8] (a : Nat) (h : n = (a : Int)) (k : K (uv8 (a % 256))) : ConvP P s t (.int k0 n) K :=
  conv (by rw [u8_wrap, h, show (a : Int) % 256 = ((a % 256 : Nat) : Int) by omega]; exact k)
/-- .. a number that is small enough. -/
theorem cvI {s t : TypeId} {k0 : IntKind} {n : Int} [IntTy P s k0] [IntTy P t .i64] (h : -9223372036854775808 ≤ n ∧ n ≤ 9223372036854775807) (k : K (.int .i64 n)) : ConvP P s t (.int k0 n) K :=
  conv (by rw [IntWalk.i64_in n h]; exact k)
end
/-! ### bytes -/
def tU8 : Ty Nat where
  sz := 1
  rep _ _ cs x := cs = [uv8 x] ∧ x < 256
  len h := by rw [h.1]; rfl
  keep _ h := h
  more _ h := h
abbrev u8s (l : List Nat) : List Value := l.map fun n : Nat => uv8 n
theorem flat_u8s {D : Nat → Prop} {w : World} : ∀ {xs : List Nat}, (∀ x ∈ xs, x < 256) → FlatR tU8 D w xs (u8s xs)
  | [], _ => rfl
  | x :: xs, h => ⟨[uv8 x], u8s xs, rfl, ⟨rfl, h x List.mem_cons_self⟩, flat_u8s fun y hy => h y (List.mem_cons_of_mem _ hy)⟩
theorem flat_u8_eq {D : Nat → Prop} {w : World} : ∀ {xs : List Nat} {cs : List Value}, FlatR tU8 D w xs cs → cs = u8s xs ∧ ∀ x ∈ xs, x < 256
  | [], _, h => ⟨h, fun x hx => (by cases hx)⟩
  | x :: xs, _, ⟨c, r, h, ⟨h1, h1'⟩, h2⟩ => by
    obtain ⟨h3, h4⟩ := flat_u8_eq h2
    refine ⟨by rw [h, h1, h3]; rfl, fun y hy => ?_⟩
    rcases List.mem_cons.1 hy with rfl | hy
    · exact h1'
    · exact h4 y hy
theorem SlR.u8b {D : Nat → Prop} {w : World} {A : Option Addr} {n : Nat} {xs : List Nat} (h : SlR tU8 D w A n xs) : ∀ x ∈ xs, x < 256 := fun x hx => by
  obtain ⟨i, hi⟩ := List.getElem?_of_mem hx
  obtain ⟨b, o, cs, -, -, -, h4⟩ := h.2.2 i x hi
  exact h4.2
theorem SlR.u8src {D : Nat → Prop} {w : World} {A : Option Addr} {n : Nat} {xs : List Nat} (h : SlR tU8 D w A n xs) : Src w A n 1 (u8s xs) := by
  refine ⟨by rw [List.length_map, h.len]; omega, fun h0 => ?_⟩
  obtain ⟨b, o, cs, x, rfl, -⟩ := h.at_ h0
  obtain ⟨cs, hf, hc⟩ := h.cells
  exact ⟨b, o, rfl, by rw [← (flat_u8_eq hf).1]; exact hc⟩
theorem u8s_one : ∀ (s : List Nat), ((u8s s).all fun u => u.oneCell') = true
  | [] => rfl
  | p :: s => by
    show (Value.oneCell' _ && (u8s s).all _) = true
    rw [u8s_one s]; rfl
theorem OwnF.u8 {w0 w : World} {A : Option Addr} {n c : Nat} {e : TypeId} {xs : List Nat} {D : Nat → Prop} (h : OwnF w0 w A n c e 1 (u8s xs)) (hx : ∀ x ∈ xs, x < 256) (hle : n ≤ 140737488355328) (hD : ∀ b, w0.heap.size ≤ b → D b) : SlR tU8 D w A n xs :=
  Own.rd (a := tU8) (e := e) h.own (flat_u8s hx) (by have := h.own.len; simpa using this.symm) hle fun g hg => hD g (h.new g hg)
end Go.Proofs.YtehcphboliofaaaGreatDoor

/- Own layer, part z: copy, make with a capacity, slices of arrays, slices with three indexes, zeros appended to the nil slice. Nothing of the program stands here. -/
namespace Go.Proofs.YtehcphboliofaaaGreatDoor
open Go Go.RowKit

section
variable {P : Program} {X : XK}
theorem mslcC {t e : TypeId} {sz by_ : Nat} {zv : Value} [h : SliceTy P t e sz] [hz : ZeroTy P e zv] [hby : BytesTy P e by_] {k1 k2 : IntKind} (l n : Nat) {i j : Int} {w : World} {K : VK} (hi : i = l) (hln : l ≤ n) (hj : j = n) (hb : by_ * n ≤ 140737488355328) (hn : n ≤ 9223372036854775807) (hzs : (cellsL zv).length = sz) (hpos : 0 < sz)
    (kk : ∀ g w', NewB w e ((List.replicate n (cellsL zv)).flatten) g w' → K (.slice (some (ad g 0)) l n) w') : MSlcP P t (.int k1 i) (.int k2 j) K w := by
  rw [MSlcP_eq]
  intro w0 hw
  subst hw; subst hi; subst hj
  obtain ⟨hu, inf, hinf, hsz⟩ := sliceOf_spec h.h
  obtain ⟨i', hi', hzz⟩ := zeroOf_spec hz.h
  rw [hinf] at hi'; cases hi'
  have hbb : inf.bytes = by_ := by have := hby.h; unfold bytesOf at this; rw [hinf] at this; simpa using this
  have hbytes : (inf.bytes : Int) * (n : Int) ≤ 281474976710656 := by
    rw [hbb]; have : ((by_ * n : Nat) : Int) ≤ 140737488355328 := by omega
    rw [Int.natCast_mul] at this; omega
  have hr := run_make (P := P) w0 t e inf zv hu hinf hzz k1 k2 l n (by omega) (by omega) hbytes (by omega)
  rw [run_vS, hr]
  have hcells : madeCells zv.cells ((n : Int).toNat * inf.size) = ((List.replicate n (cellsL zv)).flatten).toArray := by
    rw [hsz, Int.toNat_natCast, cellsL_eq]
    apply Array.ext
    · simp [madeCells, hzs]
    · intro k h1 h2
      have hk : k < n * sz := by simpa [madeCells] using h1
      simp only [madeCells, Array.getElem_map, Array.getElem_range, List.getElem_toArray, List.size_toArray, hzs]
      have key : ∀ (n k : Nat) (l : List Value), l.length = sz → k < n * sz → (List.replicate n l).flatten[k]? = l[k % sz]? := by
        intro n
        induction n with
        | zero => intro k l _ hk; omega
        | succ n ih =>
          intro k l hl hk
          rw [List.replicate_succ, List.flatten_cons]
          by_cases hlt : k < sz
          · rw [List.getElem?_append_left (by omega), Nat.mod_eq_of_lt hlt]
          · rw [List.getElem?_append_right (by omega), hl, ih (k - sz) l hl (by have : (n + 1) * sz = n * sz + sz := Nat.succ_mul n sz; omega), show k % sz = (k - sz) % sz from Nat.mod_eq_sub_mod (by omega)]
      have hm : k % sz < (cellsL zv).length := by rw [hzs]; exact Nat.mod_lt _ hpos
      have e1 := key n k (cellsL zv) hzs hk
      rw [List.getElem?_eq_getElem (by simp [hzs]; exact hk), List.getElem?_eq_getElem hm] at e1
      simp only [Option.some.injEq] at e1
      rw [e1]
      simp [hm]
  rw [hcells]
  exact kk _ _ ⟨rfl, rfl⟩


theorem run_sliceBoundsM {isS : Bool} {n c : Nat} {lo : Option Value} {hv mv : Value} {l h m : Nat} (hl : IsB lo l 0) (hh : IsB (some hv) h n) (hm : IsB (some mv) m 0) (h1 : l ≤ h) (h2 : h ≤ m) (h3 : m ≤ c) (w : World) : (Instr.sliceBounds isS n c lo (some hv) (some mv)).run P w = .ok (l, h, m) w := by
  cases mv <;> first | exact hm.elim | skip
  cases hv <;> first | exact hh.elim | skip
  cases lo with
  | none => obtain rfl : l = 0 := hl; simp [Instr.sliceBounds, run_sliceBound _ hm h3, run_sliceBound _ hh h2]
  | some v => cases v <;> first | exact hl.elim | simp [Instr.sliceBounds, run_sliceBound _ hm h3, run_sliceBound _ hh h2, run_sliceBound _ hl h1]
/-- a[l:h] of an array. -/
theorem slcArr {t e : TypeId} {N sz : Nat} [ha : ArrTy P t N e sz] {g o : Nat} {lo hi : Option Value} {K : Value → Prop} (l h : Nat) (hlo : IsB lo l 0) (hhi : IsB hi h N) (h1 : l ≤ h) (h2 : h ≤ N) (hlt : l < N)
    (kk : K (.slice (some (ad g (o + l * sz))) (h - l) (N - l))) : SlcP P t (.pointer (some (ad g o))) lo hi none K := by
  rw [SlcP_eq]
  obtain ⟨hu, inf, hinf, hs'⟩ := arrOf_spec ha.h
  have hrun : ∀ w, (Instr.sliceAt t (.pointer (some (ad g o))) lo hi none).run P w = .ok (.slice (some (ad g (o + l * sz))) (h - l) (N - l)) w := fun w => by
    unfold Instr.sliceAt
    rw [Sem.run_bind, run_underlying hu]
    simp only [Result.andThen_ok]
    have h0 : (Instr.sureAddr (.pointer (some (ad g o)))).run P w = .ok (ad g o) w := rfl
    rw [Sem.run_bind, h0]
    simp only [Result.andThen_ok]
    rw [Sem.run_bind, run_sliceBounds hlo hhi h1 h2]
    simp only [Result.andThen_ok]
    rw [Sem.run_bind, run_sizeOf hinf, hs']
    simp only [Result.andThen_ok]
    rw [if_neg (by omega), add_ad]
    rfl
  exact pure_vval hrun kk
/-- xs[l:h:m]. -/
theorem slcM {α : Type} {a : Ty α} {D : Nat → Prop} {w : World} {t e : TypeId} {sz : Nat} [hst : SliceTy P t e sz] {A : Option Addr} {n c : Nat} {lo : Option Value} {hv mv : Value} {K : Value → Prop} {xs : List α} (l h m : Nat) (hs : SlR a D w A n xs) (hlo : IsB lo l 0) (hhi : IsB (some hv) h n) (hm : IsB (some mv) m 0) (h1 : l ≤ h) (h2 : h ≤ n) (h3 : h ≤ m) (h4 : m ≤ c) (hsz : a.sz = sz)
    (kk : ∀ A' : Option Addr, (∀ (D' : Nat → Prop) (w' : World), SlR a D' w' A n xs → SlR a D' w' A' (h - l) ((xs.take h).drop l)) → K (.slice A' (h - l) (m - l))) : SlcP P t (.slice A n c) lo (some hv) (some mv) K := by
  rw [SlcP_eq]
  obtain ⟨hu, inf, hinf, hs'⟩ := sliceOf_spec hst.h
  have hrun : ∀ w, (Instr.sliceAt t (.slice A n c) lo (some hv) (some mv)).run P w = .ok (.slice (if m = l then A else A.map (·.add (l * sz))) (h - l) (m - l)) w := fun w => by
    unfold Instr.sliceAt
    rw [Sem.run_bind, run_underlying hu]
    simp only [Result.andThen_ok]
    unfold Instr.slice
    rw [Sem.run_bind, run_underlying hu]
    simp only [Result.andThen_ok]
    rw [Sem.run_bind, run_sliceBoundsM hlo hhi hm h1 h3 h4]
    simp only [Result.andThen_ok]
    rw [Sem.run_bind, run_sizeOf hinf, hs']
    rfl
  refine pure_vval hrun (kk _ fun D' w' hx => ?_)
  cases A with
  | none =>
    have hxs : xs = [] := by
      cases xs with
      | nil => rfl
      | cons x r => obtain ⟨_, _, _, e, _⟩ := hx.2.2 0 x rfl; cases e
    have hn : n = 0 := by have := hx.1; rw [hxs] at this; exact this
    subst hxs
    have hh : h = 0 := by omega
    have hl : l = 0 := by omega
    subst hh; subst hl
    split <;> exact .nil
  | some p =>
    obtain ⟨b, o, sp⟩ := p
    by_cases hlh : l < h
    · rw [if_neg (by omega)]
      obtain ⟨b', o', cs, x, e, -⟩ := hx.at_ (k := l) (by omega)
      injection e with e
      injection e with e1 e2 e3
      subst e1; subst e2; subst e3
      show SlR a D' w' (some ((ad b o).add (l * sz))) (h - l) ((xs.take h).drop l)
      rw [add_ad]
      exact hx.sub h1 h2 fun _ => by rw [hsz]
    · have : l = h := by omega
      subst this
      rw [show ((xs.take l).drop l) = [] from List.drop_eq_nil_of_le (by rw [List.length_take]; omega), Nat.sub_self]
      split <;> exact .nil
/-- copy(xs, ys), xs's block known. -/
theorem cpy {t t2 e tb : TypeId} [h : SliceTy P t e 1] {ty : TypeId} {cst : Array Bool} {g o n c m c2 : Nat} {A : Option Addr} {cs news : List Value} {w : World} {K : VK} (hb : Blk w g tb cs) (ho : o + n ≤ cs.length) (hs : Src w A m 1 news)
    (kk : ∀ w', Blk w' g tb (cs.take o ++ news.take n ++ cs.drop (o + min m n)) → Kept (fun b => b ≠ g) w w' → w'.heap.size = w.heap.size → K (.int .i64 ((min m n : Nat) : Int)) w') (h1 : (news.all fun u => u.oneCell') = true := by rfl) :
    BuiP P .copy #[t, t2] ty cst #[.slice (some (ad g o)) n c, .slice A m c2] K X w := by
  rw [BuiP_eq]
  refine OpS.x fun w0 hw => ?_
  subst hw
  obtain ⟨hu, inf, hinf, hsz⟩ := sliceOf_spec h.h
  have hnl : news.length = m := by have := hs.1; omega
  have hl : (news.take n).length = min m n := by rw [List.length_take, hnl, Nat.min_comm]
  have hone : ∀ v ∈ news.take n, v.oneCell' = true := fun v hv => List.all_eq_true.1 h1 v (List.mem_of_mem_take hv)
  obtain ⟨w', hr, hb', hk, hz⟩ := run_storeCells' (P := P) (news.take n) o 0 cs w0 hb (by rw [hl, Nat.add_zero]; omega) hone
  have hcells : (Builtin.firstCells 1 (Nat.min m n) (.slice A m c2)).run P w0 = .ok (news.take n).toArray w0 := by
    rcases Nat.eq_zero_or_pos m with hm | hm
    · subst hm
      have h0 : news = [] := List.eq_nil_of_length_eq_zero hnl
      subst h0
      cases A with
      | none => simp [Builtin.firstCells]
      | some a =>
        have := run_loadCells_list (P := P) w0 a [] (by simp)
        simp only [List.length_nil] at this
        simp [Builtin.firstCells, this]
    · obtain ⟨b, o2, rfl, hc⟩ := hs.2 hm
      have := run_loadCells_list (P := P) w0 (ad b o2) (news.take n) (fun j v hv => by
        rw [add_ad]
        rw [List.getElem?_take] at hv
        split at hv
        · exact hc j v hv
        · cases hv)
      rw [hl] at this
      simp only [Builtin.firstCells, Nat.mul_one]
      exact this
  have hrun : (builtin .copy #[t, t2] ty cst #[.slice (some (ad g o)) n c, .slice A m c2]).run P w0 = .ok (.value (.int .i64 ((min m n : Nat) : Int))) w' := by
    have hbc : builtin .copy #[t, t2] ty cst #[.slice (some (ad g o)) n c, .slice A m c2] = (do pure (.value (← Builtin.copy_ #[t, t2] ty #[.slice (some (ad g o)) n c, .slice A m c2]))) := rfl
    rw [hbc, Sem.run_bind]
    have : (Builtin.copy_ #[t, t2] ty #[.slice (some (ad g o)) n c, .slice A m c2]).run P w0 = .ok (.int .i64 ((min m n : Nat) : Int)) w' := by
      have e1 : (#[t, t2] : Array TypeId)[0]? = some t := rfl
      have e2 : (#[Value.slice (some (ad g o)) n c, Value.slice A m c2] : Array Value)[0]? = some (.slice (some (ad g o)) n c) := rfl
      have e3 : (#[Value.slice (some (ad g o)) n c, Value.slice A m c2] : Array Value)[1]? = some (.slice A m c2) := rfl
      unfold Builtin.copy_
      simp only [e1, e2, e3, Sem.run_bind, run_underlying hu, Result.andThen_ok, Builtin.lenOf, Sem.run_pure, run_sizeOf hinf, hsz, hcells, hr]
      rfl
    rw [this]; rfl
  rw [hrun]
  refine kk (z w') ?_ ⟨hk.os, hk.tape, hk.output, hk.size, hk.blk⟩ hz
  rw [Nat.add_zero, hl] at hb'
  exact hb'
/-- Zeros appended to the nil slice. -/
theorem appZ {t tn e : TypeId} {sz by_ : Nat} {zv : Value} {kn : IntKind} [h : SliceTy P t e sz] [hz : ZeroTy P e zv] [hby : BytesTy P e by_] [hn : IntTy P tn kn] {ty : TypeId} {cst : Array Bool} {kq : IntKind} {i : Int} {w : World} {K : VK} (k : Nat) (hi : i = (k : Int)) (h0 : 0 < k) (hb : k * by_ ≤ 140737488355328) (h63 : k ≤ 140737488355328) (hzs : (cellsL zv).length = sz) (hpos : 0 < sz)
    (kk : ∀ (c : Nat) w' cs, k ≤ c → c ≤ maxLen → cs.length = c * sz → Blk w' w.heap.size e cs → Ext w w' → K (.slice (some (ad w.heap.size 0)) k c) w') : BuiP P .append #[t, tn] ty cst #[.slice none 0 0, .int kq i] K X w := by
  rw [BuiP_eq]
  refine OpS.x fun w0 hw => ?_
  subst hw; subst hi
  obtain ⟨hu, inf, hinf, hsz⟩ := sliceOf_spec h.h
  obtain ⟨i', hi', hzz⟩ := zeroOf_spec hz.h
  rw [hinf] at hi'; cases hi'
  have hbb : inf.bytes = by_ := by have := hby.h; unfold bytesOf at this; rw [hinf] at this; simpa using this
  have hnu : P.underlying tn = some (.int kn) := by
    have := hn.h; unfold intOf at this; split at this <;> simp_all
  have hr := Lib.run_append_grow_zeros (P := P) w0 t tn ty e inf zv kq kn hu hnu hinf hzz none 0 0 [] (by simp [Builtin.firstCells]) k h0 (by omega) (by omega) (by omega) (by rw [hbb]; omega) (by
    have : Builtin.nextslicecap (0 + k) 0 = k := by unfold Builtin.nextslicecap; rw [if_pos (by omega)]; omega
    rw [this, hbb]; omega)
  rw [Nat.zero_add] at hr
  have hge := grownCap_ge w0 k 0 e
  have hle := grownCap_le_maxLen w0 k 0 e (by unfold maxLen; omega)
  rw [show builtin .append #[t, tn] ty cst #[.slice none 0 0, .int kq (k : Int)] = vS (Builtin.append_ #[t, tn] ty #[.slice none 0 0, .int kq (k : Int)]) from rfl, run_vS, hr]
  obtain ⟨cs, hcs⟩ : ∃ cs : Array Value, cs = ([] : List Value).toArray ++ Builtin.zeroCells zv.cells k ++ Builtin.zeroCells zv.cells (grownCap w0 k 0 e - k) := ⟨_, rfl⟩
  rw [← hcs]
  have hcl : cs.size = grownCap w0 k 0 e * sz := by
    rw [hcs]
    have hzc : zv.cells.size = sz := by rw [cellsL_eq]; simpa using hzs
    simp only [Array.size_append, size_zeroCells, hzc, List.size_toArray, List.length_nil, Nat.zero_add]
    rw [← Nat.add_mul]
    congr 1
    omega
  refine kk (grownCap w0 k 0 e) _ cs.toList hge hle (by simpa using hcl) ?_ ?_
  · show ((w0.drew.alloc (.cells cs e)).heap)[w0.heap.size]? = some (.cells cs.toList.toArray e (0, 0))
    rw [Array.toArray_toList]
    exact World.alloc_heap_new w0.drew _
  · exact ⟨rfl, rfl, rfl, by show w0.heap.size ≤ (w0.heap.push _).size; simp, fun b hb _ => by
      show (w0.heap.push _)[b]? = w0.heap[b]?
      rw [Array.getElem?_push, if_neg (by have : b < w0.heap.size := hb; omega)]⟩
/-- The capacity of a slice. -/
theorem capR {t e : TypeId} {sz : Nat} [h : SliceTy P t e sz] {ty : TypeId} {cst : Array Bool} {A : Option Addr} {n c : Nat} {w : World} {K : VK} (kk : K (.int .i64 c) w) : BuiP P .cap #[t] ty cst #[.slice A n c] K X w := by
  rw [BuiP_eq]
  refine OpS.x fun w0 hw => ?_
  subst hw
  obtain ⟨hu, _⟩ := sliceOf_spec h.h
  have hrun : (builtin .cap #[t] ty cst #[.slice A n c]).run P w0 = .ok (.value (.int .i64 c)) w0 := by
    have hbc : builtin .cap #[t] ty cst #[.slice A n c] = (do pure (.value (← Builtin.cap_ #[t] ty #[.slice A n c]))) := rfl
    rw [hbc, Sem.run_bind]
    have : (Builtin.cap_ #[t] ty #[.slice A n c]).run P w0 = .ok (.int .i64 c) w0 := by
      have e1 : (#[t] : Array TypeId)[0]? = some t := rfl
      have e2 : (#[Value.slice A n c] : Array Value)[0]? = some (.slice A n c) := rfl
      unfold Builtin.cap_
      simp only [e1, e2, Sem.run_bind, run_underlying hu, Result.andThen_ok]
      rfl
    rw [this]; rfl
  rw [hrun]
  exact kk
/-- The bytes of a string. -/
def bl (s : ByteArray) : List Nat := s.data.toList.map UInt8.toNat
theorem bl_len (s : ByteArray) : (bl s).length = s.size := by unfold bl; rw [List.length_map]; rfl
theorem bl_lt (s : ByteArray) : ∀ x ∈ bl s, x < 256 := fun x hx => by
  obtain ⟨b, -, rfl⟩ := List.mem_map.1 hx
  exact b.toNat_lt
theorem strOf_spec {t : TypeId} [h : StrTy P t] : P.underlying t = some .string := by
  have := h.h; unfold isStr at this; split at this <;> simp_all
/-- []byte(s). -/
theorem cvSB {s d e : TypeId} {sz : Nat} [hs : StrTy P s] [hd : SliceTy P d e sz] [he : IntTy P e .u8] {st : Sem Next} {b : ByteArray} {w : World} {K : VK} (hst : st = vS (convert s d (.string b))) (hb : b.size ≤ 1000000)
    (kk : ∀ w' c, SlR tU8 (fun q => q = w.heap.size) w' (some (ad w.heap.size 0)) b.size (bl b) → b.size ≤ c → Ext w w' → w'.heap.size = w.heap.size + 1 → K (.slice (some (ad w.heap.size 0)) b.size c) w') : OthP P st K X w := by
  subst hst
  rw [OthP_eq]
  refine OpS.x fun w0 hw => ?_
  subst hw
  have hsu := strOf_spec (P := P) (t := s)
  obtain ⟨hdu, _⟩ := sliceOf_spec hd.h
  have heu : P.underlying e = some (.int .u8) := by
    have := he.h; unfold intOf at this; split at this <;> simp_all
  rw [run_vS, run_bytes_of_string w0 s d e b hsu hdu heu]
  refine kk _ _ (SlR.of_cells (cs := u8s (bl b)) (bl_len b).symm (by omega) rfl (fun j v hv => ?_) (flat_u8s (bl_lt b))) (grownCap_ge w0 b.size 0 e) ?_ (by show (w0.heap.push _).size = _; simp)
  · rw [Nat.zero_add]
    have hlt : j < b.size := by
      have := (List.getElem?_eq_some_iff.1 hv).1
      rw [List.length_map, bl_len] at this
      exact this
    have hC : ∀ cap, (bytesRow b cap)[j]? = some v := fun cap => by
      unfold bytesRow
      rw [Array.getElem?_append_left (by rw [Array.size_map]; exact hlt), Array.getElem?_map, ← Array.getElem?_toList]
      have hv : ((b.data.toList.map UInt8.toNat).map fun n : Nat => uv8 n)[j]? = some v := hv
      rw [List.map_map, List.getElem?_map] at hv
      exact hv
    have hw : ∀ (o : Obj), (w0.drew.alloc o).heap[w0.heap.size]? = some o := fun o => World.alloc_heap_new w0.drew o
    show World.cell? _ (ad w0.heap.size j) = some v
    unfold World.cell?
    rw [show (z (w0.drew.alloc (Obj.cells (bytesRow b (grownCap w0 b.size 0 e)) e ((bytesRow b (grownCap w0 b.size 0 e)).size, (bytesRow b (grownCap w0 b.size 0 e)).size + 1)))).heap[(ad w0.heap.size j).block]? = _ from hw _]
    exact hC _
  · exact ⟨rfl, rfl, rfl, by show w0.heap.size ≤ (w0.heap.push _).size; simp, fun q hq _ => by
      show (w0.heap.push _)[q]? = w0.heap[q]?
      rw [Array.getElem?_push, if_neg (by have : q < w0.heap.size := hq; omega)]⟩
/-- A string of bytes. -/
def strB (l : List Nat) : ByteArray := strOfNums (l.map fun n : Nat => (n : Int))
/-- string(b). -/
theorem cvBS {D : Nat → Prop} {s d e : TypeId} {sz : Nat} [hd : StrTy P d] [hs : SliceTy P s e sz] [he : IntTy P e .u8] {st : Sem Next} {A : Option Addr} {n c : Nat} {l : List Nat} {w : World} {K : VK} (hst : st = vS (convert s d (.slice A n c))) (h : SlR tU8 D w A n l)
    (kk : K (.string (strB l)) w) : OthP P st K X w := by
  subst hst
  rw [OthP_eq]
  refine OpS.x fun w0 hw => ?_
  subst hw
  have hdu := strOf_spec (P := P) (t := d)
  obtain ⟨hsu, _⟩ := sliceOf_spec hs.h
  have heu : P.underlying e = some (.int .u8) := by
    have := he.h; unfold intOf at this; split at this <;> simp_all
  rw [run_vS]
  have hln := h.len
  cases A with
  | none =>
    have hl : l = [] := by
      cases l with
      | nil => rfl
      | cons x r => obtain ⟨_, _, _, e, _⟩ := h.2.2 0 x rfl; cases e
    subst hl
    rw [run_convert_bytes_nil w0 s e hsu heu n c d hdu]
    exact kk
  | some p =>
    rcases Nat.eq_zero_or_pos n with h0 | h0
    · subst h0
      have hl : l = [] := List.eq_nil_of_length_eq_zero hln
      subst hl
      obtain ⟨b, o, sp⟩ := p
      rw [run_convert_bytes_string w0 s d e _ 0 c hsu heu hdu]
      have hl0 : (loadCells ⟨b, o, sp⟩ 0).run P w0 = .ok #[] w0 := by simpa using run_loadCells_list (P := P) w0 ⟨b, o, sp⟩ [] (by simp)
      have := run_bytesToString (P := P) w0 ⟨b, o, sp⟩ 0 c [] (by simpa using hl0)
      rw [this]
      exact kk
    · obtain ⟨b, o, cs, x, e1, -⟩ := h.at_ h0
      injection e1 with e1
      subst e1
      obtain ⟨cs, hf, hc⟩ := h.cells
      obtain ⟨rfl, -⟩ := flat_u8_eq hf
      rw [run_convert_bytes_arg w0 s e hsu heu b o n c (l.map fun n : Nat => (n : Int)) (by rw [List.length_map]; exact hln) (fun i hi => by
        have := hc i (uv8 (l.getD i 0)) (by rw [List.getElem?_map, List.getElem?_eq_getElem (by omega), List.getD_eq_getElem?_getD, List.getElem?_eq_getElem (by omega)]; rfl)
        rw [List.getD_eq_getElem?_getD, List.getElem?_map, List.getElem?_eq_getElem (show i < l.length by omega)]
        rw [List.getD_eq_getElem?_getD, List.getElem?_eq_getElem (show i < l.length by omega)] at this
        exact this) d hdu]
      exact kk
/-- The nil slice cut. -/
theorem slcNil {t e : TypeId} {sz : Nat} [hst : SliceTy P t e sz] {lo hi : Option Value} {K : Value → Prop} (hlo : IsB lo 0 0) (hhi : IsB hi 0 0) (kk : K (.slice none 0 0)) : SlcP P t (.slice none 0 0) lo hi none K := by
  rw [SlcP_eq]
  obtain ⟨hu, inf, hinf, hs'⟩ := sliceOf_spec hst.h
  have hrun : ∀ w, (Instr.sliceAt t (.slice none 0 0) lo hi none).run P w = .ok (.slice none 0 0) w := fun w => by
    unfold Instr.sliceAt
    rw [Sem.run_bind, run_underlying hu]
    simp only [Result.andThen_ok]
    unfold Instr.slice
    rw [Sem.run_bind, run_underlying hu]
    simp only [Result.andThen_ok]
    rw [Sem.run_bind, run_sliceBounds hlo hhi (Nat.le_refl _) (Nat.le_refl _)]
    simp only [Result.andThen_ok]
    rw [Sem.run_bind, run_sizeOf hinf, hs']
    rfl
  exact pure_vval hrun kk
end
end Go.Proofs.YtehcphboliofaaaGreatDoor

/- Own layer, part 0: strings compared. Nothing of the program stands here. -/
namespace Go.Proofs.YtehcphboliofaaaGreatDoor
open Go Go.RowKit

section
variable {P : Program} {X : XK}
theorem str_beq (a b : ByteArray) : (a.toList == b.toList) = decide (a = b) := by
  rw [ByteArray.toList_eq, ByteArray.toList_eq]
  by_cases h : a = b
  · subst h; simp
  · rw [decide_eq_false h]
    exact beq_eq_false_iff_ne.2 fun e => h (by cases a; cases b; simp at e; rw [e])
theorem run_eqStr {t : TypeId} (xo yo : Operand) (a b : ByteArray) (w : World) : (do eqGuard .eql t xo yo (.string a) (.string b); binOp .eql t (.string a) (.string b) : Sem Value).run P w = .ok (.bool (decide (a = b))) w := by
  have h1 : (eqGuard .eql t xo yo (.string a) (.string b)).run P w = .ok () w := rfl
  have h2 : binOp .eql t (.string a) (.string b) = (pure (.bool (a.toList == b.toList))) := rfl
  rw [Sem.run_bind, h1, h2, str_beq]
  rfl
theorem run_neStr {t : TypeId} (xo yo : Operand) (a b : ByteArray) (w : World) : (do eqGuard .neq t xo yo (.string a) (.string b); binOp .neq t (.string a) (.string b) : Sem Value).run P w = .ok (.bool (!decide (a = b))) w := by
  have h1 : (eqGuard .neq t xo yo (.string a) (.string b)).run P w = .ok () w := rfl
  have h2 : binOp .neq t (.string a) (.string b) = (pure (.bool (!(a.toList == b.toList)))) := rfl
  rw [Sem.run_bind, h1, h2, str_beq]
  rfl
/-- Strings compared. -/
theorem eqStr {t : TypeId} {xo yo : Operand} {a b : ByteArray} {K : Value → Prop} (k1 : a = b → K (.bool true)) (k2 : a ≠ b → K (.bool false)) : BinP P .eql t xo yo (.string a) (.string b) K := by
  rw [BinP_eq]
  refine pure_vval (fun w => run_eqStr xo yo a b w) ?_
  by_cases e : a = b
  · rw [decide_eq_true e]; exact k1 e
  · rw [decide_eq_false e]; exact k2 e
theorem neStr {t : TypeId} {xo yo : Operand} {a b : ByteArray} {K : Value → Prop} (k1 : a ≠ b → K (.bool true)) (k2 : a = b → K (.bool false)) : BinP P .neq t xo yo (.string a) (.string b) K := by
  rw [BinP_eq]
  refine pure_vval (fun w => run_neStr xo yo a b w) ?_
  by_cases e : a = b
  · rw [decide_eq_true e]; exact k2 e
  · rw [decide_eq_false e]; exact k1 e
theorem strB_inj {l m : List Nat} (hl : ∀ x ∈ l, x < 256) (hm : ∀ x ∈ m, x < 256) (h : strB l = strB m) : l = m := by
  unfold strB strOfNums at h
  injection h with h
  have h : (l.map fun n : Nat => (n : Int)).map (fun n => UInt8.ofNat n.toNat) = (m.map fun n : Nat => (n : Int)).map (fun n => UInt8.ofNat n.toNat) := by simpa using h
  rw [List.map_map, List.map_map] at h
  have key : ∀ (l : List Nat), (∀ x ∈ l, x < 256) → (l.map ((fun n : Int => UInt8.ofNat n.toNat) ∘ fun n : Nat => (n : Int))).map UInt8.toNat = l := by
    intro l
    induction l with
    | nil => intro _; rfl
    | cons a l ih =>
      intro h
      rw [List.map_cons, List.map_cons, ih fun x hx => h x (List.mem_cons_of_mem _ hx)]
      have := h a List.mem_cons_self
      congr 1
      show (UInt8.ofNat ((a : Int)).toNat).toNat = a
      rw [Int.toNat_natCast, UInt8.toNat_ofNat']
      omega
  rw [← key l hl, ← key m hm, h]
theorem bl_strB {l : List Nat} (hl : ∀ x ∈ l, x < 256) : bl (strB l) = l := by
  unfold bl strB strOfNums
  simp only [List.map_map]
  conv => rhs; rw [← List.map_id l]
  apply List.map_congr_left
  intro x hx
  have := hl x hx
  simp [Function.comp]
  omega
end
end Go.Proofs.YtehcphboliofaaaGreatDoor

/- Own layer, part 1: a function that defers one closure of two captured variables; a type assertion without the second answer. Nothing of the program stands here. -/
namespace Go.Proofs.YtehcphboliofaaaGreatDoor
open Go Go.RowKit

section
variable {P : Program}
abbrev oMk2 (d0 G c0 c1 : Nat) (t : TypeId) (p : String) (af : Array Edge) : Oper := { dst := some d0, op := .makeFunc (.func G) #[] #[.tmp c0, .tmp c1], type := t, pos := p, after := af, guard := none }
/-- A function that defers one closure of two captured variables, after x and ahead of y. -/
theorem fn_ruleD2 {f : FuncId} {fn : Func} {args : List Value} {w : World} {R2 : Ending → World → Prop} {x y : Code} {id d0 G c0 c1 : Nat} {t1 t2 : TypeId} {p1 p2 : String} {a1 a2 : Array Edge} (hf : P.funcs[f]? = some fn)
    (hb : fn.body = some (.seq x (.seq (.region id #[oMk2 d0 G c0 c1 t1 p1 a1, oDf d0 t2 p2 a2] false) y)))
    (hok : (wfC fn.ntmps x && wfC fn.ntmps y && Nat.ble args.length fn.ntmps && Nat.blt d0 fn.ntmps) = true)
    (h : V P x (fun e F ds w' => match e with
      | .normal => ds = [] ∧ V P y (KendL P fn R2) (upd F d0 (.func (.func G) #[] #[F c0, F c1])) [{ target := .fn (.func G) #[F c0, F c1], args := #[] }] w'
      | _ => False) (init args) [] w) (w0 : World) (hw : z w0 = w) : CallsIn Fence.wide 0 P f args.toArray w0 R2 := by
  have hok4 := bothT hok
  have hok3 := bothT hok4.1
  have hok2 := bothT hok3.1
  have hle := Nat.le_of_ble_eq_true hok3.2
  have hd0 : d0 < fn.ntmps := Nat.le_of_ble_eq_true hok4.2
  subst hw
  refine callsIn_of_wp_marks (F := Fence.wide) hf hb trivial ?_
  refine wpIn_seq (wpIn_mono (V_sound (r := none) x hok2.1 _ _ [] w0 _ (.inl rfl) (initAgr hle) h) fun e a w1 hq => ?_)
  obtain ⟨F', hg, hk⟩ := hq
  cases e with
  | normal =>
    obtain ⟨hd, hk⟩ := hk
    refine wpIn_seq (wpIn_region ?_)
    have hg1 : Agr fn.ntmps (a.put (some d0) (.func (.func G) #[] #[F' c0, F' c1])) (upd F' d0 (.func (.func G) #[] #[F' c0, F' c1])) a.defers := hg.put (d := some d0) (fun j hj => by cases hj; exact hd0) _
    have hl : List.range (#[oMk2 d0 G c0 c1 t1 p1 a1, oDf d0 t2 p2 a2] : Array Oper).size = [0, 1] := rfl
    rw [hl]
    refine ⟨fun _ _ => trivial, ?_⟩
    have e1 : ((oMk2 d0 G c0 c1 t1 p1 a1).semAt Fence.wide.round a.eval).run P w1 = .ok (.value (.func (.func G) #[] #[F' c0, F' c1])) w1 := by
      rw [show Fence.wide.round = none from rfl, Oper.semAt_none]
      show (execOp a.eval (oMk2 d0 G c0 c1 t1 p1 a1)).run P w1 = _
      rw [hg.eval]
      simp [execOp, Instr.makeFunc, ev]
    show Oper.uponIn Fence.wide 0 P (oMk2 d0 G c0 c1 t1 p1 a1) a _ _ (((oMk2 d0 G c0 c1 t1 p1 a1).semAt Fence.wide.round a.eval).run P w1)
    rw [e1]
    refine ⟨fun _ _ => trivial, ?_⟩
    have e2 : ((oDf d0 t2 p2 a2).semAt Fence.wide.round (a.put (some d0) (.func (.func G) #[] #[F' c0, F' c1])).eval).run P w1 = .ok (.defer { target := .fn (.func G) #[F' c0, F' c1], args := #[] }) w1 := by
      rw [show Fence.wide.round = none from rfl, Oper.semAt_none]
      show (execOp (a.put (some d0) (.func (.func G) #[] #[F' c0, F' c1])).eval (oDf d0 t2 p2 a2)).run P w1 = _
      rw [hg1.eval]
      have : ev (upd F' d0 (.func (.func G) #[] #[F' c0, F' c1])) (.tmp d0) = .func (.func G) #[] #[F' c0, F' c1] := by
        show (bif Nat.beq d0 d0 then _ else _) = _
        rw [Nat.beq_refl]; rfl
      show (execOp (ev (upd F' d0 (.func (.func G) #[] #[F' c0, F' c1]))) (oDf d0 t2 p2 a2)).run P w1 = _
      show ((do pure (.defer (← resolve (ev (upd F' d0 (.func (.func G) #[] #[F' c0, F' c1]))) { callee := .value (.tmp d0), args := #[], argTypes := #[] } t2)) : Sem Next)).run P w1 = _
      simp [resolve, this, Deferred.ofValue]
    show Oper.uponIn Fence.wide 0 P (oDf d0 t2 p2 a2) (a.put (some d0) (.func (.func G) #[] #[F' c0, F' c1])) _ _ (((oDf d0 t2 p2 a2).semAt Fence.wide.round (a.put (some d0) (.func (.func G) #[] #[F' c0, F' c1])).eval).run P w1)
    rw [e2]
    show y.wpIn Fence.wide 0 P (bodyPostM Fence.wide 0 P fn R2) _ w1
    have hds : a.defers = [] := hd
    have hg2 : Agr fn.ntmps { (a.put (some d0) (.func (.func G) #[] #[F' c0, F' c1])) with defers := { target := .fn (.func G) #[F' c0, F' c1], args := #[] } :: a.defers } (upd F' d0 (.func (.func G) #[] #[F' c0, F' c1])) [{ target := .fn (.func G) #[F' c0, F' c1], args := #[] }] := ⟨hg1.1, hg1.2.1, by rw [hds]⟩
    exact wpIn_mono (V_sound (r := none) y hok2.2 _ _ _ w1 _ (.inl rfl) hg2 hk) fun e a' w' hq => KendL_use hq
  | _ => exact hk.elim

/-- A type assertion to a type that is no interface, which holds. -/
theorem tAs0 {X : XK} {s : Sem Next} {t xt : TypeId} {v : Value} {K : VK} {w : World} (hs : s = vS (Instr.typeAssert (.iface t v) xt t false)) (hc : P.concrete t = true) (k : K v w) : OthP P s K X w := by
  rw [OthP_eq]
  refine OpS.x fun w0 hw => ?_
  subst hw
  rw [hs, run_vS]
  have : (Instr.typeAssert (.iface t v) xt t false).run P w0 = .ok v w0 := by
    unfold Program.concrete at hc
    cases hd : P.underlying t with
    | none => simp [hd] at hc
    | some d => cases d <;> first | (simp [hd] at hc; done) | simp [Instr.typeAssert, run_underlying hd]
  rw [this]
  exact k
end
end Go.Proofs.YtehcphboliofaaaGreatDoor

/- Own layer, part 2: append onto a slice that is full. Nothing of the program stands here. -/
namespace Go.Proofs.YtehcphboliofaaaGreatDoor
open Go Go.RowKit

section
variable {P : Program} {X : XK}
theorem appG {t e : TypeId} {sz by_ : Nat} {zv : Value} [h : SliceTy P t e sz] [hz : ZeroTy P e zv] [hby : BytesTy P e by_] {ty : TypeId} {cst : Array Bool} {n m c2 : Nat} {A B : Option Addr} {olds news : List Value} {w : World} {K : VK}
    (ho : Src w A n sz olds) (hs : Src w B m sz news) (hm : 0 < m) (hb : (n + m) * by_ ≤ 140737488355328)
    (kk : ∀ A' c' w', OwnF w w' A' (n + m) c' e sz (olds ++ news) → K (.slice A' (n + m) c') w')
    (h63 : n + m ≤ maxLen := by unfold maxLen; omega) (h1 : (news.all fun u => u.oneCell') = true := by rfl) (hzs : (cellsL zv).length = sz := by rfl) (hpos : Nat.blt 0 sz = true := by rfl) (hA : A = none → n = 0 := by omega) : BuiP P .append #[t, t] ty cst #[.slice A n n, .slice B m c2] K X w := by
  cases A with
  | none =>
    have h0 := hA rfl
    subst h0
    have e0 : olds = [] := List.eq_nil_of_length_eq_zero (by simpa using ho.1)
    subst e0
    exact appF (OwnF.nil (.refl _ _)) hs hb (fun A' c' w' own _ _ => kk A' c' w' own) (by unfold maxLen at h63; omega) h1 hzs hpos
  | some a =>
    rw [BuiP_eq]
    refine OpS.x fun w0 hw => ?_
    subst hw
    obtain ⟨hu, i, hi, hsz⟩ := sliceOf_spec h.h
    obtain ⟨i', hi', hzz⟩ := zeroOf_spec hz.h
    rw [hi] at hi'; cases hi'
    have hbb : i.bytes = by_ := by have := hby.h; unfold bytesOf at this; rw [hi] at this; simpa using this
    obtain ⟨b, o, rfl, hc⟩ := hs.2 hm
    have hold : ∀ j u, olds[j]? = some u → w0.cell? (a.add j) = some u := fun j u hj => by
      rcases Nat.eq_zero_or_pos n with hn | hn
      · have : olds = [] := List.eq_nil_of_length_eq_zero (by have := ho.1; rw [hn] at this; simpa using this)
        rw [this] at hj; simp at hj
      · obtain ⟨b', o', e, hc'⟩ := ho.2 hn
        injection e with e
        subst e
        rw [add_ad]; exact hc' j u hj
    obtain ⟨v', w', hr, hown, hg⟩ := run_append_arg_grows (P := P) (w := w0) t ty e i zv sz by_ hu hi hzz hsz hbb (by rw [cellsL_eq]; simpa using hzs) (Nat.le_of_ble_eq_true hpos) a n n olds ho.1 hold (ad b o) m c2 news hs.1 (fun j u hju => by rw [add_ad]; exact hc j u hju) (by omega) h63 hb
    rw [show builtin .append #[t, t] ty cst #[.slice (some a) n n, .slice (some (ad b o)) m c2] = vS (Builtin.append_ #[t, t] ty #[.slice (some a) n n, .slice (some (ad b o)) m c2]) from rfl, run_vS, hr]
    have hx : Ext (z w0) (z w') := ⟨hg.os, hg.tape, hg.output, hg.size, fun k hk _ => hg.block k hk (fun e => by cases e)⟩
    obtain ⟨hl, hw⟩ := hown
    rcases hw with ⟨rfl, h0⟩ | ⟨g, cap, cur, rfl, hge, hrest⟩
    · omega
    · exact kk (some (ad g 0)) cap (z w') ⟨⟨hl, .inr ⟨g, cap, cur, rfl, Nat.zero_le _, hrest⟩⟩, hx, fun g' hg' => by injection hg' with hg'; injection hg' with hg'; rw [← hg']; exact hge⟩
end
end Go.Proofs.YtehcphboliofaaaGreatDoor

/- Own layer, part 3: a function whose body is a scope through which the run goes without a goto. Nothing of the program stands here. -/
namespace Go.Proofs.YtehcphboliofaaaGreatDoor
open Go Go.RowKit

section
variable {P : Program}
theorem fn_ruleS {f : FuncId} {fn : Func} {args : List Value} {w : World} {R : VK} {c : Code} (hf : P.funcs[f]? = some fn) (hc : fn.body = some (.scope c)) (hok : (wfC fn.ntmps c && Nat.ble args.length fn.ntmps) = true)
    (h : V P c (Kend P fn.results.toList R) (init args) [] w) : CallZ P f args.toArray w R := by
  have hwf := (bothT hok).1
  have hle := Nat.le_of_ble_eq_true (bothT hok).2
  intro w0 hw
  subst hw
  have hg := initAgr hle
  refine callsIn_of_wp_marks (F := Fence.wide) hf hc trivial (wpIn_wide.2 (wp_scope_straight (wpIn_wide.1 (wpIn_mono (V_sound (r := none) c hwf _ _ [] w0 _ (.inl rfl) hg h) fun e a' w' hq => ?_))))
  obtain ⟨F', hg', hk⟩ := hq
  cases e with
  | normal =>
    unfold Kend at hk; rw [RetP_eq] at hk
    obtain ⟨w2, h1, h2⟩ := hk
    exact leaves_soundG (R := R) (fun v _ h => ⟨v, rfl, h⟩) hg'.2.1 _ _ _ h1 h2
  | ret =>
    unfold Kend at hk; rw [RetP_eq] at hk
    obtain ⟨w2, h1, h2⟩ := hk
    exact leaves_soundG (R := R) (fun v _ h => ⟨v, rfl, h⟩) hg'.2.1 _ _ _ h1 h2
  | _ => exact hk.elim
end
end Go.Proofs.YtehcphboliofaaaGreatDoor
