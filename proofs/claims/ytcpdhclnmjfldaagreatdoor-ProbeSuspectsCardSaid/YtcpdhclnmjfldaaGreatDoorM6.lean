/- Parts of the proof: Vs Vw E6 E7 E8 E9 Ea Vx Eb. -/
import Derived.Test.YtcpdhclnmjfldaaGreatDoorM5
import Derived.MapKept
import Derived.Test.YtcpdhclnmjfldaaGreatDoorM4

/- Own layer, part s: maps, whatever their keys. Nothing of the program stands here. -/
namespace Go.Proofs.YtcpdhclnmjfldaaGreatDoor
open Go Go.RowKit Classical

abbrev mkE (k v : Value) (c : Nat) : MapEntry := { key := k, val := v, born := c }
noncomputable def findP (v : Value) : List MapEntry → Nat → Option (Nat × Value)
  | [], _ => none
  | e :: r, i => if e.key = v then some (i, e.val) else findP v r (i + 1)
theorem findP_none {v : Value} : ∀ {L : List MapEntry} {i : Nat}, findP v L i = none ↔ ∀ e ∈ L, e.key ≠ v
  | [], _ => by simp [findP]
  | e :: r, i => by
    unfold findP
    by_cases h : e.key = v
    · simp [h]
    · rw [if_neg h, findP_none]; simp [h]
theorem findP_some {v x : Value} {n : Nat} : ∀ {L : List MapEntry} {i : Nat}, findP v L i = some (n, x) → ∃ j e, n = i + j ∧ L[j]? = some e ∧ e.key = v ∧ e.val = x ∧ ∀ m y, m < j → L[m]? = some y → y.key ≠ v
  | [], _, h => by simp [findP] at h
  | e :: r, i, h => by
    unfold findP at h
    by_cases hk : e.key = v
    · rw [if_pos hk] at h
      simp only [Option.some.injEq, Prod.mk.injEq] at h
      exact ⟨0, e, h.1.symm, rfl, hk, h.2, fun m y hm => by omega⟩
    · rw [if_neg hk] at h
      obtain ⟨j, e', h1, h2, h3, h4, h5⟩ := findP_some h
      refine ⟨j + 1, e', by omega, by simpa using h2, h3, h4, fun m y hm hy => ?_⟩
      cases m with
      | zero => simp at hy; subst hy; exact hk
      | succ m => exact h5 m y (by omega) (by simpa using hy)
noncomputable def lookP (v : Value) (L : List MapEntry) : Option Value := (findP v L 0).map (·.2)
theorem findP_val (v : Value) : ∀ (L : List MapEntry) (i j : Nat), (findP v L i).map (·.2) = (findP v L j).map (·.2)
  | [], _, _ => rfl
  | e :: r, i, j => by
    unfold findP
    split
    · rfl
    · exact findP_val v r _ _
theorem lookP_cons (v : Value) (e : MapEntry) (r : List MapEntry) : lookP v (e :: r) = if e.key = v then some e.val else lookP v r := by
  unfold lookP
  rw [findP]
  split
  · rfl
  · exact findP_val v r _ _
theorem lookP_none {v : Value} {L : List MapEntry} : lookP v L = none ↔ findP v L 0 = none := by unfold lookP; simp
theorem lookP_push {v : Value} {x : MapEntry} : ∀ (L : List MapEntry), lookP x.key L = none → lookP v (L ++ [x]) = if x.key = v then some x.val else lookP v L
  | [], _ => by rw [List.nil_append, lookP_cons]
  | e :: r, h => by
    rw [lookP_cons] at h
    split at h
    · cases h
    rename_i hne
    rw [List.cons_append, lookP_cons, lookP_cons, lookP_push r h]
    by_cases h1 : e.key = v
    · rw [if_pos h1, if_pos h1]
      subst h1
      rw [if_neg (fun e => hne e.symm)]
    · rw [if_neg h1, if_neg h1]
theorem lookP_modify {k v u : Value} : ∀ (L : List MapEntry) (j : Nat) (e : MapEntry), L[j]? = some e → e.key = k → (∀ m y, m < j → L[m]? = some y → y.key ≠ k) →
    lookP u (L.modify j fun e => { e with val := v }) = if k = u then some v else lookP u L
  | [], j, e, h, _, _ => by simp at h
  | x :: r, 0, e, h, hk, _ => by
    simp at h; subst h
    show lookP u ({ x with val := v } :: r) = _
    rw [lookP_cons, lookP_cons, hk]
    by_cases h : k = u
    · rw [if_pos h, if_pos h]
    · rw [if_neg h, if_neg h, if_neg h]
  | x :: r, j + 1, e, h, hk, hn => by
    have hne := hn 0 x (by omega) rfl
    show lookP u (x :: r.modify j _) = _
    rw [lookP_cons, lookP_cons, lookP_modify r j e (by simpa using h) hk (fun m y hm hy => hn (m + 1) y (by omega) (by simpa using hy))]
    by_cases h : k = u
    · subst h; rw [if_pos rfl, if_neg hne, if_pos rfl]
    · rw [if_neg h, if_neg h]
/-- What the rules ask of a type of keys. -/
class KeyL (P : Program) (k : TypeId) {κ : Type} (kv : κ → Value) : Prop where
  inj : ∀ a b, kv a = kv b → a = b
  chk : ∀ (b : Bool) (a : κ) (w : World), (Instr.checkKey b 10000 k (kv a)).run P w = .ok () w
  bits : ∀ a, Instr.sameBits 10000 (kv a) (kv a) = true
  fnd : ∀ (a : κ) (L : List MapEntry) (w : World), (∀ e ∈ L, ∃ q, e.key = kv q) → (Instr.findKey k (kv a) L).run P w = .ok (findP (kv a) L 0) w
def BornL (L : List MapEntry) (c : Nat) : Prop := ∀ (i : Nat) (e : MapEntry), L[i]? = some e → e.born < c ∧ ∀ (j : Nat) (e' : MapEntry), L[j]? = some e' → e'.born = e.born → j = i
/-- A map's entries. -/
structure Ents {κ : Type} (kv : κ → Value) (w : World) (g : Nat) (L : List MapEntry) (c : Nat) : Prop where
  at_ : w.heap[g]? = some (.map L.toArray c)
  keys : ∀ e ∈ L, ∃ q, e.key = kv q
  born : BornL L c
/-- Block g is a map that says f. -/
def MapG {κ : Type} (kv : κ → Value) (w : World) (g : Nat) (f : κ → Option Value) : Prop := ∃ L c, Ents kv w g L c ∧ ∀ a, lookP (kv a) L = f a
/-- .. and the entry of a has the stamp s. -/
def MapS {κ : Type} (kv : κ → Value) (w : World) (g : Nat) (f : κ → Option Value) (a : κ) (s : Nat) : Prop := ∃ L c, Ents kv w g L c ∧ (∀ a, lookP (kv a) L = f a) ∧
  ∃ (j : Nat) (e : MapEntry), L[j]? = some e ∧ e.key = kv a ∧ e.born = s ∧ ∀ (m : Nat) (y : MapEntry), m < j → L[m]? = some y → y.key ≠ kv a
section
variable {P : Program} {κ : Type} {kv : κ → Value}
theorem MapS.g {w : World} {g s : Nat} {f : κ → Option Value} {a : κ} (h : MapS kv w g f a s) : MapG kv w g f := by obtain ⟨L, c, h1, h2, _⟩ := h; exact ⟨L, c, h1, h2⟩
theorem MapG.lt {w : World} {g : Nat} {f : κ → Option Value} (h : MapG kv w g f) : g < w.heap.size := by obtain ⟨L, c, h, _⟩ := h; exact (Array.getElem?_eq_some_iff.1 h.at_).1
theorem Ents.kept {D : Nat → Prop} {w w' : World} {g : Nat} {L : List MapEntry} {c : Nat} (h : Ents kv w g L c) (k : Kept D w w') (hD : D g) : Ents kv w' g L c :=
  ⟨(k.blk g (Array.getElem?_eq_some_iff.1 h.at_).1 hD).trans h.at_, h.keys, h.born⟩
theorem MapG.kept {D : Nat → Prop} {w w' : World} {g : Nat} {f : κ → Option Value} (h : MapG kv w g f) (k : Kept D w w') (hD : D g) : MapG kv w' g f := by
  obtain ⟨L, c, h1, h2⟩ := h; exact ⟨L, c, h1.kept k hD, h2⟩
theorem MapS.kept {D : Nat → Prop} {w w' : World} {g s : Nat} {f : κ → Option Value} {a : κ} (h : MapS kv w g f a s) (k : Kept D w w') (hD : D g) : MapS kv w' g f a s := by
  obtain ⟨L, c, h1, h2⟩ := h; exact ⟨L, c, h1.kept k hD, h2⟩
theorem MapG.new (kv : κ → Value) (w : World) : MapG kv (w.alloc (.map #[] 0)) w.heap.size (fun _ => none) := ⟨[], 0, ⟨by unfold World.alloc; simp, fun _ h => (by cases h), fun i e h => by simp at h⟩, fun _ => rfl⟩
noncomputable def pset (f : κ → Option Value) (a : κ) (v : Value) : κ → Option Value := fun b => if b = a then some v else f b

theorem mapOf_spec {t k e : TypeId} (hm : mapOf P t = some (k, e)) : P.underlying t = some (.map k e) := by
  unfold mapOf at hm
  split at hm
  · rename_i k' e' hu
    simp only [Option.some.injEq, Prod.mk.injEq] at hm
    obtain ⟨rfl, rfl⟩ := hm
    exact hu
  · cases hm
theorem run_lookupG {t k e : TypeId} {zv : Value} (hm : P.underlying t = some (.map k e)) [hk : KeyL P k kv] (hz : zeroOf P e = some zv) {w : World} {g : Nat} {f : κ → Option Value} (h : MapG kv w g f) (a : κ) (ok : Bool) :
    (Instr.lookup t (.map (some g)) (kv a) ok).run P w = .ok (match f a with | some v => (if ok then .tuple #[v, .bool true] else v) | none => (if ok then .tuple #[zv, .bool false] else zv)) w := by
  obtain ⟨L, c, hE, hf⟩ := h
  unfold Instr.lookup
  simp only [Sem.run_bind, run_underlying hm, Result.andThen_ok, MapKept.run_getObj_map hE.at_, Sem.run_pure, hk.chk]
  have hfn := hk.fnd a L w hE.keys
  rw [← hf a, hfn]
  unfold lookP
  cases hp : findP (kv a) L 0 with
  | none => simp only [Result.andThen_ok, Sem.run_bind, run_zeroValue' hz, Sem.run_pure, Option.map_none]
  | some p => obtain ⟨n, x⟩ := p; simp only [Result.andThen_ok, Sem.run_bind, Sem.run_pure, Option.map_some]
/-- A look into a map, the value alone. -/
theorem lookG1 {S : World → Prop} {t k e : TypeId} {zv : Value} [hm : MapTy P t k e] [hk : KeyL P k kv] [hz : ZeroTy P e zv] {g : Nat} (a : κ) {K : Value → Prop} (v : Value) (h : ∀ u, S u → ∃ f : κ → Option Value, MapG kv u g f ∧ (f a).getD zv = v) (kk : K v) : LookG P S t (.map (some g)) (kv a) false K := by
  rw [LookG_eq]
  refine ⟨v, fun w hw w0 e0 => ?_, kk⟩
  subst e0
  obtain ⟨f, h1, h2⟩ := h _ hw
  have := run_lookupG (mapOf_spec hm.h) hz.h (w := w0) (show MapG kv w0 g f from by obtain ⟨L, c, hE, hf⟩ := h1; exact ⟨L, c, ⟨hE.at_, hE.keys, hE.born⟩, hf⟩) a false
  rw [run_vS, this]
  cases hf : f a with
  | none => rw [hf] at h2; exact ⟨h2, rfl⟩
  | some x => rw [hf] at h2; exact ⟨h2, rfl⟩
theorem BornL.push {L : List MapEntry} {c : Nat} (h : BornL L c) (k v : Value) : BornL (L ++ [(mkE (k) v c)]) (c + 1) := by
  intro i e he
  have hi : i < L.length + 1 := by have := (List.getElem?_eq_some_iff.1 he).1; simpa using this
  by_cases h1 : i < L.length
  · rw [List.getElem?_append_left h1] at he
    obtain ⟨h2, h3⟩ := h i e he
    refine ⟨by omega, fun j e' hj hb => ?_⟩
    by_cases h4 : j < L.length
    · rw [List.getElem?_append_left h4] at hj
      exact h3 j e' hj hb
    · rw [List.getElem?_append_right (by omega)] at hj
      have : e' = (mkE (k) v c) := by
        have hl := (List.getElem?_eq_some_iff.1 hj).1
        have : j - L.length = 0 := by simpa using hl
        rw [this] at hj; simpa using hj.symm
      subst this
      simp only at hb
      omega
  · have hi' : i = L.length := by omega
    subst hi'
    have he' : e = (mkE (k) v c) := by rw [List.getElem?_append_right (by omega)] at he; simpa using he.symm
    subst he'
    refine ⟨Nat.lt_succ_self c, fun j e' hj hb => ?_⟩
    by_cases h4 : j < L.length
    · rw [List.getElem?_append_left h4] at hj
      have := (h j e' hj).1
      simp only at hb
      omega
    · have := (List.getElem?_eq_some_iff.1 hj).1
      simp at this
      omega
theorem BornL.modify {L : List MapEntry} {c : Nat} (h : BornL L c) (j : Nat) (v : Value) : BornL (L.modify j fun e => { e with val := v }) c := by
  have key : ∀ (i : Nat) (e : MapEntry), (L.modify j fun e => { e with val := v })[i]? = some e → ∃ e0, L[i]? = some e0 ∧ e.born = e0.born := by
    intro i e he
    rw [List.getElem?_modify] at he
    cases hL : L[i]? with
    | none => rw [hL] at he; cases he
    | some e0 =>
      rw [hL] at he
      simp only [Option.map_eq_map, Option.map_some, Option.some.injEq] at he
      refine ⟨e0, rfl, ?_⟩
      subst he
      split <;> rfl
  intro i e he
  obtain ⟨e0, h1, h2⟩ := key i e he
  obtain ⟨h3, h4⟩ := h i e0 h1
  refine ⟨by omega, fun j' e' hj hb => ?_⟩
  obtain ⟨e1, h5, h6⟩ := key j' e' hj
  exact h4 j' e1 h5 (by omega)
theorem keys_modify {L : List MapEntry} (h : ∀ e ∈ L, ∃ q, e.key = kv q) (j : Nat) (v : Value) : ∀ e ∈ (L.modify j fun e => { e with val := v }), ∃ q, e.key = kv q := by
  intro y hy
  obtain ⟨m, hm'⟩ := List.getElem?_of_mem hy
  rw [List.getElem?_modify] at hm'
  cases hLm : L[m]? with
  | none => rw [hLm] at hm'; cases hm'
  | some y0 =>
    rw [hLm] at hm'
    simp only [Option.map_eq_map, Option.map_some, Option.some.injEq] at hm'
    obtain ⟨q, hq⟩ := h y0 (List.mem_of_getElem? hLm)
    refine ⟨q, ?_⟩
    subst hm'
    split
    · exact hq
    · exact hq
theorem modify_same {L : List MapEntry} {j : Nat} {e : MapEntry} {k : Value} (h : L[j]? = some e) (hk : e.key = k) : (L.modify j fun e => { e with key := k }) = L := by
  apply List.ext_getElem?
  intro m
  rw [List.getElem?_modify]
  by_cases hm : j = m
  · subst hm
    rw [h]; subst hk; simp
  · cases L[m]? <;> simp [hm]
theorem modify_both {L : List MapEntry} {j : Nat} {e : MapEntry} {k v : Value} (h : L[j]? = some e) (hk : e.key = k) : (L.modify j fun e => { e with key := k, val := v }) = L.modify j fun e => { e with val := v } := by
  apply List.ext_getElem?
  intro m
  rw [List.getElem?_modify, List.getElem?_modify]
  by_cases hm : j = m
  · subst hm
    rw [h]; subst hk; rfl
  · cases L[m]? <;> simp [hm]
theorem heap_set {w0 : World} {g : Nat} {L : List MapEntry} {c : Nat} {o : Obj} (hb : w0.heap[g]? = some (.map L.toArray c)) : Kept (fun b => b ≠ g) (z w0) (z { w0 with heap := w0.heap.setIfInBounds g o }) ∧ (z { w0 with heap := w0.heap.setIfInBounds g o }).heap[g]? = some o := by
  have hlt := (Array.getElem?_eq_some_iff.1 hb).1
  exact ⟨⟨rfl, rfl, rfl, by simp [z], fun b hb1 hne => by
    show (w0.heap.setIfInBounds g _)[b]? = w0.heap[b]?
    rw [Array.getElem?_setIfInBounds_ne (fun e => hne e.symm)]⟩, by simp [z, hlt]⟩
/-- A map's entry set. -/
theorem mupdG {t k e : TypeId} [hm : MapTy P t k e] [hk : KeyL P k kv] {g : Nat} {f : κ → Option Value} (a : κ) {v : Value} {w : World} {K : VK} (h : MapG kv w g f) (kk : ∀ w', MapG kv w' g (pset f a v) → Kept (fun b => b ≠ g) w w' → w'.heap.size = w.heap.size → K undef w') : MUpdP P t (.map (some g)) (kv a) v K w := by
  rw [MUpdP_eq]
  intro w0 hw
  subst hw
  have h1 := mapOf_spec hm.h
  obtain ⟨L, c, hE, hf⟩ := h
  have hb : w0.heap[g]? = some (.map L.toArray c) := hE.at_
  have hfn := hk.fnd a L w0 hE.keys
  cases hp : findP (kv a) L 0 with
  | none =>
    rw [hp] at hfn
    have hr : (uS (Instr.mapUpdate t (.map (some g)) (kv a) v)).run P w0 = .ok .skip { w0 with heap := w0.heap.setIfInBounds g (.map (L ++ [(mkE (kv a) v c)]).toArray (c + 1)) } := by
      unfold uS Instr.mapUpdate
      simp only [Sem.run_bind, run_underlying h1, Result.andThen_ok, MapKept.run_getObj_map hb, hk.chk, hfn, MapKept.run_setObj_map _ hb, Sem.run_pure]
      simp
    rw [hr]
    obtain ⟨k1, k2⟩ := heap_set (o := .map (L ++ [(mkE (kv a) v c)]).toArray (c + 1)) hb
    refine kk (z { w0 with heap := w0.heap.setIfInBounds g _ }) ⟨_, _, ⟨k2, fun y hy => ?_, hE.born.push _ _⟩, fun b => ?_⟩ k1 (by simp [z])
    · rcases List.mem_append.1 hy with h | h
      · exact hE.keys y h
      · simp at h; subst h; exact ⟨a, rfl⟩
    · rw [lookP_push (x := (mkE (kv a) v c)) L (lookP_none.2 hp)]
      unfold pset
      by_cases hab : b = a
      · subst hab; rw [if_pos rfl, if_pos rfl]
      · rw [if_neg (fun e => hab (hk.inj _ _ e).symm), if_neg hab, hf]
  | some p =>
    obtain ⟨n, x⟩ := p
    rw [hp] at hfn
    obtain ⟨j, y, hn, hj, hy, _, hfirst⟩ := findP_some hp
    have hn : n = j := by omega
    subst hn
    have hr : (uS (Instr.mapUpdate t (.map (some g)) (kv a) v)).run P w0 = .ok .skip { w0 with heap := w0.heap.setIfInBounds g (.map (L.modify n fun e => { e with val := v }).toArray c) } := by
      unfold uS Instr.mapUpdate
      have hkey : ((L.toArray[n]?).map (·.key)).getD (kv a) = kv a := by simp [hj, hy]
      simp only [Sem.run_bind, run_underlying h1, Result.andThen_ok, MapKept.run_getObj_map hb, hk.chk, hfn, hkey, Instr.keyThatStays, hk.bits, if_true, Sem.run_pure, MapKept.run_setObj_map _ hb]
      rw [← modify_both hj hy]
      simp
    rw [hr]
    obtain ⟨k1, k2⟩ := heap_set (o := .map (L.modify n fun e => { e with val := v }).toArray c) hb
    refine kk (z { w0 with heap := w0.heap.setIfInBounds g _ }) ⟨_, _, ⟨k2, keys_modify hE.keys n v, hE.born.modify n v⟩, fun b => ?_⟩ k1 (by simp [z])
    rw [lookP_modify (k := kv a) L n y hj hy hfirst]
    unfold pset
    by_cases hab : b = a
    · subst hab; rw [if_pos rfl, if_pos rfl]
    · rw [if_neg (fun e => hab (hk.inj _ _ e).symm), if_neg hab, hf]
/-- An entry taken hold of ('m[a] op= ..'). -/
theorem mentG {t k e : TypeId} {zv : Value} [hm : MapTy P t k e] [hk : KeyL P k kv] [hz : ZeroTy P e zv] {g : Nat} {f : κ → Option Value} (a : κ) {w : World} {K : VK} (h : MapG kv w g f) (kk : ∀ w' (s : Nat), MapS kv w' g (pset f a ((f a).getD zv)) a s → Kept (fun b => b ≠ g) w w' → w'.heap.size = w.heap.size → K (.tuple #[(f a).getD zv, .int .i64 (s : Int)]) w') : MEntP P t (.map (some g)) (kv a) K w := by
  rw [MEntP_eq]
  intro w0 hw
  subst hw
  have h1 := mapOf_spec hm.h
  obtain ⟨L, c, hE, hf⟩ := h
  have hb : w0.heap[g]? = some (.map L.toArray c) := hE.at_
  have hfn := hk.fnd a L w0 hE.keys
  cases hp : findP (kv a) L 0 with
  | none =>
    rw [hp] at hfn
    have hfa : f a = none := by rw [← hf a]; exact lookP_none.2 hp
    have hr : (vS (Instr.mapEntry t (.map (some g)) (kv a))).run P w0 = .ok (.value (.tuple #[zv, .int .i64 (c : Int)])) { w0 with heap := w0.heap.setIfInBounds g (.map (L ++ [(mkE (kv a) zv c)]).toArray (c + 1)) } := by
      rw [run_vS]
      unfold Instr.mapEntry
      simp only [Sem.run_bind, run_underlying h1, Result.andThen_ok, MapKept.run_getObj_map hb, hk.chk, hfn, run_zeroValue' hz.h, MapKept.run_setObj_map _ hb, Sem.run_pure]
      simp [goInt]
    rw [hr]
    obtain ⟨k1, k2⟩ := heap_set (o := .map (L ++ [(mkE (kv a) zv c)]).toArray (c + 1)) hb
    have := kk (z { w0 with heap := w0.heap.setIfInBounds g (.map (L ++ [(mkE (kv a) zv c)]).toArray (c + 1)) }) c ⟨_, _, ⟨k2, fun y hy => ?_, hE.born.push _ _⟩, fun b => ?_, L.length, (mkE (kv a) zv c), by simp, rfl, rfl, fun m y hm hy => ?_⟩ k1 (by simp [z])
    · rw [hfa] at this; exact this
    · rcases List.mem_append.1 hy with h | h
      · exact hE.keys y h
      · simp at h; subst h; exact ⟨a, rfl⟩
    · rw [lookP_push (x := (mkE (kv a) zv c)) L (lookP_none.2 hp), hfa]
      unfold pset
      by_cases hab : b = a
      · subst hab; rw [if_pos rfl, if_pos rfl]; rfl
      · rw [if_neg (fun e => hab (hk.inj _ _ e).symm), if_neg hab, hf]
    · rw [List.getElem?_append_left hm] at hy
      exact findP_none.1 hp y (List.mem_of_getElem? hy)
  | some p =>
    obtain ⟨n, x⟩ := p
    rw [hp] at hfn
    obtain ⟨j, y, hn, hj, hy, hyx, hfirst⟩ := findP_some hp
    have hn : n = j := by omega
    subst hn
    have hfa : f a = some x := by rw [← hf a]; unfold lookP; rw [hp]; rfl
    have hr : (vS (Instr.mapEntry t (.map (some g)) (kv a))).run P w0 = .ok (.value (.tuple #[x, .int .i64 (y.born : Int)])) { w0 with heap := w0.heap.setIfInBounds g (.map L.toArray c) } := by
      rw [run_vS]
      unfold Instr.mapEntry
      have hkey : ((L.toArray[n]?).map (·.key)).getD (kv a) = kv a := by simp [hj, hy]
      simp only [Sem.run_bind, run_underlying h1, Result.andThen_ok, MapKept.run_getObj_map hb, hk.chk, hfn, hkey, Instr.keyThatStays, hk.bits, if_true, Sem.run_pure, MapKept.run_setObj_map _ hb]
      have e1 := modify_same hj hy
      have e2 : (L.toArray.modify n fun e => { e with key := kv a }) = L.toArray := by have := congrArg List.toArray e1; simpa using this
      rw [e2]
      simp [goInt, hj]
    rw [hr]
    obtain ⟨k1, k2⟩ := heap_set (o := .map L.toArray c) hb
    have := kk (z { w0 with heap := w0.heap.setIfInBounds g (.map L.toArray c) }) y.born ⟨L, c, ⟨k2, hE.keys, hE.born⟩, fun b => ?_, n, y, hj, hy, rfl, hfirst⟩ k1 (by simp [z])
    · rw [hfa] at this; exact this
    · rw [hf, hfa]
      unfold pset
      by_cases hab : b = a
      · subst hab; rw [if_pos rfl]; exact hfa
      · rw [if_neg hab]
/-- .. and set. -/
theorem estoG {t k e : TypeId} [_hm : MapTy P t k e] [hk : KeyL P k kv] {g s : Nat} {f : κ → Option Value} {a : κ} {v : Value} {w : World} {K : VK} (h : MapS kv w g f a s) (kk : ∀ w', MapG kv w' g (pset f a v) → Kept (fun b => b ≠ g) w w' → w'.heap.size = w.heap.size → K undef w') : EStoP P t (.map (some g)) (.int .i64 (s : Int)) v K w := by
  rw [EStoP_eq]
  intro w0 hw
  subst hw
  obtain ⟨L, c, hE, hf, j, y, hj, hy, hs, hfirst⟩ := h
  have hb : w0.heap[g]? = some (.map L.toArray c) := hE.at_
  subst hs
  have hjl := (List.getElem?_eq_some_iff.1 hj).1
  have hidx : L.toArray.findIdx? (fun e => (e.born : Int) == (y.born : Int)) = some j := by
    rw [List.findIdx?_toArray]
    rw [List.findIdx?_eq_some_iff_getElem]
    refine ⟨hjl, ?_, fun m hm => ?_⟩
    · have : L[j] = y := (List.getElem?_eq_some_iff.1 hj).2
      simp [this]
    · have hm' : L[m]? = some L[m] := List.getElem?_eq_getElem (by omega)
      simp only [beq_iff_eq, Int.natCast_inj]
      intro e
      have := (hE.born j y hj).2 m _ hm' e
      omega
  have hr : (uS (Instr.entryStore t (.map (some g)) (.int .i64 (y.born : Int)) v)).run P w0 = .ok .skip { w0 with heap := w0.heap.setIfInBounds g (.map (L.modify j fun e => { e with val := v }).toArray c) } := by
    have hai : (asInt (.int .i64 (y.born : Int))).run P w0 = .ok (y.born : Int) w0 := rfl
    unfold uS Instr.entryStore
    simp only [Sem.run_bind, Result.andThen_ok, MapKept.run_getObj_map hb, hai, Sem.run_pure, hidx, MapKept.run_setObj_map _ hb]
    simp
  rw [hr]
  obtain ⟨k1, k2⟩ := heap_set (o := .map (L.modify j fun e => { e with val := v }).toArray c) hb
  refine kk (z { w0 with heap := w0.heap.setIfInBounds g _ }) ⟨_, _, ⟨k2, keys_modify hE.keys j v, hE.born.modify j v⟩, fun b => ?_⟩ k1 (by simp [z])
  rw [lookP_modify (k := kv a) L j y hj hy hfirst]
  unfold pset
  by_cases hab : b = a
  · subst hab; rw [if_pos rfl, if_pos rfl]
  · rw [if_neg (fun e => hab (hk.inj _ _ e).symm), if_neg hab, hf]

/-! ### keys of two numbers -/
abbrev kv2 (p : Int × Int) : Value := .agg #[.int .i64 p.1, .int .i64 p.2]
/-- What the rules ask of the array's type. -/
structure Key2 (P : Program) (k e : TypeId) : Prop where
  u : P.underlying k = some (.array 2 e)
  ue : P.underlying e = some (.int .i64)
  i : (P.info? e).isSome = true
  one : P.cellsOf e = 1
  eq : ∀ a b c d : Int, eqV P 8 k (.agg #[.int .i64 a, .int .i64 b]) (.agg #[.int .i64 c, .int .i64 d]) = some ((a == c) && ((b == d) && true))
theorem run_chk2 {k e : TypeId} (h : Key2 P k e) (b : Bool) (a : Int × Int) (w : World) : (Instr.checkKey b 10000 k (kv2 a)).run P w = .ok () w := by
  obtain ⟨i, hi⟩ := Option.isSome_iff_exists.1 h.i
  have hs : (sizeOf e).run P w = .ok (P.cellsOf e) w := Go.run_sizeOf w hi
  have p0 : (part e #[.int .i64 a.1, .int .i64 a.2] 0).run P w = .ok (.int .i64 a.1) w := run_partV (by unfold partV; rw [h.ue]; rfl) w
  have p1 : (part e #[.int .i64 a.1, .int .i64 a.2] 1).run P w = .ok (.int .i64 a.2) w := run_partV (by unfold partV; rw [h.ue]; rfl) w
  have ck : ∀ n : Int, (Instr.checkKey b 9999 e (.int .i64 n)).run P w = .ok () w := fun n => by
    rw [show (9999 : Nat) = 9998 + 1 from rfl]
    unfold Instr.checkKey
    rw [Sem.run_bind, run_underlying h.ue]
    rfl
  rw [show (10000 : Nat) = 9999 + 1 from rfl]
  unfold Instr.checkKey
  simp only [Sem.run_bind, run_underlying h.u, Result.andThen_ok]
  simp only [Std.Legacy.Range.forIn_eq_forIn_range', Std.Legacy.Range.size, Nat.sub_zero, Nat.add_one_sub_one, Nat.div_one]
  simp only [List.range', List.forIn_cons, List.forIn_nil, Sem.run_bind, hs, h.one, Result.andThen_ok, p0, p1, ck, Sem.run_pure, Nat.zero_mul, Nat.mul_one, Nat.zero_add]
theorem run_fnd2 {k e : TypeId} (h : Key2 P k e) (a : Int × Int) (L : List MapEntry) (w : World) (hL : ∀ e ∈ L, ∃ q, e.key = kv2 q) : (Instr.findKey k (kv2 a) L).run P w = .ok (findP (kv2 a) L 0) w := by
  have heq : ∀ q, (Op.equal k (kv2 a) (kv2 q)).run P w = .ok ((a.1 == q.1) && ((a.2 == q.2) && true)) w := fun q => run_eqV 9992 8 k _ _ _ (h.eq a.1 a.2 q.1 q.2) w
  have ask : ∀ (L : List MapEntry) (i : Nat), (∀ e ∈ L, ∃ q, e.key = kv2 q) → (Instr.findAsking k (kv2 a) L i).run P w = .ok (findP (kv2 a) L i) w := by
    intro L
    induction L with
    | nil => intro i _; simp [Instr.findAsking, findP]
    | cons x r ih =>
      intro i hx
      obtain ⟨q, hq⟩ := hx x List.mem_cons_self
      unfold Instr.findAsking findP
      rw [hq, Sem.run_bind, heq q]
      by_cases hab : a = q
      · subst hab
        simp
      · have h1 : ((a.1 == q.1) && ((a.2 == q.2) && true)) = false := by
          rw [Bool.eq_false_iff]
          intro e
          simp at e
          exact hab (Prod.ext e.1 e.2)
        have h2 : ¬ (kv2 q = kv2 a) := fun e => by
          simp at e
          exact hab (Prod.ext e.1.symm e.2.symm)
        rw [h1, if_neg h2]
        simpa using ih (i + 1) fun y hy => hx y (List.mem_cons_of_mem _ hy)
  unfold Instr.findKey
  rw [Sem.run_bind, run_underlying h.u]
  simp only [Result.andThen_ok]
  cases L with
  | nil => simp [Instr.findNow, findP]
  | cons x r =>
    obtain ⟨q, hq⟩ := hL x List.mem_cons_self
    have : Instr.findNow (.array 2 e) (kv2 a) (x :: r) 0 = none := by unfold Instr.findNow; rw [hq]; rfl
    rw [this]
    exact ask _ 0 hL
theorem Key2.law {k e : TypeId} (h : Key2 P k e) : KeyL P k kv2 where
  inj a b h := by simp at h; exact Prod.ext h.1 h.2
  chk := run_chk2 h
  bits a := by
    rw [show (10000 : Nat) = 9998 + 1 + 1 from rfl]
    simp [Instr.sameBits]
  fnd := run_fnd2 h
end
end Go.Proofs.YtcpdhclnmjfldaaGreatDoor

/- Own layer, part w: maps whose keys are records of two numbers; a look with its truth. Nothing of the program stands here. -/
namespace Go.Proofs.YtcpdhclnmjfldaaGreatDoor
open Go Go.RowKit Classical

/-- What the rules ask of the record's type. -/
structure KeyS (P : Program) (k e : TypeId) (f0 f1 : Field) : Prop where
  u : P.underlying k = some (.struct #[f0, f1])
  t0 : f0.type = e
  t1 : f1.type = e
  o0 : f0.offset = 0
  o1 : f1.offset = 1
  n0 : f0.name ≠ "_"
  n1 : f1.name ≠ "_"
  ue : P.underlying e = some (.int .i64)
  eq : ∀ a b c d : Int, eqV P 8 k (.agg #[.int .i64 a, .int .i64 b]) (.agg #[.int .i64 c, .int .i64 d]) = some ((a == c) && ((b == d) && true))
section
variable {P : Program}
theorem run_chkS {k e : TypeId} {f0 f1 : Field} (h : KeyS P k e f0 f1) (b : Bool) (a : Int × Int) (w : World) : (Instr.checkKey b 10000 k (kv2 a)).run P w = .ok () w := by
  have p0 : (part e #[.int .i64 a.1, .int .i64 a.2] 0).run P w = .ok (.int .i64 a.1) w := run_partV (by unfold partV; rw [h.ue]; rfl) w
  have p1 : (part e #[.int .i64 a.1, .int .i64 a.2] 1).run P w = .ok (.int .i64 a.2) w := run_partV (by unfold partV; rw [h.ue]; rfl) w
  have ck : ∀ n : Int, (Instr.checkKey b 9999 e (.int .i64 n)).run P w = .ok () w := fun n => by
    rw [show (9999 : Nat) = 9998 + 1 from rfl]
    unfold Instr.checkKey
    rw [Sem.run_bind, run_underlying h.ue]
    rfl
  rw [show (10000 : Nat) = 9999 + 1 from rfl]
  unfold Instr.checkKey
  simp only [Sem.run_bind, run_underlying h.u, Result.andThen_ok]
  simp only [← Array.forIn_toList, List.forIn_cons, List.forIn_nil, if_pos h.n0, if_pos h.n1, Sem.run_bind, h.t0, h.t1, h.o0, h.o1, p0, p1, ck, Result.andThen_ok, Sem.run_pure]
theorem run_fndS {k e : TypeId} {f0 f1 : Field} (h : KeyS P k e f0 f1) (a : Int × Int) (L : List MapEntry) (w : World) (hL : ∀ e ∈ L, ∃ q, e.key = kv2 q) : (Instr.findKey k (kv2 a) L).run P w = .ok (findP (kv2 a) L 0) w := by
  have heq : ∀ q, (Op.equal k (kv2 a) (kv2 q)).run P w = .ok ((a.1 == q.1) && ((a.2 == q.2) && true)) w := fun q => run_eqV 9992 8 k _ _ _ (h.eq a.1 a.2 q.1 q.2) w
  have ask : ∀ (L : List MapEntry) (i : Nat), (∀ e ∈ L, ∃ q, e.key = kv2 q) → (Instr.findAsking k (kv2 a) L i).run P w = .ok (findP (kv2 a) L i) w := by
    intro L
    induction L with
    | nil => intro i _; simp [Instr.findAsking, findP]
    | cons x r ih =>
      intro i hx
      obtain ⟨q, hq⟩ := hx x List.mem_cons_self
      unfold Instr.findAsking findP
      rw [hq, Sem.run_bind, heq q]
      by_cases hab : a = q
      · subst hab
        simp
      · have h1 : ((a.1 == q.1) && ((a.2 == q.2) && true)) = false := by
          rw [Bool.eq_false_iff]
          intro e
          simp at e
          exact hab (Prod.ext e.1 e.2)
        have h2 : ¬ (kv2 q = kv2 a) := fun e => by
          simp at e
          exact hab (Prod.ext e.1.symm e.2.symm)
        rw [h1, if_neg h2]
        simpa using ih (i + 1) fun y hy => hx y (List.mem_cons_of_mem _ hy)
  unfold Instr.findKey
  rw [Sem.run_bind, run_underlying h.u]
  simp only [Result.andThen_ok]
  cases L with
  | nil => simp [Instr.findNow, findP]
  | cons x r =>
    obtain ⟨q, hq⟩ := hL x List.mem_cons_self
    have : Instr.findNow (.struct #[f0, f1]) (kv2 a) (x :: r) 0 = none := by unfold Instr.findNow; rw [hq]; rfl
    rw [this]
    exact ask _ 0 hL
theorem KeyS.law {k e : TypeId} {f0 f1 : Field} (h : KeyS P k e f0 f1) : KeyL P k kv2 where
  inj a b h := by simp at h; exact Prod.ext h.1 h.2
  chk := run_chkS h
  bits a := by
    rw [show (10000 : Nat) = 9998 + 1 + 1 from rfl]
    simp [Instr.sameBits]
  fnd := run_fndS h
/-- A look into a map, the value and whether it is there. -/
theorem lookG2 {κ : Type} {kv : κ → Value} {S : World → Prop} {t k e : TypeId} {zv : Value} [hm : MapTy P t k e] [hk : KeyL P k kv] [hz : ZeroTy P e zv] {g : Nat} (a : κ) {K : Value → Prop} (v : Option Value) (h : ∀ u, S u → ∃ f : κ → Option Value, MapG kv u g f ∧ f a = v)
    (k1 : ∀ x, v = some x → K (.tuple #[x, .bool true])) (k2 : v = none → K (.tuple #[zv, .bool false])) : LookG P S t (.map (some g)) (kv a) true K := by
  rw [LookG_eq]
  cases v with
  | none =>
    refine ⟨_, fun w hw w0 e0 => ?_, k2 rfl⟩
    subst e0
    obtain ⟨f, h1, h2⟩ := h _ hw
    have := run_lookupG (mapOf_spec hm.h) hz.h (w := w0) (show MapG kv w0 g f from by obtain ⟨L, c, hE, hf⟩ := h1; exact ⟨L, c, ⟨hE.at_, hE.keys, hE.born⟩, hf⟩) a true
    rw [run_vS, this, h2]
    exact ⟨rfl, rfl⟩
  | some x =>
    refine ⟨_, fun w hw w0 e0 => ?_, k1 x rfl⟩
    subst e0
    obtain ⟨f, h1, h2⟩ := h _ hw
    have := run_lookupG (mapOf_spec hm.h) hz.h (w := w0) (show MapG kv w0 g f from by obtain ⟨L, c, hE, hf⟩ := h1; exact ⟨L, c, ⟨hE.at_, hE.keys, hE.born⟩, hf⟩) a true
    rw [run_vS, this, h2]
    exact ⟨rfl, rfl⟩
end
end Go.Proofs.YtcpdhclnmjfldaaGreatDoor

/- Layer 48: contracts of right, Check. -/
namespace Go.Proofs.YtcpdhclnmjfldaaGreatDoor
open Go Go.RowKit

section
variable {D : Nat → Prop} {w : World} {A : Option Addr} {n c : Nat}
theorem c_eright481 {y : Rg} : CallZ Tryz.prog 65 #[.agg y.c.toArray] w (fun v w' => v = .bool (!rgOk y 1073741824) ∧ Ext w w') := by
  refine fn_rule (args := [.agg #[iv y.lo, iv y.hi]]) Tryz.func65 (by kernel_rfl) ?_
  refine box (fun g w1 h1 => ?_)
  have b1 : Blk w1 g _ [iv y.lo, iv y.hi] := h1.blk
  have no : ¬ (0 ≤ y.lo ∧ y.lo ≤ y.hi ∧ y.hi ≤ 1073741824) → Value.bool true = .bool (!rgOk y 1073741824) := fun h => by
    cases hr : rgOk y 1073741824 with
    | false => rfl
    | true => exact absurd (rgOk_iff.1 hr) h
  refine fldA ?_
  refine ld (iv y.lo) (b1.cell rfl) ?_
  refine cD (fun q => ?_) (fun q1 => ?_)
  · exact ret1 (.bool true) rfl ⟨no fun h => by omega, h1.ext⟩
  refine fldA ?_
  refine ld (iv y.lo) (b1.cell rfl) ?_
  refine fldA ?_
  refine ld (iv y.hi) (b1.cell rfl) ?_
  refine cD (fun q => ?_) (fun q2 => ?_)
  · exact ret1 (.bool true) rfl ⟨no fun h => by omega, h1.ext⟩
  refine fldA ?_
  refine ld (iv y.hi) (b1.cell rfl) ?_
  refine cD (fun q => ?_) (fun q3 => ?_)
  · exact ret1 (.bool true) rfl ⟨no fun h => by omega, h1.ext⟩
  · exact ret1 (.bool false) rfl ⟨by rw [rgOk_iff.2 (by omega)]; rfl, h1.ext⟩
abbrev rgP (y : Rg) : Bool := rgOk y 1073741824
theorem c_indRg {xs : List Rg} (h : SlR tRg D w A n xs) : CallZ Tryz.prog 83 #[.slice A n c, .func (.func 65) #[] #[]] w (fun v w' => (∃ i : Int, v = iv i ∧ (0 ≤ i ↔ xs.all rgP = false)) ∧ Ext w w') := by
  refine fn_rule (args := [.slice A n c, .func (.func 65) #[] #[]]) Tryz.func83 (by kernel_rfl) ?_
  refine len ?_
  refine loop_rule (fun k : Nat => [(8, iv (k : Int))]) (fun k w' => k ≤ n ∧ Ext w w' ∧ xs.all rgP = (xs.drop k).all rgP) (fun k _ => n - k) 0 ⟨rfl, trivial⟩ ⟨by omega, .refl _ _, rfl⟩ rfl ?_
  rintro G k w' ⟨hk, xw, he⟩
  refine cD (fun hlt => ?_) (fun hge => ?_)
  · obtain ⟨b, o, cs, x, rfl, hx, hdx, -, hc, rfl⟩ := (h.ext xw).at_ (show k < n by omega)
    rw [hdx, List.all_cons] at he
    refine idx k rfl (by omega) ?_
    refine ldA x.c hc rfl ?_
    refine callE (c_eright481 (y := x)) (fun w2 g x2 => ?_) (fun w2 g x2 => ?_)
    · refine ret1 (iv (k : Int)) rfl ⟨⟨k, rfl, ?_⟩, xw.trans x2⟩
      simp only [Bool.not_eq_true'] at g
      rw [he, show rgP x = false from g]; simp
    · simp only [Bool.not_eq_false'] at g
      refine arI (by have := h.le; omega) ?_
      refine next (k + 1) ⟨by rw [Int.natCast_add]; rfl, trivial⟩ ⟨by omega, xw.trans x2, ?_⟩ (by omega)
      rw [he, show rgP x = true from g]; rfl
  · refine ret1 (iv (-1)) rfl ⟨⟨-1, rfl, ?_⟩, xw⟩
    rw [he, List.drop_eq_nil_of_le (by have := h.len; omega)]; simp
theorem c_contRg {xs : List Rg} (h : SlR tRg D w A n xs) : CallZ Tryz.prog 64 #[.slice A n c, .func (.func 65) #[] #[]] w (fun v w' => v = .bool (!xs.all rgP) ∧ Ext w w') := by
  refine fn_rule (args := [.slice A n c, .func (.func 65) #[] #[]]) Tryz.func64 (by kernel_rfl) ?_
  refine call_of (c_indRg h) ?_
  rintro _ w' ⟨⟨i, rfl, hi⟩, xw⟩
  refine cD (fun g => ?_) (fun g => ?_)
  · exact ret1 (.bool true) rfl ⟨by rw [hi.1 g]; rfl, xw⟩
  · exact ret1 (.bool false) rfl ⟨by rw [show xs.all rgP = true from by cases ha : xs.all rgP with | true => rfl | false => exact absurd (hi.2 ha) g]; rfl, xw⟩
theorem c_right48 {xs : List Rg} {m : Nat} {k : Int} (h : SlR tRg D w A n xs) (hk : k = (m : Int)) : CallZ Tryz.prog 41 #[.slice A n c, iv k] w (fun v w' => v = .bool (rgsB m xs) ∧ Ext w w') := by
  subst hk
  refine fn_rule (args := [.slice A n c, iv (m : Int)]) Tryz.func41 (by kernel_rfl) ?_
  have hl := h.len
  refine len ?_
  refine cD (fun g1 => ?_) (fun g1 => ?_)
  · refine callE (c_contRg h) (fun w2 g x2 => ?_) (fun w2 g x2 => ?_)
    · simp only [Bool.not_eq_true'] at g
      exact ret1 (.bool false) rfl ⟨by unfold rgsB; rw [decide_eq_true (by omega), Bool.true_and]; exact congrArg Value.bool g.symm, x2⟩
    · simp only [Bool.not_eq_false'] at g
      exact ret1 (.bool true) rfl ⟨by unfold rgsB; rw [decide_eq_true (by omega), Bool.true_and]; exact congrArg Value.bool g.symm, x2⟩
  · exact ret1 (.bool false) rfl ⟨by unfold rgsB; rw [decide_eq_false (by omega), Bool.false_and], .refl _ _⟩

/-! ### Check -/
/-- An evidence's cells. -/
structure EvR (D : Nat → Prop) (w : World) (cs : List Value) (x : Ev) : Prop where
  of_ ::
  ex : ∃ W1 n1 c1 S1 n2 c2, cs = [.slice W1 n1 c1, .slice S1 n2 c2] ∧ SlR tWv D w W1 n1 x.waves ∧ SlR tSu D w S1 n2 x.suspects ∧ n1 ≤ c1 ∧ n2 ≤ c2
theorem EvR.keep {w w' : World} {cs : List Value} {d : Ev} (hk : ∀ b, b < w.heap.size → D b → w'.heap[b]? = w.heap[b]?) (h : EvR D w cs d) : EvR D w' cs d := by
  obtain ⟨A1, n1, c1, A2, n2, c2, h, h1, h2, h3⟩ := h.ex
  exact ⟨A1, n1, c1, A2, n2, c2, h, h1.keep hk, h2.keep hk, h3⟩
theorem EvR.more {D' : Nat → Prop} {w : World} {cs : List Value} {d : Ev} (hk : ∀ b, b < w.heap.size → D b → D' b) (h : EvR D w cs d) : EvR D' w cs d := by
  obtain ⟨A1, n1, c1, A2, n2, c2, h, h1, h2, h3⟩ := h.ex
  exact ⟨A1, n1, c1, A2, n2, c2, h, h1.more (by decide) hk, h2.more (by decide) hk, h3⟩
theorem EvR.kept {D' : Nat → Prop} {w w' : World} {cs : List Value} {d : Ev} (h : EvR D w cs d) (k : Kept D' w w') (hd : ∀ b, b < w.heap.size → D b → D' b) : EvR D w' cs d := h.keep fun b hb hD => k.blk b hb (hd b hb hD)
theorem EvR.ext {w w' : World} {cs : List Value} {d : Ev} (h : EvR D w cs d) (k : Ext w w') : EvR D w' cs d := h.kept k fun _ _ _ => trivial
theorem fset_many {R F : Int} (k : Int) : ((fset (fset (fset (fset (fun _ => none) 1 (iv R)) 2 (iv F)) 3 (iv R)) 4 (iv R)) k).getD (iv 0) = iv (if k = 1 ∨ k = 3 ∨ k = 4 then R else if k = 2 then F else 0) := by
  unfold fset
  by_cases h4 : k = 4
  · subst h4; rfl
  by_cases h3 : k = 3
  · subst h3; rfl
  by_cases h2 : k = 2
  · subst h2; rfl
  by_cases h1 : k = 1
  · subst h1; rfl
  rw [if_neg h4, if_neg h3, if_neg h2, if_neg h1, if_neg (by omega), if_neg h2]; rfl
end
end Go.Proofs.YtcpdhclnmjfldaaGreatDoor

/- Layer 48: contract of Check. -/
namespace Go.Proofs.YtcpdhclnmjfldaaGreatDoor
open Go Go.RowKit

theorem wv_open {D : Nat → Prop} {w : World} {cs : List Value} {x : Wv} (h : tWv.rep D w cs x) : ∃ H1 h1 k1 O1 o1 k2 T1 t1 k3, cs = [iv x.hour, .slice H1 h1 k1, .slice O1 o1 k2, .slice T1 t1 k3] ∧ I64 x.hour ∧ SlR tRg D w H1 h1 x.heads ∧ SlR tRg D w O1 o1 x.outlets ∧ SlR tRg D w T1 t1 x.tails := by
  obtain ⟨_, _, rfl, ⟨rfl, hh⟩, _, _, rfl, ⟨H1, h1, k1, rfl, g1, -⟩, _, _, rfl, ⟨O1, o1, k2, rfl, g2, -⟩, T1, t1, k3, rfl, g3, -⟩ := h
  exact ⟨H1, h1, k1, O1, o1, k2, T1, t1, k3, rfl, hh, g1, g2, g3⟩
theorem evErr_480 {d : Dist} {x : Ev} (h0 : dErr d = 0) (h1 : ¬ (x.waves.length > 24 ∨ x.suspects.length > 12)) (h2 : (wavesB d (-1) x.waves && susB d (0, -1) x.suspects) = false) : evErr d x = 480 := by
  unfold evErr; rw [if_neg (by simp [h0]), if_neg h1, h2, if_neg (by simp)]
section
variable {D : Nat → Prop} {w : World}
set_option maxRecDepth 8000 in
theorem c_eCheck48 {csd csx : List Value} {d : Dist} {x : Ev} (hd : DiR D w csd d) (hx : EvR D w csx x) : CallZ Tryz.prog 29 #[.agg csd.toArray, .agg csx.toArray] w
    (fun v w' => v = iv (evErr d x) ∧ Ext w w') := by
  have hd := hd.more (D' := fun b => b < w.heap.size) fun b hb _ => hb
  have hx := hx.more (D' := fun b => b < w.heap.size) fun b hb _ => hb
  obtain ⟨A1, n1, c1, A2, n2, c2, A3, n3, c3, A4, n4, c4, A5, n5, c5, A6, n6, c6, rfl, hr, hfa, -⟩ := hd.ex
  obtain ⟨W1, m1, e1, S1, m2, e2, rfl, hw, hs, -⟩ := hx.ex
  have ln := hr.len
  have lf := hfa.len
  have lw := hw.len
  have ls := hs.len
  have lnb := hr.le
  have lfb := hfa.le
  refine fn_rule (args := [.agg #[.string d.name, iv d.hours, iv d.cap, iv d.start, .slice A1 n1 c1, .slice A2 n2 c2, .slice A3 n3 c3, .slice A4 n4 c4, .slice A5 n5 c5, .slice A6 n6 c6], .agg #[.slice W1 m1 e1, .slice S1 m2 e2]]) Tryz.func29 (by kernel_rfl) ?_
  refine box (fun bd w1 h1 => ?_)
  refine box (fun bx w2 h2 => ?_)
  have x2 := h1.ext.trans h2.ext
  have Bd : Blk w2 bd 31 [.string d.name, iv d.hours, iv d.cap, iv d.start, .slice A1 n1 c1, .slice A2 n2 c2, .slice A3 n3 c3, .slice A4 n4 c4, .slice A5 n5 c5, .slice A6 n6 c6] := h1.blk.ext h2.ext
  have Bx : Blk w2 bx 35 [.slice W1 m1 e1, .slice S1 m2 e2] := h2.blk
  refine ldA _ (.blk Bd) rfl ?_
  refine call_of (c_eCheck (hd.ext x2)) ?_
  rintro _ w3 ⟨rfl, x3⟩
  have x03 := x2.trans x3
  have Bd3 := Bd.ext x3
  have Bx3 := Bx.ext x3
  refine cN (fun q0 => ?_) (fun q0 => ?_)
  · exact ret1 (iv (dErr d)) rfl ⟨by unfold evErr; rw [if_pos q0], x03⟩
  have q0 : dErr d = 0 := q0
  have lim : (x.waves.length > 24 ∨ x.suspects.length > 12) → (iv 2 : Value) = iv (evErr d x) := fun h => by unfold evErr; rw [if_neg (by simp [q0]), if_pos h]
  refine fldA ?_
  refine ld (.slice W1 m1 e1) (Bx3.cell rfl) ?_
  refine len ?_
  refine cD (fun q1 => ?_) (fun q1 => ?_)
  · exact ret1 (iv 2) rfl ⟨lim (.inl (by omega)), x03⟩
  refine fldA ?_
  refine ld (.slice S1 m2 e2) (Bx3.cell rfl) ?_
  refine len ?_
  refine cD (fun q2 => ?_) (fun q2 => ?_)
  · exact ret1 (iv 2) rfl ⟨lim (.inr (by omega)), x03⟩
  have q12 : ¬ (x.waves.length > 24 ∨ x.suspects.length > 12) := by omega
  have bad : (wavesB d (-1) x.waves && susB d (0, -1) x.suspects) = false → (iv 480 : Value) = iv (evErr d x) := fun h => by rw [evErr_480 q0 q12 h]
  refine fldA ?_
  refine ld (.slice W1 m1 e1) (Bx3.cell rfl) ?_
  refine len ?_
  refine loop2 (fun (k : Nat) (last : Int) => [(30, iv (k : Int)), (5, iv last)]) (fun k last u => k ≤ m1 ∧ Ext w3 u ∧ wavesB d (-1) x.waves = wavesB d last (x.waves.drop k)) (fun k _ _ => m1 - k) 0 (-1) ⟨rfl, rfl, trivial⟩ ⟨by omega, .refl _ _, rfl⟩ rfl ?_
  rintro G k last u ⟨hk, xu, hwb⟩
  have x0u := x03.trans xu
  refine cD (fun hlt => ?_) (fun hge => ?_)
  · have hlt : k < m1 := by omega
    obtain ⟨b, o, cs, v, rfl, hv, hdv, -, hc, hrep⟩ := (hw.ext x0u).at_ hlt
    obtain ⟨H1, h1', k1, O1, o1, k2, T1, t1, k3, rfl, hi64, sh, so, st⟩ := wv_open hrep
    rw [hdv] at hwb
    have bad2 : waveB d last v = false → (iv 480 : Value) = iv (evErr d x) := fun h => bad (by rw [hwb]; unfold wavesB; rw [h]; rfl)
    refine idx k rfl hlt ?_
    refine ldA _ hc rfl ?_
    refine alloc (fun t u1 h1'' => ?_)
    refine stA (vs := [iv v.hour, .slice H1 h1' k1, .slice O1 o1 k2, .slice T1 t1 k3]) h1''.blk rfl (Nat.le_of_ble_eq_true rfl) (by simp [Value.oneCell']) (fun u2 tb s2 zs => ?_)
    have t1' := h1''.at_
    have xu2 : Ext u u2 := h1''.ext.then s2 fun b hb _ e => by omega
    have tb : Blk u2 t 65 [iv v.hour, .slice H1 h1' k1, .slice O1 o1 k2, .slice T1 t1 k3] := tb
    have Bd2 := (Bd3.ext xu).ext xu2
    have x02 := x0u.trans xu2
    refine fldA ?_
    refine ld (iv v.hour) (tb.cell rfl) ?_
    refine cD (fun q => ?_) (fun p1 => ?_)
    · exact ret1 (iv 480) rfl ⟨bad2 (by unfold waveB; rw [decide_eq_false (by omega)]; rfl), x02⟩
    refine fldA ?_
    refine ld (iv v.hour) (tb.cell rfl) ?_
    refine fldA ?_
    refine ld (iv d.hours) (Bd2.cell rfl) ?_
    refine cD (fun q => ?_) (fun p2 => ?_)
    · exact ret1 (iv 480) rfl ⟨bad2 (by unfold waveB; rw [decide_eq_true (by omega), decide_eq_false (by omega)]; rfl), x02⟩
    refine fldA ?_
    refine ld (.slice H1 h1' k1) (tb.cell rfl) ?_
    refine fldA ?_
    refine ld (.slice A1 n1 c1) (Bd2.cell rfl) ?_
    refine len ?_
    refine callE (c_right48 (m := d.reaches.length) (sh.ext xu2) (by omega)) (fun u3 g3 x3' => ?_) (fun u3 g3 x3' => ?_)
    rotate_left
    · exact ret1 (iv 480) rfl ⟨bad2 (by unfold waveB; rw [g3, decide_eq_true (by omega), decide_eq_true (by omega)]; rfl), x02.trans x3'⟩
    refine fldA ?_
    refine ld (.slice O1 o1 k2) ((tb.ext x3').cell rfl) ?_
    refine fldA ?_
    refine ld (.slice A2 n2 c2) ((Bd2.ext x3').cell rfl) ?_
    refine len ?_
    refine callE (c_right48 (m := d.farms.length) ((so.ext xu2).ext x3') (by omega)) (fun u4 g4 x4' => ?_) (fun u4 g4 x4' => ?_)
    rotate_left
    · exact ret1 (iv 480) rfl ⟨bad2 (by unfold waveB; rw [g3, g4, decide_eq_true (by omega), decide_eq_true (by omega)]; rfl), (x02.trans x3').trans x4'⟩
    refine fldA ?_
    refine ld (.slice T1 t1 k3) (((tb.ext x3').ext x4').cell rfl) ?_
    refine fldA ?_
    refine ld (.slice A1 n1 c1) (((Bd2.ext x3').ext x4').cell rfl) ?_
    refine len ?_
    refine callE (c_right48 (m := d.reaches.length) (((st.ext xu2).ext x3').ext x4') (by omega)) (fun u5 g5 x5' => ?_) (fun u5 g5 x5' => ?_)
    rotate_left
    · exact ret1 (iv 480) rfl ⟨bad2 (by unfold waveB; rw [g3, g4, g5, decide_eq_true (by omega), decide_eq_true (by omega)]; rfl), ((x02.trans x3').trans x4').trans x5'⟩
    have x25 := (x3'.trans x4').trans x5'
    refine fldA ?_
    refine ld (iv v.hour) ((tb.ext x25).cell rfl) ?_
    refine arI (by omega) ?_
    refine next2 (k + 1) v.hour ⟨rfl, rfl, trivial⟩ ⟨by omega, (xu.trans xu2).trans x25, ?_⟩ (by omega)
    rw [hwb]
    show (waveB d last v && wavesB d v.hour (x.waves.drop (k + 1))) = _
    unfold waveB
    rw [g3, g4, g5, decide_eq_true (by omega), decide_eq_true (by omega)]; rfl
  have hwt : wavesB d (-1) x.waves = true := by rw [hwb, List.drop_eq_nil_of_le (by omega)]; rfl
  clear hwb
  rw [hwt, Bool.true_and] at bad
  have Bdu := Bd3.ext xu
  have Bxu := Bx3.ext xu
  refine mmap (fun gm v1 hgm hv1 => ?_)
  have xv1 : Ext u v1 := by rw [hv1]; exact Kept.alloc _ _ _
  have M1 : MapFn .i64 v1 gm (fun _ => none) := by rw [hv1, hgm]; exact MapFn.new .i64 u
  have Bd1 := Bdu.ext xv1
  have Bx1 := Bxu.ext xv1
  have lbd := Bdu.lt
  have lbx := Bxu.lt
  refine fldA ?_
  refine ld (.slice A1 n1 c1) (Bd1.cell rfl) ?_
  refine len ?_
  refine mupd M1 (fun v2 M2 k2 z2 => ?_)
  refine fldA ?_
  refine ld (.slice A2 n2 c2) ((Bd1.kept k2 (by omega)).cell rfl) ?_
  refine len ?_
  refine mupd M2 (fun v3 M3 k3 z3 => ?_)
  refine fldA ?_
  refine ld (.slice A1 n1 c1) (((Bd1.kept k2 (by omega)).kept k3 (by omega)).cell rfl) ?_
  refine len ?_
  refine mupd M3 (fun v4 M4 k4 z4 => ?_)
  refine fldA ?_
  refine ld (.slice A1 n1 c1) ((((Bd1.kept k2 (by omega)).kept k3 (by omega)).kept k4 (by omega)).cell rfl) ?_
  refine len ?_
  refine mupd M4 (fun v5 M5 k5 z5 => ?_)
  have M5 : MapFn .i64 v5 gm (fset (fset (fset (fset (fun _ => none) 1 (iv (n1 : Int))) 2 (iv (n2 : Int))) 3 (iv (n1 : Int))) 4 (iv (n1 : Int))) := M5
  have xu5 : Ext u v5 := (((xv1.then k2 fun b hb _ => by omega).then k3 fun b hb _ => by omega).then k4 fun b hb _ => by omega).then k5 fun b hb _ => by omega
  have Bx5 := Bxu.ext xu5
  refine bld [iv 0, iv (-1)] (by kernel_rfl) ?_
  refine alloc (fun q v6 h6 => ?_)
  refine stA (vs := [iv 0, iv (-1)]) h6.blk rfl (Nat.le_of_ble_eq_true rfl) (by simp [Value.oneCell']) (fun v7 b7 k7 z7 => ?_)
  have b7 : Blk v7 q 108 [iv 0, iv (-1)] := b7
  have a6 := h6.at_
  have s6 := h6.size
  have su5 := xu5.size
  have x57 : Ext v5 v7 := h6.ext.then k7 fun b hb _ => by omega
  have x07 := (x0u.trans xu5).trans x57
  have M7 := M5.kept x57 trivial
  have lgm := M5.lt
  have Bx7 := Bx5.ext x57
  refine fldA ?_
  refine ld (.slice S1 m2 e2) (Bx7.cell rfl) ?_
  refine len ?_
  refine loop_rule (fun k : Nat => [(93, iv (k : Int))]) (fun k z => k ≤ m2 ∧ Kept (fun b => b ≠ q) v7 z ∧ ∃ b : Int × Int, Blk z q 108 [iv b.1, iv b.2] ∧ susB d (0, -1) x.suspects = susB d b (x.suspects.drop k)) (fun k _ => m2 - k) 0 ⟨rfl, trivial⟩ ⟨by omega, .refl _ _, (0, -1), b7, rfl⟩ rfl ?_
  rintro G3 j z ⟨hj, kz, bf, bz, hsb⟩
  have x5z : Ext v5 z := x57.then kz fun b hb _ e => by omega
  have x0z := (x0u.trans xu5).trans x5z
  refine cD (fun hlt => ?_) (fun hge => ?_)
  rotate_left
  · have hst : susB d (0, -1) x.suspects = true := by rw [hsb, List.drop_eq_nil_of_le (by omega)]; rfl
    exact ret1 (iv 0) rfl ⟨by unfold evErr; rw [if_neg (by simp [q0]), if_neg q12, hwt, hst]; rfl, x0z⟩
  have hlt : j < m2 := by omega
  obtain ⟨b, o, cs, s, rfl, hsv, hds, -, hc, rfl⟩ := (hs.ext x0z).at_ hlt
  rw [hds] at hsb
  have bad3 : suB d bf s = false → (iv 480 : Value) = iv (evErr d x) := fun h => bad (by rw [hsb]; unfold susB; rw [h]; rfl)
  refine idx j rfl hlt ?_
  refine ldA s.c hc rfl ?_
  refine alloc (fun t z1 h1'' => ?_)
  refine stA (vs := s.c) h1''.blk rfl (Nat.le_of_ble_eq_true rfl) (by simp [Value.oneCell']) (fun z2 tb s2 zs => ?_)
  have t1' := h1''.at_
  have xz2 : Ext z z2 := h1''.ext.then s2 fun b hb _ e => by omega
  have tb : Blk z2 t 110 s.c := tb
  have bz2 := bz.ext xz2
  have bzl := bz.lt
  have x02 := x0z.trans xz2
  have Mz := (M5.kept x5z trivial).kept xz2 trivial
  refine fldA ?_
  refine ld (iv s.index) (tb.cell rfl) ?_
  refine cD (fun q => ?_) (fun p1 => ?_)
  · exact ret1 (iv 480) rfl ⟨bad3 (by unfold suB; rw [decide_eq_false (by omega)]; rfl), x02⟩
  refine fldA ?_
  refine ld (iv s.index) (tb.cell rfl) ?_
  refine fldA ?_
  refine ld (iv s.kind) (tb.cell rfl) ?_
  refine look1 (f := fset (fset (fset (fset (fun _ => none) 1 (iv (n1 : Int))) 2 (iv (n2 : Int))) 3 (iv (n1 : Int))) 4 (iv (n1 : Int))) (iv (manyN d s.kind)) (fun y hy => by subst hy; exact Mz) (by rw [fset_many]; unfold manyN; rw [ln, lf]) ?_
  refine cD (fun q => ?_) (fun p2 => ?_)
  · exact ret1 (iv 480) rfl ⟨bad3 (by unfold suB; rw [decide_eq_true (by omega), decide_eq_false (by omega)]; rfl), x02⟩
  have pre : ∀ e, suB d bf s = (inI s.most 1 1073741824 && e) → suB d bf s = (inI s.most 1 1073741824 && e) := fun _ h => h
  refine fldA ?_
  refine ld (iv s.most) (tb.cell rfl) ?_
  refine cD (fun q => ?_) (fun p3 => ?_)
  · exact ret1 (iv 480) rfl ⟨bad3 (by
      cases h : suB d bf s with
      | false => rfl
      | true => unfold suB at h; simp only [Bool.and_eq_true, inI_iff] at h; omega), x02⟩
  refine fldA ?_
  refine ld (iv s.most) (tb.cell rfl) ?_
  refine cD (fun q => ?_) (fun p4 => ?_)
  · exact ret1 (iv 480) rfl ⟨bad3 (by
      cases h : suB d bf s with
      | false => rfl
      | true => unfold suB at h; simp only [Bool.and_eq_true, inI_iff] at h; omega), x02⟩
  refine fldA ?_
  refine ld (iv s.kind) (tb.cell rfl) ?_
  refine fldA ?_
  refine ld (iv bf.1) (bz2.cell rfl) ?_
  refine cD (fun q => ?_) (fun p5 => ?_)
  · exact ret1 (iv 480) rfl ⟨bad3 (by
      cases h : suB d bf s with
      | false => rfl
      | true => unfold suB at h; simp only [Bool.and_eq_true, Bool.or_eq_true, decide_eq_true_eq] at h; omega), x02⟩
  have ok : (bf.1 < s.kind ∨ (bf.1 = s.kind ∧ bf.2 < s.index)) → suB d bf s = true := fun h => by
    unfold suB
    simp only [Bool.and_eq_true, Bool.or_eq_true, decide_eq_true_eq, inI_iff]
    exact ⟨by omega, by omega, ⟨by omega, by omega⟩, h⟩
  refine fldA ?_
  refine ld (iv s.kind) (tb.cell rfl) ?_
  refine fldA ?_
  refine ld (iv bf.1) (bz2.cell rfl) ?_
  refine cD (fun p6 => ?_) (fun p6 => ?_)
  · refine fldA ?_
    refine ld (iv s.index) (tb.cell rfl) ?_
    refine fldA ?_
    refine ld (iv bf.2) (bz2.cell rfl) ?_
    refine cD (fun p7 => ?_) (fun p7 => ?_)
    · exact ret1 (iv 480) rfl ⟨bad3 (by
        cases h : suB d bf s with
        | false => rfl
        | true => unfold suB at h; simp only [Bool.and_eq_true, Bool.or_eq_true, decide_eq_true_eq] at h; omega), x02⟩
    have hok := ok (.inr ⟨by omega, by omega⟩)
    refine fldA ?_
    refine ld (iv s.kind) (tb.cell rfl) ?_
    refine fldA ?_
    refine ld (iv s.index) (tb.cell rfl) ?_
    refine bld [iv s.kind, iv s.index] (by kernel_rfl) ?_
    refine stA (vs := [iv s.kind, iv s.index]) bz2 rfl (Nat.le_of_ble_eq_true rfl) (by simp [Value.oneCell']) (fun z3 b3 k3 z3' => ?_)
    refine arI (by omega) ?_
    refine next (j + 1) ⟨rfl, trivial⟩ ⟨by omega, (kz.ext xz2).trans k3, (s.kind, s.index), b3, ?_⟩ (by omega)
    rw [hsb]
    show (suB d bf s && susB d (s.kind, s.index) (x.suspects.drop (j + 1))) = _
    rw [hok]; rfl
  · have hok := ok (.inl (by omega))
    refine fldA ?_
    refine ld (iv s.kind) (tb.cell rfl) ?_
    refine fldA ?_
    refine ld (iv s.index) (tb.cell rfl) ?_
    refine bld [iv s.kind, iv s.index] (by kernel_rfl) ?_
    refine stA (vs := [iv s.kind, iv s.index]) bz2 rfl (Nat.le_of_ble_eq_true rfl) (by simp [Value.oneCell']) (fun z3 b3 k3 z3' => ?_)
    refine arI (by omega) ?_
    refine next (j + 1) ⟨rfl, trivial⟩ ⟨by omega, (kz.ext xz2).trans k3, (s.kind, s.index), b3, ?_⟩ (by omega)
    rw [hsb]
    show (suB d bf s && susB d (s.kind, s.index) (x.suspects.drop (j + 1))) = _
    rw [hok]; rfl
end
end Go.Proofs.YtcpdhclnmjfldaaGreatDoor

/- Layer 48: contracts of ask, meter. -/
namespace Go.Proofs.YtcpdhclnmjfldaaGreatDoor
open Go Go.RowKit

/-! ### suspects, plainly -/
def lexLt (a b : Int × Int) : Prop := a.1 < b.1 ∨ (a.1 = b.1 ∧ a.2 < b.2)
abbrev suKey (s : Su) : Int × Int := (s.kind, s.index)
theorem suB_iff {d : Dist} {b : Int × Int} {s : Su} : suB d b s = true ↔ (0 ≤ s.index ∧ s.index < manyN d s.kind) ∧ (1 ≤ s.most ∧ s.most ≤ 1073741824) ∧ lexLt b (suKey s) := by
  unfold suB lexLt
  simp only [Bool.and_eq_true, Bool.or_eq_true, decide_eq_true_eq, inI_iff]
  exact ⟨fun ⟨h1, h2, h3, h4⟩ => ⟨⟨h1, h2⟩, h3, h4⟩, fun ⟨⟨h1, h2⟩, h3, h4⟩ => ⟨h1, h2, h3, h4⟩⟩
theorem lexLt.trans {a b c : Int × Int} (h : lexLt a b) (k : lexLt b c) : lexLt a c := by unfold lexLt at *; omega
theorem sus_pair {d : Dist} : ∀ {l : List Su} {b : Int × Int}, susB d b l = true → (∀ s ∈ l, lexLt b (suKey s) ∧ (0 ≤ s.index ∧ s.index < manyN d s.kind) ∧ 1 ≤ s.most ∧ s.most ≤ 1073741824) ∧ l.Pairwise fun s t => lexLt (suKey s) (suKey t)
  | [], _, _ => ⟨fun s h => (by cases h), .nil⟩
  | s :: r, b, h => by
    unfold susB at h
    rw [Bool.and_eq_true] at h
    obtain ⟨h1, h2, h3⟩ := suB_iff.1 h.1
    obtain ⟨k1, k2⟩ := sus_pair h.2
    refine ⟨fun t ht => ?_, List.pairwise_cons.2 ⟨fun t ht => (k1 t ht).1, k2⟩⟩
    rcases List.mem_cons.1 ht with rfl | ht
    · exact ⟨h3, h1, h2⟩
    · exact ⟨h3.trans (k1 t ht).1, (k1 t ht).2⟩
theorem sus_ne {d : Dist} {x : Ev} (h : susB d (0, -1) x.suspects = true) {i j : Nat} (hij : i < j) (hj : j < x.suspects.length) : suKey (suE x i) ≠ suKey (suE x j) := by
  have hp := (sus_pair h).2
  rw [List.pairwise_iff_getElem] at hp
  have := hp i j (by omega) hj hij
  unfold suE
  rw [List.getD_eq_getElem?_getD, List.getD_eq_getElem?_getD, List.getElem?_eq_getElem (by omega), List.getElem?_eq_getElem hj]
  simp only [Option.getD_some]
  intro e
  rw [e] at this
  unfold lexLt at this
  omega
theorem blF_nil {x : Ev} : blF x [] = fun _ => none := rfl
theorem blF_app {x : Ev} {l : List Int} {i : Int} (key : Int × Int) (h : blF x l (suKey (suAt x i)) = none) : blF x (l ++ [i]) key = if key = suKey (suAt x i) then some (suAt x i).most else blF x l key := by
  unfold blF at *
  rw [List.findSome?_append]
  by_cases e : key = suKey (suAt x i)
  · subst e
    rw [if_pos rfl, h, Option.none_or, List.findSome?_cons]
    simp
  · rw [if_neg e]
    have : [i].findSome? (fun i => if ((suAt x i).kind, (suAt x i).index) = key then some (suAt x i).most else none) = none := by
      rw [List.findSome?_cons, if_neg (fun e2 => e e2.symm)]; rfl
    rw [this]
    cases l.findSome? _ <;> rfl
theorem blF_none {x : Ev} {l : List Int} {key : Int × Int} (h : ∀ i ∈ l, suKey (suAt x i) ≠ key) : blF x l key = none := by
  unfold blF
  rw [List.findSome?_eq_none_iff]
  intro i hi
  rw [if_neg (h i hi)]
theorem blF_some {x : Ev} {l : List Int} {key : Int × Int} {n : Int} (h : blF x l key = some n) : ∃ i ∈ l, suKey (suAt x i) = key ∧ n = (suAt x i).most := by
  unfold blF at h
  obtain ⟨i, hi, h2⟩ := List.exists_of_findSome?_eq_some h
  by_cases e : ((suAt x i).kind, (suAt x i).index) = key
  · rw [if_pos e] at h2; injection h2 with h2; exact ⟨i, hi, e, h2.symm⟩
  · rw [if_neg e] at h2; cases h2
theorem askErr_ok {d : Dist} {x : Ev} {set : List Int} : askErr d x set = 0 ↔ evErr d x = 0 ∧ setB x.suspects.length (-1) set = true := by
  unfold askErr
  by_cases h : evErr d x = 0
  · rw [if_neg (by simp [h])]
    cases hs : setB x.suspects.length (-1) set <;> simp [h]
  · rw [if_pos h]; simp [h]
theorem evErr_ok {d : Dist} {x : Ev} (h : evErr d x = 0) : dErr d = 0 ∧ x.waves.length ≤ 24 ∧ x.suspects.length ≤ 12 ∧ wavesB d (-1) x.waves = true ∧ susB d (0, -1) x.suspects = true := by
  unfold evErr at h
  by_cases h0 : dErr d = 0
  · rw [if_neg (by simp [h0])] at h
    by_cases h1 : x.waves.length > 24 ∨ x.suspects.length > 12
    · rw [if_pos h1] at h; cases h
    · rw [if_neg h1] at h
      cases h2 : (wavesB d (-1) x.waves && susB d (0, -1) x.suspects) with
      | false => rw [h2] at h; cases h
      | true => rw [Bool.and_eq_true] at h2; exact ⟨h0, by omega, by omega, h2.1, h2.2⟩
  · rw [if_pos h0] at h; exact absurd h h0
/-- The map of who is to blame. -/
noncomputable def blM (x : Ev) (set : List Int) (key : Int × Int) : Option Value := (blF x set key).map fun n => iv n
theorem keyS : ∃ f0 f1, KeyS Tryz.prog 108 3 f0 f1 := ⟨_, _, ⟨Tryz.underlying108, rfl, rfl, rfl, rfl, by decide, by decide, by kernel_rfl, fun _ _ _ _ => by kernel_rfl⟩⟩
instance : KeyL Tryz.prog 108 kv2 := by
  obtain ⟨_, _, h⟩ := keyS
  exact h.law

section
variable {D : Nat → Prop} {w : World}
set_option maxRecDepth 8000 in
theorem c_ask {csd csx : List Value} {d : Dist} {x : Ev} {set : List Int} {A : Option Addr} {n c : Nat} (hd : DiR D w csd d) (hx : EvR D w csx x) (hset : SlR tInt D w A n set) : CallZ Tryz.prog 42 #[.agg csd.toArray, .agg csx.toArray, .slice A n c] w
    (fun v w' => Ext w w' ∧ ∃ q, v = .tuple #[q, iv (askErr d x set)] ∧ (∃ cs : List Value, q = .agg cs.toArray ∧ cs.length = 13 ∧ ∀ y ∈ cs, y.oneCell' = true) ∧ (askErr d x set = 0 → ∃ g, q = .agg (csd ++ (csx ++ [Value.map (some g)])).toArray ∧ MapG kv2 w' g (blM x set) ∧ w.heap.size ≤ g)) := by
  have hd := hd.more (D' := fun b => b < w.heap.size) fun b hb _ => hb
  have hx := hx.more (D' := fun b => b < w.heap.size) fun b hb _ => hb
  obtain ⟨A1, n1, c1, A2, n2, c2, A3, n3, c3, A4, n4, c4, A5, n5, c5, A6, n6, c6, rfl, hr, hfa, -⟩ := hd.ex
  obtain ⟨W1, m1, e1, S1, m2, e2, rfl, hw, hs, -⟩ := hx.ex
  have ls := hs.len
  have lse := hset.len
  have lbe := hset.le
  refine fn_rule (args := [.agg #[.string d.name, iv d.hours, iv d.cap, iv d.start, .slice A1 n1 c1, .slice A2 n2 c2, .slice A3 n3 c3, .slice A4 n4 c4, .slice A5 n5 c5, .slice A6 n6 c6], .agg #[.slice W1 m1 e1, .slice S1 m2 e2], .slice A n c]) Tryz.func42 (by kernel_rfl) ?_
  refine box (fun bd w1 h1 => ?_)
  refine box (fun bx w2 h2 => ?_)
  refine alloc (fun bq w3 h3 => ?_)
  have x3 := (h1.ext.trans h2.ext).trans h3.ext
  have Bd : Blk w3 bd 31 [.string d.name, iv d.hours, iv d.cap, iv d.start, .slice A1 n1 c1, .slice A2 n2 c2, .slice A3 n3 c3, .slice A4 n4 c4, .slice A5 n5 c5, .slice A6 n6 c6] := (h1.blk.ext h2.ext).ext h3.ext
  have Bx : Blk w3 bx 35 [.slice W1 m1 e1, .slice S1 m2 e2] := h2.blk.ext h3.ext
  have Bq : Blk w3 bq 113 [.string ByteArray.empty, iv 0, iv 0, iv 0, .slice none 0 0, .slice none 0 0, .slice none 0 0, .slice none 0 0, .slice none 0 0, .slice none 0 0, .slice none 0 0, .slice none 0 0, .map none] := h3.blk
  have a1 := h1.at_
  have a2 := h2.at_
  have a3 := h3.at_
  have s1 := h1.size
  have s2 := h2.size
  have s3 := h3.size
  refine ldA _ (.blk Bd) rfl ?_
  refine ldA _ (.blk Bx) rfl ?_
  refine call_of (c_eCheck48 (hd.ext x3) (hx.ext x3)) ?_
  rintro _ w4 ⟨rfl, x4⟩
  have x04 := x3.trans x4
  have Bq4 := Bq.ext x4
  have s4 := x4.size
  refine cN (fun q0 => ?_) (fun q0 => ?_)
  · refine ldA _ (.blk Bq4) rfl ?_
    refine stA (vs := [.string ByteArray.empty, iv 0, iv 0, iv 0, .slice none 0 0, .slice none 0 0, .slice none 0 0, .slice none 0 0, .slice none 0 0, .slice none 0 0, .slice none 0 0, .slice none 0 0, .map none]) Bq4 rfl (Nat.le_of_ble_eq_true rfl) (by simp [Value.oneCell']) (fun w5 b5 k5 s5 => ?_)
    have b5 : Blk w5 bq 113 [.string ByteArray.empty, iv 0, iv 0, iv 0, .slice none 0 0, .slice none 0 0, .slice none 0 0, .slice none 0 0, .slice none 0 0, .slice none 0 0, .slice none 0 0, .slice none 0 0, .map none] := b5
    refine ret ?_
    refine resL _ (holds_agg (CellsAt.blk b5) rfl) ?_
    have e : askErr d x set = evErr d x := by unfold askErr; rw [if_pos q0]
    exact ⟨x04.then k5 fun b hb _ => by omega, _, by rw [e]; rfl, ⟨_, rfl, rfl, by simp [Value.oneCell']⟩, fun h => absurd (e ▸ h) q0⟩
  have q0 : evErr d x = 0 := q0
  obtain ⟨-, -, hS12, -, hsus⟩ := evErr_ok q0
  refine ldA _ (.blk (Bd.ext x4)) rfl ?_
  refine ldA _ (.blk (Bx.ext x4)) rfl ?_
  refine mmap (fun gm w5 hgm hw5 => ?_)
  have x45 : Ext w4 w5 := by rw [hw5]; exact Kept.alloc _ _ _
  have M5 : MapG kv2 w5 gm (fun _ => none) := by rw [hw5, hgm]; exact MapG.new kv2 w4
  have gl := M5.lt
  refine bld [.string d.name, iv d.hours, iv d.cap, iv d.start, .slice A1 n1 c1, .slice A2 n2 c2, .slice A3 n3 c3, .slice A4 n4 c4, .slice A5 n5 c5, .slice A6 n6 c6, .slice W1 m1 e1, .slice S1 m2 e2, .map (some gm)] (by kernel_rfl) ?_
  refine stA (vs := [.string d.name, iv d.hours, iv d.cap, iv d.start, .slice A1 n1 c1, .slice A2 n2 c2, .slice A3 n3 c3, .slice A4 n4 c4, .slice A5 n5 c5, .slice A6 n6 c6, .slice W1 m1 e1, .slice S1 m2 e2, .map (some gm)]) (Bq4.ext x45) rfl (Nat.le_of_ble_eq_true rfl) (by simp [Value.oneCell']) (fun w6 b6 k6 s6 => ?_)
  have b6 : Blk w6 bq 113 [.string d.name, iv d.hours, iv d.cap, iv d.start, .slice A1 n1 c1, .slice A2 n2 c2, .slice A3 n3 c3, .slice A4 n4 c4, .slice A5 n5 c5, .slice A6 n6 c6, .slice W1 m1 e1, .slice S1 m2 e2, .map (some gm)] := b6
  have s45 := x45.size
  have lq := Bq4.lt
  have x46 : Kept (fun b => b ≠ bq) w4 w6 := (Ext.any x45).then k6 fun b _ hb => hb
  have Bx6 := (Bx.ext x4).kept x46 (by omega)
  have M6 := M5.kept k6 (by omega)
  have x06 : Ext w w6 := x04.then x46 fun b hb _ => by omega
  refine len ?_
  refine loop2 (fun (k : Nat) (last : Int) => [(25, iv (k : Int)), (8, iv last)]) (fun k last u => k ≤ n ∧ Kept (fun b => b ≠ gm) w6 u ∧ setB x.suspects.length (-1) set = setB x.suspects.length last (set.drop k) ∧ -1 ≤ last ∧ last < 9223372036854775807 ∧ (∀ j ∈ set.take k, 0 ≤ j ∧ j ≤ last ∧ j < x.suspects.length) ∧ MapG kv2 u gm (blM x (set.take k))) (fun k _ _ => n - k) 0 (-1) ⟨rfl, rfl, trivial⟩
    ⟨by omega, .refl _ _, rfl, by omega, by omega, fun j h => by simp at h, M6⟩ rfl ?_
  rintro G k last u ⟨hk, ku, hsb, hl0, hl1, hall, Mu⟩
  have bqu := b6.kept ku (by omega)
  have Bxu := Bx6.kept ku (by omega)
  have lqu := bqu.lt
  have x0u : Ext w u := x06.then ku fun b hb _ => by omega
  refine cD (fun hlt => ?_) (fun hge => ?_)
  · have hlt : k < n := by omega
    obtain ⟨b, o, cs, i, rfl, hi, hdi, -, hc, rfl, hi64⟩ := (hset.ext x0u).at_ hlt
    rw [hdi] at hsb
    have err : ¬ (last < i ∧ i < x.suspects.length) → askErr d x set = 480 := fun h => by
      have hf : setB x.suspects.length (-1) set = false := by
        rw [hsb]; unfold setB
        by_cases h1 : last < i
        · rw [decide_eq_true h1, decide_eq_false (fun h2 => h ⟨h1, h2⟩)]; rfl
        · rw [decide_eq_false h1]; rfl
      unfold askErr
      rw [if_neg (by simp [q0]), hf, if_neg (by simp)]
    refine idx k rfl hlt ?_
    refine ld (iv i) (hc 0 _ rfl) ?_
    refine cD (fun q => ?_) (fun p1 => ?_)
    · refine ldA _ (.blk bqu) rfl ?_
      refine stA (vs := [.string d.name, iv d.hours, iv d.cap, iv d.start, .slice A1 n1 c1, .slice A2 n2 c2, .slice A3 n3 c3, .slice A4 n4 c4, .slice A5 n5 c5, .slice A6 n6 c6, .slice W1 m1 e1, .slice S1 m2 e2, .map (some gm)]) bqu rfl (Nat.le_of_ble_eq_true rfl) (by simp [Value.oneCell']) (fun u2 b2 k2 s2 => ?_)
      have b2 : Blk u2 bq 113 [.string d.name, iv d.hours, iv d.cap, iv d.start, .slice A1 n1 c1, .slice A2 n2 c2, .slice A3 n3 c3, .slice A4 n4 c4, .slice A5 n5 c5, .slice A6 n6 c6, .slice W1 m1 e1, .slice S1 m2 e2, .map (some gm)] := b2
      refine ret ?_
      refine resL _ (holds_agg (CellsAt.blk b2) rfl) ?_
      have e := err (by omega)
      exact ⟨x0u.then k2 fun b hb _ => by omega, _, by rw [e]; rfl, ⟨_, rfl, rfl, by simp [Value.oneCell']⟩, fun h => by rw [e] at h; cases h⟩
    refine fldA ?_
    refine ld (.slice S1 m2 e2) (Bxu.cell rfl) ?_
    refine len ?_
    refine cD (fun q => ?_) (fun p2 => ?_)
    · refine ldA _ (.blk bqu) rfl ?_
      refine stA (vs := [.string d.name, iv d.hours, iv d.cap, iv d.start, .slice A1 n1 c1, .slice A2 n2 c2, .slice A3 n3 c3, .slice A4 n4 c4, .slice A5 n5 c5, .slice A6 n6 c6, .slice W1 m1 e1, .slice S1 m2 e2, .map (some gm)]) bqu rfl (Nat.le_of_ble_eq_true rfl) (by simp [Value.oneCell']) (fun u2 b2 k2 s2 => ?_)
      have b2 : Blk u2 bq 113 [.string d.name, iv d.hours, iv d.cap, iv d.start, .slice A1 n1 c1, .slice A2 n2 c2, .slice A3 n3 c3, .slice A4 n4 c4, .slice A5 n5 c5, .slice A6 n6 c6, .slice W1 m1 e1, .slice S1 m2 e2, .map (some gm)] := b2
      refine ret ?_
      refine resL _ (holds_agg (CellsAt.blk b2) rfl) ?_
      have e := err (by omega)
      exact ⟨x0u.then k2 fun b hb _ => by omega, _, by rw [e]; rfl, ⟨_, rfl, rfl, by simp [Value.oneCell']⟩, fun h => by rw [e] at h; cases h⟩
    obtain ⟨iN, rfl⟩ : ∃ iN : Nat, i = (iN : Int) := ⟨i.toNat, by omega⟩
    have hiS : iN < m2 := by omega
    obtain ⟨bs', os, cs', s, rfl, hsv, -, -, hcs, rfl⟩ := (hs.ext x0u).at_ hiS
    have hse : suAt x (iN : Int) = s := by
      unfold suAt
      rw [Int.toNat_natCast, List.getD_eq_getElem?_getD, hsv]; rfl
    refine fldA ?_
    refine ld (.slice (some (ad bs' os)) m2 e2) (Bxu.cell rfl) ?_
    refine idx iN rfl hiS ?_
    refine ldA s.c hcs rfl ?_
    refine alloc (fun t u1 h1'' => ?_)
    refine stA (vs := s.c) h1''.blk rfl (Nat.le_of_ble_eq_true rfl) (by simp [Value.oneCell']) (fun u2 tb s2' zs => ?_)
    have t1' := h1''.at_
    have xu2 : Ext u u2 := h1''.ext.then s2' fun b hb _ e => by omega
    have tb : Blk u2 t 110 s.c := tb
    have M2 := Mu.kept xu2 trivial
    refine fldA ?_
    refine ld (.map (some gm)) ((bqu.ext xu2).cell rfl) ?_
    refine fldA ?_
    refine ld (iv s.kind) (tb.cell rfl) ?_
    refine fldA ?_
    refine ld (iv s.index) (tb.cell rfl) ?_
    refine bld [iv s.kind, iv s.index] (by kernel_rfl) ?_
    refine fldA ?_
    refine ld (iv s.most) (tb.cell rfl) ?_
    refine mupdG (kv := kv2) (s.kind, s.index) M2 (fun u3 M3 k3 z3 => ?_)
    refine arI (by omega) ?_
    have htk : set.take (k + 1) = set.take k ++ [(iN : Int)] := by rw [List.take_add_one, hi]; rfl
    refine next2 (k + 1) (iN : Int) ⟨rfl, rfl, trivial⟩ ⟨by omega, (ku.ext xu2).trans k3, ?_, by omega, by omega, fun j hj => ?_, ?_⟩ (by omega)
    · rw [hsb]
      show (decide (last < (iN : Int)) && (decide ((iN : Int) < x.suspects.length) && setB _ _ _)) = _
      rw [decide_eq_true (by omega), decide_eq_true (by omega)]; rfl
    · rw [htk, List.mem_append, List.mem_singleton] at hj
      rcases hj with hj | hj
      · have := hall j hj; omega
      · omega
    · have hno : blF x (set.take k) (suKey (suAt x (iN : Int))) = none := blF_none fun j hj => by
        obtain ⟨h1, h2, h3⟩ := hall j hj
        have := sus_ne hsus (i := j.toNat) (j := iN) (by omega) (by omega)
        exact this
      have e : blM x (set.take (k + 1)) = pset (blM x (set.take k)) (s.kind, s.index) (iv s.most) := by
        funext key
        unfold blM pset
        rw [htk, blF_app key hno, hse]
        by_cases e : key = suKey s
        · rw [if_pos e, if_pos e]; rfl
        · rw [if_neg e, if_neg e]
      rw [e]; exact M3
  · have hse : askErr d x set = 0 := askErr_ok.2 ⟨q0, by rw [hsb, List.drop_eq_nil_of_le (by omega)]; rfl⟩
    refine ldA _ (.blk bqu) rfl ?_
    refine stA (vs := [.string d.name, iv d.hours, iv d.cap, iv d.start, .slice A1 n1 c1, .slice A2 n2 c2, .slice A3 n3 c3, .slice A4 n4 c4, .slice A5 n5 c5, .slice A6 n6 c6, .slice W1 m1 e1, .slice S1 m2 e2, .map (some gm)]) bqu rfl (Nat.le_of_ble_eq_true rfl) (by simp [Value.oneCell']) (fun u2 b2 k2 s2 => ?_)
    have b2 : Blk u2 bq 113 [.string d.name, iv d.hours, iv d.cap, iv d.start, .slice A1 n1 c1, .slice A2 n2 c2, .slice A3 n3 c3, .slice A4 n4 c4, .slice A5 n5 c5, .slice A6 n6 c6, .slice W1 m1 e1, .slice S1 m2 e2, .map (some gm)] := b2
    refine ret ?_
    refine resL _ (holds_agg (CellsAt.blk b2) rfl) ?_
    rw [List.take_of_length_le (by omega)] at Mu
    exact ⟨x0u.then k2 fun b hb _ => by omega, _, by rw [hse]; rfl, ⟨_, rfl, rfl, by simp [Value.oneCell']⟩, fun _ => ⟨gm, rfl, Mu.kept k2 (by omega), by omega⟩⟩
theorem c_meter {csd csx : List Value} {d : Dist} {x : Ev} {g : Nat} {bl : Int × Int → Option Int} {kind index : Int} {y : Rg} (hd : DiR D w csd d) (hx : EvR D w csx x) (hm : MapG kv2 w g fun key => (bl key).map fun n => iv n) :
    CallZ Tryz.prog 71 #[.agg (csd ++ (csx ++ [Value.map (some g)])).toArray, iv kind, iv index, .agg y.c.toArray] w (fun v w' => v = .agg (meterV bl kind index y).c.toArray ∧ Ext w w') := by
  obtain ⟨A1, n1, c1, A2, n2, c2, A3, n3, c3, A4, n4, c4, A5, n5, c5, A6, n6, c6, rfl, -⟩ := hd.ex
  obtain ⟨W1, m1, e1, S1, m2, e2, rfl, -⟩ := hx.ex
  refine fn_rule (args := [.agg #[.string d.name, iv d.hours, iv d.cap, iv d.start, .slice A1 n1 c1, .slice A2 n2 c2, .slice A3 n3 c3, .slice A4 n4 c4, .slice A5 n5 c5, .slice A6 n6 c6, .slice W1 m1 e1, .slice S1 m2 e2, .map (some g)], iv kind, iv index, .agg #[iv y.lo, iv y.hi]]) Tryz.func71 (by kernel_rfl) ?_
  refine box (fun bq w1 h1 => ?_)
  refine box (fun by_ w2 h2 => ?_)
  refine alloc (fun br w3 h3 => ?_)
  have x3 := (h1.ext.trans h2.ext).trans h3.ext
  have Bq : Blk w3 bq 113 [.string d.name, iv d.hours, iv d.cap, iv d.start, .slice A1 n1 c1, .slice A2 n2 c2, .slice A3 n3 c3, .slice A4 n4 c4, .slice A5 n5 c5, .slice A6 n6 c6, .slice W1 m1 e1, .slice S1 m2 e2, .map (some g)] := (h1.blk.ext h2.ext).ext h3.ext
  have By : Blk w3 by_ 139 [iv y.lo, iv y.hi] := h2.blk.ext h3.ext
  have Br : Blk w3 br 139 [iv 0, iv 0] := h3.blk
  have M3 := hm.kept x3 trivial
  have a3 := h3.at_
  have s1 := h1.ext.size
  have s2 := h2.ext.size
  refine fldA ?_
  refine ld (.map (some g)) (Bq.cell rfl) ?_
  refine bld [iv kind, iv index] (by kernel_rfl) ?_
  refine lookG2 (kv := kv2) (kind, index) ((bl (kind, index)).map fun n => iv n) (fun u hu => by subst hu; exact ⟨_, M3, rfl⟩) (fun v hv => ?_) (fun hv => ?_)
  · obtain ⟨n, hn, rfl⟩ : ∃ n, bl (kind, index) = some n ∧ v = iv n := by
      cases hb : bl (kind, index) with
      | none => rw [hb] at hv; cases hv
      | some n => rw [hb] at hv; injection hv with hv; exact ⟨n, rfl, hv.symm⟩
    refine fldA ?_
    refine ld (iv y.hi) (By.cell rfl) ?_
    refine bld [iv 0, iv (max n y.hi)] (by kernel_rfl) ?_
    refine stA (vs := [iv 0, iv (max n y.hi)]) Br rfl (Nat.le_of_ble_eq_true rfl) (by simp [Value.oneCell']) (fun w4 b4 k4 s4 => ?_)
    have b4 : Blk w4 br 139 [iv 0, iv (max n y.hi)] := b4
    refine ret ?_
    refine resL _ (holds_agg (CellsAt.blk b4) rfl) ?_
    exact ⟨by unfold meterV; rw [hn]; rfl, x3.then k4 fun b hb _ => by omega⟩
  · have hn : bl (kind, index) = none := by
      cases hb : bl (kind, index) with
      | none => rfl
      | some n => rw [hb] at hv; cases hv
    refine ldA _ (.blk By) rfl ?_
    refine stA (vs := [iv y.lo, iv y.hi]) Br rfl (Nat.le_of_ble_eq_true rfl) (by simp [Value.oneCell']) (fun w4 b4 k4 s4 => ?_)
    have b4 : Blk w4 br 139 [iv y.lo, iv y.hi] := b4
    refine ret ?_
    refine resL _ (holds_agg (CellsAt.blk b4) rfl) ?_
    exact ⟨by unfold meterV; rw [hn]; rfl, x3.then k4 fun b hb _ => by omega⟩
end
end Go.Proofs.YtcpdhclnmjfldaaGreatDoor

/- Layer 48: contract of parts: what leaves the end of a reach, handed to a yield one after the other. -/
namespace Go.Proofs.YtcpdhclnmjfldaaGreatDoor
open Go Go.RowKit

/-- A course's cells: the inquiry, the wave, the heads, the Truth. -/
abbrev crsC (csd csx cw : List Value) (gm bh t1 t2 t3 t4 t5 R F S : Nat) : List Value :=
  csd ++ (csx ++ (Value.map (some gm) :: (cw ++ [.slice (some (ad bh 0)) R R, .slice (some (ad t1 0)) R R, .slice (some (ad t2 0)) F F, .slice (some (ad t3 0)) R R, .slice (some (ad t4 0)) R R, .slice (some (ad t5 0)) S S])))
def dptr (t1 t2 t3 t5 : Nat) : Dst → Value
  | .tail r => .pointer (some (ad t3 (0 + r * 1)))
  | .head k => .pointer (some (ad t1 (0 + k * 1)))
  | .outlet k => .pointer (some (ad t2 (0 + k * 1)))
  | .taken i => .pointer (some (ad t5 (0 + i * 1)))
/-- What parts reads. -/
structure CrsR (D : Nat → Prop) (u : World) (bc gm bh t1 t2 t3 t4 t5 : Nat) (csd csx cw : List Value) (d : Dist) (x : Ev) (bl : Int × Int → Option Int) (v : Wv) (hl : List Rg) : Prop where
  hd : DiR D u csd d
  hx : EvR D u csx x
  hw : tWv.rep D u cw v
  map : MapG kv2 u gm fun key => (bl key).map fun n => iv n
  blk : Blk u bc 145 (crsC csd csx cw gm bh t1 t2 t3 t4 t5 d.reaches.length d.farms.length x.suspects.length)
  heads : SlR tRg D u (some (ad bh 0)) d.reaches.length hl
  dm : D gm
  dc : D bc
theorem CrsR.kept {D D' : Nat → Prop} {u u' : World} {bc gm bh t1 t2 t3 t4 t5 : Nat} {csd csx cw : List Value} {d : Dist} {x : Ev} {bl : Int × Int → Option Int} {v : Wv} {hl : List Rg} (h : CrsR D u bc gm bh t1 t2 t3 t4 t5 csd csx cw d x bl v hl) (k : Kept D' u u') (hD : ∀ b, b < u.heap.size → D b → D' b) : CrsR D u' bc gm bh t1 t2 t3 t4 t5 csd csx cw d x bl v hl :=
  ⟨h.hd.kept k hD, h.hx.kept k hD, tWv.keep (fun b hb hDb => k.blk b hb (hD b hb hDb)) h.hw, h.map.kept k (hD _ h.map.lt h.dm), h.blk.kept k (hD _ h.blk.lt h.dc), h.heads.kept k hD, h.dm, h.dc⟩

section
variable {d : Dist} {x : Ev} {bl : Int × Int → Option Int} {v : Wv} {f : Nat → Rg} {r : Nat}
theorem range_split {α : Type} (q : Nat → Bool) (c : Nat → α) {k n : Nat} (h : k ≤ n) : ∃ rest, ((List.range n).filter q).map c = ((List.range k).filter q).map c ++ rest := by
  induction n with
  | zero => obtain rfl : k = 0 := by omega
            exact ⟨[], by simp⟩
  | succ n ih =>
    by_cases e : k = n + 1
    · subst e; exact ⟨[], by simp⟩
    · obtain ⟨rest, hr⟩ := ih (by omega)
      refine ⟨rest ++ (([n].filter q).map c), ?_⟩
      rw [List.range_succ, List.filter_append, List.map_append, hr, List.append_assoc]
theorem range_snoc {α : Type} (q : Nat → Bool) (c : Nat → α) (k : Nat) : ((List.range (k + 1)).filter q).map c = ((List.range k).filter q).map c ++ if q k then [c k] else [] := by
  rw [List.range_succ, List.filter_append, List.map_append]
  by_cases h : q k
  · rw [if_pos h, List.filter_cons_of_pos h]; rfl
  · rw [if_neg h, List.filter_cons_of_neg h]; rfl
theorem headP_snoc (k : Nat) : headP d f r (k + 1) = headP d f r k ++ if (rcE d k).up = (r : Int) then [(f k, .head k)] else [] := by
  unfold headP; rw [range_snoc]; simp only [decide_eq_true_eq]
theorem outP_snoc (k : Nat) : outP d bl v r (k + 1) = outP d bl v r k ++ if (fmE d k).reach = (r : Int) then [(meterV bl 2 k (v.outlets.getD k g0), .outlet k)] else [] := by
  unfold outP; rw [range_snoc]; simp only [decide_eq_true_eq]
theorem pumpP_snoc (k : Nat) : pumpP x bl r (k + 1) = pumpP x bl r k ++ if (suE x k).kind = 4 ∧ (suE x k).index = (r : Int) then [(meterV bl 4 r g0, .taken k)] else [] := by
  unfold pumpP; rw [range_snoc]; simp only [Bool.and_eq_true, decide_eq_true_eq]
theorem split_head {k : Nat} (hk : k < d.reaches.length) (h : (rcE d k).up = (r : Int)) : ∃ rest, partsL d x bl v f r = (tailP bl v r ++ headP d f r k) ++ (f k, .head k) :: rest := by
  obtain ⟨rest, hr⟩ := range_split (fun k : Nat => decide ((rcE d k).up = (r : Int))) (fun k : Nat => (f k, Dst.head k)) (show k + 1 ≤ d.reaches.length by omega)
  refine ⟨rest ++ (outP d bl v r d.farms.length ++ pumpP x bl r x.suspects.length), ?_⟩
  have e : headP d f r d.reaches.length = headP d f r (k + 1) ++ rest := hr
  unfold partsL
  rw [e, headP_snoc, if_pos h]; simp
theorem split_out {k : Nat} (hk : k < d.farms.length) (h : (fmE d k).reach = (r : Int)) : ∃ rest, partsL d x bl v f r = (tailP bl v r ++ (headP d f r d.reaches.length ++ outP d bl v r k)) ++ (meterV bl 2 k (v.outlets.getD k g0), .outlet k) :: rest := by
  obtain ⟨rest, hr⟩ := range_split (fun k : Nat => decide ((fmE d k).reach = (r : Int))) (fun k : Nat => (meterV bl 2 k (v.outlets.getD k g0), Dst.outlet k)) (show k + 1 ≤ d.farms.length by omega)
  refine ⟨rest ++ pumpP x bl r x.suspects.length, ?_⟩
  have e : outP d bl v r d.farms.length = outP d bl v r (k + 1) ++ rest := hr
  unfold partsL
  rw [e, outP_snoc, if_pos h]; simp
theorem split_pump {k : Nat} (hk : k < x.suspects.length) (h : (suE x k).kind = 4 ∧ (suE x k).index = (r : Int)) : ∃ rest, partsL d x bl v f r = (tailP bl v r ++ (headP d f r d.reaches.length ++ (outP d bl v r d.farms.length ++ pumpP x bl r k))) ++ (meterV bl 4 r g0, .taken k) :: rest := by
  obtain ⟨rest, hr⟩ := range_split (fun i : Nat => decide ((suE x i).kind = 4) && decide ((suE x i).index = (r : Int))) (fun i : Nat => (meterV bl 4 r g0, Dst.taken i)) (show k + 1 ≤ x.suspects.length by omega)
  refine ⟨rest, ?_⟩
  have e : pumpP x bl r x.suspects.length = pumpP x bl r (k + 1) ++ rest := hr
  unfold partsL
  rw [e, pumpP_snoc, if_pos h]; simp
end
section
variable {w : World}
theorem c_parts {bc r : Nat} : CallZ Tryz.prog 85 #[ptr bc, iv (r : Int)] w (fun u w' => ∃ b1 b2, u = .func (.func 93) #[] #[ptr b1, ptr b2] ∧ Ext w w' ∧ Blk w' b1 117 [ptr bc] ∧ Blk w' b2 3 [iv (r : Int)] ∧ w.heap.size ≤ b1 ∧ w.heap.size ≤ b2) := by
  refine fn_rule (args := [ptr bc, iv (r : Int)]) Tryz.func85 (by kernel_rfl) ?_
  refine box (fun b1 w1 h1 => ?_)
  refine box (fun b2 w2 h2 => ?_)
  have e1 := h1.at_
  have e2 := h2.at_
  have s1 := h1.size
  exact ret1 (.func (.func 93) #[] #[ptr b1, ptr b2]) rfl ⟨b1, b2, rfl, h1.ext.trans h2.ext, h1.blk.ext h2.ext, h2.blk, by omega, by omega⟩
set_option maxRecDepth 8000 in
theorem c_parts1 {D : Nat → Prop} {l b1 b2 r bc gm bh t1 t2 t3 t4 t5 : Nat} {csd csx cw : List Value} {d : Dist} {x : Ev} {bl : Int × Int → Option Int} {v : Wv} {hl : List Rg} (J : List (Rg × Dst) → World → Prop)
    (hJ : ∀ pre u u', J pre u → Ext u u' → J pre u') (hD : ∀ b, w.heap.size ≤ b → D b)
    (hstep : ∀ pre p rest u, partsL d x bl v (fun k => hl.getD k g0) r = pre ++ p :: rest → J pre u → Kept D w u → YieldP Tryz.prog l [.agg #[iv p.1.lo, iv p.1.hi, dptr t1 t2 t3 t5 p.2]].toArray (fun y w' => y = .bool true ∧ J (pre ++ [p]) w' ∧ Kept D u w') u)
    (hc : CrsR D w bc gm bh t1 t2 t3 t4 t5 csd csx cw d x bl v hl) (hb1 : Blk w b1 117 [ptr bc]) (hb2 : Blk w b2 3 [iv (r : Int)]) (hD1 : D b1) (hD2 : D b2) (hr : r < d.reaches.length)
    (hlo : v.outlets.length = d.farms.length) (hlt : v.tails.length = d.reaches.length) (h0 : J [] w) :
    CallZ Tryz.prog 93 #[.func (.yield l) #[] #[], ptr b1, ptr b2] w (fun _ w' => J (partsL d x bl v (fun k => hl.getD k g0) r) w' ∧ Kept D w w') := by
  obtain ⟨A1, n1, c1, A2, n2, c2, A3, n3, c3, A4, n4, c4, A5, n5, c5, A6, n6, c6, rfl, hrr, hfa, -⟩ := hc.hd.ex
  obtain ⟨W1, m1, e1, S1, m2, e2, rfl, -, hsu, -⟩ := hc.hx.ex
  obtain ⟨H1, h1, k1, O1, o1, k2, T1, g1, k3, rfl, -, sh, so, st⟩ := wv_open hc.hw
  have ln := hrr.len
  have lf := hfa.len
  have ls := hsu.len
  have lo := so.len
  have lt := st.len
  have lh := hc.heads.len
  have lnb := hrr.le
  have lfb := hfa.le
  have lsb := hsu.le
  obtain ⟨f, hf⟩ : ∃ f : Nat → Rg, f = fun k => hl.getD k g0 := ⟨_, rfl⟩
  rw [← hf] at hstep ⊢
  refine fn_rule (args := [.func (.yield l) #[] #[], ptr b1, ptr b2]) Tryz.func93 (by kernel_rfl) ?_
  -- the tail
  obtain ⟨ba, oa, ca, ya, rfl, hya, -, hDa, hca, rfl⟩ := st.at_ (k := r) (by omega)
  have hye : v.tails.getD r g0 = ya := by rw [List.getD_eq_getElem?_getD, hya]; rfl
  have hcb := hc.blk
  refine drawK D [0, 1, 2, 3, 4, 5, 6, 7, 8, 9, 10, 11, 12, 13, 15, 16, 17, 18, 19, 20, 21, 14, 22, 23, 24] [14, 23] mx (by kernel_rfl) ?_
  refine ldK (ptr bc) (hb1.cell rfl) hD1 (.refl _ _) ?_
  refine fldA ?_
  refine ldAK [.string d.name, iv d.hours, iv d.cap, iv d.start, .slice A1 n1 c1, .slice A2 n2 c2, .slice A3 n3 c3, .slice A4 n4 c4, .slice A5 n5 c5, .slice A6 n6 c6, .slice W1 m1 e1, .slice S1 m2 e2, .map (some gm)] ((CellsAt.blk hcb).mid 0 13) rfl hc.dc (.refl _ _) ?_
  refine ldK (iv (r : Int)) (hb2.cell rfl) hD2 (.refl _ _) ?_
  refine ldK (ptr bc) (hb1.cell rfl) hD1 (.refl _ _) ?_
  refine fldA ?_
  refine fldA ?_
  refine ldK (.slice (some (ad ba oa)) g1 k3) (hcb.cell rfl) hc.dc (.refl _ _) ?_
  refine ldK (iv (r : Int)) (hb2.cell rfl) hD2 (.refl _ _) ?_
  refine idx r rfl (by omega) ?_
  refine ldAK ya.c hca rfl hDa (.refl _ _) ?_
  refine ldK (ptr bc) (hb1.cell rfl) hD1 (.refl _ _) ?_
  refine fldA ?_
  refine fldA ?_
  refine ldK (.slice (some (ad t3 0)) d.reaches.length d.reaches.length) (hcb.cell rfl) hc.dc (.refl _ _) ?_
  refine ldK (iv (r : Int)) (hb2.cell rfl) hD2 (.refl _ _) ?_
  refine idx r rfl hr ?_
  refine call_of (c_meter (kind := 3) (index := (r : Int)) (y := ya) hc.hd hc.hx hc.map) ?_
  rintro _ w2 ⟨rfl, x2⟩
  refine strK x2.any ?_
  refine bld [iv (meterV bl 3 r ya).lo, iv (meterV bl 3 r ya).hi, dptr t1 t2 t3 t5 (.tail r)] (by kernel_rfl) ?_
  refine yield_of (hstep [] (meterV bl 3 r (v.tails.getD r g0), .tail r) (headP d f r d.reaches.length ++ (outP d bl v r d.farms.length ++ pumpP x bl r x.suspects.length)) w2 rfl (hJ _ _ _ h0 x2) x2.any |> fun h => by rw [hye] at h; exact h) ?_
  rintro _ w3 ⟨rfl, hj3, kk3⟩
  refine strK kk3 ?_
  have k03 : Kept D w w3 := (Ext.any x2).trans kk3
  -- the children
  have env : ∀ u, Kept D w u → CrsR D u bc gm bh t1 t2 t3 t4 t5 _ _ _ d x bl v hl := fun u k => hc.kept k fun b _ h => h
  refine ld (ptr bc) ((hb1.kept k03 hD1).cell rfl) ?_
  refine fldA ?_
  refine fldA ?_
  refine fldA ?_
  refine ld (.slice A1 n1 c1) ((env _ k03).blk.cell rfl) ?_
  refine len ?_
  refine loop_rule (fun k : Nat => [(42, iv (k : Int))]) (fun k u => k ≤ n1 ∧ Kept D w u ∧ J (tailP bl v r ++ headP d f r k) u) (fun k _ => n1 - k) 0 ⟨rfl, trivial⟩ ⟨by omega, k03, by rw [show tailP bl v r ++ headP d f r 0 = [] ++ [(meterV bl 3 r ya, .tail r)] from by unfold tailP headP; rw [hye]; rfl]; exact hj3⟩ rfl ?_
  rintro G k u ⟨hk, ku, hj⟩
  refine cD (fun hlt' => ?_) (fun hge => ?_)
  · have hlt' : k < n1 := by omega
    obtain ⟨b, o, cs, y, rfl, hy, -, -, hcy, rfl⟩ := (hrr.kept ku fun b _ h => h).at_ hlt'
    have hre : rcE d k = y := by unfold rcE; rw [List.getD_eq_getElem?_getD, hy]; rfl
    refine idx k rfl hlt' ?_
    refine ldA y.c hcy rfl ?_
    refine alloc (fun t u1 h1'' => ?_)
    refine stA (vs := y.c) h1''.blk rfl (Nat.le_of_ble_eq_true rfl) (by simp [Value.oneCell']) (fun u2 tb s2 zs => ?_)
    have t1'' := h1''.at_
    have xu2 : Ext u u2 := h1''.ext.then s2 fun b hb _ e => by omega
    have tb : Blk u2 t 153 y.c := tb
    have hDt : D t := hD t (by have := ku.size; omega)
    have ku2 := ku.ext xu2
    have ev := env u2 ku2
    have hj2 := hJ _ _ _ hj xu2
    have q1 := hb1.kept ku2 hD1
    have q2 := hb2.kept ku2 hD2
    obtain ⟨bq, oq, cq, yq, hAq, hyq, -, hDq, hcq, rfl⟩ := ev.heads.at_ (k := k) (by omega)
    injection hAq with hAq
    injection hAq with hAq1 hAq2
    subst hAq1; subst hAq2
    have hfk : f k = yq := by rw [hf]; show hl.getD k g0 = _; rw [List.getD_eq_getElem?_getD, hyq]; rfl
    refine drawK D [0, 1, 2, 3, 4, 5, 6, 7, 8, 9, 10, 11, 12, 13, 14, 15, 16, 17, 18, 19, 20, 21, 22, 23] [21] mx (by kernel_rfl) ?_
    refine fldA ?_
    refine ldK (iv y.up) (tb.cell rfl) hDt (.refl _ _) ?_
    refine ldK (iv (r : Int)) (q2.cell rfl) hD2 (.refl _ _) ?_
    refine cD (fun he => ?_) (fun he => ?_)
    · refine ldK (ptr bc) (q1.cell rfl) hD1 (.refl _ _) ?_
      refine fldA ?_
      refine ldK (.slice (some (ad bh 0)) d.reaches.length d.reaches.length) (ev.blk.cell rfl) hc.dc (.refl _ _) ?_
      refine idx k rfl (by omega) ?_
      refine ldAK yq.c hcq rfl hDq (.refl _ _) ?_
      refine ldK (ptr bc) (q1.cell rfl) hD1 (.refl _ _) ?_
      refine fldA ?_
      refine fldA ?_
      refine ldK (.slice (some (ad t1 0)) d.reaches.length d.reaches.length) (ev.blk.cell rfl) hc.dc (.refl _ _) ?_
      refine idx k rfl (by omega) ?_
      refine bld [iv yq.lo, iv yq.hi, dptr t1 t2 t3 t5 (.head k)] (by kernel_rfl) ?_
      obtain ⟨rest, hrest⟩ := split_head (d := d) (x := x) (bl := bl) (v := v) (f := f) (r := r) (k := k) (by omega) (by rw [hre]; exact he)
      have hs := hstep _ _ _ u2 hrest hj2 ku2
      rw [hfk] at hs
      refine yield_of hs ?_
      rintro _ u3 ⟨rfl, hj3, kk3⟩
      refine strK kk3 ?_
      refine arI (n := (k : Int) + 1) (by omega) ?_
      refine next (k + 1) ⟨rfl, trivial⟩ ⟨by omega, ku2.trans kk3, ?_⟩ (by omega)
      rw [headP_snoc, if_pos (by rw [hre]; exact he), ← List.append_assoc, hfk]; exact hj3
    · refine strK (.refl _ _) ?_
      refine arI (n := (k : Int) + 1) (by omega) ?_
      refine next (k + 1) ⟨rfl, trivial⟩ ⟨by omega, ku2, ?_⟩ (by omega)
      rw [headP_snoc, if_neg (by rw [hre]; exact he), List.append_nil]; exact hj2
  have hkn : k = d.reaches.length := by omega
  rw [hkn] at hj
  clear hk hge
  -- the farms
  refine ld (ptr bc) ((hb1.kept ku hD1).cell rfl) ?_
  refine fldA ?_
  refine fldA ?_
  refine fldA ?_
  refine ld (.slice A2 n2 c2) ((env _ ku).blk.cell rfl) ?_
  refine len ?_
  refine loop_rule (fun k : Nat => [(79, iv (k : Int))]) (fun k u => k ≤ n2 ∧ Kept D w u ∧ J (tailP bl v r ++ (headP d f r d.reaches.length ++ outP d bl v r k)) u) (fun k _ => n2 - k) 0 ⟨rfl, trivial⟩ ⟨by omega, ku, by rw [show outP d bl v r 0 = [] from rfl, List.append_nil]; exact hj⟩ rfl ?_
  clear ku hj hkn
  rintro G2 k u ⟨hk, ku, hj⟩
  refine cD (fun hlt' => ?_) (fun hge => ?_)
  · have hlt' : k < n2 := by omega
    obtain ⟨b, o, cs, y, rfl, hy, -, -, hcy, rfl⟩ := (hfa.kept ku fun b _ h => h).at_ hlt'
    have hre : fmE d k = y := by unfold fmE; rw [List.getD_eq_getElem?_getD, hy]; rfl
    refine idx k rfl hlt' ?_
    refine ldA y.c hcy rfl ?_
    refine alloc (fun t u1 h1'' => ?_)
    refine stA (vs := y.c) h1''.blk rfl (Nat.le_of_ble_eq_true rfl) (by simp [Value.oneCell']) (fun u2 tb s2 zs => ?_)
    have t1'' := h1''.at_
    have xu2 : Ext u u2 := h1''.ext.then s2 fun b hb _ e => by omega
    have tb : Blk u2 t 172 y.c := tb
    have hDt : D t := hD t (by have := ku.size; omega)
    have ku2 := ku.ext xu2
    have ev := env u2 ku2
    have hj2 := hJ _ _ _ hj xu2
    have q1 := hb1.kept ku2 hD1
    have q2 := hb2.kept ku2 hD2
    obtain ⟨bq, oq, cq, yq, rfl, hyq, -, hDq, hcq, rfl⟩ := (so.kept ku2 fun b _ h => h).at_ (k := k) (by omega)
    have hfk : v.outlets.getD k g0 = yq := by rw [List.getD_eq_getElem?_getD, hyq]; rfl
    refine drawK D [0, 1, 2, 3, 4, 5, 6, 7, 8, 9, 10, 11, 12, 13, 14, 15, 16, 17, 18, 20, 21, 22, 23, 24, 25, 26, 19, 27, 28, 29, 30] [19, 28] mx (by kernel_rfl) ?_
    refine fldA ?_
    refine ldK (iv y.reach) (tb.cell rfl) hDt (.refl _ _) ?_
    refine ldK (iv (r : Int)) (q2.cell rfl) hD2 (.refl _ _) ?_
    refine cD (fun he => ?_) (fun he => ?_)
    · refine ldK (ptr bc) (q1.cell rfl) hD1 (.refl _ _) ?_
      refine fldA ?_
      refine ldAK [.string d.name, iv d.hours, iv d.cap, iv d.start, .slice A1 n1 c1, .slice (some (ad b o)) n2 c2, .slice A3 n3 c3, .slice A4 n4 c4, .slice A5 n5 c5, .slice A6 n6 c6, .slice W1 m1 e1, .slice S1 m2 e2, .map (some gm)] ((CellsAt.blk ev.blk).mid 0 13) rfl hc.dc (.refl _ _) ?_
      refine ldK (ptr bc) (q1.cell rfl) hD1 (.refl _ _) ?_
      refine fldA ?_
      refine fldA ?_
      refine ldK (.slice (some (ad bq oq)) o1 k2) (ev.blk.cell rfl) hc.dc (.refl _ _) ?_
      refine idx k rfl (by omega) ?_
      refine ldAK yq.c hcq rfl hDq (.refl _ _) ?_
      refine ldK (ptr bc) (q1.cell rfl) hD1 (.refl _ _) ?_
      refine fldA ?_
      refine fldA ?_
      refine ldK (.slice (some (ad t2 0)) d.farms.length d.farms.length) (ev.blk.cell rfl) hc.dc (.refl _ _) ?_
      refine idx k rfl (by omega) ?_
      refine call_of (c_meter (kind := 2) (index := (k : Int)) (y := yq) ev.hd ev.hx ev.map) ?_
      rintro _ u25 ⟨rfl, x25⟩
      refine strK x25.any ?_
      refine bld [iv (meterV bl 2 k yq).lo, iv (meterV bl 2 k yq).hi, dptr t1 t2 t3 t5 (.outlet k)] (by kernel_rfl) ?_
      obtain ⟨rest, hrest⟩ := split_out (d := d) (x := x) (bl := bl) (v := v) (f := f) (r := r) (k := k) (by omega) (by rw [hre]; exact he)
      have hs := hstep _ _ _ u25 hrest (hJ _ _ _ hj2 x25) (ku2.ext x25)
      rw [hfk] at hs
      refine yield_of hs ?_
      rintro _ u3 ⟨rfl, hj3, kk3⟩
      refine strK kk3 ?_
      refine arI (n := (k : Int) + 1) (by omega) ?_
      refine next (k + 1) ⟨rfl, trivial⟩ ⟨by omega, (ku2.ext x25).trans kk3, ?_⟩ (by omega)
      rw [outP_snoc, if_pos (by rw [hre]; exact he), ← List.append_assoc (headP d f r d.reaches.length), ← List.append_assoc, hfk]; exact hj3
    · refine strK (.refl _ _) ?_
      refine strK (.refl _ _) ?_
      refine arI (n := (k : Int) + 1) (by omega) ?_
      refine next (k + 1) ⟨rfl, trivial⟩ ⟨by omega, ku2, ?_⟩ (by omega)
      rw [outP_snoc, if_neg (by rw [hre]; exact he), List.append_nil]; exact hj2
  have hkn : k = d.farms.length := by omega
  rw [hkn] at hj
  clear hk hge
  -- the pumps
  refine ld (ptr bc) ((hb1.kept ku hD1).cell rfl) ?_
  refine fldA ?_
  refine fldA ?_
  refine fldA ?_
  refine ld (.slice S1 m2 e2) ((env _ ku).blk.cell rfl) ?_
  refine len ?_
  refine loop_rule (fun k : Nat => [(123, iv (k : Int))]) (fun k u => k ≤ m2 ∧ Kept D w u ∧ J (tailP bl v r ++ (headP d f r d.reaches.length ++ (outP d bl v r d.farms.length ++ pumpP x bl r k))) u) (fun k _ => m2 - k) 0 ⟨rfl, trivial⟩ ⟨by omega, ku, by rw [show pumpP x bl r 0 = [] from rfl, List.append_nil]; exact hj⟩ rfl ?_
  clear ku hj hkn
  rintro G3 k u ⟨hk, ku, hj⟩
  refine cD (fun hlt' => ?_) (fun hge => ?_)
  · have hlt' : k < m2 := by omega
    obtain ⟨b, o, cs, y, rfl, hy, -, -, hcy, rfl⟩ := (hsu.kept ku fun b _ h => h).at_ hlt'
    have hre : suE x k = y := by unfold suE; rw [List.getD_eq_getElem?_getD, hy]; rfl
    refine idx k rfl hlt' ?_
    refine ldA y.c hcy rfl ?_
    refine alloc (fun t u1 h1'' => ?_)
    refine stA (vs := y.c) h1''.blk rfl (Nat.le_of_ble_eq_true rfl) (by simp [Value.oneCell']) (fun u2 tb s2 zs => ?_)
    have t1'' := h1''.at_
    have xu2 : Ext u u2 := h1''.ext.then s2 fun b hb _ e => by omega
    have tb : Blk u2 t 110 y.c := tb
    have hDt : D t := hD t (by have := ku.size; omega)
    have ku2 := ku.ext xu2
    have ev := env u2 ku2
    have hj2 := hJ _ _ _ hj xu2
    have q1 := hb1.kept ku2 hD1
    have q2 := hb2.kept ku2 hD2
    have skip : ¬ ((suE x k).kind = 4 ∧ (suE x k).index = (r : Int)) → J (tailP bl v r ++ (headP d f r d.reaches.length ++ (outP d bl v r d.farms.length ++ pumpP x bl r (k + 1)))) u2 := fun h => by
      rw [pumpP_snoc, if_neg h, List.append_nil]; exact hj2
    refine drawK D [0, 1, 2, 3, 4, 5, 6, 7, 8, 9, 10, 11, 12, 13, 14, 15, 16, 18, 19, 20, 21, 22, 23, 24, 17, 25, 26, 27, 28] [17, 26] mx (by kernel_rfl) ?_
    refine fldA ?_
    refine ldK (iv y.kind) (tb.cell rfl) hDt (.refl _ _) ?_
    refine cD (fun he1 => ?_) (fun he1 => ?_)
    · refine fldA ?_
      refine ldK (iv y.index) (tb.cell rfl) hDt (.refl _ _) ?_
      refine ldK (iv (r : Int)) (q2.cell rfl) hD2 (.refl _ _) ?_
      refine cD (fun he2 => ?_) (fun he2 => ?_)
      · refine ldK (ptr bc) (q1.cell rfl) hD1 (.refl _ _) ?_
        refine fldA ?_
        refine ldAK [.string d.name, iv d.hours, iv d.cap, iv d.start, .slice A1 n1 c1, .slice A2 n2 c2, .slice A3 n3 c3, .slice A4 n4 c4, .slice A5 n5 c5, .slice A6 n6 c6, .slice W1 m1 e1, .slice (some (ad b o)) m2 e2, .map (some gm)] ((CellsAt.blk ev.blk).mid 0 13) rfl hc.dc (.refl _ _) ?_
        refine ldK (iv (r : Int)) (q2.cell rfl) hD2 (.refl _ _) ?_
        refine bld [iv 0, iv 0] (by kernel_rfl) ?_
        refine ldK (ptr bc) (q1.cell rfl) hD1 (.refl _ _) ?_
        refine fldA ?_
        refine fldA ?_
        refine ldK (.slice (some (ad t5 0)) x.suspects.length x.suspects.length) (ev.blk.cell rfl) hc.dc (.refl _ _) ?_
        refine idx k rfl (by omega) ?_
        refine call_of (c_meter (kind := 4) (index := (r : Int)) (y := g0) ev.hd ev.hx ev.map) ?_
        rintro _ u25 ⟨rfl, x25⟩
        refine strK x25.any ?_
        refine bld [iv (meterV bl 4 r g0).lo, iv (meterV bl 4 r g0).hi, dptr t1 t2 t3 t5 (.taken k)] (by kernel_rfl) ?_
        obtain ⟨rest, hrest⟩ := split_pump (d := d) (x := x) (bl := bl) (v := v) (f := f) (r := r) (k := k) (by omega) (by rw [hre]; exact ⟨he1, he2⟩)
        refine yield_of (hstep _ _ _ u25 hrest (hJ _ _ _ hj2 x25) (ku2.ext x25)) ?_
        rintro _ u3 ⟨rfl, hj3, kk3⟩
        refine strK kk3 ?_
        refine arI (n := (k : Int) + 1) (by omega) ?_
        refine next (k + 1) ⟨rfl, trivial⟩ ⟨by omega, (ku2.ext x25).trans kk3, ?_⟩ (by omega)
        rw [pumpP_snoc, if_pos (by rw [hre]; exact ⟨he1, he2⟩), ← List.append_assoc (outP d bl v r d.farms.length), ← List.append_assoc (headP d f r d.reaches.length), ← List.append_assoc]; exact hj3
      · refine strK (.refl _ _) ?_
        refine strK (.refl _ _) ?_
        refine arI (n := (k : Int) + 1) (by omega) ?_
        exact next (k + 1) ⟨rfl, trivial⟩ ⟨by omega, ku2, skip fun h => he2 (by rw [← hre]; exact h.2)⟩ (by omega)
    · refine strK (.refl _ _) ?_
      refine strK (.refl _ _) ?_
      refine arI (n := (k : Int) + 1) (by omega) ?_
      exact next (k + 1) ⟨rfl, trivial⟩ ⟨by omega, ku2, skip fun h => he1 (by rw [← hre]; exact h.1)⟩ (by omega)
  have hkn : k = x.suspects.length := by omega
  rw [hkn] at hj
  exact ret0 ⟨hj, ku⟩
end
end Go.Proofs.YtcpdhclnmjfldaaGreatDoor

/- Layer 48: contract of leaves. -/
namespace Go.Proofs.YtcpdhclnmjfldaaGreatDoor
open Go Go.RowKit

theorem CrsR.more {D D' : Nat → Prop} {u : World} {bc gm bh t1 t2 t3 t4 t5 : Nat} {csd csx cw : List Value} {d : Dist} {x : Ev} {bl : Int × Int → Option Int} {v : Wv} {hl : List Rg} (h : CrsR D u bc gm bh t1 t2 t3 t4 t5 csd csx cw d x bl v hl) (hD : ∀ b, b < u.heap.size → D b → D' b) : CrsR D' u bc gm bh t1 t2 t3 t4 t5 csd csx cw d x bl v hl :=
  ⟨h.hd.more hD, h.hx.more hD, tWv.more hD h.hw, h.map, h.blk, h.heads.more (by decide) hD, hD _ h.map.lt h.dm, hD _ h.blk.lt h.dc⟩
/-- The ranges of parts, so small that their sums are numbers. -/
def PartsB (l : List (Rg × Dst)) : Prop := l.length ≤ 4096 ∧ ∀ p ∈ l, (0 ≤ p.1.lo ∧ p.1.lo ≤ 1073741824) ∧ -1 ≤ p.1.hi ∧ p.1.hi ≤ 1073741824
theorem loS_app (a b : List (Rg × Dst)) : loS (a ++ b) = loS a + loS b := by unfold loS; rw [List.map_append, List.sum_append]
theorem hiS_app (a b : List (Rg × Dst)) : hiS (a ++ b) = hiS a + hiS b := by unfold hiS; rw [List.map_append, List.sum_append]
theorem sum_rng {l : List (Rg × Dst)} (h : ∀ p ∈ l, (0 ≤ p.1.lo ∧ p.1.lo ≤ 1073741824) ∧ -1 ≤ p.1.hi ∧ p.1.hi ≤ 1073741824) : (0 ≤ loS l ∧ loS l ≤ l.length * 1073741824) ∧ -(l.length : Int) ≤ hiS l ∧ hiS l ≤ l.length * 1073741824 := by
  induction l with
  | nil => simp [loS, hiS]
  | cons p l ih =>
    have h1 := h p List.mem_cons_self
    have h2 := ih fun q hq => h q (List.mem_cons_of_mem _ hq)
    have e1 : loS (p :: l) = p.1.lo + loS l := rfl
    have e2 : hiS (p :: l) = p.1.hi + hiS l := rfl
    rw [e1, e2, List.length_cons]
    omega
section
variable {w : World}
theorem c_leaves {D : Nat → Prop} {r bc gm bh t1 t2 t3 t4 t5 : Nat} {csd csx cw : List Value} {d : Dist} {x : Ev} {bl : Int × Int → Option Int} {v : Wv} {hl : List Rg} (hc : CrsR D w bc gm bh t1 t2 t3 t4 t5 csd csx cw d x bl v hl) (hr : r < d.reaches.length)
    (hlo : v.outlets.length = d.farms.length) (hlt : v.tails.length = d.reaches.length) (hb : PartsB (partsL d x bl v (fun k => hl.getD k g0) r)) :
    CallZ Tryz.prog 68 #[ptr bc, iv (r : Int)] w (fun u w' => u = .agg #[iv (loS (partsL d x bl v (fun k => hl.getD k g0) r)), iv (hiS (partsL d x bl v (fun k => hl.getD k g0) r))] ∧ Ext w w') := by
  have hc := hc.more (D' := fun b => b < w.heap.size) fun b hb _ => hb
  obtain ⟨ps, hps⟩ : ∃ ps, ps = partsL d x bl v (fun k => hl.getD k g0) r := ⟨_, rfl⟩
  rw [← hps] at hb ⊢
  refine fn_rule (args := [ptr bc, iv (r : Int)]) Tryz.func68 (by kernel_rfl) ?_
  refine alloc (fun q w1 h1 => ?_)
  have b1 : Blk w1 q 139 [iv 0, iv 0] := h1.blk
  have a1 := h1.at_
  have s1 := h1.size
  refine call_of c_parts ?_
  rintro _ w3 ⟨p1, p2, rfl, x3, g1, g2, hp1, hp2⟩
  have z3 := x3.size
  refine range (gf := 93) (lb := #[ptr p1, ptr p2]) rfl (fun fn tmps w4 R hR hF hwf x4 z4 hD4 hl4 => ?_)
  show CallZ _ _ #[.func (.yield (w3.heap.size + 1)) #[] #[], ptr p1, ptr p2] w4 _
  have l1 := g1.lt
  have l2 := g2.lt
  have x04 := (h1.ext.trans x3).trans x4
  have hc4 := (hc.kept x04 fun _ _ _ => trivial).more (D' := fun b => b ≠ q ∧ b ≠ w3.heap.size + 1) fun b _ h => ⟨by omega, by omega⟩
  refine (c_parts1 (D := fun b => b ≠ q ∧ b ≠ w3.heap.size + 1) (fun pre u => LoopAt u (w3.heap.size + 1) R ∧ Blk u q 139 [iv (loS pre), iv (hiS pre)])
    (fun pre u u' ⟨l5, q5⟩ k6 => ⟨l5.kept k6 trivial, q5.ext k6⟩) (fun b hb => ⟨by omega, by omega⟩) ?_ hc4 (g1.ext x4) (g2.ext x4) ⟨by omega, by omega⟩ ⟨by omega, by omega⟩ hr hlo hlt ⟨hl4, (b1.ext x3).ext x4⟩).mono ?_
  · rintro pre p rest u hsp ⟨l5, q5⟩ ku
    rw [← hps] at hsp
    subst hR
    have hp := hb.2 p (by rw [hsp]; simp)
    have hpre := sum_rng (l := pre) fun y hy => hb.2 y (by rw [hsp]; simp [hy])
    have hlen : pre.length ≤ 4096 := by have := hb.1; rw [hsp] at this; simp at this; omega
    refine yield_rule (args := [.agg #[iv p.1.lo, iv p.1.hi, dptr t1 t2 t3 t5 p.2]]) l5 rfl rfl hF hwf ?_
    refine alloc (fun t u1 h1'' => ?_)
    refine stA (vs := [iv p.1.lo, iv p.1.hi, dptr t1 t2 t3 t5 p.2]) h1''.blk rfl (Nat.le_of_ble_eq_true rfl) (by cases p.2 <;> simp [Value.oneCell', dptr]) (fun u2 tb s2 zs => ?_)
    have t1'' := h1''.at_
    have xu2 : Ext u u2 := h1''.ext.then s2 fun b hb _ e => by omega
    have tb : Blk u2 t 183 [iv p.1.lo, iv p.1.hi, dptr t1 t2 t3 t5 p.2] := tb
    have lq := q5.lt
    have ll := l5.lt
    refine mid' (l5.kept xu2 trivial) (fun u3 k3 zk3 l6 => ?_)
    have q6 := (q5.ext xu2).kept k3 (by have := x3.size; omega)
    have tb3 := tb.kept k3 (by omega)
    refine drawP (.take 0 (.take 2 (.take 3 (.take 4 (.take 6 (.take 7 (.take 8 (.take 9 (.take 10 (.take 11 (.eff 1 (.take 5 (.take 12 (.eff 13 (.take 14 (.bar (.eff 15 .done))))))))))))))))) [15] (fun y => Kept (fun b => b ≠ q) u3 y ∧ y.cell? (ad q 1) = some (iv (hiS pre))) mx (by kernel_rfl) ⟨.refl _ _, q6.cell rfl⟩ ?_
    refine fldA ?_
    refine fldA ?_
    refine fldA ?_
    refine ldS (iv p.1.lo) (fun y hy => hy.1.cell (tb3.cell rfl) (show t ≠ q by omega)) ?_
    refine fldA ?_
    refine ldS (iv (hiS pre)) (fun y hy => hy.2) ?_
    refine fldA ?_
    refine fldA ?_
    refine ldS (iv p.1.hi) (fun y hy => hy.1.cell (tb3.cell rfl) (show t ≠ q by omega)) ?_
    refine arI (by omega) ?_
    refine ld (iv (loS pre)) (q6.cell rfl) ?_
    refine strS ⟨.refl _ _, q6.cell rfl⟩ ?_
    refine arI (by omega) ?_
    refine fldA ?_
    refine st q6 (Nat.le_of_ble_eq_true rfl) rfl (fun u4 q7 k4 s4 => ?_)
    have q7 : Blk u4 q 139 [iv (loS pre + p.1.lo), iv (hiS pre)] := q7
    refine strS ⟨k4, q7.cell rfl⟩ ?_
    refine fldA ?_
    refine barS (fun _ => True) trivial ?_
    refine st q7 (Nat.le_of_ble_eq_true rfl) rfl (fun u5 q8 k5 s5 => ?_)
    refine strS trivial ?_
    refine roundN' _ ((l6.kept k4 (by omega)).kept k5 (by omega)) (fun u6 k6 l8 => ?_)
    have q8 : Blk u5 q 139 [iv (loS pre + p.1.lo), iv (hiS pre + p.1.hi)] := q8
    have kk : Kept (fun b => b ≠ q ∧ b ≠ w3.heap.size + 1) u u6 := ((((Ext.any xu2 : Kept (fun b => b ≠ q ∧ b ≠ w3.heap.size + 1) u u2).then k3 fun _ _ h => h.2).then k4 fun _ _ h => h.1).then k5 fun _ _ h => h.1).then k6 fun _ _ h => h.2
    refine ⟨rfl, ⟨l8, ?_⟩, kk⟩
    rw [loS_app, hiS_app, show loS [p] = p.1.lo from by simp [loS], show hiS [p] = p.1.hi from by simp [hiS]]
    exact q8.kept k6 (by omega)
  · rintro _ w5 ⟨⟨l5, q5⟩, k5⟩
    rw [← hps] at q5
    subst hR
    refine range_end _ l5 (by simp) (fun w6 k6 => ?_)
    have q6 := q5.kept k6 (by omega)
    refine ldA _ (.blk q6) rfl ?_
    refine stA (vs := [iv (loS ps), iv (hiS ps)]) q6 rfl (Nat.le_of_ble_eq_true rfl) (by simp [Value.oneCell']) (fun w7 q7 k7 s7 => ?_)
    have q7 : Blk w7 q 139 [iv (loS ps), iv (hiS ps)] := q7
    have k47 : Kept (fun b => b ≠ q ∧ b ≠ w3.heap.size + 1) w4 w7 := (k5.then k6 fun _ _ h => h.2).then k7 fun _ _ h => h.1
    have hD7 : w7.heap[w3.heap.size]? = some (.deferred (some [])) := (k47.blk _ (by omega) ⟨by omega, by omega⟩).trans hD4
    refine retM hD7 ?_
    have k8 := Kept.putObj w7 w3.heap.size (.deferred none)
    refine resL _ (holds_agg (CellsAt.blk (q7.kept k8 (by omega))) rfl) ?_
    exact ⟨rfl, (x04.then k47 (fun b hb _ => ⟨by omega, by omega⟩)).then k8 (fun b hb _ => by omega)⟩
end
end Go.Proofs.YtcpdhclnmjfldaaGreatDoor

/- Own layer, part x: drawn regions: one slot told apart; effects that may come in any order. Nothing of the program stands here. -/
namespace Go.Proofs.YtcpdhclnmjfldaaGreatDoor
open Go Go.RowKit

section
variable {P : Program} {X : XK} {ops : Array Oper} {K : Fr → World → Prop} {F : Fr} {w : World}
theorem mix_off {l : List Nat} {F F' : Fr} (h : Off l F F') : mix l F F' = F' := funext fun j => by
  show (bif memN j l then F' j else F j) = F' j
  cases hb : memN j l with
  | true => rfl
  | false => exact (h j hb).symm
/-- What is said of a region that draws, if it is of the world and of one slot. -/
theorem draw_slot (j : Nat) (K' : Value → World → Prop) (h : DrawH P ops (fun F' w' => K' (F' j) w') X F w) (k : ∀ G v w', K' v w' → K (upds [(j, v)] (mix (wr ops.toList) F G)) w') : DrawH P ops K X F w :=
  draw_then h fun F' w' hoff hk => by
    have e : upds [(j, F' j)] (mix (wr ops.toList) F F') = F' := by
      rw [mix_off hoff]
      exact upd_self rfl
    rw [← e]; exact k F' _ w' hk
/-- .. if it is of the world alone. -/
theorem draw_w (K' : World → Prop) (h : DrawH P ops (fun _ w' => K' w') X F w) (k : ∀ G w', K' w' → K (mix (wr ops.toList) F G) w') : DrawH P ops K X F w :=
  draw_then h fun F' w' hoff hk => by
    rw [← mix_off hoff]; exact k F' w' hk
end

/-! ### effects in any order -/
/-- All orders of some effects, then the rest. -/
def altsP (g : Nat → Plan) : List Nat → Plan
  | [] => .done
  | [e] => .eff e (g e)
  | e :: e2 :: es => .alt e (g e) (altsP g (e2 :: es))
def permP : Nat → List Nat → Plan → Plan
  | 0, _, t => t
  | n + 1, rem, t => altsP (fun e => permP n (rem.erase e) t) rem
/-- What an effect asks, with what comes next. -/
def EffP (P : Program) (ops : List Oper) (X : XK) (i : Nat) (C : (World → Prop) → Fr → World → Prop) (S : World → Prop) (F : Fr) (w : World) : Prop := match ops[i]? with
  | some o => VGuard ops o F (VOp P o F (fun v w' => fv v fun v => StrP S w' (fun S' => C S' (updO F o.dst v) w')) X w) (StrP S w (fun S' => C S' (updO F o.dst undef) w))
  | none => False
theorem vplan_perm {P : Program} {ops : List Oper} {K : Fr → World → Prop} {X : XK} {S : World → Prop} {t : Plan} (I : List Nat → Fr → World → Prop)
    (step : ∀ rem e F w (C : (World → Prop) → Fr → World → Prop), e ∈ rem → I rem F w → (∀ F' w', I (rem.erase e) F' w' → C S F' w') → EffP P ops X e C S F w)
    (fin : ∀ F w, I [] F w → VPlan P ops K X t S F w) : ∀ (n : Nat) (rem : List Nat) (F : Fr) (w : World), rem.length = n → I rem F w → VPlan P ops K X (permP n rem t) S F w := by
  intro n
  induction n with
  | zero =>
    intro rem F w hl hI
    obtain rfl : rem = [] := List.eq_nil_of_length_eq_zero hl
    exact fin F w hI
  | succ n ih =>
    intro rem F w hl hI
    have key : ∀ es : List Nat, es ≠ [] → (∀ e ∈ es, e ∈ rem) → VPlan P ops K X (altsP (fun e => permP n (rem.erase e) t) es) S F w := by
      intro es
      induction es with
      | nil => intro h _; exact absurd rfl h
      | cons e es ihe =>
        intro _ hs
        have one : EffP P ops X e (fun S' F' w' => VPlan P ops K X (permP n (rem.erase e) t) S' F' w') S F w :=
          step rem e F w _ (hs e List.mem_cons_self) hI fun F' w' hI' => ih (rem.erase e) F' w' (by rw [List.length_erase_of_mem (hs e List.mem_cons_self), hl]; rfl) hI'
        cases es with
        | nil => exact one
        | cons e2 es => exact ⟨one, ihe (by simp) fun a ha => hs a (List.mem_cons_of_mem _ ha)⟩
    exact key rem (by intro e; subst e; cases hl) fun _ h => h
end Go.Proofs.YtcpdhclnmjfldaaGreatDoor

/- Layer 48: slices.Backward; the Truth that follow makes. -/
namespace Go.Proofs.YtcpdhclnmjfldaaGreatDoor
open Go Go.RowKit

/-! ### rows of numbers, as cells -/
def icells (R : Nat) (f : Nat → Int) : List Value := (List.range R).map fun i => iv (f i)
theorem icells_len {R : Nat} {f : Nat → Int} : (icells R f).length = R := by unfold icells; simp
theorem icells_at {R i : Nat} {f : Nat → Int} (h : i < R) : (icells R f)[i]? = some (iv (f i)) := by unfold icells; rw [List.getElem?_map, List.getElem?_range h]; rfl
theorem icells_set {R i : Nat} {f g : Nat → Int} (h : ∀ j, j < R → g j = if j = i then g i else f j) : (icells R f).set i (iv (g i)) = icells R g := by
  apply List.ext_getElem?
  intro j
  rw [List.getElem?_set, icells_len]
  by_cases hj : j < R
  · rw [icells_at hj, icells_at hj, h j hj]
    by_cases e : i = j
    · subst e; rw [if_pos rfl, if_pos hj, if_pos rfl]
    · rw [if_neg e, if_neg (fun e2 => e e2.symm)]
  · rw [List.getElem?_eq_none (l := icells R f) (by rw [icells_len]; omega), List.getElem?_eq_none (l := icells R g) (by rw [icells_len]; omega)]
    by_cases e : i = j
    · rw [if_pos e, if_neg (by omega)]
    · rw [if_neg e]
theorem icells_zero {R : Nat} : (List.replicate R [iv 0]).flatten = icells R (fun _ => 0) := by
  unfold icells
  induction R with
  | zero => rfl
  | succ R ih => rw [List.replicate_succ', List.flatten_append, ih, List.range_succ, List.map_append]; rfl

/-! ### five slices that are made in any order -/
def e5s : Nat → Nat
  | 2 => 28
  | 7 => 33
  | 9 => 35
  | 11 => 37
  | _ => 42
def e5r : Nat → Nat
  | 2 => 27
  | 7 => 32
  | 9 => 34
  | 11 => 36
  | _ => 41
def e5z (R F S : Nat) : Nat → Nat
  | 7 => F
  | 16 => S
  | _ => R
abbrev E5 : List Nat := [2, 7, 9, 11, 16]
structure I5 (u0 : World) (bc R Fn S : Nat) (rem : List Nat) (F : Fr) (w : World) : Prop where
  sub : ∀ e ∈ rem, e ∈ E5
  nd : rem.Nodup
  kept : Ext u0 w
  f26 : F 26 = ptr bc
  src : ∀ e ∈ E5, F (e5r e) = iv (e5z R Fn S e : Int)
  don : ∃ gs : Nat → Nat, (∀ e ∈ E5, e ∉ rem → F (e5s e) = .slice (some (ad (gs e) 0)) (e5z R Fn S e) (e5z R Fn S e) ∧ Blk w (gs e) 3 (icells (e5z R Fn S e) fun _ => 0) ∧ u0.heap.size ≤ gs e) ∧ ∀ e ∈ E5, ∀ e' ∈ E5, e ∉ rem → e' ∉ rem → e ≠ e' → gs e ≠ gs e'
theorem upd_ne {F : Fr} {d j : Nat} {v : Value} (h : j ≠ d) : upd F d v j = F j := by
  unfold upd
  cases hb : Nat.beq j d with
  | true => exact absurd (Nat.eq_of_beq_eq_true hb) h
  | false => rfl
theorem upd_eq {F : Fr} {d : Nat} {v : Value} : upd F d v d = v := by
  unfold upd
  have : Nat.beq d d = true := Nat.beq_refl d
  rw [this]; rfl
theorem e5s_inj : ∀ e ∈ E5, ∀ e' ∈ E5, e ≠ e' → e5s e ≠ e5s e' := by decide
theorem e5s_src : ∀ e ∈ E5, ∀ e' ∈ E5, e5r e' ≠ e5s e := by decide
theorem e5s_26 : ∀ e ∈ E5, 26 ≠ e5s e := by decide
theorem I5.step {u0 w w' : World} {bc R Fn S g e : Nat} {rem : List Nat} {F : Fr} (h : I5 u0 bc R Fn S rem F w) (he : e ∈ rem) (hn : NewB w 3 (List.replicate (e5z R Fn S e) [iv 0]).flatten g w') :
    I5 u0 bc R Fn S (rem.erase e) (upd F (e5s e) (.slice (some (ad g 0)) (e5z R Fn S e) (e5z R Fn S e))) w' := by
  have he5 := h.sub e he
  obtain ⟨gs, h1, h2⟩ := h.don
  have ha := hn.at_
  refine ⟨fun a ha => h.sub a (List.mem_of_mem_erase ha), h.nd.erase e, h.kept.ext hn.ext, by rw [upd_ne (e5s_26 e he5)]; exact h.f26, fun a ha => by rw [upd_ne (e5s_src e he5 a ha)]; exact h.src a ha,
    ⟨fun a => if a = e then g else gs a, fun a ha5 hna => ?_, fun a ha5 a' ha5' hna hna' hne => ?_⟩⟩
  · show _ = Value.slice (some (ad (if a = e then g else gs a) 0)) _ _ ∧ Blk w' (if a = e then g else gs a) _ _ ∧ _ ≤ (if a = e then g else gs a)
    by_cases e1 : a = e
    · subst e1
      rw [if_pos rfl, upd_eq]
      exact ⟨rfl, by rw [← icells_zero]; exact hn.blk, by have := h.kept.size; omega⟩
    · rw [if_neg e1, upd_ne (e5s_inj a ha5 e he5 e1)]
      have hnr : a ∉ rem := fun hm => hna ((List.mem_erase_of_ne e1).2 hm)
      obtain ⟨k1, k2, k3⟩ := h1 a ha5 hnr
      exact ⟨k1, k2.ext hn.ext, k3⟩
  · have lt : ∀ a, a ∈ E5 → a ≠ e → a ∉ rem.erase e → gs a < w.heap.size := fun a ha5 hne hna => (h1 a ha5 fun hm => hna ((List.mem_erase_of_ne hne).2 hm)).2.1.lt
    show (if a = e then g else gs a) ≠ if a' = e then g else gs a'
    by_cases e1 : a = e
    · rw [if_pos e1, if_neg (fun e2 => hne (e1.trans e2.symm))]
      have := lt a' ha5' (fun e2 => hne (e1.trans e2.symm)) hna'
      omega
    · rw [if_neg e1]
      by_cases e2 : a' = e
      · rw [if_pos e2]
        have := lt a ha5 e1 hna
        omega
      · rw [if_neg e2]
        exact h2 a ha5 a' ha5' (fun hm => hna ((List.mem_erase_of_ne e1).2 hm)) (fun hm => hna' ((List.mem_erase_of_ne e2).2 hm)) hne
section
variable {w : World}
theorem c_backw {A : Option Addr} {n c : Nat} : CallZ Tryz.prog 67 #[.slice A n c] w (fun u w' => ∃ b, u = .func (.func 84) #[] #[ptr b] ∧ Ext w w' ∧ Blk w' b 24 [.slice A n c] ∧ w.heap.size ≤ b) := by
  refine fn_rule (args := [.slice A n c]) Tryz.func67 (by kernel_rfl) ?_
  refine box (fun b w1 h1 => ?_)
  have e1 := h1.at_
  exact ret1 (.func (.func 84) #[] #[ptr b]) rfl ⟨b, rfl, h1.ext, h1.blk, by omega⟩
theorem c_backw1 {D : Nat → Prop} {l bs : Nat} {rs : List Reach} {A : Option Addr} {n c : Nat} (J : Nat → World → Prop) (Jf : World → Prop) (hs : SlR tReach D w A n rs) (hb : Blk w bs 24 [.slice A n c]) (hDb : D bs)
    (hstep : ∀ i u r, rs[i]? = some r → J (i + 1) u → Kept D w u → YieldP Tryz.prog l [iv (i : Int), .agg r.c.toArray].toArray (fun y w' => (y = .bool true ∧ J i w' ∧ Kept D u w') ∨ (y = .bool false ∧ Jf w')) u) (h0 : J n w) :
    CallZ Tryz.prog 84 #[.func (.yield l) #[] #[], ptr bs] w (fun _ w' => (J 0 w' ∧ Kept D w w') ∨ Jf w') := by
  refine fn_rule (args := [.func (.yield l) #[] #[], ptr bs]) Tryz.func84 (by kernel_rfl) ?_
  have hl := hs.len
  have hle := hs.le
  refine ld _ (hb.cell rfl) ?_
  refine len ?_
  refine arI (by omega) ?_
  refine loop_rule (fun k : Nat => [(3, iv ((k : Int) - 1))]) (fun k u => k ≤ n ∧ J k u ∧ Kept D w u) (fun k _ => k) n ⟨rfl, trivial⟩ ⟨by omega, h0, .refl _ _⟩ rfl ?_
  rintro G k u ⟨hk, hj, ku⟩
  refine cD (fun hge => ?_) (fun hlt => ?_)
  · obtain ⟨k, rfl⟩ : ∃ m, k = m + 1 := ⟨k - 1, by omega⟩
    have e : ((k + 1 : Nat) : Int) - 1 = (k : Int) := by omega
    rw [e]
    obtain ⟨b, o, cs, r, rfl, hr, -, -, hc, rfl⟩ := (hs.kept ku fun b _ h => h).at_ (k := k) (by omega)
    refine ld _ ((hb.kept ku hDb).cell rfl) ?_
    refine idx k rfl (by omega) ?_
    refine ldA _ hc rfl ?_
    refine yield_of (hstep k u r hr hj ku) ?_
    rintro _ u2 (⟨rfl, hj2, k2⟩ | ⟨rfl, hf⟩)
    · refine arI (by omega) ?_
      exact next k ⟨rfl, trivial⟩ ⟨by omega, hj2, ku.trans k2⟩ (by omega)
    · exact ret0 (.inr hf)
  · obtain rfl : k = 0 := by omega
    exact ret0 (.inl ⟨hj, ku⟩)
end
end Go.Proofs.YtcpdhclnmjfldaaGreatDoor
