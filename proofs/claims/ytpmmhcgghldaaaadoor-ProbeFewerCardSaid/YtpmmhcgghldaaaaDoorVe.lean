/- Own layer, part e: memory, and the rules for the heads. Nothing of the program stands here. -/
import Derived.Test.YtpmmhcgghldaaaaDoorVd
import Derived.Below
import Derived.OwnWalk
import Derived.ArgAppend
import Derived.Carry
namespace Go.Proofs.YtpmmhcgghldaaaaDoor
open Go Go.RowKit

/-! ### worlds -/
theorem z_alloc (w : World) (o : Obj) : z (w.alloc o) = (z w).alloc o := rfl
theorem z_setCell (w : World) (a : Addr) (v : Value) : z (w.setCell a v) = (z w).setCell a v := rfl
/-- A cell, by block and place. -/
abbrev ad (b o : Nat) : Addr := ⟨b, o, none⟩
theorem add_ad (b o n : Nat) : (ad b o).add n = ad b (o + n) := by
  unfold Addr.add; split
  · rename_i h; subst h; rfl
  · rfl

/-- w' is w with new blocks, and what does not meet D changed. -/
structure Kept (D : Nat → Prop) (w w' : World) : Prop where
  os : w'.os = w.os
  tape : w'.tape = w.tape
  output : w'.output = w.output
  size : w.heap.size ≤ w'.heap.size
  blk : ∀ i, i < w.heap.size → D i → w'.heap[i]? = w.heap[i]?
abbrev Ext (w w' : World) : Prop := Kept (fun _ => True) w w'
theorem Kept.refl (D : Nat → Prop) (w : World) : Kept D w w := ⟨rfl, rfl, rfl, Nat.le_refl _, fun _ _ _ => rfl⟩
theorem Kept.weak {D D' : Nat → Prop} {w w' : World} (h : Kept D w w') (hd : ∀ i, i < w.heap.size → D' i → D i) : Kept D' w w' := ⟨h.os, h.tape, h.output, h.size, fun i hi hD => h.blk i hi (hd i hi hD)⟩
theorem Kept.trans {D : Nat → Prop} {a b c : World} (h : Kept D a b) (k : Kept D b c) : Kept D a c :=
  ⟨k.os.trans h.os, k.tape.trans h.tape, k.output.trans h.output, Nat.le_trans h.size k.size, fun i hi hD => (k.blk i (Nat.lt_of_lt_of_le hi h.size) hD).trans (h.blk i hi hD)⟩
theorem Kept.then {D D' : Nat → Prop} {a b c : World} (h : Kept D a b) (k : Kept D' b c) (hd : ∀ i, i < a.heap.size → D i → D' i) : Kept D a c :=
  ⟨k.os.trans h.os, k.tape.trans h.tape, k.output.trans h.output, Nat.le_trans h.size k.size, fun i hi hD => (k.blk i (Nat.lt_of_lt_of_le hi h.size) (hd i hi hD)).trans (h.blk i hi hD)⟩
theorem Kept.ext {D : Nat → Prop} {a b c : World} (h : Kept D a b) (k : Ext b c) : Kept D a c := h.then k fun _ _ _ => trivial
theorem Ext.any {D : Nat → Prop} {a b : World} (h : Ext a b) : Kept D a b := h.weak fun _ _ _ => trivial
theorem Kept.alloc (D : Nat → Prop) (w : World) (o : Obj) : Kept D w (w.alloc o) := ⟨rfl, rfl, rfl, by simp, fun i hi _ => Below.heap_alloc w o i hi⟩
theorem Kept.setCell (w : World) (a : Addr) (v : Value) : Kept (fun b => b ≠ a.block) w (w.setCell a v) :=
  ⟨rfl, rfl, rfl, by simp [World.setCell], fun i _ hD => Below.heap_setCell w a v i hD⟩
theorem Kept.below {w w' : World} (h : Ext w w') : Below w.heap.size w w' := ⟨h.os, h.tape, h.output, h.size, fun k hk => h.blk k hk trivial⟩
theorem Kept.cell {D : Nat → Prop} {w w' : World} (h : Kept D w w') {a : Addr} {v : Value} (hc : w.cell? a = some v) (hD : D a.block) : w'.cell? a = some v := by
  have hlt := World.block_lt_of_cell? w a hc
  rw [World.cell?_of_block (h.blk a.block hlt hD)]; exact hc

/-- Block g is just these cells, of this element's type, none frozen. -/
def Blk (w : World) (g : Nat) (t : TypeId) (cs : List Value) : Prop := w.heap[g]? = some (.cells cs.toArray t (0, 0))
theorem Blk.lt {w : World} {g : Nat} {t : TypeId} {cs : List Value} (h : Blk w g t cs) : g < w.heap.size := (Array.getElem?_eq_some_iff.1 h).1
theorem Blk.cell {w : World} {g : Nat} {t : TypeId} {cs : List Value} (h : Blk w g t cs) {i : Nat} {v : Value} (hv : cs[i]? = some v) : w.cell? (ad g i) = some v := by
  unfold Blk at h; simp [World.cell?, h, hv]
theorem Blk.frozen {w : World} {g : Nat} {t : TypeId} {cs : List Value} (h : Blk w g t cs) (i : Nat) : w.frozen? (ad g i) = false := by
  unfold Blk at h; simp [World.frozen?, h]
theorem Blk.new (w : World) (t : TypeId) (cs : List Value) : Blk (w.alloc (.cells cs.toArray t)) w.heap.size t cs := by
  unfold Blk World.alloc; simp
theorem Blk.kept {D : Nat → Prop} {w w' : World} {g : Nat} {t : TypeId} {cs : List Value} (h : Blk w g t cs) (k : Kept D w w') (hD : D g) : Blk w' g t cs := (k.blk g h.lt hD).trans h
theorem Blk.ext {w w' : World} {g : Nat} {t : TypeId} {cs : List Value} (h : Blk w g t cs) (k : Ext w w') : Blk w' g t cs := h.kept k trivial
theorem Blk.set {w : World} {g : Nat} {t : TypeId} {cs : List Value} (h : Blk w g t cs) (i : Nat) (v : Value) : Blk (w.setCell (ad g i) v) g t (cs.set i v) := by
  unfold Blk at *
  simp [World.setCell, Array.getElem?_modify, h]
theorem Blk.uniq {w : World} {g : Nat} {t t' : TypeId} {cs cs' : List Value} (h : Blk w g t cs) (h' : Blk w g t' cs') : t = t' ∧ cs = cs' := by
  unfold Blk at *; rw [h] at h'
  injection h' with h'; injection h' with h1 h2
  exact ⟨h2, by simpa using h1⟩

/-! ### the types of the program, as far as a rule asks -/
def oneCell (P : Program) (t : TypeId) : Bool := match P.underlying t with | some (.struct _) | some (.array _ _) | none => false | _ => true
class CellTy (P : Program) (t : TypeId) : Prop where h : oneCell P t = true
def aggSize (P : Program) (t : TypeId) : Option Nat := match P.underlying t with | some (.struct _) | some (.array _ _) => (P.info? t).map (·.size) | _ => none
class AggTy (P : Program) (t : TypeId) (n : outParam Nat) : Prop where h : aggSize P t = some n
def sliceOf (P : Program) (t : TypeId) : Option (TypeId × Nat) := match P.underlying t with | some (.slice e) => (P.info? e).map fun i => (e, i.size) | _ => none
class SliceTy (P : Program) (t : TypeId) (e : outParam TypeId) (sz : outParam Nat) : Prop where h : sliceOf P t = some (e, sz)
def fldOff (P : Program) (s : TypeId) (f : Nat) : Option (TypeId × Nat) := match P.underlying s with
  | some (.struct fs) => match fs[f]? with | some fd => (match P.info? fd.type with | some i => if i.size = 0 then none else some (fd.type, fd.offset) | none => none) | none => none
  | _ => none
class FldTy (P : Program) (s : TypeId) (f : Nat) (t : outParam TypeId) (o : outParam Nat) : Prop where h : fldOff P s f = some (t, o)
def zeroOf (P : Program) (t : TypeId) : Option Value := (P.info? t).bind (·.zero)
class ZeroTy (P : Program) (t : TypeId) (zv : outParam Value) : Prop where h : zeroOf P t = some zv
def bytesOf (P : Program) (t : TypeId) : Option Nat := (P.info? t).map (·.bytes)
class BytesTy (P : Program) (t : TypeId) (n : outParam Nat) : Prop where h : bytesOf P t = some n
def intOf (P : Program) (t : TypeId) : Option IntKind := match P.underlying t with | some (.int k) => some k | _ => none
class IntTy (P : Program) (t : TypeId) (k : outParam IntKind) : Prop where h : intOf P t = some k
def isStr (P : Program) (t : TypeId) : Bool := match P.underlying t with | some .string => true | _ => false
class StrTy (P : Program) (t : TypeId) : Prop where h : isStr P t = true
class Enters (P : Program) (f : FuncId) : Prop where h : ∀ args w, (callFunc f args).run P w = .ok (.enter f args) w
theorem Enters.of {P : Program} {f : FuncId} {fn : Func} (hf : P.funcs[f]? = some fn) (hname : (fn.name == "runtime.NumGoroutine") = false) (hb : fn.body.isSome = true) : Enters P f :=
  ⟨fun args w => by
    have h1 : fn.name ≠ "runtime.NumGoroutine" := by simpa using hname
    obtain ⟨c, hc⟩ := Option.isSome_iff_exists.1 hb
    simp [callFunc, hf, h1, hc]⟩

section
variable {P : Program}

theorem CellTy.und {t : TypeId} (h : CellTy P t) : ∃ d, P.underlying t = some d ∧ (match d with | .struct _ | .array _ _ => true | _ => false) = false := by
  have := h.h
  unfold oneCell at this
  cases hd : P.underlying t with
  | none => rw [hd] at this; cases this
  | some d => refine ⟨d, rfl, ?_⟩; rw [hd] at this; cases d <;> first | rfl | cases this
theorem run_isAgg_cell {t : TypeId} (h : CellTy P t) (w : World) : (isAgg t).run P w = .ok false w := by
  obtain ⟨d, hd, he⟩ := h.und
  unfold isAgg
  rw [Sem.run_bind, run_underlying hd]
  cases d <;> first | rfl | cases he
theorem aggSize_spec {t : TypeId} {n : Nat} (h : aggSize P t = some n) : (∃ d, P.underlying t = some d ∧ (match d with | .struct _ | .array _ _ => true | _ => false) = true) ∧ ∃ i, P.info? t = some i ∧ i.size = n := by
  unfold aggSize at h
  split at h
  · rename_i fs hd; exact ⟨⟨_, hd, rfl⟩, by cases hi : P.info? t <;> simp_all⟩
  · rename_i l e hd; exact ⟨⟨_, hd, rfl⟩, by cases hi : P.info? t <;> simp_all⟩
  · cases h
theorem run_isAgg_agg {t : TypeId} {n : Nat} (h : aggSize P t = some n) (w : World) : (isAgg t).run P w = .ok true w := by
  obtain ⟨⟨d, hd, he⟩, _⟩ := aggSize_spec h
  unfold isAgg
  rw [Sem.run_bind, run_underlying hd]
  cases d <;> first | rfl | cases he
theorem run_sizeOf {t : TypeId} {i : TypeInfo} (h : P.info? t = some i) (w : World) : (sizeOf t).run P w = .ok i.size w := by
  simp [sizeOf, typeInfo, h]

/-- The cells from an address on. -/
def CellsAt (w : World) (b o : Nat) (cs : List Value) : Prop := ∀ j v, cs[j]? = some v → w.cell? (ad b (o + j)) = some v
theorem CellsAt.kept {D : Nat → Prop} {w w' : World} {b o : Nat} {cs : List Value} (h : CellsAt w b o cs) (k : Kept D w w') (hD : D b) : CellsAt w' b o cs := fun j v hv => k.cell (h j v hv) hD
theorem CellsAt.app {w : World} {b o : Nat} {xs ys : List Value} (h : CellsAt w b o (xs ++ ys)) : CellsAt w b o xs ∧ CellsAt w b (o + xs.length) ys :=
  ⟨fun j v hv => h j v (by rw [List.getElem?_append_left (by have := (List.getElem?_eq_some_iff.1 hv).1; exact this)]; exact hv),
   fun j v hv => by have := h (xs.length + j) v (by rw [List.getElem?_append_right (by omega)]; simpa using hv); rwa [← Nat.add_assoc] at this⟩

theorem run_loadCells {w : World} {b : Nat} : ∀ (cs : List Value) (o i : Nat) (acc : Array Value), (∀ j v, cs[j]? = some v → w.cell? (ad b (o + (i + j))) = some v) →
    (loadCellsFrom (ad b o) i cs.length acc).run P w = .ok (acc ++ cs.toArray) w
  | [], o, i, acc, _ => by simp [loadCellsFrom]
  | c :: cs, o, i, acc, h => by
    have h0 := h 0 c rfl
    have ih := run_loadCells cs o (i + 1) (acc.push c) (fun j v hv => by have := h (j + 1) v hv; rwa [show i + (j + 1) = i + 1 + j from by omega] at this)
    simp only [List.length_cons, loadCellsFrom, Sem.run_bind, run_load, add_ad]
    rw [show o + i = o + (i + 0) from rfl, h0]
    simp only [Result.andThen_ok, ih]
    simp

theorem holds_cell {t : TypeId} [h : CellTy P t] {w : World} {a : Addr} {v : Value} (hc : w.cell? a = some v) : Holds P t a w v := fun w0 hw => by
  subst hw
  have hc : w0.cell? a = some v := hc
  unfold loadVar
  rw [Sem.run_bind, run_isAgg_cell h]
  simp [hc]
theorem holds_agg {t : TypeId} {n : Nat} [h : AggTy P t n] {w : World} {b o : Nat} {cs : List Value} (hc : CellsAt w b o cs) (hn : cs.length = n) : Holds P t (ad b o) w (.agg cs.toArray) := fun w0 hw => by
  subst hw
  obtain ⟨_, i, hi, hs⟩ := aggSize_spec h.h
  unfold loadVar
  rw [Sem.run_bind, run_isAgg_agg h.h]
  simp only [Result.andThen_ok, if_true, Sem.run_bind, run_sizeOf hi, hs]
  have := run_loadCells (P := P) (w := w0) (b := b) cs o 0 #[] (fun j v hv => by have := hc j v hv; simpa using this)
  unfold loadCells
  rw [← hn, this]
  simp

theorem load_of {S : World → Prop} {t : TypeId} {a : Addr} {v : Value} {K : Value → Prop} (h : ∀ w, S w → Holds P t a w v) (k : K v) : LoadG P S t (.pointer (some a)) K := by
  rw [LoadG_eq]
  refine ⟨v, fun w hw w0 e => ?_, k⟩
  have := h w hw w0 e
  rw [run_vS, show (Instr.loadAt t (.pointer (some a))).run P w0 = (loadVar t a).run P w0 from rfl, this]
  exact ⟨rfl, e⟩
/-- A load of one cell. -/
theorem ld {t : TypeId} [CellTy P t] {w : World} {a : Addr} (v : Value) {K : Value → Prop} (hc : w.cell? a = some v) (k : K v) : LoadG P (fun u => u = w) t (.pointer (some a)) K :=
  load_of (fun u e => by subst e; exact holds_cell hc) k
theorem ldS {S : World → Prop} {t : TypeId} [CellTy P t] {a : Addr} (v : Value) {K : Value → Prop} (hc : ∀ u, S u → u.cell? a = some v) (k : K v) : LoadG P S t (.pointer (some a)) K :=
  load_of (fun u hu => holds_cell (hc u hu)) k
theorem ldA {t : TypeId} {n : Nat} [AggTy P t n] {w : World} {b o : Nat} (cs : List Value) {K : Value → Prop} (hc : CellsAt w b o cs) (hn : cs.length = n) (k : K (.agg cs.toArray)) : LoadG P (fun u => u = w) t (.pointer (some (ad b o))) K :=
  load_of (fun u e => by subst e; exact holds_agg hc hn) k
theorem ldAS {S : World → Prop} {t : TypeId} {n : Nat} [AggTy P t n] {b o : Nat} (cs : List Value) {K : Value → Prop} (hc : ∀ u, S u → CellsAt u b o cs) (hn : cs.length = n) (k : K (.agg cs.toArray)) : LoadG P S t (.pointer (some (ad b o))) K :=
  load_of (fun u hu => holds_agg (hc u hu) hn) k

/-! ### tests, arithmetic -/
theorem cD {p : Prop} [Decidable p] {K : Value → Prop} (h1 : p → K (.bool true)) (h2 : ¬ p → K (.bool false)) : CmpP p K := .of ⟨h1, h2⟩
theorem cDT {p : Prop} [Decidable p] {K : Value → Prop} (hp : p) (k : K (.bool true)) : CmpP p K := .of ⟨fun _ => k, fun h => absurd hp h⟩
theorem cDF {p : Prop} [Decidable p] {K : Value → Prop} (hp : ¬ p) (k : K (.bool false)) : CmpP p K := .of ⟨fun h => absurd h hp, fun _ => k⟩
theorem cE {x y : Int} {K : Value → Prop} (h1 : x = y → K (.bool true)) (h2 : x ≠ y → K (.bool false)) : CmpP (x = y) K := .of ⟨h1, h2⟩
theorem cN {x y : Int} {K : Value → Prop} (h1 : x ≠ y → K (.bool true)) (h2 : x = y → K (.bool false)) : CmpP (x ≠ y) K := .of ⟨h1, fun h => h2 (by omega)⟩
/-- .. whose value alone is asked. -/
theorem cB {p : Prop} [Decidable p] {K : Value → Prop} (b : Bool) (hb : b = decide p) (k : K (.bool b)) : CmpP p K := .of ⟨fun h => by rw [decide_eq_true h] at hb; subst hb; exact k, fun h => by rw [decide_eq_false h] at hb; subst hb; exact k⟩
theorem arI {n : Int} {K : Value → Prop} (h : -9223372036854775808 ≤ n ∧ n ≤ 9223372036854775807) (k : K (.int .i64 n)) : ArP .i64 n K := by
  rw [ArP_eq]
  have : IntKind.i64.wrap n = n := IntWalk.i64_in n h
  rw [this]; exact k
theorem arW {kd : IntKind} {n : Int} {K : Value → Prop} (k : K (.int kd (kd.wrap n))) : ArP kd n K := by rw [ArP_eq]; exact k
theorem bitR {op : BinOp} {kd : IntKind} {a b : Int} {K : Value → Prop} (c : Int) (h : bits op kd a b = c) (k : K (.int kd c)) : BitP op kd a b K := by rw [BitP_eq]; rw [h]; exact k
theorem quoI {a b : Int} {K : Value → Prop} (hb : 0 < b) (ha : 0 ≤ a) (hm : a ≤ 9223372036854775807) (k : K (.int .i64 (a / b))) : QuoP .i64 a b K := by
  rw [QuoP_eq]
  refine ⟨by omega, ?_⟩
  rw [Int.tdiv_eq_ediv_of_nonneg ha]
  have h1 : 0 ≤ a / b := Int.ediv_nonneg ha (by omega)
  have h2 : a / b ≤ a := Int.ediv_le_self b ha
  rw [IntWalk.i64_in (a / b) ⟨by omega, by omega⟩]
  exact k
theorem remI {kd : IntKind} {a b : Int} {K : Value → Prop} (hb : 0 < b) (ha : 0 ≤ a) (k : K (.int kd (a % b))) : RemP kd a b K := by
  rw [RemP_eq]
  exact ⟨by omega, by rw [Int.tmod_eq_emod_of_nonneg ha]; exact k⟩
theorem shlR {kd : IntKind} {a b : Int} {K : Value → Prop} (hb : 0 ≤ b) (k : K (.int kd (kd.wrap (a * 2 ^ (min b.toNat kd.bits))))) : ShlP kd a b K := by rw [ShlP_eq]; exact ⟨hb, k⟩
theorem shrR {kd : IntKind} {a b : Int} {K : Value → Prop} (hb : 0 ≤ b) (k : K (.int kd (a.fdiv (2 ^ (min b.toNat kd.bits))))) : ShrP kd a b K := by rw [ShrP_eq]; exact ⟨hb, k⟩
theorem conv {s t : TypeId} {k0 k : IntKind} {n : Int} {K : Value → Prop} [h0 : IntTy P s k0] [h : IntTy P t k] (kk : K (.int k (k.wrap n))) : ConvP P s t (.int k0 n) K := by
  rw [ConvP_eq]
  have hs : P.underlying s = some (.int k0) := by
    have := h0.h; unfold intOf at this; split at this <;> simp_all
  have ht : P.underlying t = some (.int k) := by
    have := h.h; unfold intOf at this; split at this <;> simp_all
  refine pure_vval (fun w => ?_) kk
  simp [convert, run_underlying hs, run_underlying ht, Conv.intToInt]

/-! ### addresses, fields, slices -/
theorem sliceOf_spec {t e : TypeId} {sz : Nat} (h : sliceOf P t = some (e, sz)) : P.underlying t = some (.slice e) ∧ ∃ i, P.info? e = some i ∧ i.size = sz := by
  unfold sliceOf at h
  split at h
  · rename_i e' he
    cases hi : P.info? e' with
    | none => rw [hi] at h; cases h
    | some i => rw [hi] at h; simp at h; obtain ⟨rfl, rfl⟩ := h; exact ⟨he, i, hi, rfl⟩
  · cases h
/-- An element's address. -/
theorem idx {t e : TypeId} {sz : Nat} [h : SliceTy P t e sz] {b o n c : Nat} {kd : IntKind} {i : Int} {K : Value → Prop} (k : Nat) (hi : i = k) (hk : k < n) (kk : K (.pointer (some (ad b (o + k * sz))))) :
    IdxAP P t (.slice (some (ad b o)) n c) (.int kd i) K := by
  rw [IdxAP_eq]
  obtain ⟨hu, inf, hinf, hs⟩ := sliceOf_spec h.h
  subst hi
  refine pure_vval (fun w => ?_) kk
  have hc : (0 : Int) ≤ (k : Int) ∧ (k : Int) < (n : Int) := by omega
  simp [Instr.indexAt, asIntOf, run_underlying hu, run_sizeOf hinf, hs, add_ad, hk]
theorem fldOff_spec {s : TypeId} {f : Nat} {t : TypeId} {o : Nat} (h : fldOff P s f = some (t, o)) : ∃ fs fd, P.underlying s = some (.struct fs) ∧ fs[f]? = some fd ∧ fd.type = t ∧ fd.offset = o ∧ ∃ i, P.info? t = some i ∧ i.size ≠ 0 := by
  unfold fldOff at h
  split at h
  · rename_i fs hs
    split at h
    · rename_i fd hf
      split at h
      · rename_i i hi
        split at h
        · cases h
        · rename_i hz
          simp at h
          obtain ⟨rfl, rfl⟩ := h
          exact ⟨fs, fd, hs, hf, rfl, rfl, i, hi, hz⟩
      · cases h
    · cases h
  · cases h
/-- A field's address. -/
theorem fldA {s t : TypeId} {f o : Nat} [h : FldTy P s f t o] {b q : Nat} {K : Value → Prop} (kk : K (.pointer (some (ad b (q + o))))) : FldAP P s (.pointer (some (ad b q))) f K := by
  rw [FldAP_eq]
  obtain ⟨fs, fd, hs, hf, rfl, rfl, i, hi, hz⟩ := fldOff_spec h.h
  refine pure_vval (fun w => ?_) kk
  simp [Instr.fieldAt, run_underlying hs, hf, Instr.sureAddr, fieldPlace, run_sizeOf hi, hz, add_ad]
/-- A field of a struct that is at hand, of one cell. -/
theorem fldV {s t : TypeId} {f o : Nat} [h : FldTy P s f t o] [ht : CellTy P t] {cs : List Value} (v : Value) {K : Value → Prop} (hv : cs[o]? = some v) (kk : K v) : FldVP P s (.agg cs.toArray) f K := by
  rw [FldVP_eq]
  obtain ⟨fs, fd, hs, hf, rfl, rfl, i, hi, hz⟩ := fldOff_spec h.h
  refine pure_vval (fun w => ?_) kk
  simp [Instr.field, run_underlying hs, hf, asAgg, part, run_isAgg_cell ht, hv]
theorem fldVA {s t : TypeId} {f o n : Nat} [h : FldTy P s f t o] [ht : AggTy P t n] {cs : List Value} {K : Value → Prop} (kk : K (.agg ((cs.drop o).take n).toArray)) : FldVP P s (.agg cs.toArray) f K := by
  rw [FldVP_eq]
  obtain ⟨fs, fd, hs, hf, rfl, rfl, i, hi, hz⟩ := fldOff_spec h.h
  obtain ⟨_, i2, hi2, hs2⟩ := aggSize_spec ht.h
  refine pure_vval (fun w => ?_) kk
  simp [Instr.field, run_underlying hs, hf, asAgg, part, run_isAgg_agg ht.h, run_sizeOf hi2, hs2]
theorem len {t e : TypeId} {sz : Nat} [h : SliceTy P t e sz] {A : Option Addr} {n c : Nat} {K : Value → Prop} (kk : K (.int .i64 n)) : LenP P t (.slice A n c) K := by
  rw [LenP_eq]
  obtain ⟨hu, _⟩ := sliceOf_spec h.h
  refine pure_vval (fun w => ?_) kk
  simp [Builtin.len_, run_underlying hu, goInt]
theorem lenS {t : TypeId} [h : StrTy P t] {s : ByteArray} {K : Value → Prop} (kk : K (.int .i64 s.size)) : LenP P t (.string s) K := by
  rw [LenP_eq]
  have hu : P.underlying t = some .string := by have := h.h; unfold isStr at this; split at this <;> simp_all
  refine pure_vval (fun w => ?_) kk
  simp [Builtin.len_, run_underlying hu, goInt]

/-! ### calls, returns -/
theorem call_of {f : FuncId} [h : Enters P f] {args : Array Value} {w : World} {K R : VK} (c : CallZ P f args w R) (k : ∀ v w', R v w' → K v w') : CallP P f args K w := by
  rw [CallP_eq]
  intro w0 hw
  rw [h.h]
  exact (c w0 hw).mono fun e w' ⟨v, he, hv⟩ => ⟨v, he, k _ _ hv⟩
theorem callQ {S : World → Prop} {f : FuncId} [h : Enters P f] {args : Array Value} {v : Value} {K : Value → Prop} (c : ∀ w, S w → CallZ P f args w (fun u w' => u = v ∧ w' = w)) (k : K v) : CallQ P S f args K := by
  rw [CallQ_eq]
  refine ⟨v, fun w hw w0 e => ?_, k⟩
  rw [h.h]
  exact c w hw w0 e
theorem ret {rs : List ResultVar} {F : Fr} {R : VK} {w : World} (h : VRes P F w rs [] (fun vs => R (resV vs) w)) : RetP P rs F [] R w := by rw [RetP_eq]; exact ⟨w, rfl, h⟩
theorem ret1 {t : Nat} {F : Fr} {R : VK} {w : World} (v : Value) (hv : F t = v) (h : R v w) : RetP P [.tmp t] F [] R w := by rw [RetP_eq]; exact ⟨w, rfl, by subst hv; exact h⟩
theorem ret0 {F : Fr} {R : VK} {w : World} (h : R (.tuple #[]) w) : RetP P [] F [] R w := by rw [RetP_eq]; exact ⟨w, rfl, h⟩
theorem ret2 {t u : Nat} {F : Fr} {R : VK} {w : World} (v v' : Value) (hv : F t = v) (hv' : F u = v') (h : R (.tuple #[v, v']) w) : RetP P [.tmp t, .tmp u] F [] R w := by
  rw [RetP_eq]; exact ⟨w, rfl, by subst hv; subst hv'; exact h⟩
theorem ret3 {t u x : Nat} {F : Fr} {R : VK} {w : World} (v v' v'' : Value) (hv : F t = v) (hv' : F u = v') (hv'' : F x = v'') (h : R (.tuple #[v, v', v'']) w) : RetP P [.tmp t, .tmp u, .tmp x] F [] R w := by
  rw [RetP_eq]; exact ⟨w, rfl, by subst hv; subst hv'; subst hv''; exact h⟩
theorem resL {t : TypeId} {a : Addr} {w : World} (v : Value) {K : Value → Prop} (h : Holds P t a w v) (k : K v) : ResLP P t (.pointer (some a)) w K := by rw [ResLP_eq]; exact ⟨a, v, rfl, h, k⟩

/-! ### a region that draws -/
theorem draw (S : World → Prop) (qf ex : List Nat := []) {ops : Array Oper} {K : Fr → World → Prop} {F : Fr} {w : World} (hm : P.follows .mixedOrders = true) (hok : drawOk ops [] (mkPlan qf ex ops.toList ops.size 0) = true) (hS : S w)
    (h : VPlan P ops.toList K (mkPlan qf ex ops.toList ops.size 0) S F w) : DrawH P ops K F w := by rw [DrawH_eq]; exact ⟨hm, _, _, S, hok, hS, h⟩
/-- .. that only reads, and calls what leaves the world alone: the text's own order. -/
theorem drawQ {ops : Array Oper} {K : Fr → World → Prop} {F : Fr} {w : World} (hm : P.follows .mixedOrders = true) (hok : drawOk ops [] (seqPlan ops.toList.length 0) = true)
    (h : VPlan P ops.toList K (seqPlan ops.toList.length 0) (fun u => u = w) F w) : DrawH P ops K F w := by rw [DrawH_eq]; exact ⟨hm, _, _, fun u => u = w, hok, rfl, h⟩
/-- .. an order that is written out ('es': what is no read), under a condition on the world. -/
theorem drawO (os es : List Nat) (S : World → Prop) {ops : Array Oper} {K : Fr → World → Prop} {F : Fr} {w : World} (hm : P.follows .mixedOrders = true) (hok : drawOk ops [] (ordPlan es os) = true) (hS : S w)
    (h : VPlan P ops.toList K (ordPlan es os) S F w) : DrawH P ops K F w := by rw [DrawH_eq]; exact ⟨hm, _, _, S, hok, hS, h⟩
/-- .. every block that was there kept. -/
theorem drawX (os es : List Nat) {ops : Array Oper} {K : Fr → World → Prop} {F : Fr} {w : World} (hm : P.follows .mixedOrders = true) (hok : drawOk ops [] (ordPlan es os) = true)
    (h : VPlan P ops.toList K (ordPlan es os) (fun u => Ext w u) F w) : DrawH P ops K F w := by rw [DrawH_eq]; exact ⟨hm, _, _, _, hok, Kept.refl _ _, h⟩
/-- .. a plan that is written out, with a barrier perhaps (B: what stands behind it). -/
theorem drawP (p : Plan) (B : List Nat) (S : World → Prop) {ops : Array Oper} {K : Fr → World → Prop} {F : Fr} {w : World} (hm : P.follows .mixedOrders = true) (hok : drawOk ops B p = true) (hS : S w)
    (h : VPlan P ops.toList K p S F w) : DrawH P ops K F w := by rw [DrawH_eq]; exact ⟨hm, p, B, S, hok, hS, h⟩
theorem barS {w : World} {C : (World → Prop) → Prop} (S : World → Prop) (h : S w) (c : C S) : BarP w C := ⟨S, h, c⟩
/-- What a region that draws leaves may be said once, apart from what is done with it. -/
theorem draw_then {ops : Array Oper} {K K' : Fr → World → Prop} {F : Fr} {w : World} (h : DrawH P ops K' F w) (k : ∀ F' w', Off (wr ops.toList) F F' → K' F' w' → K F' w') : DrawH P ops K F w := by
  rw [DrawH_eq] at h ⊢
  obtain ⟨hm, p, B, S, h1, h2, h3⟩ := h
  exact ⟨hm, p, B, S, h1, h2, VPlan_mf wr_mem p S F F w (.refl _ _) k h3⟩
/-- Loads under 'every block that was there is kept'. -/
theorem ldX {t : TypeId} [CellTy P t] {w0 w : World} {a : Addr} (v : Value) {K : Value → Prop} (hc : w.cell? a = some v) (hx : Ext w w0 := by exact Kept.refl _ _) (k : K v) : LoadG P (fun u => Ext w0 u) t (.pointer (some a)) K :=
  ldS v (fun _ hu => (hx.ext hu).cell hc trivial) k
theorem strS {S : World → Prop} {w : World} {C : (World → Prop) → Prop} (h : S w) (c : C S) : StrP S w C := by rw [StrP_eq]; exact ⟨S, h, fun _ h => h, c⟩
theorem strE {S : World → Prop} {w : World} {C : (World → Prop) → Prop} (h : S w) (c : C (fun u => u = w)) : StrP S w C := by rw [StrP_eq]; exact ⟨fun u => u = w, rfl, fun u e => by subst e; exact h, c⟩
theorem strT {S : World → Prop} {w : World} {C : (World → Prop) → Prop} (S' : World → Prop) (h : S' w) (hs : ∀ u, S' u → S u) (c : C S') : StrP S w C := by rw [StrP_eq]; exact ⟨S', h, hs, c⟩
end
end Go.Proofs.YtpmmhcgghldaaaaDoor
