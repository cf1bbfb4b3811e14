/- Parts of the proof: Vt Vu Facts A1 A2. -/
import Derived.Test.YtpmfeplifgmdhaaM3
import Derived.Laws.AppendOwn
import Derived.Test.YtpmfeplifgmdhaaM2
import Derived.Test.YtpmfeplifgmdhaaProg

/- Own layer, part t: a loop that holds ranges over functions; a return behind several of these. Nothing of the program stands here. -/
namespace Go.Proofs.Ytpmfeplifgmdhaa
open Go Go.RowKit

section
variable {P : Program}
structure NextDP {α β : Type} (enc : α → β → List (Nat × Value)) (I : α → β → List Deferred → World → Prop) (μ : α → β → World → Nat) (m : Nat) (F : Fr) (ds : List Deferred) (w : World) : Prop where
  of_ ::
  un_ : ∃ (a : α) (b : β), Has F (enc a b) ∧ I a b ds w ∧ μ a b w < m
theorem nextD {α β : Type} {enc : α → β → List (Nat × Value)} {I : α → β → List Deferred → World → Prop} {μ : α → β → World → Nat} {m : Nat} {F : Fr} {ds : List Deferred} {w : World} (a : α) (b : β) (h : Has F (enc a b)) (hi : I a b ds w) (hm : μ a b w < m) : NextDP enc I μ m F ds w := ⟨a, b, h, hi, hm⟩
theorem loopD {c : Code} {K : KK} {F0 : Fr} {ds0 : List Deferred} {w0 : World} {α β : Type} (enc : α → β → List (Nat × Value)) (I : α → β → List Deferred → World → Prop) (μ : α → β → World → Nat)
    (a0 : α) (b0 : β) (h0 : Has F0 (enc a0 b0)) (hI : I a0 b0 ds0 w0)
    (step : ∀ (G : Fr) (a : α) (b : β) (ds : List Deferred) (w : World), I a b ds w →
      V P c (fun e F' ds' w' => match e with | .normal => NextDP enc I μ (μ a b w) F' ds' w' | e => K e F' ds' w') (upds (enc a b) (mix (writes c) F0 G)) ds w) :
    LoopH c (V P c) K F0 ds0 w0 := by
  rw [LoopH_eq]
  refine ⟨fun n F ds' w => Off (writes c) F0 F ∧ ∃ a b, Has F (enc a b) ∧ I a b ds' w ∧ μ a b w = n, ⟨_, .refl _ _, a0, b0, h0, hI, rfl⟩, ?_⟩
  rintro n F ds' w ⟨hf, a, b, hs, hi, rfl⟩
  have hm : mix (writes c) F0 F = F := funext fun j => by
    show (bif memN j (writes c) then F j else F0 j) = F j
    cases hb : memN j (writes c) with
    | true => rfl
    | false => exact (hf j hb).symm
  have h1 := step F a b ds' w hi
  rw [hm, upds_has hs] at h1
  refine V_mf c _ _ F ds' w (fun e F' ds'' w' hf' hd h => ?_) h1
  cases e with
  | normal =>
    have h : NextDP enc I μ (μ a b w) F' ds'' w' := h
    obtain ⟨a', b', a1, a2, a3⟩ := h.un_
    exact ⟨_, a3, hf.trans (hf' (fun _ e => by cases e)), a', b', a1, a2, rfl⟩
  | _ => exact h
/-- The marks that have been laid. -/
def Marks (lo : Nat) : List Deferred → World → Prop
  | [], _ => True
  | d :: ds, w => (∃ b, d.target = .collected b ∧ lo ≤ b ∧ w.heap[b]? = some (.deferred (some [])) ∧ ∀ d' ∈ ds, d'.target ≠ .collected b) ∧ Marks lo ds w
theorem Marks.lt {lo : Nat} : ∀ {ds : List Deferred} {w : World}, Marks lo ds w → ∀ d ∈ ds, ∀ b, d.target = .collected b → b < w.heap.size
  | d :: ds, w, ⟨⟨b, h1, h2, h3, h4⟩, h5⟩, x, hx, b', hb => by
    rcases List.mem_cons.1 hx with rfl | hx
    · rw [h1] at hb; injection hb with hb; subst hb
      exact (Array.getElem?_eq_some_iff.1 h3).1
    · exact h5.lt x hx b' hb
theorem Marks.kept {lo : Nat} {D : Nat → Prop} : ∀ {ds : List Deferred} {w w' : World}, Marks lo ds w → Kept D w w' → (∀ b, lo ≤ b → b < w.heap.size → w.heap[b]? = some (.deferred (some [])) → D b) → Marks lo ds w'
  | [], _, _, _, _, _ => trivial
  | _ :: _, _, _, ⟨⟨b, h1, h2, h3, h4⟩, h5⟩, k, hD => ⟨⟨b, h1, h2, (k.blk b (Array.getElem?_eq_some_iff.1 h3).1 (hD b h2 (Array.getElem?_eq_some_iff.1 h3).1 h3)).trans h3, h4⟩, h5.kept k hD⟩
theorem Marks.ext {lo : Nat} {ds : List Deferred} {w w' : World} (h : Marks lo ds w) (k : Ext w w') : Marks lo ds w' := h.kept k fun _ _ _ _ => trivial
theorem Marks.add {lo b : Nat} {ds : List Deferred} {w w' : World} (h : Marks lo ds w) (k : Ext w w') (hb : w.heap.size ≤ b) (hlo : lo ≤ b) (hw : w'.heap[b]? = some (.deferred (some []))) : Marks lo ({ target := .collected b, args := #[] } :: ds) w' :=
  ⟨⟨b, rfl, hlo, hw, fun d' hd e => by have := h.lt d' hd b e; omega⟩, h.ext k⟩
theorem Marks.shut {lo : Nat} : ∀ {ds : List Deferred} {w : World}, Marks lo ds w → ∃ w', shutMarks ds w = some w' ∧ Kept (fun b => b < lo) w w'
  | [], w, _ => ⟨w, rfl, .refl _ _⟩
  | d :: ds, w, ⟨⟨b, h1, h2, h3, h4⟩, h5⟩ => by
    have k : Kept (fun c => c ≠ b) w (w.putObj b (.deferred none)) := Kept.putObj w b _
    have h6 : Marks lo ds (w.putObj b (.deferred none)) := by
      clear h2
      induction ds with
      | nil => trivial
      | cons x r ih =>
        obtain ⟨⟨c, g1, g2, g3, g4⟩, g5⟩ := h5
        have hne : c ≠ b := fun e => h4 x List.mem_cons_self (e ▸ g1)
        exact ⟨⟨c, g1, g2, (k.blk c (Array.getElem?_eq_some_iff.1 g3).1 hne).trans g3, g4⟩, ih (fun y hy => h4 y (List.mem_cons_of_mem _ hy)) g5⟩
    obtain ⟨w', h7, h8⟩ := Marks.shut h6
    refine ⟨w', ?_, (k.weak fun i _ hi => by omega).trans h8⟩
    unfold shutMarks
    rw [h1]
    simp only [h3]
    exact h7
/-- A return behind marks. -/
theorem retMs {rs : List ResultVar} {F : Fr} {R : VK} {lo : Nat} {ds : List Deferred} {w : World} (hm : Marks lo ds w) (h : ∀ w', Kept (fun b => b < lo) w w' → VRes P F w' rs [] (fun vs => R (resV vs) w')) : RetP P rs F ds R w := by
  rw [RetP_eq]
  obtain ⟨w', h1, h2⟩ := hm.shut
  exact ⟨w', h1, h w' h2⟩
end
end Go.Proofs.Ytpmfeplifgmdhaa

/- Own layer, part u: 'clear' of a slice; a slice of a known block. Nothing of the program stands here. -/
namespace Go.Proofs.Ytpmfeplifgmdhaa
open Go Go.RowKit

section
variable {P : Program} {X : XK}
theorem zeroCells_one (zs : List Value) (hz : (zs.all fun v => v.oneCell') = true) (n : Nat) : ∀ v ∈ (Builtin.zeroCells zs.toArray n).toList, v.oneCell' = true := by
  intro v hv
  unfold Builtin.zeroCells at hv
  simp only [List.size_toArray, Array.toList_map, Array.toList_range, List.mem_map, List.mem_range] at hv
  obtain ⟨i, hi, rfl⟩ := hv
  have hpos : 0 < zs.length := by
    rcases Nat.eq_zero_or_pos zs.length with h | h
    · rw [h, Nat.mul_zero] at hi; omega
    · exact h
  have hlt : i % zs.length < zs.toArray.size := by simpa using Nat.mod_lt i hpos
  rw [getElem!_pos zs.toArray (i % zs.length) hlt]
  exact List.all_eq_true.1 hz _ (by simp)
/-- clear(xs[..]), xs's block known: what stands ahead of it stays. -/
theorem clr {t e : TypeId} {sz : Nat} {zv : Value} [h : SliceTy P t e sz] [hz : ZeroTy P e zv] {ty : TypeId} {cst : Array Bool} {g o n c : Nat} {cs : List Value} {w : World} {K : VK} (hb : Blk w g e cs) (hn : 0 < n) (ho : o + n * sz ≤ cs.length)
    (kk : ∀ w' cs', Blk w' g e cs' → cs'.take o = cs.take o → cs'.length = cs.length → Kept (fun b => b ≠ g) w w' → K (.tuple #[]) w') (hzs : (cellsL zv).length = sz := by rfl) (h1 : ((cellsL zv).all fun u => u.oneCell') = true := by rfl) :
    BuiP P .clear #[t] ty cst #[.slice (some (ad g o)) n c] K X w := by
  rw [BuiP_eq]
  refine OpS.x fun w0 hw => ?_
  subst hw
  obtain ⟨hu, _⟩ := sliceOf_spec h.h
  have hsz : (Builtin.zeroCells (cellsL zv).toArray n).toList.length = n * sz := by rw [Array.length_toList, size_zeroCells]; simp [hzs]
  obtain ⟨w', hr, hb', hk, _⟩ := run_storeCells' (P := P) (Builtin.zeroCells (cellsL zv).toArray n).toList o 0 cs w0 hb (by rw [hsz]; omega) (zeroCells_one _ h1 n)
  have hrun : (builtin .clear #[t] ty cst #[.slice (some (ad g o)) n c]).run P w0 = .ok (.value (.tuple #[])) w' := by
    have hbc : builtin .clear #[t] ty cst #[.slice (some (ad g o)) n c] = (do pure (.value (← Builtin.clear_ #[t] ty #[.slice (some (ad g o)) n c]))) := rfl
    rw [hbc, Sem.run_bind]
    have : (Builtin.clear_ #[t] ty #[.slice (some (ad g o)) n c]).run P w0 = .ok (.tuple #[]) w' := by
      obtain ⟨m, rfl⟩ : ∃ m, n = m + 1 := ⟨n - 1, by omega⟩
      simp [Builtin.clear_, run_underlying hu, run_zeroValue' hz.h, cellsL_eq, hr]
    rw [this]; rfl
  rw [hrun]
  refine kk (z w') _ hb' ?_ ?_ ⟨hk.os, hk.tape, hk.output, hk.size, hk.blk⟩
  · rw [Nat.add_zero, List.append_assoc, List.take_append_of_le_length (by rw [List.length_take]; omega), List.take_take, Nat.min_self]
  · simp only [List.length_append, List.length_take, List.length_drop, hsz]; omega
/-- xs[l:h], xs's address known. -/
theorem slcA {t e : TypeId} {sz : Nat} [hst : SliceTy P t e sz] {g o n c : Nat} {lo hi : Option Value} {K : Value → Prop} (l h : Nat) (hlo : IsB lo l 0) (hhi : IsB hi h n) (h1 : l ≤ h) (h2 : h ≤ c) (hlc : l < c)
    (kk : K (.slice (some (ad g (o + l * sz))) (h - l) (c - l))) : SlcP P t (.slice (some (ad g o)) n c) lo hi none K := by
  rw [SlcP_eq]
  obtain ⟨hu, inf, hinf, hs'⟩ := sliceOf_spec hst.h
  refine pure_vval (fun w => ?_) kk
  unfold Instr.sliceAt
  rw [Sem.run_bind, run_underlying hu]
  simp only [Result.andThen_ok]
  unfold Instr.slice
  rw [Sem.run_bind, run_underlying hu]
  simp only [Result.andThen_ok]
  rw [Sem.run_bind, run_sliceBounds hlo hhi h1 h2]
  simp only [Result.andThen_ok]
  rw [Sem.run_bind, run_sizeOf hinf, hs']
  have : ¬ (c = l) := by omega
  show Result.ok (Value.slice (if c = l then some (ad g o) else (some (ad g o)).map (·.add (l * sz))) (h - l) (c - l)) w = _
  rw [if_neg this]
  show Result.ok (Value.slice (some ((ad g o).add (l * sz))) (h - l) (c - l)) w = _
  rw [add_ad]
end
end Go.Proofs.Ytpmfeplifgmdhaa

/- Made by facts.py off the translation: what the rules ask of the program's types and functions. -/
namespace Go.Proofs.Ytpmfeplifgmdhaa
open Go
theorem mx : Try.prog.follows .mixedOrders = true := by kernel_rfl
instance cellTy0 : CellTy Try.prog 0 := ⟨by kernel_rfl⟩
instance stoTy0 : StoTy Try.prog 0 := ⟨by kernel_rfl⟩
instance zeroTy0 : ZeroTy Try.prog 0 (.tuple #[]) := ⟨by kernel_rfl⟩
instance bytesTy0 : BytesTy Try.prog 0 0 := ⟨by kernel_rfl⟩
instance cellTy1 : CellTy Try.prog 1 := ⟨by kernel_rfl⟩
instance stoTy1 : StoTy Try.prog 1 := ⟨by kernel_rfl⟩
instance zeroTy1 : ZeroTy Try.prog 1 (.nilFunc) := ⟨by kernel_rfl⟩
instance bytesTy1 : BytesTy Try.prog 1 8 := ⟨by kernel_rfl⟩
instance cellTy2 : CellTy Try.prog 2 := ⟨by kernel_rfl⟩
instance stoTy2 : StoTy Try.prog 2 := ⟨by kernel_rfl⟩
instance intTy2 : IntTy Try.prog 2 .i64 := ⟨by kernel_rfl⟩
instance zeroTy2 : ZeroTy Try.prog 2 (.int .i64 0) := ⟨by kernel_rfl⟩
instance bytesTy2 : BytesTy Try.prog 2 8 := ⟨by kernel_rfl⟩
instance cellTy3 : CellTy Try.prog 3 := ⟨by kernel_rfl⟩
instance stoTy3 : StoTy Try.prog 3 := ⟨by kernel_rfl⟩
instance intTy3 : IntTy Try.prog 3 .i64 := ⟨by kernel_rfl⟩
instance zeroTy3 : ZeroTy Try.prog 3 (.int .i64 0) := ⟨by kernel_rfl⟩
instance bytesTy3 : BytesTy Try.prog 3 8 := ⟨by kernel_rfl⟩
instance cellTy4 : CellTy Try.prog 4 := ⟨by kernel_rfl⟩
instance stoTy4 : StoTy Try.prog 4 := ⟨by kernel_rfl⟩
instance boolTy4 : BoolTy Try.prog 4 := ⟨by kernel_rfl⟩
instance zeroTy4 : ZeroTy Try.prog 4 (.bool false) := ⟨by kernel_rfl⟩
instance bytesTy4 : BytesTy Try.prog 4 1 := ⟨by kernel_rfl⟩
instance cellTy5 : CellTy Try.prog 5 := ⟨by kernel_rfl⟩
instance stoTy5 : StoTy Try.prog 5 := ⟨by kernel_rfl⟩
instance intTy5 : IntTy Try.prog 5 .u8 := ⟨by kernel_rfl⟩
instance zeroTy5 : ZeroTy Try.prog 5 (.int .u8 0) := ⟨by kernel_rfl⟩
instance bytesTy5 : BytesTy Try.prog 5 1 := ⟨by kernel_rfl⟩
instance cellTy6 : CellTy Try.prog 6 := ⟨by kernel_rfl⟩
instance stoTy6 : StoTy Try.prog 6 := ⟨by kernel_rfl⟩
instance intTy6 : IntTy Try.prog 6 .u8 := ⟨by kernel_rfl⟩
instance zeroTy6 : ZeroTy Try.prog 6 (.int .u8 0) := ⟨by kernel_rfl⟩
instance bytesTy6 : BytesTy Try.prog 6 1 := ⟨by kernel_rfl⟩
instance aggTy7 : AggTy Try.prog 7 4 := ⟨by kernel_rfl⟩
instance fldTy7_0 : FldTy Try.prog 7 0 2 0 := ⟨by kernel_rfl⟩
instance fldTy7_1 : FldTy Try.prog 7 1 3 1 := ⟨by kernel_rfl⟩
instance fldTy7_2 : FldTy Try.prog 7 2 4 2 := ⟨by kernel_rfl⟩
instance fldTy7_3 : FldTy Try.prog 7 3 6 3 := ⟨by kernel_rfl⟩
instance zeroTy7 : ZeroTy Try.prog 7 (.agg #[.int .i64 0, .int .i64 0, .bool false, .int .u8 0]) := ⟨by kernel_rfl⟩
instance bytesTy7 : BytesTy Try.prog 7 24 := ⟨by kernel_rfl⟩
instance aggTy8 : AggTy Try.prog 8 4 := ⟨by kernel_rfl⟩
instance fldTy8_0 : FldTy Try.prog 8 0 2 0 := ⟨by kernel_rfl⟩
instance fldTy8_1 : FldTy Try.prog 8 1 3 1 := ⟨by kernel_rfl⟩
instance fldTy8_2 : FldTy Try.prog 8 2 4 2 := ⟨by kernel_rfl⟩
instance fldTy8_3 : FldTy Try.prog 8 3 6 3 := ⟨by kernel_rfl⟩
instance zeroTy8 : ZeroTy Try.prog 8 (.agg #[.int .i64 0, .int .i64 0, .bool false, .int .u8 0]) := ⟨by kernel_rfl⟩
instance bytesTy8 : BytesTy Try.prog 8 24 := ⟨by kernel_rfl⟩
instance cellTy9 : CellTy Try.prog 9 := ⟨by kernel_rfl⟩
instance stoTy9 : StoTy Try.prog 9 := ⟨by kernel_rfl⟩
instance strTy9 : StrTy Try.prog 9 := ⟨by kernel_rfl⟩
instance zeroTy9 : ZeroTy Try.prog 9 (.string ⟨#[]⟩) := ⟨by kernel_rfl⟩
instance bytesTy9 : BytesTy Try.prog 9 16 := ⟨by kernel_rfl⟩
instance cellTy10 : CellTy Try.prog 10 := ⟨by kernel_rfl⟩
instance stoTy10 : StoTy Try.prog 10 := ⟨by kernel_rfl⟩
instance strTy10 : StrTy Try.prog 10 := ⟨by kernel_rfl⟩
instance zeroTy10 : ZeroTy Try.prog 10 (.string ⟨#[]⟩) := ⟨by kernel_rfl⟩
instance bytesTy10 : BytesTy Try.prog 10 16 := ⟨by kernel_rfl⟩
instance cellTy11 : CellTy Try.prog 11 := ⟨by kernel_rfl⟩
instance stoTy11 : StoTy Try.prog 11 := ⟨by kernel_rfl⟩
instance strTy11 : StrTy Try.prog 11 := ⟨by kernel_rfl⟩
instance zeroTy11 : ZeroTy Try.prog 11 (.string ⟨#[]⟩) := ⟨by kernel_rfl⟩
instance bytesTy11 : BytesTy Try.prog 11 16 := ⟨by kernel_rfl⟩
instance cellTy12 : CellTy Try.prog 12 := ⟨by kernel_rfl⟩
instance stoTy12 : StoTy Try.prog 12 := ⟨by kernel_rfl⟩
instance intTy12 : IntTy Try.prog 12 .u64 := ⟨by kernel_rfl⟩
instance zeroTy12 : ZeroTy Try.prog 12 (.int .u64 0) := ⟨by kernel_rfl⟩
instance bytesTy12 : BytesTy Try.prog 12 8 := ⟨by kernel_rfl⟩
instance aggTy13 : AggTy Try.prog 13 2 := ⟨by kernel_rfl⟩
instance fldTy13_0 : FldTy Try.prog 13 0 9 0 := ⟨by kernel_rfl⟩
instance fldTy13_1 : FldTy Try.prog 13 1 12 1 := ⟨by kernel_rfl⟩
instance zeroTy13 : ZeroTy Try.prog 13 (.agg #[.string ⟨#[]⟩, .int .u64 0]) := ⟨by kernel_rfl⟩
instance bytesTy13 : BytesTy Try.prog 13 24 := ⟨by kernel_rfl⟩
instance aggTy14 : AggTy Try.prog 14 2 := ⟨by kernel_rfl⟩
instance fldTy14_0 : FldTy Try.prog 14 0 9 0 := ⟨by kernel_rfl⟩
instance fldTy14_1 : FldTy Try.prog 14 1 12 1 := ⟨by kernel_rfl⟩
instance zeroTy14 : ZeroTy Try.prog 14 (.agg #[.string ⟨#[]⟩, .int .u64 0]) := ⟨by kernel_rfl⟩
instance bytesTy14 : BytesTy Try.prog 14 24 := ⟨by kernel_rfl⟩
instance cellTy15 : CellTy Try.prog 15 := ⟨by kernel_rfl⟩
instance stoTy15 : StoTy Try.prog 15 := ⟨by kernel_rfl⟩
instance zeroTy15 : ZeroTy Try.prog 15 (.pointer none) := ⟨by kernel_rfl⟩
instance bytesTy15 : BytesTy Try.prog 15 8 := ⟨by kernel_rfl⟩
instance cellTy16 : CellTy Try.prog 16 := ⟨by kernel_rfl⟩
instance stoTy16 : StoTy Try.prog 16 := ⟨by kernel_rfl⟩
instance zeroTy16 : ZeroTy Try.prog 16 (.pointer none) := ⟨by kernel_rfl⟩
instance bytesTy16 : BytesTy Try.prog 16 8 := ⟨by kernel_rfl⟩
instance cellTy17 : CellTy Try.prog 17 := ⟨by kernel_rfl⟩
instance stoTy17 : StoTy Try.prog 17 := ⟨by kernel_rfl⟩
instance zeroTy17 : ZeroTy Try.prog 17 (.pointer none) := ⟨by kernel_rfl⟩
instance bytesTy17 : BytesTy Try.prog 17 8 := ⟨by kernel_rfl⟩
instance aggTy18 : AggTy Try.prog 18 1 := ⟨by kernel_rfl⟩
instance fldTy18_0 : FldTy Try.prog 18 0 17 0 := ⟨by kernel_rfl⟩
instance zeroTy18 : ZeroTy Try.prog 18 (.agg #[.pointer none]) := ⟨by kernel_rfl⟩
instance bytesTy18 : BytesTy Try.prog 18 8 := ⟨by kernel_rfl⟩
instance aggTy19 : AggTy Try.prog 19 1 := ⟨by kernel_rfl⟩
instance fldTy19_0 : FldTy Try.prog 19 0 17 0 := ⟨by kernel_rfl⟩
instance zeroTy19 : ZeroTy Try.prog 19 (.agg #[.pointer none]) := ⟨by kernel_rfl⟩
instance bytesTy19 : BytesTy Try.prog 19 8 := ⟨by kernel_rfl⟩
instance cellTy20 : CellTy Try.prog 20 := ⟨by kernel_rfl⟩
instance stoTy20 : StoTy Try.prog 20 := ⟨by kernel_rfl⟩
instance zeroTy20 : ZeroTy Try.prog 20 (.nilIface) := ⟨by kernel_rfl⟩
instance bytesTy20 : BytesTy Try.prog 20 16 := ⟨by kernel_rfl⟩
instance cellTy21 : CellTy Try.prog 21 := ⟨by kernel_rfl⟩
instance stoTy21 : StoTy Try.prog 21 := ⟨by kernel_rfl⟩
instance intTy21 : IntTy Try.prog 21 .i32 := ⟨by kernel_rfl⟩
instance zeroTy21 : ZeroTy Try.prog 21 (.int .i32 0) := ⟨by kernel_rfl⟩
instance bytesTy21 : BytesTy Try.prog 21 4 := ⟨by kernel_rfl⟩
instance aggTy22 : AggTy Try.prog 22 2 := ⟨by kernel_rfl⟩
instance fldTy22_0 : FldTy Try.prog 22 0 3 0 := ⟨by kernel_rfl⟩
instance fldTy22_1 : FldTy Try.prog 22 1 3 1 := ⟨by kernel_rfl⟩
instance zeroTy22 : ZeroTy Try.prog 22 (.agg #[.int .i64 0, .int .i64 0]) := ⟨by kernel_rfl⟩
instance bytesTy22 : BytesTy Try.prog 22 16 := ⟨by kernel_rfl⟩
instance aggTy23 : AggTy Try.prog 23 2 := ⟨by kernel_rfl⟩
instance fldTy23_0 : FldTy Try.prog 23 0 3 0 := ⟨by kernel_rfl⟩
instance fldTy23_1 : FldTy Try.prog 23 1 3 1 := ⟨by kernel_rfl⟩
instance zeroTy23 : ZeroTy Try.prog 23 (.agg #[.int .i64 0, .int .i64 0]) := ⟨by kernel_rfl⟩
instance bytesTy23 : BytesTy Try.prog 23 16 := ⟨by kernel_rfl⟩
instance cellTy24 : CellTy Try.prog 24 := ⟨by kernel_rfl⟩
instance stoTy24 : StoTy Try.prog 24 := ⟨by kernel_rfl⟩
instance sliceTy24 : SliceTy Try.prog 24 66 12 := ⟨by kernel_rfl⟩
instance zeroTy24 : ZeroTy Try.prog 24 (.slice none 0 0) := ⟨by kernel_rfl⟩
instance bytesTy24 : BytesTy Try.prog 24 24 := ⟨by kernel_rfl⟩
instance cellTy25 : CellTy Try.prog 25 := ⟨by kernel_rfl⟩
instance stoTy25 : StoTy Try.prog 25 := ⟨by kernel_rfl⟩
instance sliceTy25 : SliceTy Try.prog 25 87 4 := ⟨by kernel_rfl⟩
instance zeroTy25 : ZeroTy Try.prog 25 (.slice none 0 0) := ⟨by kernel_rfl⟩
instance bytesTy25 : BytesTy Try.prog 25 24 := ⟨by kernel_rfl⟩
instance cellTy26 : CellTy Try.prog 26 := ⟨by kernel_rfl⟩
instance stoTy26 : StoTy Try.prog 26 := ⟨by kernel_rfl⟩
instance sliceTy26 : SliceTy Try.prog 26 113 2 := ⟨by kernel_rfl⟩
instance zeroTy26 : ZeroTy Try.prog 26 (.slice none 0 0) := ⟨by kernel_rfl⟩
instance bytesTy26 : BytesTy Try.prog 26 24 := ⟨by kernel_rfl⟩
instance cellTy27 : CellTy Try.prog 27 := ⟨by kernel_rfl⟩
instance stoTy27 : StoTy Try.prog 27 := ⟨by kernel_rfl⟩
instance sliceTy27 : SliceTy Try.prog 27 116 10 := ⟨by kernel_rfl⟩
instance zeroTy27 : ZeroTy Try.prog 27 (.slice none 0 0) := ⟨by kernel_rfl⟩
instance bytesTy27 : BytesTy Try.prog 27 24 := ⟨by kernel_rfl⟩
instance cellTy28 : CellTy Try.prog 28 := ⟨by kernel_rfl⟩
instance stoTy28 : StoTy Try.prog 28 := ⟨by kernel_rfl⟩
instance sliceTy28 : SliceTy Try.prog 28 119 4 := ⟨by kernel_rfl⟩
instance zeroTy28 : ZeroTy Try.prog 28 (.slice none 0 0) := ⟨by kernel_rfl⟩
instance bytesTy28 : BytesTy Try.prog 28 24 := ⟨by kernel_rfl⟩
instance cellTy29 : CellTy Try.prog 29 := ⟨by kernel_rfl⟩
instance stoTy29 : StoTy Try.prog 29 := ⟨by kernel_rfl⟩
instance sliceTy29 : SliceTy Try.prog 29 163 4 := ⟨by kernel_rfl⟩
instance zeroTy29 : ZeroTy Try.prog 29 (.slice none 0 0) := ⟨by kernel_rfl⟩
instance bytesTy29 : BytesTy Try.prog 29 24 := ⟨by kernel_rfl⟩
instance aggTy30 : AggTy Try.prog 30 10 := ⟨by kernel_rfl⟩
instance fldTy30_0 : FldTy Try.prog 30 0 9 0 := ⟨by kernel_rfl⟩
instance fldTy30_1 : FldTy Try.prog 30 1 3 1 := ⟨by kernel_rfl⟩
instance fldTy30_2 : FldTy Try.prog 30 2 23 2 := ⟨by kernel_rfl⟩
instance fldTy30_3 : FldTy Try.prog 30 3 24 4 := ⟨by kernel_rfl⟩
instance fldTy30_4 : FldTy Try.prog 30 4 25 5 := ⟨by kernel_rfl⟩
instance fldTy30_5 : FldTy Try.prog 30 5 26 6 := ⟨by kernel_rfl⟩
instance fldTy30_6 : FldTy Try.prog 30 6 27 7 := ⟨by kernel_rfl⟩
instance fldTy30_7 : FldTy Try.prog 30 7 28 8 := ⟨by kernel_rfl⟩
instance fldTy30_8 : FldTy Try.prog 30 8 29 9 := ⟨by kernel_rfl⟩
instance zeroTy30 : ZeroTy Try.prog 30 (.agg #[.string ⟨#[]⟩, .int .i64 0, .int .i64 0, .int .i64 0, .slice none 0 0, .slice none 0 0, .slice none 0 0, .slice none 0 0, .slice none 0 0, .slice none 0 0]) := ⟨by kernel_rfl⟩
instance bytesTy30 : BytesTy Try.prog 30 184 := ⟨by kernel_rfl⟩
instance aggTy31 : AggTy Try.prog 31 10 := ⟨by kernel_rfl⟩
instance fldTy31_0 : FldTy Try.prog 31 0 9 0 := ⟨by kernel_rfl⟩
instance fldTy31_1 : FldTy Try.prog 31 1 3 1 := ⟨by kernel_rfl⟩
instance fldTy31_2 : FldTy Try.prog 31 2 23 2 := ⟨by kernel_rfl⟩
instance fldTy31_3 : FldTy Try.prog 31 3 24 4 := ⟨by kernel_rfl⟩
instance fldTy31_4 : FldTy Try.prog 31 4 25 5 := ⟨by kernel_rfl⟩
instance fldTy31_5 : FldTy Try.prog 31 5 26 6 := ⟨by kernel_rfl⟩
instance fldTy31_6 : FldTy Try.prog 31 6 27 7 := ⟨by kernel_rfl⟩
instance fldTy31_7 : FldTy Try.prog 31 7 28 8 := ⟨by kernel_rfl⟩
instance fldTy31_8 : FldTy Try.prog 31 8 29 9 := ⟨by kernel_rfl⟩
instance zeroTy31 : ZeroTy Try.prog 31 (.agg #[.string ⟨#[]⟩, .int .i64 0, .int .i64 0, .int .i64 0, .slice none 0 0, .slice none 0 0, .slice none 0 0, .slice none 0 0, .slice none 0 0, .slice none 0 0]) := ⟨by kernel_rfl⟩
instance bytesTy31 : BytesTy Try.prog 31 184 := ⟨by kernel_rfl⟩
instance cellTy32 : CellTy Try.prog 32 := ⟨by kernel_rfl⟩
instance stoTy32 : StoTy Try.prog 32 := ⟨by kernel_rfl⟩
instance sliceTy32 : SliceTy Try.prog 32 3 1 := ⟨by kernel_rfl⟩
instance zeroTy32 : ZeroTy Try.prog 32 (.slice none 0 0) := ⟨by kernel_rfl⟩
instance bytesTy32 : BytesTy Try.prog 32 24 := ⟨by kernel_rfl⟩
instance cellTy33 : CellTy Try.prog 33 := ⟨by kernel_rfl⟩
instance stoTy33 : StoTy Try.prog 33 := ⟨by kernel_rfl⟩
instance sliceTy33 : SliceTy Try.prog 33 32 1 := ⟨by kernel_rfl⟩
instance zeroTy33 : ZeroTy Try.prog 33 (.slice none 0 0) := ⟨by kernel_rfl⟩
instance bytesTy33 : BytesTy Try.prog 33 24 := ⟨by kernel_rfl⟩
instance aggTy34 : AggTy Try.prog 34 7 := ⟨by kernel_rfl⟩
instance fldTy34_0 : FldTy Try.prog 34 0 32 0 := ⟨by kernel_rfl⟩
instance fldTy34_1 : FldTy Try.prog 34 1 32 1 := ⟨by kernel_rfl⟩
instance fldTy34_2 : FldTy Try.prog 34 2 33 2 := ⟨by kernel_rfl⟩
instance fldTy34_3 : FldTy Try.prog 34 3 33 3 := ⟨by kernel_rfl⟩
instance fldTy34_4 : FldTy Try.prog 34 4 33 4 := ⟨by kernel_rfl⟩
instance fldTy34_5 : FldTy Try.prog 34 5 33 5 := ⟨by kernel_rfl⟩
instance fldTy34_6 : FldTy Try.prog 34 6 33 6 := ⟨by kernel_rfl⟩
instance zeroTy34 : ZeroTy Try.prog 34 (.agg #[.slice none 0 0, .slice none 0 0, .slice none 0 0, .slice none 0 0, .slice none 0 0, .slice none 0 0, .slice none 0 0]) := ⟨by kernel_rfl⟩
instance bytesTy34 : BytesTy Try.prog 34 168 := ⟨by kernel_rfl⟩
instance aggTy35 : AggTy Try.prog 35 7 := ⟨by kernel_rfl⟩
instance fldTy35_0 : FldTy Try.prog 35 0 32 0 := ⟨by kernel_rfl⟩
instance fldTy35_1 : FldTy Try.prog 35 1 32 1 := ⟨by kernel_rfl⟩
instance fldTy35_2 : FldTy Try.prog 35 2 33 2 := ⟨by kernel_rfl⟩
instance fldTy35_3 : FldTy Try.prog 35 3 33 3 := ⟨by kernel_rfl⟩
instance fldTy35_4 : FldTy Try.prog 35 4 33 4 := ⟨by kernel_rfl⟩
instance fldTy35_5 : FldTy Try.prog 35 5 33 5 := ⟨by kernel_rfl⟩
instance fldTy35_6 : FldTy Try.prog 35 6 33 6 := ⟨by kernel_rfl⟩
instance zeroTy35 : ZeroTy Try.prog 35 (.agg #[.slice none 0 0, .slice none 0 0, .slice none 0 0, .slice none 0 0, .slice none 0 0, .slice none 0 0, .slice none 0 0]) := ⟨by kernel_rfl⟩
instance bytesTy35 : BytesTy Try.prog 35 168 := ⟨by kernel_rfl⟩
instance cellTy36 : CellTy Try.prog 36 := ⟨by kernel_rfl⟩
instance stoTy36 : StoTy Try.prog 36 := ⟨by kernel_rfl⟩
instance zeroTy36 : ZeroTy Try.prog 36 (.nilFunc) := ⟨by kernel_rfl⟩
instance bytesTy36 : BytesTy Try.prog 36 8 := ⟨by kernel_rfl⟩
instance cellTy37 : CellTy Try.prog 37 := ⟨by kernel_rfl⟩
instance stoTy37 : StoTy Try.prog 37 := ⟨by kernel_rfl⟩
instance zeroTy37 : ZeroTy Try.prog 37 (.nilFunc) := ⟨by kernel_rfl⟩
instance bytesTy37 : BytesTy Try.prog 37 8 := ⟨by kernel_rfl⟩
instance cellTy38 : CellTy Try.prog 38 := ⟨by kernel_rfl⟩
instance stoTy38 : StoTy Try.prog 38 := ⟨by kernel_rfl⟩
instance intTy38 : IntTy Try.prog 38 .i64 := ⟨by kernel_rfl⟩
instance zeroTy38 : ZeroTy Try.prog 38 (.int .i64 0) := ⟨by kernel_rfl⟩
instance bytesTy38 : BytesTy Try.prog 38 8 := ⟨by kernel_rfl⟩
instance cellTy39 : CellTy Try.prog 39 := ⟨by kernel_rfl⟩
instance stoTy39 : StoTy Try.prog 39 := ⟨by kernel_rfl⟩
instance zeroTy39 : ZeroTy Try.prog 39 (.tuple #[.int .i64 0, .int .i64 0]) := ⟨by kernel_rfl⟩
instance bytesTy39 : BytesTy Try.prog 39 0 := ⟨by kernel_rfl⟩
instance cellTy40 : CellTy Try.prog 40 := ⟨by kernel_rfl⟩
instance stoTy40 : StoTy Try.prog 40 := ⟨by kernel_rfl⟩
instance zeroTy40 : ZeroTy Try.prog 40 (.nilFunc) := ⟨by kernel_rfl⟩
instance bytesTy40 : BytesTy Try.prog 40 8 := ⟨by kernel_rfl⟩
instance cellTy41 : CellTy Try.prog 41 := ⟨by kernel_rfl⟩
instance stoTy41 : StoTy Try.prog 41 := ⟨by kernel_rfl⟩
instance zeroTy41 : ZeroTy Try.prog 41 (.nilFunc) := ⟨by kernel_rfl⟩
instance bytesTy41 : BytesTy Try.prog 41 8 := ⟨by kernel_rfl⟩
instance cellTy42 : CellTy Try.prog 42 := ⟨by kernel_rfl⟩
instance stoTy42 : StoTy Try.prog 42 := ⟨by kernel_rfl⟩
instance zeroTy42 : ZeroTy Try.prog 42 (.nilFunc) := ⟨by kernel_rfl⟩
instance bytesTy42 : BytesTy Try.prog 42 8 := ⟨by kernel_rfl⟩
instance cellTy43 : CellTy Try.prog 43 := ⟨by kernel_rfl⟩
instance stoTy43 : StoTy Try.prog 43 := ⟨by kernel_rfl⟩
instance sliceTy43 : SliceTy Try.prog 43 53 3 := ⟨by kernel_rfl⟩
instance zeroTy43 : ZeroTy Try.prog 43 (.slice none 0 0) := ⟨by kernel_rfl⟩
instance bytesTy43 : BytesTy Try.prog 43 24 := ⟨by kernel_rfl⟩
instance cellTy44 : CellTy Try.prog 44 := ⟨by kernel_rfl⟩
instance stoTy44 : StoTy Try.prog 44 := ⟨by kernel_rfl⟩
instance zeroTy44 : ZeroTy Try.prog 44 (.tuple #[.slice none 0 0, .int .i64 0]) := ⟨by kernel_rfl⟩
instance bytesTy44 : BytesTy Try.prog 44 0 := ⟨by kernel_rfl⟩
instance cellTy45 : CellTy Try.prog 45 := ⟨by kernel_rfl⟩
instance stoTy45 : StoTy Try.prog 45 := ⟨by kernel_rfl⟩
instance zeroTy45 : ZeroTy Try.prog 45 (.nilFunc) := ⟨by kernel_rfl⟩
instance bytesTy45 : BytesTy Try.prog 45 8 := ⟨by kernel_rfl⟩
instance cellTy46 : CellTy Try.prog 46 := ⟨by kernel_rfl⟩
instance stoTy46 : StoTy Try.prog 46 := ⟨by kernel_rfl⟩
instance sliceTy46 : SliceTy Try.prog 46 56 5 := ⟨by kernel_rfl⟩
instance zeroTy46 : ZeroTy Try.prog 46 (.slice none 0 0) := ⟨by kernel_rfl⟩
instance bytesTy46 : BytesTy Try.prog 46 24 := ⟨by kernel_rfl⟩
instance cellTy47 : CellTy Try.prog 47 := ⟨by kernel_rfl⟩
instance stoTy47 : StoTy Try.prog 47 := ⟨by kernel_rfl⟩
instance zeroTy47 : ZeroTy Try.prog 47 (.tuple #[.slice none 0 0, .int .i64 0]) := ⟨by kernel_rfl⟩
instance bytesTy47 : BytesTy Try.prog 47 0 := ⟨by kernel_rfl⟩
instance cellTy48 : CellTy Try.prog 48 := ⟨by kernel_rfl⟩
instance stoTy48 : StoTy Try.prog 48 := ⟨by kernel_rfl⟩
instance zeroTy48 : ZeroTy Try.prog 48 (.nilFunc) := ⟨by kernel_rfl⟩
instance bytesTy48 : BytesTy Try.prog 48 8 := ⟨by kernel_rfl⟩
instance cellTy49 : CellTy Try.prog 49 := ⟨by kernel_rfl⟩
instance stoTy49 : StoTy Try.prog 49 := ⟨by kernel_rfl⟩
instance zeroTy49 : ZeroTy Try.prog 49 (.nilFunc) := ⟨by kernel_rfl⟩
instance bytesTy49 : BytesTy Try.prog 49 8 := ⟨by kernel_rfl⟩
instance cellTy50 : CellTy Try.prog 50 := ⟨by kernel_rfl⟩
instance stoTy50 : StoTy Try.prog 50 := ⟨by kernel_rfl⟩
instance zeroTy50 : ZeroTy Try.prog 50 (.nilFunc) := ⟨by kernel_rfl⟩
instance bytesTy50 : BytesTy Try.prog 50 8 := ⟨by kernel_rfl⟩
instance cellTy51 : CellTy Try.prog 51 := ⟨by kernel_rfl⟩
instance stoTy51 : StoTy Try.prog 51 := ⟨by kernel_rfl⟩
instance mapTy51 : MapTy Try.prog 51 54 3 := ⟨by kernel_rfl⟩
instance zeroTy51 : ZeroTy Try.prog 51 (.map none) := ⟨by kernel_rfl⟩
instance bytesTy51 : BytesTy Try.prog 51 8 := ⟨by kernel_rfl⟩
instance aggTy52 : AggTy Try.prog 52 3 := ⟨by kernel_rfl⟩
instance fldTy52_0 : FldTy Try.prog 52 0 3 0 := ⟨by kernel_rfl⟩
instance fldTy52_1 : FldTy Try.prog 52 1 3 1 := ⟨by kernel_rfl⟩
instance fldTy52_2 : FldTy Try.prog 52 2 3 2 := ⟨by kernel_rfl⟩
instance zeroTy52 : ZeroTy Try.prog 52 (.agg #[.int .i64 0, .int .i64 0, .int .i64 0]) := ⟨by kernel_rfl⟩
instance bytesTy52 : BytesTy Try.prog 52 24 := ⟨by kernel_rfl⟩
instance aggTy53 : AggTy Try.prog 53 3 := ⟨by kernel_rfl⟩
instance fldTy53_0 : FldTy Try.prog 53 0 3 0 := ⟨by kernel_rfl⟩
instance fldTy53_1 : FldTy Try.prog 53 1 3 1 := ⟨by kernel_rfl⟩
instance fldTy53_2 : FldTy Try.prog 53 2 3 2 := ⟨by kernel_rfl⟩
instance zeroTy53 : ZeroTy Try.prog 53 (.agg #[.int .i64 0, .int .i64 0, .int .i64 0]) := ⟨by kernel_rfl⟩
instance bytesTy53 : BytesTy Try.prog 53 24 := ⟨by kernel_rfl⟩
instance aggTy54 : AggTy Try.prog 54 2 := ⟨by kernel_rfl⟩
instance arrTy54 : ArrTy Try.prog 54 2 3 1 := ⟨by kernel_rfl⟩
instance zeroTy54 : ZeroTy Try.prog 54 (.agg #[.int .i64 0, .int .i64 0]) := ⟨by kernel_rfl⟩
instance bytesTy54 : BytesTy Try.prog 54 16 := ⟨by kernel_rfl⟩
instance aggTy55 : AggTy Try.prog 55 5 := ⟨by kernel_rfl⟩
instance fldTy55_0 : FldTy Try.prog 55 0 54 0 := ⟨by kernel_rfl⟩
instance fldTy55_1 : FldTy Try.prog 55 1 54 2 := ⟨by kernel_rfl⟩
instance fldTy55_2 : FldTy Try.prog 55 2 3 4 := ⟨by kernel_rfl⟩
instance zeroTy55 : ZeroTy Try.prog 55 (.agg #[.int .i64 0, .int .i64 0, .int .i64 0, .int .i64 0, .int .i64 0]) := ⟨by kernel_rfl⟩
instance bytesTy55 : BytesTy Try.prog 55 40 := ⟨by kernel_rfl⟩
instance aggTy56 : AggTy Try.prog 56 5 := ⟨by kernel_rfl⟩
instance fldTy56_0 : FldTy Try.prog 56 0 54 0 := ⟨by kernel_rfl⟩
instance fldTy56_1 : FldTy Try.prog 56 1 54 2 := ⟨by kernel_rfl⟩
instance fldTy56_2 : FldTy Try.prog 56 2 3 4 := ⟨by kernel_rfl⟩
instance zeroTy56 : ZeroTy Try.prog 56 (.agg #[.int .i64 0, .int .i64 0, .int .i64 0, .int .i64 0, .int .i64 0]) := ⟨by kernel_rfl⟩
instance bytesTy56 : BytesTy Try.prog 56 40 := ⟨by kernel_rfl⟩
instance cellTy57 : CellTy Try.prog 57 := ⟨by kernel_rfl⟩
instance stoTy57 : StoTy Try.prog 57 := ⟨by kernel_rfl⟩
instance intTy57 : IntTy Try.prog 57 .i8 := ⟨by kernel_rfl⟩
instance zeroTy57 : ZeroTy Try.prog 57 (.int .i8 0) := ⟨by kernel_rfl⟩
instance bytesTy57 : BytesTy Try.prog 57 1 := ⟨by kernel_rfl⟩
instance cellTy58 : CellTy Try.prog 58 := ⟨by kernel_rfl⟩
instance stoTy58 : StoTy Try.prog 58 := ⟨by kernel_rfl⟩
instance zeroTy58 : ZeroTy Try.prog 58 (.nilFunc) := ⟨by kernel_rfl⟩
instance bytesTy58 : BytesTy Try.prog 58 8 := ⟨by kernel_rfl⟩
instance cellTy59 : CellTy Try.prog 59 := ⟨by kernel_rfl⟩
instance stoTy59 : StoTy Try.prog 59 := ⟨by kernel_rfl⟩
instance zeroTy59 : ZeroTy Try.prog 59 (.nilFunc) := ⟨by kernel_rfl⟩
instance bytesTy59 : BytesTy Try.prog 59 8 := ⟨by kernel_rfl⟩
instance aggTy60 : AggTy Try.prog 60 2 := ⟨by kernel_rfl⟩
instance fldTy60_0 : FldTy Try.prog 60 0 3 0 := ⟨by kernel_rfl⟩
instance fldTy60_1 : FldTy Try.prog 60 1 3 1 := ⟨by kernel_rfl⟩
instance zeroTy60 : ZeroTy Try.prog 60 (.agg #[.int .i64 0, .int .i64 0]) := ⟨by kernel_rfl⟩
instance bytesTy60 : BytesTy Try.prog 60 16 := ⟨by kernel_rfl⟩
instance aggTy61 : AggTy Try.prog 61 2 := ⟨by kernel_rfl⟩
instance fldTy61_0 : FldTy Try.prog 61 0 3 0 := ⟨by kernel_rfl⟩
instance fldTy61_1 : FldTy Try.prog 61 1 3 1 := ⟨by kernel_rfl⟩
instance zeroTy61 : ZeroTy Try.prog 61 (.agg #[.int .i64 0, .int .i64 0]) := ⟨by kernel_rfl⟩
instance bytesTy61 : BytesTy Try.prog 61 16 := ⟨by kernel_rfl⟩
instance aggTy62 : AggTy Try.prog 62 2 := ⟨by kernel_rfl⟩
instance fldTy62_0 : FldTy Try.prog 62 0 3 0 := ⟨by kernel_rfl⟩
instance fldTy62_1 : FldTy Try.prog 62 1 3 1 := ⟨by kernel_rfl⟩
instance zeroTy62 : ZeroTy Try.prog 62 (.agg #[.int .i64 0, .int .i64 0]) := ⟨by kernel_rfl⟩
instance bytesTy62 : BytesTy Try.prog 62 16 := ⟨by kernel_rfl⟩
instance aggTy63 : AggTy Try.prog 63 2 := ⟨by kernel_rfl⟩
instance fldTy63_0 : FldTy Try.prog 63 0 3 0 := ⟨by kernel_rfl⟩
instance fldTy63_1 : FldTy Try.prog 63 1 3 1 := ⟨by kernel_rfl⟩
instance zeroTy63 : ZeroTy Try.prog 63 (.agg #[.int .i64 0, .int .i64 0]) := ⟨by kernel_rfl⟩
instance bytesTy63 : BytesTy Try.prog 63 16 := ⟨by kernel_rfl⟩
instance aggTy64 : AggTy Try.prog 64 4 := ⟨by kernel_rfl⟩
instance arrTy64 : ArrTy Try.prog 64 2 63 2 := ⟨by kernel_rfl⟩
instance zeroTy64 : ZeroTy Try.prog 64 (.agg #[.int .i64 0, .int .i64 0, .int .i64 0, .int .i64 0]) := ⟨by kernel_rfl⟩
instance bytesTy64 : BytesTy Try.prog 64 32 := ⟨by kernel_rfl⟩
instance aggTy65 : AggTy Try.prog 65 12 := ⟨by kernel_rfl⟩
instance fldTy65_0 : FldTy Try.prog 65 0 9 0 := ⟨by kernel_rfl⟩
instance fldTy65_1 : FldTy Try.prog 65 1 3 1 := ⟨by kernel_rfl⟩
instance fldTy65_2 : FldTy Try.prog 65 2 3 2 := ⟨by kernel_rfl⟩
instance fldTy65_3 : FldTy Try.prog 65 3 3 3 := ⟨by kernel_rfl⟩
instance fldTy65_4 : FldTy Try.prog 65 4 3 4 := ⟨by kernel_rfl⟩
instance fldTy65_5 : FldTy Try.prog 65 5 3 5 := ⟨by kernel_rfl⟩
instance fldTy65_6 : FldTy Try.prog 65 6 61 6 := ⟨by kernel_rfl⟩
instance fldTy65_7 : FldTy Try.prog 65 7 64 8 := ⟨by kernel_rfl⟩
instance zeroTy65 : ZeroTy Try.prog 65 (.agg #[.string ⟨#[]⟩, .int .i64 0, .int .i64 0, .int .i64 0, .int .i64 0, .int .i64 0, .int .i64 0, .int .i64 0, .int .i64 0, .int .i64 0, .int .i64 0, .int .i64 0]) := ⟨by kernel_rfl⟩
instance bytesTy65 : BytesTy Try.prog 65 104 := ⟨by kernel_rfl⟩
instance aggTy66 : AggTy Try.prog 66 12 := ⟨by kernel_rfl⟩
instance fldTy66_0 : FldTy Try.prog 66 0 9 0 := ⟨by kernel_rfl⟩
instance fldTy66_1 : FldTy Try.prog 66 1 3 1 := ⟨by kernel_rfl⟩
instance fldTy66_2 : FldTy Try.prog 66 2 3 2 := ⟨by kernel_rfl⟩
instance fldTy66_3 : FldTy Try.prog 66 3 3 3 := ⟨by kernel_rfl⟩
instance fldTy66_4 : FldTy Try.prog 66 4 3 4 := ⟨by kernel_rfl⟩
instance fldTy66_5 : FldTy Try.prog 66 5 3 5 := ⟨by kernel_rfl⟩
instance fldTy66_6 : FldTy Try.prog 66 6 61 6 := ⟨by kernel_rfl⟩
instance fldTy66_7 : FldTy Try.prog 66 7 64 8 := ⟨by kernel_rfl⟩
instance zeroTy66 : ZeroTy Try.prog 66 (.agg #[.string ⟨#[]⟩, .int .i64 0, .int .i64 0, .int .i64 0, .int .i64 0, .int .i64 0, .int .i64 0, .int .i64 0, .int .i64 0, .int .i64 0, .int .i64 0, .int .i64 0]) := ⟨by kernel_rfl⟩
instance bytesTy66 : BytesTy Try.prog 66 104 := ⟨by kernel_rfl⟩
instance cellTy67 : CellTy Try.prog 67 := ⟨by kernel_rfl⟩
instance stoTy67 : StoTy Try.prog 67 := ⟨by kernel_rfl⟩
instance zeroTy67 : ZeroTy Try.prog 67 (.nilFunc) := ⟨by kernel_rfl⟩
instance bytesTy67 : BytesTy Try.prog 67 8 := ⟨by kernel_rfl⟩
instance cellTy68 : CellTy Try.prog 68 := ⟨by kernel_rfl⟩
instance stoTy68 : StoTy Try.prog 68 := ⟨by kernel_rfl⟩
instance zeroTy68 : ZeroTy Try.prog 68 (.tuple #[.agg #[.string ⟨#[]⟩, .int .i64 0, .int .i64 0, .int .i64 0, .slice none 0 0, .slice none 0 0, .slice none 0 0, .slice none 0 0, .slice none 0 0, .slice none 0 0], .agg #[.slice none 0 0, .slice none 0 0, .slice none 0 0, .slice none 0 0, .slice none 0 0, .slice none 0 0, .slice none 0 0]]) := ⟨by kernel_rfl⟩
instance bytesTy68 : BytesTy Try.prog 68 0 := ⟨by kernel_rfl⟩
instance cellTy69 : CellTy Try.prog 69 := ⟨by kernel_rfl⟩
instance stoTy69 : StoTy Try.prog 69 := ⟨by kernel_rfl⟩
instance zeroTy69 : ZeroTy Try.prog 69 (.nilFunc) := ⟨by kernel_rfl⟩
instance bytesTy69 : BytesTy Try.prog 69 8 := ⟨by kernel_rfl⟩
instance cellTy70 : CellTy Try.prog 70 := ⟨by kernel_rfl⟩
instance stoTy70 : StoTy Try.prog 70 := ⟨by kernel_rfl⟩
instance zeroTy70 : ZeroTy Try.prog 70 (.nilFunc) := ⟨by kernel_rfl⟩
instance bytesTy70 : BytesTy Try.prog 70 8 := ⟨by kernel_rfl⟩
instance cellTy71 : CellTy Try.prog 71 := ⟨by kernel_rfl⟩
instance stoTy71 : StoTy Try.prog 71 := ⟨by kernel_rfl⟩
instance zeroTy71 : ZeroTy Try.prog 71 (.nilFunc) := ⟨by kernel_rfl⟩
instance bytesTy71 : BytesTy Try.prog 71 8 := ⟨by kernel_rfl⟩
instance cellTy72 : CellTy Try.prog 72 := ⟨by kernel_rfl⟩
instance stoTy72 : StoTy Try.prog 72 := ⟨by kernel_rfl⟩
instance zeroTy72 : ZeroTy Try.prog 72 (.nilFunc) := ⟨by kernel_rfl⟩
instance bytesTy72 : BytesTy Try.prog 72 8 := ⟨by kernel_rfl⟩
instance cellTy73 : CellTy Try.prog 73 := ⟨by kernel_rfl⟩
instance stoTy73 : StoTy Try.prog 73 := ⟨by kernel_rfl⟩
instance zeroTy73 : ZeroTy Try.prog 73 (.nilFunc) := ⟨by kernel_rfl⟩
instance bytesTy73 : BytesTy Try.prog 73 8 := ⟨by kernel_rfl⟩
instance cellTy74 : CellTy Try.prog 74 := ⟨by kernel_rfl⟩
instance stoTy74 : StoTy Try.prog 74 := ⟨by kernel_rfl⟩
instance zeroTy74 : ZeroTy Try.prog 74 (.nilFunc) := ⟨by kernel_rfl⟩
instance bytesTy74 : BytesTy Try.prog 74 8 := ⟨by kernel_rfl⟩
instance cellTy75 : CellTy Try.prog 75 := ⟨by kernel_rfl⟩
instance stoTy75 : StoTy Try.prog 75 := ⟨by kernel_rfl⟩
instance zeroTy75 : ZeroTy Try.prog 75 (.nilFunc) := ⟨by kernel_rfl⟩
instance bytesTy75 : BytesTy Try.prog 75 8 := ⟨by kernel_rfl⟩
instance cellTy76 : CellTy Try.prog 76 := ⟨by kernel_rfl⟩
instance stoTy76 : StoTy Try.prog 76 := ⟨by kernel_rfl⟩
instance zeroTy76 : ZeroTy Try.prog 76 (.nilFunc) := ⟨by kernel_rfl⟩
instance bytesTy76 : BytesTy Try.prog 76 8 := ⟨by kernel_rfl⟩
instance aggTy77 : AggTy Try.prog 77 2 := ⟨by kernel_rfl⟩
instance fldTy77_0 : FldTy Try.prog 77 0 3 0 := ⟨by kernel_rfl⟩
instance fldTy77_1 : FldTy Try.prog 77 1 3 1 := ⟨by kernel_rfl⟩
instance zeroTy77 : ZeroTy Try.prog 77 (.agg #[.int .i64 0, .int .i64 0]) := ⟨by kernel_rfl⟩
instance bytesTy77 : BytesTy Try.prog 77 16 := ⟨by kernel_rfl⟩
instance cellTy78 : CellTy Try.prog 78 := ⟨by kernel_rfl⟩
instance stoTy78 : StoTy Try.prog 78 := ⟨by kernel_rfl⟩
instance sliceTy78 : SliceTy Try.prog 78 77 2 := ⟨by kernel_rfl⟩
instance zeroTy78 : ZeroTy Try.prog 78 (.slice none 0 0) := ⟨by kernel_rfl⟩
instance bytesTy78 : BytesTy Try.prog 78 24 := ⟨by kernel_rfl⟩
instance cellTy79 : CellTy Try.prog 79 := ⟨by kernel_rfl⟩
instance stoTy79 : StoTy Try.prog 79 := ⟨by kernel_rfl⟩
instance zeroTy79 : ZeroTy Try.prog 79 (.nilFunc) := ⟨by kernel_rfl⟩
instance bytesTy79 : BytesTy Try.prog 79 8 := ⟨by kernel_rfl⟩
instance cellTy80 : CellTy Try.prog 80 := ⟨by kernel_rfl⟩
instance stoTy80 : StoTy Try.prog 80 := ⟨by kernel_rfl⟩
instance zeroTy80 : ZeroTy Try.prog 80 (.nilFunc) := ⟨by kernel_rfl⟩
instance bytesTy80 : BytesTy Try.prog 80 8 := ⟨by kernel_rfl⟩
instance cellTy81 : CellTy Try.prog 81 := ⟨by kernel_rfl⟩
instance stoTy81 : StoTy Try.prog 81 := ⟨by kernel_rfl⟩
instance zeroTy81 : ZeroTy Try.prog 81 (.nilFunc) := ⟨by kernel_rfl⟩
instance bytesTy81 : BytesTy Try.prog 81 8 := ⟨by kernel_rfl⟩
instance cellTy82 : CellTy Try.prog 82 := ⟨by kernel_rfl⟩
instance stoTy82 : StoTy Try.prog 82 := ⟨by kernel_rfl⟩
instance zeroTy82 : ZeroTy Try.prog 82 (.nilFunc) := ⟨by kernel_rfl⟩
instance bytesTy82 : BytesTy Try.prog 82 8 := ⟨by kernel_rfl⟩
instance cellTy83 : CellTy Try.prog 83 := ⟨by kernel_rfl⟩
instance stoTy83 : StoTy Try.prog 83 := ⟨by kernel_rfl⟩
instance zeroTy83 : ZeroTy Try.prog 83 (.nilFunc) := ⟨by kernel_rfl⟩
instance bytesTy83 : BytesTy Try.prog 83 8 := ⟨by kernel_rfl⟩
instance cellTy84 : CellTy Try.prog 84 := ⟨by kernel_rfl⟩
instance stoTy84 : StoTy Try.prog 84 := ⟨by kernel_rfl⟩
instance zeroTy84 : ZeroTy Try.prog 84 (.nilFunc) := ⟨by kernel_rfl⟩
instance bytesTy84 : BytesTy Try.prog 84 8 := ⟨by kernel_rfl⟩
instance cellTy85 : CellTy Try.prog 85 := ⟨by kernel_rfl⟩
instance stoTy85 : StoTy Try.prog 85 := ⟨by kernel_rfl⟩
instance zeroTy85 : ZeroTy Try.prog 85 (.nilFunc) := ⟨by kernel_rfl⟩
instance bytesTy85 : BytesTy Try.prog 85 8 := ⟨by kernel_rfl⟩
instance aggTy86 : AggTy Try.prog 86 4 := ⟨by kernel_rfl⟩
instance fldTy86_0 : FldTy Try.prog 86 0 9 0 := ⟨by kernel_rfl⟩
instance fldTy86_1 : FldTy Try.prog 86 1 3 1 := ⟨by kernel_rfl⟩
instance fldTy86_2 : FldTy Try.prog 86 2 3 2 := ⟨by kernel_rfl⟩
instance fldTy86_3 : FldTy Try.prog 86 3 3 3 := ⟨by kernel_rfl⟩
instance zeroTy86 : ZeroTy Try.prog 86 (.agg #[.string ⟨#[]⟩, .int .i64 0, .int .i64 0, .int .i64 0]) := ⟨by kernel_rfl⟩
instance bytesTy86 : BytesTy Try.prog 86 40 := ⟨by kernel_rfl⟩
instance aggTy87 : AggTy Try.prog 87 4 := ⟨by kernel_rfl⟩
instance fldTy87_0 : FldTy Try.prog 87 0 9 0 := ⟨by kernel_rfl⟩
instance fldTy87_1 : FldTy Try.prog 87 1 3 1 := ⟨by kernel_rfl⟩
instance fldTy87_2 : FldTy Try.prog 87 2 3 2 := ⟨by kernel_rfl⟩
instance fldTy87_3 : FldTy Try.prog 87 3 3 3 := ⟨by kernel_rfl⟩
instance zeroTy87 : ZeroTy Try.prog 87 (.agg #[.string ⟨#[]⟩, .int .i64 0, .int .i64 0, .int .i64 0]) := ⟨by kernel_rfl⟩
instance bytesTy87 : BytesTy Try.prog 87 40 := ⟨by kernel_rfl⟩
instance cellTy88 : CellTy Try.prog 88 := ⟨by kernel_rfl⟩
instance stoTy88 : StoTy Try.prog 88 := ⟨by kernel_rfl⟩
instance zeroTy88 : ZeroTy Try.prog 88 (.nilFunc) := ⟨by kernel_rfl⟩
instance bytesTy88 : BytesTy Try.prog 88 8 := ⟨by kernel_rfl⟩
instance cellTy89 : CellTy Try.prog 89 := ⟨by kernel_rfl⟩
instance stoTy89 : StoTy Try.prog 89 := ⟨by kernel_rfl⟩
instance zeroTy89 : ZeroTy Try.prog 89 (.nilFunc) := ⟨by kernel_rfl⟩
instance bytesTy89 : BytesTy Try.prog 89 8 := ⟨by kernel_rfl⟩
instance cellTy90 : CellTy Try.prog 90 := ⟨by kernel_rfl⟩
instance stoTy90 : StoTy Try.prog 90 := ⟨by kernel_rfl⟩
instance zeroTy90 : ZeroTy Try.prog 90 (.nilFunc) := ⟨by kernel_rfl⟩
instance bytesTy90 : BytesTy Try.prog 90 8 := ⟨by kernel_rfl⟩
instance cellTy91 : CellTy Try.prog 91 := ⟨by kernel_rfl⟩
instance stoTy91 : StoTy Try.prog 91 := ⟨by kernel_rfl⟩
instance zeroTy91 : ZeroTy Try.prog 91 (.nilFunc) := ⟨by kernel_rfl⟩
instance bytesTy91 : BytesTy Try.prog 91 8 := ⟨by kernel_rfl⟩
instance cellTy92 : CellTy Try.prog 92 := ⟨by kernel_rfl⟩
instance stoTy92 : StoTy Try.prog 92 := ⟨by kernel_rfl⟩
instance sliceTy92 : SliceTy Try.prog 92 33 1 := ⟨by kernel_rfl⟩
instance zeroTy92 : ZeroTy Try.prog 92 (.slice none 0 0) := ⟨by kernel_rfl⟩
instance bytesTy92 : BytesTy Try.prog 92 24 := ⟨by kernel_rfl⟩
instance cellTy93 : CellTy Try.prog 93 := ⟨by kernel_rfl⟩
instance stoTy93 : StoTy Try.prog 93 := ⟨by kernel_rfl⟩
instance zeroTy93 : ZeroTy Try.prog 93 (.nilFunc) := ⟨by kernel_rfl⟩
instance bytesTy93 : BytesTy Try.prog 93 8 := ⟨by kernel_rfl⟩
instance cellTy94 : CellTy Try.prog 94 := ⟨by kernel_rfl⟩
instance stoTy94 : StoTy Try.prog 94 := ⟨by kernel_rfl⟩
instance zeroTy94 : ZeroTy Try.prog 94 (.nilFunc) := ⟨by kernel_rfl⟩
instance bytesTy94 : BytesTy Try.prog 94 8 := ⟨by kernel_rfl⟩
instance cellTy95 : CellTy Try.prog 95 := ⟨by kernel_rfl⟩
instance stoTy95 : StoTy Try.prog 95 := ⟨by kernel_rfl⟩
instance zeroTy95 : ZeroTy Try.prog 95 (.nilFunc) := ⟨by kernel_rfl⟩
instance bytesTy95 : BytesTy Try.prog 95 8 := ⟨by kernel_rfl⟩
instance cellTy96 : CellTy Try.prog 96 := ⟨by kernel_rfl⟩
instance stoTy96 : StoTy Try.prog 96 := ⟨by kernel_rfl⟩
instance zeroTy96 : ZeroTy Try.prog 96 (.nilFunc) := ⟨by kernel_rfl⟩
instance bytesTy96 : BytesTy Try.prog 96 8 := ⟨by kernel_rfl⟩
instance aggTy97 : AggTy Try.prog 97 3 := ⟨by kernel_rfl⟩
instance fldTy97_0 : FldTy Try.prog 97 0 3 0 := ⟨by kernel_rfl⟩
instance fldTy97_1 : FldTy Try.prog 97 1 3 1 := ⟨by kernel_rfl⟩
instance fldTy97_2 : FldTy Try.prog 97 2 3 2 := ⟨by kernel_rfl⟩
instance zeroTy97 : ZeroTy Try.prog 97 (.agg #[.int .i64 0, .int .i64 0, .int .i64 0]) := ⟨by kernel_rfl⟩
instance bytesTy97 : BytesTy Try.prog 97 24 := ⟨by kernel_rfl⟩
instance aggTy98 : AggTy Try.prog 98 3 := ⟨by kernel_rfl⟩
instance fldTy98_0 : FldTy Try.prog 98 0 3 0 := ⟨by kernel_rfl⟩
instance fldTy98_1 : FldTy Try.prog 98 1 3 1 := ⟨by kernel_rfl⟩
instance fldTy98_2 : FldTy Try.prog 98 2 3 2 := ⟨by kernel_rfl⟩
instance zeroTy98 : ZeroTy Try.prog 98 (.agg #[.int .i64 0, .int .i64 0, .int .i64 0]) := ⟨by kernel_rfl⟩
instance bytesTy98 : BytesTy Try.prog 98 24 := ⟨by kernel_rfl⟩
instance cellTy99 : CellTy Try.prog 99 := ⟨by kernel_rfl⟩
instance stoTy99 : StoTy Try.prog 99 := ⟨by kernel_rfl⟩
instance zeroTy99 : ZeroTy Try.prog 99 (.nilFunc) := ⟨by kernel_rfl⟩
instance bytesTy99 : BytesTy Try.prog 99 8 := ⟨by kernel_rfl⟩
instance cellTy100 : CellTy Try.prog 100 := ⟨by kernel_rfl⟩
instance stoTy100 : StoTy Try.prog 100 := ⟨by kernel_rfl⟩
instance zeroTy100 : ZeroTy Try.prog 100 (.nilFunc) := ⟨by kernel_rfl⟩
instance bytesTy100 : BytesTy Try.prog 100 8 := ⟨by kernel_rfl⟩
instance cellTy101 : CellTy Try.prog 101 := ⟨by kernel_rfl⟩
instance stoTy101 : StoTy Try.prog 101 := ⟨by kernel_rfl⟩
instance zeroTy101 : ZeroTy Try.prog 101 (.nilFunc) := ⟨by kernel_rfl⟩
instance bytesTy101 : BytesTy Try.prog 101 8 := ⟨by kernel_rfl⟩
instance cellTy102 : CellTy Try.prog 102 := ⟨by kernel_rfl⟩
instance stoTy102 : StoTy Try.prog 102 := ⟨by kernel_rfl⟩
instance zeroTy102 : ZeroTy Try.prog 102 (.nilFunc) := ⟨by kernel_rfl⟩
instance bytesTy102 : BytesTy Try.prog 102 8 := ⟨by kernel_rfl⟩
instance cellTy103 : CellTy Try.prog 103 := ⟨by kernel_rfl⟩
instance stoTy103 : StoTy Try.prog 103 := ⟨by kernel_rfl⟩
instance zeroTy103 : ZeroTy Try.prog 103 (.nilFunc) := ⟨by kernel_rfl⟩
instance bytesTy103 : BytesTy Try.prog 103 8 := ⟨by kernel_rfl⟩
instance cellTy104 : CellTy Try.prog 104 := ⟨by kernel_rfl⟩
instance stoTy104 : StoTy Try.prog 104 := ⟨by kernel_rfl⟩
instance zeroTy104 : ZeroTy Try.prog 104 (.nilFunc) := ⟨by kernel_rfl⟩
instance bytesTy104 : BytesTy Try.prog 104 8 := ⟨by kernel_rfl⟩
instance cellTy105 : CellTy Try.prog 105 := ⟨by kernel_rfl⟩
instance stoTy105 : StoTy Try.prog 105 := ⟨by kernel_rfl⟩
instance zeroTy105 : ZeroTy Try.prog 105 (.nilFunc) := ⟨by kernel_rfl⟩
instance bytesTy105 : BytesTy Try.prog 105 8 := ⟨by kernel_rfl⟩
instance cellTy106 : CellTy Try.prog 106 := ⟨by kernel_rfl⟩
instance stoTy106 : StoTy Try.prog 106 := ⟨by kernel_rfl⟩
instance zeroTy106 : ZeroTy Try.prog 106 (.tuple #[.int .i64 0, .int .i64 0, .int .i64 0]) := ⟨by kernel_rfl⟩
instance bytesTy106 : BytesTy Try.prog 106 0 := ⟨by kernel_rfl⟩
instance cellTy107 : CellTy Try.prog 107 := ⟨by kernel_rfl⟩
instance stoTy107 : StoTy Try.prog 107 := ⟨by kernel_rfl⟩
instance zeroTy107 : ZeroTy Try.prog 107 (.nilFunc) := ⟨by kernel_rfl⟩
instance bytesTy107 : BytesTy Try.prog 107 8 := ⟨by kernel_rfl⟩
instance cellTy108 : CellTy Try.prog 108 := ⟨by kernel_rfl⟩
instance stoTy108 : StoTy Try.prog 108 := ⟨by kernel_rfl⟩
instance intTy108 : IntTy Try.prog 108 .i64 := ⟨by kernel_rfl⟩
instance zeroTy108 : ZeroTy Try.prog 108 (.int .i64 0) := ⟨by kernel_rfl⟩
instance bytesTy108 : BytesTy Try.prog 108 8 := ⟨by kernel_rfl⟩
instance cellTy109 : CellTy Try.prog 109 := ⟨by kernel_rfl⟩
instance stoTy109 : StoTy Try.prog 109 := ⟨by kernel_rfl⟩
instance zeroTy109 : ZeroTy Try.prog 109 (.tuple #[.int .i64 0, .bool false]) := ⟨by kernel_rfl⟩
instance bytesTy109 : BytesTy Try.prog 109 0 := ⟨by kernel_rfl⟩
instance cellTy110 : CellTy Try.prog 110 := ⟨by kernel_rfl⟩
instance stoTy110 : StoTy Try.prog 110 := ⟨by kernel_rfl⟩
instance zeroTy110 : ZeroTy Try.prog 110 (.nilFunc) := ⟨by kernel_rfl⟩
instance bytesTy110 : BytesTy Try.prog 110 8 := ⟨by kernel_rfl⟩
instance cellTy111 : CellTy Try.prog 111 := ⟨by kernel_rfl⟩
instance stoTy111 : StoTy Try.prog 111 := ⟨by kernel_rfl⟩
instance zeroTy111 : ZeroTy Try.prog 111 (.nilFunc) := ⟨by kernel_rfl⟩
instance bytesTy111 : BytesTy Try.prog 111 8 := ⟨by kernel_rfl⟩
instance aggTy112 : AggTy Try.prog 112 2 := ⟨by kernel_rfl⟩
instance fldTy112_0 : FldTy Try.prog 112 0 9 0 := ⟨by kernel_rfl⟩
instance fldTy112_1 : FldTy Try.prog 112 1 3 1 := ⟨by kernel_rfl⟩
instance zeroTy112 : ZeroTy Try.prog 112 (.agg #[.string ⟨#[]⟩, .int .i64 0]) := ⟨by kernel_rfl⟩
instance bytesTy112 : BytesTy Try.prog 112 24 := ⟨by kernel_rfl⟩
instance aggTy113 : AggTy Try.prog 113 2 := ⟨by kernel_rfl⟩
instance fldTy113_0 : FldTy Try.prog 113 0 9 0 := ⟨by kernel_rfl⟩
instance fldTy113_1 : FldTy Try.prog 113 1 3 1 := ⟨by kernel_rfl⟩
instance zeroTy113 : ZeroTy Try.prog 113 (.agg #[.string ⟨#[]⟩, .int .i64 0]) := ⟨by kernel_rfl⟩
instance bytesTy113 : BytesTy Try.prog 113 24 := ⟨by kernel_rfl⟩
instance cellTy114 : CellTy Try.prog 114 := ⟨by kernel_rfl⟩
instance stoTy114 : StoTy Try.prog 114 := ⟨by kernel_rfl⟩
instance zeroTy114 : ZeroTy Try.prog 114 (.nilFunc) := ⟨by kernel_rfl⟩
instance bytesTy114 : BytesTy Try.prog 114 8 := ⟨by kernel_rfl⟩
instance aggTy115 : AggTy Try.prog 115 10 := ⟨by kernel_rfl⟩
instance fldTy115_0 : FldTy Try.prog 115 0 9 0 := ⟨by kernel_rfl⟩
instance fldTy115_1 : FldTy Try.prog 115 1 3 1 := ⟨by kernel_rfl⟩
instance fldTy115_2 : FldTy Try.prog 115 2 3 2 := ⟨by kernel_rfl⟩
instance fldTy115_3 : FldTy Try.prog 115 3 3 3 := ⟨by kernel_rfl⟩
instance fldTy115_4 : FldTy Try.prog 115 4 3 4 := ⟨by kernel_rfl⟩
instance fldTy115_5 : FldTy Try.prog 115 5 3 5 := ⟨by kernel_rfl⟩
instance fldTy115_6 : FldTy Try.prog 115 6 3 6 := ⟨by kernel_rfl⟩
instance fldTy115_7 : FldTy Try.prog 115 7 3 7 := ⟨by kernel_rfl⟩
instance fldTy115_8 : FldTy Try.prog 115 8 3 8 := ⟨by kernel_rfl⟩
instance fldTy115_9 : FldTy Try.prog 115 9 3 9 := ⟨by kernel_rfl⟩
instance zeroTy115 : ZeroTy Try.prog 115 (.agg #[.string ⟨#[]⟩, .int .i64 0, .int .i64 0, .int .i64 0, .int .i64 0, .int .i64 0, .int .i64 0, .int .i64 0, .int .i64 0, .int .i64 0]) := ⟨by kernel_rfl⟩
instance bytesTy115 : BytesTy Try.prog 115 88 := ⟨by kernel_rfl⟩
instance aggTy116 : AggTy Try.prog 116 10 := ⟨by kernel_rfl⟩
instance fldTy116_0 : FldTy Try.prog 116 0 9 0 := ⟨by kernel_rfl⟩
instance fldTy116_1 : FldTy Try.prog 116 1 3 1 := ⟨by kernel_rfl⟩
instance fldTy116_2 : FldTy Try.prog 116 2 3 2 := ⟨by kernel_rfl⟩
instance fldTy116_3 : FldTy Try.prog 116 3 3 3 := ⟨by kernel_rfl⟩
instance fldTy116_4 : FldTy Try.prog 116 4 3 4 := ⟨by kernel_rfl⟩
instance fldTy116_5 : FldTy Try.prog 116 5 3 5 := ⟨by kernel_rfl⟩
instance fldTy116_6 : FldTy Try.prog 116 6 3 6 := ⟨by kernel_rfl⟩
instance fldTy116_7 : FldTy Try.prog 116 7 3 7 := ⟨by kernel_rfl⟩
instance fldTy116_8 : FldTy Try.prog 116 8 3 8 := ⟨by kernel_rfl⟩
instance fldTy116_9 : FldTy Try.prog 116 9 3 9 := ⟨by kernel_rfl⟩
instance zeroTy116 : ZeroTy Try.prog 116 (.agg #[.string ⟨#[]⟩, .int .i64 0, .int .i64 0, .int .i64 0, .int .i64 0, .int .i64 0, .int .i64 0, .int .i64 0, .int .i64 0, .int .i64 0]) := ⟨by kernel_rfl⟩
instance bytesTy116 : BytesTy Try.prog 116 88 := ⟨by kernel_rfl⟩
instance cellTy117 : CellTy Try.prog 117 := ⟨by kernel_rfl⟩
instance stoTy117 : StoTy Try.prog 117 := ⟨by kernel_rfl⟩
instance zeroTy117 : ZeroTy Try.prog 117 (.nilFunc) := ⟨by kernel_rfl⟩
instance bytesTy117 : BytesTy Try.prog 117 8 := ⟨by kernel_rfl⟩
instance aggTy118 : AggTy Try.prog 118 4 := ⟨by kernel_rfl⟩
instance fldTy118_0 : FldTy Try.prog 118 0 9 0 := ⟨by kernel_rfl⟩
instance fldTy118_1 : FldTy Try.prog 118 1 3 1 := ⟨by kernel_rfl⟩
instance fldTy118_2 : FldTy Try.prog 118 2 3 2 := ⟨by kernel_rfl⟩
instance fldTy118_3 : FldTy Try.prog 118 3 3 3 := ⟨by kernel_rfl⟩
instance zeroTy118 : ZeroTy Try.prog 118 (.agg #[.string ⟨#[]⟩, .int .i64 0, .int .i64 0, .int .i64 0]) := ⟨by kernel_rfl⟩
instance bytesTy118 : BytesTy Try.prog 118 40 := ⟨by kernel_rfl⟩
instance aggTy119 : AggTy Try.prog 119 4 := ⟨by kernel_rfl⟩
instance fldTy119_0 : FldTy Try.prog 119 0 9 0 := ⟨by kernel_rfl⟩
instance fldTy119_1 : FldTy Try.prog 119 1 3 1 := ⟨by kernel_rfl⟩
instance fldTy119_2 : FldTy Try.prog 119 2 3 2 := ⟨by kernel_rfl⟩
instance fldTy119_3 : FldTy Try.prog 119 3 3 3 := ⟨by kernel_rfl⟩
instance zeroTy119 : ZeroTy Try.prog 119 (.agg #[.string ⟨#[]⟩, .int .i64 0, .int .i64 0, .int .i64 0]) := ⟨by kernel_rfl⟩
instance bytesTy119 : BytesTy Try.prog 119 40 := ⟨by kernel_rfl⟩
instance cellTy120 : CellTy Try.prog 120 := ⟨by kernel_rfl⟩
instance stoTy120 : StoTy Try.prog 120 := ⟨by kernel_rfl⟩
instance zeroTy120 : ZeroTy Try.prog 120 (.nilFunc) := ⟨by kernel_rfl⟩
instance bytesTy120 : BytesTy Try.prog 120 8 := ⟨by kernel_rfl⟩
instance cellTy121 : CellTy Try.prog 121 := ⟨by kernel_rfl⟩
instance stoTy121 : StoTy Try.prog 121 := ⟨by kernel_rfl⟩
instance zeroTy121 : ZeroTy Try.prog 121 (.nilFunc) := ⟨by kernel_rfl⟩
instance bytesTy121 : BytesTy Try.prog 121 8 := ⟨by kernel_rfl⟩
instance cellTy122 : CellTy Try.prog 122 := ⟨by kernel_rfl⟩
instance stoTy122 : StoTy Try.prog 122 := ⟨by kernel_rfl⟩
instance zeroTy122 : ZeroTy Try.prog 122 (.nilFunc) := ⟨by kernel_rfl⟩
instance bytesTy122 : BytesTy Try.prog 122 8 := ⟨by kernel_rfl⟩
instance cellTy123 : CellTy Try.prog 123 := ⟨by kernel_rfl⟩
instance stoTy123 : StoTy Try.prog 123 := ⟨by kernel_rfl⟩
instance zeroTy123 : ZeroTy Try.prog 123 (.nilFunc) := ⟨by kernel_rfl⟩
instance bytesTy123 : BytesTy Try.prog 123 8 := ⟨by kernel_rfl⟩
instance cellTy124 : CellTy Try.prog 124 := ⟨by kernel_rfl⟩
instance stoTy124 : StoTy Try.prog 124 := ⟨by kernel_rfl⟩
instance zeroTy124 : ZeroTy Try.prog 124 (.tuple #[.agg #[.int .i64 0, .int .i64 0], .int .i64 0]) := ⟨by kernel_rfl⟩
instance bytesTy124 : BytesTy Try.prog 124 0 := ⟨by kernel_rfl⟩
instance cellTy125 : CellTy Try.prog 125 := ⟨by kernel_rfl⟩
instance stoTy125 : StoTy Try.prog 125 := ⟨by kernel_rfl⟩
instance zeroTy125 : ZeroTy Try.prog 125 (.nilFunc) := ⟨by kernel_rfl⟩
instance bytesTy125 : BytesTy Try.prog 125 8 := ⟨by kernel_rfl⟩
instance cellTy126 : CellTy Try.prog 126 := ⟨by kernel_rfl⟩
instance stoTy126 : StoTy Try.prog 126 := ⟨by kernel_rfl⟩
instance zeroTy126 : ZeroTy Try.prog 126 (.nilFunc) := ⟨by kernel_rfl⟩
instance bytesTy126 : BytesTy Try.prog 126 8 := ⟨by kernel_rfl⟩
instance cellTy127 : CellTy Try.prog 127 := ⟨by kernel_rfl⟩
instance stoTy127 : StoTy Try.prog 127 := ⟨by kernel_rfl⟩
instance zeroTy127 : ZeroTy Try.prog 127 (.nilFunc) := ⟨by kernel_rfl⟩
instance bytesTy127 : BytesTy Try.prog 127 8 := ⟨by kernel_rfl⟩
instance cellTy128 : CellTy Try.prog 128 := ⟨by kernel_rfl⟩
instance stoTy128 : StoTy Try.prog 128 := ⟨by kernel_rfl⟩
instance zeroTy128 : ZeroTy Try.prog 128 (.nilFunc) := ⟨by kernel_rfl⟩
instance bytesTy128 : BytesTy Try.prog 128 8 := ⟨by kernel_rfl⟩
instance cellTy129 : CellTy Try.prog 129 := ⟨by kernel_rfl⟩
instance stoTy129 : StoTy Try.prog 129 := ⟨by kernel_rfl⟩
instance zeroTy129 : ZeroTy Try.prog 129 (.nilFunc) := ⟨by kernel_rfl⟩
instance bytesTy129 : BytesTy Try.prog 129 8 := ⟨by kernel_rfl⟩
instance cellTy130 : CellTy Try.prog 130 := ⟨by kernel_rfl⟩
instance stoTy130 : StoTy Try.prog 130 := ⟨by kernel_rfl⟩
instance zeroTy130 : ZeroTy Try.prog 130 (.nilFunc) := ⟨by kernel_rfl⟩
instance bytesTy130 : BytesTy Try.prog 130 8 := ⟨by kernel_rfl⟩
instance cellTy131 : CellTy Try.prog 131 := ⟨by kernel_rfl⟩
instance stoTy131 : StoTy Try.prog 131 := ⟨by kernel_rfl⟩
instance zeroTy131 : ZeroTy Try.prog 131 (.nilFunc) := ⟨by kernel_rfl⟩
instance bytesTy131 : BytesTy Try.prog 131 8 := ⟨by kernel_rfl⟩
instance cellTy132 : CellTy Try.prog 132 := ⟨by kernel_rfl⟩
instance stoTy132 : StoTy Try.prog 132 := ⟨by kernel_rfl⟩
instance zeroTy132 : ZeroTy Try.prog 132 (.nilFunc) := ⟨by kernel_rfl⟩
instance bytesTy132 : BytesTy Try.prog 132 8 := ⟨by kernel_rfl⟩
instance cellTy133 : CellTy Try.prog 133 := ⟨by kernel_rfl⟩
instance stoTy133 : StoTy Try.prog 133 := ⟨by kernel_rfl⟩
instance zeroTy133 : ZeroTy Try.prog 133 (.nilFunc) := ⟨by kernel_rfl⟩
instance bytesTy133 : BytesTy Try.prog 133 8 := ⟨by kernel_rfl⟩
instance cellTy134 : CellTy Try.prog 134 := ⟨by kernel_rfl⟩
instance stoTy134 : StoTy Try.prog 134 := ⟨by kernel_rfl⟩
instance zeroTy134 : ZeroTy Try.prog 134 (.nilFunc) := ⟨by kernel_rfl⟩
instance bytesTy134 : BytesTy Try.prog 134 8 := ⟨by kernel_rfl⟩
instance cellTy135 : CellTy Try.prog 135 := ⟨by kernel_rfl⟩
instance stoTy135 : StoTy Try.prog 135 := ⟨by kernel_rfl⟩
instance zeroTy135 : ZeroTy Try.prog 135 (.nilFunc) := ⟨by kernel_rfl⟩
instance bytesTy135 : BytesTy Try.prog 135 8 := ⟨by kernel_rfl⟩
instance cellTy136 : CellTy Try.prog 136 := ⟨by kernel_rfl⟩
instance stoTy136 : StoTy Try.prog 136 := ⟨by kernel_rfl⟩
instance zeroTy136 : ZeroTy Try.prog 136 (.nilFunc) := ⟨by kernel_rfl⟩
instance bytesTy136 : BytesTy Try.prog 136 8 := ⟨by kernel_rfl⟩
instance cellTy137 : CellTy Try.prog 137 := ⟨by kernel_rfl⟩
instance stoTy137 : StoTy Try.prog 137 := ⟨by kernel_rfl⟩
instance intTy137 : IntTy Try.prog 137 .u64 := ⟨by kernel_rfl⟩
instance zeroTy137 : ZeroTy Try.prog 137 (.int .u64 0) := ⟨by kernel_rfl⟩
instance bytesTy137 : BytesTy Try.prog 137 8 := ⟨by kernel_rfl⟩
instance cellTy138 : CellTy Try.prog 138 := ⟨by kernel_rfl⟩
instance stoTy138 : StoTy Try.prog 138 := ⟨by kernel_rfl⟩
instance zeroTy138 : ZeroTy Try.prog 138 (.nilFunc) := ⟨by kernel_rfl⟩
instance bytesTy138 : BytesTy Try.prog 138 8 := ⟨by kernel_rfl⟩
instance cellTy139 : CellTy Try.prog 139 := ⟨by kernel_rfl⟩
instance stoTy139 : StoTy Try.prog 139 := ⟨by kernel_rfl⟩
instance zeroTy139 : ZeroTy Try.prog 139 (.nilFunc) := ⟨by kernel_rfl⟩
instance bytesTy139 : BytesTy Try.prog 139 8 := ⟨by kernel_rfl⟩
instance cellTy140 : CellTy Try.prog 140 := ⟨by kernel_rfl⟩
instance stoTy140 : StoTy Try.prog 140 := ⟨by kernel_rfl⟩
instance zeroTy140 : ZeroTy Try.prog 140 (.nilFunc) := ⟨by kernel_rfl⟩
instance bytesTy140 : BytesTy Try.prog 140 8 := ⟨by kernel_rfl⟩
instance cellTy141 : CellTy Try.prog 141 := ⟨by kernel_rfl⟩
instance stoTy141 : StoTy Try.prog 141 := ⟨by kernel_rfl⟩
instance zeroTy141 : ZeroTy Try.prog 141 (.nilFunc) := ⟨by kernel_rfl⟩
instance bytesTy141 : BytesTy Try.prog 141 8 := ⟨by kernel_rfl⟩
instance cellTy142 : CellTy Try.prog 142 := ⟨by kernel_rfl⟩
instance stoTy142 : StoTy Try.prog 142 := ⟨by kernel_rfl⟩
instance zeroTy142 : ZeroTy Try.prog 142 (.nilFunc) := ⟨by kernel_rfl⟩
instance bytesTy142 : BytesTy Try.prog 142 8 := ⟨by kernel_rfl⟩
instance cellTy143 : CellTy Try.prog 143 := ⟨by kernel_rfl⟩
instance stoTy143 : StoTy Try.prog 143 := ⟨by kernel_rfl⟩
instance zeroTy143 : ZeroTy Try.prog 143 (.nilFunc) := ⟨by kernel_rfl⟩
instance bytesTy143 : BytesTy Try.prog 143 8 := ⟨by kernel_rfl⟩
instance cellTy144 : CellTy Try.prog 144 := ⟨by kernel_rfl⟩
instance stoTy144 : StoTy Try.prog 144 := ⟨by kernel_rfl⟩
instance zeroTy144 : ZeroTy Try.prog 144 (.nilFunc) := ⟨by kernel_rfl⟩
instance bytesTy144 : BytesTy Try.prog 144 8 := ⟨by kernel_rfl⟩
instance cellTy145 : CellTy Try.prog 145 := ⟨by kernel_rfl⟩
instance stoTy145 : StoTy Try.prog 145 := ⟨by kernel_rfl⟩
instance zeroTy145 : ZeroTy Try.prog 145 (.nilFunc) := ⟨by kernel_rfl⟩
instance bytesTy145 : BytesTy Try.prog 145 8 := ⟨by kernel_rfl⟩
instance cellTy146 : CellTy Try.prog 146 := ⟨by kernel_rfl⟩
instance stoTy146 : StoTy Try.prog 146 := ⟨by kernel_rfl⟩
instance zeroTy146 : ZeroTy Try.prog 146 (.nilFunc) := ⟨by kernel_rfl⟩
instance bytesTy146 : BytesTy Try.prog 146 8 := ⟨by kernel_rfl⟩
instance aggTy147 : AggTy Try.prog 147 4 := ⟨by kernel_rfl⟩
instance fldTy147_0 : FldTy Try.prog 147 0 17 0 := ⟨by kernel_rfl⟩
instance fldTy147_1 : FldTy Try.prog 147 1 17 1 := ⟨by kernel_rfl⟩
instance fldTy147_2 : FldTy Try.prog 147 2 17 2 := ⟨by kernel_rfl⟩
instance fldTy147_3 : FldTy Try.prog 147 3 9 3 := ⟨by kernel_rfl⟩
instance zeroTy147 : ZeroTy Try.prog 147 (.agg #[.pointer none, .pointer none, .pointer none, .string ⟨#[]⟩]) := ⟨by kernel_rfl⟩
instance bytesTy147 : BytesTy Try.prog 147 40 := ⟨by kernel_rfl⟩
instance aggTy148 : AggTy Try.prog 148 4 := ⟨by kernel_rfl⟩
instance fldTy148_0 : FldTy Try.prog 148 0 17 0 := ⟨by kernel_rfl⟩
instance fldTy148_1 : FldTy Try.prog 148 1 17 1 := ⟨by kernel_rfl⟩
instance fldTy148_2 : FldTy Try.prog 148 2 17 2 := ⟨by kernel_rfl⟩
instance fldTy148_3 : FldTy Try.prog 148 3 9 3 := ⟨by kernel_rfl⟩
instance zeroTy148 : ZeroTy Try.prog 148 (.agg #[.pointer none, .pointer none, .pointer none, .string ⟨#[]⟩]) := ⟨by kernel_rfl⟩
instance bytesTy148 : BytesTy Try.prog 148 40 := ⟨by kernel_rfl⟩
instance aggTy149 : AggTy Try.prog 149 0 := ⟨by kernel_rfl⟩
instance arrTy149 : ArrTy Try.prog 149 0 16 1 := ⟨by kernel_rfl⟩
instance zeroTy149 : ZeroTy Try.prog 149 (.agg #[]) := ⟨by kernel_rfl⟩
instance bytesTy149 : BytesTy Try.prog 149 0 := ⟨by kernel_rfl⟩
instance aggTy150 : AggTy Try.prog 150 0 := ⟨by kernel_rfl⟩
instance zeroTy150 : ZeroTy Try.prog 150 (.agg #[]) := ⟨by kernel_rfl⟩
instance bytesTy150 : BytesTy Try.prog 150 0 := ⟨by kernel_rfl⟩
instance aggTy151 : AggTy Try.prog 151 0 := ⟨by kernel_rfl⟩
instance zeroTy151 : ZeroTy Try.prog 151 (.agg #[]) := ⟨by kernel_rfl⟩
instance bytesTy151 : BytesTy Try.prog 151 0 := ⟨by kernel_rfl⟩
instance cellTy152 : CellTy Try.prog 152 := ⟨by kernel_rfl⟩
instance stoTy152 : StoTy Try.prog 152 := ⟨by kernel_rfl⟩
instance zeroTy152 : ZeroTy Try.prog 152 (.nilFunc) := ⟨by kernel_rfl⟩
instance bytesTy152 : BytesTy Try.prog 152 8 := ⟨by kernel_rfl⟩
instance cellTy153 : CellTy Try.prog 153 := ⟨by kernel_rfl⟩
instance stoTy153 : StoTy Try.prog 153 := ⟨by kernel_rfl⟩
instance intTy153 : IntTy Try.prog 153 .u32 := ⟨by kernel_rfl⟩
instance zeroTy153 : ZeroTy Try.prog 153 (.int .u32 0) := ⟨by kernel_rfl⟩
instance bytesTy153 : BytesTy Try.prog 153 4 := ⟨by kernel_rfl⟩
instance cellTy154 : CellTy Try.prog 154 := ⟨by kernel_rfl⟩
instance stoTy154 : StoTy Try.prog 154 := ⟨by kernel_rfl⟩
instance intTy154 : IntTy Try.prog 154 .u8 := ⟨by kernel_rfl⟩
instance zeroTy154 : ZeroTy Try.prog 154 (.int .u8 0) := ⟨by kernel_rfl⟩
instance bytesTy154 : BytesTy Try.prog 154 1 := ⟨by kernel_rfl⟩
instance cellTy155 : CellTy Try.prog 155 := ⟨by kernel_rfl⟩
instance stoTy155 : StoTy Try.prog 155 := ⟨by kernel_rfl⟩
instance intTy155 : IntTy Try.prog 155 .u8 := ⟨by kernel_rfl⟩
instance zeroTy155 : ZeroTy Try.prog 155 (.int .u8 0) := ⟨by kernel_rfl⟩
instance bytesTy155 : BytesTy Try.prog 155 1 := ⟨by kernel_rfl⟩
instance cellTy156 : CellTy Try.prog 156 := ⟨by kernel_rfl⟩
instance stoTy156 : StoTy Try.prog 156 := ⟨by kernel_rfl⟩
instance zeroTy156 : ZeroTy Try.prog 156 (.nilFunc) := ⟨by kernel_rfl⟩
instance bytesTy156 : BytesTy Try.prog 156 8 := ⟨by kernel_rfl⟩
instance cellTy157 : CellTy Try.prog 157 := ⟨by kernel_rfl⟩
instance stoTy157 : StoTy Try.prog 157 := ⟨by kernel_rfl⟩
instance zeroTy157 : ZeroTy Try.prog 157 (.pointer none) := ⟨by kernel_rfl⟩
instance bytesTy157 : BytesTy Try.prog 157 8 := ⟨by kernel_rfl⟩
instance cellTy158 : CellTy Try.prog 158 := ⟨by kernel_rfl⟩
instance stoTy158 : StoTy Try.prog 158 := ⟨by kernel_rfl⟩
instance intTy158 : IntTy Try.prog 158 .i32 := ⟨by kernel_rfl⟩
instance zeroTy158 : ZeroTy Try.prog 158 (.int .i32 0) := ⟨by kernel_rfl⟩
instance bytesTy158 : BytesTy Try.prog 158 4 := ⟨by kernel_rfl⟩
instance cellTy159 : CellTy Try.prog 159 := ⟨by kernel_rfl⟩
instance stoTy159 : StoTy Try.prog 159 := ⟨by kernel_rfl⟩
instance intTy159 : IntTy Try.prog 159 .i32 := ⟨by kernel_rfl⟩
instance zeroTy159 : ZeroTy Try.prog 159 (.int .i32 0) := ⟨by kernel_rfl⟩
instance bytesTy159 : BytesTy Try.prog 159 4 := ⟨by kernel_rfl⟩
instance aggTy160 : AggTy Try.prog 160 11 := ⟨by kernel_rfl⟩
instance fldTy160_0 : FldTy Try.prog 160 0 12 0 := ⟨by kernel_rfl⟩
instance fldTy160_1 : FldTy Try.prog 160 1 12 1 := ⟨by kernel_rfl⟩
instance fldTy160_2 : FldTy Try.prog 160 2 153 2 := ⟨by kernel_rfl⟩
instance fldTy160_3 : FldTy Try.prog 160 3 154 3 := ⟨by kernel_rfl⟩
instance fldTy160_4 : FldTy Try.prog 160 4 5 4 := ⟨by kernel_rfl⟩
instance fldTy160_5 : FldTy Try.prog 160 5 5 5 := ⟨by kernel_rfl⟩
instance fldTy160_6 : FldTy Try.prog 160 6 155 6 := ⟨by kernel_rfl⟩
instance fldTy160_7 : FldTy Try.prog 160 7 156 7 := ⟨by kernel_rfl⟩
instance fldTy160_8 : FldTy Try.prog 160 8 157 8 := ⟨by kernel_rfl⟩
instance fldTy160_9 : FldTy Try.prog 160 9 158 9 := ⟨by kernel_rfl⟩
instance fldTy160_10 : FldTy Try.prog 160 10 159 10 := ⟨by kernel_rfl⟩
instance zeroTy160 : ZeroTy Try.prog 160 (.agg #[.int .u64 0, .int .u64 0, .int .u32 0, .int .u8 0, .int .u8 0, .int .u8 0, .int .u8 0, .nilFunc, .pointer none, .int .i32 0, .int .i32 0]) := ⟨by kernel_rfl⟩
instance bytesTy160 : BytesTy Try.prog 160 48 := ⟨by kernel_rfl⟩
instance aggTy161 : AggTy Try.prog 161 11 := ⟨by kernel_rfl⟩
instance fldTy161_0 : FldTy Try.prog 161 0 12 0 := ⟨by kernel_rfl⟩
instance fldTy161_1 : FldTy Try.prog 161 1 12 1 := ⟨by kernel_rfl⟩
instance fldTy161_2 : FldTy Try.prog 161 2 153 2 := ⟨by kernel_rfl⟩
instance fldTy161_3 : FldTy Try.prog 161 3 154 3 := ⟨by kernel_rfl⟩
instance fldTy161_4 : FldTy Try.prog 161 4 5 4 := ⟨by kernel_rfl⟩
instance fldTy161_5 : FldTy Try.prog 161 5 5 5 := ⟨by kernel_rfl⟩
instance fldTy161_6 : FldTy Try.prog 161 6 155 6 := ⟨by kernel_rfl⟩
instance fldTy161_7 : FldTy Try.prog 161 7 156 7 := ⟨by kernel_rfl⟩
instance fldTy161_8 : FldTy Try.prog 161 8 157 8 := ⟨by kernel_rfl⟩
instance fldTy161_9 : FldTy Try.prog 161 9 158 9 := ⟨by kernel_rfl⟩
instance fldTy161_10 : FldTy Try.prog 161 10 159 10 := ⟨by kernel_rfl⟩
instance zeroTy161 : ZeroTy Try.prog 161 (.agg #[.int .u64 0, .int .u64 0, .int .u32 0, .int .u8 0, .int .u8 0, .int .u8 0, .int .u8 0, .nilFunc, .pointer none, .int .i32 0, .int .i32 0]) := ⟨by kernel_rfl⟩
instance bytesTy161 : BytesTy Try.prog 161 48 := ⟨by kernel_rfl⟩
instance aggTy162 : AggTy Try.prog 162 4 := ⟨by kernel_rfl⟩
instance fldTy162_0 : FldTy Try.prog 162 0 3 0 := ⟨by kernel_rfl⟩
instance fldTy162_1 : FldTy Try.prog 162 1 3 1 := ⟨by kernel_rfl⟩
instance fldTy162_2 : FldTy Try.prog 162 2 3 2 := ⟨by kernel_rfl⟩
instance fldTy162_3 : FldTy Try.prog 162 3 32 3 := ⟨by kernel_rfl⟩
instance zeroTy162 : ZeroTy Try.prog 162 (.agg #[.int .i64 0, .int .i64 0, .int .i64 0, .slice none 0 0]) := ⟨by kernel_rfl⟩
instance bytesTy162 : BytesTy Try.prog 162 48 := ⟨by kernel_rfl⟩
instance aggTy163 : AggTy Try.prog 163 4 := ⟨by kernel_rfl⟩
instance fldTy163_0 : FldTy Try.prog 163 0 3 0 := ⟨by kernel_rfl⟩
instance fldTy163_1 : FldTy Try.prog 163 1 3 1 := ⟨by kernel_rfl⟩
instance fldTy163_2 : FldTy Try.prog 163 2 3 2 := ⟨by kernel_rfl⟩
instance fldTy163_3 : FldTy Try.prog 163 3 32 3 := ⟨by kernel_rfl⟩
instance zeroTy163 : ZeroTy Try.prog 163 (.agg #[.int .i64 0, .int .i64 0, .int .i64 0, .slice none 0 0]) := ⟨by kernel_rfl⟩
instance bytesTy163 : BytesTy Try.prog 163 48 := ⟨by kernel_rfl⟩
instance cellTy164 : CellTy Try.prog 164 := ⟨by kernel_rfl⟩
instance stoTy164 : StoTy Try.prog 164 := ⟨by kernel_rfl⟩
instance zeroTy164 : ZeroTy Try.prog 164 (.pointer none) := ⟨by kernel_rfl⟩
instance bytesTy164 : BytesTy Try.prog 164 8 := ⟨by kernel_rfl⟩
instance enters2 : Enters Try.prog 2 := Enters.of Try.func2 (by kernel_rfl) (by kernel_rfl)
instance enters3 : Enters Try.prog 3 := Enters.of Try.func3 (by kernel_rfl) (by kernel_rfl)
instance enters4 : Enters Try.prog 4 := Enters.of Try.func4 (by kernel_rfl) (by kernel_rfl)
instance enters5 : Enters Try.prog 5 := Enters.of Try.func5 (by kernel_rfl) (by kernel_rfl)
instance enters6 : Enters Try.prog 6 := Enters.of Try.func6 (by kernel_rfl) (by kernel_rfl)
instance enters7 : Enters Try.prog 7 := Enters.of Try.func7 (by kernel_rfl) (by kernel_rfl)
instance enters8 : Enters Try.prog 8 := Enters.of Try.func8 (by kernel_rfl) (by kernel_rfl)
instance enters9 : Enters Try.prog 9 := Enters.of Try.func9 (by kernel_rfl) (by kernel_rfl)
instance enters10 : Enters Try.prog 10 := Enters.of Try.func10 (by kernel_rfl) (by kernel_rfl)
instance enters11 : Enters Try.prog 11 := Enters.of Try.func11 (by kernel_rfl) (by kernel_rfl)
instance enters12 : Enters Try.prog 12 := Enters.of Try.func12 (by kernel_rfl) (by kernel_rfl)
instance enters13 : Enters Try.prog 13 := Enters.of Try.func13 (by kernel_rfl) (by kernel_rfl)
instance enters14 : Enters Try.prog 14 := Enters.of Try.func14 (by kernel_rfl) (by kernel_rfl)
instance enters15 : Enters Try.prog 15 := Enters.of Try.func15 (by kernel_rfl) (by kernel_rfl)
instance enters16 : Enters Try.prog 16 := Enters.of Try.func16 (by kernel_rfl) (by kernel_rfl)
instance enters17 : Enters Try.prog 17 := Enters.of Try.func17 (by kernel_rfl) (by kernel_rfl)
instance enters18 : Enters Try.prog 18 := Enters.of Try.func18 (by kernel_rfl) (by kernel_rfl)
instance enters19 : Enters Try.prog 19 := Enters.of Try.func19 (by kernel_rfl) (by kernel_rfl)
instance enters20 : Enters Try.prog 20 := Enters.of Try.func20 (by kernel_rfl) (by kernel_rfl)
instance enters21 : Enters Try.prog 21 := Enters.of Try.func21 (by kernel_rfl) (by kernel_rfl)
instance enters22 : Enters Try.prog 22 := Enters.of Try.func22 (by kernel_rfl) (by kernel_rfl)
instance enters23 : Enters Try.prog 23 := Enters.of Try.func23 (by kernel_rfl) (by kernel_rfl)
instance enters24 : Enters Try.prog 24 := Enters.of Try.func24 (by kernel_rfl) (by kernel_rfl)
instance enters25 : Enters Try.prog 25 := Enters.of Try.func25 (by kernel_rfl) (by kernel_rfl)
instance enters26 : Enters Try.prog 26 := Enters.of Try.func26 (by kernel_rfl) (by kernel_rfl)
instance enters27 : Enters Try.prog 27 := Enters.of Try.func27 (by kernel_rfl) (by kernel_rfl)
instance enters28 : Enters Try.prog 28 := Enters.of Try.func28 (by kernel_rfl) (by kernel_rfl)
instance enters29 : Enters Try.prog 29 := Enters.of Try.func29 (by kernel_rfl) (by kernel_rfl)
instance enters30 : Enters Try.prog 30 := Enters.of Try.func30 (by kernel_rfl) (by kernel_rfl)
instance enters31 : Enters Try.prog 31 := Enters.of Try.func31 (by kernel_rfl) (by kernel_rfl)
instance enters32 : Enters Try.prog 32 := Enters.of Try.func32 (by kernel_rfl) (by kernel_rfl)
instance enters33 : Enters Try.prog 33 := Enters.of Try.func33 (by kernel_rfl) (by kernel_rfl)
instance enters34 : Enters Try.prog 34 := Enters.of Try.func34 (by kernel_rfl) (by kernel_rfl)
instance enters35 : Enters Try.prog 35 := Enters.of Try.func35 (by kernel_rfl) (by kernel_rfl)
instance enters36 : Enters Try.prog 36 := Enters.of Try.func36 (by kernel_rfl) (by kernel_rfl)
instance enters37 : Enters Try.prog 37 := Enters.of Try.func37 (by kernel_rfl) (by kernel_rfl)
instance enters38 : Enters Try.prog 38 := Enters.of Try.func38 (by kernel_rfl) (by kernel_rfl)
instance enters39 : Enters Try.prog 39 := Enters.of Try.func39 (by kernel_rfl) (by kernel_rfl)
instance enters40 : Enters Try.prog 40 := Enters.of Try.func40 (by kernel_rfl) (by kernel_rfl)
instance enters41 : Enters Try.prog 41 := Enters.of Try.func41 (by kernel_rfl) (by kernel_rfl)
instance enters42 : Enters Try.prog 42 := Enters.of Try.func42 (by kernel_rfl) (by kernel_rfl)
instance enters43 : Enters Try.prog 43 := Enters.of Try.func43 (by kernel_rfl) (by kernel_rfl)
instance enters44 : Enters Try.prog 44 := Enters.of Try.func44 (by kernel_rfl) (by kernel_rfl)
instance enters45 : Enters Try.prog 45 := Enters.of Try.func45 (by kernel_rfl) (by kernel_rfl)
instance enters46 : Enters Try.prog 46 := Enters.of Try.func46 (by kernel_rfl) (by kernel_rfl)
instance enters47 : Enters Try.prog 47 := Enters.of Try.func47 (by kernel_rfl) (by kernel_rfl)
instance enters48 : Enters Try.prog 48 := Enters.of Try.func48 (by kernel_rfl) (by kernel_rfl)
instance enters49 : Enters Try.prog 49 := Enters.of Try.func49 (by kernel_rfl) (by kernel_rfl)
instance enters50 : Enters Try.prog 50 := Enters.of Try.func50 (by kernel_rfl) (by kernel_rfl)
instance enters51 : Enters Try.prog 51 := Enters.of Try.func51 (by kernel_rfl) (by kernel_rfl)
instance enters52 : Enters Try.prog 52 := Enters.of Try.func52 (by kernel_rfl) (by kernel_rfl)
instance enters53 : Enters Try.prog 53 := Enters.of Try.func53 (by kernel_rfl) (by kernel_rfl)
instance enters54 : Enters Try.prog 54 := Enters.of Try.func54 (by kernel_rfl) (by kernel_rfl)
instance enters55 : Enters Try.prog 55 := Enters.of Try.func55 (by kernel_rfl) (by kernel_rfl)
instance enters56 : Enters Try.prog 56 := Enters.of Try.func56 (by kernel_rfl) (by kernel_rfl)
instance enters57 : Enters Try.prog 57 := Enters.of Try.func57 (by kernel_rfl) (by kernel_rfl)
instance enters58 : Enters Try.prog 58 := Enters.of Try.func58 (by kernel_rfl) (by kernel_rfl)
instance enters59 : Enters Try.prog 59 := Enters.of Try.func59 (by kernel_rfl) (by kernel_rfl)
instance enters60 : Enters Try.prog 60 := Enters.of Try.func60 (by kernel_rfl) (by kernel_rfl)
instance enters61 : Enters Try.prog 61 := Enters.of Try.func61 (by kernel_rfl) (by kernel_rfl)
instance enters62 : Enters Try.prog 62 := Enters.of Try.func62 (by kernel_rfl) (by kernel_rfl)
instance enters63 : Enters Try.prog 63 := Enters.of Try.func63 (by kernel_rfl) (by kernel_rfl)
instance enters64 : Enters Try.prog 64 := Enters.of Try.func64 (by kernel_rfl) (by kernel_rfl)
instance enters65 : Enters Try.prog 65 := Enters.of Try.func65 (by kernel_rfl) (by kernel_rfl)
instance enters66 : Enters Try.prog 66 := Enters.of Try.func66 (by kernel_rfl) (by kernel_rfl)
instance enters67 : Enters Try.prog 67 := Enters.of Try.func67 (by kernel_rfl) (by kernel_rfl)
instance enters68 : Enters Try.prog 68 := Enters.of Try.func68 (by kernel_rfl) (by kernel_rfl)
instance enters69 : Enters Try.prog 69 := Enters.of Try.func69 (by kernel_rfl) (by kernel_rfl)
instance enters70 : Enters Try.prog 70 := Enters.of Try.func70 (by kernel_rfl) (by kernel_rfl)
instance enters71 : Enters Try.prog 71 := Enters.of Try.func71 (by kernel_rfl) (by kernel_rfl)
instance enters72 : Enters Try.prog 72 := Enters.of Try.func72 (by kernel_rfl) (by kernel_rfl)
instance enters73 : Enters Try.prog 73 := Enters.of Try.func73 (by kernel_rfl) (by kernel_rfl)
instance enters74 : Enters Try.prog 74 := Enters.of Try.func74 (by kernel_rfl) (by kernel_rfl)
instance enters75 : Enters Try.prog 75 := Enters.of Try.func75 (by kernel_rfl) (by kernel_rfl)
instance enters76 : Enters Try.prog 76 := Enters.of Try.func76 (by kernel_rfl) (by kernel_rfl)
instance enters77 : Enters Try.prog 77 := Enters.of Try.func77 (by kernel_rfl) (by kernel_rfl)
instance enters78 : Enters Try.prog 78 := Enters.of Try.func78 (by kernel_rfl) (by kernel_rfl)
instance enters79 : Enters Try.prog 79 := Enters.of Try.func79 (by kernel_rfl) (by kernel_rfl)
instance enters80 : Enters Try.prog 80 := Enters.of Try.func80 (by kernel_rfl) (by kernel_rfl)
instance enters81 : Enters Try.prog 81 := Enters.of Try.func81 (by kernel_rfl) (by kernel_rfl)
instance enters82 : Enters Try.prog 82 := Enters.of Try.func82 (by kernel_rfl) (by kernel_rfl)
instance enters83 : Enters Try.prog 83 := Enters.of Try.func83 (by kernel_rfl) (by kernel_rfl)
instance enters84 : Enters Try.prog 84 := Enters.of Try.func84 (by kernel_rfl) (by kernel_rfl)
instance enters85 : Enters Try.prog 85 := Enters.of Try.func85 (by kernel_rfl) (by kernel_rfl)
instance enters86 : Enters Try.prog 86 := Enters.of Try.func86 (by kernel_rfl) (by kernel_rfl)
instance enters87 : Enters Try.prog 87 := Enters.of Try.func87 (by kernel_rfl) (by kernel_rfl)
instance enters88 : Enters Try.prog 88 := Enters.of Try.func88 (by kernel_rfl) (by kernel_rfl)
instance enters89 : Enters Try.prog 89 := Enters.of Try.func89 (by kernel_rfl) (by kernel_rfl)
instance enters90 : Enters Try.prog 90 := Enters.of Try.func90 (by kernel_rfl) (by kernel_rfl)
instance enters91 : Enters Try.prog 91 := Enters.of Try.func91 (by kernel_rfl) (by kernel_rfl)
instance enters92 : Enters Try.prog 92 := Enters.of Try.func92 (by kernel_rfl) (by kernel_rfl)
instance enters93 : Enters Try.prog 93 := Enters.of Try.func93 (by kernel_rfl) (by kernel_rfl)
instance enters94 : Enters Try.prog 94 := Enters.of Try.func94 (by kernel_rfl) (by kernel_rfl)
instance enters95 : Enters Try.prog 95 := Enters.of Try.func95 (by kernel_rfl) (by kernel_rfl)
instance enters96 : Enters Try.prog 96 := Enters.of Try.func96 (by kernel_rfl) (by kernel_rfl)
instance enters97 : Enters Try.prog 97 := Enters.of Try.func97 (by kernel_rfl) (by kernel_rfl)
instance enters98 : Enters Try.prog 98 := Enters.of Try.func98 (by kernel_rfl) (by kernel_rfl)
instance enters99 : Enters Try.prog 99 := Enters.of Try.func99 (by kernel_rfl) (by kernel_rfl)
instance enters100 : Enters Try.prog 100 := Enters.of Try.func100 (by kernel_rfl) (by kernel_rfl)
instance enters101 : Enters Try.prog 101 := Enters.of Try.func101 (by kernel_rfl) (by kernel_rfl)
instance enters102 : Enters Try.prog 102 := Enters.of Try.func102 (by kernel_rfl) (by kernel_rfl)
instance enters103 : Enters Try.prog 103 := Enters.of Try.func103 (by kernel_rfl) (by kernel_rfl)
instance enters104 : Enters Try.prog 104 := Enters.of Try.func104 (by kernel_rfl) (by kernel_rfl)
instance enters105 : Enters Try.prog 105 := Enters.of Try.func105 (by kernel_rfl) (by kernel_rfl)
instance enters106 : Enters Try.prog 106 := Enters.of Try.func106 (by kernel_rfl) (by kernel_rfl)
end Go.Proofs.Ytpmfeplifgmdhaa

/- Contracts: ratios. -/
namespace Go.Proofs.Ytpmfeplifgmdhaa
open Go Go.RowKit

/-! ### more rules -/
section
variable {P : Program} {X : XK}
theorem i64_wrap_id {n : Int} (hn : -9223372036854775808 ≤ n ∧ n ≤ 9223372036854775807) : IntKind.i64.wrap n = n := by
  have := arI (K := fun v => v = .int .i64 n) hn rfl
  rw [ArP_eq] at this
  injection this
theorem convI {s t : TypeId} {k0 : IntKind} {n : Int} {K : Value → Prop} [h0 : IntTy P s k0] [h : IntTy P t .i64] (hn : -9223372036854775808 ≤ n ∧ n ≤ 9223372036854775807) (kk : K (.int .i64 n)) : ConvP P s t (.int k0 n) K := by
  refine conv (k := .i64) ?_
  rw [i64_wrap_id hn]; exact kk
/-- The no first. -/
theorem cDr {p : Prop} [Decidable p] {K : Value → Prop} (h2 : ¬ p → K (.bool false)) (h1 : p → K (.bool true)) : CmpP p K := .of ⟨h1, h2⟩
/-- A number that is not below 0, as an unsigned one. -/
theorem convU {s t : TypeId} {k0 : IntKind} {n : Nat} {i : Int} {K : Value → Prop} [h0 : IntTy P s k0] [h : IntTy P t .u64] (hi : i = n) (hn : n < 9223372036854775808) (kk : K (.int .u64 (n : Int))) : ConvP P s t (.int k0 i) K := by
  subst hi
  refine conv (k := .u64) ?_
  rw [u64_wrap, Int.emod_eq_of_lt (by omega) (by omega)]; exact kk
theorem remT {kd : IntKind} {a b : Int} {K : Value → Prop} (hb : b ≠ 0) (k : K (.int kd (a.tmod b))) : RemP kd a b K := by rw [RemP_eq]; exact ⟨hb, k⟩
theorem quoT {a b : Int} {K : Value → Prop} (c : Int) (hb : b ≠ 0) (hc : a.tdiv b = c) (h : -9223372036854775808 ≤ c ∧ c ≤ 9223372036854775807) (k : K (.int .i64 c)) : QuoP .i64 a b K := by
  rw [QuoP_eq]; exact ⟨hb, by rw [hc, i64_wrap_id h]; exact k⟩
/-- A block of one cell is set. -/
theorem st1 {t e : TypeId} [h : StoTy P t] {g : Nat} {u v : Value} {w : World} {K : VK} (hb : Blk w g e [u]) (hv : v.oneCell' = true) (kk : ∀ w', Blk w' g e [v] → Kept (fun b => b ≠ g) w w' → K undef w') : StoreP P t (.pointer (some (ad g 0))) v K w :=
  st hb (Nat.le_of_ble_eq_true rfl) hv fun w' h1 h2 _ => kk w' h1 h2
theorem yield_of {l : Nat} {args : Array Value} {w : World} {R K : VK} (h : YieldP P l args R w) (k : ∀ v w', R v w' → K v w') : YieldP P l args K w := by
  rw [YieldP_eq] at h ⊢; exact h.mono k
end
abbrev ptr (b : Nat) : Value := .pointer (some (ad b 0))
abbrev iv (n : Int) : Value := .int .i64 n

/-! ### ratios -/
structure Q where
  n : Int
  d : Int
deriving DecidableEq
abbrev Q.v (a : Q) : Value := .agg #[iv a.n, iv a.d]
def qValid (a : Q) : Bool := decide (1 ≤ a.d) && (decide (a.d ≤ 1073741824) && (decide (-1073741824 ≤ a.n) && (decide (a.n ≤ 1073741824) && (Nat.gcd a.n.natAbs a.d.toNat == 1))))
theorem qValid_iff {a : Q} : qValid a = true ↔ 1 ≤ a.d ∧ a.d ≤ 1073741824 ∧ -1073741824 ≤ a.n ∧ a.n ≤ 1073741824 ∧ Nat.gcd a.n.natAbs a.d.toNat = 1 := by
  unfold qValid; simp only [Bool.and_eq_true, decide_eq_true_eq, beq_iff_eq]
def qErr (a : Q) : Int := if qValid a then 0 else 120
def cmpI (x y : Int) : Int := if x < y then -1 else if x > y then 1 else 0
def qCmp (a b : Q) : Int × Int := if qValid a && qValid b then (cmpI (a.n * b.d) (b.n * a.d), 0) else (0, 120)
theorem prod_lt {x y : Int} (hx : -1073741824 ≤ x ∧ x ≤ 1073741824) (hy : -1073741824 ≤ y ∧ y ≤ 1073741824) : -1152921504606846976 ≤ x * y ∧ x * y ≤ 1152921504606846976 := by
  have h1 := Int.natAbs_mul x y
  have h2 : x.natAbs * y.natAbs ≤ 1073741824 * 1073741824 := Nat.mul_le_mul (by omega) (by omega)
  omega

section
variable {w : World}
theorem c_isNaN {x : Int} : CallZ Try.prog 96 #[iv x] w (fun v w' => v = .bool false ∧ w' = w) := by
  refine fn_rule (args := [iv x]) Try.func96 (by kernel_rfl) ?_
  refine cN (fun h => absurd rfl h) (fun _ => ?_)
  exact ret1 (.bool false) rfl ⟨rfl, rfl⟩
theorem c_Compare {x y : Int} : CallZ Try.prog 89 #[iv x, iv y] w (fun v w' => v = iv (cmpI x y) ∧ w' = w) := by
  refine fn_rule (args := [iv x, iv y]) Try.func89 (by kernel_rfl) ?_
  refine call_of c_isNaN ?_
  rintro _ _ ⟨rfl, rfl⟩
  refine call_of c_isNaN ?_
  rintro _ _ ⟨rfl, rfl⟩
  refine cD (fun h => ?_) (fun h => ?_)
  · exact ret1 (iv (-1)) rfl ⟨by unfold cmpI; rw [if_pos h], rfl⟩
  refine cD (fun h2 => ?_) (fun h2 => ?_)
  · exact ret1 (iv 1) rfl ⟨by unfold cmpI; rw [if_neg h, if_pos h2], rfl⟩
  · exact ret1 (iv 0) rfl ⟨by unfold cmpI; rw [if_neg h, if_neg h2], rfl⟩
theorem c_magnitude {n : Int} (hn : -1073741824 ≤ n ∧ n ≤ 1073741824) : CallZ Try.prog 91 #[iv n] w (fun v w' => v = .int .u64 (n.natAbs : Int) ∧ w' = w) := by
  refine fn_rule (args := [iv n]) Try.func91 (by kernel_rfl) ?_
  refine cD (fun h => ?_) (fun h => ?_)
  · refine conv (k := .u64) ?_
    obtain ⟨y, hy⟩ : ∃ y, y = IntKind.u64.wrap n := ⟨_, rfl⟩
    rw [← hy]
    refine arW ?_
    obtain ⟨x, hx⟩ : ∃ x, x = IntKind.u64.wrap (0 - y) := ⟨_, rfl⟩
    rw [← hx]
    rw [u64_wrap] at hx hy
    exact ret1 (.int .u64 x) rfl ⟨by rw [show x = (n.natAbs : Int) from by omega], rfl⟩
  · refine convU (n := n.natAbs) (by omega) (by omega) ?_
    exact ret1 (.int .u64 (n.natAbs : Int)) rfl ⟨rfl, rfl⟩
theorem gcd_step (a b : Nat) : Nat.gcd b (a % b) = Nat.gcd a b := by rw [Nat.gcd_comm b, ← Nat.gcd_rec, Nat.gcd_comm]
theorem c_remainders1 {b1 b2 l a b : Nat} {D : Nat → Prop} (J : Nat → World → Prop) (hb12 : b1 ≠ b2) (hJ : ∀ d w w', J d w → Kept (fun x => x ≠ b1 ∧ x ≠ b2) w w' → J d w')
    (hstep : ∀ (d x : Nat) w, J d w → YieldP Try.prog l [.int .u64 (x : Int)].toArray (fun v w' => v = .bool true ∧ J x w' ∧ Kept D w w') w) (hD1 : D b1) (hD2 : D b2)
    (h1 : Blk w b1 137 [.int .u64 (a : Int)]) (h2 : Blk w b2 137 [.int .u64 (b : Int)]) (hb : 0 < b) (h0 : J b w) :
    CallZ Try.prog 102 #[.func (.yield l) #[] #[], ptr b1, ptr b2] w (fun _ w' => J (Nat.gcd a b) w') := by
  refine fn_rule (args := [.func (.yield l) #[] #[], ptr b1, ptr b2]) Try.func102 (by kernel_rfl) ?_
  refine loop3 (fun (_ _ _ : Nat) => []) (fun x y d w' => 0 < y ∧ Nat.gcd x y = Nat.gcd a b ∧ Blk w' b1 137 [.int .u64 (x : Int)] ∧ Blk w' b2 137 [.int .u64 (y : Int)] ∧ J d w' ∧ (x = 0 → d = y)) (fun _ y _ _ => y) a b b trivial ⟨hb, rfl, h1, h2, h0, fun _ => rfl⟩ rfl ?_
  rintro G x y d w1 ⟨hy, hg, e1, e2, hj, hd⟩
  refine ld _ (e1.cell rfl) ?_
  refine cN (fun hx => ?_) (fun hx => ?_)
  · refine ld _ (e1.cell rfl) ?_
    refine yield_of (hstep d x w1 hj) ?_
    rintro _ w2 ⟨rfl, hj2, k2⟩
    have f1 := e1.kept k2 hD1
    have f2 := e2.kept k2 hD2
    refine drawP (.take 0 (.take 2 (.take 3 (.eff 1 (.take 4 (.eff 5 (.bar (.eff 6 .done)))))))) [6] (fun u => Kept (fun x => x ≠ b1) w2 u) mx (by kernel_rfl) (.refl _ _) ?_
    refine ldK _ (f2.cell rfl) (Ne.symm hb12) (.refl _ _) ?_
    refine ldK _ (f2.cell rfl) (Ne.symm hb12) (.refl _ _) ?_
    refine ld _ (f1.cell rfl) ?_
    refine strS (.refl _ _) ?_
    refine remI (by omega) (by omega) ?_
    obtain ⟨r, hr⟩ : ∃ r : Nat, (x : Int) % max (y : Int) 1 = (r : Int) := ⟨x % y, by rw [Int.max_eq_left (by omega)]; rfl⟩
    have hr' : r = x % y := by
      rw [Int.max_eq_left (by omega)] at hr
      have : ((x % y : Nat) : Int) = (r : Int) := by rw [← hr]; rfl
      omega
    rw [hr]
    have hrl : r < y := by rw [hr']; exact Nat.mod_lt _ hy
    have hgr : Nat.gcd y r = Nat.gcd a b := by rw [hr', gcd_step, hg]
    refine st1 f1 rfl (fun w3 s1 k3 => ?_)
    refine strS k3 ?_
    refine barS (fun _ => True) trivial ?_
    refine st1 (f2.kept k3 (Ne.symm hb12)) rfl (fun w4 s2 k4 => ?_)
    refine strS trivial ?_
    have t1 := s1.kept k4 hb12
    have hj4 := hJ x w2 w4 hj2 ((k3.weak fun _ _ h => h.1).trans (k4.weak fun _ _ h => h.2))
    refine ld _ (s2.cell rfl) ?_
    refine cE (fun h0 => ?_) (fun h0 => ?_)
    · refine ld _ (t1.cell rfl) ?_
      refine yield_of (hstep x y w4 hj4) ?_
      rintro _ w5 ⟨rfl, hj5, -⟩
      refine ret0 ?_
      rw [← hgr, show r = 0 from by omega, Nat.gcd_zero_right]; exact hj5
    · exact next3 y r x trivial ⟨by omega, hgr, t1, s2, hj4, fun h => by omega⟩ hrl
  · have hx0 : x = 0 := by omega
    subst hx0
    refine ret0 ?_
    rw [← hg, Nat.gcd_zero_left]
    rw [hd rfl] at hj; exact hj
theorem c_remainders {a b : Nat} : CallZ Try.prog 97 #[.int .u64 (a : Int), .int .u64 (b : Int)] w (fun v w' => ∃ b1 b2, v = .func (.func 102) #[] #[ptr b1, ptr b2] ∧ Ext w w' ∧ Blk w' b1 137 [.int .u64 (a : Int)] ∧ Blk w' b2 137 [.int .u64 (b : Int)] ∧ w.heap.size ≤ b1 ∧ b1 < b2) := by
  refine fn_rule (args := [.int .u64 (a : Int), .int .u64 (b : Int)]) Try.func97 (by kernel_rfl) ?_
  refine box (fun b1 w1 h1 => ?_)
  refine box (fun b2 w2 h2 => ?_)
  have e1 := h1.at_
  have e2 := h2.at_
  have s1 := h1.size
  exact ret1 (.func (.func 102) #[] #[ptr b1, ptr b2]) rfl ⟨b1, b2, rfl, h1.ext.trans h2.ext, h1.blk.ext h2.ext, h2.blk, by omega, by omega⟩
theorem c_divisor {a b : Nat} : CallZ Try.prog 90 #[.int .u64 (a : Int), .int .u64 (b : Int)] w (fun v w' => v = .int .u64 (Nat.gcd a b : Int) ∧ Ext w w') := by
  refine fn_rule (args := [.int .u64 (a : Int), .int .u64 (b : Int)]) Try.func90 (by kernel_rfl) ?_
  refine alloc (fun r w1 h1 => ?_)
  refine cE (fun h0 => ?_) (fun h0 => ?_)
  · refine st1 h1.blk rfl (fun w2 hb2 k2 => ?_)
    refine ret ?_
    refine resL _ (holds_cell (hb2.cell rfl)) ?_
    have e1 := h1.at_
    have : b = 0 := by omega
    subst this
    rw [Nat.gcd_zero_right]
    exact ⟨rfl, h1.ext.then k2 fun b hb _ e => by omega⟩
  · refine st1 h1.blk rfl (fun w2 hb2 k2 => ?_)
    have e1 := h1.at_
    have x2 : Ext w w2 := h1.ext.then k2 fun b hb _ e => by omega
    refine call_of c_remainders ?_
    rintro _ w3 ⟨b1, b2, rfl, x3, g1, g2, hb1, hb12⟩
    have z2 := hb2.lt
    refine range (gf := 102) (lb := #[ptr b1, ptr b2]) rfl (fun fn tmps w4 R hR hF hwf x4 z4 hD4 hl4 => ?_)
    show CallZ _ _ #[.func (.yield (w3.heap.size + 1)) #[] #[], ptr b1, ptr b2] w4 _
    have l1 := g1.lt
    have l2 := g2.lt
    refine (c_remainders1 (D := fun x => x ≠ r ∧ x ≠ w3.heap.size + 1) (fun d w' => Kept (fun x => x ≠ r ∧ x ≠ b1 ∧ x ≠ b2 ∧ x ≠ w3.heap.size + 1) w4 w' ∧ LoopAt w' (w3.heap.size + 1) R ∧ Blk w' r 137 [.int .u64 (d : Int)]) (by omega)
      (fun d w5 w6 ⟨k5, l5, q5⟩ k6 => ⟨k5.then k6 fun _ _ h => ⟨h.2.1, h.2.2.1⟩, l5.kept k6 ⟨by omega, by omega⟩, q5.kept k6 ⟨by omega, by omega⟩⟩) ?_ ⟨by omega, by omega⟩ ⟨by omega, by omega⟩ (g1.ext x4) (g2.ext x4) (by omega) ⟨.refl _ _, hl4, (hb2.ext x3).ext x4⟩).mono ?_
    · rintro d x w5 ⟨k5, l5, q5⟩
      subst hR
      refine yield_rule (args := [.int .u64 (x : Int)]) l5 rfl rfl hF hwf ?_
      refine mid' l5 (fun w6 k6 _ l6 => ?_)
      refine st1 (q5.kept k6 (by omega)) rfl (fun w7 q7 k7 => ?_)
      refine roundN' _ (l6.kept k7 (by omega)) (fun w8 k8 l8 => ?_)
      have kk : Kept (fun x => x ≠ r ∧ x ≠ w3.heap.size + 1) w5 w8 := ((k6.weak fun _ _ h => h.2).trans (k7.weak fun _ _ h => h.1)).trans (k8.weak fun _ _ h => h.2)
      exact ⟨rfl, ⟨k5.then kk fun _ _ h => ⟨h.1, h.2.2.2⟩, l8, q7.kept k8 (by omega)⟩, kk⟩
    · rintro v w5 ⟨k5, l5, q5⟩
      subst hR
      refine range_end _ l5 (by simp) (fun w6 k6 => ?_)
      have q6 := q5.kept k6 (by omega)
      refine ld _ (q6.cell rfl) ?_
      refine st1 q6 rfl (fun w7 q7 k7 => ?_)
      have k47 : Kept (fun x => x ≠ r ∧ x ≠ b1 ∧ x ≠ b2 ∧ x ≠ w3.heap.size + 1) w4 w7 := (k5.then k6 fun _ _ h => h.2.2.2).then k7 fun _ _ h => h.1
      have hD7 : w7.heap[w3.heap.size]? = some (.deferred (some [])) := (k47.blk _ (by omega) ⟨by omega, by omega, by omega, by omega⟩).trans hD4
      refine retM hD7 ?_
      have k8 := Kept.putObj w7 w3.heap.size (.deferred none)
      refine resL _ (holds_cell ((q7.kept k8 (by have := x3.size; omega)).cell rfl)) ?_
      exact ⟨rfl, x2.then (((Ext.any (D := fun b => b < w.heap.size) (x3.trans x4)).then k47 (fun b _ h => ⟨by omega, by omega, by omega, by have := x2.size; have := x3.size; omega⟩)).then k8 (fun b _ h => by have := x2.size; have := x3.size; omega)) (fun b hb _ => hb)⟩
theorem c_qCheck {a : Q} : CallZ Try.prog 81 #[a.v] w (fun v w' => v = iv (qErr a) ∧ Ext w w') := by
  refine fn_rule (args := [.agg #[iv a.n, iv a.d]]) Try.func81 (by kernel_rfl) ?_
  refine box (fun b w1 h1 => ?_)
  have bad : qValid a = false → iv 120 = iv (qErr a) := fun h => by unfold qErr; rw [h]; rfl
  have h := h1.blk
  refine drawX [0, 1, 2, 3, 4, 5, 6, 7, 8, 9, 10, 11, 12, 13, 14, 15, 16, 17, 18, 19, 20, 21, 22, 23, 24, 25, 26, 27] [25] mx (by kernel_rfl) ?_
  refine fldA ?_
  refine ldX _ (h.cell rfl) (.refl _ _) ?_
  refine cD (fun g1 => ?_) (fun g1 => ?_)
  · refine strS (.refl _ _) ?_
    exact ret1 (iv 120) rfl ⟨bad (Bool.eq_false_iff.2 fun e => by have := qValid_iff.1 e; omega), h1.ext⟩
  refine fldA ?_
  refine ldX _ (h.cell rfl) (.refl _ _) ?_
  refine cD (fun g2 => ?_) (fun g2 => ?_)
  · refine strS (.refl _ _) ?_
    exact ret1 (iv 120) rfl ⟨bad (Bool.eq_false_iff.2 fun e => by have := qValid_iff.1 e; omega), h1.ext⟩
  refine fldA ?_
  refine ldX _ (h.cell rfl) (.refl _ _) ?_
  refine cD (fun g3 => ?_) (fun g3 => ?_)
  · refine strS (.refl _ _) ?_
    exact ret1 (iv 120) rfl ⟨bad (Bool.eq_false_iff.2 fun e => by have := qValid_iff.1 e; omega), h1.ext⟩
  refine fldA ?_
  refine ldX _ (h.cell rfl) (.refl _ _) ?_
  refine cD (fun g4 => ?_) (fun g4 => ?_)
  · refine strS (.refl _ _) ?_
    exact ret1 (iv 120) rfl ⟨bad (Bool.eq_false_iff.2 fun e => by have := qValid_iff.1 e; omega), h1.ext⟩
  refine fldA ?_
  refine ldX _ (h.cell rfl) (.refl _ _) ?_
  refine callQ (v := .int .u64 (a.n.natAbs : Int)) (fun u _ => c_magnitude (by omega)) ?_
  refine fldA ?_
  refine ldX _ (h.cell rfl) (.refl _ _) ?_
  refine convU (n := a.d.toNat) (by omega) (by omega) ?_
  refine call_of c_divisor ?_
  rintro _ w2 ⟨rfl, x2⟩
  refine strS x2 ?_
  refine cN (fun g5 => ?_) (fun g5 => ?_)
  · exact ret1 (iv 120) rfl ⟨bad (Bool.eq_false_iff.2 fun e => by have := qValid_iff.1 e; omega), h1.ext.trans x2⟩
  · refine ret1 (iv 0) rfl ⟨?_, h1.ext.trans x2⟩
    unfold qErr
    rw [qValid_iff.2 ⟨by omega, by omega, by omega, by omega, by omega⟩]; rfl
theorem qErr_ok {a : Q} : qErr a = 0 ↔ qValid a = true := by unfold qErr; cases qValid a <;> simp
theorem c_qCmp {a b : Q} : CallZ Try.prog 80 #[a.v, b.v] w (fun v w' => v = .tuple #[iv (qCmp a b).1, iv (qCmp a b).2] ∧ Ext w w') := by
  refine fn_rule (args := [.agg #[iv a.n, iv a.d], .agg #[iv b.n, iv b.d]]) Try.func80 (by kernel_rfl) ?_
  refine box (fun ga w1 h1 => ?_)
  refine box (fun gb w2 h2 => ?_)
  have x2 := h1.ext.trans h2.ext
  have ba := h1.blk.ext h2.ext
  refine ldA [_, _] (.blk ba) rfl ?_
  refine call_of (c_qCheck (a := a)) ?_
  rintro _ w3 ⟨rfl, x3⟩
  refine cN (fun g1 => ?_) (fun g1 => ?_)
  · refine ret2 (iv 0) (iv 120) rfl rfl ⟨?_, x2.trans x3⟩
    have : qValid a = false := Bool.eq_false_iff.2 fun e => g1 (qErr_ok.2 e)
    unfold qCmp; rw [this]; rfl
  refine ldA [_, _] (.blk (h2.blk.ext x3)) rfl ?_
  refine call_of (c_qCheck (a := b)) ?_
  rintro _ w4 ⟨rfl, x4⟩
  have ha := qErr_ok.1 g1
  have x24 := x3.trans x4
  refine cN (fun g2 => ?_) (fun g2 => ?_)
  · refine ret2 (iv 0) (iv 120) rfl rfl ⟨?_, x2.trans x24⟩
    have : qValid b = false := Bool.eq_false_iff.2 fun e => g2 (qErr_ok.2 e)
    unfold qCmp; rw [ha, this]; rfl
  have hb := qErr_ok.1 g2
  have va := qValid_iff.1 ha
  have vb := qValid_iff.1 hb
  have p1 := prod_lt (x := a.n) (y := b.d) (by omega) (by omega)
  have p2 := prod_lt (x := b.n) (y := a.d) (by omega) (by omega)
  have ba4 := ba.ext x24
  have bb4 := h2.blk.ext x24
  refine fldA ?_
  refine ld _ (ba4.cell rfl) ?_
  refine fldA ?_
  refine ld _ (bb4.cell rfl) ?_
  refine arI (by omega) ?_
  refine fldA ?_
  refine ld _ (bb4.cell rfl) ?_
  refine fldA ?_
  refine ld _ (ba4.cell rfl) ?_
  refine arI (by omega) ?_
  refine call_of c_Compare ?_
  rintro _ _ ⟨rfl, rfl⟩
  refine ret2 (iv (cmpI (a.n * b.d) (b.n * a.d))) (iv 0) rfl rfl ⟨?_, x2.trans x24⟩
  unfold qCmp; rw [ha, hb]; rfl
theorem floor_eq {n d : Int} (hd : 0 < d) : (n - (n.tmod d + d).tmod d).tdiv d = n / d := by
  have h1 : n.tmod d + d = n.tmod d + d := rfl
  have hr := Int.tmod_lt_of_pos n hd
  have hr2 := Int.lt_tmod_of_pos n hd
  have h3 : (n.tmod d + d).tmod d = n % d := by
    rw [Int.tmod_eq_emod_of_nonneg (by omega), Int.add_emod_right]
    have := Int.tmod_eq_emod (a := n) (b := d)
    rw [this]
    split
    · simp
    · rw [Int.natAbs_of_nonneg (by omega), Int.sub_emod, Int.emod_self, Int.sub_zero, Int.emod_emod_of_dvd _ (Int.dvd_refl d), Int.emod_emod_of_dvd _ (Int.dvd_refl d)]
  rw [h3]
  have h4 : n - n % d = d * (n / d) := by have := Int.emod_add_mul_ediv n d; omega
  rw [h4, Int.mul_tdiv_cancel_left _ (by omega)]
theorem c_down {n d : Int} (hd : 0 < d ∧ d ≤ 1073741824) (hn : -1152921504606846976 ≤ n ∧ n ≤ 1152921504606846976) : CallZ Try.prog 82 #[iv n, iv d] w (fun v w' => v = iv (n / d) ∧ w' = w) := by
  refine fn_rule (args := [iv n, iv d]) Try.func82 (by kernel_rfl) ?_
  have hr := Int.tmod_lt_of_pos n hd.1
  have hr2 := Int.lt_tmod_of_pos n hd.1
  refine remT (by omega) ?_
  refine arI (by omega) ?_
  have hs := Int.tmod_lt_of_pos (n.tmod d + d) hd.1
  have hs2 := Int.lt_tmod_of_pos (n.tmod d + d) hd.1
  refine remT (by omega) ?_
  refine arI (by omega) ?_
  have hf := floor_eq (n := n) hd.1
  have hb1 : -1152921504606846976 ≤ n / d := by
    have := Int.le_ediv_of_mul_le (a := -1152921504606846976) (b := n) hd.1 (by have : -1152921504606846976 * d ≤ -1152921504606846976 := by omega
                                                                                omega)
    exact this
  have hb2 : n / d ≤ 1152921504606846976 := by
    have h : n / d < 1152921504606846977 := Int.ediv_lt_of_lt_mul hd.1 (by have : 1152921504606846977 ≤ 1152921504606846977 * d := by omega
                                                                           omega)
    omega
  refine quoT (n / d) (by omega) hf (by omega) ?_
  exact ret1 (iv (n / d)) rfl ⟨rfl, rfl⟩
/-- The integers around a product. -/
def qTimes (a : Q) (n : Int) : Int × Int × Int := if qValid a then (if n < -1073741824 ∨ 1073741824 < n then (0, 0, 1) else (a.n * n / a.d, -(-a.n * n / a.d), 0)) else (0, 0, 120)
theorem c_Times {a : Q} {n : Int} : CallZ Try.prog 60 #[a.v, iv n] w (fun v w' => v = .tuple #[iv (qTimes a n).1, iv (qTimes a n).2.1, iv (qTimes a n).2.2] ∧ Ext w w') := by
  refine fn_rule (args := [.agg #[iv a.n, iv a.d], iv n]) Try.func60 (by kernel_rfl) ?_
  refine box (fun ga w1 h1 => ?_)
  refine ldA [_, _] (.blk h1.blk) rfl ?_
  refine call_of (c_qCheck (a := a)) ?_
  rintro _ w2 ⟨rfl, x2⟩
  have x02 := h1.ext.trans x2
  refine cN (fun g1 => ?_) (fun g1 => ?_)
  · have hv : qValid a = false := Bool.eq_false_iff.2 fun e => g1 (qErr_ok.2 e)
    refine ret3 (iv 0) (iv 0) (iv (qErr a)) rfl rfl rfl ⟨?_, x02⟩
    unfold qTimes qErr; rw [hv]; rfl
  have hv := qErr_ok.1 g1
  have va := qValid_iff.1 hv
  have b2 := h1.blk.ext x2
  refine cD (fun g2 => ?_) (fun g2 => ?_)
  · refine ret3 (iv 0) (iv 0) (iv 1) rfl rfl rfl ⟨?_, x02⟩
    unfold qTimes; rw [hv, if_pos rfl, if_pos (.inl g2)]
  refine cD (fun g3 => ?_) (fun g3 => ?_)
  · refine ret3 (iv 0) (iv 0) (iv 1) rfl rfl rfl ⟨?_, x02⟩
    unfold qTimes; rw [hv, if_pos rfl, if_pos (.inr g3)]
  have p1 := prod_lt (x := a.n) (y := n) (by omega) (by omega)
  have p2 := prod_lt (x := -a.n) (y := n) (by omega) (by omega)
  refine drawQ mx (by kernel_rfl) ?_
  refine fldA ?_
  refine ld _ (b2.cell rfl) ?_
  refine arI (by omega) ?_
  refine fldA ?_
  refine ld _ (b2.cell rfl) ?_
  refine callQ (v := iv (a.n * n / a.d)) (fun u _ => c_down (by omega) (by omega)) ?_
  refine fldA ?_
  refine ld _ (b2.cell rfl) ?_
  refine arI (by omega) ?_
  rw [show (0 : Int) - a.n = -a.n from by omega]
  refine arI (by omega) ?_
  refine fldA ?_
  refine ld _ (b2.cell rfl) ?_
  refine callQ (v := iv (-a.n * n / a.d)) (fun u _ => c_down (by omega) (by omega)) ?_
  have hb1 : -1152921504606846976 ≤ -a.n * n / a.d := by
    have := Int.le_ediv_of_mul_le (a := -1152921504606846976) (b := -a.n * n) (c := a.d) (by omega) (by have : -1152921504606846976 * a.d ≤ -1152921504606846976 := by omega
                                                                                                        omega)
    exact this
  have hb2 : -a.n * n / a.d ≤ 1152921504606846976 := by
    have h : -a.n * n / a.d < 1152921504606846977 := Int.ediv_lt_of_lt_mul (by omega) (by have : 1152921504606846977 ≤ 1152921504606846977 * a.d := by omega
                                                                                          omega)
    omega
  refine arI (by omega) ?_
  refine ret3 (iv (a.n * n / a.d)) (iv (0 - -a.n * n / a.d)) (iv 0) rfl rfl rfl ⟨?_, x02⟩
  unfold qTimes
  rw [hv, if_pos rfl, if_neg (by omega), Int.zero_sub]
end
end Go.Proofs.Ytpmfeplifgmdhaa

/- Contracts: ratios, the reference's. -/
namespace Go.Proofs.Ytpmfeplifgmdhaa
open Go Go.RowKit

theorem natmod {x y : Nat} : (x : Int) % (y : Int) = ((x % y : Nat) : Int) := rfl
section
variable {w : World}
theorem c_r12divisor {a b : Nat} : CallZ Try.prog 105 #[iv a, iv b] w (fun v w' => v = iv (Nat.gcd a b : Nat) ∧ w' = w) := by
  refine fn_rule (args := [iv a, iv b]) Try.func105 (by kernel_rfl) ?_
  refine loop2 (fun (x y : Nat) => [(0, iv x), (1, iv y)]) (fun x y w' => w = w' ∧ Nat.gcd x y = Nat.gcd a b) (fun _ y _ => y) a b ⟨rfl, rfl, trivial⟩ ⟨rfl, rfl⟩ rfl ?_
  rintro G x y _ ⟨rfl, hg⟩
  refine cD (fun h => ?_) (fun h => ?_)
  · have hy : 0 < y := by omega
    refine remI (by omega) (by omega) ?_
    rw [natmod]
    exact next2 y (x % y) ⟨rfl, rfl, trivial⟩ ⟨rfl, by rw [gcd_step, hg]⟩ (Nat.mod_lt _ hy)
  · have hy : y = 0 := by omega
    subst hy
    rw [Nat.gcd_zero_right] at hg
    exact ret1 (iv x) rfl ⟨by rw [← hg], rfl⟩
theorem c_r12size {n : Int} (hn : -1073741824 ≤ n ∧ n ≤ 1073741824) : CallZ Try.prog 106 #[iv n] w (fun v w' => v = iv (n.natAbs : Nat) ∧ w' = w) := by
  refine fn_rule (args := [iv n]) Try.func106 (by kernel_rfl) ?_
  refine cD (fun h => ?_) (fun h => ?_)
  · refine arI (by omega) ?_
    exact ret1 (iv (0 - n)) rfl ⟨by rw [show ((n.natAbs : Nat) : Int) = 0 - n from by omega], rfl⟩
  · exact ret1 (iv n) rfl ⟨by rw [show ((n.natAbs : Nat) : Int) = n from by omega], rfl⟩
theorem c_r12Valid {a : Q} : CallZ Try.prog 103 #[a.v] w (fun v w' => v = .bool (qValid a) ∧ Ext w w') := by
  refine fn_rule (args := [.agg #[iv a.n, iv a.d]]) Try.func103 (by kernel_rfl) ?_
  refine box (fun b w1 h1 => ?_)
  have bad : qValid a ≠ true → Value.bool false = .bool (qValid a) := fun h => by cases hv : qValid a <;> simp_all
  have h := h1.blk
  refine drawQ mx (by kernel_rfl) ?_
  refine fldA ?_
  refine ld _ (h.cell rfl) ?_
  refine cDr (fun g1 => ?_) (fun g1 => ?_)
  · exact ret1 (.bool false) rfl ⟨bad fun e => by have := qValid_iff.1 e; omega, h1.ext⟩
  refine fldA ?_
  refine ld _ (h.cell rfl) ?_
  refine cDr (fun g2 => ?_) (fun g2 => ?_)
  · exact ret1 (.bool false) rfl ⟨bad fun e => by have := qValid_iff.1 e; omega, h1.ext⟩
  refine fldA ?_
  refine ld _ (h.cell rfl) ?_
  refine cDr (fun g3 => ?_) (fun g3 => ?_)
  · exact ret1 (.bool false) rfl ⟨bad fun e => by have := qValid_iff.1 e; omega, h1.ext⟩
  refine fldA ?_
  refine ld _ (h.cell rfl) ?_
  refine cDr (fun g4 => ?_) (fun g4 => ?_)
  · exact ret1 (.bool false) rfl ⟨bad fun e => by have := qValid_iff.1 e; omega, h1.ext⟩
  refine fldA ?_
  refine ld _ (h.cell rfl) ?_
  refine callQ (v := iv (a.n.natAbs : Nat)) (fun u _ => c_r12size (by omega)) ?_
  refine fldA ?_
  refine ld _ (h.cell rfl) ?_
  have hd : a.d = ((a.d.toNat : Nat) : Int) := by omega
  refine callQ (v := iv (Nat.gcd a.n.natAbs a.d.toNat : Nat)) (fun u _ => by
    have := c_r12divisor (w := u) (a := a.n.natAbs) (b := a.d.toNat)
    rwa [← hd] at this) ?_
  refine cE (fun g5 => ?_) (fun g5 => ?_)
  · exact ret1 (.bool true) rfl ⟨by rw [qValid_iff.2 ⟨by omega, by omega, by omega, by omega, by omega⟩], h1.ext⟩
  · exact ret1 (.bool false) rfl ⟨bad fun e => by have := qValid_iff.1 e; omega, h1.ext⟩
theorem c_r12Check {a : Q} : CallZ Try.prog 98 #[a.v] w (fun v w' => v = iv (qErr a) ∧ Ext w w') := by
  refine fn_rule (args := [.agg #[iv a.n, iv a.d]]) Try.func98 (by kernel_rfl) ?_
  refine box (fun b w1 h1 => ?_)
  refine ldA [_, _] (.blk h1.blk) rfl ?_
  refine callE (c_r12Valid (a := a)) (fun w2 hb x2 => ?_) (fun w2 hb x2 => ?_)
  · exact ret1 (iv 0) rfl ⟨by unfold qErr; rw [hb]; rfl, h1.ext.trans x2⟩
  · exact ret1 (iv 120) rfl ⟨by unfold qErr; rw [hb]; rfl, h1.ext.trans x2⟩
theorem c_r12Both {a b : Q} : CallZ Try.prog 104 #[a.v, b.v] w (fun v w' => v = .bool (qValid a && qValid b) ∧ Ext w w') := by
  refine fn_rule (args := [.agg #[iv a.n, iv a.d], .agg #[iv b.n, iv b.d]]) Try.func104 (by kernel_rfl) ?_
  refine box (fun ga w1 h1 => ?_)
  refine box (fun gb w2 h2 => ?_)
  have x2 := h1.ext.trans h2.ext
  refine ldA [_, _] (.blk (h1.blk.ext h2.ext)) rfl ?_
  refine callE (c_r12Valid (a := a)) (fun w3 hb x3 => ?_) (fun w3 hb x3 => ?_)
  · refine ldA [_, _] (.blk (h2.blk.ext x3)) rfl ?_
    refine callE (c_r12Valid (a := b)) (fun w4 hb2 x4 => ?_) (fun w4 hb2 x4 => ?_)
    · exact ret1 (.bool true) rfl ⟨by rw [hb, hb2]; rfl, x2.trans (x3.trans x4)⟩
    · exact ret1 (.bool false) rfl ⟨by rw [hb, hb2]; rfl, x2.trans (x3.trans x4)⟩
  · exact ret1 (.bool false) rfl ⟨by rw [hb]; rfl, x2.trans x3⟩
theorem c_r12Less {a b : Q} (va : qValid a = true) (vb : qValid b = true) : CallZ Try.prog 101 #[a.v, b.v] w (fun v w' => v = .bool (decide (a.n * b.d < b.n * a.d)) ∧ Ext w w') := by
  have va := qValid_iff.1 va
  have vb := qValid_iff.1 vb
  have p1 := prod_lt (x := a.n) (y := b.d) (by omega) (by omega)
  have p2 := prod_lt (x := b.n) (y := a.d) (by omega) (by omega)
  refine fn_rule (args := [.agg #[iv a.n, iv a.d], .agg #[iv b.n, iv b.d]]) Try.func101 (by kernel_rfl) ?_
  refine box (fun ga w1 h1 => ?_)
  refine box (fun gb w2 h2 => ?_)
  have x2 := h1.ext.trans h2.ext
  have ba := h1.blk.ext h2.ext
  refine fldA ?_
  refine ld _ (ba.cell rfl) ?_
  refine fldA ?_
  refine ld _ (h2.blk.cell rfl) ?_
  refine arI (by omega) ?_
  refine fldA ?_
  refine ld _ (h2.blk.cell rfl) ?_
  refine fldA ?_
  refine ld _ (ba.cell rfl) ?_
  refine arI (by omega) ?_
  refine cB _ rfl ?_
  exact ret1 (.bool (decide (a.n * b.d < b.n * a.d))) rfl ⟨rfl, x2⟩
theorem c_r12Cmp {a b : Q} : CallZ Try.prog 99 #[a.v, b.v] w (fun v w' => v = .tuple #[iv (qCmp a b).1, iv (qCmp a b).2] ∧ Ext w w') := by
  refine fn_rule (args := [.agg #[iv a.n, iv a.d], .agg #[iv b.n, iv b.d]]) Try.func99 (by kernel_rfl) ?_
  refine box (fun ga w1 h1 => ?_)
  refine box (fun gb w2 h2 => ?_)
  have x2 := h1.ext.trans h2.ext
  have ba := h1.blk.ext h2.ext
  have bb := h2.blk
  refine ldA [_, _] (.blk ba) rfl ?_
  refine ldA [_, _] (.blk bb) rfl ?_
  refine callE (c_r12Both (a := a) (b := b)) (fun w3 hb x3 => ?_) (fun w3 hb x3 => ?_)
  · have hab : qValid a = true ∧ qValid b = true := by simpa using hb
    have hC : qCmp a b = (cmpI (a.n * b.d) (b.n * a.d), 0) := by unfold qCmp; rw [hb]; rfl
    refine ldA [_, _] (.blk (ba.ext x3)) rfl ?_
    refine ldA [_, _] (.blk (bb.ext x3)) rfl ?_
    refine callE (c_r12Less hab.1 hab.2) (fun w4 h4 x4 => ?_) (fun w4 h4 x4 => ?_)
    · exact ret2 (iv (-1)) (iv 0) rfl rfl ⟨by rw [hC]; unfold cmpI; rw [if_pos (of_decide_eq_true h4)], x2.trans (x3.trans x4)⟩
    refine ldA [_, _] (.blk (bb.ext (x3.trans x4))) rfl ?_
    refine ldA [_, _] (.blk (ba.ext (x3.trans x4))) rfl ?_
    have h4 := of_decide_eq_false h4
    refine callE (c_r12Less hab.2 hab.1) (fun w5 h5 x5 => ?_) (fun w5 h5 x5 => ?_)
    · exact ret2 (iv 1) (iv 0) rfl rfl ⟨by rw [hC]; unfold cmpI; rw [if_neg h4, if_pos (of_decide_eq_true h5)], x2.trans (x3.trans (x4.trans x5))⟩
    · have h5 := of_decide_eq_false h5
      exact ret2 (iv 0) (iv 0) rfl rfl ⟨by rw [hC]; unfold cmpI; rw [if_neg h4, if_neg (by omega)], x2.trans (x3.trans (x4.trans x5))⟩
  · exact ret2 (iv 0) (iv 120) rfl rfl ⟨by unfold qCmp; rw [hb]; rfl, x2.trans x3⟩
end
end Go.Proofs.Ytpmfeplifgmdhaa
