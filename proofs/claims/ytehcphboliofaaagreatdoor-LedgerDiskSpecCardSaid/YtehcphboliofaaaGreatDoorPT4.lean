/- Parts of the proof: Vz V0 V1 V2 V3 Facts A1 A2 A3 A4 A5. -/
import Derived.Test.YtehcphboliofaaaGreatDoorPT3
import Derived.Laws.IdiomCopy
import Derived.Lib.AppendZerosOnto
import Derived.Laws.IdiomStrings
import Derived.Laws.BytesArg
import Derived.ChangeKeysEq
import Derived.ArgAppend
import Derived.Scope
import Derived.Test.YtehcphboliofaaaGreatDoorPT2
import Derived.Test.YtehcphboliofaaaGreatDoorProg
namespace Go.Proofs.YtehcphboliofaaaGreatDoor
open Go Go.RowKit
section
variable {P : Program} {X : XK}
theorem mslcC {t e : TypeId} {sz by_ : Nat} {zv : Value} [h : SliceTy P t e sz] [hz : ZeroTy P e zv] [hby : BytesTy P e by_] {k1 k2 : IntKind} (l n : Nat) {i j : Int} {w : World} {K : VK} (hi : i = l) (hln : l ≤ n) (hj : j = n) (hb : by_ * n ≤ 140737488355328) (hn : n ≤ 9223372036854775807) (hzs : (cellsL zv).length = sz) (hpos : 0 < sz)
    (kk : ∀ g w', NewB w e ((List.replicate n (cellsL zv)).flatten) g w' → K (.slice (some (ad g 0)) l n) w') : MSlcP P t (.int k1 i) (.int k2 j) K w := by
  rw [MSlcP_eq]; intro w0 hw; subst hw; subst hi; subst hj; obtain ⟨hu, inf, hinf, hsz⟩ := sliceOf_spec h.h; obtain ⟨i', hi', hzz⟩ := zeroOf_spec hz.h; rw [hinf] at hi'; cases hi'
  have hbb : inf.bytes = by_ := by have := hby.h; unfold bytesOf at this; rw [hinf] at this; simpa using this
  have hbytes : (inf.bytes : Int) * (n : Int) ≤ 281474976710656 := by
    rw [hbb]; have : ((by_ * n : Nat) : Int) ≤ 140737488355328 := by omega
    rw [Int.natCast_mul] at this; omega
  have hr := run_make (P := P) w0 t e inf zv hu hinf hzz k1 k2 l n (by omega) (by omega) hbytes (by omega); rw [run_vS, hr]
  have hcells : madeCells zv.cells ((n : Int).toNat * inf.size) = ((List.replicate n (cellsL zv)).flatten).toArray := by
    rw [hsz, Int.toNat_natCast, cellsL_eq]; apply Array.ext
    · simp [madeCells, hzs]
    · intro k h1 h2
      have hk : k < n * sz := by simpa [madeCells] using h1
      simp only [madeCells, Array.getElem_map, Array.getElem_range, List.getElem_toArray, List.size_toArray, hzs]
      have key : ∀ (n k : Nat) (l : List Value), l.length = sz → k < n * sz → (List.replicate n l).flatten[k]? = l[k % sz]? := by
        intro n
        induction n with
        | zero => intro k l _ hk; omega
        | succ n ih =>
          intro k l hl hk; rw [List.replicate_succ, List.flatten_cons]
          by_cases hlt : k < sz
          · rw [List.getElem?_append_left (by omega), Nat.mod_eq_of_lt hlt]
          · rw [List.getElem?_append_right (by omega), hl, ih (k - sz) l hl (by have : (n + 1) * sz = n * sz + sz := Nat.succ_mul n sz; omega), show k % sz = (k - sz) % sz from Nat.mod_eq_sub_mod (by omega)]
      have hm : k % sz < (cellsL zv).length := by rw [hzs]; exact Nat.mod_lt _ hpos
      have e1 := key n k (cellsL zv) hzs hk; rw [List.getElem?_eq_getElem (by simp [hzs]; exact hk), List.getElem?_eq_getElem hm] at e1; simp only [Option.some.injEq] at e1; rw [e1]; simp [hm]
  rw [hcells]; exact kk _ _ ⟨rfl, rfl⟩
theorem run_sliceBoundsM {isS : Bool} {n c : Nat} {lo : Option Value} {hv mv : Value} {l h m : Nat} (hl : IsB lo l 0) (hh : IsB (some hv) h n) (hm : IsB (some mv) m 0) (h1 : l ≤ h) (h2 : h ≤ m) (h3 : m ≤ c) (w : World) : (Instr.sliceBounds isS n c lo (some hv) (some mv)).run P w = .ok (l, h, m) w := by
  cases mv <;> first | exact hm.elim | skip
  cases hv <;> first | exact hh.elim | skip
  cases lo with
  | none => obtain rfl : l = 0 := hl; simp [Instr.sliceBounds, run_sliceBound _ hm h3, run_sliceBound _ hh h2]
  | some v => cases v <;> first | exact hl.elim | simp [Instr.sliceBounds, run_sliceBound _ hm h3, run_sliceBound _ hh h2, run_sliceBound _ hl h1]
theorem slcArr {t e : TypeId} {N sz : Nat} [ha : ArrTy P t N e sz] {g o : Nat} {lo hi : Option Value} {K : Value → Prop} (l h : Nat) (hlo : IsB lo l 0) (hhi : IsB hi h N) (h1 : l ≤ h) (h2 : h ≤ N) (hlt : l < N)
    (kk : K (.slice (some (ad g (o + l * sz))) (h - l) (N - l))) : SlcP P t (.pointer (some (ad g o))) lo hi none K := by
  rw [SlcP_eq]; obtain ⟨hu, inf, hinf, hs'⟩ := arrOf_spec ha.h
  have hrun : ∀ w, (Instr.sliceAt t (.pointer (some (ad g o))) lo hi none).run P w = .ok (.slice (some (ad g (o + l * sz))) (h - l) (N - l)) w := fun w => by
    unfold Instr.sliceAt; rw [Sem.run_bind, run_underlying hu]; simp only [Result.andThen_ok]; have h0 : (Instr.sureAddr (.pointer (some (ad g o)))).run P w = .ok (ad g o) w := rfl; rw [Sem.run_bind, h0]; simp only [Result.andThen_ok]; rw [Sem.run_bind, run_sliceBounds hlo hhi h1 h2]; simp only [Result.andThen_ok]; rw [Sem.run_bind, run_sizeOf hinf, hs']; simp only [Result.andThen_ok]; rw [if_neg (by omega), add_ad]
    rfl
  exact pure_vval hrun kk
theorem slcM {α : Type} {a : Ty α} {D : Nat → Prop} {w : World} {t e : TypeId} {sz : Nat} [hst : SliceTy P t e sz] {A : Option Addr} {n c : Nat} {lo : Option Value} {hv mv : Value} {K : Value → Prop} {xs : List α} (l h m : Nat) (hs : SlR a D w A n xs) (hlo : IsB lo l 0) (hhi : IsB (some hv) h n) (hm : IsB (some mv) m 0) (h1 : l ≤ h) (h2 : h ≤ n) (h3 : h ≤ m) (h4 : m ≤ c) (hsz : a.sz = sz)
    (kk : ∀ A' : Option Addr, (∀ (D' : Nat → Prop) (w' : World), SlR a D' w' A n xs → SlR a D' w' A' (h - l) ((xs.take h).drop l)) → K (.slice A' (h - l) (m - l))) : SlcP P t (.slice A n c) lo (some hv) (some mv) K := by
  rw [SlcP_eq]; obtain ⟨hu, inf, hinf, hs'⟩ := sliceOf_spec hst.h
  have hrun : ∀ w, (Instr.sliceAt t (.slice A n c) lo (some hv) (some mv)).run P w = .ok (.slice (if m = l then A else A.map (·.add (l * sz))) (h - l) (m - l)) w := fun w => by
    unfold Instr.sliceAt; rw [Sem.run_bind, run_underlying hu]; simp only [Result.andThen_ok]; unfold Instr.slice; rw [Sem.run_bind, run_underlying hu]; simp only [Result.andThen_ok]; rw [Sem.run_bind, run_sliceBoundsM hlo hhi hm h1 h3 h4]; simp only [Result.andThen_ok]; rw [Sem.run_bind, run_sizeOf hinf, hs']
    rfl
  refine pure_vval hrun (kk _ fun D' w' hx => ?_)
  cases A with
  | none =>
    have hxs : xs = [] := by
      cases xs with
      | nil => rfl
      | cons x r => obtain ⟨_, _, _, e, _⟩ := hx.2.2 0 x rfl; cases e
    have hn : n = 0 := by have := hx.1; rw [hxs] at this; exact this
    subst hxs
    have hh : h = 0 := by omega
    have hl : l = 0 := by omega
    subst hh; subst hl
    split <;> exact .nil
  | some p =>
    obtain ⟨b, o, sp⟩ := p
    by_cases hlh : l < h
    · rw [if_neg (by omega)]; obtain ⟨b', o', cs, x, e, -⟩ := hx.at_ (k := l) (by omega); injection e with e; injection e with e1 e2 e3; subst e1; subst e2; subst e3; show SlR a D' w' (some ((ad b o).add (l * sz))) (h - l) ((xs.take h).drop l); rw [add_ad]
      exact hx.sub h1 h2 fun _ => by rw [hsz]
    · have : l = h := by omega
      subst this; rw [show ((xs.take l).drop l) = [] from List.drop_eq_nil_of_le (by rw [List.length_take]; omega), Nat.sub_self]
      split <;> exact .nil
theorem cpy {t t2 e tb : TypeId} [h : SliceTy P t e 1] {ty : TypeId} {cst : Array Bool} {g o n c m c2 : Nat} {A : Option Addr} {cs news : List Value} {w : World} {K : VK} (hb : Blk w g tb cs) (ho : o + n ≤ cs.length) (hs : Src w A m 1 news)
    (kk : ∀ w', Blk w' g tb (cs.take o ++ news.take n ++ cs.drop (o + min m n)) → Kept (fun b => b ≠ g) w w' → w'.heap.size = w.heap.size → K (.int .i64 ((min m n : Nat) : Int)) w') (h1 : (news.all fun u => u.oneCell') = true := by rfl) :
    BuiP P .copy #[t, t2] ty cst #[.slice (some (ad g o)) n c, .slice A m c2] K X w := by
  rw [BuiP_eq]; refine OpS.x fun w0 hw => ?_; subst hw; obtain ⟨hu, inf, hinf, hsz⟩ := sliceOf_spec h.h
  have hnl : news.length = m := by have := hs.1; omega
  have hl : (news.take n).length = min m n := by rw [List.length_take, hnl, Nat.min_comm]
  have hone : ∀ v ∈ news.take n, v.oneCell' = true := fun v hv => List.all_eq_true.1 h1 v (List.mem_of_mem_take hv); obtain ⟨w', hr, hb', hk, hz⟩ := run_storeCells' (P := P) (news.take n) o 0 cs w0 hb (by rw [hl, Nat.add_zero]; omega) hone
  have hcells : (Builtin.firstCells 1 (Nat.min m n) (.slice A m c2)).run P w0 = .ok (news.take n).toArray w0 := by
    rcases Nat.eq_zero_or_pos m with hm | hm
    · subst hm; have h0 : news = [] := List.eq_nil_of_length_eq_zero hnl; subst h0
      cases A with
      | none => simp [Builtin.firstCells]
      | some a =>
        have := run_loadCells_list (P := P) w0 a [] (by simp); simp only [List.length_nil] at this; simp [Builtin.firstCells, this]
    · obtain ⟨b, o2, rfl, hc⟩ := hs.2 hm
      have := run_loadCells_list (P := P) w0 (ad b o2) (news.take n) (fun j v hv => by
        rw [add_ad]
        rw [List.getElem?_take] at hv
        split at hv
        · exact hc j v hv
        · cases hv)
      rw [hl] at this; simp only [Builtin.firstCells, Nat.mul_one]; exact this
  have hrun : (builtin .copy #[t, t2] ty cst #[.slice (some (ad g o)) n c, .slice A m c2]).run P w0 = .ok (.value (.int .i64 ((min m n : Nat) : Int))) w' := by
    have hbc : builtin .copy #[t, t2] ty cst #[.slice (some (ad g o)) n c, .slice A m c2] = (do pure (.value (← Builtin.copy_ #[t, t2] ty #[.slice (some (ad g o)) n c, .slice A m c2]))) := rfl; rw [hbc, Sem.run_bind]
    have : (Builtin.copy_ #[t, t2] ty #[.slice (some (ad g o)) n c, .slice A m c2]).run P w0 = .ok (.int .i64 ((min m n : Nat) : Int)) w' := by
      have e1 : (#[t, t2] : Array TypeId)[0]? = some t := rfl; have e2 : (#[Value.slice (some (ad g o)) n c, Value.slice A m c2] : Array Value)[0]? = some (.slice (some (ad g o)) n c) := rfl; have e3 : (#[Value.slice (some (ad g o)) n c, Value.slice A m c2] : Array Value)[1]? = some (.slice A m c2) := rfl; unfold Builtin.copy_; simp only [e1, e2, e3, Sem.run_bind, run_underlying hu, Result.andThen_ok, Builtin.lenOf, Sem.run_pure, run_sizeOf hinf, hsz, hcells, hr]
      rfl
    rw [this]; rfl
  rw [hrun]; refine kk (z w') ?_ ⟨hk.os, hk.tape, hk.output, hk.size, hk.blk⟩ hz; rw [Nat.add_zero, hl] at hb'; exact hb'
theorem appZ {t tn e : TypeId} {sz by_ : Nat} {zv : Value} {kn : IntKind} [h : SliceTy P t e sz] [hz : ZeroTy P e zv] [hby : BytesTy P e by_] [hn : IntTy P tn kn] {ty : TypeId} {cst : Array Bool} {kq : IntKind} {i : Int} {w : World} {K : VK} (k : Nat) (hi : i = (k : Int)) (h0 : 0 < k) (hb : k * by_ ≤ 140737488355328) (h63 : k ≤ 140737488355328) (hzs : (cellsL zv).length = sz) (hpos : 0 < sz)
    (kk : ∀ (c : Nat) w' cs, k ≤ c → c ≤ maxLen → cs.length = c * sz → Blk w' w.heap.size e cs → Ext w w' → K (.slice (some (ad w.heap.size 0)) k c) w') : BuiP P .append #[t, tn] ty cst #[.slice none 0 0, .int kq i] K X w := by
  rw [BuiP_eq]; refine OpS.x fun w0 hw => ?_; subst hw; subst hi; obtain ⟨hu, inf, hinf, hsz⟩ := sliceOf_spec h.h; obtain ⟨i', hi', hzz⟩ := zeroOf_spec hz.h; rw [hinf] at hi'; cases hi'
  have hbb : inf.bytes = by_ := by have := hby.h; unfold bytesOf at this; rw [hinf] at this; simpa using this
  have hnu : P.underlying tn = some (.int kn) := by
    have := hn.h; unfold intOf at this; split at this <;> simp_all
  have hr := Lib.run_append_grow_zeros (P := P) w0 t tn ty e inf zv kq kn hu hnu hinf hzz none 0 0 [] (by simp [Builtin.firstCells]) k h0 (by omega) (by omega) (by omega) (by rw [hbb]; omega) (by
    have : Builtin.nextslicecap (0 + k) 0 = k := by unfold Builtin.nextslicecap; rw [if_pos (by omega)]; omega
    rw [this, hbb]; omega)
  rw [Nat.zero_add] at hr; have hge := grownCap_ge w0 k 0 e; have hle := grownCap_le_maxLen w0 k 0 e (by unfold maxLen; omega); rw [show builtin .append #[t, tn] ty cst #[.slice none 0 0, .int kq (k : Int)] = vS (Builtin.append_ #[t, tn] ty #[.slice none 0 0, .int kq (k : Int)]) from rfl, run_vS, hr]; obtain ⟨cs, hcs⟩ : ∃ cs : Array Value, cs = ([] : List Value).toArray ++ Builtin.zeroCells zv.cells k ++ Builtin.zeroCells zv.cells (grownCap w0 k 0 e - k) := ⟨_, rfl⟩; rw [← hcs]
  have hcl : cs.size = grownCap w0 k 0 e * sz := by
    rw [hcs]
    have hzc : zv.cells.size = sz := by rw [cellsL_eq]; simpa using hzs
    simp only [Array.size_append, size_zeroCells, hzc, List.size_toArray, List.length_nil, Nat.zero_add]; rw [← Nat.add_mul]
    congr 1
    omega
  refine kk (grownCap w0 k 0 e) _ cs.toList hge hle (by simpa using hcl) ?_ ?_
  · show ((w0.drew.alloc (.cells cs e)).heap)[w0.heap.size]? = some (.cells cs.toList.toArray e (0, 0)); rw [Array.toArray_toList]; exact World.alloc_heap_new w0.drew _
  · exact ⟨rfl, rfl, rfl, by show w0.heap.size ≤ (w0.heap.push _).size; simp, fun b hb _ => by
      show (w0.heap.push _)[b]? = w0.heap[b]?
      rw [Array.getElem?_push, if_neg (by have : b < w0.heap.size := hb; omega)]⟩
theorem capR {t e : TypeId} {sz : Nat} [h : SliceTy P t e sz] {ty : TypeId} {cst : Array Bool} {A : Option Addr} {n c : Nat} {w : World} {K : VK} (kk : K (.int .i64 c) w) : BuiP P .cap #[t] ty cst #[.slice A n c] K X w := by
  rw [BuiP_eq]; refine OpS.x fun w0 hw => ?_; subst hw; obtain ⟨hu, _⟩ := sliceOf_spec h.h
  have hrun : (builtin .cap #[t] ty cst #[.slice A n c]).run P w0 = .ok (.value (.int .i64 c)) w0 := by
    have hbc : builtin .cap #[t] ty cst #[.slice A n c] = (do pure (.value (← Builtin.cap_ #[t] ty #[.slice A n c]))) := rfl; rw [hbc, Sem.run_bind]
    have : (Builtin.cap_ #[t] ty #[.slice A n c]).run P w0 = .ok (.int .i64 c) w0 := by
      have e1 : (#[t] : Array TypeId)[0]? = some t := rfl; have e2 : (#[Value.slice A n c] : Array Value)[0]? = some (.slice A n c) := rfl; unfold Builtin.cap_; simp only [e1, e2, Sem.run_bind, run_underlying hu, Result.andThen_ok]
      rfl
    rw [this]; rfl
  rw [hrun]; exact kk
def bl (s : ByteArray) : List Nat := s.data.toList.map UInt8.toNat
theorem bl_len (s : ByteArray) : (bl s).length = s.size := by unfold bl; rw [List.length_map]; rfl
theorem bl_lt (s : ByteArray) : ∀ x ∈ bl s, x < 256 := fun x hx => by
  obtain ⟨b, -, rfl⟩ := List.mem_map.1 hx
  exact b.toNat_lt
theorem strOf_spec {t : TypeId} [h : StrTy P t] : P.underlying t = some .string := by
  have := h.h; unfold isStr at this; split at this <;> simp_all
theorem cvSB {s d e : TypeId} {sz : Nat} [hs : StrTy P s] [hd : SliceTy P d e sz] [he : IntTy P e .u8] {st : Sem Next} {b : ByteArray} {w : World} {K : VK} (hst : st = vS (convert s d (.string b))) (hb : b.size ≤ 1000000)
    (kk : ∀ w' c, SlR tU8 (fun q => q = w.heap.size) w' (some (ad w.heap.size 0)) b.size (bl b) → b.size ≤ c → Ext w w' → w'.heap.size = w.heap.size + 1 → K (.slice (some (ad w.heap.size 0)) b.size c) w') : OthP P st K X w := by
  subst hst; rw [OthP_eq]; refine OpS.x fun w0 hw => ?_; subst hw; have hsu := strOf_spec (P := P) (t := s); obtain ⟨hdu, _⟩ := sliceOf_spec hd.h
  have heu : P.underlying e = some (.int .u8) := by
    have := he.h; unfold intOf at this; split at this <;> simp_all
  rw [run_vS, run_bytes_of_string w0 s d e b hsu hdu heu]; refine kk _ _ (SlR.of_cells (cs := u8s (bl b)) (bl_len b).symm (by omega) rfl (fun j v hv => ?_) (flat_u8s (bl_lt b))) (grownCap_ge w0 b.size 0 e) ?_ (by show (w0.heap.push _).size = _; simp)
  · rw [Nat.zero_add]
    have hlt : j < b.size := by
      have := (List.getElem?_eq_some_iff.1 hv).1; rw [List.length_map, bl_len] at this; exact this
    have hC : ∀ cap, (bytesRow b cap)[j]? = some v := fun cap => by
      unfold bytesRow; rw [Array.getElem?_append_left (by rw [Array.size_map]; exact hlt), Array.getElem?_map, ← Array.getElem?_toList]; have hv : ((b.data.toList.map UInt8.toNat).map fun n : Nat => uv8 n)[j]? = some v := hv; rw [List.map_map, List.getElem?_map] at hv; exact hv
    have hw : ∀ (o : Obj), (w0.drew.alloc o).heap[w0.heap.size]? = some o := fun o => World.alloc_heap_new w0.drew o; show World.cell? _ (ad w0.heap.size j) = some v; unfold World.cell?; rw [show (z (w0.drew.alloc (Obj.cells (bytesRow b (grownCap w0 b.size 0 e)) e ((bytesRow b (grownCap w0 b.size 0 e)).size, (bytesRow b (grownCap w0 b.size 0 e)).size + 1)))).heap[(ad w0.heap.size j).block]? = _ from hw _]; exact hC _
  · exact ⟨rfl, rfl, rfl, by show w0.heap.size ≤ (w0.heap.push _).size; simp, fun q hq _ => by
      show (w0.heap.push _)[q]? = w0.heap[q]?
      rw [Array.getElem?_push, if_neg (by have : q < w0.heap.size := hq; omega)]⟩
def strB (l : List Nat) : ByteArray := strOfNums (l.map fun n : Nat => (n : Int))
theorem cvBS {D : Nat → Prop} {s d e : TypeId} {sz : Nat} [hd : StrTy P d] [hs : SliceTy P s e sz] [he : IntTy P e .u8] {st : Sem Next} {A : Option Addr} {n c : Nat} {l : List Nat} {w : World} {K : VK} (hst : st = vS (convert s d (.slice A n c))) (h : SlR tU8 D w A n l)
    (kk : K (.string (strB l)) w) : OthP P st K X w := by
  subst hst; rw [OthP_eq]; refine OpS.x fun w0 hw => ?_; subst hw; have hdu := strOf_spec (P := P) (t := d); obtain ⟨hsu, _⟩ := sliceOf_spec hs.h
  have heu : P.underlying e = some (.int .u8) := by
    have := he.h; unfold intOf at this; split at this <;> simp_all
  rw [run_vS]; have hln := h.len
  cases A with
  | none =>
    have hl : l = [] := by
      cases l with
      | nil => rfl
      | cons x r => obtain ⟨_, _, _, e, _⟩ := h.2.2 0 x rfl; cases e
    subst hl; rw [run_convert_bytes_nil w0 s e hsu heu n c d hdu]; exact kk
  | some p =>
    rcases Nat.eq_zero_or_pos n with h0 | h0
    · subst h0; have hl : l = [] := List.eq_nil_of_length_eq_zero hln; subst hl; obtain ⟨b, o, sp⟩ := p; rw [run_convert_bytes_string w0 s d e _ 0 c hsu heu hdu]
      have hl0 : (loadCells ⟨b, o, sp⟩ 0).run P w0 = .ok #[] w0 := by simpa using run_loadCells_list (P := P) w0 ⟨b, o, sp⟩ [] (by simp)
      have := run_bytesToString (P := P) w0 ⟨b, o, sp⟩ 0 c [] (by simpa using hl0); rw [this]; exact kk
    · obtain ⟨b, o, cs, x, e1, -⟩ := h.at_ h0; injection e1 with e1; subst e1; obtain ⟨cs, hf, hc⟩ := h.cells; obtain ⟨rfl, -⟩ := flat_u8_eq hf
      rw [run_convert_bytes_arg w0 s e hsu heu b o n c (l.map fun n : Nat => (n : Int)) (by rw [List.length_map]; exact hln) (fun i hi => by
        have := hc i (uv8 (l.getD i 0)) (by rw [List.getElem?_map, List.getElem?_eq_getElem (by omega), List.getD_eq_getElem?_getD, List.getElem?_eq_getElem (by omega)]; rfl)
        rw [List.getD_eq_getElem?_getD, List.getElem?_map, List.getElem?_eq_getElem (show i < l.length by omega)]
        rw [List.getD_eq_getElem?_getD, List.getElem?_eq_getElem (show i < l.length by omega)] at this
        exact this) d hdu]
      exact kk
theorem slcNil {t e : TypeId} {sz : Nat} [hst : SliceTy P t e sz] {lo hi : Option Value} {K : Value → Prop} (hlo : IsB lo 0 0) (hhi : IsB hi 0 0) (kk : K (.slice none 0 0)) : SlcP P t (.slice none 0 0) lo hi none K := by
  rw [SlcP_eq]; obtain ⟨hu, inf, hinf, hs'⟩ := sliceOf_spec hst.h
  have hrun : ∀ w, (Instr.sliceAt t (.slice none 0 0) lo hi none).run P w = .ok (.slice none 0 0) w := fun w => by
    unfold Instr.sliceAt; rw [Sem.run_bind, run_underlying hu]; simp only [Result.andThen_ok]; unfold Instr.slice; rw [Sem.run_bind, run_underlying hu]; simp only [Result.andThen_ok]; rw [Sem.run_bind, run_sliceBounds hlo hhi (Nat.le_refl _) (Nat.le_refl _)]; simp only [Result.andThen_ok]; rw [Sem.run_bind, run_sizeOf hinf, hs']
    rfl
  exact pure_vval hrun kk
end
section
variable {P : Program} {X : XK}
theorem str_beq (a b : ByteArray) : (a.toList == b.toList) = decide (a = b) := by
  rw [ByteArray.toList_eq, ByteArray.toList_eq]
  by_cases h : a = b
  · subst h; simp
  · rw [decide_eq_false h]; exact beq_eq_false_iff_ne.2 fun e => h (by cases a; cases b; simp at e; rw [e])
theorem run_eqStr {t : TypeId} (xo yo : Operand) (a b : ByteArray) (w : World) : (do eqGuard .eql t xo yo (.string a) (.string b); binOp .eql t (.string a) (.string b) : Sem Value).run P w = .ok (.bool (decide (a = b))) w := by
  have h1 : (eqGuard .eql t xo yo (.string a) (.string b)).run P w = .ok () w := rfl; have h2 : binOp .eql t (.string a) (.string b) = (pure (.bool (a.toList == b.toList))) := rfl; rw [Sem.run_bind, h1, h2, str_beq]
  rfl
theorem run_neStr {t : TypeId} (xo yo : Operand) (a b : ByteArray) (w : World) : (do eqGuard .neq t xo yo (.string a) (.string b); binOp .neq t (.string a) (.string b) : Sem Value).run P w = .ok (.bool (!decide (a = b))) w := by
  have h1 : (eqGuard .neq t xo yo (.string a) (.string b)).run P w = .ok () w := rfl; have h2 : binOp .neq t (.string a) (.string b) = (pure (.bool (!(a.toList == b.toList)))) := rfl; rw [Sem.run_bind, h1, h2, str_beq]
  rfl
theorem eqStr {t : TypeId} {xo yo : Operand} {a b : ByteArray} {K : Value → Prop} (k1 : a = b → K (.bool true)) (k2 : a ≠ b → K (.bool false)) : BinP P .eql t xo yo (.string a) (.string b) K := by
  rw [BinP_eq]; refine pure_vval (fun w => run_eqStr xo yo a b w) ?_
  by_cases e : a = b
  · rw [decide_eq_true e]; exact k1 e
  · rw [decide_eq_false e]; exact k2 e
theorem neStr {t : TypeId} {xo yo : Operand} {a b : ByteArray} {K : Value → Prop} (k1 : a ≠ b → K (.bool true)) (k2 : a = b → K (.bool false)) : BinP P .neq t xo yo (.string a) (.string b) K := by
  rw [BinP_eq]; refine pure_vval (fun w => run_neStr xo yo a b w) ?_
  by_cases e : a = b
  · rw [decide_eq_true e]; exact k2 e
  · rw [decide_eq_false e]; exact k1 e
theorem strB_inj {l m : List Nat} (hl : ∀ x ∈ l, x < 256) (hm : ∀ x ∈ m, x < 256) (h : strB l = strB m) : l = m := by
  unfold strB strOfNums at h; injection h with h
  have h : (l.map fun n : Nat => (n : Int)).map (fun n => UInt8.ofNat n.toNat) = (m.map fun n : Nat => (n : Int)).map (fun n => UInt8.ofNat n.toNat) := by simpa using h
  rw [List.map_map, List.map_map] at h
  have key : ∀ (l : List Nat), (∀ x ∈ l, x < 256) → (l.map ((fun n : Int => UInt8.ofNat n.toNat) ∘ fun n : Nat => (n : Int))).map UInt8.toNat = l := by
    intro l
    induction l with
    | nil => intro _; rfl
    | cons a l ih =>
      intro h; rw [List.map_cons, List.map_cons, ih fun x hx => h x (List.mem_cons_of_mem _ hx)]; have := h a List.mem_cons_self
      congr 1
      show (UInt8.ofNat ((a : Int)).toNat).toNat = a; rw [Int.toNat_natCast, UInt8.toNat_ofNat']; omega
  rw [← key l hl, ← key m hm, h]
theorem bl_strB {l : List Nat} (hl : ∀ x ∈ l, x < 256) : bl (strB l) = l := by
  unfold bl strB strOfNums; simp only [List.map_map]
  conv => rhs; rw [← List.map_id l]
  apply List.map_congr_left; intro x hx; have := hl x hx; simp [Function.comp]; omega
end
section
variable {P : Program}
abbrev oMk2 (d0 G c0 c1 : Nat) (t : TypeId) (p : String) (af : Array Edge) : Oper := { dst := some d0, op := .makeFunc (.func G) #[] #[.tmp c0, .tmp c1], type := t, pos := p, after := af, guard := none }
theorem fn_ruleD2 {f : FuncId} {fn : Func} {args : List Value} {w : World} {R2 : Ending → World → Prop} {x y : Code} {id d0 G c0 c1 : Nat} {t1 t2 : TypeId} {p1 p2 : String} {a1 a2 : Array Edge} (hf : P.funcs[f]? = some fn)
    (hb : fn.body = some (.seq x (.seq (.region id #[oMk2 d0 G c0 c1 t1 p1 a1, oDf d0 t2 p2 a2] false) y)))
    (hok : (wfC fn.ntmps x && wfC fn.ntmps y && Nat.ble args.length fn.ntmps && Nat.blt d0 fn.ntmps) = true)
    (h : V P x (fun e F ds w' => match e with
      | .normal => ds = [] ∧ V P y (KendL P fn R2) (upd F d0 (.func (.func G) #[] #[F c0, F c1])) [{ target := .fn (.func G) #[F c0, F c1], args := #[] }] w'
      | _ => False) (init args) [] w) (w0 : World) (hw : z w0 = w) : CallsIn Fence.wide 0 P f args.toArray w0 R2 := by
  have hok4 := bothT hok; have hok3 := bothT hok4.1; have hok2 := bothT hok3.1; have hle := Nat.le_of_ble_eq_true hok3.2; have hd0 : d0 < fn.ntmps := Nat.le_of_ble_eq_true hok4.2; subst hw; refine callsIn_of_wp_marks (F := Fence.wide) hf hb trivial ?_; refine wpIn_seq (wpIn_mono (V_sound (r := none) x hok2.1 _ _ [] w0 _ (.inl rfl) (initAgr hle) h) fun e a w1 hq => ?_); obtain ⟨F', hg, hk⟩ := hq
  cases e with
  | normal =>
    obtain ⟨hd, hk⟩ := hk; refine wpIn_seq (wpIn_region ?_); have hg1 : Agr fn.ntmps (a.put (some d0) (.func (.func G) #[] #[F' c0, F' c1])) (upd F' d0 (.func (.func G) #[] #[F' c0, F' c1])) a.defers := hg.put (d := some d0) (fun j hj => by cases hj; exact hd0) _; have hl : List.range (#[oMk2 d0 G c0 c1 t1 p1 a1, oDf d0 t2 p2 a2] : Array Oper).size = [0, 1] := rfl; rw [hl]; refine ⟨fun _ _ => trivial, ?_⟩
    have e1 : ((oMk2 d0 G c0 c1 t1 p1 a1).semAt Fence.wide.round a.eval).run P w1 = .ok (.value (.func (.func G) #[] #[F' c0, F' c1])) w1 := by
      rw [show Fence.wide.round = none from rfl, Oper.semAt_none]; show (execOp a.eval (oMk2 d0 G c0 c1 t1 p1 a1)).run P w1 = _; rw [hg.eval]; simp [execOp, Instr.makeFunc, ev]
    show Oper.uponIn Fence.wide 0 P (oMk2 d0 G c0 c1 t1 p1 a1) a _ _ (((oMk2 d0 G c0 c1 t1 p1 a1).semAt Fence.wide.round a.eval).run P w1); rw [e1]; refine ⟨fun _ _ => trivial, ?_⟩
    have e2 : ((oDf d0 t2 p2 a2).semAt Fence.wide.round (a.put (some d0) (.func (.func G) #[] #[F' c0, F' c1])).eval).run P w1 = .ok (.defer { target := .fn (.func G) #[F' c0, F' c1], args := #[] }) w1 := by
      rw [show Fence.wide.round = none from rfl, Oper.semAt_none]; show (execOp (a.put (some d0) (.func (.func G) #[] #[F' c0, F' c1])).eval (oDf d0 t2 p2 a2)).run P w1 = _; rw [hg1.eval]
      have : ev (upd F' d0 (.func (.func G) #[] #[F' c0, F' c1])) (.tmp d0) = .func (.func G) #[] #[F' c0, F' c1] := by
        show (bif Nat.beq d0 d0 then _ else _) = _; rw [Nat.beq_refl]; rfl
      show (execOp (ev (upd F' d0 (.func (.func G) #[] #[F' c0, F' c1]))) (oDf d0 t2 p2 a2)).run P w1 = _; show ((do pure (.defer (← resolve (ev (upd F' d0 (.func (.func G) #[] #[F' c0, F' c1]))) { callee := .value (.tmp d0), args := #[], argTypes := #[] } t2)) : Sem Next)).run P w1 = _; simp [resolve, this, Deferred.ofValue]
    show Oper.uponIn Fence.wide 0 P (oDf d0 t2 p2 a2) (a.put (some d0) (.func (.func G) #[] #[F' c0, F' c1])) _ _ (((oDf d0 t2 p2 a2).semAt Fence.wide.round (a.put (some d0) (.func (.func G) #[] #[F' c0, F' c1])).eval).run P w1); rw [e2]; show y.wpIn Fence.wide 0 P (bodyPostM Fence.wide 0 P fn R2) _ w1; have hds : a.defers = [] := hd; have hg2 : Agr fn.ntmps { (a.put (some d0) (.func (.func G) #[] #[F' c0, F' c1])) with defers := { target := .fn (.func G) #[F' c0, F' c1], args := #[] } :: a.defers } (upd F' d0 (.func (.func G) #[] #[F' c0, F' c1])) [{ target := .fn (.func G) #[F' c0, F' c1], args := #[] }] := ⟨hg1.1, hg1.2.1, by rw [hds]⟩; exact wpIn_mono (V_sound (r := none) y hok2.2 _ _ _ w1 _ (.inl rfl) hg2 hk) fun e a' w' hq => KendL_use hq
  | _ => exact hk.elim
theorem tAs0 {X : XK} {s : Sem Next} {t xt : TypeId} {v : Value} {K : VK} {w : World} (hs : s = vS (Instr.typeAssert (.iface t v) xt t false)) (hc : P.concrete t = true) (k : K v w) : OthP P s K X w := by
  rw [OthP_eq]; refine OpS.x fun w0 hw => ?_; subst hw; rw [hs, run_vS]
  have : (Instr.typeAssert (.iface t v) xt t false).run P w0 = .ok v w0 := by
    unfold Program.concrete at hc
    cases hd : P.underlying t with
    | none => simp [hd] at hc
    | some d => cases d <;> first | (simp [hd] at hc; done) | simp [Instr.typeAssert, run_underlying hd]
  rw [this]; exact k
end
section
variable {P : Program} {X : XK}
theorem appG {t e : TypeId} {sz by_ : Nat} {zv : Value} [h : SliceTy P t e sz] [hz : ZeroTy P e zv] [hby : BytesTy P e by_] {ty : TypeId} {cst : Array Bool} {n m c2 : Nat} {A B : Option Addr} {olds news : List Value} {w : World} {K : VK}
    (ho : Src w A n sz olds) (hs : Src w B m sz news) (hm : 0 < m) (hb : (n + m) * by_ ≤ 140737488355328)
    (kk : ∀ A' c' w', OwnF w w' A' (n + m) c' e sz (olds ++ news) → K (.slice A' (n + m) c') w')
    (h63 : n + m ≤ maxLen := by unfold maxLen; omega) (h1 : (news.all fun u => u.oneCell') = true := by rfl) (hzs : (cellsL zv).length = sz := by rfl) (hpos : Nat.blt 0 sz = true := by rfl) (hA : A = none → n = 0 := by omega) : BuiP P .append #[t, t] ty cst #[.slice A n n, .slice B m c2] K X w := by
  cases A with
  | none =>
    have h0 := hA rfl; subst h0; have e0 : olds = [] := List.eq_nil_of_length_eq_zero (by simpa using ho.1); subst e0; exact appF (OwnF.nil (.refl _ _)) hs hb (fun A' c' w' own _ _ => kk A' c' w' own) (by unfold maxLen at h63; omega) h1 hzs hpos
  | some a =>
    rw [BuiP_eq]; refine OpS.x fun w0 hw => ?_; subst hw; obtain ⟨hu, i, hi, hsz⟩ := sliceOf_spec h.h; obtain ⟨i', hi', hzz⟩ := zeroOf_spec hz.h; rw [hi] at hi'; cases hi'
    have hbb : i.bytes = by_ := by have := hby.h; unfold bytesOf at this; rw [hi] at this; simpa using this
    obtain ⟨b, o, rfl, hc⟩ := hs.2 hm
    have hold : ∀ j u, olds[j]? = some u → w0.cell? (a.add j) = some u := fun j u hj => by
      rcases Nat.eq_zero_or_pos n with hn | hn
      · have : olds = [] := List.eq_nil_of_length_eq_zero (by have := ho.1; rw [hn] at this; simpa using this); rw [this] at hj; simp at hj
      · obtain ⟨b', o', e, hc'⟩ := ho.2 hn; injection e with e; subst e; rw [add_ad]; exact hc' j u hj
    obtain ⟨v', w', hr, hown, hg⟩ := run_append_arg_grows (P := P) (w := w0) t ty e i zv sz by_ hu hi hzz hsz hbb (by rw [cellsL_eq]; simpa using hzs) (Nat.le_of_ble_eq_true hpos) a n n olds ho.1 hold (ad b o) m c2 news hs.1 (fun j u hju => by rw [add_ad]; exact hc j u hju) (by omega) h63 hb; rw [show builtin .append #[t, t] ty cst #[.slice (some a) n n, .slice (some (ad b o)) m c2] = vS (Builtin.append_ #[t, t] ty #[.slice (some a) n n, .slice (some (ad b o)) m c2]) from rfl, run_vS, hr]; have hx : Ext (z w0) (z w') := ⟨hg.os, hg.tape, hg.output, hg.size, fun k hk _ => hg.block k hk (fun e => by cases e)⟩; obtain ⟨hl, hw⟩ := hown; rcases hw with ⟨rfl, h0⟩ | ⟨g, cap, cur, rfl, hge, hrest⟩
    · omega
    · exact kk (some (ad g 0)) cap (z w') ⟨⟨hl, .inr ⟨g, cap, cur, rfl, Nat.zero_le _, hrest⟩⟩, hx, fun g' hg' => by injection hg' with hg'; injection hg' with hg'; rw [← hg']; exact hge⟩
end
section
variable {P : Program}
theorem fn_ruleS {f : FuncId} {fn : Func} {args : List Value} {w : World} {R : VK} {c : Code} (hf : P.funcs[f]? = some fn) (hc : fn.body = some (.scope c)) (hok : (wfC fn.ntmps c && Nat.ble args.length fn.ntmps) = true)
    (h : V P c (Kend P fn.results.toList R) (init args) [] w) : CallZ P f args.toArray w R := by
  have hwf := (bothT hok).1; have hle := Nat.le_of_ble_eq_true (bothT hok).2; intro w0 hw; subst hw; have hg := initAgr hle; refine callsIn_of_wp_marks (F := Fence.wide) hf hc trivial (wpIn_wide.2 (wp_scope_straight (wpIn_wide.1 (wpIn_mono (V_sound (r := none) c hwf _ _ [] w0 _ (.inl rfl) hg h) fun e a' w' hq => ?_)))); obtain ⟨F', hg', hk⟩ := hq
  cases e with
  | normal =>
    unfold Kend at hk; rw [RetP_eq] at hk; obtain ⟨w2, h1, h2⟩ := hk; exact leaves_soundG (R := R) (fun v _ h => ⟨v, rfl, h⟩) hg'.2.1 _ _ _ h1 h2
  | ret =>
    unfold Kend at hk; rw [RetP_eq] at hk; obtain ⟨w2, h1, h2⟩ := hk; exact leaves_soundG (R := R) (fun v _ h => ⟨v, rfl, h⟩) hg'.2.1 _ _ _ h1 h2
  | _ => exact hk.elim
end
end Go.Proofs.YtehcphboliofaaaGreatDoor
namespace Go.Proofs.YtehcphboliofaaaGreatDoor
open Go
theorem mx : Tryz.prog.follows .mixedOrders = true := by kernel_rfl
instance cellTy3 : CellTy Tryz.prog 3 := ⟨by kernel_rfl⟩
instance stoTy3 : StoTy Tryz.prog 3 := ⟨by kernel_rfl⟩
instance intTy3 : IntTy Tryz.prog 3 .i64 := ⟨by kernel_rfl⟩
instance zeroTy3 : ZeroTy Tryz.prog 3 (.int .i64 0) := ⟨by kernel_rfl⟩
instance cellTy4 : CellTy Tryz.prog 4 := ⟨by kernel_rfl⟩
instance stoTy4 : StoTy Tryz.prog 4 := ⟨by kernel_rfl⟩
instance boolTy4 : BoolTy Tryz.prog 4 := ⟨by kernel_rfl⟩
instance cellTy5 : CellTy Tryz.prog 5 := ⟨by kernel_rfl⟩
instance stoTy5 : StoTy Tryz.prog 5 := ⟨by kernel_rfl⟩
instance intTy5 : IntTy Tryz.prog 5 .u8 := ⟨by kernel_rfl⟩
instance zeroTy5 : ZeroTy Tryz.prog 5 (.int .u8 0) := ⟨by kernel_rfl⟩
instance bytesTy5 : BytesTy Tryz.prog 5 1 := ⟨by kernel_rfl⟩
instance cellTy9 : CellTy Tryz.prog 9 := ⟨by kernel_rfl⟩
instance stoTy9 : StoTy Tryz.prog 9 := ⟨by kernel_rfl⟩
instance strTy9 : StrTy Tryz.prog 9 := ⟨by kernel_rfl⟩
instance cellTy22 : CellTy Tryz.prog 22 := ⟨by kernel_rfl⟩
instance stoTy22 : StoTy Tryz.prog 22 := ⟨by kernel_rfl⟩
instance sliceTy22 : SliceTy Tryz.prog 22 26 6 := ⟨by kernel_rfl⟩
instance zeroTy22 : ZeroTy Tryz.prog 22 (.slice none 0 0) := ⟨by kernel_rfl⟩
instance aggTy24 : AggTy Tryz.prog 24 1 := ⟨by kernel_rfl⟩
instance fldTy24_0 : FldTy Tryz.prog 24 0 22 0 := ⟨by kernel_rfl⟩
instance zeroTy24 : ZeroTy Tryz.prog 24 (.agg #[.slice none 0 0]) := ⟨by kernel_rfl⟩
instance aggTy26 : AggTy Tryz.prog 26 6 := ⟨by kernel_rfl⟩
instance fldTy26_0 : FldTy Tryz.prog 26 0 3 0 := ⟨by kernel_rfl⟩
instance fldTy26_1 : FldTy Tryz.prog 26 1 3 1 := ⟨by kernel_rfl⟩
instance fldTy26_2 : FldTy Tryz.prog 26 2 3 2 := ⟨by kernel_rfl⟩
instance fldTy26_3 : FldTy Tryz.prog 26 3 3 3 := ⟨by kernel_rfl⟩
instance fldTy26_4 : FldTy Tryz.prog 26 4 3 4 := ⟨by kernel_rfl⟩
instance fldTy26_5 : FldTy Tryz.prog 26 5 3 5 := ⟨by kernel_rfl⟩
instance zeroTy26 : ZeroTy Tryz.prog 26 (.agg #[.int .i64 0, .int .i64 0, .int .i64 0, .int .i64 0, .int .i64 0, .int .i64 0]) := ⟨by kernel_rfl⟩
instance bytesTy26 : BytesTy Tryz.prog 26 48 := ⟨by kernel_rfl⟩
instance cellTy29 : CellTy Tryz.prog 29 := ⟨by kernel_rfl⟩
instance stoTy29 : StoTy Tryz.prog 29 := ⟨by kernel_rfl⟩
instance zeroTy29 : ZeroTy Tryz.prog 29 (.int .i64 0) := ⟨by kernel_rfl⟩
instance sliceTy34 : SliceTy Tryz.prog 34 74 2 := ⟨by kernel_rfl⟩
instance cellTy41 : CellTy Tryz.prog 41 := ⟨by kernel_rfl⟩
instance stoTy41 : StoTy Tryz.prog 41 := ⟨by kernel_rfl⟩
instance sliceTy41 : SliceTy Tryz.prog 41 102 1 := ⟨by kernel_rfl⟩
instance cellTy42 : CellTy Tryz.prog 42 := ⟨by kernel_rfl⟩
instance stoTy42 : StoTy Tryz.prog 42 := ⟨by kernel_rfl⟩
instance sliceTy42 : SliceTy Tryz.prog 42 104 2 := ⟨by kernel_rfl⟩
instance aggTy44 : AggTy Tryz.prog 44 4 := ⟨by kernel_rfl⟩
instance fldTy44_0 : FldTy Tryz.prog 44 0 41 0 := ⟨by kernel_rfl⟩
instance fldTy44_1 : FldTy Tryz.prog 44 1 42 1 := ⟨by kernel_rfl⟩
instance fldTy44_2 : FldTy Tryz.prog 44 2 3 2 := ⟨by kernel_rfl⟩
instance fldTy44_3 : FldTy Tryz.prog 44 3 4 3 := ⟨by kernel_rfl⟩
instance zeroTy44 : ZeroTy Tryz.prog 44 (.agg #[.slice none 0 0, .slice none 0 0, .int .i64 0, .bool false]) := ⟨by kernel_rfl⟩
instance aggTy47 : AggTy Tryz.prog 47 32 := ⟨by kernel_rfl⟩
instance arrTy47 : ArrTy Tryz.prog 47 32 5 1 := ⟨by kernel_rfl⟩
instance zeroTy47 : ZeroTy Tryz.prog 47 (.agg #[.int .u8 0, .int .u8 0, .int .u8 0, .int .u8 0, .int .u8 0, .int .u8 0, .int .u8 0, .int .u8 0, .int .u8 0, .int .u8 0, .int .u8 0, .int .u8 0, .int .u8 0, .int .u8 0, .int .u8 0, .int .u8 0, .int .u8 0, .int .u8 0, .int .u8 0, .int .u8 0, .int .u8 0, .int .u8 0, .int .u8 0, .int .u8 0, .int .u8 0, .int .u8 0, .int .u8 0, .int .u8 0, .int .u8 0, .int .u8 0, .int .u8 0, .int .u8 0]) := ⟨by kernel_rfl⟩
instance bytesTy47 : BytesTy Tryz.prog 47 32 := ⟨by kernel_rfl⟩
instance fldTy56_0 : FldTy Tryz.prog 56 0 3 0 := ⟨by kernel_rfl⟩
instance fldTy56_1 : FldTy Tryz.prog 56 1 3 1 := ⟨by kernel_rfl⟩
instance cellTy57 : CellTy Tryz.prog 57 := ⟨by kernel_rfl⟩
instance sliceTy57 : SliceTy Tryz.prog 57 199 12 := ⟨by kernel_rfl⟩
instance cellTy58 : CellTy Tryz.prog 58 := ⟨by kernel_rfl⟩
instance sliceTy58 : SliceTy Tryz.prog 58 209 4 := ⟨by kernel_rfl⟩
instance cellTy59 : CellTy Tryz.prog 59 := ⟨by kernel_rfl⟩
instance sliceTy59 : SliceTy Tryz.prog 59 263 2 := ⟨by kernel_rfl⟩
instance cellTy60 : CellTy Tryz.prog 60 := ⟨by kernel_rfl⟩
instance sliceTy60 : SliceTy Tryz.prog 60 266 10 := ⟨by kernel_rfl⟩
instance cellTy61 : CellTy Tryz.prog 61 := ⟨by kernel_rfl⟩
instance sliceTy61 : SliceTy Tryz.prog 61 269 4 := ⟨by kernel_rfl⟩
instance aggTy64 : AggTy Tryz.prog 64 10 := ⟨by kernel_rfl⟩
instance fldTy64_1 : FldTy Tryz.prog 64 1 3 1 := ⟨by kernel_rfl⟩
instance fldTy64_2 : FldTy Tryz.prog 64 2 56 2 := ⟨by kernel_rfl⟩
instance fldTy64_3 : FldTy Tryz.prog 64 3 57 4 := ⟨by kernel_rfl⟩
instance fldTy64_4 : FldTy Tryz.prog 64 4 58 5 := ⟨by kernel_rfl⟩
instance fldTy64_5 : FldTy Tryz.prog 64 5 59 6 := ⟨by kernel_rfl⟩
instance fldTy64_6 : FldTy Tryz.prog 64 6 60 7 := ⟨by kernel_rfl⟩
instance fldTy64_7 : FldTy Tryz.prog 64 7 61 8 := ⟨by kernel_rfl⟩
instance sliceTy65 : SliceTy Tryz.prog 65 3 1 := ⟨by kernel_rfl⟩
instance aggTy68 : AggTy Tryz.prog 68 7 := ⟨by kernel_rfl⟩
instance aggTy74 : AggTy Tryz.prog 74 2 := ⟨by kernel_rfl⟩
instance zeroTy74 : ZeroTy Tryz.prog 74 (.agg #[.int .i64 0, .int .i64 0]) := ⟨by kernel_rfl⟩
instance bytesTy74 : BytesTy Tryz.prog 74 16 := ⟨by kernel_rfl⟩
instance cellTy92 : CellTy Tryz.prog 92 := ⟨by kernel_rfl⟩
instance stoTy92 : StoTy Tryz.prog 92 := ⟨by kernel_rfl⟩
instance mapTy92 : MapTy Tryz.prog 92 97 3 := ⟨by kernel_rfl⟩
instance zeroTy92 : ZeroTy Tryz.prog 92 (.map none) := ⟨by kernel_rfl⟩
instance aggTy97 : AggTy Tryz.prog 97 2 := ⟨by kernel_rfl⟩
instance fldTy97_0 : FldTy Tryz.prog 97 0 3 0 := ⟨by kernel_rfl⟩
instance fldTy97_1 : FldTy Tryz.prog 97 1 3 1 := ⟨by kernel_rfl⟩
instance zeroTy97 : ZeroTy Tryz.prog 97 (.agg #[.int .i64 0, .int .i64 0]) := ⟨by kernel_rfl⟩
instance cellTy102 : CellTy Tryz.prog 102 := ⟨by kernel_rfl⟩
instance stoTy102 : StoTy Tryz.prog 102 := ⟨by kernel_rfl⟩
instance sliceTy102 : SliceTy Tryz.prog 102 5 1 := ⟨by kernel_rfl⟩
instance zeroTy102 : ZeroTy Tryz.prog 102 (.slice none 0 0) := ⟨by kernel_rfl⟩
instance bytesTy102 : BytesTy Tryz.prog 102 24 := ⟨by kernel_rfl⟩
instance aggTy104 : AggTy Tryz.prog 104 2 := ⟨by kernel_rfl⟩
instance fldTy104_0 : FldTy Tryz.prog 104 0 3 0 := ⟨by kernel_rfl⟩
instance fldTy104_1 : FldTy Tryz.prog 104 1 102 1 := ⟨by kernel_rfl⟩
instance zeroTy104 : ZeroTy Tryz.prog 104 (.agg #[.int .i64 0, .slice none 0 0]) := ⟨by kernel_rfl⟩
instance bytesTy104 : BytesTy Tryz.prog 104 32 := ⟨by kernel_rfl⟩
instance aggTy108 : AggTy Tryz.prog 108 3 := ⟨by kernel_rfl⟩
instance fldTy108_0 : FldTy Tryz.prog 108 0 41 0 := ⟨by kernel_rfl⟩
instance fldTy108_1 : FldTy Tryz.prog 108 1 3 1 := ⟨by kernel_rfl⟩
instance fldTy108_2 : FldTy Tryz.prog 108 2 3 2 := ⟨by kernel_rfl⟩
instance zeroTy108 : ZeroTy Tryz.prog 108 (.agg #[.slice none 0 0, .int .i64 0, .int .i64 0]) := ⟨by kernel_rfl⟩
instance cellTy111 : CellTy Tryz.prog 111 := ⟨by kernel_rfl⟩
instance stoTy111 : StoTy Tryz.prog 111 := ⟨by kernel_rfl⟩
instance sliceTy111 : SliceTy Tryz.prog 111 113 4 := ⟨by kernel_rfl⟩
instance aggTy113 : AggTy Tryz.prog 113 4 := ⟨by kernel_rfl⟩
instance fldTy113_0 : FldTy Tryz.prog 113 0 3 0 := ⟨by kernel_rfl⟩
instance fldTy113_1 : FldTy Tryz.prog 113 1 3 1 := ⟨by kernel_rfl⟩
instance fldTy113_2 : FldTy Tryz.prog 113 2 9 2 := ⟨by kernel_rfl⟩
instance fldTy113_3 : FldTy Tryz.prog 113 3 111 3 := ⟨by kernel_rfl⟩
instance zeroTy113 : ZeroTy Tryz.prog 113 (.agg #[.int .i64 0, .int .i64 0, .string ⟨#[]⟩, .slice none 0 0]) := ⟨by kernel_rfl⟩
instance bytesTy113 : BytesTy Tryz.prog 113 56 := ⟨by kernel_rfl⟩
instance sliceTy149 : SliceTy Tryz.prog 149 47 32 := ⟨by kernel_rfl⟩
instance cellTy152 : CellTy Tryz.prog 152 := ⟨by kernel_rfl⟩
instance stoTy152 : StoTy Tryz.prog 152 := ⟨by kernel_rfl⟩
instance intTy152 : IntTy Tryz.prog 152 .u64 := ⟨by kernel_rfl⟩
instance zeroTy152 : ZeroTy Tryz.prog 152 (.int .u64 0) := ⟨by kernel_rfl⟩
instance fldTy163_0 : FldTy Tryz.prog 163 0 102 0 := ⟨by kernel_rfl⟩
instance intTy173 : IntTy Tryz.prog 173 .u64 := ⟨by kernel_rfl⟩
instance fldTy194_0 : FldTy Tryz.prog 194 0 3 0 := ⟨by kernel_rfl⟩
instance fldTy194_1 : FldTy Tryz.prog 194 1 3 1 := ⟨by kernel_rfl⟩
instance aggTy196 : AggTy Tryz.prog 196 2 := ⟨by kernel_rfl⟩
instance fldTy196_0 : FldTy Tryz.prog 196 0 3 0 := ⟨by kernel_rfl⟩
instance fldTy196_1 : FldTy Tryz.prog 196 1 3 1 := ⟨by kernel_rfl⟩
instance aggTy197 : AggTy Tryz.prog 197 4 := ⟨by kernel_rfl⟩
instance arrTy197 : ArrTy Tryz.prog 197 2 196 2 := ⟨by kernel_rfl⟩
instance aggTy199 : AggTy Tryz.prog 199 12 := ⟨by kernel_rfl⟩
instance fldTy199_1 : FldTy Tryz.prog 199 1 3 1 := ⟨by kernel_rfl⟩
instance fldTy199_2 : FldTy Tryz.prog 199 2 3 2 := ⟨by kernel_rfl⟩
instance fldTy199_3 : FldTy Tryz.prog 199 3 3 3 := ⟨by kernel_rfl⟩
instance fldTy199_4 : FldTy Tryz.prog 199 4 3 4 := ⟨by kernel_rfl⟩
instance fldTy199_5 : FldTy Tryz.prog 199 5 3 5 := ⟨by kernel_rfl⟩
instance fldTy199_6 : FldTy Tryz.prog 199 6 194 6 := ⟨by kernel_rfl⟩
instance fldTy199_7 : FldTy Tryz.prog 199 7 197 8 := ⟨by kernel_rfl⟩
instance zeroTy199 : ZeroTy Tryz.prog 199 (.agg #[.string ⟨#[]⟩, .int .i64 0, .int .i64 0, .int .i64 0, .int .i64 0, .int .i64 0, .int .i64 0, .int .i64 0, .int .i64 0, .int .i64 0, .int .i64 0, .int .i64 0]) := ⟨by kernel_rfl⟩
instance aggTy209 : AggTy Tryz.prog 209 4 := ⟨by kernel_rfl⟩
instance fldTy209_1 : FldTy Tryz.prog 209 1 3 1 := ⟨by kernel_rfl⟩
instance fldTy209_2 : FldTy Tryz.prog 209 2 3 2 := ⟨by kernel_rfl⟩
instance fldTy209_3 : FldTy Tryz.prog 209 3 3 3 := ⟨by kernel_rfl⟩
instance zeroTy209 : ZeroTy Tryz.prog 209 (.agg #[.string ⟨#[]⟩, .int .i64 0, .int .i64 0, .int .i64 0]) := ⟨by kernel_rfl⟩
instance cellTy222 : CellTy Tryz.prog 222 := ⟨by kernel_rfl⟩
instance stoTy222 : StoTy Tryz.prog 222 := ⟨by kernel_rfl⟩
instance intTy222 : IntTy Tryz.prog 222 .u32 := ⟨by kernel_rfl⟩
instance fldTy241_0 : FldTy Tryz.prog 241 0 102 0 := ⟨by kernel_rfl⟩
instance fldTy241_1 : FldTy Tryz.prog 241 1 3 1 := ⟨by kernel_rfl⟩
instance fldTy241_2 : FldTy Tryz.prog 241 2 4 2 := ⟨by kernel_rfl⟩
instance arrTy246 : ArrTy Tryz.prog 246 128 5 1 := ⟨by kernel_rfl⟩
instance zeroTy246 : ZeroTy Tryz.prog 246 (.agg #[.int .u8 0, .int .u8 0, .int .u8 0, .int .u8 0, .int .u8 0, .int .u8 0, .int .u8 0, .int .u8 0, .int .u8 0, .int .u8 0, .int .u8 0, .int .u8 0, .int .u8 0, .int .u8 0, .int .u8 0, .int .u8 0, .int .u8 0, .int .u8 0, .int .u8 0, .int .u8 0, .int .u8 0, .int .u8 0, .int .u8 0, .int .u8 0, .int .u8 0, .int .u8 0, .int .u8 0, .int .u8 0, .int .u8 0, .int .u8 0, .int .u8 0, .int .u8 0, .int .u8 0, .int .u8 0, .int .u8 0, .int .u8 0, .int .u8 0, .int .u8 0, .int .u8 0, .int .u8 0, .int .u8 0, .int .u8 0, .int .u8 0, .int .u8 0, .int .u8 0, .int .u8 0, .int .u8 0, .int .u8 0, .int .u8 0, .int .u8 0, .int .u8 0, .int .u8 0, .int .u8 0, .int .u8 0, .int .u8 0, .int .u8 0, .int .u8 0, .int .u8 0, .int .u8 0, .int .u8 0, .int .u8 0, .int .u8 0, .int .u8 0, .int .u8 0, .int .u8 0, .int .u8 0, .int .u8 0, .int .u8 0, .int .u8 0, .int .u8 0, .int .u8 0, .int .u8 0, .int .u8 0, .int .u8 0, .int .u8 0, .int .u8 0, .int .u8 0, .int .u8 0, .int .u8 0, .int .u8 0, .int .u8 0, .int .u8 0, .int .u8 0, .int .u8 0, .int .u8 0, .int .u8 0, .int .u8 0, .int .u8 0, .int .u8 0, .int .u8 0, .int .u8 0, .int .u8 0, .int .u8 0, .int .u8 0, .int .u8 0, .int .u8 0, .int .u8 0, .int .u8 0, .int .u8 0, .int .u8 0, .int .u8 0, .int .u8 0, .int .u8 0, .int .u8 0, .int .u8 0, .int .u8 0, .int .u8 0, .int .u8 0, .int .u8 0, .int .u8 0, .int .u8 0, .int .u8 0, .int .u8 0, .int .u8 0, .int .u8 0, .int .u8 0, .int .u8 0, .int .u8 0, .int .u8 0, .int .u8 0, .int .u8 0, .int .u8 0, .int .u8 0, .int .u8 0, .int .u8 0, .int .u8 0, .int .u8 0, .int .u8 0]) := ⟨by kernel_rfl⟩
instance aggTy263 : AggTy Tryz.prog 263 2 := ⟨by kernel_rfl⟩
instance fldTy263_1 : FldTy Tryz.prog 263 1 3 1 := ⟨by kernel_rfl⟩
instance zeroTy263 : ZeroTy Tryz.prog 263 (.agg #[.string ⟨#[]⟩, .int .i64 0]) := ⟨by kernel_rfl⟩
instance aggTy266 : AggTy Tryz.prog 266 10 := ⟨by kernel_rfl⟩
instance fldTy266_0 : FldTy Tryz.prog 266 0 9 0 := ⟨by kernel_rfl⟩
instance fldTy266_1 : FldTy Tryz.prog 266 1 3 1 := ⟨by kernel_rfl⟩
instance fldTy266_2 : FldTy Tryz.prog 266 2 3 2 := ⟨by kernel_rfl⟩
instance fldTy266_3 : FldTy Tryz.prog 266 3 3 3 := ⟨by kernel_rfl⟩
instance fldTy266_4 : FldTy Tryz.prog 266 4 3 4 := ⟨by kernel_rfl⟩
instance fldTy266_5 : FldTy Tryz.prog 266 5 3 5 := ⟨by kernel_rfl⟩
instance fldTy266_6 : FldTy Tryz.prog 266 6 3 6 := ⟨by kernel_rfl⟩
instance fldTy266_7 : FldTy Tryz.prog 266 7 3 7 := ⟨by kernel_rfl⟩
instance fldTy266_8 : FldTy Tryz.prog 266 8 3 8 := ⟨by kernel_rfl⟩
instance fldTy266_9 : FldTy Tryz.prog 266 9 3 9 := ⟨by kernel_rfl⟩
instance zeroTy266 : ZeroTy Tryz.prog 266 (.agg #[.string ⟨#[]⟩, .int .i64 0, .int .i64 0, .int .i64 0, .int .i64 0, .int .i64 0, .int .i64 0, .int .i64 0, .int .i64 0, .int .i64 0]) := ⟨by kernel_rfl⟩
instance aggTy269 : AggTy Tryz.prog 269 4 := ⟨by kernel_rfl⟩
instance fldTy269_1 : FldTy Tryz.prog 269 1 3 1 := ⟨by kernel_rfl⟩
instance fldTy269_2 : FldTy Tryz.prog 269 2 3 2 := ⟨by kernel_rfl⟩
instance fldTy269_3 : FldTy Tryz.prog 269 3 3 3 := ⟨by kernel_rfl⟩
instance zeroTy269 : ZeroTy Tryz.prog 269 (.agg #[.string ⟨#[]⟩, .int .i64 0, .int .i64 0, .int .i64 0]) := ⟨by kernel_rfl⟩
instance aggTy277 : AggTy Tryz.prog 277 8 := ⟨by kernel_rfl⟩
instance arrTy277 : ArrTy Tryz.prog 277 8 222 1 := ⟨by kernel_rfl⟩
instance zeroTy277 : ZeroTy Tryz.prog 277 (.agg #[.int .u32 0, .int .u32 0, .int .u32 0, .int .u32 0, .int .u32 0, .int .u32 0, .int .u32 0, .int .u32 0]) := ⟨by kernel_rfl⟩
instance aggTy278 : AggTy Tryz.prog 278 8 := ⟨by kernel_rfl⟩
instance arrTy278 : ArrTy Tryz.prog 278 8 222 1 := ⟨by kernel_rfl⟩
instance zeroTy278 : ZeroTy Tryz.prog 278 (.agg #[.int .u32 0, .int .u32 0, .int .u32 0, .int .u32 0, .int .u32 0, .int .u32 0, .int .u32 0, .int .u32 0]) := ⟨by kernel_rfl⟩
instance cellTy287 : CellTy Tryz.prog 287 := ⟨by kernel_rfl⟩
instance stoTy287 : StoTy Tryz.prog 287 := ⟨by kernel_rfl⟩
instance fldTy289_0 : FldTy Tryz.prog 289 0 287 0 := ⟨by kernel_rfl⟩
instance cellTy290 : CellTy Tryz.prog 290 := ⟨by kernel_rfl⟩
instance stoTy290 : StoTy Tryz.prog 290 := ⟨by kernel_rfl⟩
instance zeroTy290 : ZeroTy Tryz.prog 290 (.pointer none) := ⟨by kernel_rfl⟩
instance aggTy308 : AggTy Tryz.prog 308 64 := ⟨by kernel_rfl⟩
instance arrTy308 : ArrTy Tryz.prog 308 64 222 1 := ⟨by kernel_rfl⟩
instance zeroTy308 : ZeroTy Tryz.prog 308 (.agg #[.int .u32 0, .int .u32 0, .int .u32 0, .int .u32 0, .int .u32 0, .int .u32 0, .int .u32 0, .int .u32 0, .int .u32 0, .int .u32 0, .int .u32 0, .int .u32 0, .int .u32 0, .int .u32 0, .int .u32 0, .int .u32 0, .int .u32 0, .int .u32 0, .int .u32 0, .int .u32 0, .int .u32 0, .int .u32 0, .int .u32 0, .int .u32 0, .int .u32 0, .int .u32 0, .int .u32 0, .int .u32 0, .int .u32 0, .int .u32 0, .int .u32 0, .int .u32 0, .int .u32 0, .int .u32 0, .int .u32 0, .int .u32 0, .int .u32 0, .int .u32 0, .int .u32 0, .int .u32 0, .int .u32 0, .int .u32 0, .int .u32 0, .int .u32 0, .int .u32 0, .int .u32 0, .int .u32 0, .int .u32 0, .int .u32 0, .int .u32 0, .int .u32 0, .int .u32 0, .int .u32 0, .int .u32 0, .int .u32 0, .int .u32 0, .int .u32 0, .int .u32 0, .int .u32 0, .int .u32 0, .int .u32 0, .int .u32 0, .int .u32 0, .int .u32 0]) := ⟨by kernel_rfl⟩
instance sliceTy311 : SliceTy Tryz.prog 311 222 1 := ⟨by kernel_rfl⟩
instance arrTy318 : ArrTy Tryz.prog 318 4 289 1 := ⟨by kernel_rfl⟩
instance aggTy326 : AggTy Tryz.prog 326 4 := ⟨by kernel_rfl⟩
instance arrTy326 : ArrTy Tryz.prog 326 4 4 1 := ⟨by kernel_rfl⟩
instance zeroTy326 : ZeroTy Tryz.prog 326 (.agg #[.bool false, .bool false, .bool false, .bool false]) := ⟨by kernel_rfl⟩
instance enters10 : Enters Tryz.prog 10 := Enters.of Tryz.func10 (by kernel_rfl) (by kernel_rfl)
instance enters11 : Enters Tryz.prog 11 := Enters.of Tryz.func11 (by kernel_rfl) (by kernel_rfl)
instance enters12 : Enters Tryz.prog 12 := Enters.of Tryz.func12 (by kernel_rfl) (by kernel_rfl)
instance enters14 : Enters Tryz.prog 14 := Enters.of Tryz.func14 (by kernel_rfl) (by kernel_rfl)
instance enters16 : Enters Tryz.prog 16 := Enters.of Tryz.func16 (by kernel_rfl) (by kernel_rfl)
instance enters18 : Enters Tryz.prog 18 := Enters.of Tryz.func18 (by kernel_rfl) (by kernel_rfl)
instance enters19 : Enters Tryz.prog 19 := Enters.of Tryz.func19 (by kernel_rfl) (by kernel_rfl)
instance enters20 : Enters Tryz.prog 20 := Enters.of Tryz.func20 (by kernel_rfl) (by kernel_rfl)
instance enters21 : Enters Tryz.prog 21 := Enters.of Tryz.func21 (by kernel_rfl) (by kernel_rfl)
instance enters22 : Enters Tryz.prog 22 := Enters.of Tryz.func22 (by kernel_rfl) (by kernel_rfl)
instance enters23 : Enters Tryz.prog 23 := Enters.of Tryz.func23 (by kernel_rfl) (by kernel_rfl)
instance enters24 : Enters Tryz.prog 24 := Enters.of Tryz.func24 (by kernel_rfl) (by kernel_rfl)
instance enters25 : Enters Tryz.prog 25 := Enters.of Tryz.func25 (by kernel_rfl) (by kernel_rfl)
instance enters26 : Enters Tryz.prog 26 := Enters.of Tryz.func26 (by kernel_rfl) (by kernel_rfl)
instance enters27 : Enters Tryz.prog 27 := Enters.of Tryz.func27 (by kernel_rfl) (by kernel_rfl)
instance enters28 : Enters Tryz.prog 28 := Enters.of Tryz.func28 (by kernel_rfl) (by kernel_rfl)
instance enters29 : Enters Tryz.prog 29 := Enters.of Tryz.func29 (by kernel_rfl) (by kernel_rfl)
instance enters31 : Enters Tryz.prog 31 := Enters.of Tryz.func31 (by kernel_rfl) (by kernel_rfl)
instance enters33 : Enters Tryz.prog 33 := Enters.of Tryz.func33 (by kernel_rfl) (by kernel_rfl)
instance enters36 : Enters Tryz.prog 36 := Enters.of Tryz.func36 (by kernel_rfl) (by kernel_rfl)
instance enters39 : Enters Tryz.prog 39 := Enters.of Tryz.func39 (by kernel_rfl) (by kernel_rfl)
instance enters40 : Enters Tryz.prog 40 := Enters.of Tryz.func40 (by kernel_rfl) (by kernel_rfl)
instance enters41 : Enters Tryz.prog 41 := Enters.of Tryz.func41 (by kernel_rfl) (by kernel_rfl)
instance enters42 : Enters Tryz.prog 42 := Enters.of Tryz.func42 (by kernel_rfl) (by kernel_rfl)
instance enters43 : Enters Tryz.prog 43 := Enters.of Tryz.func43 (by kernel_rfl) (by kernel_rfl)
instance enters44 : Enters Tryz.prog 44 := Enters.of Tryz.func44 (by kernel_rfl) (by kernel_rfl)
instance enters45 : Enters Tryz.prog 45 := Enters.of Tryz.func45 (by kernel_rfl) (by kernel_rfl)
instance enters46 : Enters Tryz.prog 46 := Enters.of Tryz.func46 (by kernel_rfl) (by kernel_rfl)
instance enters48 : Enters Tryz.prog 48 := Enters.of Tryz.func48 (by kernel_rfl) (by kernel_rfl)
instance enters49 : Enters Tryz.prog 49 := Enters.of Tryz.func49 (by kernel_rfl) (by kernel_rfl)
instance enters50 : Enters Tryz.prog 50 := Enters.of Tryz.func50 (by kernel_rfl) (by kernel_rfl)
instance enters51 : Enters Tryz.prog 51 := Enters.of Tryz.func51 (by kernel_rfl) (by kernel_rfl)
instance enters52 : Enters Tryz.prog 52 := Enters.of Tryz.func52 (by kernel_rfl) (by kernel_rfl)
instance enters53 : Enters Tryz.prog 53 := Enters.of Tryz.func53 (by kernel_rfl) (by kernel_rfl)
instance enters54 : Enters Tryz.prog 54 := Enters.of Tryz.func54 (by kernel_rfl) (by kernel_rfl)
instance enters55 : Enters Tryz.prog 55 := Enters.of Tryz.func55 (by kernel_rfl) (by kernel_rfl)
instance enters56 : Enters Tryz.prog 56 := Enters.of Tryz.func56 (by kernel_rfl) (by kernel_rfl)
instance enters57 : Enters Tryz.prog 57 := Enters.of Tryz.func57 (by kernel_rfl) (by kernel_rfl)
instance enters58 : Enters Tryz.prog 58 := Enters.of Tryz.func58 (by kernel_rfl) (by kernel_rfl)
instance enters59 : Enters Tryz.prog 59 := Enters.of Tryz.func59 (by kernel_rfl) (by kernel_rfl)
instance enters60 : Enters Tryz.prog 60 := Enters.of Tryz.func60 (by kernel_rfl) (by kernel_rfl)
instance enters61 : Enters Tryz.prog 61 := Enters.of Tryz.func61 (by kernel_rfl) (by kernel_rfl)
instance enters62 : Enters Tryz.prog 62 := Enters.of Tryz.func62 (by kernel_rfl) (by kernel_rfl)
instance enters63 : Enters Tryz.prog 63 := Enters.of Tryz.func63 (by kernel_rfl) (by kernel_rfl)
instance enters64 : Enters Tryz.prog 64 := Enters.of Tryz.func64 (by kernel_rfl) (by kernel_rfl)
instance enters65 : Enters Tryz.prog 65 := Enters.of Tryz.func65 (by kernel_rfl) (by kernel_rfl)
instance enters66 : Enters Tryz.prog 66 := Enters.of Tryz.func66 (by kernel_rfl) (by kernel_rfl)
instance enters75 : Enters Tryz.prog 75 := Enters.of Tryz.func75 (by kernel_rfl) (by kernel_rfl)
instance enters76 : Enters Tryz.prog 76 := Enters.of Tryz.func76 (by kernel_rfl) (by kernel_rfl)
instance enters77 : Enters Tryz.prog 77 := Enters.of Tryz.func77 (by kernel_rfl) (by kernel_rfl)
instance enters80 : Enters Tryz.prog 80 := Enters.of Tryz.func80 (by kernel_rfl) (by kernel_rfl)
instance enters81 : Enters Tryz.prog 81 := Enters.of Tryz.func81 (by kernel_rfl) (by kernel_rfl)
instance enters84 : Enters Tryz.prog 84 := Enters.of Tryz.func84 (by kernel_rfl) (by kernel_rfl)
instance enters85 : Enters Tryz.prog 85 := Enters.of Tryz.func85 (by kernel_rfl) (by kernel_rfl)
instance enters86 : Enters Tryz.prog 86 := Enters.of Tryz.func86 (by kernel_rfl) (by kernel_rfl)
instance enters87 : Enters Tryz.prog 87 := Enters.of Tryz.func87 (by kernel_rfl) (by kernel_rfl)
instance enters88 : Enters Tryz.prog 88 := Enters.of Tryz.func88 (by kernel_rfl) (by kernel_rfl)
instance enters89 : Enters Tryz.prog 89 := Enters.of Tryz.func89 (by kernel_rfl) (by kernel_rfl)
instance enters90 : Enters Tryz.prog 90 := Enters.of Tryz.func90 (by kernel_rfl) (by kernel_rfl)
instance enters91 : Enters Tryz.prog 91 := Enters.of Tryz.func91 (by kernel_rfl) (by kernel_rfl)
instance enters92 : Enters Tryz.prog 92 := Enters.of Tryz.func92 (by kernel_rfl) (by kernel_rfl)
instance enters93 : Enters Tryz.prog 93 := Enters.of Tryz.func93 (by kernel_rfl) (by kernel_rfl)
instance enters94 : Enters Tryz.prog 94 := Enters.of Tryz.func94 (by kernel_rfl) (by kernel_rfl)
instance enters95 : Enters Tryz.prog 95 := Enters.of Tryz.func95 (by kernel_rfl) (by kernel_rfl)
instance enters96 : Enters Tryz.prog 96 := Enters.of Tryz.func96 (by kernel_rfl) (by kernel_rfl)
instance enters97 : Enters Tryz.prog 97 := Enters.of Tryz.func97 (by kernel_rfl) (by kernel_rfl)
instance enters98 : Enters Tryz.prog 98 := Enters.of Tryz.func98 (by kernel_rfl) (by kernel_rfl)
instance enters99 : Enters Tryz.prog 99 := Enters.of Tryz.func99 (by kernel_rfl) (by kernel_rfl)
instance enters100 : Enters Tryz.prog 100 := Enters.of Tryz.func100 (by kernel_rfl) (by kernel_rfl)
instance enters101 : Enters Tryz.prog 101 := Enters.of Tryz.func101 (by kernel_rfl) (by kernel_rfl)
instance enters102 : Enters Tryz.prog 102 := Enters.of Tryz.func102 (by kernel_rfl) (by kernel_rfl)
instance enters103 : Enters Tryz.prog 103 := Enters.of Tryz.func103 (by kernel_rfl) (by kernel_rfl)
instance enters104 : Enters Tryz.prog 104 := Enters.of Tryz.func104 (by kernel_rfl) (by kernel_rfl)
instance enters105 : Enters Tryz.prog 105 := Enters.of Tryz.func105 (by kernel_rfl) (by kernel_rfl)
instance enters106 : Enters Tryz.prog 106 := Enters.of Tryz.func106 (by kernel_rfl) (by kernel_rfl)
instance enters107 : Enters Tryz.prog 107 := Enters.of Tryz.func107 (by kernel_rfl) (by kernel_rfl)
instance enters108 : Enters Tryz.prog 108 := Enters.of Tryz.func108 (by kernel_rfl) (by kernel_rfl)
instance enters109 : Enters Tryz.prog 109 := Enters.of Tryz.func109 (by kernel_rfl) (by kernel_rfl)
instance enters110 : Enters Tryz.prog 110 := Enters.of Tryz.func110 (by kernel_rfl) (by kernel_rfl)
instance enters111 : Enters Tryz.prog 111 := Enters.of Tryz.func111 (by kernel_rfl) (by kernel_rfl)
instance enters112 : Enters Tryz.prog 112 := Enters.of Tryz.func112 (by kernel_rfl) (by kernel_rfl)
instance enters113 : Enters Tryz.prog 113 := Enters.of Tryz.func113 (by kernel_rfl) (by kernel_rfl)
instance enters114 : Enters Tryz.prog 114 := Enters.of Tryz.func114 (by kernel_rfl) (by kernel_rfl)
instance enters115 : Enters Tryz.prog 115 := Enters.of Tryz.func115 (by kernel_rfl) (by kernel_rfl)
instance enters116 : Enters Tryz.prog 116 := Enters.of Tryz.func116 (by kernel_rfl) (by kernel_rfl)
instance enters124 : Enters Tryz.prog 124 := Enters.of Tryz.func124 (by kernel_rfl) (by kernel_rfl)
instance enters125 : Enters Tryz.prog 125 := Enters.of Tryz.func125 (by kernel_rfl) (by kernel_rfl)
instance enters126 : Enters Tryz.prog 126 := Enters.of Tryz.func126 (by kernel_rfl) (by kernel_rfl)
instance enters127 : Enters Tryz.prog 127 := Enters.of Tryz.func127 (by kernel_rfl) (by kernel_rfl)
instance enters128 : Enters Tryz.prog 128 := Enters.of Tryz.func128 (by kernel_rfl) (by kernel_rfl)
instance enters134 : Enters Tryz.prog 134 := Enters.of Tryz.func134 (by kernel_rfl) (by kernel_rfl)
instance enters135 : Enters Tryz.prog 135 := Enters.of Tryz.func135 (by kernel_rfl) (by kernel_rfl)
instance enters136 : Enters Tryz.prog 136 := Enters.of Tryz.func136 (by kernel_rfl) (by kernel_rfl)
instance enters137 : Enters Tryz.prog 137 := Enters.of Tryz.func137 (by kernel_rfl) (by kernel_rfl)
instance enters138 : Enters Tryz.prog 138 := Enters.of Tryz.func138 (by kernel_rfl) (by kernel_rfl)
instance enters149 : Enters Tryz.prog 149 := Enters.of Tryz.func149 (by kernel_rfl) (by kernel_rfl)
instance enters150 : Enters Tryz.prog 150 := Enters.of Tryz.func150 (by kernel_rfl) (by kernel_rfl)
instance enters151 : Enters Tryz.prog 151 := Enters.of Tryz.func151 (by kernel_rfl) (by kernel_rfl)
instance enters152 : Enters Tryz.prog 152 := Enters.of Tryz.func152 (by kernel_rfl) (by kernel_rfl)
instance enters153 : Enters Tryz.prog 153 := Enters.of Tryz.func153 (by kernel_rfl) (by kernel_rfl)
instance enters154 : Enters Tryz.prog 154 := Enters.of Tryz.func154 (by kernel_rfl) (by kernel_rfl)
instance enters155 : Enters Tryz.prog 155 := Enters.of Tryz.func155 (by kernel_rfl) (by kernel_rfl)
instance enters156 : Enters Tryz.prog 156 := Enters.of Tryz.func156 (by kernel_rfl) (by kernel_rfl)
instance enters157 : Enters Tryz.prog 157 := Enters.of Tryz.func157 (by kernel_rfl) (by kernel_rfl)
instance enters158 : Enters Tryz.prog 158 := Enters.of Tryz.func158 (by kernel_rfl) (by kernel_rfl)
instance enters159 : Enters Tryz.prog 159 := Enters.of Tryz.func159 (by kernel_rfl) (by kernel_rfl)
instance enters160 : Enters Tryz.prog 160 := Enters.of Tryz.func160 (by kernel_rfl) (by kernel_rfl)
instance enters161 : Enters Tryz.prog 161 := Enters.of Tryz.func161 (by kernel_rfl) (by kernel_rfl)
instance enters162 : Enters Tryz.prog 162 := Enters.of Tryz.func162 (by kernel_rfl) (by kernel_rfl)
instance enters163 : Enters Tryz.prog 163 := Enters.of Tryz.func163 (by kernel_rfl) (by kernel_rfl)
instance enters164 : Enters Tryz.prog 164 := Enters.of Tryz.func164 (by kernel_rfl) (by kernel_rfl)
instance enters165 : Enters Tryz.prog 165 := Enters.of Tryz.func165 (by kernel_rfl) (by kernel_rfl)
instance enters166 : Enters Tryz.prog 166 := Enters.of Tryz.func166 (by kernel_rfl) (by kernel_rfl)
instance enters167 : Enters Tryz.prog 167 := Enters.of Tryz.func167 (by kernel_rfl) (by kernel_rfl)
instance enters168 : Enters Tryz.prog 168 := Enters.of Tryz.func168 (by kernel_rfl) (by kernel_rfl)
instance enters169 : Enters Tryz.prog 169 := Enters.of Tryz.func169 (by kernel_rfl) (by kernel_rfl)
instance enters170 : Enters Tryz.prog 170 := Enters.of Tryz.func170 (by kernel_rfl) (by kernel_rfl)
instance enters171 : Enters Tryz.prog 171 := Enters.of Tryz.func171 (by kernel_rfl) (by kernel_rfl)
instance enters172 : Enters Tryz.prog 172 := Enters.of Tryz.func172 (by kernel_rfl) (by kernel_rfl)
instance enters173 : Enters Tryz.prog 173 := Enters.of Tryz.func173 (by kernel_rfl) (by kernel_rfl)
instance enters174 : Enters Tryz.prog 174 := Enters.of Tryz.func174 (by kernel_rfl) (by kernel_rfl)
instance enters175 : Enters Tryz.prog 175 := Enters.of Tryz.func175 (by kernel_rfl) (by kernel_rfl)
instance enters176 : Enters Tryz.prog 176 := Enters.of Tryz.func176 (by kernel_rfl) (by kernel_rfl)
instance enters177 : Enters Tryz.prog 177 := Enters.of Tryz.func177 (by kernel_rfl) (by kernel_rfl)
instance enters178 : Enters Tryz.prog 178 := Enters.of Tryz.func178 (by kernel_rfl) (by kernel_rfl)
instance enters187 : Enters Tryz.prog 187 := Enters.of Tryz.func187 (by kernel_rfl) (by kernel_rfl)
instance enters188 : Enters Tryz.prog 188 := Enters.of Tryz.func188 (by kernel_rfl) (by kernel_rfl)
instance enters189 : Enters Tryz.prog 189 := Enters.of Tryz.func189 (by kernel_rfl) (by kernel_rfl)
instance enters190 : Enters Tryz.prog 190 := Enters.of Tryz.func190 (by kernel_rfl) (by kernel_rfl)
instance enters191 : Enters Tryz.prog 191 := Enters.of Tryz.func191 (by kernel_rfl) (by kernel_rfl)
instance enters198 : Enters Tryz.prog 198 := Enters.of Tryz.func198 (by kernel_rfl) (by kernel_rfl)
instance enters199 : Enters Tryz.prog 199 := Enters.of Tryz.func199 (by kernel_rfl) (by kernel_rfl)
instance enters200 : Enters Tryz.prog 200 := Enters.of Tryz.func200 (by kernel_rfl) (by kernel_rfl)
instance enters201 : Enters Tryz.prog 201 := Enters.of Tryz.func201 (by kernel_rfl) (by kernel_rfl)
instance enters202 : Enters Tryz.prog 202 := Enters.of Tryz.func202 (by kernel_rfl) (by kernel_rfl)
instance enters208 : Enters Tryz.prog 208 := Enters.of Tryz.func208 (by kernel_rfl) (by kernel_rfl)
instance enters209 : Enters Tryz.prog 209 := Enters.of Tryz.func209 (by kernel_rfl) (by kernel_rfl)
instance enters210 : Enters Tryz.prog 210 := Enters.of Tryz.func210 (by kernel_rfl) (by kernel_rfl)
instance enters211 : Enters Tryz.prog 211 := Enters.of Tryz.func211 (by kernel_rfl) (by kernel_rfl)
instance enters212 : Enters Tryz.prog 212 := Enters.of Tryz.func212 (by kernel_rfl) (by kernel_rfl)
instance enters213 : Enters Tryz.prog 213 := Enters.of Tryz.func213 (by kernel_rfl) (by kernel_rfl)
instance enters214 : Enters Tryz.prog 214 := Enters.of Tryz.func214 (by kernel_rfl) (by kernel_rfl)
instance enters215 : Enters Tryz.prog 215 := Enters.of Tryz.func215 (by kernel_rfl) (by kernel_rfl)
instance enters216 : Enters Tryz.prog 216 := Enters.of Tryz.func216 (by kernel_rfl) (by kernel_rfl)
instance enters217 : Enters Tryz.prog 217 := Enters.of Tryz.func217 (by kernel_rfl) (by kernel_rfl)
instance enters218 : Enters Tryz.prog 218 := Enters.of Tryz.func218 (by kernel_rfl) (by kernel_rfl)
instance enters219 : Enters Tryz.prog 219 := Enters.of Tryz.func219 (by kernel_rfl) (by kernel_rfl)
instance enters220 : Enters Tryz.prog 220 := Enters.of Tryz.func220 (by kernel_rfl) (by kernel_rfl)
instance enters221 : Enters Tryz.prog 221 := Enters.of Tryz.func221 (by kernel_rfl) (by kernel_rfl)
instance enters222 : Enters Tryz.prog 222 := Enters.of Tryz.func222 (by kernel_rfl) (by kernel_rfl)
instance enters231 : Enters Tryz.prog 231 := Enters.of Tryz.func231 (by kernel_rfl) (by kernel_rfl)
instance enters236 : Enters Tryz.prog 236 := Enters.of Tryz.func236 (by kernel_rfl) (by kernel_rfl)
instance enters237 : Enters Tryz.prog 237 := Enters.of Tryz.func237 (by kernel_rfl) (by kernel_rfl)
instance enters238 : Enters Tryz.prog 238 := Enters.of Tryz.func238 (by kernel_rfl) (by kernel_rfl)
instance enters239 : Enters Tryz.prog 239 := Enters.of Tryz.func239 (by kernel_rfl) (by kernel_rfl)
instance enters241 : Enters Tryz.prog 241 := Enters.of Tryz.func241 (by kernel_rfl) (by kernel_rfl)
instance enters242 : Enters Tryz.prog 242 := Enters.of Tryz.func242 (by kernel_rfl) (by kernel_rfl)
instance enters243 : Enters Tryz.prog 243 := Enters.of Tryz.func243 (by kernel_rfl) (by kernel_rfl)
instance enters244 : Enters Tryz.prog 244 := Enters.of Tryz.func244 (by kernel_rfl) (by kernel_rfl)
instance enters246 : Enters Tryz.prog 246 := Enters.of Tryz.func246 (by kernel_rfl) (by kernel_rfl)
instance enters247 : Enters Tryz.prog 247 := Enters.of Tryz.func247 (by kernel_rfl) (by kernel_rfl)
instance enters248 : Enters Tryz.prog 248 := Enters.of Tryz.func248 (by kernel_rfl) (by kernel_rfl)
instance enters249 : Enters Tryz.prog 249 := Enters.of Tryz.func249 (by kernel_rfl) (by kernel_rfl)
instance enters253 : Enters Tryz.prog 253 := Enters.of Tryz.func253 (by kernel_rfl) (by kernel_rfl)
instance enters263 : Enters Tryz.prog 263 := Enters.of Tryz.func263 (by kernel_rfl) (by kernel_rfl)
instance enters264 : Enters Tryz.prog 264 := Enters.of Tryz.func264 (by kernel_rfl) (by kernel_rfl)
instance enters271 : Enters Tryz.prog 271 := Enters.of Tryz.func271 (by kernel_rfl) (by kernel_rfl)
instance enters272 : Enters Tryz.prog 272 := Enters.of Tryz.func272 (by kernel_rfl) (by kernel_rfl)
instance enters273 : Enters Tryz.prog 273 := Enters.of Tryz.func273 (by kernel_rfl) (by kernel_rfl)
instance enters276 : Enters Tryz.prog 276 := Enters.of Tryz.func276 (by kernel_rfl) (by kernel_rfl)
instance enters279 : Enters Tryz.prog 279 := Enters.of Tryz.func279 (by kernel_rfl) (by kernel_rfl)
end Go.Proofs.YtehcphboliofaaaGreatDoor
namespace Go.Proofs.YtehcphboliofaaaGreatDoor
open Go Go.RowKit
section
variable {P : Program} {X : XK}
theorem convU {s t : TypeId} {k0 : IntKind} {n : Nat} {i : Int} {K : Value → Prop} [h0 : IntTy P s k0] [h : IntTy P t .u64] (hi : i = n) (hn : n < 9223372036854775808) (kk : K (.int .u64 (n : Int))) : ConvP P s t (.int k0 i) K := by
  subst hi; refine conv (k := .u64) ?_; rw [u64_wrap, Int.emod_eq_of_lt (by omega) (by omega)]; exact kk
theorem st1 {t e : TypeId} [h : StoTy P t] {g : Nat} {u v : Value} {w : World} {K : VK} (hb : Blk w g e [u]) (hv : v.oneCell' = true) (kk : ∀ w', Blk w' g e [v] → Kept (fun b => b ≠ g) w w' → K undef w') : StoreP P t (.pointer (some (ad g 0))) v K w :=
  st hb (Nat.le_of_ble_eq_true rfl) hv fun w' h1 h2 _ => kk w' h1 h2
theorem yield_of {l : Nat} {args : Array Value} {w : World} {R K : VK} (h : YieldP P l args R w) (k : ∀ v w', R v w' → K v w') : YieldP P l args K w := by
  rw [YieldP_eq] at h ⊢; exact h.mono k
end
abbrev ptr (b : Nat) : Value := .pointer (some (ad b 0))
abbrev iv (n : Int) : Value := .int .i64 n
structure Q where
  n : Int
  d : Int
deriving DecidableEq
abbrev Q.v (a : Q) : Value := .agg #[iv a.n, iv a.d]
def qValid (a : Q) : Bool := decide (1 ≤ a.d) && (decide (a.d ≤ 1073741824) && (decide (-1073741824 ≤ a.n) && (decide (a.n ≤ 1073741824) && (Nat.gcd a.n.natAbs a.d.toNat == 1))))
theorem qValid_iff {a : Q} : qValid a = true ↔ 1 ≤ a.d ∧ a.d ≤ 1073741824 ∧ -1073741824 ≤ a.n ∧ a.n ≤ 1073741824 ∧ Nat.gcd a.n.natAbs a.d.toNat = 1 := by
  unfold qValid; simp only [Bool.and_eq_true, decide_eq_true_eq, beq_iff_eq]
def qErr (a : Q) : Int := if qValid a then 0 else 120
def cmpI (x y : Int) : Int := if x < y then -1 else if x > y then 1 else 0
def qCmp (a b : Q) : Int × Int := if qValid a && qValid b then (cmpI (a.n * b.d) (b.n * a.d), 0) else (0, 120)
theorem prod_lt {x y : Int} (hx : -1073741824 ≤ x ∧ x ≤ 1073741824) (hy : -1073741824 ≤ y ∧ y ≤ 1073741824) : -1152921504606846976 ≤ x * y ∧ x * y ≤ 1152921504606846976 := by
  have h1 := Int.natAbs_mul x y; have h2 : x.natAbs * y.natAbs ≤ 1073741824 * 1073741824 := Nat.mul_le_mul (by omega) (by omega); omega
section
variable {w : World}
theorem c_isNaN {x : Int} : CallZ Tryz.prog 273 #[iv x] w (fun v w' => v = .bool false ∧ w' = w) := by
  refine fn_rule (args := [iv x]) Tryz.func273 (by kernel_rfl) ?_; refine cN (fun h => absurd rfl h) (fun _ => ?_); exact ret1 (.bool false) rfl ⟨rfl, rfl⟩
theorem c_Compare {x y : Int} : CallZ Tryz.prog 264 #[iv x, iv y] w (fun v w' => v = iv (cmpI x y) ∧ w' = w) := by
  refine fn_rule (args := [iv x, iv y]) Tryz.func264 (by kernel_rfl) ?_; refine call_of c_isNaN ?_; rintro _ _ ⟨rfl, rfl⟩; refine call_of c_isNaN ?_; rintro _ _ ⟨rfl, rfl⟩; refine cD (fun h => ?_) (fun h => ?_)
  · exact ret1 (iv (-1)) rfl ⟨by unfold cmpI; rw [if_pos h], rfl⟩
  refine cD (fun h2 => ?_) (fun h2 => ?_)
  · exact ret1 (iv 1) rfl ⟨by unfold cmpI; rw [if_neg h, if_pos h2], rfl⟩
  · exact ret1 (iv 0) rfl ⟨by unfold cmpI; rw [if_neg h, if_neg h2], rfl⟩
theorem c_magnitude {n : Int} (hn : -1073741824 ≤ n ∧ n ≤ 1073741824) : CallZ Tryz.prog 272 #[iv n] w (fun v w' => v = .int .u64 (n.natAbs : Int) ∧ w' = w) := by
  refine fn_rule (args := [iv n]) Tryz.func272 (by kernel_rfl) ?_; refine cD (fun h => ?_) (fun h => ?_)
  · refine conv (k := .u64) ?_; obtain ⟨y, hy⟩ : ∃ y, y = IntKind.u64.wrap n := ⟨_, rfl⟩; rw [← hy]; refine arW ?_; obtain ⟨x, hx⟩ : ∃ x, x = IntKind.u64.wrap (0 - y) := ⟨_, rfl⟩; rw [← hx]; rw [u64_wrap] at hx hy; exact ret1 (.int .u64 x) rfl ⟨by rw [show x = (n.natAbs : Int) from by omega], rfl⟩
  · refine convU (n := n.natAbs) (by omega) (by omega) ?_; exact ret1 (.int .u64 (n.natAbs : Int)) rfl ⟨rfl, rfl⟩
theorem gcd_step (a b : Nat) : Nat.gcd b (a % b) = Nat.gcd a b := by rw [Nat.gcd_comm b, ← Nat.gcd_rec, Nat.gcd_comm]
theorem c_remainders1 {b1 b2 l a b : Nat} {D : Nat → Prop} (J : Nat → World → Prop) (hb12 : b1 ≠ b2) (hJ : ∀ d w w', J d w → Kept (fun x => x ≠ b1 ∧ x ≠ b2) w w' → J d w')
    (hstep : ∀ (d x : Nat) w, J d w → YieldP Tryz.prog l [.int .u64 (x : Int)].toArray (fun v w' => v = .bool true ∧ J x w' ∧ Kept D w w') w) (hD1 : D b1) (hD2 : D b2)
    (h1 : Blk w b1 152 [.int .u64 (a : Int)]) (h2 : Blk w b2 152 [.int .u64 (b : Int)]) (hb : 0 < b) (h0 : J b w) :
    CallZ Tryz.prog 279 #[.func (.yield l) #[] #[], ptr b1, ptr b2] w (fun _ w' => J (Nat.gcd a b) w') := by
  refine fn_rule (args := [.func (.yield l) #[] #[], ptr b1, ptr b2]) Tryz.func279 (by kernel_rfl) ?_; refine loop3 (fun (_ _ _ : Nat) => []) (fun x y d w' => 0 < y ∧ Nat.gcd x y = Nat.gcd a b ∧ Blk w' b1 152 [.int .u64 (x : Int)] ∧ Blk w' b2 152 [.int .u64 (y : Int)] ∧ J d w' ∧ (x = 0 → d = y)) (fun _ y _ _ => y) a b b trivial ⟨hb, rfl, h1, h2, h0, fun _ => rfl⟩ rfl ?_; rintro G x y d w1 ⟨hy, hg, e1, e2, hj, hd⟩; refine ld _ (e1.cell rfl) ?_; refine cN (fun hx => ?_) (fun hx => ?_)
  · refine ld _ (e1.cell rfl) ?_; refine yield_of (hstep d x w1 hj) ?_; rintro _ w2 ⟨rfl, hj2, k2⟩; have f1 := e1.kept k2 hD1; have f2 := e2.kept k2 hD2; refine drawP (.take 0 (.take 2 (.take 3 (.eff 1 (.take 4 (.eff 5 (.bar (.eff 6 .done)))))))) [6] (fun u => Kept (fun x => x ≠ b1) w2 u) mx (by kernel_rfl) (.refl _ _) ?_; refine ldK _ (f2.cell rfl) (Ne.symm hb12) (.refl _ _) ?_; refine ldK _ (f2.cell rfl) (Ne.symm hb12) (.refl _ _) ?_; refine ld _ (f1.cell rfl) ?_; refine strS (.refl _ _) ?_; refine remI (by omega) (by omega) ?_; obtain ⟨r, hr⟩ : ∃ r : Nat, (x : Int) % max (y : Int) 1 = (r : Int) := ⟨x % y, by rw [Int.max_eq_left (by omega)]; rfl⟩
    have hr' : r = x % y := by
      rw [Int.max_eq_left (by omega)] at hr
      have : ((x % y : Nat) : Int) = (r : Int) := by rw [← hr]; rfl
      omega
    rw [hr]
    have hrl : r < y := by rw [hr']; exact Nat.mod_lt _ hy
    have hgr : Nat.gcd y r = Nat.gcd a b := by rw [hr', gcd_step, hg]
    refine st1 f1 rfl (fun w3 s1 k3 => ?_); refine strS k3 ?_; refine barS (fun _ => True) trivial ?_; refine st1 (f2.kept k3 (Ne.symm hb12)) rfl (fun w4 s2 k4 => ?_); refine strS trivial ?_; have t1 := s1.kept k4 hb12; have hj4 := hJ x w2 w4 hj2 ((k3.weak fun _ _ h => h.1).trans (k4.weak fun _ _ h => h.2)); refine ld _ (s2.cell rfl) ?_; refine cE (fun h0 => ?_) (fun h0 => ?_)
    · refine ld _ (t1.cell rfl) ?_; refine yield_of (hstep x y w4 hj4) ?_; rintro _ w5 ⟨rfl, hj5, -⟩; refine ret0 ?_; rw [← hgr, show r = 0 from by omega, Nat.gcd_zero_right]; exact hj5
    · exact next3 y r x trivial ⟨by omega, hgr, t1, s2, hj4, fun h => by omega⟩ hrl
  · have hx0 : x = 0 := by omega
    subst hx0; refine ret0 ?_; rw [← hg, Nat.gcd_zero_left]; rw [hd rfl] at hj; exact hj
theorem c_remainders {a b : Nat} : CallZ Tryz.prog 276 #[.int .u64 (a : Int), .int .u64 (b : Int)] w (fun v w' => ∃ b1 b2, v = .func (.func 279) #[] #[ptr b1, ptr b2] ∧ Ext w w' ∧ Blk w' b1 152 [.int .u64 (a : Int)] ∧ Blk w' b2 152 [.int .u64 (b : Int)] ∧ w.heap.size ≤ b1 ∧ b1 < b2) := by
  refine fn_rule (args := [.int .u64 (a : Int), .int .u64 (b : Int)]) Tryz.func276 (by kernel_rfl) ?_; refine box (fun b1 w1 h1 => ?_); refine box (fun b2 w2 h2 => ?_); have e1 := h1.at_; have e2 := h2.at_; have s1 := h1.size; exact ret1 (.func (.func 279) #[] #[ptr b1, ptr b2]) rfl ⟨b1, b2, rfl, h1.ext.trans h2.ext, h1.blk.ext h2.ext, h2.blk, by omega, by omega⟩
theorem c_divisor {a b : Nat} : CallZ Tryz.prog 271 #[.int .u64 (a : Int), .int .u64 (b : Int)] w (fun v w' => v = .int .u64 (Nat.gcd a b : Int) ∧ Ext w w') := by
  refine fn_rule (args := [.int .u64 (a : Int), .int .u64 (b : Int)]) Tryz.func271 (by kernel_rfl) ?_; refine alloc (fun r w1 h1 => ?_); refine cE (fun h0 => ?_) (fun h0 => ?_)
  · refine st1 h1.blk rfl (fun w2 hb2 k2 => ?_); refine ret ?_; refine resL _ (holds_cell (hb2.cell rfl)) ?_; have e1 := h1.at_
    have : b = 0 := by omega
    subst this; rw [Nat.gcd_zero_right]; exact ⟨rfl, h1.ext.then k2 fun b hb _ e => by omega⟩
  · refine st1 h1.blk rfl (fun w2 hb2 k2 => ?_); have e1 := h1.at_
    have x2 : Ext w w2 := h1.ext.then k2 fun b hb _ e => by omega
    refine call_of c_remainders ?_; rintro _ w3 ⟨b1, b2, rfl, x3, g1, g2, hb1, hb12⟩; have z2 := hb2.lt; refine range (gf := 279) (lb := #[ptr b1, ptr b2]) rfl (fun fn tmps w4 R hR hF hwf x4 z4 hD4 hl4 => ?_); show CallZ _ _ #[.func (.yield (w3.heap.size + 1)) #[] #[], ptr b1, ptr b2] w4 _; have l1 := g1.lt; have l2 := g2.lt
    refine (c_remainders1 (D := fun x => x ≠ r ∧ x ≠ w3.heap.size + 1) (fun d w' => Kept (fun x => x ≠ r ∧ x ≠ b1 ∧ x ≠ b2 ∧ x ≠ w3.heap.size + 1) w4 w' ∧ LoopAt w' (w3.heap.size + 1) R ∧ Blk w' r 152 [.int .u64 (d : Int)]) (by omega)
      (fun d w5 w6 ⟨k5, l5, q5⟩ k6 => ⟨k5.then k6 fun _ _ h => ⟨h.2.1, h.2.2.1⟩, l5.kept k6 ⟨by omega, by omega⟩, q5.kept k6 ⟨by omega, by omega⟩⟩) ?_ ⟨by omega, by omega⟩ ⟨by omega, by omega⟩ (g1.ext x4) (g2.ext x4) (by omega) ⟨.refl _ _, hl4, (hb2.ext x3).ext x4⟩).mono ?_
    · rintro d x w5 ⟨k5, l5, q5⟩; subst hR; refine yield_rule (args := [.int .u64 (x : Int)]) l5 rfl rfl hF hwf ?_; refine mid' l5 (fun w6 k6 _ l6 => ?_); refine st1 (q5.kept k6 (by omega)) rfl (fun w7 q7 k7 => ?_); refine roundN' _ (l6.kept k7 (by omega)) (fun w8 k8 l8 => ?_); have kk : Kept (fun x => x ≠ r ∧ x ≠ w3.heap.size + 1) w5 w8 := ((k6.weak fun _ _ h => h.2).trans (k7.weak fun _ _ h => h.1)).trans (k8.weak fun _ _ h => h.2); exact ⟨rfl, ⟨k5.then kk fun _ _ h => ⟨h.1, h.2.2.2⟩, l8, q7.kept k8 (by omega)⟩, kk⟩
    · rintro v w5 ⟨k5, l5, q5⟩; subst hR; refine range_end _ l5 (by simp) (fun w6 k6 => ?_); have q6 := q5.kept k6 (by omega); refine ld _ (q6.cell rfl) ?_; refine st1 q6 rfl (fun w7 q7 k7 => ?_); have k47 : Kept (fun x => x ≠ r ∧ x ≠ b1 ∧ x ≠ b2 ∧ x ≠ w3.heap.size + 1) w4 w7 := (k5.then k6 fun _ _ h => h.2.2.2).then k7 fun _ _ h => h.1; have hD7 : w7.heap[w3.heap.size]? = some (.deferred (some [])) := (k47.blk _ (by omega) ⟨by omega, by omega, by omega, by omega⟩).trans hD4; refine retM hD7 ?_; have k8 := Kept.putObj w7 w3.heap.size (.deferred none); refine resL _ (holds_cell ((q7.kept k8 (by have := x3.size; omega)).cell rfl)) ?_; exact ⟨rfl, x2.then (((Ext.any (D := fun b => b < w.heap.size) (x3.trans x4)).then k47 (fun b _ h => ⟨by omega, by omega, by omega, by have := x2.size; have := x3.size; omega⟩)).then k8 (fun b _ h => by have := x2.size; have := x3.size; omega)) (fun b hb _ => hb)⟩
theorem c_qCheck {a : Q} : CallZ Tryz.prog 263 #[a.v] w (fun v w' => v = iv (qErr a) ∧ Ext w w') := by
  refine fn_rule (args := [.agg #[iv a.n, iv a.d]]) Tryz.func263 (by kernel_rfl) ?_; refine box (fun b w1 h1 => ?_)
  have bad : qValid a = false → iv 120 = iv (qErr a) := fun h => by unfold qErr; rw [h]; rfl
  have h := h1.blk; refine drawX [0, 1, 2, 3, 4, 5, 6, 7, 8, 9, 10, 11, 12, 13, 14, 15, 16, 17, 18, 19, 20, 21, 22, 23, 24, 25, 26, 27] [25] mx (by kernel_rfl) ?_; refine fldA ?_; refine ldX _ (h.cell rfl) (.refl _ _) ?_; refine cD (fun g1 => ?_) (fun g1 => ?_)
  · refine strS (.refl _ _) ?_; exact ret1 (iv 120) rfl ⟨bad (Bool.eq_false_iff.2 fun e => by have := qValid_iff.1 e; omega), h1.ext⟩
  refine fldA ?_; refine ldX _ (h.cell rfl) (.refl _ _) ?_; refine cD (fun g2 => ?_) (fun g2 => ?_)
  · refine strS (.refl _ _) ?_; exact ret1 (iv 120) rfl ⟨bad (Bool.eq_false_iff.2 fun e => by have := qValid_iff.1 e; omega), h1.ext⟩
  refine fldA ?_; refine ldX _ (h.cell rfl) (.refl _ _) ?_; refine cD (fun g3 => ?_) (fun g3 => ?_)
  · refine strS (.refl _ _) ?_; exact ret1 (iv 120) rfl ⟨bad (Bool.eq_false_iff.2 fun e => by have := qValid_iff.1 e; omega), h1.ext⟩
  refine fldA ?_; refine ldX _ (h.cell rfl) (.refl _ _) ?_; refine cD (fun g4 => ?_) (fun g4 => ?_)
  · refine strS (.refl _ _) ?_; exact ret1 (iv 120) rfl ⟨bad (Bool.eq_false_iff.2 fun e => by have := qValid_iff.1 e; omega), h1.ext⟩
  refine fldA ?_; refine ldX _ (h.cell rfl) (.refl _ _) ?_; refine callQ (v := .int .u64 (a.n.natAbs : Int)) (fun u _ => c_magnitude (by omega)) ?_; refine fldA ?_; refine ldX _ (h.cell rfl) (.refl _ _) ?_; refine convU (n := a.d.toNat) (by omega) (by omega) ?_; refine call_of c_divisor ?_; rintro _ w2 ⟨rfl, x2⟩; refine strS x2 ?_; refine cN (fun g5 => ?_) (fun g5 => ?_)
  · exact ret1 (iv 120) rfl ⟨bad (Bool.eq_false_iff.2 fun e => by have := qValid_iff.1 e; omega), h1.ext.trans x2⟩
  · refine ret1 (iv 0) rfl ⟨?_, h1.ext.trans x2⟩; unfold qErr; rw [qValid_iff.2 ⟨by omega, by omega, by omega, by omega, by omega⟩]; rfl
theorem qErr_ok {a : Q} : qErr a = 0 ↔ qValid a = true := by unfold qErr; cases qValid a <;> simp
theorem c_qCmp {a b : Q} : CallZ Tryz.prog 253 #[a.v, b.v] w (fun v w' => v = .tuple #[iv (qCmp a b).1, iv (qCmp a b).2] ∧ Ext w w') := by
  refine fn_rule (args := [.agg #[iv a.n, iv a.d], .agg #[iv b.n, iv b.d]]) Tryz.func253 (by kernel_rfl) ?_; refine box (fun ga w1 h1 => ?_); refine box (fun gb w2 h2 => ?_); have x2 := h1.ext.trans h2.ext; have ba := h1.blk.ext h2.ext; refine ldA [_, _] (.blk ba) rfl ?_; refine call_of (c_qCheck (a := a)) ?_; rintro _ w3 ⟨rfl, x3⟩; refine cN (fun g1 => ?_) (fun g1 => ?_)
  · refine ret2 (iv 0) (iv 120) rfl rfl ⟨?_, x2.trans x3⟩; have : qValid a = false := Bool.eq_false_iff.2 fun e => g1 (qErr_ok.2 e); unfold qCmp; rw [this]; rfl
  refine ldA [_, _] (.blk (h2.blk.ext x3)) rfl ?_; refine call_of (c_qCheck (a := b)) ?_; rintro _ w4 ⟨rfl, x4⟩; have ha := qErr_ok.1 g1; have x24 := x3.trans x4; refine cN (fun g2 => ?_) (fun g2 => ?_)
  · refine ret2 (iv 0) (iv 120) rfl rfl ⟨?_, x2.trans x24⟩; have : qValid b = false := Bool.eq_false_iff.2 fun e => g2 (qErr_ok.2 e); unfold qCmp; rw [ha, this]; rfl
  have hb := qErr_ok.1 g2; have va := qValid_iff.1 ha; have vb := qValid_iff.1 hb; have p1 := prod_lt (x := a.n) (y := b.d) (by omega) (by omega); have p2 := prod_lt (x := b.n) (y := a.d) (by omega) (by omega); have ba4 := ba.ext x24; have bb4 := h2.blk.ext x24; refine fldA ?_; refine ld _ (ba4.cell rfl) ?_; refine fldA ?_; refine ld _ (bb4.cell rfl) ?_; refine arI (by omega) ?_; refine fldA ?_; refine ld _ (bb4.cell rfl) ?_; refine fldA ?_; refine ld _ (ba4.cell rfl) ?_; refine arI (by omega) ?_; refine call_of c_Compare ?_; rintro _ _ ⟨rfl, rfl⟩; refine ret2 (iv (cmpI (a.n * b.d) (b.n * a.d))) (iv 0) rfl rfl ⟨?_, x2.trans x24⟩; unfold qCmp; rw [ha, hb]; rfl
end
structure Rg where
  lo : Int
  hi : Int
deriving DecidableEq
abbrev Rg.v (x : Rg) : Value := .agg #[iv x.lo, iv x.hi]
structure Reach where
  name : ByteArray
  up : Int
  delay : Int
  cap : Int
  bank : Int
  siphon : Int
  evap : Rg
  s0 : Q
  s1 : Q
abbrev Reach.c (r : Reach) : List Value := [.string r.name, iv r.up, iv r.delay, iv r.cap, iv r.bank, iv r.siphon, iv r.evap.lo, iv r.evap.hi, iv r.s0.n, iv r.s0.d, iv r.s1.n, iv r.s1.d]
abbrev Reach.v (r : Reach) : Value := .agg #[.string r.name, iv r.up, iv r.delay, iv r.cap, iv r.bank, iv r.siphon, iv r.evap.lo, iv r.evap.hi, iv r.s0.n, iv r.s0.d, iv r.s1.n, iv r.s1.d]
abbrev pairQ (a b : Q) : Value := .agg #[iv a.n, iv a.d, iv b.n, iv b.d]
def inI (n lo hi : Int) : Bool := decide (lo ≤ n) && decide (n ≤ hi)
theorem inI_iff {n lo hi : Int} : inI n lo hi = true ↔ lo ≤ n ∧ n ≤ hi := by unfold inI; simp
theorem inI_not {n lo hi : Int} : inI n lo hi = false ↔ ¬ (lo ≤ n ∧ n ≤ hi) := by rw [← inI_iff]; simp
def shareQ (a : Q) : Bool := qValid a && inI a.n 0 a.d
def sharesQ (a b : Q) : Bool := shareQ a && (shareQ b && decide (a.n * b.d ≤ b.n * a.d))
def rgOk (x : Rg) (most : Int) : Bool := decide (0 ≤ x.lo) && (decide (x.lo ≤ x.hi) && decide (x.hi ≤ most))
theorem rgOk_iff {x : Rg} {most : Int} : rgOk x most = true ↔ 0 ≤ x.lo ∧ x.lo ≤ x.hi ∧ x.hi ≤ most := by unfold rgOk; simp
def lossOk (r : Reach) : Bool := rgOk r.evap 1073741824 && sharesQ r.s0 r.s1
theorem shareQ_iff {a : Q} : shareQ a = true ↔ qValid a = true ∧ 0 ≤ a.n ∧ a.n ≤ a.d := by unfold shareQ; rw [Bool.and_eq_true, inI_iff]
theorem sharesQ_iff {a b : Q} : sharesQ a b = true ↔ shareQ a = true ∧ shareQ b = true ∧ a.n * b.d ≤ b.n * a.d := by unfold sharesQ; simp
theorem lossOk_iff {r : Reach} : lossOk r = true ↔ (0 ≤ r.evap.lo ∧ r.evap.lo ≤ r.evap.hi ∧ r.evap.hi ≤ 1073741824) ∧ sharesQ r.s0 r.s1 = true := by unfold lossOk; rw [Bool.and_eq_true, rgOk_iff]
theorem CellsAt.mid {w : World} {b o : Nat} {cs : List Value} (h : CellsAt w b o cs) (k n : Nat) : CellsAt w b (o + k) ((cs.drop k).take n) := fun j v hv => by
  rw [List.getElem?_take] at hv
  split at hv
  · rw [List.getElem?_drop] at hv
    have := h _ _ hv
    rwa [Nat.add_assoc]
  · cases hv
def tFl {α : Type} (n : Nat) (c : α → List Value) (hl : ∀ x, (c x).length = n) : Ty α where
  sz := n
  rep _ _ cs x := cs = c x
  len h := by rw [h]; exact hl _
  keep _ h := h
  more _ h := h
structure Farm where
  name : ByteArray
  reach : Int
  area : Int
  crop : Int
abbrev Farm.c (x : Farm) : List Value := [.string x.name, iv x.reach, iv x.area, iv x.crop]
structure Crop where
  name : ByteArray
  need : Int
abbrev Crop.c (x : Crop) : List Value := [.string x.name, iv x.need]
structure Right where
  name : ByteArray
  kind : Int
  farm : Int
  reach : Int
  rank : Int
  litres : Int
  frm : Int
  to : Int
  every : Int
  length : Int
abbrev Right.c (x : Right) : List Value := [.string x.name, iv x.kind, iv x.farm, iv x.reach, iv x.rank, iv x.litres, iv x.frm, iv x.to, iv x.every, iv x.length]
structure Duty where
  name : ByteArray
  farm : Int
  reach : Int
  due : Int
abbrev Duty.c (x : Duty) : List Value := [.string x.name, iv x.farm, iv x.reach, iv x.due]
structure Well where
  farm : Int
  reach : Int
  d : Int
  kernel : List Int
def tReach : Ty Reach := tFl 12 Reach.c fun _ => rfl
def tFarm : Ty Farm := tFl 4 Farm.c fun _ => rfl
def tCrop : Ty Crop := tFl 2 Crop.c fun _ => rfl
def tRight : Ty Right := tFl 10 Right.c fun _ => rfl
def tDuty : Ty Duty := tFl 4 Duty.c fun _ => rfl
def tWell : Ty Well := tMap (tPair tInt (tPair tInt (tPair tInt (tSl tInt)))) fun x => (x.farm, x.reach, x.d, x.kernel)
structure Dist where
  name : ByteArray
  hours : Int
  cap : Int
  start : Int
  reaches : List Reach
  farms : List Farm
  crops : List Crop
  rights : List Right
  duties : List Duty
  wells : List Well
structure DiR (D : Nat → Prop) (w : World) (cs : List Value) (d : Dist) : Prop where
  of_ ::
  ex : ∃ A1 n1 c1 A2 n2 c2 A3 n3 c3 A4 n4 c4 A5 n5 c5 A6 n6 c6, cs = [.string d.name, iv d.hours, iv d.cap, iv d.start, .slice A1 n1 c1, .slice A2 n2 c2, .slice A3 n3 c3, .slice A4 n4 c4, .slice A5 n5 c5, .slice A6 n6 c6] ∧
    SlR tReach D w A1 n1 d.reaches ∧ SlR tFarm D w A2 n2 d.farms ∧ SlR tCrop D w A3 n3 d.crops ∧ SlR tRight D w A4 n4 d.rights ∧ SlR tDuty D w A5 n5 d.duties ∧ SlR tWell D w A6 n6 d.wells
theorem DiR.keep {D : Nat → Prop} {w w' : World} {cs : List Value} {d : Dist} (hk : ∀ b, b < w.heap.size → D b → w'.heap[b]? = w.heap[b]?) (h : DiR D w cs d) : DiR D w' cs d := by
  obtain ⟨A1, n1, c1, A2, n2, c2, A3, n3, c3, A4, n4, c4, A5, n5, c5, A6, n6, c6, h, h1, h2, h3, h4, h5, h6⟩ := h.ex; exact ⟨A1, n1, c1, A2, n2, c2, A3, n3, c3, A4, n4, c4, A5, n5, c5, A6, n6, c6, h, h1.keep hk, h2.keep hk, h3.keep hk, h4.keep hk, h5.keep hk, h6.keep hk⟩
theorem DiR.kept {D D' : Nat → Prop} {w w' : World} {cs : List Value} {d : Dist} (h : DiR D w cs d) (k : Kept D' w w') (hd : ∀ b, b < w.heap.size → D b → D' b) : DiR D w' cs d := h.keep fun b hb hD => k.blk b hb (hd b hb hD)
theorem DiR.ext {D : Nat → Prop} {w w' : World} {cs : List Value} {d : Dist} (h : DiR D w cs d) (k : Ext w w') : DiR D w' cs d := h.kept k fun _ _ _ => trivial
def risingL : List Int → Bool
  | a :: b :: l => decide (a ≤ b) && risingL (b :: l)
  | _ => true
theorem rising3 {a b c : Int} : risingL [a, b, c] = inI b a c := by unfold risingL risingL risingL inI; rw [Bool.and_true]
def reachOk (x : Reach) : Bool := inI x.delay 1 16 && (inI x.cap 0 1073741824 && (inI x.bank 0 1099511627776 && (inI x.siphon 0 (min x.cap x.bank) && lossOk x)))
theorem reachOk_iff {x : Reach} : reachOk x = true ↔ (1 ≤ x.delay ∧ x.delay ≤ 16) ∧ (0 ≤ x.cap ∧ x.cap ≤ 1073741824) ∧ (0 ≤ x.bank ∧ x.bank ≤ 1099511627776) ∧ (0 ≤ x.siphon ∧ x.siphon ≤ min x.cap x.bank) ∧ lossOk x = true := by
  unfold reachOk; simp only [Bool.and_eq_true, inI_iff]
def upOk (i : Nat) (up : Int) : Bool := if i = 0 then decide (up = -1) else inI up 0 ((i : Int) - 1)
section
variable {D : Nat → Prop} {w : World}
theorem c_eindex {i n : Int} : CallZ Tryz.prog 190 #[iv i, iv n] w (fun v w' => v = .bool (inI i 0 (n - 1)) ∧ w' = w) := by
  refine fn_rule (args := [iv i, iv n]) Tryz.func190 (by kernel_rfl) ?_; refine cD (fun g => ?_) (fun g => ?_)
  · refine cD (fun g2 => ?_) (fun g2 => ?_)
    · exact ret1 (.bool true) rfl ⟨by rw [inI_iff.2 (by omega)], rfl⟩
    · exact ret1 (.bool false) rfl ⟨by rw [inI_not.2 (by omega)], rfl⟩
  · exact ret1 (.bool false) rfl ⟨by rw [inI_not.2 (by omega)], rfl⟩
theorem c_eshare {a b : Q} : CallZ Tryz.prog 231 #[pairQ a b] w (fun v w' => v = .bool (sharesQ a b) ∧ Ext w w') := by
  refine fn_rule (args := [.agg #[iv a.n, iv a.d, iv b.n, iv b.d]]) Tryz.func231 (by kernel_rfl) ?_; refine box (fun g w1 h1 => ?_); have hc := CellsAt.blk h1.blk; refine idxR 0 rfl (by decide) ?_; refine ldA [iv a.n, iv a.d] (hc.mid 0 2) rfl ?_; refine idxR 1 rfl (by decide) ?_; refine ldA [iv b.n, iv b.d] (hc.mid 2 2) rfl ?_; refine call_of (c_qCmp (a := a) (b := b)) ?_; rintro _ w2 ⟨rfl, x2⟩; have b2 := h1.blk.ext x2; have x := h1.ext.trans x2
  have hs : sharesQ a b = true ↔ qValid a = true ∧ qValid b = true ∧ 0 ≤ a.n ∧ a.n * b.d ≤ b.n * a.d ∧ b.n ≤ b.d := by
    rw [sharesQ_iff, shareQ_iff, shareQ_iff]; refine ⟨fun ⟨⟨h1, h2, h3⟩, ⟨h4, h5, h6⟩, h7⟩ => ⟨h1, h4, h2, h7, h6⟩, fun ⟨h1, h4, h2, h7, h6⟩ => ?_⟩; have d1 := (qValid_iff.1 h1).1; have d2 := (qValid_iff.1 h4).1
    have hb : 0 ≤ b.n := by
      have : 0 ≤ b.n * a.d := Int.le_trans (Int.mul_nonneg h2 (by omega)) h7
      exact Int.not_lt.1 fun hn => by have := Int.mul_neg_of_neg_of_pos hn (show 0 < a.d by omega); omega
    have ha : a.n ≤ a.d := Int.not_lt.1 fun hn => by
      have e1 : b.n * a.d ≤ b.d * a.d := Int.mul_le_mul_of_nonneg_right h6 (by omega); have e2 : a.d * b.d < a.n * b.d := Int.mul_lt_mul_of_pos_right hn (by omega); rw [Int.mul_comm b.d] at e1; omega
    exact ⟨⟨h1, h2, ha⟩, ⟨h4, hb, h6⟩, h7⟩
  have bad : ¬ (qValid a = true ∧ qValid b = true ∧ 0 ≤ a.n ∧ a.n * b.d ≤ b.n * a.d ∧ b.n ≤ b.d) → Value.bool false = .bool (sharesQ a b) := fun h => by rw [show sharesQ a b = false from Bool.eq_false_iff.2 fun e => h (hs.1 e)]
  by_cases hv : qValid a = true ∧ qValid b = true
  · have hC : qCmp a b = (cmpI (a.n * b.d) (b.n * a.d), 0) := by unfold qCmp; rw [hv.1, hv.2]; rfl
    have hcmp : cmpI (a.n * b.d) (b.n * a.d) ≤ 0 ↔ a.n * b.d ≤ b.n * a.d := by unfold cmpI; split <;> (try split) <;> omega
    rw [hC]; refine cE (fun _ => ?_) (fun h => absurd rfl h); refine idxR 0 rfl (by decide) ?_; refine fldA ?_; refine ld (iv a.n) (b2.cell rfl) ?_; refine cD (fun g1 => ?_) (fun g1 => ?_)
    · refine cD (fun g2 => ?_) (fun g2 => ?_)
      · refine idxR 1 rfl (by decide) ?_; refine fldA ?_; refine ld (iv b.n) (b2.cell rfl) ?_; refine idxR 1 rfl (by decide) ?_; refine fldA ?_; refine ld (iv b.d) (b2.cell rfl) ?_; refine cD (fun g3 => ?_) (fun g3 => ?_)
        · exact ret1 (.bool true) rfl ⟨by rw [hs.2 ⟨hv.1, hv.2, g1, hcmp.1 g2, g3⟩], x⟩
        · exact ret1 (.bool false) rfl ⟨bad fun h => g3 h.2.2.2.2, x⟩
      · exact ret1 (.bool false) rfl ⟨bad fun h => g2 (hcmp.2 h.2.2.2.1), x⟩
    · exact ret1 (.bool false) rfl ⟨bad fun h => g1 h.2.2.1, x⟩
  · have hC : qCmp a b = (0, 120) := by unfold qCmp; rw [if_neg (by simpa using hv)]
    rw [hC]; refine cE (fun h => absurd h (by decide)) (fun _ => ?_); exact ret1 (.bool false) rfl ⟨bad fun h => hv ⟨h.1, h.2.1⟩, x⟩
end
end Go.Proofs.YtehcphboliofaaaGreatDoor
