/- Parts of the proof: Vi Vj Vk Vl Vm Vn Vp Vq Vr Vs Vt Vu Vy Vv. -/
import Derived.Test.YtehcphboliofaaaGreatDoorPT2
import Derived.Laws.BitsAllLaws
import Derived.Laws.BitsLemmas
import Derived.Laws.Tables
import Derived.MapKept
import Derived.RangeFuncRecord
import Derived.OpenShut
import Derived.SizedLaws
import Derived.Below
import Derived.Carry
import Derived.ChangeSame
import Derived.ChangeKeysEq
import Derived.Laws.StructEq
import Derived.RecoverIn
import Derived.Laws.AppendOwn
import Derived.Maps.RangeRun
namespace Go.Proofs.YtehcphboliofaaaGreatDoor
open Go Go.RowKit
theorem ofInt_i64 (a : Nat) (ha : a < 9223372036854775808) : (BitVec.ofInt 64 (a : Int)).toNat = a := by
  rw [BitVec.ofInt_natCast, BitVec.toNat_ofNat]; exact Nat.mod_eq_of_lt (by omega)
theorem i64_xor_nat (a b : Nat) (ha : a < 9223372036854775808) (hb : b < 9223372036854775808) : bits .xor .i64 (a : Int) (b : Int) = ((a ^^^ b : Nat) : Int) := by
  have hx : a ^^^ b < 2 ^ 63 := Nat.xor_lt_two_pow (by omega) (by omega); show IntKind.i64.wrap ((BitVec.ofInt 64 (a : Int) ^^^ BitVec.ofInt 64 (b : Int)).toNat : Int) = _; rw [BitVec.toNat_xor, ofInt_i64 a ha, ofInt_i64 b hb, IntKind.wrap_i64]; omega
theorem u64_wrap (n : Int) : IntKind.u64.wrap n = n % 18446744073709551616 := by
  simp [IntKind.wrap, IntKind.bits, IntKind.signed]
theorem u64_and_nat (a b : Nat) (ha : a < 18446744073709551616) (hb : b < 18446744073709551616) : bits .and .u64 (a : Int) (b : Int) = ((a &&& b : Nat) : Int) := by
  have hx : a &&& b < 2 ^ 64 := Nat.and_lt_two_pow _ (by omega); show IntKind.u64.wrap ((BitVec.ofInt 64 (a : Int) &&& BitVec.ofInt 64 (b : Int)).toNat : Int) = _
  have e : ∀ n : Nat, n < 18446744073709551616 → (BitVec.ofInt 64 (n : Int)).toNat = n := fun n hn => by rw [BitVec.ofInt_natCast, BitVec.toNat_ofNat]; exact Nat.mod_eq_of_lt (by omega)
  rw [BitVec.toNat_and, e a ha, e b hb, u64_wrap]; omega
section
variable {K : Value → Prop}
theorem shrV {a : Nat} {x : Int} (k : ∀ c : Nat, c = a >>> x.toNat → K (.int .i64 (c : Int))) (hx : 0 ≤ x ∧ x < 64 := by omega) : ShrP .i64 (a : Int) x K := by
  rw [ShrP_eq]; refine ⟨hx.1, ?_⟩
  have e1 : (a : Int).fdiv (2 ^ (min x.toNat IntKind.i64.bits)) = ((a >>> x.toNat : Nat) : Int) := by
    rw [show min x.toNat IntKind.i64.bits = x.toNat from by simp [IntKind.bits]; omega]
    have : ((2 : Int) ^ x.toNat) = ((2 ^ x.toNat : Nat) : Int) := by simp
    rw [this, Nat.shiftRight_eq_div_pow, Int.fdiv_eq_ediv_of_nonneg _ (Int.natCast_nonneg _)]
    rfl
  rw [e1]; exact k _ rfl
end
section
variable {P : Program} {X : XK}
theorem callB {f : FuncId} [h : Enters P f] {args : Array Value} {w : World} {K : VK} {b : Bool} (c : CallZ P f args w (fun v w' => v = .bool b ∧ w' = w)) (k1 : b = true → K (.bool true) w) (k2 : b = false → K (.bool false) w) : CallP P f args K X w :=
  call_of c fun v w' ⟨e1, e2⟩ => by
    subst e1; subst e2
    cases b with
    | true => exact k1 rfl
    | false => exact k2 rfl
theorem callQB {S : World → Prop} {f : FuncId} [h : Enters P f] {args : Array Value} {K : Value → Prop} {b : Bool} (c : ∀ w, S w → CallZ P f args w (fun u w' => u = .bool b ∧ w' = w)) (k1 : b = true → K (.bool true)) (k2 : b = false → K (.bool false)) : CallQ P S f args K :=
  callQ (v := .bool b) c (by
    cases b with
    | true => exact k1 rfl
    | false => exact k2 rfl)
theorem callE {f : FuncId} [h : Enters P f] {args : Array Value} {w : World} {K : VK} {b : Bool} (c : CallZ P f args w (fun v w' => v = .bool b ∧ Ext w w')) (k1 : ∀ w', b = true → Ext w w' → K (.bool true) w') (k2 : ∀ w', b = false → Ext w w' → K (.bool false) w') : CallP P f args K X w :=
  call_of c fun v w' ⟨e1, e2⟩ => by
    subst e1
    cases b with
    | true => exact k1 w' rfl e2
    | false => exact k2 w' rfl e2
theorem ldAX {t : TypeId} {n : Nat} [AggTy P t n] {w0 w : World} {b o : Nat} (cs : List Value) {K : Value → Prop} (hc : CellsAt w b o cs) (hn : cs.length = n) (hx : Ext w w0) (k : K (.agg cs.toArray)) : LoadG P (fun u => Ext w0 u) t (.pointer (some (ad b o))) K :=
  ldAS cs (fun _ hu => hc.kept (hx.ext hu) trivial) hn k
theorem CellsAt.blk {w : World} {g : Nat} {t : TypeId} {cs : List Value} (h : Blk w g t cs) : CellsAt w g 0 cs := fun j v hv => by rw [Nat.zero_add]; exact h.cell hv
theorem run_equalB {t : TypeId} [h : BoolTy P t] (a b : Bool) (w : World) : (Op.equal t (.bool a) (.bool b)).run P w = .ok (a == b) w := by
  have hu : P.underlying t = some .bool := by have := h.h; unfold isBoo at this; split at this <;> simp_all
  unfold Op.equal; rw [show Op.maxDepth = (Op.maxDepth - 1) + 1 from rfl]; rw [Op.equalIn, Sem.run_bind, run_underlying hu]
  rfl
theorem run_neB {t : TypeId} [BoolTy P t] (xo yo : Operand) (a b : Bool) (w : World) : (do eqGuard .neq t xo yo (.bool a) (.bool b); binOp .neq t (.bool a) (.bool b) : Sem Value).run P w = .ok (.bool (!(a == b))) w := by
  have h1 : (eqGuard .neq t xo yo (.bool a) (.bool b)).run P w = .ok () w := rfl; have h2 : binOp .neq t (.bool a) (.bool b) = (do pure (.bool (!(← Op.equal t (.bool a) (.bool b))))) := rfl; rw [Sem.run_bind, h1, h2]; simp only [Result.andThen_ok, Sem.run_bind, run_equalB, Sem.run_pure]
theorem neB {t : TypeId} [h : BoolTy P t] {xo yo : Operand} {a b : Bool} {K : Value → Prop} (k1 : a ≠ b → K (.bool true)) (k2 : a = b → K (.bool false)) : BinP P .neq t xo yo (.bool a) (.bool b) K := by
  rw [BinP_eq]; refine pure_vval (fun w => run_neB xo yo a b w) ?_
  by_cases e : a = b
  · subst e; rw [beq_self_eq_true]; exact k2 rfl
  · rw [beq_eq_false_iff_ne.2 e]; exact k1 e
theorem bld {t : TypeId} {ps : Array (Nat × Value)} {K : Value → Prop} (cs : List Value) (h : P.built t ps.toList = some cs.toArray) (k : K (.agg cs.toArray)) : BldP P t ps K := by
  rw [BldP_eq]; exact pure_vval (fun w => run_build w t ps cs.toArray h) k
theorem ldK {t : TypeId} [CellTy P t] {D : Nat → Prop} {w0 w : World} {a : Addr} (v : Value) {K : Value → Prop} (hc : w.cell? a = some v) (hD : D a.block) (hx : Kept D w w0) (k : K v) : LoadG P (fun u => Kept D w0 u) t (.pointer (some a)) K :=
  ldS v (fun _ hu => (hx.trans hu).cell hc hD) k
theorem ldAK {t : TypeId} {n : Nat} [AggTy P t n] {D : Nat → Prop} {w0 w : World} {b o : Nat} (cs : List Value) {K : Value → Prop} (hc : CellsAt w b o cs) (hn : cs.length = n) (hD : D b) (hx : Kept D w w0) (k : K (.agg cs.toArray)) : LoadG P (fun u => Kept D w0 u) t (.pointer (some (ad b o))) K :=
  ldAS cs (fun _ hu => hc.kept (hx.trans hu) hD) hn k
theorem arrOf_spec {t e : TypeId} {n sz : Nat} (h : arrOf P t = some (n, e, sz)) : P.underlying t = some (.array n e) ∧ ∃ i, P.info? e = some i ∧ i.size = sz := by
  unfold arrOf at h
  split at h
  · rename_i n' e' he
    cases hi : P.info? e' with
    | none => rw [hi] at h; cases h
    | some i => rw [hi] at h; simp at h; obtain ⟨rfl, rfl, rfl⟩ := h; exact ⟨he, i, hi, rfl⟩
  · cases h
theorem idxR {t e : TypeId} {n sz : Nat} [h : ArrTy P t n e sz] {b o : Nat} {kd : IntKind} {i : Int} {K : Value → Prop} (k : Nat) (hi : i = k) (hk : k < n) (kk : K (.pointer (some (ad b (o + k * sz))))) :
    IdxAP P t (.pointer (some (ad b o))) (.int kd i) K := by
  rw [IdxAP_eq]; obtain ⟨hu, inf, hinf, hs⟩ := arrOf_spec h.h; subst hi; refine pure_vval (fun w => ?_) kk; simp [Instr.indexAt, asIntOf, run_underlying hu, run_sizeOf hinf, hs, add_ad, hk, Instr.sureAddr]
theorem idxVc {t e : TypeId} {n sz : Nat} [h : ArrTy P t n e sz] [he : CellTy P e] {cs : List Value} {kd : IntKind} {i : Int} {K : Value → Prop} (k : Nat) (v : Value) (hi : i = k) (hk : k < n) (hv : cs[k * sz]? = some v) (kk : K v) :
    IdxVP P t (.agg cs.toArray) (.int kd i) K := by
  rw [IdxVP_eq]; obtain ⟨hu, inf, hinf, hs⟩ := arrOf_spec h.h; subst hi; refine pure_vval (fun w => ?_) kk; simp [Instr.index, asIntOf, run_underlying hu, run_sizeOf hinf, hs, part, run_isAgg_cell he, hk, hv]
structure OwnF (w0 w : World) (A : Option Addr) (n c : Nat) (e : TypeId) (sz : Nat) (cs : List Value) : Prop where
  own : Own w (.slice A n c) e sz n cs
  ext : Ext w0 w
  new : ∀ g, A = some (ad g 0) → w0.heap.size ≤ g
theorem OwnF.nil {w0 w : World} {e : TypeId} {sz : Nat} (h : Ext w0 w) : OwnF w0 w none 0 0 e sz [] := ⟨Own.nil w e sz, h, fun g hg => by cases hg⟩
theorem OwnF.lit {w0 w w' : World} {e : TypeId} {sz g n : Nat} {cs : List Value} (h : Ext w0 w) (hb : NewB w e cs g w') (hl : cs.length = n * sz) (hn : n ≤ maxLen := by decide) : OwnF w0 w' (some (ad g 0)) n n e sz cs :=
  ⟨Own.of_blk (rest := []) (by simpa using hb.blk) hl (by simpa using hl) (Nat.le_refl _) hn, h.trans hb.ext, fun g' hg => by simp only [Option.some.injEq, Addr.mk.injEq] at hg; rw [← hg.1, hb.at_]; exact h.size⟩
theorem OwnF.then {w0 w w' : World} {A : Option Addr} {n c : Nat} {e : TypeId} {sz : Nat} {cs : List Value} (h : OwnF w0 w A n c e sz cs) (k : Ext w w') : OwnF w0 w' A n c e sz cs := ⟨h.own.ext k, h.ext.trans k, h.new⟩
theorem OwnF.thenK {w0 w w' : World} {D : Nat → Prop} {A : Option Addr} {n c : Nat} {e : TypeId} {sz : Nat} {cs : List Value} (h : OwnF w0 w A n c e sz cs) (k : Kept D w w') (hD : ∀ g, A = some (ad g 0) → D g) (hx : Ext w0 w') : OwnF w0 w' A n c e sz cs :=
  ⟨h.own.kept k (fun g hg => by
    cases hA : A with
    | none => rw [hA] at hg; cases hg
    | some a =>
      rcases h.own.form with ⟨hv, _⟩ | ⟨g', cap, hv, _⟩
      · rw [hA] at hv; cases hv
      · injection hv with hv; subst hv; injection hg with hg; subst hg; exact hD _ rfl), hx, h.new⟩
theorem OwnF.base {v0 w0 w : World} {A : Option Addr} {n c : Nat} {e : TypeId} {sz : Nat} {cs : List Value} (h : OwnF w0 w A n c e sz cs) (k : Ext v0 w0) : OwnF v0 w A n c e sz cs := ⟨h.own, k.trans h.ext, fun g hg => Nat.le_trans k.size (h.new g hg)⟩
theorem OwnF.form {w0 w : World} {A : Option Addr} {n c : Nat} {e : TypeId} {sz : Nat} {cs : List Value} (h : OwnF w0 w A n c e sz cs) : (A = none ∧ n = 0 ∧ c = 0) ∨ ∃ g, A = some (ad g 0) ∧ w0.heap.size ≤ g ∧ g < w.heap.size ∧ n ≤ c := by
  rcases h.own.form with ⟨hv, h0⟩ | ⟨g', cap, hv, hc⟩
  · injection hv with h1 h2 h3; exact .inl ⟨h1, h2, h3⟩
  · injection hv with h1 h2 h3; subst h3; exact .inr ⟨g', h1, h.new _ h1, h.own.lt (by rw [h1]; rfl), hc⟩
theorem OwnF.le {w0 w : World} {A : Option Addr} {n c : Nat} {e : TypeId} {sz : Nat} {cs : List Value} (h : OwnF w0 w A n c e sz cs) : n ≤ c := by
  rcases h.form with ⟨_, h1, h2⟩ | ⟨_, _, _, _, h4⟩
  · omega
  · exact h4
theorem appF {t e : TypeId} {sz by_ : Nat} {zv : Value} [h : SliceTy P t e sz] [hz : ZeroTy P e zv] [hby : BytesTy P e by_] {ty : TypeId} {cst : Array Bool} {n m c c2 : Nat} {A B : Option Addr} {cs news : List Value} {w0 w : World} {K : VK}
    (hown : OwnF w0 w A n c e sz cs) (hs : Src w B m sz news) (hb : (n + m) * by_ ≤ 140737488355328)
    (kk : ∀ A' c' w', OwnF w0 w' A' (n + m) c' e sz (cs ++ news) → Kept (fun b => A ≠ some (ad b 0)) w w' → (A' = A ∨ A' = none ∨ A' = some (ad w.heap.size 0)) → K (.slice A' (n + m) c') w')
    (h63 : n + m ≤ 9223372036854775807 := by omega) (h1 : (news.all fun u => u.oneCell') = true := by rfl) (hzs : (cellsL zv).length = sz := by rfl) (hpos : Nat.blt 0 sz = true := by rfl) : BuiP P .append #[t, t] ty cst #[.slice A n c, .slice B m c2] K X w := by
  refine app hown.own hs (fun u hu => List.all_eq_true.1 h1 u hu) hzs (Nat.le_of_ble_eq_true hpos) hb h63 fun v' w' ha => ?_
  have hk : Kept (fun b => A ≠ some (ad b 0)) w w' := ha.kept.weak fun i _ hne e => by
    apply hne; rcases hown.form with ⟨hA, _⟩ | ⟨g', hA, _⟩
    · rw [hA] at e; cases e
    · rw [hA] at e ⊢; injection e with e; rw [← e]
  have hx : Ext w0 w' := ⟨hk.os.trans hown.ext.os, hk.tape.trans hown.ext.tape, hk.output.trans hown.ext.output, Nat.le_trans hown.ext.size hk.size, fun i hi _ => by
    rw [hk.blk i (Nat.lt_of_lt_of_le hi hown.ext.size) (fun e => by have := hown.new i e; omega)]
    exact hown.ext.blk i hi trivial⟩
  rcases ha.own.form with ⟨rfl, h0⟩ | ⟨g, cap, rfl, hc⟩
  · have hh := kk none 0 w' ⟨by have := ha.own; rw [h0] at this ⊢; exact this, hx, fun g hg => by cases hg⟩ hk (.inr (.inl rfl)); rw [h0] at hh; exact hh
  · have hg : A = some (ad g 0) ∨ g = w.heap.size := by
      rcases ha.at_ with h | h
      · left; rcases hown.form with ⟨hA, _⟩ | ⟨g', hA, _⟩
        · rw [hA] at h; cases h
        · rw [hA] at h; injection h with h; rw [hA]; have h : g = g' := h; rw [h]
      · right; injection h
    refine kk (some (ad g 0)) cap w' ⟨ha.own, hx, fun g' e' => ?_⟩ hk ?_
    · simp only [Option.some.injEq, Addr.mk.injEq] at e'; obtain ⟨rfl, _⟩ := e'; rcases hg with h | h
      · exact hown.new _ h
      · rw [h]; exact hown.ext.size
    · rcases hg with h | h
      · exact .inl h.symm
      · right; right; rw [h]
theorem lit {t e : TypeId} {sz : Nat} {zv : Value} [h : SliceTy P t e sz] [hz : ZeroTy P e zv] (vs : List Value) {n : Nat} {ps : Array (Nat × Value)} {w : World} {K : VK}
    (kk : ∀ g w', NewB w e (vs.flatMap cellsL) g w' → K (.slice (some (ad g 0)) n n) w')
    (hp : ps = ((vs.zipIdx 0).map fun p => (p.2, p.1)).toArray := by rfl) (hn : n = vs.length := by rfl) (hv : (vs.all fun v => Nat.beq (cellsL v).length sz) = true := by rfl) (hzs : (cellsL zv).length = sz := by rfl) (hbig : Nat.ble (vs.length * sz) 16777216 = true := by rfl) : BSlcP P t n ps K w :=
  bslc vs hp hn (fun v hvm => Nat.eq_of_beq_eq_true (List.all_eq_true.1 hv v hvm)) hzs (Nat.le_of_ble_eq_true hbig) kk
theorem NewB.src {w w' : World} {e : TypeId} {sz g n : Nat} {cs : List Value} (hb : NewB w e cs g w') (hl : cs.length = n * sz) : Src w' (some (ad g 0)) n sz cs :=
  ⟨hl, fun _ => ⟨g, 0, rfl, fun j v hv => by rw [Nat.zero_add]; exact hb.blk.cell hv⟩⟩
end
section
variable {P : Program}
def LoopAt (w : World) (l : Nat) (r : Loop) : Prop := w.heap[l]? = some (.loop r)
def updZ : Fr → List (Nat × Value) → Fr
  | F, [] => F
  | F, p :: r => updZ (upd F p.1 p.2) r
theorem fold_frame : ∀ (l : List (Nat × Value)) (tmps : Array Value) (F : Fr), (∀ t, tmps.getD t undef = F t) → (∀ p ∈ l, p.1 < tmps.size) →
    (l.foldl (fun (t : Array Value) (p : Nat × Value) => t.setIfInBounds p.1 p.2) tmps).size = tmps.size ∧ ∀ t, (l.foldl (fun (t : Array Value) (p : Nat × Value) => t.setIfInBounds p.1 p.2) tmps).getD t undef = updZ F l t
  | [], tmps, F, h, _ => ⟨rfl, h⟩
  | p :: l, tmps, F, h, hb => by
    have h1 : ∀ t, (tmps.setIfInBounds p.1 p.2).getD t undef = upd F p.1 p.2 t := fun t => by
      show _ = (bif Nat.beq t p.1 then p.2 else F t)
      cases hbq : Nat.beq t p.1 with
      | true => obtain rfl := Nat.eq_of_beq_eq_true hbq; simp [hb p List.mem_cons_self]
      | false =>
        have hne : p.1 ≠ t := fun e => by rw [← e, Nat.beq_refl] at hbq; cases hbq
        rw [← h t]; simp [Array.getElem?_setIfInBounds_ne hne]
    obtain ⟨h2, h3⟩ := fold_frame l (tmps.setIfInBounds p.1 p.2) (upd F p.1 p.2) h1 (fun q hq => by simpa using hb q (List.mem_cons_of_mem _ hq))
    exact ⟨by rw [List.foldl_cons, h2]; simp, fun t => by rw [List.foldl_cons, h3]; rfl⟩
structure RoundE (l : Nat) (K : VK) (e : Exit) (w : World) : Prop where
  of_ ::
  un_ : ∃ r, LoopAt w l r ∧ match e with
    | .normal => K (.bool true) (w.putObj l (.loop { r with state := .ready, pending := none }))
    | .ret => K (.bool false) (w.putObj l (.loop { r with state := .done, pending := some .ret }))
    | .exit id => K (.bool false) (w.putObj l (.loop { r with state := .done, pending := some (.exit id) }))
    | _ => False
theorem roundN {l : Nat} {K : VK} {w : World} (r : Loop) (h : LoopAt w l r) (k : K (.bool true) (w.putObj l (.loop { r with state := .ready, pending := none }))) : RoundE l K .normal w := ⟨r, h, k⟩
def Kround (l : Nat) (K : VK) : KK := fun e _ _ w => RoundE l K e w
structure MidP (P : Program) (l : Nat) (r : Loop) (K : VK) (F : Fr) (ds : List Deferred) (w : World) : Prop where
  of_ ::
  un_ : LoopAt w l r ∧ V P r.body (Kround l K) F ds (w.putObj l (.loop { r with state := .busy }))
def Kmid (P : Program) (l : Nat) (r : Loop) (K : VK) : KK := fun e F ds w => match e with | .normal => MidP P l r K F ds w | _ => False
theorem mid {l : Nat} {r : Loop} {K : VK} {F : Fr} {ds : List Deferred} {w : World} (h : LoopAt w l r) (k : V P r.body (Kround l K) F ds (w.putObj l (.loop { r with state := .busy }))) : MidP P l r K F ds w := ⟨h, k⟩
theorem yield_rule {l : Nat} {r : Loop} {g : Operand} {args : List Value} {K : VK} {w : World} {F : Fr} (hl : LoopAt w l r) (hr : r.state = .ready) (hsz : args.length = r.params.toList.length) (hF : ∀ t, r.tmps.getD t undef = F t)
    (hwf : wfC r.tmps.size (.rangeFunc g r.params r.assign r.body) = true)
    (h : V P r.assign (Kmid P l r K) (updZ F (r.params.toList.zip args)) [] w) : YieldP P l args.toArray K w := by
  rw [YieldP_eq]; intro w0 hw; subst hw; have hl0 : w0.heap[l]? = some (.loop r) := hl
  obtain ⟨⟨hw1, hw2⟩, hps⟩ : ((wfC r.tmps.size r.assign && wfC r.tmps.size r.body) = true ∧ (noRange r.assign && noRange r.body) = true) ∧ (r.params.toList.all fun t => Nat.blt t r.tmps.size) = true := by
    have := bothT hwf; exact ⟨bothT this.1, this.2⟩
  obtain ⟨hwa, hwb⟩ := bothT hw1; obtain ⟨hna, hnb⟩ := bothT hw2; rw [run_yield hl0 (by simpa using hsz)]; show RoundIn Fence.wide 0 P l r.fn _ r.assign r.body w0 _
  have hfold : ((r.params.zip args.toArray).foldl (fun tmps (t, a) => tmps.setIfInBounds t a) r.tmps) = (r.params.toList.zip args).foldl (fun (t : Array Value) (p : Nat × Value) => t.setIfInBounds p.1 p.2) r.tmps := by
    rw [← Array.foldl_toList, Array.toList_zip]
  have hlt : ∀ p ∈ r.params.toList.zip args, p.1 < r.tmps.size := fun p hp => by
    have := List.all_eq_true.1 hps p.1 (List.of_mem_zip hp).1
    simpa using this
  obtain ⟨f1, f2⟩ := fold_frame (r.params.toList.zip args) r.tmps F hF hlt; rw [hfold]; refine roundIn_of_wpIn (F := Fence.wide) trivial (wpIn_mono (V_sound (n := r.tmps.size) r.assign hwa (Kmid P l r K) _ [] w0 (some l) _ (.inr hna) ⟨f1, f2, rfl⟩ h) fun e a' w' hq => ?_); obtain ⟨F', hg', hk⟩ := hq
  cases e with
  | normal =>
    obtain ⟨⟨hl1, hbody⟩⟩ := hk; have hl1 : w'.heap[l]? = some (.loop r) := hl1; refine ⟨_, run_beginRound hl1 hr, ?_⟩; refine wpIn_mono (V_sound (n := r.tmps.size) r.body hwb (Kround l K) F' _ (w'.putObj l (.loop { r with state := .busy })) (some l) a' (.inr hnb) hg' hbody) fun e a2 w2 hq2 => ?_; obtain ⟨F2, _, ⟨⟨r2, hl2, hk2⟩⟩⟩ := hq2; have hl2 : w2.heap[l]? = some (.loop r2) := hl2
    cases e with
    | normal => exact ⟨_, _, run_endRound none hl2, _, rfl, hk2⟩
    | ret => exact ⟨_, _, run_endRound (some .ret) hl2, _, rfl, hk2⟩
    | exit id => exact ⟨_, _, run_endRound (some (.exit id)) hl2, _, rfl, hk2⟩
    | _ => exact hk2.elim
  | _ => exact hk.elim
def RangeE (K : KK) (F : Fr) (ds : List Deferred) (pending : Option Code) (w : World) : Prop := match pending with
  | none => K .normal F ds w
  | some .ret => K .ret F ds w
  | some (.exit id) => K (.exit id) F ds w
  | some _ => False
abbrev markD (w : World) : Deferred := { target := .collected w.heap.size, args := #[] }
abbrev loopR (w : World) (fn : FuncId) (tmps : Array Value) (ps : Array Tmp) (assign body : Code) : Loop := { state := .ready, pending := none, fn, tmps, params := ps, assign, body, defers := w.heap.size }
theorem range {g : Operand} {ps : Array Tmp} {assign body : Code} {K : KK} {F : Fr} {ds : List Deferred} {w : World} {gf : FuncId} {lb : Array Value} [he : Enters P gf] (hg : ev F g = .func (.func gf) #[] lb)
    (h : ∀ (fn : FuncId) (tmps : Array Value) (w1 : World) (R : Loop), R = loopR w fn tmps ps assign body → (∀ t, tmps.getD t undef = F t) → wfC tmps.size (.rangeFunc g ps assign body) = true → Ext w w1 → w1.heap.size = w.heap.size + 2 → w1.heap[w.heap.size]? = some (.deferred (some [])) →
      LoopAt w1 (w.heap.size + 1) R →
      CallZ P gf (#[.func (.yield (w.heap.size + 1)) #[] #[]] ++ lb) w1 (fun _ w2 => ∃ r, LoopAt w2 (w.heap.size + 1) r ∧ r.state ≠ .busy ∧ RangeE K F (markD w :: ds) r.pending (w2.putObj (w.heap.size + 1) (.loop { r with state := .exhausted })))) :
    RangeH P (.rangeFunc g ps assign body) K F ds w := by
  rw [RangeH_eq]; intro a w0 hw hF hd hwf; subst hw; subst hd; refine wpIn_rangeFunc (F := Fw none) (fun fn hfn => ?_)
  have hev : a.eval = ev F := funext fun x => by
    cases x with
    | tmp t => exact hF t
    | _ => rfl
  have hga : a.eval g = .func (.func gf) #[] lb := by rw [hev]; exact hg
  obtain ⟨W1, hW1⟩ : ∃ W1, W1 = (w0.alloc (.deferred (some []))).alloc (.loop (loopR w0 fn a.tmps ps assign body)) := ⟨_, rfl⟩; have hent := run_enterLoop_outer (P := P) (w := w0) fn a.tmps ps assign body; rw [← hW1] at hent; refine ⟨w0.heap.size + 1, [{ target := .collected w0.heap.size, args := #[] }], W1, { target := .fn (.func gf) lb, args := #[.func (.yield (w0.heap.size + 1)) #[] #[]] }, W1, gf, #[.func (.yield (w0.heap.size + 1)) #[] #[]] ++ lb, W1, hent, ?_, fun _ _ => trivial, ?_, fun hh => (by cases hh), ?_⟩
  · simp only [resolve, hga]; simp [go_sem]
  · simp [invoke, go_sem, he.h]
  · have h1 := h fn a.tmps (z W1) _ rfl hF hwf (by rw [hW1]; exact (Kept.alloc _ (z w0) _).trans (Kept.alloc _ _ _)) (by rw [hW1]; simp) (by
      rw [hW1]
      show ((w0.alloc (.deferred (some []))).alloc (.loop (loopR w0 fn a.tmps ps assign body))).heap[w0.heap.size]? = _
      rw [Below.heap_alloc _ _ _ (by simp)]
      exact World.alloc_heap_new w0 _) (by
      have := World.alloc_heap_new (w0.alloc (.deferred (some []))) (.loop (loopR w0 fn a.tmps ps assign body))
      rw [World.size_alloc, ← hW1] at this
      exact this)
    refine (h1 _ rfl).mono ?_; rintro e w3 ⟨v, rfl, r, hl, hb, hE⟩; have hl : w3.heap[w0.heap.size + 1]? = some (.loop r) := hl; refine ⟨r.pending, _, run_endLoop hl hb, ?_⟩
    cases hp : r.pending with
    | none => rw [hp] at hE; exact ⟨rfl, hE⟩
    | some c =>
      rw [hp] at hE
      cases c with
      | ret => exact wpIn_ret ⟨rfl, hE⟩
      | exit id => exact wpIn_exit ⟨rfl, hE⟩
      | _ => exact hE.elim
theorem retM {rs : List ResultVar} {F : Fr} {R : VK} {D : Nat} {w : World} (hD : w.heap[D]? = some (.deferred (some []))) (h : VRes P F (w.putObj D (.deferred none)) rs [] (fun vs => R (resV vs) (w.putObj D (.deferred none)))) : RetP P rs F [{ target := .collected D, args := #[] }] R w := by
  rw [RetP_eq]; refine ⟨_, ?_, h⟩; simp only [shutMarks, hD]
  rfl
theorem Kept.putObj (w : World) (l : Nat) (o : Obj) : Kept (fun b => b ≠ l) w (w.putObj l o) := ⟨rfl, rfl, rfl, by simp, fun i _ hD => World.putObj_heap_other hD⟩
theorem LoopAt.kept {D : Nat → Prop} {w w' : World} {l : Nat} {r : Loop} (h : LoopAt w l r) (k : Kept D w w') (hD : D l) : LoopAt w' l r := (k.blk l (Array.getElem?_eq_some_iff.1 h).1 hD).trans h
theorem LoopAt.put {w : World} {l : Nat} {r : Loop} (h : LoopAt w l r) (r' : Loop) : LoopAt (w.putObj l (.loop r')) l r' := World.putObj_heap_same (Array.getElem?_eq_some_iff.1 h).1
theorem mid' {l : Nat} {r : Loop} {K : VK} {F : Fr} {ds : List Deferred} {w : World} (h : LoopAt w l r) (k : ∀ w', Kept (fun b => b ≠ l) w w' → w'.heap.size = w.heap.size → LoopAt w' l { r with state := .busy } → V P r.body (Kround l K) F ds w') : MidP P l r K F ds w :=
  mid h (k _ (Kept.putObj _ _ _) (by simp) (h.put _))
theorem roundN' {l : Nat} {K : VK} {w : World} (r : Loop) (h : LoopAt w l r) (k : ∀ w', Kept (fun b => b ≠ l) w w' → LoopAt w' l { r with state := .ready, pending := none } → K (.bool true) w') : RoundE l K .normal w := roundN r h (k _ (Kept.putObj _ _ _) (h.put _))
theorem range_end {K : KK} {F : Fr} {ds : List Deferred} {l : Nat} {w : World} (r : Loop) (h : LoopAt w l r) (hs : r.state ≠ .busy) (k : ∀ w', Kept (fun b => b ≠ l) w w' → RangeE K F ds r.pending w') :
    ∃ r, LoopAt w l r ∧ r.state ≠ .busy ∧ RangeE K F ds r.pending (w.putObj l (.loop { r with state := .exhausted })) := ⟨r, h, hs, k _ (Kept.putObj _ _ _)⟩
end
abbrev AnyB : Nat → Prop := fun _ => True
structure RdN {α : Type} (P : Program) (n : Nat) (t : TypeId) (a : Ty α) : Prop where
  h : ∀ {H : Type} {enc : TypeId × Value → H} {W : World} {cs : List Value} {x : DataW H × List MemPlace}, DataW.trod enc P W 0 (fun _ => true) true n t cs = some x → (x.1.weights P t).all (· ≤ reachBytes) = true → ∃ y, a.rep AnyB W cs y
class Rd {α : Type} (P : Program) (t : TypeId) (a : Ty α) : Prop where
  h : ∀ n, RdN P n t a
section
variable {P : Program} {α β : Type} {a : Ty α} {b : Ty β}
theorem intOf_spec {t : TypeId} {k : IntKind} (h : intOf P t = some k) : P.underlying t = some (.int k) := by
  unfold intOf at h; split at h <;> simp_all
theorem isBoo_spec {t : TypeId} (h : isBoo P t = true) : P.underlying t = some .bool := by
  unfold isBoo at h; split at h <;> simp_all
instance rd_int {t : TypeId} [h : IntTy P t .i64] : Rd P t tInt := ⟨fun n => ⟨fun {H enc W cs x} hx _ => by
  obtain ⟨k, rfl, _, hw⟩ := DataW.trod_int (intOf_spec h.h) hx
  refine ⟨k, rfl, ?_⟩
  simp [Lit.wf, IntKind.min, IntKind.max, IntKind.signed, IntKind.bits] at hw
  unfold I64; omega⟩⟩
def tK (k : IntKind) : Ty Int where
  sz := 1
  rep _ _ cs x := cs = [.int k x] ∧ (Lit.int k x).wf = true
  len h := by rw [h.1]; rfl
  keep _ h := h
  more _ h := h
instance rd_k {t : TypeId} {k : IntKind} [h : IntTy P t k] : Rd P t (tK k) := ⟨fun n => ⟨fun {H enc W cs x} hx _ => by
  obtain ⟨z, rfl, _, hw⟩ := DataW.trod_int (intOf_spec h.h) hx
  exact ⟨z, rfl, hw⟩⟩⟩
instance rd_bool {t : TypeId} [h : BoolTy P t] : Rd P t tBool := ⟨fun n => ⟨fun {H enc W cs x} hx _ => by
  have key : ∃ bb, cs = [.bool bb] := by
    cases n with
    | zero => simp [DataW.trod] at hx
    | succ n =>
      unfold DataW.trod at hx
      rw [isBoo_spec h.h] at hx
      split at hx <;> simp_all
  exact key⟩⟩
theorem list_choose {Q : Nat → α → Prop} : ∀ (n : Nat), (∀ i, i < n → ∃ y, Q i y) → ∃ ys : List α, ys.length = n ∧ ∀ k y, ys[k]? = some y → Q k y
  | 0, _ => ⟨[], rfl, fun k y h => by simp at h⟩
  | n + 1, h => by
    obtain ⟨ys, h1, h2⟩ := list_choose n fun i hi => h i (by omega)
    obtain ⟨y, hy⟩ := h n (by omega)
    refine ⟨ys ++ [y], by simp [h1], fun k z hz => ?_⟩
    by_cases hk : k < n
    · rw [List.getElem?_append_left (by omega)] at hz; exact h2 k z hz
    · rw [List.getElem?_append_right (by omega)] at hz
      have : k = n := by
        have := (List.getElem?_eq_some_iff.1 hz).1
        simp at this; omega
      subst this
      simp [h1] at hz; subst hz; exact hy
theorem cells_at {w : World} {A : Addr} {n : Nat} {cs : List Value} (h : w.cells? 0 A n = some cs) : cs.length = n ∧ ∀ j v, cs[j]? = some v → w.cell? (A.add j) = some v := by
  unfold World.cells? at h; rw [if_pos (Nat.zero_le _)] at h; refine ⟨by simpa using mapM_some_length h, fun j v hv => ?_⟩; have hl := mapM_some_length h
  have hj : j < n := by have := (List.getElem?_eq_some_iff.1 hv).1; simp at hl; omega
  rw [mapM_some_get h j j (by simp [hj]), hv]
theorem weightsAll_mem {H : Type} {e : TypeId} : ∀ {l : List (DataW H)} {d : DataW H}, d ∈ l → (DataW.weightsAll P e l).all (· ≤ reachBytes) = true → (d.weights P e).all (· ≤ reachBytes) = true
  | x :: r, d, hd, h => by
    unfold DataW.weightsAll at h
    rw [List.all_append, Bool.and_eq_true] at h
    rcases List.mem_cons.1 hd with rfl | hd
    · exact h.1
    · exact weightsAll_mem hd h.2
theorem rd_slice {n : Nat} {t e : TypeId} {sz by_ : Nat} [hs : SliceTy P t e sz] [hb : BytesTy P e by_] (hpos : 0 < a.sz) (hr : RdN P n e a) (hby : 0 < by_) : RdN P (n + 1) t (tSl a hpos) := ⟨fun {H enc W cs x} hx hw => by
  obtain ⟨hu, i, hi, _⟩ := sliceOf_spec hs.h
  rcases DataW.trod_slice hu hx with ⟨rfl, rfl⟩ | ⟨A, len, cap, elems, rest, m, hm, rfl, rfl, _, hle, _, hlen, hel, hsp, _⟩
  · exact ⟨[], none, 0, 0, rfl, .nil, Nat.le_refl _⟩
  · obtain rfl : n = m := by omega
    dsimp only at hw
    rw [DataW.weights, hu] at hw
    dsimp only at hw
    rw [List.all_cons, Bool.and_eq_true, List.all_append, Bool.and_eq_true] at hw
    obtain ⟨hw1, hw2, _⟩ := hw
    have hbe : P.bytesOf e = by_ := by have := hb.h; unfold bytesOf at this; unfold Program.bytesOf; rw [this]; rfl
    rw [hbe, List.length_map, List.length_map, decide_eq_true_eq] at hw1
    have hbound : len ≤ 140737488355328 := by
      have h1 : len * 1 ≤ (elems.length + rest.length) * by_ := Nat.mul_le_mul (by omega) hby
      have h2 : reachBytes ≤ 140737488355328 := by decide
      omega
    have hel' : ∀ k, k < len → ∃ y, ∃ cs, W.cells? 0 (A.add (k * P.cellsOf e)) (P.cellsOf e) = some cs ∧ a.rep AnyB W cs y := fun k hk => by
      have h1 := hel k hk
      have hk' : k < elems.length := by omega
      rw [List.getElem?_eq_getElem hk', Option.bind_eq_some_iff] at h1
      obtain ⟨c, hc, ht⟩ := h1
      obtain ⟨y, hy⟩ := hr.h ht (weightsAll_mem (List.mem_map_of_mem (List.getElem_mem hk')) hw2)
      exact ⟨y, c, hc, hy⟩
    obtain ⟨ys, hyl, hy⟩ := list_choose len hel'
    refine ⟨ys, some A, len, cap, rfl, ⟨hyl.symm, hbound, fun k y hky => ?_⟩, hle⟩
    obtain ⟨c, hc, hrep⟩ := hy k y hky
    obtain ⟨hc1, hc2⟩ := cells_at hc
    have hca : P.cellsOf e = a.sz := by rw [← hc1]; exact a.len hrep
    -- the first element's first cell tells the address's form
    have h0 : 0 < len := by have := (List.getElem?_eq_some_iff.1 hky).1; omega
    obtain ⟨y0, c0, hc0, hrep0⟩ := hel' 0 h0
    obtain ⟨hl0, hcell0⟩ := cells_at hc0
    have hl0' : 0 < c0.length := by omega
    have hsp0 := World.cell?_spot (hcell0 0 _ (List.getElem?_eq_getElem hl0'))
    obtain ⟨bk, off, spot⟩ := A
    have hspot : spot = none := by simpa [Addr.add] using hsp0
    subst hspot
    refine ⟨bk, off, c, rfl, trivial, fun j v hv => ?_, hrep⟩
    have := hc2 j v hv
    rw [show (⟨bk, off, none⟩ : Addr) = ad bk off from rfl, add_ad, add_ad, hca] at this
    exact this⟩
instance rd_sl {t e : TypeId} {sz by_ : Nat} [hs : SliceTy P t e sz] [hb : BytesTy P e by_] [hr : Rd P e a] {hpos : 0 < a.sz} [hby : NeZero by_] : Rd P t (tSl a hpos) := ⟨fun n => by
  cases n with
  | zero => exact ⟨fun {H enc W cs x} hx _ => by simp [DataW.trod] at hx⟩
  | succ n => exact rd_slice hpos (hr.h n) (Nat.pos_of_ne_zero hby.out)⟩
structure RdF (P : Program) (n : Nat) (fs : List Field) (o : Nat) (a : Ty α) : Prop where
  h : ∀ {H : Type} {enc : TypeId × Value → H} {W : World} {cs : List Value}, (∀ f ∈ fs, ∃ x, DataW.trod enc P W 0 (fun _ => true) true n f.type ((cs.drop f.offset).take (P.cellsOf f.type)) = some x ∧ (x.1.weights P f.type).all (· ≤ reachBytes) = true) →
    cs.length = o + a.sz → ∃ y, a.rep AnyB W (cs.drop o) y
theorem take_same {l : List Value} {n m : Nat} (h : (l.take n).length = m) : l.take n = l.take m := by
  rw [List.length_take] at h
  by_cases hn : n ≤ l.length
  · rw [Nat.min_eq_left hn] at h; rw [h]
  · rw [Nat.min_eq_right (by omega)] at h; rw [List.take_of_length_le (by omega), List.take_of_length_le (by omega)]
theorem RdF.one {n : Nat} {f : Field} {o : Nat} (hr : RdN P n f.type a) (ho : f.offset = o) : RdF P n [f] o a := ⟨fun {H enc W cs} hf hl => by
  obtain ⟨x, hx, hw⟩ := hf f List.mem_cons_self
  obtain ⟨y, hy⟩ := hr.h hx hw
  rw [ho] at hy
  have h2 := take_same (a.len hy)
  rw [h2, List.take_of_length_le (by rw [List.length_drop]; omega)] at hy
  exact ⟨y, hy⟩⟩
theorem RdF.cons {n : Nat} {f : Field} {fs : List Field} {o : Nat} (hr : RdN P n f.type a) (ho : f.offset = o) (hs : RdF P n fs (o + a.sz) b) : RdF P n (f :: fs) o (tPair a b) := ⟨fun {H enc W cs} hf hl => by
  obtain ⟨x, hx, hw⟩ := hf f List.mem_cons_self
  obtain ⟨y, hy⟩ := hr.h hx hw
  rw [ho] at hy
  have h2 := take_same (a.len hy)
  rw [h2] at hy
  obtain ⟨z, hz⟩ := hs.h (fun g hg => hf g (List.mem_cons_of_mem _ hg)) (by rw [hl]; show o + (a.sz + b.sz) = _; omega)
  refine ⟨(y, z), (cs.drop o).take a.sz, cs.drop (o + a.sz), ?_, hy, hz⟩
  rw [← List.drop_drop, List.take_append_drop]⟩
theorem weightsEach_mem {H : Type} : ∀ {ts : List TypeId} {ds : List (DataW H)} {j : Nat} {t : TypeId} {d : DataW H}, ts[j]? = some t → ds[j]? = some d → (DataW.weightsEach P ts ds).all (· ≤ reachBytes) = true → (d.weights P t).all (· ≤ reachBytes) = true := fun h1 h2 h => by
  rw [List.all_eq_true] at h ⊢
  exact fun n hn => h n (DataW.weights_mem_each h1 h2 n hn)
theorem rd_struct {n : Nat} {t : TypeId} {fs : Array Field} (hu : P.underlying t = some (.struct fs)) (hc : P.cellsOf t = a.sz) (hf : RdF P n fs.toList 0 a) : RdN P (n + 1) t a := ⟨fun {H enc W cs x} hx hw => by
  obtain ⟨xs, m, hm, rfl, hl, hxl, hxs⟩ := DataW.trod_struct hu hx
  obtain rfl : n = m := by omega
  dsimp only at hw
  rw [DataW.weights, hu] at hw
  dsimp only at hw
  obtain ⟨y, hy⟩ := hf.h (W := W) (cs := cs) (enc := enc) (fun f hfm => by
    obtain ⟨i, hi⟩ := List.getElem?_of_mem hfm
    have hi' : fs[i]? = some f := by simpa using hi
    have h1 := hxs i f hi'
    have hil : i < xs.length := by have := (Array.getElem?_eq_some_iff.1 hi').1; omega
    rw [List.getElem?_eq_getElem hil] at h1
    exact ⟨_, h1, weightsEach_mem (j := i) (by rw [List.getElem?_map, hi]; rfl) (by rw [List.getElem?_map, List.getElem?_eq_getElem hil]; rfl) hw⟩) (by rw [Nat.zero_add, hl, hc])
  exact ⟨y, by rwa [List.drop_zero] at hy⟩⟩
theorem Rd.struct {t : TypeId} {fs : Array Field} (hu : P.underlying t = some (.struct fs)) (hc : P.cellsOf t = a.sz) (hf : ∀ n, RdF P n fs.toList 0 a) : Rd P t a := ⟨fun n => by
  cases n with
  | zero => exact ⟨fun {H enc W cs x} hx _ => by simp [DataW.trod] at hx⟩
  | succ n => exact rd_struct hu hc (hf n)⟩
theorem RdN.map {n : Nat} {t : TypeId} {f : β → α} {g : α → β} (hr : RdN P n t a) (hfg : ∀ x, f (g x) = x) : RdN P n t (tMap a f) := ⟨fun {H enc W cs x} hx hw => by
  obtain ⟨y, hy⟩ := hr.h hx hw
  exact ⟨g y, show a.rep AnyB W cs (f (g y)) from by rw [hfg]; exact hy⟩⟩
theorem Rd.map {t : TypeId} {f : β → α} {g : α → β} (hr : Rd P t a) (hfg : ∀ x, f (g x) = x) : Rd P t (tMap a f) := ⟨fun n => (hr.h n).map hfg⟩
variable {H : Type} {enc : TypeId × Value → H} {W : World} {base : Nat} {t : TypeId} {v : Value} {d : DataW H} {ps : List MemPlace}
theorem Rd.arg (hr : Rd P t a) (h : DataW.Trod enc P W 0 (fun _ => true) true t v d ps) (hw : (d.weights P t).all (· ≤ reachBytes) = true) : ∃ y, a.rep AnyB W v.cells.toList y := by
  obtain ⟨n, hn⟩ := h; exact (hr.h n).h hn hw
theorem arg_agg {n : Nat} [ht : AggTy P t n] (hr : Rd P t a) (hv : Value.okWide P W .any base t v) (h : DataW.Trod enc P W 0 (fun _ => true) true t v d ps) (hw : (d.weights P t).all (· ≤ reachBytes) = true) :
    ∃ cs y, v = .agg cs.toArray ∧ a.rep AnyB W cs y := by
  obtain ⟨⟨dd, hu, hd⟩, _⟩ := aggSize_spec ht.h; obtain ⟨y, hy⟩ := hr.arg h hw; unfold Value.okWide at hv; rw [hu] at hv
  have : ∃ cs, v = .agg cs := by
    cases dd <;> simp at hd
    all_goals (obtain ⟨cs, h1, _⟩ := hv; exact ⟨cs, h1⟩)
  obtain ⟨cs, rfl⟩ := this; exact ⟨cs.toList, y, by simp, by simpa [Value.cells] using hy⟩
end
section
variable {P : Program}
theorem CallZ.calls {f : FuncId} {args : Array Value} {W : World} {R : VK} (h : CallZ P f args (z W) R) : Calls P f args W (fun e W' => ∃ v, e = .returned v ∧ R v (z W')) := callsIn_wide.1 (h W rfl)
theorem Ext.below {W W' : World} (h : Ext (z W) (z W')) : Below W.heap.size W W' := ⟨h.os, h.tape, h.output, h.size, fun k hk => h.blk k hk trivial⟩
end
def IsB (o : Option Value) (k d : Nat) : Prop := match o with | none => k = d | some (.int _ i) => i = (k : Int) | _ => False
section
variable {P : Program}
theorem run_sliceBound {kd : IntKind} {i : Int} {k y : Nat} (code : BoundsCode) (hi : i = (k : Int)) (hk : k ≤ y) (w : World) : (Instr.sliceBound (.int kd i) y code).run P w = .ok k w := by
  subst hi; simp [Instr.sliceBound, asIntOf, hk]
theorem run_sliceBounds {isS : Bool} {n c : Nat} {lo hi : Option Value} {l h : Nat} (hl : IsB lo l 0) (hh : IsB hi h n) (h1 : l ≤ h) (h2 : h ≤ c) (w : World) : (Instr.sliceBounds isS n c lo hi none).run P w = .ok (l, h, c) w := by
  cases hi with
  | none =>
    obtain rfl : h = n := hh
    cases lo with
    | none => obtain rfl : l = 0 := hl; simp [Instr.sliceBounds]
    | some v => cases v <;> first | exact hl.elim | simp [Instr.sliceBounds, run_sliceBound _ hl h1]
  | some u =>
    cases u <;> first | exact hh.elim | skip
    cases lo with
    | none => obtain rfl : l = 0 := hl; simp [Instr.sliceBounds, run_sliceBound _ hh h2]
    | some v => cases v <;> first | exact hl.elim | simp [Instr.sliceBounds, run_sliceBound _ hh h2, run_sliceBound _ hl h1]
theorem SlR.sub {α : Type} {a : Ty α} {D : Nat → Prop} {w : World} {b o n : Nat} {xs : List α} {l h o' : Nat} (hs : SlR a D w (some (ad b o)) n xs) (h1 : l ≤ h) (h2 : h ≤ n) (ho : l < h → o' = o + l * a.sz) : SlR a D w (some (ad b o')) (h - l) ((xs.take h).drop l) := by
  obtain ⟨hn, hle, hx⟩ := hs; refine ⟨by rw [List.length_drop, List.length_take]; omega, by omega, fun k x hk => ?_⟩; rw [List.getElem?_drop, List.getElem?_take] at hk
  split at hk
  · rename_i hlt; obtain ⟨b', o2, cs, e, hD, hc, hr⟩ := hx _ _ hk; simp only [Option.some.injEq, Addr.mk.injEq] at e; obtain ⟨rfl, rfl, _⟩ := e; refine ⟨b, o', cs, rfl, hD, ?_, hr⟩; rw [ho (by omega)]
    rwa [show o + l * a.sz + k * a.sz = o + (l + k) * a.sz from by rw [Nat.add_mul]; omega]
  · cases hk
theorem slcR {α : Type} {a : Ty α} {D : Nat → Prop} {w : World} {t e : TypeId} {sz : Nat} [hst : SliceTy P t e sz] {A : Option Addr} {n c : Nat} {lo hi : Option Value} {K : Value → Prop} {xs : List α} (l h : Nat) (hs : SlR a D w A n xs) (hc : n ≤ c) (hlo : IsB lo l 0) (hhi : IsB hi h n) (h1 : l ≤ h) (h2 : h ≤ n) (hsz : a.sz = sz)
    (kk : ∀ A' : Option Addr, (∀ (D' : Nat → Prop) (w' : World), SlR a D' w' A n xs → SlR a D' w' A' (h - l) ((xs.take h).drop l)) → K (.slice A' (h - l) (c - l))) : SlcP P t (.slice A n c) lo hi none K := by
  rw [SlcP_eq]; obtain ⟨hu, inf, hinf, hs'⟩ := sliceOf_spec hst.h
  have hrun : ∀ w, (Instr.sliceAt t (.slice A n c) lo hi none).run P w = .ok (.slice (if c = l then A else A.map (·.add (l * sz))) (h - l) (c - l)) w := fun w => by
    unfold Instr.sliceAt; rw [Sem.run_bind, run_underlying hu]; simp only [Result.andThen_ok]; unfold Instr.slice; rw [Sem.run_bind, run_underlying hu]; simp only [Result.andThen_ok]; rw [Sem.run_bind, run_sliceBounds hlo hhi h1 (by omega)]; simp only [Result.andThen_ok]; rw [Sem.run_bind, run_sizeOf hinf, hs']
    rfl
  refine pure_vval hrun (kk _ fun D' w' hx => ?_)
  cases A with
  | none =>
    have hxs : xs = [] := by
      cases xs with
      | nil => rfl
      | cons x r => obtain ⟨_, _, _, e, _⟩ := hx.2.2 0 x rfl; cases e
    have hn : n = 0 := by have := hx.1; rw [hxs] at this; exact this
    subst hxs
    obtain rfl : l = 0 := by omega
    obtain rfl : h = 0 := by omega
    simp only [List.take_nil, List.drop_nil, Nat.sub_self]
    split <;> exact .nil
  | some q =>
    by_cases h0 : l < h
    · obtain ⟨b, o, _, _, e, _⟩ := hx.at_ (k := 0) (by omega); obtain rfl : q = ad b o := Option.some.inj e; rw [if_neg (by omega)]; show SlR a D' w' (some ((ad b o).add (l * sz))) (h - l) _; rw [add_ad, ← hsz]; exact hx.sub h1 h2 fun _ => rfl
    · have e : (xs.take h).drop l = [] := List.drop_eq_nil_of_le (by rw [List.length_take]; omega); rw [e, show h - l = 0 from by omega]; exact .nil
end
end Go.Proofs.YtehcphboliofaaaGreatDoor
namespace Go.Proofs.YtehcphboliofaaaGreatDoor
open Go Go.RowKit Go.ChangeShapes Go.WideShapes
section
variable {H : Type} {enc : TypeId × Value → H} {P : Program}
def canRead (P : Program) (ts : List TypeId) : Bool := ts.all fun t => P.readableRec t && decide (t < P.types.size)
theorem trodAll_stays (hl : laidOutB P = true) {W W' : World} {sp : Nat → Bool} : ∀ {ts : List TypeId} {vs : List Value} {ds : List (DataW H)} {ps : List MemPlace}, canRead P ts = true →
    DataW.TrodAll enc P W 0 (fun _ => true) true ts vs ds ps → (∀ p ∈ ps, W.sameAt W' p) → (∀ p ∈ ps, sp p.block = true) → DataW.TrodAll enc P W' 0 sp true ts vs ds ps
  | [], _, _, _, _, h, _, _ => by
    obtain ⟨rfl, rfl, rfl⟩ := trodAll_nil h
    exact trodAll_mk0
  | t :: ts, _, _, _, hc, h, hs, hsp => by
    obtain ⟨v, vs, d, ds, p, q, rfl, rfl, rfl, h1, h2⟩ := trodAll_cons h
    unfold canRead at hc
    rw [List.all_cons, Bool.and_eq_true, Bool.and_eq_true, decide_eq_true_eq] at hc
    exact ⟨p, q, Go.WideElems.Trod_stays hl hc.1.1 hc.1.2 h1 (fun x hx => hs x (List.mem_append_left _ hx)) (fun x hx => hsp x (List.mem_append_left _ hx)),
      trodAll_stays hl hc.2 h2 (fun x hx => hs x (List.mem_append_right _ hx)) (fun x hx => hsp x (List.mem_append_right _ hx)), rfl⟩
theorem law_post {f : Func} {s : ChangeSpec} {apart fresh handsOn again : Bool} {W W' : World} {args : Array Value} {tb : TypeId} {ds gs : List (DataW H)} {before : List MemPlace} (hl : laidOutB P = true) (hc : canRead P f.params.toList = true)
    (hr : f.resultTypes = #[tb]) (hb : P.underlying tb = some .bool) (hv : s.vars = []) (hs : (s.fn H ds).results = [.lit (.bool true)] ∧ (s.fn H ds).args = ds ∧ (s.fn H ds).vars = [])
    (hW : DataW.Whole enc P f.params.toList s.vars apart W args.toList ds gs before) (hx : Below W.heap.size W W') : s.post enc P f apart fresh handsOn again W args (.bool true) W' := by
  have hlt : ∀ p ∈ before, p.block < W.heap.size := fun p hp => hW.lt p hp; have hW' := hW; obtain ⟨p, q, hA, hV, rfl, hz, hn⟩ := hW; rw [hv] at hV; obtain ⟨rfl, rfl⟩ := trodVars_none hV; simp only [List.append_nil] at hlt hz hn; have hsame : ∀ x ∈ p, W.sameAt W' x := fun x hx' => hx.same (hlt x hx'); have hargs : ∀ sp : Nat → Bool, (∀ x ∈ p, sp x.block = true) → DataW.TrodAll enc P W' 0 sp true f.params.toList args.toList ds p := fun sp h => trodAll_stays hl hc hA hsame h
  have hres : ∀ (b : Nat) (sp : Nat → Bool) (hd : Bool), DataW.TrodAll enc P W' b sp hd f.resultTypes.toList ((Value.bool true).resultList f.resultTypes.size) [.lit (.bool true)] [] := fun b sp hd => by
    rw [hr]; exact trodAll_mk1 (shut_bool hb _)
  have hok : ∀ (j : Nat) (t : TypeId) (r : Value), f.resultTypes[j]? = some t → ((Value.bool true).resultList f.resultTypes.size)[j]? = some r → Value.okWide P W' .any 0 t r := by
    intro j t r h1 h2; rw [hr] at h1 h2
    match j, h1, h2 with
    | 0, h1, h2 =>
      simp [Value.resultList] at h1 h2; subst h1; subst h2; exact okWide_bool_mk hb _
    | j + 1, h1, _ => simp at h1
  refine ⟨ds, [], p ++ [], [], p, [], hW', ?_, ?_, ?_, ?_, fun _ => ?_⟩
  · rw [List.append_nil, hs.1]; exact hres _ _ _
  · rw [List.append_nil, hs.2.1]; exact hargs _ fun x hx' => by simpa using hlt x hx'
  · rw [List.append_nil, hs.2.2, hv]; rfl
  · refine World.keptBut_mono (fun x hx' => ⟨hx', ?_⟩) (hx.frame (· ∈ p ++ [])); right
    simpa using hx'
  · have hall := trodAll_append (hargs (fun _ => true) (fun _ _ => rfl)) (hres 0 (fun _ => true) true); refine ⟨hok, [.lit (.bool true)] ++ ds, [], p ++ [], ⟨p, [], hall, by rw [hv]; rfl, rfl, ?_, ?_⟩, ?_⟩
    · intro b off hp
      have hin : MemPlace.cell b off ∈ p := by simpa using hp
      rw [hx.frozen (hlt _ hin)]; exact hz b off hin
    · intro ha; simpa using hn ha
    · intro x hx' _; exact hx'
end
end Go.Proofs.YtehcphboliofaaaGreatDoor
namespace Go.Proofs.YtehcphboliofaaaGreatDoor
open Go Go.RowKit
section
variable {P : Program} {X : XK}
def partV (P : Program) (e : TypeId) (xs : List Value) (off : Nat) : Option Value := match P.underlying e with
  | some (.struct _) | some (.array _ _) => some (.agg ((xs.drop off).take (P.cellsOf e)).toArray)
  | some _ => xs[off]?
  | none => none
def eqF (P : Program) (f : TypeId → Value → Value → Option Bool) (xs ys : List Value) : List Field → Option Bool
  | [] => some true
  | d :: fs => if d.name = "_" then none else match partV P d.type xs d.offset, partV P d.type ys d.offset, eqF P f xs ys fs with
    | some a, some b, some s => (match f d.type a b with | some r => some (r && s) | none => none)
    | _, _, _ => none
def eqI (P : Program) (f : TypeId → Value → Value → Option Bool) (e : TypeId) (xs ys : List Value) : List Nat → Option Bool
  | [] => some true
  | i :: is => match partV P e xs (i * P.cellsOf e), partV P e ys (i * P.cellsOf e), eqI P f e xs ys is with
    | some a, some b, some s => (match f e a b with | some r => some (r && s) | none => none)
    | _, _, _ => none
def eqV (P : Program) : Nat → TypeId → Value → Value → Option Bool
  | 0, _, _, _ => none
  | d + 1, t, x, y => match P.underlying t with
    | some .bool => (match x, y with | .bool a, .bool b => some (a == b) | _, _ => none)
    | some (.int _) => (match x, y with | .int k a, .int k' b => bif Nat.beq (kno k) (kno k') then some (a == b) else none | _, _ => none)
    | some .string => (match x, y with | .string a, .string b => some (a.toList == b.toList) | _, _ => none)
    | some (.array n e) => (match x, y with | .agg xs, .agg ys => if (P.info? e).isSome then eqI P (eqV P d) e xs.toList ys.toList (List.range n) else none | _, _ => none)
    | some (.struct fs) => (match x, y with | .agg xs, .agg ys => if P.stoodInHeld t then none else eqF P (eqV P d) xs.toList ys.toList fs.toList | _, _ => none)
    | _ => none
theorem run_partV {e : TypeId} {xs : Array Value} {off : Nat} {v : Value} (h : partV P e xs.toList off = some v) (w : World) : (part e xs off).run P w = .ok v w := by
  unfold partV at h
  cases hu : P.underlying e with
  | none => rw [hu] at h; cases h
  | some d =>
    obtain ⟨i, hi⟩ := info_of_underlying hu; rw [hu] at h
    have hl : xs.extract off (off + P.cellsOf e) = ((xs.toList.drop off).take (P.cellsOf e)).toArray := by
      rw [← Array.toList_inj, Array.toList_extract]; simp [List.extract]
    cases d <;> dsimp only at h <;> first
      | (have h' : xs[off]? = some v := by simpa using h
         simp [part, isAgg, run_underlying hu, h']
         done)
      | (simp only [Option.some.injEq] at h
         subst h
         simp [part, isAgg, run_underlying hu, Go.run_sizeOf w hi, hl]
         done)
theorem run_eqV (D : Nat) : ∀ (d : Nat) (t : TypeId) (x y : Value) (r : Bool), eqV P d t x y = some r → ∀ w : World, (Op.equalIn (D + d) t x y).run P w = .ok r w
  | 0, _, _, _, _, h => by cases h
  | d + 1, t, x, y, r, h => by
    intro w
    have ih := run_eqV D d
    unfold eqV at h
    cases hu : P.underlying t with
    | none => rw [hu] at h; cases h
    | some k =>
      rw [hu] at h
      cases k <;> dsimp only at h <;> try (cases h; done)
      case bool =>
        split at h <;> cases h
        exact run_equalIn_bool' w (D + d) t _ _ hu
      case int q =>
        split at h
        · rename_i k a k' b
          cases hb : Nat.beq (kno k) (kno k') with
          | false => rw [hb] at h; cases h
          | true =>
            rw [hb] at h
            cases h
            cases kno_inj hb
            exact run_equalIn_int w (D + d) t _ q _ _ hu
        · cases h
      case string =>
        split at h <;> cases h
        exact run_equalIn_string w (D + d) t _ _ hu
      case array n e =>
        split at h
        · rename_i xs ys
          split at h
          · rename_i hi
            obtain ⟨i, hi⟩ := Option.isSome_iff_exists.1 hi
            rw [show D + (d + 1) = (D + d) + 1 from rfl, run_equalIn_array w (D + d) xs ys hu hi]
            generalize List.range n = is at h
            induction is generalizing r with
            | nil => cases h; rfl
            | cons i is IH =>
              unfold eqI at h
              split at h
              · rename_i a b s ha hb hs
                split at h
                · rename_i q hq
                  cases h
                  rw [Op.eqItems, Sem.run_bind, run_partV ha, Result.andThen_ok, Sem.run_bind, run_partV hb, Result.andThen_ok, Sem.run_bind, ih _ _ _ _ hq, Result.andThen_ok]
                  cases q
                  · rfl
                  · exact IH _ hs
                · cases h
              · cases h
          · cases h
        · cases h
      case struct fs =>
        split at h
        · rename_i xs ys
          split at h
          · cases h
          · rename_i hst
            have hfs : P.fieldsOf t = fs := by simp [Program.fieldsOf, hu]
            rw [show D + (d + 1) = (D + d) + 1 from rfl, run_equalIn_struct w (D + d) t xs ys (by rw [hfs]; exact hu) (by simpa using hst), hfs]
            generalize fs.toList = is at h
            induction is generalizing r with
            | nil => cases h; rfl
            | cons i is IH =>
              unfold eqF at h
              split at h
              · cases h
              · rename_i hn
                split at h
                · rename_i a b s ha hb hs
                  split at h
                  · rename_i q hq
                    cases h
                    rw [Op.eqFields, if_pos hn, Sem.run_bind, run_partV ha, Result.andThen_ok, Sem.run_bind, run_partV hb, Result.andThen_ok, Sem.run_bind, ih _ _ _ _ hq, Result.andThen_ok]
                    cases q
                    · rfl
                    · exact IH _ hs
                  · cases h
                · cases h
        · cases h
class EqTy (P : Program) (t : TypeId) : Prop where
  g : P.eqGuardType P.depth t = false
theorem run_eqD {t : TypeId} [h : EqTy P t] (xo yo : Operand) {xs ys : Array Value} {q : Bool} (hq : eqV P 8 t (.agg xs) (.agg ys) = some q) (w : World) :
    (do eqGuard .eql t xo yo (.agg xs) (.agg ys); binOp .eql t (.agg xs) (.agg ys) : Sem Value).run P w = .ok (.bool q) w := by
  have hr : (Op.equalIn 10000 t (.agg xs) (.agg ys)).run P w = .ok q w := run_eqV 9992 8 t _ _ _ hq w; rw [Sem.run_bind, run_eqGuard_agg w .eql t xo yo _ _ h.g, Result.andThen_ok, run_eql_struct, hr]
  rfl
theorem run_neD {t : TypeId} [h : EqTy P t] (xo yo : Operand) {xs ys : Array Value} {q : Bool} (hq : eqV P 8 t (.agg xs) (.agg ys) = some q) (w : World) :
    (do eqGuard .neq t xo yo (.agg xs) (.agg ys); binOp .neq t (.agg xs) (.agg ys) : Sem Value).run P w = .ok (.bool (!q)) w := by
  have hr : (Op.equalIn 10000 t (.agg xs) (.agg ys)).run P w = .ok q w := run_eqV 9992 8 t _ _ _ hq w; rw [Sem.run_bind, run_eqGuard_agg w .neq t xo yo _ _ h.g, Result.andThen_ok, run_neq_struct, hr]
  rfl
theorem eqS {t : TypeId} [h : EqTy P t] {xo yo : Operand} {xs ys : Array Value} (q : Bool) {K : Value → Prop} (hq : eqV P 8 t (.agg xs) (.agg ys) = some q) (k1 : q = true → K (.bool true)) (k2 : q = false → K (.bool false)) : BinP P .eql t xo yo (.agg xs) (.agg ys) K := by
  rw [BinP_eq]; refine pure_vval (fun w => run_eqD xo yo hq w) ?_
  cases q
  · exact k2 rfl
  · exact k1 rfl
theorem neS {t : TypeId} [h : EqTy P t] {xo yo : Operand} {xs ys : Array Value} (q : Bool) {K : Value → Prop} (hq : eqV P 8 t (.agg xs) (.agg ys) = some q) (k1 : q = false → K (.bool true)) (k2 : q = true → K (.bool false)) : BinP P .neq t xo yo (.agg xs) (.agg ys) K := by
  rw [BinP_eq]; refine pure_vval (fun w => run_neD xo yo hq w) ?_
  cases q
  · exact k1 rfl
  · exact k2 rfl
theorem mkI {s : Sem Next} {t : TypeId} {v : Value} {K : VK} {w : World} (hs : s = vS (Instr.makeInterface t v)) (hc : P.concrete t = true) (k : K (.iface t v) w) : OthP P s K X w := by
  rw [OthP_eq]; refine OpS.x fun w0 hw => ?_; subst hw; rw [hs, run_vS, run_makeInterface _ t v hc]; exact k
theorem panicI {s : Sem Next} {t : TypeId} {v : Value} {K : VK} {w : World} (hs : s = vS (Instr.panic (.iface t v))) (k : X [{ v := .iface t v, recovered := false }] w) : OthP P s K X w := by
  rw [OthP_eq]; intro w0 hw; subst hw; rw [hs, run_vS]; exact k
theorem tAs {s : Sem Next} {t xt : TypeId} {v : Value} {K : VK} {w : World} (hs : s = vS (Instr.typeAssert (.iface t v) xt t true)) (hc : P.concrete t = true) (k : K (.tuple #[v, .bool true]) w) : OthP P s K X w := by
  rw [OthP_eq]; refine OpS.x fun w0 hw => ?_; subst hw; rw [hs, run_vS]
  have : (Instr.typeAssert (.iface t v) xt t true).run P w0 = .ok (.tuple #[v, .bool true]) w0 := by
    unfold Program.concrete at hc
    cases hd : P.underlying t with
    | none => simp [hd] at hc
    | some d => cases d <;> first | (simp [hd] at hc; done) | simp [Instr.typeAssert, run_underlying hd]
  rw [this]; exact k
end
section
variable {P : Program}
def KendL (P : Program) (fn : Func) (R2 : Ending → World → Prop) : KK := fun e F ds w => ∀ (tmps : Array Value) (w0 : World), (∀ t, tmps.getD t undef = F t) → z w0 = w → match e with
  | .normal | .ret => LeavesInM Fence.wide 0 P fn tmps R2 ds .returning w0
  | .panic ch => LeavesInM Fence.wide 0 P fn tmps R2 ds (.panicking ch) w0
  | _ => False
theorem initAgr {n : Nat} {args : List Value} (hle : args.length ≤ n) : Agr n { tmps := args.toArray ++ Array.replicate (n - args.toArray.size) undef, defers := [] } (init args) [] := by
  refine ⟨by simp; omega, fun t => ?_, rfl⟩; rw [init_getD]; simp only [Array.getD_eq_getD_getElem?, List.getD_eq_getElem?_getD]
  by_cases ht : t < args.length
  · rw [Array.getElem?_append_left (by simpa using ht)]; simp
  · rw [Array.getElem?_append_right (by simp; omega), List.getElem?_eq_none (by omega)]; simp only [List.size_toArray, Array.getElem?_replicate]
    split <;> rfl
theorem KendL_use {fn : Func} {R2 : Ending → World → Prop} {n : Nat} {e : Exit} {a : Act} {w0 : World} (h : KQ n (KendL P fn R2) e a w0) : bodyPostM Fence.wide 0 P fn R2 e a w0 := by
  obtain ⟨F', hg, hk⟩ := h; have := hk a.tmps w0 hg.2.1 rfl
  cases e with
  | normal => exact this
  | ret => exact this
  | panic ch => exact this
  | _ => exact this.elim
abbrev oMk (d0 G c0 : Nat) (t : TypeId) (p : String) (af : Array Edge) : Oper := { dst := some d0, op := .makeFunc (.func G) #[] #[.tmp c0], type := t, pos := p, after := af, guard := none }
abbrev oDf (d0 : Nat) (t : TypeId) (p : String) (af : Array Edge) : Oper := { dst := none, op := .defer { callee := .value (.tmp d0), args := #[], argTypes := #[] }, type := t, pos := p, after := af, guard := none }
theorem fn_ruleD {f : FuncId} {fn : Func} {args : List Value} {w : World} {R2 : Ending → World → Prop} {x y : Code} {id d0 G c0 : Nat} {t1 t2 : TypeId} {p1 p2 : String} {a1 a2 : Array Edge} (hf : P.funcs[f]? = some fn)
    (hb : fn.body = some (.seq x (.seq (.region id #[oMk d0 G c0 t1 p1 a1, oDf d0 t2 p2 a2] false) y)))
    (hok : (wfC fn.ntmps x && wfC fn.ntmps y && Nat.ble args.length fn.ntmps && Nat.blt d0 fn.ntmps) = true)
    (h : V P x (fun e F ds w' => match e with
      | .normal => ds = [] ∧ V P y (KendL P fn R2) (upd F d0 (.func (.func G) #[] #[F c0])) [{ target := .fn (.func G) #[F c0], args := #[] }] w'
      | _ => False) (init args) [] w) (w0 : World) (hw : z w0 = w) : CallsIn Fence.wide 0 P f args.toArray w0 R2 := by
  have hok4 := bothT hok; have hok3 := bothT hok4.1; have hok2 := bothT hok3.1; have hle := Nat.le_of_ble_eq_true hok3.2; have hd0 : d0 < fn.ntmps := Nat.le_of_ble_eq_true hok4.2; subst hw; refine callsIn_of_wp_marks (F := Fence.wide) hf hb trivial ?_; refine wpIn_seq (wpIn_mono (V_sound (r := none) x hok2.1 _ _ [] w0 _ (.inl rfl) (initAgr hle) h) fun e a w1 hq => ?_); obtain ⟨F', hg, hk⟩ := hq
  cases e with
  | normal =>
    obtain ⟨hd, hk⟩ := hk; refine wpIn_seq (wpIn_region ?_); have hF : a.tmps.getD c0 undef = F' c0 := hg.2.1 c0; have hg1 : Agr fn.ntmps (a.put (some d0) (.func (.func G) #[] #[F' c0])) (upd F' d0 (.func (.func G) #[] #[F' c0])) a.defers := hg.put (d := some d0) (fun j hj => by cases hj; exact hd0) _; have hl : List.range (#[oMk d0 G c0 t1 p1 a1, oDf d0 t2 p2 a2] : Array Oper).size = [0, 1] := rfl; rw [hl]; refine ⟨fun _ _ => trivial, ?_⟩
    have e1 : ((oMk d0 G c0 t1 p1 a1).semAt Fence.wide.round a.eval).run P w1 = .ok (.value (.func (.func G) #[] #[F' c0])) w1 := by
      rw [show Fence.wide.round = none from rfl, Oper.semAt_none]; show (execOp a.eval (oMk d0 G c0 t1 p1 a1)).run P w1 = _; rw [hg.eval]; simp [execOp, Instr.makeFunc, ev]
    show Oper.uponIn Fence.wide 0 P (oMk d0 G c0 t1 p1 a1) a _ _ (((oMk d0 G c0 t1 p1 a1).semAt Fence.wide.round a.eval).run P w1); rw [e1]; refine ⟨fun _ _ => trivial, ?_⟩
    have e2 : ((oDf d0 t2 p2 a2).semAt Fence.wide.round (a.put (some d0) (.func (.func G) #[] #[F' c0])).eval).run P w1 = .ok (.defer { target := .fn (.func G) #[F' c0], args := #[] }) w1 := by
      rw [show Fence.wide.round = none from rfl, Oper.semAt_none]; show (execOp (a.put (some d0) (.func (.func G) #[] #[F' c0])).eval (oDf d0 t2 p2 a2)).run P w1 = _; rw [hg1.eval]
      have : ev (upd F' d0 (.func (.func G) #[] #[F' c0])) (.tmp d0) = .func (.func G) #[] #[F' c0] := by
        show (bif Nat.beq d0 d0 then _ else _) = _; rw [Nat.beq_refl]; rfl
      show (execOp (ev (upd F' d0 (.func (.func G) #[] #[F' c0]))) (oDf d0 t2 p2 a2)).run P w1 = _; show ((do pure (.defer (← resolve (ev (upd F' d0 (.func (.func G) #[] #[F' c0]))) { callee := .value (.tmp d0), args := #[], argTypes := #[] } t2)) : Sem Next)).run P w1 = _; simp [resolve, this, Deferred.ofValue]
    show Oper.uponIn Fence.wide 0 P (oDf d0 t2 p2 a2) (a.put (some d0) (.func (.func G) #[] #[F' c0])) _ _ (((oDf d0 t2 p2 a2).semAt Fence.wide.round (a.put (some d0) (.func (.func G) #[] #[F' c0])).eval).run P w1); rw [e2]; show y.wpIn Fence.wide 0 P (bodyPostM Fence.wide 0 P fn R2) _ w1; have hds : a.defers = [] := hd; have hg2 : Agr fn.ntmps { (a.put (some d0) (.func (.func G) #[] #[F' c0])) with defers := { target := .fn (.func G) #[F' c0], args := #[] } :: a.defers } (upd F' d0 (.func (.func G) #[] #[F' c0])) [{ target := .fn (.func G) #[F' c0], args := #[] }] := ⟨hg1.1, hg1.2.1, by rw [hds]⟩; exact wpIn_mono (V_sound (r := none) y hok2.2 _ _ _ w1 _ (.inl rfl) hg2 hk) fun e a' w' hq => KendL_use hq
  | _ => exact hk.elim
theorem opsS_rec {Q : Exit → Act → List Frame → World → Prop} {ops : Array Oper} {i : Nat} {rest : List Nat} {o : Oper} {a : Act} {cs : List Frame} {w : World} (ho : ops[i]? = some o) (hg : o.guard = none) (he : (execOp a.eval o).run P w = .ok .recover w)
    (h1 : ∀ v cs', recoverD cs = some (v, cs') → wpOpsSIn Fence.wide 0 P ops Q rest (a.put o.dst v) cs' w) (h2 : recoverD cs = none → wpOpsSIn Fence.wide 0 P ops Q rest (a.put o.dst .nilIface) cs w) : wpOpsSIn Fence.wide 0 P ops Q (i :: rest) a cs w := by
  unfold wpOpsSIn; rw [ho]
  dsimp only
  refine ⟨fun _ _ => trivial, ?_⟩; rw [if_pos (by simp [Region.wanted, hg]), he]
  dsimp only
  cases hr : recoverD cs with
  | none => exact h2 hr
  | some p => exact h1 p.1 p.2 hr
theorem opsS_val {Q : Exit → Act → List Frame → World → Prop} {ops : Array Oper} {i : Nat} {rest : List Nat} {o : Oper} {a : Act} {cs : List Frame} {w : World} {v : Value} (ho : ops[i]? = some o) (hg : o.guard = none) (he : (execOp a.eval o).run P w = .ok (.value v) w)
    (h1 : wpOpsSIn Fence.wide 0 P ops Q rest (a.put o.dst v) cs w) : wpOpsSIn Fence.wide 0 P ops Q (i :: rest) a cs w := by
  unfold wpOpsSIn; rw [ho]
  dsimp only
  refine ⟨fun _ _ => trivial, ?_⟩; rw [if_pos (by simp [Region.wanted, hg]), he]; exact h1
abbrev oRc (d0 : Nat) (t : TypeId) (p : String) (af : Array Edge) : Oper := { dst := some d0, op := .call { callee := .builtin .recover, args := #[], argTypes := #[] }, type := t, pos := p, after := af, guard := none }
abbrev oAs (d1 d0 : Nat) (t : TypeId) (p : String) (af : Array Edge) : Oper := { dst := some d1, op := .assign (.tmp d0), type := t, pos := p, after := af, guard := none }
def KendS (P : Program) (fn : Func) (u : FrameMode) (R : Ending → FrameMode → World → Prop) : KK := fun e F ds w => ds = [] ∧ ∀ (tmps : Array Value) (w0 : World), (∀ t, tmps.getD t undef = F t) → z w0 = w → match e with
  | .normal | .ret => ∃ v, (results fn tmps).run P w0 = .ok v w0 ∧ R (.returned v) u w0
  | _ => False
theorem rec_rule {f : FuncId} {fn : Func} {args : List Value} {R : Ending → FrameMode → World → Prop} {y : Code} {id d0 d1 : Nat} {t1 t2 : TypeId} {p1 p2 : String} {a1 a2 : Array Edge} {u u' : FrameMode} {v : Value} (hf : P.funcs[f]? = some fn)
    (hb : fn.body = some (.seq (.region id #[oRc d0 t1 p1 a1, oAs d1 d0 t2 p2 a2] false) y))
    (hok : (wfC fn.ntmps y && Nat.ble args.length fn.ntmps && Nat.blt d0 fn.ntmps && Nat.blt d1 fn.ntmps) = true)
    (hu : ∀ (c₀ : Frame) (cs : List Frame), c₀.mode = u → (match recoverD (c₀ :: cs) with | some (x, cs') => x = v ∧ cs' = { c₀ with mode := u' } :: cs | none => v = .nilIface ∧ u' = u))
    (w0 : World) (h : V P y (KendS P fn u' R) (upd (upd (init args) d0 v) d1 v) [] (z w0)) : CallsDIn Fence.wide 0 P f args.toArray u w0 R := by
  have hok4 := bothT hok; have hok3 := bothT hok4.1; have hok2 := bothT hok3.1; have hle := Nat.le_of_ble_eq_true hok2.2; have hd0 : d0 < fn.ntmps := Nat.le_of_ble_eq_true hok3.2; have hd1 : d1 < fn.ntmps := Nat.le_of_ble_eq_true hok4.2; refine callsDIn_of_wpSIn hf hb trivial fun c₀ cs hmode => ?_; have hrec := hu c₀ cs hmode; have hg : Agr fn.ntmps { tmps := args.toArray ++ Array.replicate (fn.ntmps - args.toArray.size) undef, defers := [] } (init args) [] := initAgr hle
  generalize ha : ({ tmps := args.toArray ++ Array.replicate (fn.ntmps - args.toArray.size) undef, defers := [] } : Act) = a at hg
  have hg1 : Agr fn.ntmps (a.put (some d0) v) (upd (init args) d0 v) [] := hg.put (d := some d0) (fun j hj => by cases hj; exact hd0) _; have hg2 : Agr fn.ntmps ((a.put (some d0) v).put (some d1) v) (upd (upd (init args) d0 v) d1 v) [] := hg1.put (d := some d1) (fun j hj => by cases hj; exact hd1) _; have hl : List.range (#[oRc d0 t1 p1 a1, oAs d1 d0 t2 p2 a2] : Array Oper).size = [0, 1] := rfl
  have e2 : (execOp (a.put (some d0) v).eval (oAs d1 d0 t2 p2 a2)).run P w0 = .ok (.value v) w0 := by
    rw [hg1.eval]; show (pure (.value (ev (upd (init args) d0 v) (.tmp d0))) : Sem Next).run P w0 = _
    have : ev (upd (init args) d0 v) (.tmp d0) = v := by
      show (bif Nat.beq d0 d0 then _ else _) = _; rw [Nat.beq_refl]; rfl
    rw [this]; rfl
  have e1 : (execOp a.eval (oRc d0 t1 p1 a1)).run P w0 = .ok .recover w0 := rfl
  have fin : ∀ cs', cs' = { c₀ with mode := u' } :: cs → y.wpSIn Fence.wide 0 P (bodyPostS P fn c₀ cs R) ((a.put (some d0) v).put (some d1) v) cs' w0 := by
    rintro _ rfl; refine wpSIn_of_wpIn rfl (wpIn_mono (V_sound (r := none) y hok2.1 _ _ [] w0 _ (.inl rfl) hg2 h) fun e a' w' hq => ?_); obtain ⟨F', hg', hd, hk⟩ := hq; have hk := hk a'.tmps w' hg'.2.1 rfl
    cases e with
    | normal => exact ⟨hd, u', rfl, hk⟩
    | ret => exact ⟨hd, u', rfl, hk⟩
    | _ => exact hk.elim
  refine wpSIn_seq (wpSIn_region ?_); rw [hl]
  have step2 : ∀ cs', cs' = { c₀ with mode := u' } :: cs → wpOpsSIn Fence.wide 0 P #[oRc d0 t1 p1 a1, oAs d1 d0 t2 p2 a2] (Exit.thenS (y.wpSIn Fence.wide 0 P (bodyPostS P fn c₀ cs R)) (bodyPostS P fn c₀ cs R)) [1] (a.put (some d0) v) cs' w0 := by
    intro cs' hcs; exact opsS_val (o := oAs d1 d0 t2 p2 a2) rfl rfl e2 (fin cs' hcs)
  refine opsS_rec (o := oRc d0 t1 p1 a1) rfl rfl e1 (fun x cs' hr => ?_) (fun hr => ?_)
  · rw [hr] at hrec; obtain ⟨rfl, hcs⟩ := hrec; exact step2 _ hcs
  · rw [hr] at hrec; obtain ⟨rfl, rfl⟩ := hrec; exact step2 _ (by subst hmode; rfl)
end
end Go.Proofs.YtehcphboliofaaaGreatDoor
namespace Go.Proofs.YtehcphboliofaaaGreatDoor
open Go Go.RowKit Classical
abbrev mkE (k v : Value) (c : Nat) : MapEntry := { key := k, val := v, born := c }
noncomputable def findP (v : Value) : List MapEntry → Nat → Option (Nat × Value)
  | [], _ => none
  | e :: r, i => if e.key = v then some (i, e.val) else findP v r (i + 1)
theorem findP_none {v : Value} : ∀ {L : List MapEntry} {i : Nat}, findP v L i = none ↔ ∀ e ∈ L, e.key ≠ v
  | [], _ => by simp [findP]
  | e :: r, i => by
    unfold findP
    by_cases h : e.key = v
    · simp [h]
    · rw [if_neg h, findP_none]; simp [h]
theorem findP_some {v x : Value} {n : Nat} : ∀ {L : List MapEntry} {i : Nat}, findP v L i = some (n, x) → ∃ j e, n = i + j ∧ L[j]? = some e ∧ e.key = v ∧ e.val = x ∧ ∀ m y, m < j → L[m]? = some y → y.key ≠ v
  | [], _, h => by simp [findP] at h
  | e :: r, i, h => by
    unfold findP at h
    by_cases hk : e.key = v
    · rw [if_pos hk] at h
      simp only [Option.some.injEq, Prod.mk.injEq] at h
      exact ⟨0, e, h.1.symm, rfl, hk, h.2, fun m y hm => by omega⟩
    · rw [if_neg hk] at h
      obtain ⟨j, e', h1, h2, h3, h4, h5⟩ := findP_some h
      refine ⟨j + 1, e', by omega, by simpa using h2, h3, h4, fun m y hm hy => ?_⟩
      cases m with
      | zero => simp at hy; subst hy; exact hk
      | succ m => exact h5 m y (by omega) (by simpa using hy)
noncomputable def lookP (v : Value) (L : List MapEntry) : Option Value := (findP v L 0).map (·.2)
theorem findP_val (v : Value) : ∀ (L : List MapEntry) (i j : Nat), (findP v L i).map (·.2) = (findP v L j).map (·.2)
  | [], _, _ => rfl
  | e :: r, i, j => by
    unfold findP
    split
    · rfl
    · exact findP_val v r _ _
theorem lookP_cons (v : Value) (e : MapEntry) (r : List MapEntry) : lookP v (e :: r) = if e.key = v then some e.val else lookP v r := by
  unfold lookP; rw [findP]
  split
  · rfl
  · exact findP_val v r _ _
theorem lookP_none {v : Value} {L : List MapEntry} : lookP v L = none ↔ findP v L 0 = none := by unfold lookP; simp
theorem lookP_push {v : Value} {x : MapEntry} : ∀ (L : List MapEntry), lookP x.key L = none → lookP v (L ++ [x]) = if x.key = v then some x.val else lookP v L
  | [], _ => by rw [List.nil_append, lookP_cons]
  | e :: r, h => by
    rw [lookP_cons] at h
    split at h
    · cases h
    rename_i hne
    rw [List.cons_append, lookP_cons, lookP_cons, lookP_push r h]
    by_cases h1 : e.key = v
    · rw [if_pos h1, if_pos h1]
      subst h1
      rw [if_neg (fun e => hne e.symm)]
    · rw [if_neg h1, if_neg h1]
theorem lookP_modify {k v u : Value} : ∀ (L : List MapEntry) (j : Nat) (e : MapEntry), L[j]? = some e → e.key = k → (∀ m y, m < j → L[m]? = some y → y.key ≠ k) →
    lookP u (L.modify j fun e => { e with val := v }) = if k = u then some v else lookP u L
  | [], j, e, h, _, _ => by simp at h
  | x :: r, 0, e, h, hk, _ => by
    simp at h; subst h
    show lookP u ({ x with val := v } :: r) = _
    rw [lookP_cons, lookP_cons, hk]
    by_cases h : k = u
    · rw [if_pos h, if_pos h]
    · rw [if_neg h, if_neg h, if_neg h]
  | x :: r, j + 1, e, h, hk, hn => by
    have hne := hn 0 x (by omega) rfl
    show lookP u (x :: r.modify j _) = _
    rw [lookP_cons, lookP_cons, lookP_modify r j e (by simpa using h) hk (fun m y hm hy => hn (m + 1) y (by omega) (by simpa using hy))]
    by_cases h : k = u
    · subst h; rw [if_pos rfl, if_neg hne, if_pos rfl]
    · rw [if_neg h, if_neg h]
class KeyL (P : Program) (k : TypeId) {κ : Type} (kv : κ → Value) : Prop where
  inj : ∀ a b, kv a = kv b → a = b
  chk : ∀ (b : Bool) (a : κ) (w : World), (Instr.checkKey b 10000 k (kv a)).run P w = .ok () w
  bits : ∀ a, Instr.sameBits 10000 (kv a) (kv a) = true
  fnd : ∀ (a : κ) (L : List MapEntry) (w : World), (∀ e ∈ L, ∃ q, e.key = kv q) → (Instr.findKey k (kv a) L).run P w = .ok (findP (kv a) L 0) w
def BornL (L : List MapEntry) (c : Nat) : Prop := ∀ (i : Nat) (e : MapEntry), L[i]? = some e → e.born < c ∧ ∀ (j : Nat) (e' : MapEntry), L[j]? = some e' → e'.born = e.born → j = i
structure Ents {κ : Type} (kv : κ → Value) (w : World) (g : Nat) (L : List MapEntry) (c : Nat) : Prop where
  at_ : w.heap[g]? = some (.map L.toArray c)
  keys : ∀ e ∈ L, ∃ q, e.key = kv q
  born : BornL L c
def MapG {κ : Type} (kv : κ → Value) (w : World) (g : Nat) (f : κ → Option Value) : Prop := ∃ L c, Ents kv w g L c ∧ ∀ a, lookP (kv a) L = f a
section
variable {P : Program} {κ : Type} {kv : κ → Value}
theorem MapG.lt {w : World} {g : Nat} {f : κ → Option Value} (h : MapG kv w g f) : g < w.heap.size := by obtain ⟨L, c, h, _⟩ := h; exact (Array.getElem?_eq_some_iff.1 h.at_).1
theorem Ents.kept {D : Nat → Prop} {w w' : World} {g : Nat} {L : List MapEntry} {c : Nat} (h : Ents kv w g L c) (k : Kept D w w') (hD : D g) : Ents kv w' g L c :=
  ⟨(k.blk g (Array.getElem?_eq_some_iff.1 h.at_).1 hD).trans h.at_, h.keys, h.born⟩
noncomputable def pset (f : κ → Option Value) (a : κ) (v : Value) : κ → Option Value := fun b => if b = a then some v else f b
theorem mapOf_spec {t k e : TypeId} (hm : mapOf P t = some (k, e)) : P.underlying t = some (.map k e) := by
  unfold mapOf at hm
  split at hm
  · rename_i k' e' hu; simp only [Option.some.injEq, Prod.mk.injEq] at hm; obtain ⟨rfl, rfl⟩ := hm; exact hu
  · cases hm
theorem run_lookupG {t k e : TypeId} {zv : Value} (hm : P.underlying t = some (.map k e)) [hk : KeyL P k kv] (hz : zeroOf P e = some zv) {w : World} {g : Nat} {f : κ → Option Value} (h : MapG kv w g f) (a : κ) (ok : Bool) :
    (Instr.lookup t (.map (some g)) (kv a) ok).run P w = .ok (match f a with | some v => (if ok then .tuple #[v, .bool true] else v) | none => (if ok then .tuple #[zv, .bool false] else zv)) w := by
  obtain ⟨L, c, hE, hf⟩ := h; unfold Instr.lookup; simp only [Sem.run_bind, run_underlying hm, Result.andThen_ok, MapKept.run_getObj_map hE.at_, Sem.run_pure, hk.chk]; have hfn := hk.fnd a L w hE.keys; rw [← hf a, hfn]; unfold lookP
  cases hp : findP (kv a) L 0 with
  | none => simp only [Result.andThen_ok, Sem.run_bind, run_zeroValue' hz, Sem.run_pure, Option.map_none]
  | some p => obtain ⟨n, x⟩ := p; simp only [Result.andThen_ok, Sem.run_bind, Sem.run_pure, Option.map_some]
theorem lookG1 {S : World → Prop} {t k e : TypeId} {zv : Value} [hm : MapTy P t k e] [hk : KeyL P k kv] [hz : ZeroTy P e zv] {g : Nat} (a : κ) {K : Value → Prop} (v : Value) (h : ∀ u, S u → ∃ f : κ → Option Value, MapG kv u g f ∧ (f a).getD zv = v) (kk : K v) : LookG P S t (.map (some g)) (kv a) false K := by
  rw [LookG_eq]; refine ⟨v, fun w hw w0 e0 => ?_, kk⟩; subst e0; obtain ⟨f, h1, h2⟩ := h _ hw; have := run_lookupG (mapOf_spec hm.h) hz.h (w := w0) (show MapG kv w0 g f from by obtain ⟨L, c, hE, hf⟩ := h1; exact ⟨L, c, ⟨hE.at_, hE.keys, hE.born⟩, hf⟩) a false; rw [run_vS, this]
  cases hf : f a with
  | none => rw [hf] at h2; exact ⟨h2, rfl⟩
  | some x => rw [hf] at h2; exact ⟨h2, rfl⟩
theorem BornL.push {L : List MapEntry} {c : Nat} (h : BornL L c) (k v : Value) : BornL (L ++ [(mkE (k) v c)]) (c + 1) := by
  intro i e he
  have hi : i < L.length + 1 := by have := (List.getElem?_eq_some_iff.1 he).1; simpa using this
  by_cases h1 : i < L.length
  · rw [List.getElem?_append_left h1] at he; obtain ⟨h2, h3⟩ := h i e he; refine ⟨by omega, fun j e' hj hb => ?_⟩
    by_cases h4 : j < L.length
    · rw [List.getElem?_append_left h4] at hj; exact h3 j e' hj hb
    · rw [List.getElem?_append_right (by omega)] at hj
      have : e' = (mkE (k) v c) := by
        have hl := (List.getElem?_eq_some_iff.1 hj).1
        have : j - L.length = 0 := by simpa using hl
        rw [this] at hj; simpa using hj.symm
      subst this; simp only at hb; omega
  · have hi' : i = L.length := by omega
    subst hi'
    have he' : e = (mkE (k) v c) := by rw [List.getElem?_append_right (by omega)] at he; simpa using he.symm
    subst he'; refine ⟨Nat.lt_succ_self c, fun j e' hj hb => ?_⟩
    by_cases h4 : j < L.length
    · rw [List.getElem?_append_left h4] at hj; have := (h j e' hj).1; simp only at hb; omega
    · have := (List.getElem?_eq_some_iff.1 hj).1; simp at this; omega
theorem BornL.modify {L : List MapEntry} {c : Nat} (h : BornL L c) (j : Nat) (v : Value) : BornL (L.modify j fun e => { e with val := v }) c := by
  have key : ∀ (i : Nat) (e : MapEntry), (L.modify j fun e => { e with val := v })[i]? = some e → ∃ e0, L[i]? = some e0 ∧ e.born = e0.born := by
    intro i e he; rw [List.getElem?_modify] at he
    cases hL : L[i]? with
    | none => rw [hL] at he; cases he
    | some e0 =>
      rw [hL] at he; simp only [Option.map_eq_map, Option.map_some, Option.some.injEq] at he; refine ⟨e0, rfl, ?_⟩; subst he
      split <;> rfl
  intro i e he; obtain ⟨e0, h1, h2⟩ := key i e he; obtain ⟨h3, h4⟩ := h i e0 h1; refine ⟨by omega, fun j' e' hj hb => ?_⟩; obtain ⟨e1, h5, h6⟩ := key j' e' hj; exact h4 j' e1 h5 (by omega)
theorem keys_modify {L : List MapEntry} (h : ∀ e ∈ L, ∃ q, e.key = kv q) (j : Nat) (v : Value) : ∀ e ∈ (L.modify j fun e => { e with val := v }), ∃ q, e.key = kv q := by
  intro y hy; obtain ⟨m, hm'⟩ := List.getElem?_of_mem hy; rw [List.getElem?_modify] at hm'
  cases hLm : L[m]? with
  | none => rw [hLm] at hm'; cases hm'
  | some y0 =>
    rw [hLm] at hm'; simp only [Option.map_eq_map, Option.map_some, Option.some.injEq] at hm'; obtain ⟨q, hq⟩ := h y0 (List.mem_of_getElem? hLm); refine ⟨q, ?_⟩; subst hm'
    split
    · exact hq
    · exact hq
theorem modify_same {L : List MapEntry} {j : Nat} {e : MapEntry} {k : Value} (h : L[j]? = some e) (hk : e.key = k) : (L.modify j fun e => { e with key := k }) = L := by
  apply List.ext_getElem?; intro m; rw [List.getElem?_modify]
  by_cases hm : j = m
  · subst hm; rw [h]; subst hk; simp
  · cases L[m]? <;> simp [hm]
theorem modify_both {L : List MapEntry} {j : Nat} {e : MapEntry} {k v : Value} (h : L[j]? = some e) (hk : e.key = k) : (L.modify j fun e => { e with key := k, val := v }) = L.modify j fun e => { e with val := v } := by
  apply List.ext_getElem?; intro m; rw [List.getElem?_modify, List.getElem?_modify]
  by_cases hm : j = m
  · subst hm; rw [h]; subst hk; rfl
  · cases L[m]? <;> simp [hm]
theorem heap_set {w0 : World} {g : Nat} {L : List MapEntry} {c : Nat} {o : Obj} (hb : w0.heap[g]? = some (.map L.toArray c)) : Kept (fun b => b ≠ g) (z w0) (z { w0 with heap := w0.heap.setIfInBounds g o }) ∧ (z { w0 with heap := w0.heap.setIfInBounds g o }).heap[g]? = some o := by
  have hlt := (Array.getElem?_eq_some_iff.1 hb).1
  exact ⟨⟨rfl, rfl, rfl, by simp [z], fun b hb1 hne => by
    show (w0.heap.setIfInBounds g _)[b]? = w0.heap[b]?
    rw [Array.getElem?_setIfInBounds_ne (fun e => hne e.symm)]⟩, by simp [z, hlt]⟩
end
end Go.Proofs.YtehcphboliofaaaGreatDoor
namespace Go.Proofs.YtehcphboliofaaaGreatDoor
open Go Go.RowKit
section
variable {P : Program} {X : XK}
theorem slcA {t e : TypeId} {sz : Nat} [hst : SliceTy P t e sz] {g o n c : Nat} {lo hi : Option Value} {K : Value → Prop} (l h : Nat) (hlo : IsB lo l 0) (hhi : IsB hi h n) (h1 : l ≤ h) (h2 : h ≤ c) (hlc : l < c)
    (kk : K (.slice (some (ad g (o + l * sz))) (h - l) (c - l))) : SlcP P t (.slice (some (ad g o)) n c) lo hi none K := by
  rw [SlcP_eq]; obtain ⟨hu, inf, hinf, hs'⟩ := sliceOf_spec hst.h; refine pure_vval (fun w => ?_) kk; unfold Instr.sliceAt; rw [Sem.run_bind, run_underlying hu]; simp only [Result.andThen_ok]; unfold Instr.slice; rw [Sem.run_bind, run_underlying hu]; simp only [Result.andThen_ok]; rw [Sem.run_bind, run_sliceBounds hlo hhi h1 h2]; simp only [Result.andThen_ok]; rw [Sem.run_bind, run_sizeOf hinf, hs']
  have : ¬ (c = l) := by omega
  show Result.ok (Value.slice (if c = l then some (ad g o) else (some (ad g o)).map (·.add (l * sz))) (h - l) (c - l)) w = _; rw [if_neg this]; show Result.ok (Value.slice (some ((ad g o).add (l * sz))) (h - l) (c - l)) w = _; rw [add_ad]
end
end Go.Proofs.YtehcphboliofaaaGreatDoor
namespace Go.Proofs.YtehcphboliofaaaGreatDoor
open Go Go.RowKit Go.ChangeMaps
theorem BornL.nodup {L : List MapEntry} {c : Nat} (h : BornL L c) : (L.map (·.born)).Nodup := by
  rw [List.nodup_iff_pairwise_ne, List.pairwise_map, List.pairwise_iff_getElem]; intro i j hi hj hij e; have := (h i L[i] (List.getElem?_eq_getElem hi)).2 j L[j] (List.getElem?_eq_getElem hj) e.symm; omega
def IterM (w : World) (r g c : Nat) (seen : List Nat) : Prop := w.heap[r]? = some (.mapIter (some g) c seen.toArray c)
theorem IterM.kept {D : Nat → Prop} {w w' : World} {r g c : Nat} {seen : List Nat} (h : IterM w r g c seen) (k : Kept D w w') (hD : D r) : IterM w' r g c seen :=
  (k.blk r (Array.getElem?_eq_some_iff.1 h).1 hD).trans h
theorem heap_set2 {w0 : World} {g : Nat} {o0 o : Obj} (hb : w0.heap[g]? = some o0) : Kept (fun b => b ≠ g) (z w0) (z { w0 with heap := w0.heap.setIfInBounds g o }) ∧ (z { w0 with heap := w0.heap.setIfInBounds g o }).heap[g]? = some o := by
  have hlt := (Array.getElem?_eq_some_iff.1 hb).1
  exact ⟨⟨rfl, rfl, rfl, by simp [z], fun b hb1 hne => by
    show (w0.heap.setIfInBounds g _)[b]? = w0.heap[b]?
    rw [Array.getElem?_setIfInBounds_ne (fun e => hne e.symm)]⟩, by simp [z, hlt]⟩
section
variable {P : Program} {κ : Type} {kv : κ → Value}
theorem rngM {t k e : TypeId} [hm : MapTy P t k e] {s : Sem Next} {g c : Nat} {L : List MapEntry} {w : World} {K : VK} {X : XK} (hs : s = vS (Instr.range t (.map (some g)))) (h : Ents kv w g L c)
    (kk : ∀ w', Ents kv w' g L c → IterM w' w.heap.size g c [] → Ext w w' → w'.heap.size = w.heap.size + 1 → K (.pointer (some (ad w.heap.size 0))) w') : OthP P s K X w := by
  subst hs; rw [OthP_eq]; refine OpS.x fun w0 hw => ?_; subst hw; have hb : w0.heap[g]? = some (.map L.toArray c) := h.at_; rw [run_vS]; unfold Instr.range; simp only [Sem.run_bind, run_underlying (mapOf_spec hm.h), Result.andThen_ok, MapKept.run_getObj_map hb, Sem.run_pure, run_newObj]
  have x : Ext (z w0) (z (w0.alloc (.mapIter (some g) c #[] c))) := ⟨rfl, rfl, rfl, by show w0.heap.size ≤ (w0.heap.push _).size; simp, fun i hi _ => by
    show (w0.heap.push _)[i]? = w0.heap[i]?
    rw [Array.getElem?_push, if_neg (by have : i < w0.heap.size := hi; omega)]⟩
  exact kk _ (h.kept x trivial) (by show (w0.heap.push _)[w0.heap.size]? = _; simp) x (by show (w0.heap.push _).size = w0.heap.size + 1; simp)
theorem nxtM {ty : TypeId} {s : Sem Next} {r g c : Nat} {seen : List Nat} {L : List MapEntry} {w : World} {K : VK} {X : XK} (hs : s = vS (Instr.next (.pointer (some (ad r 0))) false ty)) (h : Ents kv w g L c) (hi : IterM w r g c seen)
    (k1 : (∀ e ∈ L, e.born ∈ seen) → K (.tuple #[.bool false]) w)
    (k2 : ∀ e ∈ L, e.born ∉ seen → ∀ w', Ents kv w' g L c → IterM w' r g c (seen ++ [e.born]) → Kept (fun b => b ≠ r) w w' → w'.heap.size = w.heap.size → K (.tuple #[.bool true, e.key, e.val]) w') : OthP P s K X w := by
  subst hs; rw [OthP_eq]; refine OpS.x fun w0 hw => ?_; subst hw; have hb : w0.heap[g]? = some (.map L.toArray c) := h.at_; have hr : w0.heap[r]? = some (.mapIter (some g) c seen.toArray c) := hi
  have hrg : r ≠ g := fun e => by rw [e, hb] at hr; cases hr
  have hold : ∀ x ∈ L.toArray.toList, x.born < c := fun x hx => by
    obtain ⟨i, hi⟩ := List.getElem?_of_mem (show x ∈ L from hx); exact (h.born i x hi).1
  have hmem : ∀ x, x ∈ (leftOf L.toArray seen.toArray).toList ↔ x ∈ L ∧ x.born ∉ seen := fun x => by
    unfold leftOf; simp
  rw [run_vS]; rcases run_next_at (P := P) w0 ty r g c c seen.toArray L.toArray c hr hb hold (Nat.le_refl _) with ⟨h0, hrun⟩ | ⟨e, he, w1, hw1, hrun⟩
  · rw [hrun]; refine k1 fun e he => Classical.byContradiction fun hn => ?_; have := (hmem e).2 ⟨he, hn⟩; rw [Array.eq_empty_of_size_eq_zero h0] at this
    cases this
  · rw [hrun]; obtain ⟨h1, h2⟩ := (hmem e).1 he
    have hh : z (setBlock w1 r (.mapIter (some g) c (seen.toArray.push e.born) c)) = z { w0 with heap := w0.heap.setIfInBounds r (.mapIter (some g) c (seen ++ [e.born]).toArray c) } := by
      rw [List.push_toArray]; rcases hw1 with rfl | rfl <;> rfl
    show K _ (z _); rw [hh]; obtain ⟨q1, q2⟩ := heap_set2 (o := .mapIter (some g) c (seen ++ [e.born]).toArray c) hr; exact k2 e h1 h2 _ (h.kept q1 fun e => hrg e.symm) q2 q1 (by simp [z])
theorem entM {s : Sem Next} {r g c : Nat} {seen : List Nat} {L : List MapEntry} {e : MapEntry} {w : World} {K : VK} {X : XK} (hs : s = vS (Instr.entry (.pointer (some (ad r 0))))) (h : Ents kv w g L c) (he : e ∈ L) (hi : IterM w r g c (seen ++ [e.born]))
    (k1 : K (.tuple #[e.key, e.val]) w) : OthP P s K X w := by
  subst hs; rw [OthP_eq]; refine OpS.x fun w0 hw => ?_; subst hw
  have hr : w0.heap[r]? = some (.mapIter (some g) c (seen.toArray.push e.born) c) := by rw [List.push_toArray]; exact hi
  rw [run_vS, run_entry_at (P := P) w0 r g c seen.toArray L.toArray c e hr h.at_ (by simpa using he) h.born.nodup]; exact k1
theorem Ents.new (kv : κ → Value) (w : World) : Ents kv (w.alloc (.map #[] 0)) w.heap.size [] 0 := ⟨by unfold World.alloc; simp, fun _ h => (by cases h), fun i e h => by simp at h⟩
end
end Go.Proofs.YtehcphboliofaaaGreatDoor
namespace Go.Proofs.YtehcphboliofaaaGreatDoor
open Go Go.RowKit
theorem u8_wrap (n : Int) : IntKind.u8.wrap n = n % 256 := by simp [IntKind.wrap, IntKind.bits, IntKind.signed]
theorem u32_wrap (n : Int) : IntKind.u32.wrap n = n % 4294967296 := by simp [IntKind.wrap, IntKind.bits, IntKind.signed]
theorem ofInt_nat {k a : Nat} (h : a < 2 ^ k) : (BitVec.ofInt k (a : Int)).toNat = a := by rw [BitVec.ofInt_natCast, BitVec.toNat_ofNat]; exact Nat.mod_eq_of_lt h
theorem u32_and_nat (a b : Nat) (ha : a < 4294967296) (hb : b < 4294967296) : bits .and .u32 (a : Int) (b : Int) = ((a &&& b : Nat) : Int) := by
  have hx : a &&& b < 2 ^ 32 := Nat.and_lt_two_pow _ (by omega); show IntKind.u32.wrap ((BitVec.ofInt 32 (a : Int) &&& BitVec.ofInt 32 (b : Int)).toNat : Int) = _; rw [BitVec.toNat_and, ofInt_nat (by omega), ofInt_nat (by omega), u32_wrap]; omega
theorem u32_or_nat (a b : Nat) (ha : a < 4294967296) (hb : b < 4294967296) : bits .or .u32 (a : Int) (b : Int) = ((a ||| b : Nat) : Int) := by
  have hx : a ||| b < 2 ^ 32 := Nat.or_lt_two_pow (by omega) (by omega); show IntKind.u32.wrap ((BitVec.ofInt 32 (a : Int) ||| BitVec.ofInt 32 (b : Int)).toNat : Int) = _; rw [BitVec.toNat_or, ofInt_nat (by omega), ofInt_nat (by omega), u32_wrap]; omega
theorem u32_xor_nat (a b : Nat) (ha : a < 4294967296) (hb : b < 4294967296) : bits .xor .u32 (a : Int) (b : Int) = ((a ^^^ b : Nat) : Int) := by
  have hx : a ^^^ b < 2 ^ 32 := Nat.xor_lt_two_pow (by omega) (by omega); show IntKind.u32.wrap ((BitVec.ofInt 32 (a : Int) ^^^ BitVec.ofInt 32 (b : Int)).toNat : Int) = _; rw [BitVec.toNat_xor, ofInt_nat (by omega), ofInt_nat (by omega), u32_wrap]; omega
theorem u64_or_nat (a b : Nat) (ha : a < 18446744073709551616) (hb : b < 18446744073709551616) : bits .or .u64 (a : Int) (b : Int) = ((a ||| b : Nat) : Int) := by
  have hx : a ||| b < 2 ^ 64 := Nat.or_lt_two_pow (by omega) (by omega); show IntKind.u64.wrap ((BitVec.ofInt 64 (a : Int) ||| BitVec.ofInt 64 (b : Int)).toNat : Int) = _; rw [BitVec.toNat_or, ofInt_nat (by omega), ofInt_nat (by omega), u64_wrap]; omega
theorem u64_xor_nat (a b : Nat) (ha : a < 18446744073709551616) (hb : b < 18446744073709551616) : bits .xor .u64 (a : Int) (b : Int) = ((a ^^^ b : Nat) : Int) := by
  have hx : a ^^^ b < 2 ^ 64 := Nat.xor_lt_two_pow (by omega) (by omega); show IntKind.u64.wrap ((BitVec.ofInt 64 (a : Int) ^^^ BitVec.ofInt 64 (b : Int)).toNat : Int) = _; rw [BitVec.toNat_xor, ofInt_nat (by omega), ofInt_nat (by omega), u64_wrap]; omega
theorem u8_or_nat (a b : Nat) (ha : a < 256) (hb : b < 256) : bits .or .u8 (a : Int) (b : Int) = ((a ||| b : Nat) : Int) := by
  have hx : a ||| b < 2 ^ 8 := Nat.or_lt_two_pow (by omega) (by omega); show IntKind.u8.wrap ((BitVec.ofInt 8 (a : Int) ||| BitVec.ofInt 8 (b : Int)).toNat : Int) = _; rw [BitVec.toNat_or, ofInt_nat (by omega), ofInt_nat (by omega), u8_wrap]; omega
theorem u8_and_nat (a b : Nat) (ha : a < 256) (hb : b < 256) : bits .and .u8 (a : Int) (b : Int) = ((a &&& b : Nat) : Int) := by
  have hx : a &&& b < 2 ^ 8 := Nat.and_lt_two_pow _ (by omega); show IntKind.u8.wrap ((BitVec.ofInt 8 (a : Int) &&& BitVec.ofInt 8 (b : Int)).toNat : Int) = _; rw [BitVec.toNat_and, ofInt_nat (by omega), ofInt_nat (by omega), u8_wrap]; omega
abbrev uv32 (n : Nat) : Value := .int .u32 (n : Int)
abbrev uv64 (n : Nat) : Value := .int .u64 (n : Int)
abbrev uv8 (n : Nat) : Value := .int .u8 (n : Int)
section
variable {K : Value → Prop}
theorem add32 {a b : Nat} (k : K (uv32 ((a + b) % 4294967296))) : ArP .u32 ((a : Int) + (b : Int)) K := by
  rw [ArP_eq, u32_wrap, show ((a : Int) + (b : Int)) % 4294967296 = (((a + b) % 4294967296 : Nat) : Int) by omega]; exact k
theorem xor32 {a b : Nat} (ha : a < 4294967296) (hb : b < 4294967296) (k : K (uv32 (a ^^^ b))) : BitP .xor .u32 (a : Int) (b : Int) K := bitR _ (u32_xor_nat a b ha hb) k
theorem and32 {a b : Nat} (ha : a < 4294967296) (hb : b < 4294967296) (k : K (uv32 (a &&& b))) : BitP .and .u32 (a : Int) (b : Int) K := bitR _ (u32_and_nat a b ha hb) k
theorem or32 {a b : Nat} (ha : a < 4294967296) (hb : b < 4294967296) (k : K (uv32 (a ||| b))) : BitP .or .u32 (a : Int) (b : Int) K := bitR _ (u32_or_nat a b ha hb) k
theorem xor64 {a b : Nat} (ha : a < 18446744073709551616) (hb : b < 18446744073709551616) (k : K (uv64 (a ^^^ b))) : BitP .xor .u64 (a : Int) (b : Int) K := bitR _ (u64_xor_nat a b ha hb) k
theorem and64 {a b : Nat} (ha : a < 18446744073709551616) (hb : b < 18446744073709551616) (k : K (uv64 (a &&& b))) : BitP .and .u64 (a : Int) (b : Int) K := bitR _ (u64_and_nat a b ha hb) k
theorem or64 {a b : Nat} (ha : a < 18446744073709551616) (hb : b < 18446744073709551616) (k : K (uv64 (a ||| b))) : BitP .or .u64 (a : Int) (b : Int) K := bitR _ (u64_or_nat a b ha hb) k
theorem or8 {a b : Nat} (ha : a < 256) (hb : b < 256) (k : K (uv8 (a ||| b))) : BitP .or .u8 (a : Int) (b : Int) K := bitR _ (u8_or_nat a b ha hb) k
theorem and8 {a b : Nat} (ha : a < 256) (hb : b < 256) (k : K (uv8 (a &&& b))) : BitP .and .u8 (a : Int) (b : Int) K := bitR _ (u8_and_nat a b ha hb) k
theorem shr_val {kd : IntKind} {a : Nat} {b : Int} {c : Nat} (hb : b = (c : Int)) (hc : c ≤ kd.bits) : (a : Int).fdiv (2 ^ (min b.toNat kd.bits)) = ((a >>> c : Nat) : Int) := by
  subst hb; rw [Int.toNat_natCast, Nat.min_eq_left hc]
  have : ((2 : Int) ^ c) = ((2 ^ c : Nat) : Int) := by simp
  rw [this, Nat.shiftRight_eq_div_pow, Int.fdiv_eq_ediv_of_nonneg _ (Int.natCast_nonneg _)]
  rfl
theorem shr32 {a : Nat} {b : Int} (c : Nat) (hb : b = (c : Int)) (hc : c ≤ 32) (k : K (uv32 (a >>> c))) : ShrP .u32 (a : Int) b K := by
  rw [ShrP_eq, shr_val (kd := .u32) hb hc]; exact ⟨by omega, k⟩
theorem shr64 {a : Nat} {b : Int} (c : Nat) (hb : b = (c : Int)) (hc : c ≤ 64) (k : K (uv64 (a >>> c))) : ShrP .u64 (a : Int) b K := by
  rw [ShrP_eq, shr_val (kd := .u64) hb hc]; exact ⟨by omega, k⟩
theorem shl_val {kd : IntKind} {a : Nat} {b : Int} {c : Nat} (hb : b = (c : Int)) (hc : c ≤ kd.bits) : (a : Int) * 2 ^ (min b.toNat kd.bits) = ((a <<< c : Nat) : Int) := by
  subst hb; rw [Int.toNat_natCast, Nat.min_eq_left hc, Nat.shiftLeft_eq]; simp
theorem shl32 {a : Nat} {b : Int} (c : Nat) (hb : b = (c : Int)) (hc : c ≤ 32) (k : K (uv32 ((a <<< c) % 4294967296))) : ShlP .u32 (a : Int) b K := by
  rw [ShlP_eq, shl_val (kd := .u32) hb hc, u32_wrap, show (((a <<< c : Nat) : Int)) % 4294967296 = (((a <<< c) % 4294967296 : Nat) : Int) by omega]; exact ⟨by omega, k⟩
theorem shl64 {a : Nat} {b : Int} (c : Nat) (hb : b = (c : Int)) (hc : c ≤ 64) (k : K (uv64 ((a <<< c) % 18446744073709551616))) : ShlP .u64 (a : Int) b K := by
  rw [ShlP_eq, shl_val (kd := .u64) hb hc, u64_wrap, show (((a <<< c : Nat) : Int)) % 18446744073709551616 = (((a <<< c) % 18446744073709551616 : Nat) : Int) by omega]; exact ⟨by omega, k⟩
variable {P : Program}
theorem cv32 {s t : TypeId} {k0 : IntKind} {n : Int} [IntTy P s k0] [IntTy P t .u32] (a : Nat) (h : n = (a : Int)) (k : K (uv32 (a % 4294967296))) : ConvP P s t (.int k0 n) K :=
  conv (by rw [u32_wrap, h, show (a : Int) % 4294967296 = ((a % 4294967296 : Nat) : Int) by omega]; exact k)
theorem cv64 {s t : TypeId} {k0 : IntKind} {n : Int} [IntTy P s k0] [IntTy P t .u64] (a : Nat) (h : n = (a : Int)) (k : K (uv64 (a % 18446744073709551616))) : ConvP P s t (.int k0 n) K :=
  conv (by rw [u64_wrap, h, show (a : Int) % 18446744073709551616 = ((a % 18446744073709551616 : Nat) : Int) by omega]; exact k)
theorem cv8 {s t : TypeId} {k0 : IntKind} {n : Int} [IntTy P s k0] [IntTy P t .u8] (a : Nat) (h : n = (a : Int)) (k : K (uv8 (a % 256))) : ConvP P s t (.int k0 n) K :=
  conv (by rw [u8_wrap, h, show (a : Int) % 256 = ((a % 256 : Nat) : Int) by omega]; exact k)
theorem cvI {s t : TypeId} {k0 : IntKind} {n : Int} [IntTy P s k0] [IntTy P t .i64] (h : -9223372036854775808 ≤ n ∧ n ≤ 9223372036854775807) (k : K (.int .i64 n)) : ConvP P s t (.int k0 n) K :=
  conv (by rw [IntWalk.i64_in n h]; exact k)
end
def tU8 : Ty Nat where
  sz := 1
  rep _ _ cs x := cs = [uv8 x] ∧ x < 256
  len h := by rw [h.1]; rfl
  keep _ h := h
  more _ h := h
abbrev u8s (l : List Nat) : List Value := l.map fun n : Nat => uv8 n
theorem flat_u8s {D : Nat → Prop} {w : World} : ∀ {xs : List Nat}, (∀ x ∈ xs, x < 256) → FlatR tU8 D w xs (u8s xs)
  | [], _ => rfl
  | x :: xs, h => ⟨[uv8 x], u8s xs, rfl, ⟨rfl, h x List.mem_cons_self⟩, flat_u8s fun y hy => h y (List.mem_cons_of_mem _ hy)⟩
theorem flat_u8_eq {D : Nat → Prop} {w : World} : ∀ {xs : List Nat} {cs : List Value}, FlatR tU8 D w xs cs → cs = u8s xs ∧ ∀ x ∈ xs, x < 256
  | [], _, h => ⟨h, fun x hx => (by cases hx)⟩
  | x :: xs, _, ⟨c, r, h, ⟨h1, h1'⟩, h2⟩ => by
    obtain ⟨h3, h4⟩ := flat_u8_eq h2
    refine ⟨by rw [h, h1, h3]; rfl, fun y hy => ?_⟩
    rcases List.mem_cons.1 hy with rfl | hy
    · exact h1'
    · exact h4 y hy
theorem SlR.u8b {D : Nat → Prop} {w : World} {A : Option Addr} {n : Nat} {xs : List Nat} (h : SlR tU8 D w A n xs) : ∀ x ∈ xs, x < 256 := fun x hx => by
  obtain ⟨i, hi⟩ := List.getElem?_of_mem hx
  obtain ⟨b, o, cs, -, -, -, h4⟩ := h.2.2 i x hi
  exact h4.2
theorem SlR.u8src {D : Nat → Prop} {w : World} {A : Option Addr} {n : Nat} {xs : List Nat} (h : SlR tU8 D w A n xs) : Src w A n 1 (u8s xs) := by
  refine ⟨by rw [List.length_map, h.len]; omega, fun h0 => ?_⟩; obtain ⟨b, o, cs, x, rfl, -⟩ := h.at_ h0; obtain ⟨cs, hf, hc⟩ := h.cells; exact ⟨b, o, rfl, by rw [← (flat_u8_eq hf).1]; exact hc⟩
theorem u8s_one : ∀ (s : List Nat), ((u8s s).all fun u => u.oneCell') = true
  | [] => rfl
  | p :: s => by
    show (Value.oneCell' _ && (u8s s).all _) = true
    rw [u8s_one s]; rfl
theorem OwnF.u8 {w0 w : World} {A : Option Addr} {n c : Nat} {e : TypeId} {xs : List Nat} {D : Nat → Prop} (h : OwnF w0 w A n c e 1 (u8s xs)) (hx : ∀ x ∈ xs, x < 256) (hle : n ≤ 140737488355328) (hD : ∀ b, w0.heap.size ≤ b → D b) : SlR tU8 D w A n xs :=
  Own.rd (a := tU8) (e := e) h.own (flat_u8s hx) (by have := h.own.len; simpa using this.symm) hle fun g hg => hD g (h.new g hg)
end Go.Proofs.YtehcphboliofaaaGreatDoor
