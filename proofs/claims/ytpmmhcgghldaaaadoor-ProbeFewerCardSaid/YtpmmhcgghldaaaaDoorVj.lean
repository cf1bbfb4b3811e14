/- Own layer, part j: rules put together. Nothing of the program stands here. -/
import Derived.Test.YtpmmhcgghldaaaaDoorVi
import Derived.Test.YtpmmhcgghldaaaaDoorVg
import Derived.Laws.Tables
namespace Go.Proofs.YtpmmhcgghldaaaaDoor
open Go Go.RowKit

section
variable {P : Program}
/-- A call that leaves the world alone and hands back a truth. -/
theorem callB {f : FuncId} [h : Enters P f] {args : Array Value} {w : World} {K : VK} {b : Bool} (c : CallZ P f args w (fun v w' => v = .bool b ∧ w' = w)) (k1 : b = true → K (.bool true) w) (k2 : b = false → K (.bool false) w) : CallP P f args K w :=
  call_of c fun v w' ⟨e1, e2⟩ => by
    subst e1; subst e2
    cases b with
    | true => exact k1 rfl
    | false => exact k2 rfl
theorem callQB {S : World → Prop} {f : FuncId} [h : Enters P f] {args : Array Value} {K : Value → Prop} {b : Bool} (c : ∀ w, S w → CallZ P f args w (fun u w' => u = .bool b ∧ w' = w)) (k1 : b = true → K (.bool true)) (k2 : b = false → K (.bool false)) : CallQ P S f args K :=
  callQ (v := .bool b) c (by
    cases b with
    | true => exact k1 rfl
    | false => exact k2 rfl)
/-- .. that leaves alone what was there. -/
theorem callE {f : FuncId} [h : Enters P f] {args : Array Value} {w : World} {K : VK} {b : Bool} (c : CallZ P f args w (fun v w' => v = .bool b ∧ Ext w w')) (k1 : ∀ w', b = true → Ext w w' → K (.bool true) w') (k2 : ∀ w', b = false → Ext w w' → K (.bool false) w') : CallP P f args K w :=
  call_of c fun v w' ⟨e1, e2⟩ => by
    subst e1
    cases b with
    | true => exact k1 w' rfl e2
    | false => exact k2 w' rfl e2

/-- Loads of what was there, under 'every block that was there is kept'. -/
theorem ldAX {t : TypeId} {n : Nat} [AggTy P t n] {w0 w : World} {b o : Nat} (cs : List Value) {K : Value → Prop} (hc : CellsAt w b o cs) (hn : cs.length = n) (hx : Ext w w0) (k : K (.agg cs.toArray)) : LoadG P (fun u => Ext w0 u) t (.pointer (some (ad b o))) K :=
  ldAS cs (fun _ hu => hc.kept (hx.ext hu) trivial) hn k
theorem CellsAt.blk {w : World} {g : Nat} {t : TypeId} {cs : List Value} (h : Blk w g t cs) : CellsAt w g 0 cs := fun j v hv => by rw [Nat.zero_add]; exact h.cell hv

theorem run_equalB {t : TypeId} [h : BoolTy P t] (a b : Bool) (w : World) : (Op.equal t (.bool a) (.bool b)).run P w = .ok (a == b) w := by
  have hu : P.underlying t = some .bool := by have := h.h; unfold isBoo at this; split at this <;> simp_all
  unfold Op.equal
  rw [show Op.maxDepth = (Op.maxDepth - 1) + 1 from rfl]
  rw [Op.equalIn, Sem.run_bind, run_underlying hu]
  rfl
theorem run_eqB {t : TypeId} [BoolTy P t] (xo yo : Operand) (a b : Bool) (w : World) : (do eqGuard .eql t xo yo (.bool a) (.bool b); binOp .eql t (.bool a) (.bool b) : Sem Value).run P w = .ok (.bool (a == b)) w := by
  have h1 : (eqGuard .eql t xo yo (.bool a) (.bool b)).run P w = .ok () w := rfl
  have h2 : binOp .eql t (.bool a) (.bool b) = (do pure (.bool (← Op.equal t (.bool a) (.bool b)))) := rfl
  rw [Sem.run_bind, h1, h2]
  simp only [Result.andThen_ok, Sem.run_bind, run_equalB, Sem.run_pure]
theorem run_neB {t : TypeId} [BoolTy P t] (xo yo : Operand) (a b : Bool) (w : World) : (do eqGuard .neq t xo yo (.bool a) (.bool b); binOp .neq t (.bool a) (.bool b) : Sem Value).run P w = .ok (.bool (!(a == b))) w := by
  have h1 : (eqGuard .neq t xo yo (.bool a) (.bool b)).run P w = .ok () w := rfl
  have h2 : binOp .neq t (.bool a) (.bool b) = (do pure (.bool (!(← Op.equal t (.bool a) (.bool b))))) := rfl
  rw [Sem.run_bind, h1, h2]
  simp only [Result.andThen_ok, Sem.run_bind, run_equalB, Sem.run_pure]
/-- Truths compared. -/
theorem eqB {t : TypeId} [h : BoolTy P t] {xo yo : Operand} {a b : Bool} {K : Value → Prop} (k1 : a = b → K (.bool true)) (k2 : a ≠ b → K (.bool false)) : BinP P .eql t xo yo (.bool a) (.bool b) K := by
  rw [BinP_eq]
  refine pure_vval (fun w => run_eqB xo yo a b w) ?_
  by_cases e : a = b
  · subst e; rw [beq_self_eq_true]; exact k1 rfl
  · rw [beq_eq_false_iff_ne.2 e]; exact k2 e
theorem neB {t : TypeId} [h : BoolTy P t] {xo yo : Operand} {a b : Bool} {K : Value → Prop} (k1 : a ≠ b → K (.bool true)) (k2 : a = b → K (.bool false)) : BinP P .neq t xo yo (.bool a) (.bool b) K := by
  rw [BinP_eq]
  refine pure_vval (fun w => run_neB xo yo a b w) ?_
  by_cases e : a = b
  · subst e; rw [beq_self_eq_true]; exact k2 rfl
  · rw [beq_eq_false_iff_ne.2 e]; exact k1 e

/-- A struct or an array put together. -/
theorem bld {t : TypeId} {ps : Array (Nat × Value)} {K : Value → Prop} (cs : List Value) (h : P.built t ps.toList = some cs.toArray) (k : K (.agg cs.toArray)) : BldP P t ps K := by
  rw [BldP_eq]
  exact pure_vval (fun w => run_build w t ps cs.toArray h) k

/-- A drawn region, what lies in D kept: the order, and what of it is no read. -/
theorem drawK (D : Nat → Prop) (os es : List Nat) {ops : Array Oper} {K : Fr → World → Prop} {F : Fr} {w : World} (hm : P.follows .mixedOrders = true) (hok : drawOk ops [] (ordPlan es os) = true)
    (h : VPlan P ops.toList K (ordPlan es os) (fun u => Kept D w u) F w) : DrawH P ops K F w := drawO os es _ hm hok (Kept.refl _ _) h
theorem ldK {t : TypeId} [CellTy P t] {D : Nat → Prop} {w0 w : World} {a : Addr} (v : Value) {K : Value → Prop} (hc : w.cell? a = some v) (hD : D a.block) (hx : Kept D w w0) (k : K v) : LoadG P (fun u => Kept D w0 u) t (.pointer (some a)) K :=
  ldS v (fun _ hu => (hx.trans hu).cell hc hD) k
theorem ldAK {t : TypeId} {n : Nat} [AggTy P t n] {D : Nat → Prop} {w0 w : World} {b o : Nat} (cs : List Value) {K : Value → Prop} (hc : CellsAt w b o cs) (hn : cs.length = n) (hD : D b) (hx : Kept D w w0) (k : K (.agg cs.toArray)) : LoadG P (fun u => Kept D w0 u) t (.pointer (some (ad b o))) K :=
  ldAS cs (fun _ hu => hc.kept (hx.trans hu) hD) hn k
/-- On from the world that has come. -/
theorem strK {D : Nat → Prop} {w0 w : World} {C : (World → Prop) → Prop} (h : Kept D w0 w) (c : C (fun u => Kept D w u)) : StrP (fun u => Kept D w0 u) w C := strT _ (Kept.refl _ _) (fun _ hu => h.trans hu) c
theorem arN {n : Int} {K : Value → Prop} (k : Nat) (h : n = k) (hk : k ≤ 9223372036854775807) (kk : K (.int .i64 (k : Int))) : ArP .i64 n K := by subst h; exact arI (by omega) kk

theorem arrOf_spec {t e : TypeId} {n sz : Nat} (h : arrOf P t = some (n, e, sz)) : P.underlying t = some (.array n e) ∧ ∃ i, P.info? e = some i ∧ i.size = sz := by
  unfold arrOf at h
  split at h
  · rename_i n' e' he
    cases hi : P.info? e' with
    | none => rw [hi] at h; cases h
    | some i => rw [hi] at h; simp at h; obtain ⟨rfl, rfl, rfl⟩ := h; exact ⟨he, i, hi, rfl⟩
  · cases h
/-- The address of an array's element. -/
theorem idxR {t e : TypeId} {n sz : Nat} [h : ArrTy P t n e sz] {b o : Nat} {kd : IntKind} {i : Int} {K : Value → Prop} (k : Nat) (hi : i = k) (hk : k < n) (kk : K (.pointer (some (ad b (o + k * sz))))) :
    IdxAP P t (.pointer (some (ad b o))) (.int kd i) K := by
  rw [IdxAP_eq]
  obtain ⟨hu, inf, hinf, hs⟩ := arrOf_spec h.h
  subst hi
  refine pure_vval (fun w => ?_) kk
  simp [Instr.indexAt, asIntOf, run_underlying hu, run_sizeOf hinf, hs, add_ad, hk, Instr.sureAddr]

/-- An element of an array at hand, of one cell. -/
theorem idxVc {t e : TypeId} {n sz : Nat} [h : ArrTy P t n e sz] [he : CellTy P e] {cs : List Value} {kd : IntKind} {i : Int} {K : Value → Prop} (k : Nat) (v : Value) (hi : i = k) (hk : k < n) (hv : cs[k * sz]? = some v) (kk : K v) :
    IdxVP P t (.agg cs.toArray) (.int kd i) K := by
  rw [IdxVP_eq]
  obtain ⟨hu, inf, hinf, hs⟩ := arrOf_spec h.h
  subst hi
  refine pure_vval (fun w => ?_) kk
  simp [Instr.index, asIntOf, run_underlying hu, run_sizeOf hinf, hs, part, run_isAgg_cell he, hk, hv]

/-! ### slices of the function's own -/
structure OwnF (w0 w : World) (A : Option Addr) (n c : Nat) (e : TypeId) (sz : Nat) (cs : List Value) : Prop where
  own : Own w (.slice A n c) e sz n cs
  ext : Ext w0 w
  new : ∀ g, A = some (ad g 0) → w0.heap.size ≤ g
theorem OwnF.nil {w0 w : World} {e : TypeId} {sz : Nat} (h : Ext w0 w) : OwnF w0 w none 0 0 e sz [] := ⟨Own.nil w e sz, h, fun g hg => by cases hg⟩
theorem OwnF.lit {w0 w w' : World} {e : TypeId} {sz g n : Nat} {cs : List Value} (h : Ext w0 w) (hb : NewB w e cs g w') (hl : cs.length = n * sz) (hn : n ≤ maxLen := by decide) : OwnF w0 w' (some (ad g 0)) n n e sz cs :=
  ⟨Own.of_blk (rest := []) (by simpa using hb.blk) hl (by simpa using hl) (Nat.le_refl _) hn, h.trans hb.ext, fun g' hg => by simp only [Option.some.injEq, Addr.mk.injEq] at hg; rw [← hg.1, hb.at_]; exact h.size⟩
theorem OwnF.then {w0 w w' : World} {A : Option Addr} {n c : Nat} {e : TypeId} {sz : Nat} {cs : List Value} (h : OwnF w0 w A n c e sz cs) (k : Ext w w') : OwnF w0 w' A n c e sz cs := ⟨h.own.ext k, h.ext.trans k, h.new⟩
/-- .. where what is changed is not its block. -/
theorem OwnF.thenK {w0 w w' : World} {D : Nat → Prop} {A : Option Addr} {n c : Nat} {e : TypeId} {sz : Nat} {cs : List Value} (h : OwnF w0 w A n c e sz cs) (k : Kept D w w') (hD : ∀ g, A = some (ad g 0) → D g) (hx : Ext w0 w') : OwnF w0 w' A n c e sz cs :=
  ⟨h.own.kept k (fun g hg => by
    cases hA : A with
    | none => rw [hA] at hg; cases hg
    | some a =>
      rcases h.own.form with ⟨hv, _⟩ | ⟨g', cap, hv, _⟩
      · rw [hA] at hv; cases hv
      · injection hv with hv; subst hv; injection hg with hg; subst hg; exact hD _ rfl), hx, h.new⟩
theorem OwnF.base {v0 w0 w : World} {A : Option Addr} {n c : Nat} {e : TypeId} {sz : Nat} {cs : List Value} (h : OwnF w0 w A n c e sz cs) (k : Ext v0 w0) : OwnF v0 w A n c e sz cs := ⟨h.own, k.trans h.ext, fun g hg => Nat.le_trans k.size (h.new g hg)⟩
theorem OwnF.form {w0 w : World} {A : Option Addr} {n c : Nat} {e : TypeId} {sz : Nat} {cs : List Value} (h : OwnF w0 w A n c e sz cs) : (A = none ∧ n = 0 ∧ c = 0) ∨ ∃ g, A = some (ad g 0) ∧ w0.heap.size ≤ g ∧ g < w.heap.size ∧ n ≤ c := by
  rcases h.own.form with ⟨hv, h0⟩ | ⟨g', cap, hv, hc⟩
  · injection hv with h1 h2 h3; exact .inl ⟨h1, h2, h3⟩
  · injection hv with h1 h2 h3; subst h3; exact .inr ⟨g', h1, h.new _ h1, h.own.lt (by rw [h1]; rfl), hc⟩
theorem OwnF.le {w0 w : World} {A : Option Addr} {n c : Nat} {e : TypeId} {sz : Nat} {cs : List Value} (h : OwnF w0 w A n c e sz cs) : n ≤ c := by
  rcases h.form with ⟨_, h1, h2⟩ | ⟨_, _, _, _, h4⟩
  · omega
  · exact h4
/-- An append to it. -/
theorem appF {t e : TypeId} {sz by_ : Nat} {zv : Value} [h : SliceTy P t e sz] [hz : ZeroTy P e zv] [hby : BytesTy P e by_] {ty : TypeId} {cst : Array Bool} {n m c c2 : Nat} {A B : Option Addr} {cs news : List Value} {w0 w : World} {K : VK}
    (hown : OwnF w0 w A n c e sz cs) (hs : Src w B m sz news) (hb : (n + m) * by_ ≤ 140737488355328)
    (kk : ∀ A' c' w', OwnF w0 w' A' (n + m) c' e sz (cs ++ news) → Kept (fun b => A ≠ some (ad b 0)) w w' → (A' = A ∨ A' = none ∨ A' = some (ad w.heap.size 0)) → K (.slice A' (n + m) c') w')
    (h63 : n + m ≤ 9223372036854775807 := by omega) (h1 : (news.all fun u => u.oneCell') = true := by rfl) (hzs : (cellsL zv).length = sz := by rfl) (hpos : Nat.blt 0 sz = true := by rfl) : BuiP P .append #[t, t] ty cst #[.slice A n c, .slice B m c2] K w := by
  refine app hown.own hs (fun u hu => List.all_eq_true.1 h1 u hu) hzs (Nat.le_of_ble_eq_true hpos) hb h63 fun v' w' ha => ?_
  have hk : Kept (fun b => A ≠ some (ad b 0)) w w' := ha.kept.weak fun i _ hne e => by
    apply hne
    rcases hown.form with ⟨hA, _⟩ | ⟨g', hA, _⟩
    · rw [hA] at e; cases e
    · rw [hA] at e ⊢; injection e with e; rw [← e]
  have hx : Ext w0 w' := ⟨hk.os.trans hown.ext.os, hk.tape.trans hown.ext.tape, hk.output.trans hown.ext.output, Nat.le_trans hown.ext.size hk.size, fun i hi _ => by
    rw [hk.blk i (Nat.lt_of_lt_of_le hi hown.ext.size) (fun e => by have := hown.new i e; omega)]
    exact hown.ext.blk i hi trivial⟩
  rcases ha.own.form with ⟨rfl, h0⟩ | ⟨g, cap, rfl, hc⟩
  · have hh := kk none 0 w' ⟨by have := ha.own; rw [h0] at this ⊢; exact this, hx, fun g hg => by cases hg⟩ hk (.inr (.inl rfl))
    rw [h0] at hh; exact hh
  · have hg : A = some (ad g 0) ∨ g = w.heap.size := by
      rcases ha.at_ with h | h
      · left
        rcases hown.form with ⟨hA, _⟩ | ⟨g', hA, _⟩
        · rw [hA] at h; cases h
        · rw [hA] at h; injection h with h; rw [hA]; have h : g = g' := h; rw [h]
      · right; injection h
    refine kk (some (ad g 0)) cap w' ⟨ha.own, hx, fun g' e' => ?_⟩ hk ?_
    · simp only [Option.some.injEq, Addr.mk.injEq] at e'
      obtain ⟨rfl, _⟩ := e'
      rcases hg with h | h
      · exact hown.new _ h
      · rw [h]; exact hown.ext.size
    · rcases hg with h | h
      · exact .inl h.symm
      · right; right; rw [h]
/-- A slice written out. -/
theorem lit {t e : TypeId} {sz : Nat} {zv : Value} [h : SliceTy P t e sz] [hz : ZeroTy P e zv] (vs : List Value) {n : Nat} {ps : Array (Nat × Value)} {w : World} {K : VK}
    (kk : ∀ g w', NewB w e (vs.flatMap cellsL) g w' → K (.slice (some (ad g 0)) n n) w')
    (hp : ps = ((vs.zipIdx 0).map fun p => (p.2, p.1)).toArray := by rfl) (hn : n = vs.length := by rfl) (hv : (vs.all fun v => Nat.beq (cellsL v).length sz) = true := by rfl) (hzs : (cellsL zv).length = sz := by rfl) (hbig : Nat.ble (vs.length * sz) 16777216 = true := by rfl) : BSlcP P t n ps K w :=
  bslc vs hp hn (fun v hvm => Nat.eq_of_beq_eq_true (List.all_eq_true.1 hv v hvm)) hzs (Nat.le_of_ble_eq_true hbig) kk
theorem NewB.src {w w' : World} {e : TypeId} {sz g n : Nat} {cs : List Value} (hb : NewB w e cs g w') (hl : cs.length = n * sz) : Src w' (some (ad g 0)) n sz cs :=
  ⟨hl, fun _ => ⟨g, 0, rfl, fun j v hv => by rw [Nat.zero_add]; exact hb.blk.cell hv⟩⟩
end

/-! ### numbers that are not below 0 -/
abbrev nv (k : Nat) : Value := .int .i64 (k : Int)
def tNat : Ty Nat := tMap tInt (fun n => (n : Int))
theorem tNat_rep {D : Nat → Prop} {w : World} {cs : List Value} {k : Nat} (h : tNat.rep D w cs k) : cs = [.int .i64 (k : Int)] ∧ I64 (k : Int) := h
theorem flat_nats {D : Nat → Prop} {w : World} : ∀ {xs : List Nat}, (∀ x ∈ xs, x ≤ 9223372036854775807) → FlatR tNat D w xs (xs.map nv)
  | [], _ => rfl
  | x :: xs, h => ⟨[.int .i64 (x : Int)], xs.map nv, rfl, ⟨rfl, show I64 (x : Int) from by have := h x List.mem_cons_self; unfold I64; constructor <;> omega⟩, flat_nats fun y hy => h y (List.mem_cons_of_mem _ hy)⟩
theorem OwnF.nats {w0 w : World} {A : Option Addr} {n c : Nat} {e : TypeId} {xs : List Nat} {D : Nat → Prop} (h : OwnF w0 w A n c e 1 (xs.map nv)) (hx : ∀ x ∈ xs, x ≤ 9223372036854775807) (hle : n ≤ 140737488355328) (hD : ∀ b, w0.heap.size ≤ b → D b) : SlR tNat D w A n xs :=
  Own.rd (a := tNat) (e := e) h.own (flat_nats hx) (by have := h.own.len; simpa using this.symm) hle fun g hg => hD g (h.new g hg)
theorem OwnF.ints {w0 w : World} {A : Option Addr} {n c : Nat} {e : TypeId} {xs : List Int} {D : Nat → Prop} (h : OwnF w0 w A n c e 1 (xs.map fun k => .int .i64 k)) (hx : ∀ x ∈ xs, I64 x) (hle : n ≤ 140737488355328) (hD : ∀ b, w0.heap.size ≤ b → D b) : SlR tInt D w A n xs :=
  Own.rd (a := tInt) (e := e) h.own (flat_ints hx) (by have := h.own.len; simpa using this.symm) hle fun g hg => hD g (h.new g hg)
theorem SlR.nats {D : Nat → Prop} {w : World} {A : Option Addr} {n : Nat} {xs : List Nat} (h : SlR tNat D w A n xs) : SlR tInt D w A n (xs.map fun k : Nat => (k : Int)) :=
  ⟨by rw [List.length_map]; exact h.1, h.2.1, fun k x hx => by
    rw [List.getElem?_map] at hx
    cases hk : xs[k]? with
    | none => rw [hk] at hx; cases hx
    | some y =>
      rw [hk] at hx
      obtain ⟨b, o, cs, h1, h2, h3, h4⟩ := h.2.2 k y hk
      simp only [Option.map_some, Option.some.injEq] at hx
      subst hx
      exact ⟨b, o, cs, h1, h2, h3, h4⟩⟩
/-- A new list of numbers. -/
def NewL (w w' : World) (v : Value) (xs : List Nat) : Prop := Ext w w' ∧ ∃ A k c, v = .slice A k c ∧ k ≤ c ∧ SlR tNat (fun b => w.heap.size ≤ b) w' A k xs
theorem OwnF.newL {w0 w : World} {A : Option Addr} {n c : Nat} {e : TypeId} {xs : List Nat} (h : OwnF w0 w A n c e 1 (xs.map nv)) (hx : ∀ x ∈ xs, x ≤ 9223372036854775807) (hle : n ≤ 140737488355328) : NewL w0 w (.slice A n c) xs :=
  ⟨h.ext, A, n, c, rfl, h.le, h.nats hx hle fun _ hb => hb⟩
theorem OwnF.cnt {w0 w : World} {A : Option Addr} {n c : Nat} {e : TypeId} {xs : List Nat} (h : OwnF w0 w A n c e 1 (xs.map nv)) : n = xs.length := by have := h.own.len; simpa using this.symm
end Go.Proofs.YtpmmhcgghldaaaaDoor
