/- Parts of the proof: Vj Vk Vl Vm Vn A1 A2 A3 A4 E1. -/
import Derived.Test.YtcpdhclnmjfldaaGreatDoorM3
import Derived.Test.YtcpdhclnmjfldaaGreatDoorM2
import Derived.Laws.Tables
import Derived.MapKept
import Derived.RangeFuncRecord
import Derived.OpenShut
import Derived.SizedLaws

/- Own layer, part j: rules put together. Nothing of the program stands here. -/
namespace Go.Proofs.YtcpdhclnmjfldaaGreatDoor
open Go Go.RowKit

section
variable {P : Program} {X : XK}
/-- A call that leaves the world alone and hands back a truth. -/
theorem callB {f : FuncId} [h : Enters P f] {args : Array Value} {w : World} {K : VK} {b : Bool} (c : CallZ P f args w (fun v w' => v = .bool b ∧ w' = w)) (k1 : b = true → K (.bool true) w) (k2 : b = false → K (.bool false) w) : CallP P f args K X w :=
  call_of c fun v w' ⟨e1, e2⟩ => by
    subst e1; subst e2
    cases b with
    | true => exact k1 rfl
    | false => exact k2 rfl
theorem callQB {S : World → Prop} {f : FuncId} [h : Enters P f] {args : Array Value} {K : Value → Prop} {b : Bool} (c : ∀ w, S w → CallZ P f args w (fun u w' => u = .bool b ∧ w' = w)) (k1 : b = true → K (.bool true)) (k2 : b = false → K (.bool false)) : CallQ P S f args K :=
  callQ (v := .bool b) c (by
    cases b with
    | true => exact k1 rfl
    | false => exact k2 rfl)
/-- .. that leaves alone what was there. -/
theorem callE {f : FuncId} [h : Enters P f] {args : Array Value} {w : World} {K : VK} {b : Bool} (c : CallZ P f args w (fun v w' => v = .bool b ∧ Ext w w')) (k1 : ∀ w', b = true → Ext w w' → K (.bool true) w') (k2 : ∀ w', b = false → Ext w w' → K (.bool false) w') : CallP P f args K X w :=
  call_of c fun v w' ⟨e1, e2⟩ => by
    subst e1
    cases b with
    | true => exact k1 w' rfl e2
    | false => exact k2 w' rfl e2

/-- Loads of what was there, under 'every block that was there is kept'. -/
theorem ldAX {t : TypeId} {n : Nat} [AggTy P t n] {w0 w : World} {b o : Nat} (cs : List Value) {K : Value → Prop} (hc : CellsAt w b o cs) (hn : cs.length = n) (hx : Ext w w0) (k : K (.agg cs.toArray)) : LoadG P (fun u => Ext w0 u) t (.pointer (some (ad b o))) K :=
  ldAS cs (fun _ hu => hc.kept (hx.ext hu) trivial) hn k
theorem CellsAt.blk {w : World} {g : Nat} {t : TypeId} {cs : List Value} (h : Blk w g t cs) : CellsAt w g 0 cs := fun j v hv => by rw [Nat.zero_add]; exact h.cell hv

theorem run_equalB {t : TypeId} [h : BoolTy P t] (a b : Bool) (w : World) : (Op.equal t (.bool a) (.bool b)).run P w = .ok (a == b) w := by
  have hu : P.underlying t = some .bool := by have := h.h; unfold isBoo at this; split at this <;> simp_all
  unfold Op.equal
  rw [show Op.maxDepth = (Op.maxDepth - 1) + 1 from rfl]
  rw [Op.equalIn, Sem.run_bind, run_underlying hu]
  rfl
theorem run_eqB {t : TypeId} [BoolTy P t] (xo yo : Operand) (a b : Bool) (w : World) : (do eqGuard .eql t xo yo (.bool a) (.bool b); binOp .eql t (.bool a) (.bool b) : Sem Value).run P w = .ok (.bool (a == b)) w := by
  have h1 : (eqGuard .eql t xo yo (.bool a) (.bool b)).run P w = .ok () w := rfl
  have h2 : binOp .eql t (.bool a) (.bool b) = (do pure (.bool (← Op.equal t (.bool a) (.bool b)))) := rfl
  rw [Sem.run_bind, h1, h2]
  simp only [Result.andThen_ok, Sem.run_bind, run_equalB, Sem.run_pure]
theorem run_neB {t : TypeId} [BoolTy P t] (xo yo : Operand) (a b : Bool) (w : World) : (do eqGuard .neq t xo yo (.bool a) (.bool b); binOp .neq t (.bool a) (.bool b) : Sem Value).run P w = .ok (.bool (!(a == b))) w := by
  have h1 : (eqGuard .neq t xo yo (.bool a) (.bool b)).run P w = .ok () w := rfl
  have h2 : binOp .neq t (.bool a) (.bool b) = (do pure (.bool (!(← Op.equal t (.bool a) (.bool b))))) := rfl
  rw [Sem.run_bind, h1, h2]
  simp only [Result.andThen_ok, Sem.run_bind, run_equalB, Sem.run_pure]
/-- Truths compared. -/
theorem eqB {t : TypeId} [h : BoolTy P t] {xo yo : Operand} {a b : Bool} {K : Value → Prop} (k1 : a = b → K (.bool true)) (k2 : a ≠ b → K (.bool false)) : BinP P .eql t xo yo (.bool a) (.bool b) K := by
  rw [BinP_eq]
  refine pure_vval (fun w => run_eqB xo yo a b w) ?_
  by_cases e : a = b
  · subst e; rw [beq_self_eq_true]; exact k1 rfl
  · rw [beq_eq_false_iff_ne.2 e]; exact k2 e
theorem neB {t : TypeId} [h : BoolTy P t] {xo yo : Operand} {a b : Bool} {K : Value → Prop} (k1 : a ≠ b → K (.bool true)) (k2 : a = b → K (.bool false)) : BinP P .neq t xo yo (.bool a) (.bool b) K := by
  rw [BinP_eq]
  refine pure_vval (fun w => run_neB xo yo a b w) ?_
  by_cases e : a = b
  · subst e; rw [beq_self_eq_true]; exact k2 rfl
  · rw [beq_eq_false_iff_ne.2 e]; exact k1 e

/-- A struct or an array put together. -/
theorem bld {t : TypeId} {ps : Array (Nat × Value)} {K : Value → Prop} (cs : List Value) (h : P.built t ps.toList = some cs.toArray) (k : K (.agg cs.toArray)) : BldP P t ps K := by
  rw [BldP_eq]
  exact pure_vval (fun w => run_build w t ps cs.toArray h) k

/-- A drawn region, what lies in D kept: the order, and what of it is no read. -/
theorem drawK (D : Nat → Prop) (os es : List Nat) {ops : Array Oper} {K : Fr → World → Prop} {F : Fr} {w : World} (hm : P.follows .mixedOrders = true) (hok : drawOk ops [] (ordPlan es os) = true)
    (h : VPlan P ops.toList K X (ordPlan es os) (fun u => Kept D w u) F w) : DrawH P ops K X F w := drawO os es _ hm hok (Kept.refl _ _) h
theorem ldK {t : TypeId} [CellTy P t] {D : Nat → Prop} {w0 w : World} {a : Addr} (v : Value) {K : Value → Prop} (hc : w.cell? a = some v) (hD : D a.block) (hx : Kept D w w0) (k : K v) : LoadG P (fun u => Kept D w0 u) t (.pointer (some a)) K :=
  ldS v (fun _ hu => (hx.trans hu).cell hc hD) k
theorem ldAK {t : TypeId} {n : Nat} [AggTy P t n] {D : Nat → Prop} {w0 w : World} {b o : Nat} (cs : List Value) {K : Value → Prop} (hc : CellsAt w b o cs) (hn : cs.length = n) (hD : D b) (hx : Kept D w w0) (k : K (.agg cs.toArray)) : LoadG P (fun u => Kept D w0 u) t (.pointer (some (ad b o))) K :=
  ldAS cs (fun _ hu => hc.kept (hx.trans hu) hD) hn k
/-- On from the world that has come. -/
theorem strK {D : Nat → Prop} {w0 w : World} {C : (World → Prop) → Prop} (h : Kept D w0 w) (c : C (fun u => Kept D w u)) : StrP (fun u => Kept D w0 u) w C := strT _ (Kept.refl _ _) (fun _ hu => h.trans hu) c
theorem arN {n : Int} {K : Value → Prop} (k : Nat) (h : n = k) (hk : k ≤ 9223372036854775807) (kk : K (.int .i64 (k : Int))) : ArP .i64 n K := by subst h; exact arI (by omega) kk

theorem arrOf_spec {t e : TypeId} {n sz : Nat} (h : arrOf P t = some (n, e, sz)) : P.underlying t = some (.array n e) ∧ ∃ i, P.info? e = some i ∧ i.size = sz := by
  unfold arrOf at h
  split at h
  · rename_i n' e' he
    cases hi : P.info? e' with
    | none => rw [hi] at h; cases h
    | some i => rw [hi] at h; simp at h; obtain ⟨rfl, rfl, rfl⟩ := h; exact ⟨he, i, hi, rfl⟩
  · cases h
/-- The address of an array's element. -/
theorem idxR {t e : TypeId} {n sz : Nat} [h : ArrTy P t n e sz] {b o : Nat} {kd : IntKind} {i : Int} {K : Value → Prop} (k : Nat) (hi : i = k) (hk : k < n) (kk : K (.pointer (some (ad b (o + k * sz))))) :
    IdxAP P t (.pointer (some (ad b o))) (.int kd i) K := by
  rw [IdxAP_eq]
  obtain ⟨hu, inf, hinf, hs⟩ := arrOf_spec h.h
  subst hi
  refine pure_vval (fun w => ?_) kk
  simp [Instr.indexAt, asIntOf, run_underlying hu, run_sizeOf hinf, hs, add_ad, hk, Instr.sureAddr]

/-- An element of an array at hand, of one cell. -/
theorem idxVc {t e : TypeId} {n sz : Nat} [h : ArrTy P t n e sz] [he : CellTy P e] {cs : List Value} {kd : IntKind} {i : Int} {K : Value → Prop} (k : Nat) (v : Value) (hi : i = k) (hk : k < n) (hv : cs[k * sz]? = some v) (kk : K v) :
    IdxVP P t (.agg cs.toArray) (.int kd i) K := by
  rw [IdxVP_eq]
  obtain ⟨hu, inf, hinf, hs⟩ := arrOf_spec h.h
  subst hi
  refine pure_vval (fun w => ?_) kk
  simp [Instr.index, asIntOf, run_underlying hu, run_sizeOf hinf, hs, part, run_isAgg_cell he, hk, hv]

/-! ### slices of the function's own -/
structure OwnF (w0 w : World) (A : Option Addr) (n c : Nat) (e : TypeId) (sz : Nat) (cs : List Value) : Prop where
  own : Own w (.slice A n c) e sz n cs
  ext : Ext w0 w
  new : ∀ g, A = some (ad g 0) → w0.heap.size ≤ g
theorem OwnF.nil {w0 w : World} {e : TypeId} {sz : Nat} (h : Ext w0 w) : OwnF w0 w none 0 0 e sz [] := ⟨Own.nil w e sz, h, fun g hg => by cases hg⟩
theorem OwnF.lit {w0 w w' : World} {e : TypeId} {sz g n : Nat} {cs : List Value} (h : Ext w0 w) (hb : NewB w e cs g w') (hl : cs.length = n * sz) (hn : n ≤ maxLen := by decide) : OwnF w0 w' (some (ad g 0)) n n e sz cs :=
  ⟨Own.of_blk (rest := []) (by simpa using hb.blk) hl (by simpa using hl) (Nat.le_refl _) hn, h.trans hb.ext, fun g' hg => by simp only [Option.some.injEq, Addr.mk.injEq] at hg; rw [← hg.1, hb.at_]; exact h.size⟩
theorem OwnF.then {w0 w w' : World} {A : Option Addr} {n c : Nat} {e : TypeId} {sz : Nat} {cs : List Value} (h : OwnF w0 w A n c e sz cs) (k : Ext w w') : OwnF w0 w' A n c e sz cs := ⟨h.own.ext k, h.ext.trans k, h.new⟩
/-- .. where what is changed is not its block. -/
theorem OwnF.thenK {w0 w w' : World} {D : Nat → Prop} {A : Option Addr} {n c : Nat} {e : TypeId} {sz : Nat} {cs : List Value} (h : OwnF w0 w A n c e sz cs) (k : Kept D w w') (hD : ∀ g, A = some (ad g 0) → D g) (hx : Ext w0 w') : OwnF w0 w' A n c e sz cs :=
  ⟨h.own.kept k (fun g hg => by
    cases hA : A with
    | none => rw [hA] at hg; cases hg
    | some a =>
      rcases h.own.form with ⟨hv, _⟩ | ⟨g', cap, hv, _⟩
      · rw [hA] at hv; cases hv
      · injection hv with hv; subst hv; injection hg with hg; subst hg; exact hD _ rfl), hx, h.new⟩
theorem OwnF.base {v0 w0 w : World} {A : Option Addr} {n c : Nat} {e : TypeId} {sz : Nat} {cs : List Value} (h : OwnF w0 w A n c e sz cs) (k : Ext v0 w0) : OwnF v0 w A n c e sz cs := ⟨h.own, k.trans h.ext, fun g hg => Nat.le_trans k.size (h.new g hg)⟩
theorem OwnF.form {w0 w : World} {A : Option Addr} {n c : Nat} {e : TypeId} {sz : Nat} {cs : List Value} (h : OwnF w0 w A n c e sz cs) : (A = none ∧ n = 0 ∧ c = 0) ∨ ∃ g, A = some (ad g 0) ∧ w0.heap.size ≤ g ∧ g < w.heap.size ∧ n ≤ c := by
  rcases h.own.form with ⟨hv, h0⟩ | ⟨g', cap, hv, hc⟩
  · injection hv with h1 h2 h3; exact .inl ⟨h1, h2, h3⟩
  · injection hv with h1 h2 h3; subst h3; exact .inr ⟨g', h1, h.new _ h1, h.own.lt (by rw [h1]; rfl), hc⟩
theorem OwnF.le {w0 w : World} {A : Option Addr} {n c : Nat} {e : TypeId} {sz : Nat} {cs : List Value} (h : OwnF w0 w A n c e sz cs) : n ≤ c := by
  rcases h.form with ⟨_, h1, h2⟩ | ⟨_, _, _, _, h4⟩
  · omega
  · exact h4
/-- An append to it. -/
theorem appF {t e : TypeId} {sz by_ : Nat} {zv : Value} [h : SliceTy P t e sz] [hz : ZeroTy P e zv] [hby : BytesTy P e by_] {ty : TypeId} {cst : Array Bool} {n m c c2 : Nat} {A B : Option Addr} {cs news : List Value} {w0 w : World} {K : VK}
    (hown : OwnF w0 w A n c e sz cs) (hs : Src w B m sz news) (hb : (n + m) * by_ ≤ 140737488355328)
    (kk : ∀ A' c' w', OwnF w0 w' A' (n + m) c' e sz (cs ++ news) → Kept (fun b => A ≠ some (ad b 0)) w w' → (A' = A ∨ A' = none ∨ A' = some (ad w.heap.size 0)) → K (.slice A' (n + m) c') w')
    (h63 : n + m ≤ 9223372036854775807 := by omega) (h1 : (news.all fun u => u.oneCell') = true := by rfl) (hzs : (cellsL zv).length = sz := by rfl) (hpos : Nat.blt 0 sz = true := by rfl) : BuiP P .append #[t, t] ty cst #[.slice A n c, .slice B m c2] K X w := by
  refine app hown.own hs (fun u hu => List.all_eq_true.1 h1 u hu) hzs (Nat.le_of_ble_eq_true hpos) hb h63 fun v' w' ha => ?_
  have hk : Kept (fun b => A ≠ some (ad b 0)) w w' := ha.kept.weak fun i _ hne e => by
    apply hne
    rcases hown.form with ⟨hA, _⟩ | ⟨g', hA, _⟩
    · rw [hA] at e; cases e
    · rw [hA] at e ⊢; injection e with e; rw [← e]
  have hx : Ext w0 w' := ⟨hk.os.trans hown.ext.os, hk.tape.trans hown.ext.tape, hk.output.trans hown.ext.output, Nat.le_trans hown.ext.size hk.size, fun i hi _ => by
    rw [hk.blk i (Nat.lt_of_lt_of_le hi hown.ext.size) (fun e => by have := hown.new i e; omega)]
    exact hown.ext.blk i hi trivial⟩
  rcases ha.own.form with ⟨rfl, h0⟩ | ⟨g, cap, rfl, hc⟩
  · have hh := kk none 0 w' ⟨by have := ha.own; rw [h0] at this ⊢; exact this, hx, fun g hg => by cases hg⟩ hk (.inr (.inl rfl))
    rw [h0] at hh; exact hh
  · have hg : A = some (ad g 0) ∨ g = w.heap.size := by
      rcases ha.at_ with h | h
      · left
        rcases hown.form with ⟨hA, _⟩ | ⟨g', hA, _⟩
        · rw [hA] at h; cases h
        · rw [hA] at h; injection h with h; rw [hA]; have h : g = g' := h; rw [h]
      · right; injection h
    refine kk (some (ad g 0)) cap w' ⟨ha.own, hx, fun g' e' => ?_⟩ hk ?_
    · simp only [Option.some.injEq, Addr.mk.injEq] at e'
      obtain ⟨rfl, _⟩ := e'
      rcases hg with h | h
      · exact hown.new _ h
      · rw [h]; exact hown.ext.size
    · rcases hg with h | h
      · exact .inl h.symm
      · right; right; rw [h]
/-- A slice written out. -/
theorem lit {t e : TypeId} {sz : Nat} {zv : Value} [h : SliceTy P t e sz] [hz : ZeroTy P e zv] (vs : List Value) {n : Nat} {ps : Array (Nat × Value)} {w : World} {K : VK}
    (kk : ∀ g w', NewB w e (vs.flatMap cellsL) g w' → K (.slice (some (ad g 0)) n n) w')
    (hp : ps = ((vs.zipIdx 0).map fun p => (p.2, p.1)).toArray := by rfl) (hn : n = vs.length := by rfl) (hv : (vs.all fun v => Nat.beq (cellsL v).length sz) = true := by rfl) (hzs : (cellsL zv).length = sz := by rfl) (hbig : Nat.ble (vs.length * sz) 16777216 = true := by rfl) : BSlcP P t n ps K w :=
  bslc vs hp hn (fun v hvm => Nat.eq_of_beq_eq_true (List.all_eq_true.1 hv v hvm)) hzs (Nat.le_of_ble_eq_true hbig) kk
theorem NewB.src {w w' : World} {e : TypeId} {sz g n : Nat} {cs : List Value} (hb : NewB w e cs g w') (hl : cs.length = n * sz) : Src w' (some (ad g 0)) n sz cs :=
  ⟨hl, fun _ => ⟨g, 0, rfl, fun j v hv => by rw [Nat.zero_add]; exact hb.blk.cell hv⟩⟩
end

/-! ### numbers that are not below 0 -/
abbrev nv (k : Nat) : Value := .int .i64 (k : Int)
def tNat : Ty Nat := tMap tInt (fun n => (n : Int))
theorem tNat_rep {D : Nat → Prop} {w : World} {cs : List Value} {k : Nat} (h : tNat.rep D w cs k) : cs = [.int .i64 (k : Int)] ∧ I64 (k : Int) := h
theorem flat_nats {D : Nat → Prop} {w : World} : ∀ {xs : List Nat}, (∀ x ∈ xs, x ≤ 9223372036854775807) → FlatR tNat D w xs (xs.map nv)
  | [], _ => rfl
  | x :: xs, h => ⟨[.int .i64 (x : Int)], xs.map nv, rfl, ⟨rfl, show I64 (x : Int) from by have := h x List.mem_cons_self; unfold I64; constructor <;> omega⟩, flat_nats fun y hy => h y (List.mem_cons_of_mem _ hy)⟩
theorem OwnF.nats {w0 w : World} {A : Option Addr} {n c : Nat} {e : TypeId} {xs : List Nat} {D : Nat → Prop} (h : OwnF w0 w A n c e 1 (xs.map nv)) (hx : ∀ x ∈ xs, x ≤ 9223372036854775807) (hle : n ≤ 140737488355328) (hD : ∀ b, w0.heap.size ≤ b → D b) : SlR tNat D w A n xs :=
  Own.rd (a := tNat) (e := e) h.own (flat_nats hx) (by have := h.own.len; simpa using this.symm) hle fun g hg => hD g (h.new g hg)
theorem OwnF.ints {w0 w : World} {A : Option Addr} {n c : Nat} {e : TypeId} {xs : List Int} {D : Nat → Prop} (h : OwnF w0 w A n c e 1 (xs.map fun k => .int .i64 k)) (hx : ∀ x ∈ xs, I64 x) (hle : n ≤ 140737488355328) (hD : ∀ b, w0.heap.size ≤ b → D b) : SlR tInt D w A n xs :=
  Own.rd (a := tInt) (e := e) h.own (flat_ints hx) (by have := h.own.len; simpa using this.symm) hle fun g hg => hD g (h.new g hg)
theorem SlR.nats {D : Nat → Prop} {w : World} {A : Option Addr} {n : Nat} {xs : List Nat} (h : SlR tNat D w A n xs) : SlR tInt D w A n (xs.map fun k : Nat => (k : Int)) :=
  ⟨by rw [List.length_map]; exact h.1, h.2.1, fun k x hx => by
    rw [List.getElem?_map] at hx
    cases hk : xs[k]? with
    | none => rw [hk] at hx; cases hx
    | some y =>
      rw [hk] at hx
      obtain ⟨b, o, cs, h1, h2, h3, h4⟩ := h.2.2 k y hk
      simp only [Option.map_some, Option.some.injEq] at hx
      subst hx
      exact ⟨b, o, cs, h1, h2, h3, h4⟩⟩
/-- A new list of numbers. -/
def NewL (w w' : World) (v : Value) (xs : List Nat) : Prop := Ext w w' ∧ ∃ A k c, v = .slice A k c ∧ k ≤ c ∧ SlR tNat (fun b => w.heap.size ≤ b) w' A k xs
theorem OwnF.newL {w0 w : World} {A : Option Addr} {n c : Nat} {e : TypeId} {xs : List Nat} (h : OwnF w0 w A n c e 1 (xs.map nv)) (hx : ∀ x ∈ xs, x ≤ 9223372036854775807) (hle : n ≤ 140737488355328) : NewL w0 w (.slice A n c) xs :=
  ⟨h.ext, A, n, c, rfl, h.le, h.nats hx hle fun _ hb => hb⟩
theorem OwnF.cnt {w0 w : World} {A : Option Addr} {n c : Nat} {e : TypeId} {xs : List Nat} (h : OwnF w0 w A n c e 1 (xs.map nv)) : n = xs.length := by have := h.own.len; simpa using this.symm
end Go.Proofs.YtcpdhclnmjfldaaGreatDoor

/- Own layer, part k: maps whose keys are numbers. Nothing of the program stands here. -/
namespace Go.Proofs.YtcpdhclnmjfldaaGreatDoor
open Go Go.RowKit Classical

/-- What a map's entries say of a key. -/
noncomputable def look (kd : IntKind) : List MapEntry → Int → Option Value
  | [], _ => none
  | e :: r, k => if e.key = .int kd k then some e.val else look kd r k
def KeysI (kd : IntKind) (L : List MapEntry) : Prop := ∀ e ∈ L, ∃ a, e.key = .int kd a
/-- Block g is a map that says f. -/
def MapFn (kd : IntKind) (w : World) (g : Nat) (f : Int → Option Value) : Prop := ∃ (L : List MapEntry) (clock : Nat), w.heap[g]? = some (.map L.toArray clock) ∧ KeysI kd L ∧ ∀ k, look kd L k = f k
theorem MapFn.lt {kd : IntKind} {w : World} {g : Nat} {f : Int → Option Value} (h : MapFn kd w g f) : g < w.heap.size := by obtain ⟨L, c, h, _⟩ := h; exact (Array.getElem?_eq_some_iff.1 h).1
theorem MapFn.kept {kd : IntKind} {D : Nat → Prop} {w w' : World} {g : Nat} {f : Int → Option Value} (h : MapFn kd w g f) (k : Kept D w w') (hD : D g) : MapFn kd w' g f := by
  have hlt := h.lt
  obtain ⟨L, c, h1, h2⟩ := h
  exact ⟨L, c, (k.blk g hlt hD).trans h1, h2⟩
theorem MapFn.new (kd : IntKind) (w : World) : MapFn kd (w.alloc (.map #[] 0)) w.heap.size (fun _ => none) := ⟨[], 0, by unfold World.alloc; simp, fun _ h => (by cases h), fun _ => rfl⟩

section
variable {P : Program}
def intKey (P : Program) (t : TypeId) (kd : IntKind) : Bool := match P.underlying t with | some (.map k _) => (match P.underlying k with | some (.int d) => Nat.beq (kno d) (kno kd) | _ => false) | _ => false
theorem intKey_spec {t k e : TypeId} {kd : IntKind} (hm : mapOf P t = some (k, e)) (h : intKey P t kd = true) : P.underlying t = some (.map k e) ∧ P.underlying k = some (.int kd) := by
  unfold mapOf at hm
  split at hm
  · rename_i k' e' hu
    simp only [Option.some.injEq, Prod.mk.injEq] at hm
    obtain ⟨rfl, rfl⟩ := hm
    unfold intKey at h
    rw [hu] at h
    refine ⟨hu, ?_⟩
    dsimp only at h
    split at h
    · rename_i d hd; rw [hd, kno_inj h]
    · cases h
  · cases hm

theorem findNow_int {kd : IntKind} {k : Int} : ∀ (L : List MapEntry) (i : Nat), KeysI kd L →
    (look kd L k = none ∧ Instr.findNow (.int kd) (.int kd k) L i = some none) ∨
    (∃ j v, look kd L k = some v ∧ Instr.findNow (.int kd) (.int kd k) L i = some (some (i + j, v)) ∧ ∃ e, L[j]? = some e ∧ e.key = .int kd k)
  | [], i, _ => .inl ⟨rfl, rfl⟩
  | e :: r, i, h => by
    obtain ⟨a, ha⟩ := h e List.mem_cons_self
    have hr : KeysI kd r := fun x hx => h x (List.mem_cons_of_mem _ hx)
    unfold look Instr.findNow
    rw [ha]
    simp only [Instr.sameNow, if_true]
    by_cases hk : k = a
    · subst hk
      right
      refine ⟨0, e.val, by simp, by simp, e, rfl, ha⟩
    · have h1 : ¬ (Value.int kd a = Value.int kd k) := fun e => by injection e with _ e; exact hk e.symm
      have h2 : (k == a) = false := beq_eq_false_iff_ne.2 hk
      rw [if_neg h1, h2]
      rcases findNow_int r (i + 1) hr with h | ⟨j, v, h3, h4, x, h5, h6⟩
      · exact .inl h
      · refine .inr ⟨j + 1, v, h3, ?_, x, by simpa using h5, h6⟩
        rw [h4, show i + 1 + j = i + (j + 1) from by omega]

theorem run_checkKey_int {key : TypeId} {kd : IntKind} (hk : P.underlying key = some (.int kd)) (b : Bool) (k : Int) (w : World) : (Instr.checkKey b 10000 key (.int kd k)).run P w = .ok () w := by
  rw [show (10000 : Nat) = 9999 + 1 from rfl]
  unfold Instr.checkKey
  rw [Sem.run_bind, run_underlying hk]
  rfl
theorem run_findKey_int {key : TypeId} {kd : IntKind} (hk : P.underlying key = some (.int kd)) {k : Int} {L : List MapEntry} {r : Option (Nat × Value)} (h : Instr.findNow (.int kd) (.int kd k) L 0 = some r) (w : World) : (Instr.findKey key (.int kd k) L).run P w = .ok r w := by
  unfold Instr.findKey
  rw [Sem.run_bind, run_underlying hk]
  simp only [Result.andThen_ok, h, Sem.run_pure]

/-- A look into a map: the key is there, or not. -/
theorem run_lookup_int {t k e : TypeId} {kd : IntKind} {zv : Value} (hm : P.underlying t = some (.map k e)) (hk : P.underlying k = some (.int kd)) (hz : zeroOf P e = some zv) {w : World} {g : Nat} {f : Int → Option Value} (h : MapFn kd w g f) (i : Int) (ok : Bool) :
    (Instr.lookup t (.map (some g)) (.int kd i) ok).run P w = .ok (match f i with | some v => (if ok then .tuple #[v, .bool true] else v) | none => (if ok then .tuple #[zv, .bool false] else zv)) w := by
  obtain ⟨L, c, hb, hL, hf⟩ := h
  unfold Instr.lookup
  simp only [Sem.run_bind, run_underlying hm, Result.andThen_ok, MapKept.run_getObj_map hb, Sem.run_pure, run_checkKey_int hk]
  rcases findNow_int (kd := kd) (k := i) L 0 hL with ⟨h1, h2⟩ | ⟨j, v, h1, h2, _⟩
  · rw [← hf, h1, run_findKey_int hk h2]
    simp only [Result.andThen_ok, Sem.run_bind, run_zeroValue' hz, Sem.run_pure]
  · rw [← hf, h1, run_findKey_int hk h2]
    simp only [Result.andThen_ok, Sem.run_bind, Sem.run_pure]

theorem lookT {S : World → Prop} {t k e : TypeId} {kd : IntKind} {zv : Value} [hm : MapTy P t k e] [hz : ZeroTy P e zv] {g : Nat} {f : Int → Option Value} {i : Int} {K : Value → Prop} (v : Value) (h : ∀ u, S u → MapFn kd u g f) (hi : f i = some v) (kk : K (.tuple #[v, .bool true])) (hk : intKey P t kd = true := by kernel_rfl) : LookG P S t (.map (some g)) (.int kd i) true K := by
  rw [LookG_eq]
  obtain ⟨h1, h2⟩ := intKey_spec hm.h hk
  refine ⟨_, fun w hw w0 e0 => ?_, kk⟩
  subst e0
  have := run_lookup_int h1 h2 hz.h (w := w0) (show MapFn kd w0 g f from h (z w0) hw) i true
  rw [hi] at this
  rw [run_vS, this]; exact ⟨rfl, rfl⟩
theorem lookF {S : World → Prop} {t k e : TypeId} {kd : IntKind} {zv : Value} [hm : MapTy P t k e] [hz : ZeroTy P e zv] {g : Nat} {f : Int → Option Value} {i : Int} {K : Value → Prop} (h : ∀ u, S u → MapFn kd u g f) (hi : f i = none) (kk : K (.tuple #[zv, .bool false])) (hk : intKey P t kd = true := by kernel_rfl) : LookG P S t (.map (some g)) (.int kd i) true K := by
  rw [LookG_eq]
  obtain ⟨h1, h2⟩ := intKey_spec hm.h hk
  refine ⟨_, fun w hw w0 e0 => ?_, kk⟩
  subst e0
  have := run_lookup_int h1 h2 hz.h (w := w0) (show MapFn kd w0 g f from h (z w0) hw) i true
  rw [hi] at this
  rw [run_vS, this]; exact ⟨rfl, rfl⟩
/-- .. the value alone. -/
theorem look1 {S : World → Prop} {t k e : TypeId} {kd : IntKind} {zv : Value} [hm : MapTy P t k e] [hz : ZeroTy P e zv] {g : Nat} {f : Int → Option Value} {i : Int} {K : Value → Prop} (v : Value) (h : ∀ u, S u → MapFn kd u g f) (hi : (f i).getD zv = v) (kk : K v) (hk : intKey P t kd = true := by kernel_rfl) : LookG P S t (.map (some g)) (.int kd i) false K := by
  rw [LookG_eq]
  obtain ⟨h1, h2⟩ := intKey_spec hm.h hk
  refine ⟨v, fun w hw w0 e0 => ?_, kk⟩
  subst e0
  have := run_lookup_int h1 h2 hz.h (w := w0) (show MapFn kd w0 g f from h (z w0) hw) i false
  rw [run_vS, this]
  cases hf : f i with
  | none => rw [hf] at hi; exact ⟨hi, rfl⟩
  | some x => rw [hf] at hi; exact ⟨hi, rfl⟩

/-! ### a map's entry set -/
def fset (f : Int → Option Value) (k : Int) (v : Value) : Int → Option Value := fun j => if j = k then some v else f j
theorem look_push {kd : IntKind} {x : MapEntry} {i : Int} (hx : x.key = .int kd i) : ∀ (L : List MapEntry), look kd L i = none → ∀ j, look kd (L ++ [x]) j = fset (look kd L) i x.val j
  | [], _, j => by
    unfold fset
    show (if x.key = .int kd j then some x.val else none) = if j = i then some x.val else none
    rw [hx]
    by_cases h : j = i
    · subst h; simp
    · have : ¬ (Value.int kd i = Value.int kd j) := fun e => by injection e with _ e; exact h e.symm
      rw [if_neg this, if_neg h]
  | e :: r, hn, j => by
    rw [look] at hn
    split at hn
    · cases hn
    rename_i hne
    rw [List.cons_append, look, look_push hx r hn j]
    unfold fset
    rw [look]
    by_cases h : j = i
    · subst h; rw [if_neg hne, if_pos rfl, if_pos rfl]
    · simp only [if_neg h]
theorem look_modify {kd : IntKind} {i : Int} {v : Value} : ∀ (L : List MapEntry) (j : Nat) (x : MapEntry), L[j]? = some x → x.key = .int kd i → (∀ m y, m < j → L[m]? = some y → y.key ≠ .int kd i) →
    ∀ k, look kd (L.modify j fun e => { e with key := .int kd i, val := v }) k = fset (look kd L) i v k
  | [], j, x, h, _, _, k => by simp at h
  | e :: r, 0, x, h, hx, _, k => by
    simp at h; subst h
    show (if Value.int kd i = .int kd k then some v else look kd r k) = fset (look kd (e :: r)) i v k
    unfold fset
    by_cases hk : k = i
    · subst hk; simp
    · have : ¬ (Value.int kd i = Value.int kd k) := fun e => by injection e with _ e; exact hk e.symm
      rw [if_neg this, if_neg hk, look, hx, if_neg this]
  | e :: r, j + 1, x, h, hx, hn, k => by
    have hne := hn 0 e (by omega) rfl
    show (if e.key = .int kd k then some e.val else look kd (r.modify j _) k) = fset (look kd (e :: r)) i v k
    rw [look_modify r j x (by simpa using h) hx (fun m y hm hy => hn (m + 1) y (by omega) (by simpa using hy)) k]
    unfold fset
    by_cases hk : k = i
    · subst hk; rw [if_neg hne, if_pos rfl, if_pos rfl]
    · simp only [if_neg hk]; rfl
theorem findNow_first {kd : IntKind} {k : Int} : ∀ (L : List MapEntry) (i j : Nat) (v : Value), KeysI kd L → Instr.findNow (.int kd) (.int kd k) L i = some (some (i + j, v)) → ∀ m y, m < j → L[m]? = some y → y.key ≠ .int kd k
  | [], i, j, v, _, h => by simp [Instr.findNow] at h
  | e :: r, i, j, v, hL, h => by
    obtain ⟨a, ha⟩ := hL e List.mem_cons_self
    unfold Instr.findNow at h
    rw [ha] at h
    simp only [Instr.sameNow, if_true] at h
    by_cases hk : k = a
    · subst hk
      simp at h
      intro m y hm; omega
    · have h2 : (k == a) = false := beq_eq_false_iff_ne.2 hk
      rw [h2] at h
      intro m y hm hy
      cases m with
      | zero => simp at hy; subst hy; rw [ha]; intro e; injection e with _ e; exact hk e.symm
      | succ m =>
        have hj : i + j = i + 1 + (j - 1) := by omega
        rw [hj] at h
        exact findNow_first r (i + 1) (j - 1) v (fun x hx => hL x (List.mem_cons_of_mem _ hx)) h m y (by omega) (by simpa using hy)

theorem mupd {t k e : TypeId} {kd : IntKind} [hm : MapTy P t k e] {g : Nat} {f : Int → Option Value} {i : Int} {v : Value} {w : World} {K : VK} (h : MapFn kd w g f) (kk : ∀ w', MapFn kd w' g (fset f i v) → Kept (fun b => b ≠ g) w w' → w'.heap.size = w.heap.size → K undef w') (hk : intKey P t kd = true := by kernel_rfl) : MUpdP P t (.map (some g)) (.int kd i) v K w := by
  rw [MUpdP_eq]
  intro w0 hw
  subst hw
  obtain ⟨h1, h2⟩ := intKey_spec hm.h hk
  obtain ⟨L, c, hb, hL, hf⟩ := h
  have hb : w0.heap[g]? = some (.map L.toArray c) := hb
  have hlt := (Array.getElem?_eq_some_iff.1 hb).1
  have key : ∀ (L' : List MapEntry) (c' : Nat), KeysI kd L' → (∀ j, look kd L' j = fset (look kd L) i v j) → (uS (Instr.mapUpdate t (.map (some g)) (.int kd i) v)).run P w0 = .ok .skip { w0 with heap := w0.heap.setIfInBounds g (.map L'.toArray c') } → uponZ P K ((uS (Instr.mapUpdate t (.map (some g)) (.int kd i) v)).run P w0) := by
    intro L' c' hL' hf' hr
    rw [hr]
    refine kk (z { w0 with heap := w0.heap.setIfInBounds g (.map L'.toArray c') }) ⟨L', c', by simp [z, hlt], hL', fun j => ?_⟩ ⟨rfl, rfl, rfl, by simp [z], fun b hb1 hne => ?_⟩ (by simp [z])
    · rw [hf']; unfold fset; rw [hf]
    · show (w0.heap.setIfInBounds g _)[b]? = w0.heap[b]?
      rw [Array.getElem?_setIfInBounds_ne (fun e => hne e.symm)]
  rcases findNow_int (kd := kd) (k := i) L 0 hL with ⟨h3, h4⟩ | ⟨j, v0, h3, h4, x, h5, h6⟩
  · refine key (L ++ [{ key := .int kd i, val := v, born := c }]) (c + 1) (fun y hy => ?_) (look_push (x := { key := .int kd i, val := v, born := c }) rfl L h3) ?_
    · rcases List.mem_append.1 hy with h | h
      · exact hL y h
      · simp at h; subst h; exact ⟨i, rfl⟩
    · unfold uS Instr.mapUpdate
      simp only [Sem.run_bind, run_underlying h1, Result.andThen_ok, MapKept.run_getObj_map hb, run_checkKey_int h2, run_findKey_int h2 h4, MapKept.run_setObj_map _ hb, Sem.run_pure]
      simp
  · have hfst := findNow_first L 0 j v0 hL h4
    rw [Nat.zero_add] at h4
    refine key (L.modify j fun e => { e with key := .int kd i, val := v }) c (fun y hy => ?_) (look_modify L j x h5 h6 hfst) ?_
    · obtain ⟨m, hm'⟩ := List.getElem?_of_mem hy
      rw [List.getElem?_modify] at hm'
      cases hLm : L[m]? with
      | none => rw [hLm] at hm'; cases hm'
      | some y0 =>
        rw [hLm] at hm'
        simp only [Option.map_eq_map, Option.map_some, Option.some.injEq] at hm'
        subst hm'
        split
        · exact ⟨i, rfl⟩
        · exact hL y0 (List.mem_of_getElem? hLm)
    · unfold uS Instr.mapUpdate
      have hkey : ((L.toArray[j]?).map (·.key)).getD (.int kd i) = .int kd i := by simp [h5, h6]
      have hsame : Instr.sameBits 10000 (.int kd i) (.int kd i) = true := by simp [Instr.sameBits]
      simp only [Sem.run_bind, run_underlying h1, Result.andThen_ok, MapKept.run_getObj_map hb, run_checkKey_int h2, run_findKey_int h2 h4, hkey, Instr.keyThatStays, hsame, if_true, Sem.run_pure, MapKept.run_setObj_map _ hb]
      simp
end
end Go.Proofs.YtcpdhclnmjfldaaGreatDoor

/- Own layer, part l: ranges over functions. Nothing of the program stands here. -/
namespace Go.Proofs.YtcpdhclnmjfldaaGreatDoor
open Go Go.RowKit

section
variable {P : Program}
def LoopAt (w : World) (l : Nat) (r : Loop) : Prop := w.heap[l]? = some (.loop r)
def updZ : Fr → List (Nat × Value) → Fr
  | F, [] => F
  | F, p :: r => updZ (upd F p.1 p.2) r
theorem fold_frame : ∀ (l : List (Nat × Value)) (tmps : Array Value) (F : Fr), (∀ t, tmps.getD t undef = F t) → (∀ p ∈ l, p.1 < tmps.size) →
    (l.foldl (fun (t : Array Value) (p : Nat × Value) => t.setIfInBounds p.1 p.2) tmps).size = tmps.size ∧ ∀ t, (l.foldl (fun (t : Array Value) (p : Nat × Value) => t.setIfInBounds p.1 p.2) tmps).getD t undef = updZ F l t
  | [], tmps, F, h, _ => ⟨rfl, h⟩
  | p :: l, tmps, F, h, hb => by
    have h1 : ∀ t, (tmps.setIfInBounds p.1 p.2).getD t undef = upd F p.1 p.2 t := fun t => by
      show _ = (bif Nat.beq t p.1 then p.2 else F t)
      cases hbq : Nat.beq t p.1 with
      | true => obtain rfl := Nat.eq_of_beq_eq_true hbq; simp [hb p List.mem_cons_self]
      | false =>
        have hne : p.1 ≠ t := fun e => by rw [← e, Nat.beq_refl] at hbq; cases hbq
        rw [← h t]; simp [Array.getElem?_setIfInBounds_ne hne]
    obtain ⟨h2, h3⟩ := fold_frame l (tmps.setIfInBounds p.1 p.2) (upd F p.1 p.2) h1 (fun q hq => by simpa using hb q (List.mem_cons_of_mem _ hq))
    exact ⟨by rw [List.foldl_cons, h2]; simp, fun t => by rw [List.foldl_cons, h3]; rfl⟩

/-- The end of a round. -/
structure RoundE (l : Nat) (K : VK) (e : Exit) (w : World) : Prop where
  of_ ::
  un_ : ∃ r, LoopAt w l r ∧ match e with
    | .normal => K (.bool true) (w.putObj l (.loop { r with state := .ready, pending := none }))
    | .ret => K (.bool false) (w.putObj l (.loop { r with state := .done, pending := some .ret }))
    | .exit id => K (.bool false) (w.putObj l (.loop { r with state := .done, pending := some (.exit id) }))
    | _ => False
theorem roundN {l : Nat} {K : VK} {w : World} (r : Loop) (h : LoopAt w l r) (k : K (.bool true) (w.putObj l (.loop { r with state := .ready, pending := none }))) : RoundE l K .normal w := ⟨r, h, k⟩
theorem roundR {l : Nat} {K : VK} {w : World} (r : Loop) (h : LoopAt w l r) (k : K (.bool false) (w.putObj l (.loop { r with state := .done, pending := some .ret }))) : RoundE l K .ret w := ⟨r, h, k⟩
theorem roundX {l id : Nat} {K : VK} {w : World} (r : Loop) (h : LoopAt w l r) (k : K (.bool false) (w.putObj l (.loop { r with state := .done, pending := some (.exit id) }))) : RoundE l K (.exit id) w := ⟨r, h, k⟩
def Kround (l : Nat) (K : VK) : KK := fun e _ _ w => RoundE l K e w
/-- Between the assignment to the loop's variables and its body. -/
structure MidP (P : Program) (l : Nat) (r : Loop) (K : VK) (F : Fr) (ds : List Deferred) (w : World) : Prop where
  of_ ::
  un_ : LoopAt w l r ∧ V P r.body (Kround l K) F ds (w.putObj l (.loop { r with state := .busy }))
def Kmid (P : Program) (l : Nat) (r : Loop) (K : VK) : KK := fun e F ds w => match e with | .normal => MidP P l r K F ds w | _ => False
theorem mid {l : Nat} {r : Loop} {K : VK} {F : Fr} {ds : List Deferred} {w : World} (h : LoopAt w l r) (k : V P r.body (Kround l K) F ds (w.putObj l (.loop { r with state := .busy }))) : MidP P l r K F ds w := ⟨h, k⟩

/-- A call of yield: one round. -/
theorem yield_rule {l : Nat} {r : Loop} {g : Operand} {args : List Value} {K : VK} {w : World} {F : Fr} (hl : LoopAt w l r) (hr : r.state = .ready) (hsz : args.length = r.params.toList.length) (hF : ∀ t, r.tmps.getD t undef = F t)
    (hwf : wfC r.tmps.size (.rangeFunc g r.params r.assign r.body) = true)
    (h : V P r.assign (Kmid P l r K) (updZ F (r.params.toList.zip args)) [] w) : YieldP P l args.toArray K w := by
  rw [YieldP_eq]
  intro w0 hw
  subst hw
  have hl0 : w0.heap[l]? = some (.loop r) := hl
  obtain ⟨⟨hw1, hw2⟩, hps⟩ : ((wfC r.tmps.size r.assign && wfC r.tmps.size r.body) = true ∧ (noRange r.assign && noRange r.body) = true) ∧ (r.params.toList.all fun t => Nat.blt t r.tmps.size) = true := by
    have := bothT hwf; exact ⟨bothT this.1, this.2⟩
  obtain ⟨hwa, hwb⟩ := bothT hw1
  obtain ⟨hna, hnb⟩ := bothT hw2
  rw [run_yield hl0 (by simpa using hsz)]
  show RoundIn Fence.wide 0 P l r.fn _ r.assign r.body w0 _
  have hfold : ((r.params.zip args.toArray).foldl (fun tmps (t, a) => tmps.setIfInBounds t a) r.tmps) = (r.params.toList.zip args).foldl (fun (t : Array Value) (p : Nat × Value) => t.setIfInBounds p.1 p.2) r.tmps := by
    rw [← Array.foldl_toList, Array.toList_zip]
  have hlt : ∀ p ∈ r.params.toList.zip args, p.1 < r.tmps.size := fun p hp => by
    have := List.all_eq_true.1 hps p.1 (List.of_mem_zip hp).1
    simpa using this
  obtain ⟨f1, f2⟩ := fold_frame (r.params.toList.zip args) r.tmps F hF hlt
  rw [hfold]
  refine roundIn_of_wpIn (F := Fence.wide) trivial (wpIn_mono (V_sound (n := r.tmps.size) r.assign hwa (Kmid P l r K) _ [] w0 (some l) _ (.inr hna) ⟨f1, f2, rfl⟩ h) fun e a' w' hq => ?_)
  obtain ⟨F', hg', hk⟩ := hq
  cases e with
  | normal =>
    obtain ⟨⟨hl1, hbody⟩⟩ := hk
    have hl1 : w'.heap[l]? = some (.loop r) := hl1
    refine ⟨_, run_beginRound hl1 hr, ?_⟩
    refine wpIn_mono (V_sound (n := r.tmps.size) r.body hwb (Kround l K) F' _ (w'.putObj l (.loop { r with state := .busy })) (some l) a' (.inr hnb) hg' hbody) fun e a2 w2 hq2 => ?_
    obtain ⟨F2, _, ⟨⟨r2, hl2, hk2⟩⟩⟩ := hq2
    have hl2 : w2.heap[l]? = some (.loop r2) := hl2
    cases e with
    | normal => exact ⟨_, _, run_endRound none hl2, _, rfl, hk2⟩
    | ret => exact ⟨_, _, run_endRound (some .ret) hl2, _, rfl, hk2⟩
    | exit id => exact ⟨_, _, run_endRound (some (.exit id)) hl2, _, rfl, hk2⟩
    | _ => exact hk2.elim
  | _ => exact hk.elim

/-- Behind the loop. -/
def RangeE (K : KK) (F : Fr) (ds : List Deferred) (pending : Option Code) (w : World) : Prop := match pending with
  | none => K .normal F ds w
  | some .ret => K .ret F ds w
  | some (.exit id) => K (.exit id) F ds w
  | some _ => False
abbrev markD (w : World) : Deferred := { target := .collected w.heap.size, args := #[] }
abbrev loopR (w : World) (fn : FuncId) (tmps : Array Value) (ps : Array Tmp) (assign body : Code) : Loop := { state := .ready, pending := none, fn, tmps, params := ps, assign, body, defers := w.heap.size }

theorem range {g : Operand} {ps : Array Tmp} {assign body : Code} {K : KK} {F : Fr} {ds : List Deferred} {w : World} {gf : FuncId} {lb : Array Value} [he : Enters P gf] (hg : ev F g = .func (.func gf) #[] lb)
    (h : ∀ (fn : FuncId) (tmps : Array Value) (w1 : World) (R : Loop), R = loopR w fn tmps ps assign body → (∀ t, tmps.getD t undef = F t) → wfC tmps.size (.rangeFunc g ps assign body) = true → Ext w w1 → w1.heap.size = w.heap.size + 2 → w1.heap[w.heap.size]? = some (.deferred (some [])) →
      LoopAt w1 (w.heap.size + 1) R →
      CallZ P gf (#[.func (.yield (w.heap.size + 1)) #[] #[]] ++ lb) w1 (fun _ w2 => ∃ r, LoopAt w2 (w.heap.size + 1) r ∧ r.state ≠ .busy ∧ RangeE K F (markD w :: ds) r.pending (w2.putObj (w.heap.size + 1) (.loop { r with state := .exhausted })))) :
    RangeH P (.rangeFunc g ps assign body) K F ds w := by
  rw [RangeH_eq]
  intro a w0 hw hF hd hwf
  subst hw; subst hd
  refine wpIn_rangeFunc (F := Fw none) (fun fn hfn => ?_)
  have hev : a.eval = ev F := funext fun x => by
    cases x with
    | tmp t => exact hF t
    | _ => rfl
  have hga : a.eval g = .func (.func gf) #[] lb := by rw [hev]; exact hg
  obtain ⟨W1, hW1⟩ : ∃ W1, W1 = (w0.alloc (.deferred (some []))).alloc (.loop (loopR w0 fn a.tmps ps assign body)) := ⟨_, rfl⟩
  have hent := run_enterLoop_outer (P := P) (w := w0) fn a.tmps ps assign body
  rw [← hW1] at hent
  refine ⟨w0.heap.size + 1, [{ target := .collected w0.heap.size, args := #[] }], W1, { target := .fn (.func gf) lb, args := #[.func (.yield (w0.heap.size + 1)) #[] #[]] }, W1, gf, #[.func (.yield (w0.heap.size + 1)) #[] #[]] ++ lb, W1, hent, ?_, fun _ _ => trivial, ?_, fun hh => (by cases hh), ?_⟩
  · simp only [resolve, hga]
    simp [go_sem]
  · simp [invoke, go_sem, he.h]
  · have h1 := h fn a.tmps (z W1) _ rfl hF hwf (by rw [hW1]; exact (Kept.alloc _ (z w0) _).trans (Kept.alloc _ _ _)) (by rw [hW1]; simp) (by
      rw [hW1]
      show ((w0.alloc (.deferred (some []))).alloc (.loop (loopR w0 fn a.tmps ps assign body))).heap[w0.heap.size]? = _
      rw [Below.heap_alloc _ _ _ (by simp)]
      exact World.alloc_heap_new w0 _) (by
      have := World.alloc_heap_new (w0.alloc (.deferred (some []))) (.loop (loopR w0 fn a.tmps ps assign body))
      rw [World.size_alloc, ← hW1] at this
      exact this)
    refine (h1 _ rfl).mono ?_
    rintro e w3 ⟨v, rfl, r, hl, hb, hE⟩
    have hl : w3.heap[w0.heap.size + 1]? = some (.loop r) := hl
    refine ⟨r.pending, _, run_endLoop hl hb, ?_⟩
    cases hp : r.pending with
    | none => rw [hp] at hE; exact ⟨rfl, hE⟩
    | some c =>
      rw [hp] at hE
      cases c with
      | ret => exact wpIn_ret ⟨rfl, hE⟩
      | exit id => exact wpIn_exit ⟨rfl, hE⟩
      | _ => exact hE.elim

/-- The return of a function that has ranged over a function. -/
theorem retM {rs : List ResultVar} {F : Fr} {R : VK} {D : Nat} {w : World} (hD : w.heap[D]? = some (.deferred (some []))) (h : VRes P F (w.putObj D (.deferred none)) rs [] (fun vs => R (resV vs) (w.putObj D (.deferred none)))) : RetP P rs F [{ target := .collected D, args := #[] }] R w := by
  rw [RetP_eq]
  refine ⟨_, ?_, h⟩
  simp only [shutMarks, hD]
  rfl
/-- A block is turned that is no cells. -/
theorem Kept.putObj (w : World) (l : Nat) (o : Obj) : Kept (fun b => b ≠ l) w (w.putObj l o) := ⟨rfl, rfl, rfl, by simp, fun i _ hD => World.putObj_heap_other hD⟩
theorem LoopAt.kept {D : Nat → Prop} {w w' : World} {l : Nat} {r : Loop} (h : LoopAt w l r) (k : Kept D w w') (hD : D l) : LoopAt w' l r := (k.blk l (Array.getElem?_eq_some_iff.1 h).1 hD).trans h
theorem LoopAt.put {w : World} {l : Nat} {r : Loop} (h : LoopAt w l r) (r' : Loop) : LoopAt (w.putObj l (.loop r')) l r' := World.putObj_heap_same (Array.getElem?_eq_some_iff.1 h).1
theorem LoopAt.lt {w : World} {l : Nat} {r : Loop} (h : LoopAt w l r) : l < w.heap.size := (Array.getElem?_eq_some_iff.1 h).1
/-! The same, with a name for the world that comes. -/
theorem mid' {l : Nat} {r : Loop} {K : VK} {F : Fr} {ds : List Deferred} {w : World} (h : LoopAt w l r) (k : ∀ w', Kept (fun b => b ≠ l) w w' → w'.heap.size = w.heap.size → LoopAt w' l { r with state := .busy } → V P r.body (Kround l K) F ds w') : MidP P l r K F ds w :=
  mid h (k _ (Kept.putObj _ _ _) (by simp) (h.put _))
theorem roundN' {l : Nat} {K : VK} {w : World} (r : Loop) (h : LoopAt w l r) (k : ∀ w', Kept (fun b => b ≠ l) w w' → LoopAt w' l { r with state := .ready, pending := none } → K (.bool true) w') : RoundE l K .normal w := roundN r h (k _ (Kept.putObj _ _ _) (h.put _))
theorem roundR' {l : Nat} {K : VK} {w : World} (r : Loop) (h : LoopAt w l r) (k : ∀ w', Kept (fun b => b ≠ l) w w' → LoopAt w' l { r with state := .done, pending := some .ret } → K (.bool false) w') : RoundE l K .ret w := roundR r h (k _ (Kept.putObj _ _ _) (h.put _))
theorem roundX' {l id : Nat} {K : VK} {w : World} (r : Loop) (h : LoopAt w l r) (k : ∀ w', Kept (fun b => b ≠ l) w w' → LoopAt w' l { r with state := .done, pending := some (.exit id) } → K (.bool false) w') : RoundE l K (.exit id) w := roundX r h (k _ (Kept.putObj _ _ _) (h.put _))
/-- The loop has come to its end. -/
theorem range_end {K : KK} {F : Fr} {ds : List Deferred} {l : Nat} {w : World} (r : Loop) (h : LoopAt w l r) (hs : r.state ≠ .busy) (k : ∀ w', Kept (fun b => b ≠ l) w w' → RangeE K F ds r.pending w') :
    ∃ r, LoopAt w l r ∧ r.state ≠ .busy ∧ RangeE K F ds r.pending (w.putObj l (.loop { r with state := .exhausted })) := ⟨r, h, hs, k _ (Kept.putObj _ _ _)⟩
end
end Go.Proofs.YtcpdhclnmjfldaaGreatDoor

/- Own layer, part m: what an argument that reads as data is in this layer's words. Nothing of the program stands here. -/
namespace Go.Proofs.YtcpdhclnmjfldaaGreatDoor
open Go Go.RowKit

abbrev AnyB : Nat → Prop := fun _ => True
/-- Whatever of type t reads as data, with n steps, reads as a value of a's. -/
structure RdN {α : Type} (P : Program) (n : Nat) (t : TypeId) (a : Ty α) : Prop where
  h : ∀ {H : Type} {enc : TypeId × Value → H} {W : World} {cs : List Value} {x : DataW H × List MemPlace}, DataW.trod enc P W 0 (fun _ => true) true n t cs = some x → (x.1.weights P t).all (· ≤ reachBytes) = true → ∃ y, a.rep AnyB W cs y
class Rd {α : Type} (P : Program) (t : TypeId) (a : Ty α) : Prop where
  h : ∀ n, RdN P n t a

section
variable {P : Program} {α β : Type} {a : Ty α} {b : Ty β}

theorem intOf_spec {t : TypeId} {k : IntKind} (h : intOf P t = some k) : P.underlying t = some (.int k) := by
  unfold intOf at h; split at h <;> simp_all
theorem isBoo_spec {t : TypeId} (h : isBoo P t = true) : P.underlying t = some .bool := by
  unfold isBoo at h; split at h <;> simp_all
instance rd_int {t : TypeId} [h : IntTy P t .i64] : Rd P t tInt := ⟨fun n => ⟨fun {H enc W cs x} hx _ => by
  obtain ⟨k, rfl, _, hw⟩ := DataW.trod_int (intOf_spec h.h) hx
  refine ⟨k, rfl, ?_⟩
  simp [Lit.wf, IntKind.min, IntKind.max, IntKind.signed, IntKind.bits] at hw
  unfold I64; omega⟩⟩
/-- Numbers of another kind. -/
def tK (k : IntKind) : Ty Int where
  sz := 1
  rep _ _ cs x := cs = [.int k x] ∧ (Lit.int k x).wf = true
  len h := by rw [h.1]; rfl
  keep _ h := h
  more _ h := h
instance rd_k {t : TypeId} {k : IntKind} [h : IntTy P t k] : Rd P t (tK k) := ⟨fun n => ⟨fun {H enc W cs x} hx _ => by
  obtain ⟨z, rfl, _, hw⟩ := DataW.trod_int (intOf_spec h.h) hx
  exact ⟨z, rfl, hw⟩⟩⟩
instance rd_bool {t : TypeId} [h : BoolTy P t] : Rd P t tBool := ⟨fun n => ⟨fun {H enc W cs x} hx _ => by
  have key : ∃ bb, cs = [.bool bb] := by
    cases n with
    | zero => simp [DataW.trod] at hx
    | succ n =>
      unfold DataW.trod at hx
      rw [isBoo_spec h.h] at hx
      split at hx <;> simp_all
  exact key⟩⟩

theorem list_choose {Q : Nat → α → Prop} : ∀ (n : Nat), (∀ i, i < n → ∃ y, Q i y) → ∃ ys : List α, ys.length = n ∧ ∀ k y, ys[k]? = some y → Q k y
  | 0, _ => ⟨[], rfl, fun k y h => by simp at h⟩
  | n + 1, h => by
    obtain ⟨ys, h1, h2⟩ := list_choose n fun i hi => h i (by omega)
    obtain ⟨y, hy⟩ := h n (by omega)
    refine ⟨ys ++ [y], by simp [h1], fun k z hz => ?_⟩
    by_cases hk : k < n
    · rw [List.getElem?_append_left (by omega)] at hz; exact h2 k z hz
    · rw [List.getElem?_append_right (by omega)] at hz
      have : k = n := by
        have := (List.getElem?_eq_some_iff.1 hz).1
        simp at this; omega
      subst this
      simp [h1] at hz; subst hz; exact hy
theorem cells_at {w : World} {A : Addr} {n : Nat} {cs : List Value} (h : w.cells? 0 A n = some cs) : cs.length = n ∧ ∀ j v, cs[j]? = some v → w.cell? (A.add j) = some v := by
  unfold World.cells? at h
  rw [if_pos (Nat.zero_le _)] at h
  refine ⟨by simpa using mapM_some_length h, fun j v hv => ?_⟩
  have hl := mapM_some_length h
  have hj : j < n := by have := (List.getElem?_eq_some_iff.1 hv).1; simp at hl; omega
  rw [mapM_some_get h j j (by simp [hj]), hv]
theorem weightsAll_mem {H : Type} {e : TypeId} : ∀ {l : List (DataW H)} {d : DataW H}, d ∈ l → (DataW.weightsAll P e l).all (· ≤ reachBytes) = true → (d.weights P e).all (· ≤ reachBytes) = true
  | x :: r, d, hd, h => by
    unfold DataW.weightsAll at h
    rw [List.all_append, Bool.and_eq_true] at h
    rcases List.mem_cons.1 hd with rfl | hd
    · exact h.1
    · exact weightsAll_mem hd h.2
theorem rd_slice {n : Nat} {t e : TypeId} {sz by_ : Nat} [hs : SliceTy P t e sz] [hb : BytesTy P e by_] (hpos : 0 < a.sz) (hr : RdN P n e a) (hby : 0 < by_) : RdN P (n + 1) t (tSl a hpos) := ⟨fun {H enc W cs x} hx hw => by
  obtain ⟨hu, i, hi, _⟩ := sliceOf_spec hs.h
  rcases DataW.trod_slice hu hx with ⟨rfl, rfl⟩ | ⟨A, len, cap, elems, rest, m, hm, rfl, rfl, _, hle, _, hlen, hel, hsp, _⟩
  · exact ⟨[], none, 0, 0, rfl, .nil, Nat.le_refl _⟩
  · obtain rfl : n = m := by omega
    dsimp only at hw
    rw [DataW.weights, hu] at hw
    dsimp only at hw
    rw [List.all_cons, Bool.and_eq_true, List.all_append, Bool.and_eq_true] at hw
    obtain ⟨hw1, hw2, _⟩ := hw
    have hbe : P.bytesOf e = by_ := by have := hb.h; unfold bytesOf at this; unfold Program.bytesOf; rw [this]; rfl
    rw [hbe, List.length_map, List.length_map, decide_eq_true_eq] at hw1
    have hbound : len ≤ 140737488355328 := by
      have h1 : len * 1 ≤ (elems.length + rest.length) * by_ := Nat.mul_le_mul (by omega) hby
      have h2 : reachBytes ≤ 140737488355328 := by decide
      omega
    have hel' : ∀ k, k < len → ∃ y, ∃ cs, W.cells? 0 (A.add (k * P.cellsOf e)) (P.cellsOf e) = some cs ∧ a.rep AnyB W cs y := fun k hk => by
      have h1 := hel k hk
      have hk' : k < elems.length := by omega
      rw [List.getElem?_eq_getElem hk', Option.bind_eq_some_iff] at h1
      obtain ⟨c, hc, ht⟩ := h1
      obtain ⟨y, hy⟩ := hr.h ht (weightsAll_mem (List.mem_map_of_mem (List.getElem_mem hk')) hw2)
      exact ⟨y, c, hc, hy⟩
    obtain ⟨ys, hyl, hy⟩ := list_choose len hel'
    refine ⟨ys, some A, len, cap, rfl, ⟨hyl.symm, hbound, fun k y hky => ?_⟩, hle⟩
    obtain ⟨c, hc, hrep⟩ := hy k y hky
    obtain ⟨hc1, hc2⟩ := cells_at hc
    have hca : P.cellsOf e = a.sz := by rw [← hc1]; exact a.len hrep
    -- the first element's first cell tells the address's form
    have h0 : 0 < len := by have := (List.getElem?_eq_some_iff.1 hky).1; omega
    obtain ⟨y0, c0, hc0, hrep0⟩ := hel' 0 h0
    obtain ⟨hl0, hcell0⟩ := cells_at hc0
    have hl0' : 0 < c0.length := by omega
    have hsp0 := World.cell?_spot (hcell0 0 _ (List.getElem?_eq_getElem hl0'))
    obtain ⟨bk, off, spot⟩ := A
    have hspot : spot = none := by simpa [Addr.add] using hsp0
    subst hspot
    refine ⟨bk, off, c, rfl, trivial, fun j v hv => ?_, hrep⟩
    have := hc2 j v hv
    rw [show (⟨bk, off, none⟩ : Addr) = ad bk off from rfl, add_ad, add_ad, hca] at this
    exact this⟩
instance rd_sl {t e : TypeId} {sz by_ : Nat} [hs : SliceTy P t e sz] [hb : BytesTy P e by_] [hr : Rd P e a] {hpos : 0 < a.sz} [hby : NeZero by_] : Rd P t (tSl a hpos) := ⟨fun n => by
  cases n with
  | zero => exact ⟨fun {H enc W cs x} hx _ => by simp [DataW.trod] at hx⟩
  | succ n => exact rd_slice hpos (hr.h n) (Nat.pos_of_ne_zero hby.out)⟩

/-- A struct's fields, from cell o on. -/
structure RdF (P : Program) (n : Nat) (fs : List Field) (o : Nat) (a : Ty α) : Prop where
  h : ∀ {H : Type} {enc : TypeId × Value → H} {W : World} {cs : List Value}, (∀ f ∈ fs, ∃ x, DataW.trod enc P W 0 (fun _ => true) true n f.type ((cs.drop f.offset).take (P.cellsOf f.type)) = some x ∧ (x.1.weights P f.type).all (· ≤ reachBytes) = true) →
    cs.length = o + a.sz → ∃ y, a.rep AnyB W (cs.drop o) y
theorem take_same {l : List Value} {n m : Nat} (h : (l.take n).length = m) : l.take n = l.take m := by
  rw [List.length_take] at h
  by_cases hn : n ≤ l.length
  · rw [Nat.min_eq_left hn] at h; rw [h]
  · rw [Nat.min_eq_right (by omega)] at h
    rw [List.take_of_length_le (by omega), List.take_of_length_le (by omega)]
theorem RdF.one {n : Nat} {f : Field} {o : Nat} (hr : RdN P n f.type a) (ho : f.offset = o) : RdF P n [f] o a := ⟨fun {H enc W cs} hf hl => by
  obtain ⟨x, hx, hw⟩ := hf f List.mem_cons_self
  obtain ⟨y, hy⟩ := hr.h hx hw
  rw [ho] at hy
  have h2 := take_same (a.len hy)
  rw [h2, List.take_of_length_le (by rw [List.length_drop]; omega)] at hy
  exact ⟨y, hy⟩⟩
theorem RdF.cons {n : Nat} {f : Field} {fs : List Field} {o : Nat} (hr : RdN P n f.type a) (ho : f.offset = o) (hs : RdF P n fs (o + a.sz) b) : RdF P n (f :: fs) o (tPair a b) := ⟨fun {H enc W cs} hf hl => by
  obtain ⟨x, hx, hw⟩ := hf f List.mem_cons_self
  obtain ⟨y, hy⟩ := hr.h hx hw
  rw [ho] at hy
  have h2 := take_same (a.len hy)
  rw [h2] at hy
  obtain ⟨z, hz⟩ := hs.h (fun g hg => hf g (List.mem_cons_of_mem _ hg)) (by rw [hl]; show o + (a.sz + b.sz) = _; omega)
  refine ⟨(y, z), (cs.drop o).take a.sz, cs.drop (o + a.sz), ?_, hy, hz⟩
  rw [← List.drop_drop, List.take_append_drop]⟩
theorem weightsEach_mem {H : Type} : ∀ {ts : List TypeId} {ds : List (DataW H)} {j : Nat} {t : TypeId} {d : DataW H}, ts[j]? = some t → ds[j]? = some d → (DataW.weightsEach P ts ds).all (· ≤ reachBytes) = true → (d.weights P t).all (· ≤ reachBytes) = true := fun h1 h2 h => by
  rw [List.all_eq_true] at h ⊢
  exact fun n hn => h n (DataW.weights_mem_each h1 h2 n hn)
theorem rd_struct {n : Nat} {t : TypeId} {fs : Array Field} (hu : P.underlying t = some (.struct fs)) (hc : P.cellsOf t = a.sz) (hf : RdF P n fs.toList 0 a) : RdN P (n + 1) t a := ⟨fun {H enc W cs x} hx hw => by
  obtain ⟨xs, m, hm, rfl, hl, hxl, hxs⟩ := DataW.trod_struct hu hx
  obtain rfl : n = m := by omega
  dsimp only at hw
  rw [DataW.weights, hu] at hw
  dsimp only at hw
  obtain ⟨y, hy⟩ := hf.h (W := W) (cs := cs) (enc := enc) (fun f hfm => by
    obtain ⟨i, hi⟩ := List.getElem?_of_mem hfm
    have hi' : fs[i]? = some f := by simpa using hi
    have h1 := hxs i f hi'
    have hil : i < xs.length := by have := (Array.getElem?_eq_some_iff.1 hi').1; omega
    rw [List.getElem?_eq_getElem hil] at h1
    exact ⟨_, h1, weightsEach_mem (j := i) (by rw [List.getElem?_map, hi]; rfl) (by rw [List.getElem?_map, List.getElem?_eq_getElem hil]; rfl) hw⟩) (by rw [Nat.zero_add, hl, hc])
  exact ⟨y, by rwa [List.drop_zero] at hy⟩⟩
theorem Rd.struct {t : TypeId} {fs : Array Field} (hu : P.underlying t = some (.struct fs)) (hc : P.cellsOf t = a.sz) (hf : ∀ n, RdF P n fs.toList 0 a) : Rd P t a := ⟨fun n => by
  cases n with
  | zero => exact ⟨fun {H enc W cs x} hx _ => by simp [DataW.trod] at hx⟩
  | succ n => exact rd_struct hu hc (hf n)⟩
/-- The same cells, another Lean type. -/
theorem RdN.map {n : Nat} {t : TypeId} {f : β → α} {g : α → β} (hr : RdN P n t a) (hfg : ∀ x, f (g x) = x) : RdN P n t (tMap a f) := ⟨fun {H enc W cs x} hx hw => by
  obtain ⟨y, hy⟩ := hr.h hx hw
  exact ⟨g y, show a.rep AnyB W cs (f (g y)) from by rw [hfg]; exact hy⟩⟩
theorem Rd.map {t : TypeId} {f : β → α} {g : α → β} (hr : Rd P t a) (hfg : ∀ x, f (g x) = x) : Rd P t (tMap a f) := ⟨fun n => (hr.h n).map hfg⟩

/-! ### an argument -/
variable {H : Type} {enc : TypeId × Value → H} {W : World} {base : Nat} {t : TypeId} {v : Value} {d : DataW H} {ps : List MemPlace}
theorem Rd.arg (hr : Rd P t a) (h : DataW.Trod enc P W 0 (fun _ => true) true t v d ps) (hw : (d.weights P t).all (· ≤ reachBytes) = true) : ∃ y, a.rep AnyB W v.cells.toList y := by
  obtain ⟨n, hn⟩ := h
  exact (hr.h n).h hn hw
theorem arg_slice {e : TypeId} {sz : Nat} [hs : SliceTy P t e sz] {hpos : 0 < a.sz} (hr : Rd P t (tSl a hpos)) (hv : Value.okWide P W .any base t v) (h : DataW.Trod enc P W 0 (fun _ => true) true t v d ps) (hw : (d.weights P t).all (· ≤ reachBytes) = true) :
    ∃ A n c xs, v = .slice A n c ∧ SlR a AnyB W A n xs ∧ n ≤ c := by
  obtain ⟨hu, _⟩ := sliceOf_spec hs.h
  obtain ⟨xs, A, n, c, hcs, h1, h2⟩ := hr.arg h hw
  obtain ⟨A', n', c', rfl⟩ := Go.WideShapes.okWide_slice hu hv
  have : Value.slice A' n' c' = .slice A n c := by simpa [Value.cells] using hcs
  exact ⟨A, n, c, xs, this, h1, h2⟩
theorem arg_agg {n : Nat} [ht : AggTy P t n] (hr : Rd P t a) (hv : Value.okWide P W .any base t v) (h : DataW.Trod enc P W 0 (fun _ => true) true t v d ps) (hw : (d.weights P t).all (· ≤ reachBytes) = true) :
    ∃ cs y, v = .agg cs.toArray ∧ a.rep AnyB W cs y := by
  obtain ⟨⟨dd, hu, hd⟩, _⟩ := aggSize_spec ht.h
  obtain ⟨y, hy⟩ := hr.arg h hw
  unfold Value.okWide at hv
  rw [hu] at hv
  have : ∃ cs, v = .agg cs := by
    cases dd <;> simp at hd
    all_goals (obtain ⟨cs, h1, _⟩ := hv; exact ⟨cs, h1⟩)
  obtain ⟨cs, rfl⟩ := this
  exact ⟨cs.toList, y, by simp, by simpa [Value.cells] using hy⟩
theorem arg_k {k : IntKind} [ht : IntTy P t k] (hv : Value.okWide P W .any base t v) (h : DataW.Trod enc P W 0 (fun _ => true) true t v d ps) : ∃ z, v = .int k z ∧ (Lit.int k z).wf = true := by
  obtain ⟨n, hn⟩ := h
  obtain ⟨z, e1, _, hw⟩ := DataW.trod_int (intOf_spec ht.h) hn
  obtain ⟨z', rfl⟩ := Go.WideShapes.okWide_int (intOf_spec ht.h) hv
  have : Value.int k z' = .int k z := by simpa [Value.cells] using e1
  exact ⟨z, this, hw⟩
end

/-! ### from a contract of this layer to the kit's -/
section
variable {P : Program}
theorem CallZ.calls {f : FuncId} {args : Array Value} {W : World} {R : VK} (h : CallZ P f args (z W) R) : Calls P f args W (fun e W' => ∃ v, e = .returned v ∧ R v (z W')) := callsIn_wide.1 (h W rfl)
theorem Ext.below {W W' : World} (h : Ext (z W) (z W')) : Below W.heap.size W W' := ⟨h.os, h.tape, h.output, h.size, fun k hk => h.blk k hk trivial⟩
end
end Go.Proofs.YtcpdhclnmjfldaaGreatDoor

/- Own layer, part n: slices of slices; lists written out. Nothing of the program stands here. -/
namespace Go.Proofs.YtcpdhclnmjfldaaGreatDoor
open Go Go.RowKit

/-- A bound that is written, or is not. -/
def IsB (o : Option Value) (k d : Nat) : Prop := match o with | none => k = d | some (.int _ i) => i = (k : Int) | _ => False
section
variable {P : Program}
theorem run_sliceBound {kd : IntKind} {i : Int} {k y : Nat} (code : BoundsCode) (hi : i = (k : Int)) (hk : k ≤ y) (w : World) : (Instr.sliceBound (.int kd i) y code).run P w = .ok k w := by
  subst hi
  simp [Instr.sliceBound, asIntOf, hk]
theorem run_sliceBounds {isS : Bool} {n c : Nat} {lo hi : Option Value} {l h : Nat} (hl : IsB lo l 0) (hh : IsB hi h n) (h1 : l ≤ h) (h2 : h ≤ c) (w : World) : (Instr.sliceBounds isS n c lo hi none).run P w = .ok (l, h, c) w := by
  cases hi with
  | none =>
    obtain rfl : h = n := hh
    cases lo with
    | none => obtain rfl : l = 0 := hl; simp [Instr.sliceBounds]
    | some v => cases v <;> first | exact hl.elim | simp [Instr.sliceBounds, run_sliceBound _ hl h1]
  | some u =>
    cases u <;> first | exact hh.elim | skip
    cases lo with
    | none => obtain rfl : l = 0 := hl; simp [Instr.sliceBounds, run_sliceBound _ hh h2]
    | some v => cases v <;> first | exact hl.elim | simp [Instr.sliceBounds, run_sliceBound _ hh h2, run_sliceBound _ hl h1]
theorem SlR.sub {α : Type} {a : Ty α} {D : Nat → Prop} {w : World} {b o n : Nat} {xs : List α} {l h o' : Nat} (hs : SlR a D w (some (ad b o)) n xs) (h1 : l ≤ h) (h2 : h ≤ n) (ho : l < h → o' = o + l * a.sz) : SlR a D w (some (ad b o')) (h - l) ((xs.take h).drop l) := by
  obtain ⟨hn, hle, hx⟩ := hs
  refine ⟨by rw [List.length_drop, List.length_take]; omega, by omega, fun k x hk => ?_⟩
  rw [List.getElem?_drop, List.getElem?_take] at hk
  split at hk
  · rename_i hlt
    obtain ⟨b', o2, cs, e, hD, hc, hr⟩ := hx _ _ hk
    simp only [Option.some.injEq, Addr.mk.injEq] at e
    obtain ⟨rfl, rfl, _⟩ := e
    refine ⟨b, o', cs, rfl, hD, ?_, hr⟩
    rw [ho (by omega)]
    rwa [show o + l * a.sz + k * a.sz = o + (l + k) * a.sz from by rw [Nat.add_mul]; omega]
  · cases hk
/-- xs[l:h]. -/
theorem slcR {α : Type} {a : Ty α} {D : Nat → Prop} {w : World} {t e : TypeId} {sz : Nat} [hst : SliceTy P t e sz] {A : Option Addr} {n c : Nat} {lo hi : Option Value} {K : Value → Prop} {xs : List α} (l h : Nat) (hs : SlR a D w A n xs) (hc : n ≤ c) (hlo : IsB lo l 0) (hhi : IsB hi h n) (h1 : l ≤ h) (h2 : h ≤ n) (hsz : a.sz = sz)
    (kk : ∀ A' : Option Addr, (∀ (D' : Nat → Prop) (w' : World), SlR a D' w' A n xs → SlR a D' w' A' (h - l) ((xs.take h).drop l)) → K (.slice A' (h - l) (c - l))) : SlcP P t (.slice A n c) lo hi none K := by
  rw [SlcP_eq]
  obtain ⟨hu, inf, hinf, hs'⟩ := sliceOf_spec hst.h
  have hrun : ∀ w, (Instr.sliceAt t (.slice A n c) lo hi none).run P w = .ok (.slice (if c = l then A else A.map (·.add (l * sz))) (h - l) (c - l)) w := fun w => by
    unfold Instr.sliceAt
    rw [Sem.run_bind, run_underlying hu]
    simp only [Result.andThen_ok]
    unfold Instr.slice
    rw [Sem.run_bind, run_underlying hu]
    simp only [Result.andThen_ok]
    rw [Sem.run_bind, run_sliceBounds hlo hhi h1 (by omega)]
    simp only [Result.andThen_ok]
    rw [Sem.run_bind, run_sizeOf hinf, hs']
    rfl
  refine pure_vval hrun (kk _ fun D' w' hx => ?_)
  cases A with
  | none =>
    have hxs : xs = [] := by
      cases xs with
      | nil => rfl
      | cons x r => obtain ⟨_, _, _, e, _⟩ := hx.2.2 0 x rfl; cases e
    have hn : n = 0 := by have := hx.1; rw [hxs] at this; exact this
    subst hxs
    obtain rfl : l = 0 := by omega
    obtain rfl : h = 0 := by omega
    simp only [List.take_nil, List.drop_nil, Nat.sub_self]
    split <;> exact .nil
  | some q =>
    by_cases h0 : l < h
    · obtain ⟨b, o, _, _, e, _⟩ := hx.at_ (k := 0) (by omega)
      obtain rfl : q = ad b o := Option.some.inj e
      rw [if_neg (by omega)]
      show SlR a D' w' (some ((ad b o).add (l * sz))) (h - l) _
      rw [add_ad, ← hsz]
      exact hx.sub h1 h2 fun _ => rfl
    · have e : (xs.take h).drop l = [] := List.drop_eq_nil_of_le (by rw [List.length_take]; omega)
      rw [e, show h - l = 0 from by omega]
      exact .nil

/-- A list of numbers written out. -/
theorem NewB.sl {D : Nat → Prop} {w w' : World} {e : TypeId} {g : Nat} {xs : List Int} (hb : NewB w e (xs.map fun x => .int .i64 x) g w') (hD : D g) (hx : (xs.all fun x => decide (-9223372036854775808 ≤ x ∧ x ≤ 9223372036854775807)) = true := by decide) (hl : Nat.ble xs.length 1000 = true := by rfl) : SlR tInt D w' (some (ad g 0)) xs.length xs :=
  SlR.of_cells rfl (by have := Nat.le_of_ble_eq_true hl; omega) hD (.blk hb.blk) (flat_ints fun x hm => by have := List.all_eq_true.1 hx x hm; rw [decide_eq_true_iff] at this; exact this)
end
end Go.Proofs.YtcpdhclnmjfldaaGreatDoor

/- Contracts: ratios. -/
namespace Go.Proofs.YtcpdhclnmjfldaaGreatDoor
open Go Go.RowKit

/-! ### more rules -/
section
variable {P : Program} {X : XK}
theorem i64_wrap_id {n : Int} (hn : -9223372036854775808 ≤ n ∧ n ≤ 9223372036854775807) : IntKind.i64.wrap n = n := by
  have := arI (K := fun v => v = .int .i64 n) hn rfl
  rw [ArP_eq] at this
  injection this
theorem convI {s t : TypeId} {k0 : IntKind} {n : Int} {K : Value → Prop} [h0 : IntTy P s k0] [h : IntTy P t .i64] (hn : -9223372036854775808 ≤ n ∧ n ≤ 9223372036854775807) (kk : K (.int .i64 n)) : ConvP P s t (.int k0 n) K := by
  refine conv (k := .i64) ?_
  rw [i64_wrap_id hn]; exact kk
/-- The no first. -/
theorem cDr {p : Prop} [Decidable p] {K : Value → Prop} (h2 : ¬ p → K (.bool false)) (h1 : p → K (.bool true)) : CmpP p K := .of ⟨h1, h2⟩
/-- A number that is not below 0, as an unsigned one. -/
theorem convU {s t : TypeId} {k0 : IntKind} {n : Nat} {i : Int} {K : Value → Prop} [h0 : IntTy P s k0] [h : IntTy P t .u64] (hi : i = n) (hn : n < 9223372036854775808) (kk : K (.int .u64 (n : Int))) : ConvP P s t (.int k0 i) K := by
  subst hi
  refine conv (k := .u64) ?_
  rw [u64_wrap, Int.emod_eq_of_lt (by omega) (by omega)]; exact kk
theorem remT {kd : IntKind} {a b : Int} {K : Value → Prop} (hb : b ≠ 0) (k : K (.int kd (a.tmod b))) : RemP kd a b K := by rw [RemP_eq]; exact ⟨hb, k⟩
theorem quoT {a b : Int} {K : Value → Prop} (c : Int) (hb : b ≠ 0) (hc : a.tdiv b = c) (h : -9223372036854775808 ≤ c ∧ c ≤ 9223372036854775807) (k : K (.int .i64 c)) : QuoP .i64 a b K := by
  rw [QuoP_eq]; exact ⟨hb, by rw [hc, i64_wrap_id h]; exact k⟩
/-- A block of one cell is set. -/
theorem st1 {t e : TypeId} [h : StoTy P t] {g : Nat} {u v : Value} {w : World} {K : VK} (hb : Blk w g e [u]) (hv : v.oneCell' = true) (kk : ∀ w', Blk w' g e [v] → Kept (fun b => b ≠ g) w w' → K undef w') : StoreP P t (.pointer (some (ad g 0))) v K w :=
  st hb (Nat.le_of_ble_eq_true rfl) hv fun w' h1 h2 _ => kk w' h1 h2
theorem yield_of {l : Nat} {args : Array Value} {w : World} {R K : VK} (h : YieldP P l args R w) (k : ∀ v w', R v w' → K v w') : YieldP P l args K w := by
  rw [YieldP_eq] at h ⊢; exact h.mono k
end
abbrev ptr (b : Nat) : Value := .pointer (some (ad b 0))
abbrev iv (n : Int) : Value := .int .i64 n

/-! ### ratios -/
structure Q where
  n : Int
  d : Int
deriving DecidableEq
abbrev Q.v (a : Q) : Value := .agg #[iv a.n, iv a.d]
def qValid (a : Q) : Bool := decide (1 ≤ a.d) && (decide (a.d ≤ 1073741824) && (decide (-1073741824 ≤ a.n) && (decide (a.n ≤ 1073741824) && (Nat.gcd a.n.natAbs a.d.toNat == 1))))
theorem qValid_iff {a : Q} : qValid a = true ↔ 1 ≤ a.d ∧ a.d ≤ 1073741824 ∧ -1073741824 ≤ a.n ∧ a.n ≤ 1073741824 ∧ Nat.gcd a.n.natAbs a.d.toNat = 1 := by
  unfold qValid; simp only [Bool.and_eq_true, decide_eq_true_eq, beq_iff_eq]
def qErr (a : Q) : Int := if qValid a then 0 else 120
def cmpI (x y : Int) : Int := if x < y then -1 else if x > y then 1 else 0
def qCmp (a b : Q) : Int × Int := if qValid a && qValid b then (cmpI (a.n * b.d) (b.n * a.d), 0) else (0, 120)
theorem prod_lt {x y : Int} (hx : -1073741824 ≤ x ∧ x ≤ 1073741824) (hy : -1073741824 ≤ y ∧ y ≤ 1073741824) : -1152921504606846976 ≤ x * y ∧ x * y ≤ 1152921504606846976 := by
  have h1 := Int.natAbs_mul x y
  have h2 : x.natAbs * y.natAbs ≤ 1073741824 * 1073741824 := Nat.mul_le_mul (by omega) (by omega)
  omega

section
variable {w : World}
theorem c_isNaN {x : Int} : CallZ Tryz.prog 56 #[iv x] w (fun v w' => v = .bool false ∧ w' = w) := by
  refine fn_rule (args := [iv x]) Tryz.func56 (by kernel_rfl) ?_
  refine cN (fun h => absurd rfl h) (fun _ => ?_)
  exact ret1 (.bool false) rfl ⟨rfl, rfl⟩
theorem c_Compare {x y : Int} : CallZ Tryz.prog 34 #[iv x, iv y] w (fun v w' => v = iv (cmpI x y) ∧ w' = w) := by
  refine fn_rule (args := [iv x, iv y]) Tryz.func34 (by kernel_rfl) ?_
  refine call_of c_isNaN ?_
  rintro _ _ ⟨rfl, rfl⟩
  refine call_of c_isNaN ?_
  rintro _ _ ⟨rfl, rfl⟩
  refine cD (fun h => ?_) (fun h => ?_)
  · exact ret1 (iv (-1)) rfl ⟨by unfold cmpI; rw [if_pos h], rfl⟩
  refine cD (fun h2 => ?_) (fun h2 => ?_)
  · exact ret1 (iv 1) rfl ⟨by unfold cmpI; rw [if_neg h, if_pos h2], rfl⟩
  · exact ret1 (iv 0) rfl ⟨by unfold cmpI; rw [if_neg h, if_neg h2], rfl⟩
theorem c_magnitude {n : Int} (hn : -1073741824 ≤ n ∧ n ≤ 1073741824) : CallZ Tryz.prog 105 #[iv n] w (fun v w' => v = .int .u64 (n.natAbs : Int) ∧ w' = w) := by
  refine fn_rule (args := [iv n]) Tryz.func105 (by kernel_rfl) ?_
  refine cD (fun h => ?_) (fun h => ?_)
  · refine conv (k := .u64) ?_
    obtain ⟨y, hy⟩ : ∃ y, y = IntKind.u64.wrap n := ⟨_, rfl⟩
    rw [← hy]
    refine arW ?_
    obtain ⟨x, hx⟩ : ∃ x, x = IntKind.u64.wrap (0 - y) := ⟨_, rfl⟩
    rw [← hx]
    rw [u64_wrap] at hx hy
    exact ret1 (.int .u64 x) rfl ⟨by rw [show x = (n.natAbs : Int) from by omega], rfl⟩
  · refine convU (n := n.natAbs) (by omega) (by omega) ?_
    exact ret1 (.int .u64 (n.natAbs : Int)) rfl ⟨rfl, rfl⟩
theorem gcd_step (a b : Nat) : Nat.gcd b (a % b) = Nat.gcd a b := by rw [Nat.gcd_comm b, ← Nat.gcd_rec, Nat.gcd_comm]
theorem c_remainders1 {b1 b2 l a b : Nat} {D : Nat → Prop} (J : Nat → World → Prop) (hb12 : b1 ≠ b2) (hJ : ∀ d w w', J d w → Kept (fun x => x ≠ b1 ∧ x ≠ b2) w w' → J d w')
    (hstep : ∀ (d x : Nat) w, J d w → YieldP Tryz.prog l [.int .u64 (x : Int)].toArray (fun v w' => v = .bool true ∧ J x w' ∧ Kept D w w') w) (hD1 : D b1) (hD2 : D b2)
    (h1 : Blk w b1 97 [.int .u64 (a : Int)]) (h2 : Blk w b2 97 [.int .u64 (b : Int)]) (hb : 0 < b) (h0 : J b w) :
    CallZ Tryz.prog 107 #[.func (.yield l) #[] #[], ptr b1, ptr b2] w (fun _ w' => J (Nat.gcd a b) w') := by
  refine fn_rule (args := [.func (.yield l) #[] #[], ptr b1, ptr b2]) Tryz.func107 (by kernel_rfl) ?_
  refine loop3 (fun (_ _ _ : Nat) => []) (fun x y d w' => 0 < y ∧ Nat.gcd x y = Nat.gcd a b ∧ Blk w' b1 97 [.int .u64 (x : Int)] ∧ Blk w' b2 97 [.int .u64 (y : Int)] ∧ J d w' ∧ (x = 0 → d = y)) (fun _ y _ _ => y) a b b trivial ⟨hb, rfl, h1, h2, h0, fun _ => rfl⟩ rfl ?_
  rintro G x y d w1 ⟨hy, hg, e1, e2, hj, hd⟩
  refine ld _ (e1.cell rfl) ?_
  refine cN (fun hx => ?_) (fun hx => ?_)
  · refine ld _ (e1.cell rfl) ?_
    refine yield_of (hstep d x w1 hj) ?_
    rintro _ w2 ⟨rfl, hj2, k2⟩
    have f1 := e1.kept k2 hD1
    have f2 := e2.kept k2 hD2
    refine drawP (.take 0 (.take 2 (.take 3 (.eff 1 (.take 4 (.eff 5 (.bar (.eff 6 .done)))))))) [6] (fun u => Kept (fun x => x ≠ b1) w2 u) mx (by kernel_rfl) (.refl _ _) ?_
    refine ldK _ (f2.cell rfl) (Ne.symm hb12) (.refl _ _) ?_
    refine ldK _ (f2.cell rfl) (Ne.symm hb12) (.refl _ _) ?_
    refine ld _ (f1.cell rfl) ?_
    refine strS (.refl _ _) ?_
    refine remI (by omega) (by omega) ?_
    obtain ⟨r, hr⟩ : ∃ r : Nat, (x : Int) % max (y : Int) 1 = (r : Int) := ⟨x % y, by rw [Int.max_eq_left (by omega)]; rfl⟩
    have hr' : r = x % y := by
      rw [Int.max_eq_left (by omega)] at hr
      have : ((x % y : Nat) : Int) = (r : Int) := by rw [← hr]; rfl
      omega
    rw [hr]
    have hrl : r < y := by rw [hr']; exact Nat.mod_lt _ hy
    have hgr : Nat.gcd y r = Nat.gcd a b := by rw [hr', gcd_step, hg]
    refine st1 f1 rfl (fun w3 s1 k3 => ?_)
    refine strS k3 ?_
    refine barS (fun _ => True) trivial ?_
    refine st1 (f2.kept k3 (Ne.symm hb12)) rfl (fun w4 s2 k4 => ?_)
    refine strS trivial ?_
    have t1 := s1.kept k4 hb12
    have hj4 := hJ x w2 w4 hj2 ((k3.weak fun _ _ h => h.1).trans (k4.weak fun _ _ h => h.2))
    refine ld _ (s2.cell rfl) ?_
    refine cE (fun h0 => ?_) (fun h0 => ?_)
    · refine ld _ (t1.cell rfl) ?_
      refine yield_of (hstep x y w4 hj4) ?_
      rintro _ w5 ⟨rfl, hj5, -⟩
      refine ret0 ?_
      rw [← hgr, show r = 0 from by omega, Nat.gcd_zero_right]; exact hj5
    · exact next3 y r x trivial ⟨by omega, hgr, t1, s2, hj4, fun h => by omega⟩ hrl
  · have hx0 : x = 0 := by omega
    subst hx0
    refine ret0 ?_
    rw [← hg, Nat.gcd_zero_left]
    rw [hd rfl] at hj; exact hj
theorem c_remainders {a b : Nat} : CallZ Tryz.prog 106 #[.int .u64 (a : Int), .int .u64 (b : Int)] w (fun v w' => ∃ b1 b2, v = .func (.func 107) #[] #[ptr b1, ptr b2] ∧ Ext w w' ∧ Blk w' b1 97 [.int .u64 (a : Int)] ∧ Blk w' b2 97 [.int .u64 (b : Int)] ∧ w.heap.size ≤ b1 ∧ b1 < b2) := by
  refine fn_rule (args := [.int .u64 (a : Int), .int .u64 (b : Int)]) Tryz.func106 (by kernel_rfl) ?_
  refine box (fun b1 w1 h1 => ?_)
  refine box (fun b2 w2 h2 => ?_)
  have e1 := h1.at_
  have e2 := h2.at_
  have s1 := h1.size
  exact ret1 (.func (.func 107) #[] #[ptr b1, ptr b2]) rfl ⟨b1, b2, rfl, h1.ext.trans h2.ext, h1.blk.ext h2.ext, h2.blk, by omega, by omega⟩
theorem c_divisor {a b : Nat} : CallZ Tryz.prog 104 #[.int .u64 (a : Int), .int .u64 (b : Int)] w (fun v w' => v = .int .u64 (Nat.gcd a b : Int) ∧ Ext w w') := by
  refine fn_rule (args := [.int .u64 (a : Int), .int .u64 (b : Int)]) Tryz.func104 (by kernel_rfl) ?_
  refine alloc (fun r w1 h1 => ?_)
  refine cE (fun h0 => ?_) (fun h0 => ?_)
  · refine st1 h1.blk rfl (fun w2 hb2 k2 => ?_)
    refine ret ?_
    refine resL _ (holds_cell (hb2.cell rfl)) ?_
    have e1 := h1.at_
    have : b = 0 := by omega
    subst this
    rw [Nat.gcd_zero_right]
    exact ⟨rfl, h1.ext.then k2 fun b hb _ e => by omega⟩
  · refine st1 h1.blk rfl (fun w2 hb2 k2 => ?_)
    have e1 := h1.at_
    have x2 : Ext w w2 := h1.ext.then k2 fun b hb _ e => by omega
    refine call_of c_remainders ?_
    rintro _ w3 ⟨b1, b2, rfl, x3, g1, g2, hb1, hb12⟩
    have z2 := hb2.lt
    refine range (gf := 107) (lb := #[ptr b1, ptr b2]) rfl (fun fn tmps w4 R hR hF hwf x4 z4 hD4 hl4 => ?_)
    show CallZ _ _ #[.func (.yield (w3.heap.size + 1)) #[] #[], ptr b1, ptr b2] w4 _
    have l1 := g1.lt
    have l2 := g2.lt
    refine (c_remainders1 (D := fun x => x ≠ r ∧ x ≠ w3.heap.size + 1) (fun d w' => Kept (fun x => x ≠ r ∧ x ≠ b1 ∧ x ≠ b2 ∧ x ≠ w3.heap.size + 1) w4 w' ∧ LoopAt w' (w3.heap.size + 1) R ∧ Blk w' r 97 [.int .u64 (d : Int)]) (by omega)
      (fun d w5 w6 ⟨k5, l5, q5⟩ k6 => ⟨k5.then k6 fun _ _ h => ⟨h.2.1, h.2.2.1⟩, l5.kept k6 ⟨by omega, by omega⟩, q5.kept k6 ⟨by omega, by omega⟩⟩) ?_ ⟨by omega, by omega⟩ ⟨by omega, by omega⟩ (g1.ext x4) (g2.ext x4) (by omega) ⟨.refl _ _, hl4, (hb2.ext x3).ext x4⟩).mono ?_
    · rintro d x w5 ⟨k5, l5, q5⟩
      subst hR
      refine yield_rule (args := [.int .u64 (x : Int)]) l5 rfl rfl hF hwf ?_
      refine mid' l5 (fun w6 k6 _ l6 => ?_)
      refine st1 (q5.kept k6 (by omega)) rfl (fun w7 q7 k7 => ?_)
      refine roundN' _ (l6.kept k7 (by omega)) (fun w8 k8 l8 => ?_)
      have kk : Kept (fun x => x ≠ r ∧ x ≠ w3.heap.size + 1) w5 w8 := ((k6.weak fun _ _ h => h.2).trans (k7.weak fun _ _ h => h.1)).trans (k8.weak fun _ _ h => h.2)
      exact ⟨rfl, ⟨k5.then kk fun _ _ h => ⟨h.1, h.2.2.2⟩, l8, q7.kept k8 (by omega)⟩, kk⟩
    · rintro v w5 ⟨k5, l5, q5⟩
      subst hR
      refine range_end _ l5 (by simp) (fun w6 k6 => ?_)
      have q6 := q5.kept k6 (by omega)
      refine ld _ (q6.cell rfl) ?_
      refine st1 q6 rfl (fun w7 q7 k7 => ?_)
      have k47 : Kept (fun x => x ≠ r ∧ x ≠ b1 ∧ x ≠ b2 ∧ x ≠ w3.heap.size + 1) w4 w7 := (k5.then k6 fun _ _ h => h.2.2.2).then k7 fun _ _ h => h.1
      have hD7 : w7.heap[w3.heap.size]? = some (.deferred (some [])) := (k47.blk _ (by omega) ⟨by omega, by omega, by omega, by omega⟩).trans hD4
      refine retM hD7 ?_
      have k8 := Kept.putObj w7 w3.heap.size (.deferred none)
      refine resL _ (holds_cell ((q7.kept k8 (by have := x3.size; omega)).cell rfl)) ?_
      exact ⟨rfl, x2.then (((Ext.any (D := fun b => b < w.heap.size) (x3.trans x4)).then k47 (fun b _ h => ⟨by omega, by omega, by omega, by have := x2.size; have := x3.size; omega⟩)).then k8 (fun b _ h => by have := x2.size; have := x3.size; omega)) (fun b hb _ => hb)⟩
theorem c_qCheck {a : Q} : CallZ Tryz.prog 102 #[a.v] w (fun v w' => v = iv (qErr a) ∧ Ext w w') := by
  refine fn_rule (args := [.agg #[iv a.n, iv a.d]]) Tryz.func102 (by kernel_rfl) ?_
  refine box (fun b w1 h1 => ?_)
  have bad : qValid a = false → iv 120 = iv (qErr a) := fun h => by unfold qErr; rw [h]; rfl
  have h := h1.blk
  refine drawX [0, 1, 2, 3, 4, 5, 6, 7, 8, 9, 10, 11, 12, 13, 14, 15, 16, 17, 18, 19, 20, 21, 22, 23, 24, 25, 26, 27] [25] mx (by kernel_rfl) ?_
  refine fldA ?_
  refine ldX _ (h.cell rfl) (.refl _ _) ?_
  refine cD (fun g1 => ?_) (fun g1 => ?_)
  · refine strS (.refl _ _) ?_
    exact ret1 (iv 120) rfl ⟨bad (Bool.eq_false_iff.2 fun e => by have := qValid_iff.1 e; omega), h1.ext⟩
  refine fldA ?_
  refine ldX _ (h.cell rfl) (.refl _ _) ?_
  refine cD (fun g2 => ?_) (fun g2 => ?_)
  · refine strS (.refl _ _) ?_
    exact ret1 (iv 120) rfl ⟨bad (Bool.eq_false_iff.2 fun e => by have := qValid_iff.1 e; omega), h1.ext⟩
  refine fldA ?_
  refine ldX _ (h.cell rfl) (.refl _ _) ?_
  refine cD (fun g3 => ?_) (fun g3 => ?_)
  · refine strS (.refl _ _) ?_
    exact ret1 (iv 120) rfl ⟨bad (Bool.eq_false_iff.2 fun e => by have := qValid_iff.1 e; omega), h1.ext⟩
  refine fldA ?_
  refine ldX _ (h.cell rfl) (.refl _ _) ?_
  refine cD (fun g4 => ?_) (fun g4 => ?_)
  · refine strS (.refl _ _) ?_
    exact ret1 (iv 120) rfl ⟨bad (Bool.eq_false_iff.2 fun e => by have := qValid_iff.1 e; omega), h1.ext⟩
  refine fldA ?_
  refine ldX _ (h.cell rfl) (.refl _ _) ?_
  refine callQ (v := .int .u64 (a.n.natAbs : Int)) (fun u _ => c_magnitude (by omega)) ?_
  refine fldA ?_
  refine ldX _ (h.cell rfl) (.refl _ _) ?_
  refine convU (n := a.d.toNat) (by omega) (by omega) ?_
  refine call_of c_divisor ?_
  rintro _ w2 ⟨rfl, x2⟩
  refine strS x2 ?_
  refine cN (fun g5 => ?_) (fun g5 => ?_)
  · exact ret1 (iv 120) rfl ⟨bad (Bool.eq_false_iff.2 fun e => by have := qValid_iff.1 e; omega), h1.ext.trans x2⟩
  · refine ret1 (iv 0) rfl ⟨?_, h1.ext.trans x2⟩
    unfold qErr
    rw [qValid_iff.2 ⟨by omega, by omega, by omega, by omega, by omega⟩]; rfl
theorem qErr_ok {a : Q} : qErr a = 0 ↔ qValid a = true := by unfold qErr; cases qValid a <;> simp
theorem c_qCmp {a b : Q} : CallZ Tryz.prog 100 #[a.v, b.v] w (fun v w' => v = .tuple #[iv (qCmp a b).1, iv (qCmp a b).2] ∧ Ext w w') := by
  refine fn_rule (args := [.agg #[iv a.n, iv a.d], .agg #[iv b.n, iv b.d]]) Tryz.func100 (by kernel_rfl) ?_
  refine box (fun ga w1 h1 => ?_)
  refine box (fun gb w2 h2 => ?_)
  have x2 := h1.ext.trans h2.ext
  have ba := h1.blk.ext h2.ext
  refine ldA [_, _] (.blk ba) rfl ?_
  refine call_of (c_qCheck (a := a)) ?_
  rintro _ w3 ⟨rfl, x3⟩
  refine cN (fun g1 => ?_) (fun g1 => ?_)
  · refine ret2 (iv 0) (iv 120) rfl rfl ⟨?_, x2.trans x3⟩
    have : qValid a = false := Bool.eq_false_iff.2 fun e => g1 (qErr_ok.2 e)
    unfold qCmp; rw [this]; rfl
  refine ldA [_, _] (.blk (h2.blk.ext x3)) rfl ?_
  refine call_of (c_qCheck (a := b)) ?_
  rintro _ w4 ⟨rfl, x4⟩
  have ha := qErr_ok.1 g1
  have x24 := x3.trans x4
  refine cN (fun g2 => ?_) (fun g2 => ?_)
  · refine ret2 (iv 0) (iv 120) rfl rfl ⟨?_, x2.trans x24⟩
    have : qValid b = false := Bool.eq_false_iff.2 fun e => g2 (qErr_ok.2 e)
    unfold qCmp; rw [ha, this]; rfl
  have hb := qErr_ok.1 g2
  have va := qValid_iff.1 ha
  have vb := qValid_iff.1 hb
  have p1 := prod_lt (x := a.n) (y := b.d) (by omega) (by omega)
  have p2 := prod_lt (x := b.n) (y := a.d) (by omega) (by omega)
  have ba4 := ba.ext x24
  have bb4 := h2.blk.ext x24
  refine fldA ?_
  refine ld _ (ba4.cell rfl) ?_
  refine fldA ?_
  refine ld _ (bb4.cell rfl) ?_
  refine arI (by omega) ?_
  refine fldA ?_
  refine ld _ (bb4.cell rfl) ?_
  refine fldA ?_
  refine ld _ (ba4.cell rfl) ?_
  refine arI (by omega) ?_
  refine call_of c_Compare ?_
  rintro _ _ ⟨rfl, rfl⟩
  refine ret2 (iv (cmpI (a.n * b.d) (b.n * a.d))) (iv 0) rfl rfl ⟨?_, x2.trans x24⟩
  unfold qCmp; rw [ha, hb]; rfl
theorem floor_eq {n d : Int} (hd : 0 < d) : (n - (n.tmod d + d).tmod d).tdiv d = n / d := by
  have h1 : n.tmod d + d = n.tmod d + d := rfl
  have hr := Int.tmod_lt_of_pos n hd
  have hr2 := Int.lt_tmod_of_pos n hd
  have h3 : (n.tmod d + d).tmod d = n % d := by
    rw [Int.tmod_eq_emod_of_nonneg (by omega), Int.add_emod_right]
    have := Int.tmod_eq_emod (a := n) (b := d)
    rw [this]
    split
    · simp
    · rw [Int.natAbs_of_nonneg (by omega), Int.sub_emod, Int.emod_self, Int.sub_zero, Int.emod_emod_of_dvd _ (Int.dvd_refl d), Int.emod_emod_of_dvd _ (Int.dvd_refl d)]
  rw [h3]
  have h4 : n - n % d = d * (n / d) := by have := Int.emod_add_mul_ediv n d; omega
  rw [h4, Int.mul_tdiv_cancel_left _ (by omega)]
theorem c_down {n d : Int} (hd : 0 < d ∧ d ≤ 1073741824) (hn : -1152921504606846976 ≤ n ∧ n ≤ 1152921504606846976) : CallZ Tryz.prog 103 #[iv n, iv d] w (fun v w' => v = iv (n / d) ∧ w' = w) := by
  refine fn_rule (args := [iv n, iv d]) Tryz.func103 (by kernel_rfl) ?_
  have hr := Int.tmod_lt_of_pos n hd.1
  have hr2 := Int.lt_tmod_of_pos n hd.1
  refine remT (by omega) ?_
  refine arI (by omega) ?_
  have hs := Int.tmod_lt_of_pos (n.tmod d + d) hd.1
  have hs2 := Int.lt_tmod_of_pos (n.tmod d + d) hd.1
  refine remT (by omega) ?_
  refine arI (by omega) ?_
  have hf := floor_eq (n := n) hd.1
  have hb1 : -1152921504606846976 ≤ n / d := by
    have := Int.le_ediv_of_mul_le (a := -1152921504606846976) (b := n) hd.1 (by have : -1152921504606846976 * d ≤ -1152921504606846976 := by omega
                                                                                omega)
    exact this
  have hb2 : n / d ≤ 1152921504606846976 := by
    have h : n / d < 1152921504606846977 := Int.ediv_lt_of_lt_mul hd.1 (by have : 1152921504606846977 ≤ 1152921504606846977 * d := by omega
                                                                           omega)
    omega
  refine quoT (n / d) (by omega) hf (by omega) ?_
  exact ret1 (iv (n / d)) rfl ⟨rfl, rfl⟩
/-- The integers around a product. -/
def qTimes (a : Q) (n : Int) : Int × Int × Int := if qValid a then (if n < -1073741824 ∨ 1073741824 < n then (0, 0, 1) else (a.n * n / a.d, -(-a.n * n / a.d), 0)) else (0, 0, 120)
theorem c_Times {a : Q} {n : Int} : CallZ Tryz.prog 99 #[a.v, iv n] w (fun v w' => v = .tuple #[iv (qTimes a n).1, iv (qTimes a n).2.1, iv (qTimes a n).2.2] ∧ Ext w w') := by
  refine fn_rule (args := [.agg #[iv a.n, iv a.d], iv n]) Tryz.func99 (by kernel_rfl) ?_
  refine box (fun ga w1 h1 => ?_)
  refine ldA [_, _] (.blk h1.blk) rfl ?_
  refine call_of (c_qCheck (a := a)) ?_
  rintro _ w2 ⟨rfl, x2⟩
  have x02 := h1.ext.trans x2
  refine cN (fun g1 => ?_) (fun g1 => ?_)
  · have hv : qValid a = false := Bool.eq_false_iff.2 fun e => g1 (qErr_ok.2 e)
    refine ret3 (iv 0) (iv 0) (iv (qErr a)) rfl rfl rfl ⟨?_, x02⟩
    unfold qTimes qErr; rw [hv]; rfl
  have hv := qErr_ok.1 g1
  have va := qValid_iff.1 hv
  have b2 := h1.blk.ext x2
  refine cD (fun g2 => ?_) (fun g2 => ?_)
  · refine ret3 (iv 0) (iv 0) (iv 1) rfl rfl rfl ⟨?_, x02⟩
    unfold qTimes; rw [hv, if_pos rfl, if_pos (.inl g2)]
  refine cD (fun g3 => ?_) (fun g3 => ?_)
  · refine ret3 (iv 0) (iv 0) (iv 1) rfl rfl rfl ⟨?_, x02⟩
    unfold qTimes; rw [hv, if_pos rfl, if_pos (.inr g3)]
  have p1 := prod_lt (x := a.n) (y := n) (by omega) (by omega)
  have p2 := prod_lt (x := -a.n) (y := n) (by omega) (by omega)
  refine drawQ mx (by kernel_rfl) ?_
  refine fldA ?_
  refine ld _ (b2.cell rfl) ?_
  refine arI (by omega) ?_
  refine fldA ?_
  refine ld _ (b2.cell rfl) ?_
  refine callQ (v := iv (a.n * n / a.d)) (fun u _ => c_down (by omega) (by omega)) ?_
  refine fldA ?_
  refine ld _ (b2.cell rfl) ?_
  refine arI (by omega) ?_
  rw [show (0 : Int) - a.n = -a.n from by omega]
  refine arI (by omega) ?_
  refine fldA ?_
  refine ld _ (b2.cell rfl) ?_
  refine callQ (v := iv (-a.n * n / a.d)) (fun u _ => c_down (by omega) (by omega)) ?_
  have hb1 : -1152921504606846976 ≤ -a.n * n / a.d := by
    have := Int.le_ediv_of_mul_le (a := -1152921504606846976) (b := -a.n * n) (c := a.d) (by omega) (by have : -1152921504606846976 * a.d ≤ -1152921504606846976 := by omega
                                                                                                        omega)
    exact this
  have hb2 : -a.n * n / a.d ≤ 1152921504606846976 := by
    have h : -a.n * n / a.d < 1152921504606846977 := Int.ediv_lt_of_lt_mul (by omega) (by have : 1152921504606846977 ≤ 1152921504606846977 * a.d := by omega
                                                                                          omega)
    omega
  refine arI (by omega) ?_
  refine ret3 (iv (a.n * n / a.d)) (iv (0 - -a.n * n / a.d)) (iv 0) rfl rfl rfl ⟨?_, x02⟩
  unfold qTimes
  rw [hv, if_pos rfl, if_neg (by omega), Int.zero_sub]
end
end Go.Proofs.YtcpdhclnmjfldaaGreatDoor

/- Contracts: ratios, the reference's. -/
namespace Go.Proofs.YtcpdhclnmjfldaaGreatDoor
open Go Go.RowKit

theorem natmod {x y : Nat} : (x : Int) % (y : Int) = ((x % y : Nat) : Int) := rfl
section
variable {w : World}
end
end Go.Proofs.YtcpdhclnmjfldaaGreatDoor

/- Contracts: losses, the program's and the reference's. -/
namespace Go.Proofs.YtcpdhclnmjfldaaGreatDoor
open Go Go.RowKit

structure Rg where
  lo : Int
  hi : Int
deriving DecidableEq
abbrev Rg.v (x : Rg) : Value := .agg #[iv x.lo, iv x.hi]
structure Reach where
  name : ByteArray
  up : Int
  delay : Int
  cap : Int
  bank : Int
  siphon : Int
  evap : Rg
  s0 : Q
  s1 : Q
abbrev Reach.c (r : Reach) : List Value := [.string r.name, iv r.up, iv r.delay, iv r.cap, iv r.bank, iv r.siphon, iv r.evap.lo, iv r.evap.hi, iv r.s0.n, iv r.s0.d, iv r.s1.n, iv r.s1.d]
abbrev Reach.v (r : Reach) : Value := .agg #[.string r.name, iv r.up, iv r.delay, iv r.cap, iv r.bank, iv r.siphon, iv r.evap.lo, iv r.evap.hi, iv r.s0.n, iv r.s0.d, iv r.s1.n, iv r.s1.d]
abbrev pairQ (a b : Q) : Value := .agg #[iv a.n, iv a.d, iv b.n, iv b.d]
def inI (n lo hi : Int) : Bool := decide (lo ≤ n) && decide (n ≤ hi)
theorem inI_iff {n lo hi : Int} : inI n lo hi = true ↔ lo ≤ n ∧ n ≤ hi := by unfold inI; simp
theorem inI_not {n lo hi : Int} : inI n lo hi = false ↔ ¬ (lo ≤ n ∧ n ≤ hi) := by rw [← inI_iff]; simp
def shareQ (a : Q) : Bool := qValid a && inI a.n 0 a.d
def sharesQ (a b : Q) : Bool := shareQ a && (shareQ b && decide (a.n * b.d ≤ b.n * a.d))
def rgOk (x : Rg) (most : Int) : Bool := decide (0 ≤ x.lo) && (decide (x.lo ≤ x.hi) && decide (x.hi ≤ most))
theorem rgOk_iff {x : Rg} {most : Int} : rgOk x most = true ↔ 0 ≤ x.lo ∧ x.lo ≤ x.hi ∧ x.hi ≤ most := by unfold rgOk; simp
def lossOk (r : Reach) : Bool := rgOk r.evap 1073741824 && sharesQ r.s0 r.s1
def lErr (r : Reach) (v : Int) : Int := if lossOk r = false then 210 else if inI v 0 1073741824 = false then 1 else 0
def upI (a b : Int) : Int := (a + b - 1) / b
def lostR (r : Reach) (v : Int) : Rg := if v = 0 then ⟨0, 0⟩ else ⟨min v (r.evap.lo + v * r.s0.n / r.s0.d), min v (r.evap.hi + upI (v * r.s1.n) r.s1.d)⟩
theorem shareQ_iff {a : Q} : shareQ a = true ↔ qValid a = true ∧ 0 ≤ a.n ∧ a.n ≤ a.d := by unfold shareQ; rw [Bool.and_eq_true, inI_iff]
theorem sharesQ_iff {a b : Q} : sharesQ a b = true ↔ shareQ a = true ∧ shareQ b = true ∧ a.n * b.d ≤ b.n * a.d := by unfold sharesQ; simp
theorem lossOk_iff {r : Reach} : lossOk r = true ↔ (0 ≤ r.evap.lo ∧ r.evap.lo ≤ r.evap.hi ∧ r.evap.hi ≤ 1073741824) ∧ sharesQ r.s0 r.s1 = true := by unfold lossOk; rw [Bool.and_eq_true, rgOk_iff]
theorem lErr_ok {r : Reach} {v : Int} : lErr r v = 0 ↔ lossOk r = true ∧ 0 ≤ v ∧ v ≤ 1073741824 := by
  unfold lErr
  rw [← inI_iff]
  cases lossOk r <;> cases inI v 0 1073741824 <;> simp
theorem up_neg {x d : Int} (hd : 0 < d) : -(-x / d) = upI x d := by
  unfold upI
  have h1 := Int.emod_add_mul_ediv (-x) d
  have h2 := Int.emod_nonneg (-x) (show d ≠ 0 by omega)
  have h3 := Int.emod_lt_of_pos (-x) hd
  have h4 : x + d - 1 = (d - 1 - -x % d) + d * -(-x / d) := by rw [Int.mul_neg]; omega
  have h5 : x + d - 1 = (d - 1 - -x % d) + (-(-x / d)) * d := by rw [h4, Int.mul_comm d]
  have h6 : (d - 1 - -x % d) / d = 0 := Int.ediv_eq_zero_of_lt (by omega) (by omega)
  rw [h5, Int.add_mul_ediv_right _ _ (by omega), h6, Int.zero_add]
theorem CellsAt.mid {w : World} {b o : Nat} {cs : List Value} (h : CellsAt w b o cs) (k n : Nat) : CellsAt w b (o + k) ((cs.drop k).take n) := fun j v hv => by
  rw [List.getElem?_take] at hv
  split at hv
  · rw [List.getElem?_drop] at hv
    have := h _ _ hv
    rwa [Nat.add_assoc]
  · cases hv
theorem share_le {a : Q} {v : Int} (h : shareQ a = true) (hv : 0 ≤ v) : 0 ≤ v * a.n ∧ v * a.n / a.d ≤ v ∧ 0 ≤ v * a.n / a.d ∧ upI (v * a.n) a.d ≤ v ∧ 0 ≤ upI (v * a.n) a.d := by
  obtain ⟨h1, h2, h3⟩ := shareQ_iff.1 h
  obtain ⟨d1, -⟩ := qValid_iff.1 h1
  have p : 0 ≤ v * a.n := Int.mul_nonneg hv h2
  have q : v * a.n ≤ v * a.d := Int.mul_le_mul_of_nonneg_left h3 hv
  refine ⟨p, ?_, Int.ediv_nonneg p (by omega), ?_, ?_⟩
  · exact Int.ediv_le_of_le_mul (by omega) q
  · unfold upI
    have : (v * a.n + a.d - 1) / a.d < v + 1 := Int.ediv_lt_of_lt_mul (by omega) (by rw [Int.add_mul]; omega)
    omega
  · unfold upI; exact Int.ediv_nonneg (by omega) (by omega)

section
variable {w : World}
theorem c_lin {n lo hi : Int} : CallZ Tryz.prog 96 #[iv n, iv lo, iv hi] w (fun v w' => v = .bool (inI n lo hi) ∧ w' = w) := by
  refine fn_rule (args := [iv n, iv lo, iv hi]) Tryz.func96 (by kernel_rfl) ?_
  refine cDr (fun g1 => ?_) (fun g1 => ?_)
  · exact ret1 (.bool false) rfl ⟨by rw [inI_not.2 (by omega)], rfl⟩
  refine cDr (fun g2 => ?_) (fun g2 => ?_)
  · exact ret1 (.bool false) rfl ⟨by rw [inI_not.2 (by omega)], rfl⟩
  · exact ret1 (.bool true) rfl ⟨by rw [inI_iff.2 (by omega)], rfl⟩
theorem c_lshare {a : Q} : CallZ Tryz.prog 101 #[a.v] w (fun v w' => v = .bool (shareQ a) ∧ Ext w w') := by
  refine fn_rule (args := [.agg #[iv a.n, iv a.d]]) Tryz.func101 (by kernel_rfl) ?_
  refine box (fun b w1 h1 => ?_)
  refine ldA [_, _] (.blk h1.blk) rfl ?_
  refine call_of (c_qCheck (a := a)) ?_
  rintro _ w2 ⟨rfl, x2⟩
  refine cE (fun g => ?_) (fun g => ?_)
  · have hv := qErr_ok.1 g
    have b2 := h1.blk.ext x2
    refine fldA ?_
    refine ld _ (b2.cell rfl) ?_
    refine fldA ?_
    refine ld _ (b2.cell rfl) ?_
    refine callB c_lin (fun hb => ?_) (fun hb => ?_)
    · exact ret1 (.bool true) rfl ⟨by unfold shareQ; rw [hv, hb]; rfl, h1.ext.trans x2⟩
    · exact ret1 (.bool false) rfl ⟨by unfold shareQ; rw [hv, hb]; rfl, h1.ext.trans x2⟩
  · have hv : qValid a = false := Bool.eq_false_iff.2 fun e => g (qErr_ok.2 e)
    exact ret1 (.bool false) rfl ⟨by unfold shareQ; rw [hv]; rfl, h1.ext.trans x2⟩
theorem c_lshares {a b : Q} : CallZ Tryz.prog 95 #[pairQ a b] w (fun v w' => v = .bool (sharesQ a b) ∧ Ext w w') := by
  refine fn_rule (args := [.agg #[iv a.n, iv a.d, iv b.n, iv b.d]]) Tryz.func95 (by kernel_rfl) ?_
  refine box (fun g w1 h1 => ?_)
  have hc := CellsAt.blk h1.blk
  refine idxR 0 rfl (by decide) ?_
  refine ldA [iv a.n, iv a.d] (hc.mid 0 2) rfl ?_
  refine callE (c_lshare (a := a)) (fun w2 ha x2 => ?_) (fun w2 ha x2 => ?_)
  · refine idxR 1 rfl (by decide) ?_
    refine ldA [iv b.n, iv b.d] ((hc.mid 2 2).kept x2 trivial) rfl ?_
    refine callE (c_lshare (a := b)) (fun w3 hb x3 => ?_) (fun w3 hb x3 => ?_)
    · have x13 := x2.trans x3
      refine idxR 0 rfl (by decide) ?_
      refine ldA [iv a.n, iv a.d] ((hc.mid 0 2).kept x13 trivial) rfl ?_
      refine idxR 1 rfl (by decide) ?_
      refine ldA [iv b.n, iv b.d] ((hc.mid 2 2).kept x13 trivial) rfl ?_
      refine call_of (c_qCmp (a := a) (b := b)) ?_
      rintro _ w4 ⟨rfl, x4⟩
      have hC : qCmp a b = (cmpI (a.n * b.d) (b.n * a.d), 0) := by unfold qCmp; rw [(shareQ_iff.1 ha).1, (shareQ_iff.1 hb).1]; rfl
      rw [hC]
      refine cE (fun _ => ?_) (fun h => absurd rfl h)
      have hcmp : cmpI (a.n * b.d) (b.n * a.d) ≤ 0 ↔ a.n * b.d ≤ b.n * a.d := by unfold cmpI; split <;> (try split) <;> omega
      refine cD (fun g2 => ?_) (fun g2 => ?_)
      · exact ret1 (.bool true) rfl ⟨by rw [sharesQ_iff.2 ⟨ha, hb, hcmp.1 g2⟩], h1.ext.trans (x13.trans x4)⟩
      · refine ret1 (.bool false) rfl ⟨?_, h1.ext.trans (x13.trans x4)⟩
        rw [show sharesQ a b = false from Bool.eq_false_iff.2 fun e => g2 (hcmp.2 (sharesQ_iff.1 e).2.2)]
    · exact ret1 (.bool false) rfl ⟨by unfold sharesQ; rw [ha, hb]; rfl, h1.ext.trans (x2.trans x3)⟩
  · exact ret1 (.bool false) rfl ⟨by unfold sharesQ; rw [ha]; rfl, h1.ext.trans x2⟩
theorem c_lordered {x : Rg} {most : Int} : CallZ Tryz.prog 94 #[x.v, iv most] w (fun v w' => v = .bool (rgOk x most) ∧ Ext w w') := by
  refine fn_rule (args := [.agg #[iv x.lo, iv x.hi], iv most]) Tryz.func94 (by kernel_rfl) ?_
  refine box (fun g w1 h1 => ?_)
  have bad : ¬ (0 ≤ x.lo ∧ x.lo ≤ x.hi ∧ x.hi ≤ most) → Value.bool false = .bool (rgOk x most) := fun h => by rw [show rgOk x most = false from Bool.eq_false_iff.2 fun e => h (rgOk_iff.1 e)]
  refine fldA ?_
  refine ld _ (h1.blk.cell rfl) ?_
  refine cDr (fun g1 => ?_) (fun g1 => ?_)
  · exact ret1 (.bool false) rfl ⟨bad (by omega), h1.ext⟩
  refine fldA ?_
  refine ld _ (h1.blk.cell rfl) ?_
  refine fldA ?_
  refine ld _ (h1.blk.cell rfl) ?_
  refine cDr (fun g2 => ?_) (fun g2 => ?_)
  · exact ret1 (.bool false) rfl ⟨bad (by omega), h1.ext⟩
  refine fldA ?_
  refine ld _ (h1.blk.cell rfl) ?_
  refine cDr (fun g3 => ?_) (fun g3 => ?_)
  · exact ret1 (.bool false) rfl ⟨bad (by omega), h1.ext⟩
  · exact ret1 (.bool true) rfl ⟨by rw [rgOk_iff.2 (by omega)], h1.ext⟩
theorem c_lvalid {r : Reach} {n : Int} : CallZ Tryz.prog 86 #[r.v, iv n] w (fun v w' => v = iv (lErr r n) ∧ Ext w w') := by
  refine fn_rule (args := [.agg #[.string r.name, iv r.up, iv r.delay, iv r.cap, iv r.bank, iv r.siphon, iv r.evap.lo, iv r.evap.hi, iv r.s0.n, iv r.s0.d, iv r.s1.n, iv r.s1.d], iv n]) Tryz.func86 (by kernel_rfl) ?_
  refine box (fun g w1 h1 => ?_)
  have hc := CellsAt.blk h1.blk
  refine fldA ?_
  refine ldA [iv r.evap.lo, iv r.evap.hi] (hc.mid 6 2) rfl ?_
  refine callE (c_lordered (x := r.evap)) (fun w2 ha x2 => ?_) (fun w2 ha x2 => ?_)
  · refine fldA ?_
    refine ldA [iv r.s0.n, iv r.s0.d, iv r.s1.n, iv r.s1.d] ((hc.mid 8 4).kept x2 trivial) rfl ?_
    refine callE (c_lshares (a := r.s0) (b := r.s1)) (fun w3 hb x3 => ?_) (fun w3 hb x3 => ?_)
    · have hok : lossOk r = true := by unfold lossOk; rw [ha, hb]; rfl
      refine callB c_lin (fun hi => ?_) (fun hi => ?_)
      · exact ret1 (iv 0) rfl ⟨by unfold lErr; rw [hok, hi]; rfl, h1.ext.trans (x2.trans x3)⟩
      · exact ret1 (iv 1) rfl ⟨by unfold lErr; rw [hok, hi]; rfl, h1.ext.trans (x2.trans x3)⟩
    · have hok : lossOk r = false := by unfold lossOk; rw [ha, hb]; rfl
      exact ret1 (iv 210) rfl ⟨by unfold lErr; rw [hok]; rfl, h1.ext.trans (x2.trans x3)⟩
  · have hok : lossOk r = false := by unfold lossOk; rw [ha]; rfl
    exact ret1 (iv 210) rfl ⟨by unfold lErr; rw [hok]; rfl, h1.ext.trans x2⟩
theorem times_lo {a : Q} {v : Int} (h : shareQ a = true) (hv : 0 ≤ v ∧ v ≤ 1073741824) : qTimes a v = (v * a.n / a.d, upI (v * a.n) a.d, 0) := by
  obtain ⟨h1, _⟩ := shareQ_iff.1 h
  have hd := (qValid_iff.1 h1).1
  unfold qTimes
  rw [h1, if_pos rfl, if_neg (by omega), Int.neg_mul, up_neg (by omega), Int.mul_comm a.n v]
theorem lost_le {r : Reach} {v : Int} (h : lossOk r = true) (hv : 0 ≤ v ∧ v ≤ 1073741824) : 0 ≤ (lostR r v).lo ∧ (lostR r v).lo ≤ v ∧ 0 ≤ (lostR r v).hi ∧ (lostR r v).hi ≤ v := by
  obtain ⟨h1, h2⟩ := lossOk_iff.1 h
  obtain ⟨h3, h4, _⟩ := sharesQ_iff.1 h2
  have s0 := share_le (v := v) h3 hv.1
  have s1 := share_le (v := v) h4 hv.1
  unfold lostR
  split
  · dsimp only; omega
  · dsimp only; omega
theorem c_llost {r : Reach} {v : Int} (hok : lossOk r = true) (hv : 0 ≤ v ∧ v ≤ 1073741824) : CallZ Tryz.prog 89 #[r.v, iv v] w (fun u w' => u = (lostR r v).v ∧ Ext w w') := by
  refine fn_rule (args := [.agg #[.string r.name, iv r.up, iv r.delay, iv r.cap, iv r.bank, iv r.siphon, iv r.evap.lo, iv r.evap.hi, iv r.s0.n, iv r.s0.d, iv r.s1.n, iv r.s1.d], iv v]) Tryz.func89 (by kernel_rfl) ?_
  obtain ⟨he, hs⟩ := lossOk_iff.1 hok
  obtain ⟨hs0, hs1, -⟩ := sharesQ_iff.1 hs
  have p0 := share_le (v := v) hs0 hv.1
  have p1 := share_le (v := v) hs1 hv.1
  refine box (fun g w1 h1 => ?_)
  refine alloc (fun q w2 h2 => ?_)
  have e2 := h2.at_
  have z1 := h1.ext.size
  have b2 := h1.blk.ext h2.ext
  have x02 := h1.ext.trans h2.ext
  refine cE (fun h0 => ?_) (fun h0 => ?_)
  · refine bld [iv 0, iv 0] (by kernel_rfl) ?_
    refine stA (vs := [iv 0, iv 0]) h2.blk rfl (Nat.le_of_ble_eq_true rfl) (by simp [Value.oneCell']) (fun w3 hb3 k3 z3 => ?_)
    refine ret ?_
    refine resL _ (holds_agg (.blk hb3) rfl) ?_
    exact ⟨by unfold lostR; rw [if_pos h0]; rfl, x02.then k3 fun b hb _ e => by omega⟩
  have hc := CellsAt.blk b2
  refine fldA ?_
  refine idxR 0 rfl (by decide) ?_
  refine ldA [iv r.s0.n, iv r.s0.d] (hc.mid 8 2) rfl ?_
  refine call_of (c_Times (a := r.s0) (n := v)) ?_
  rintro _ w3 ⟨rfl, x3⟩
  rw [times_lo hs0 hv]
  refine fldA ?_
  refine idxR 1 rfl (by decide) ?_
  refine ldA [iv r.s1.n, iv r.s1.d] ((hc.mid 10 2).kept x3 trivial) rfl ?_
  refine call_of (c_Times (a := r.s1) (n := v)) ?_
  rintro _ w4 ⟨rfl, x4⟩
  rw [times_lo hs1 hv]
  have x24 := x3.trans x4
  have b4 := b2.ext x24
  refine fldA ?_
  refine fldA ?_
  refine ld (iv r.evap.lo) (b4.cell rfl) ?_
  refine arI (by dsimp only; omega) ?_
  refine fldA ?_
  refine fldA ?_
  refine ld (iv r.evap.hi) (b4.cell rfl) ?_
  refine arI (by dsimp only; omega) ?_
  refine bld [iv (min v (r.evap.lo + v * r.s0.n / r.s0.d)), iv (min v (r.evap.hi + upI (v * r.s1.n) r.s1.d))] (by kernel_rfl) ?_
  refine stA (vs := [iv _, iv _]) (h2.blk.ext x24) rfl (Nat.le_of_ble_eq_true rfl) (by simp [Value.oneCell']) (fun w5 hb5 k5 z5 => ?_)
  refine ret ?_
  refine resL _ (holds_agg (.blk hb5) rfl) ?_
  exact ⟨by unfold lostR; rw [if_neg h0]; rfl, (x02.trans x24).then k5 fun b hb _ e => by omega⟩
end
end Go.Proofs.YtcpdhclnmjfldaaGreatDoor

/- Contracts: losses, further. -/
namespace Go.Proofs.YtcpdhclnmjfldaaGreatDoor
open Go Go.RowKit

section
variable {w : World}
/-- What Lost answers. -/
def lostL (r : Reach) (v : Int) : Rg × Int := if lErr r v = 0 then (lostR r v, 0) else (⟨0, 0⟩, lErr r v)
theorem lostL_ok {r : Reach} {v : Int} (h : lErr r v = 0) : lostL r v = (lostR r v, 0) := by unfold lostL; rw [if_pos h]
theorem lostL_no {r : Reach} {v : Int} (h : lErr r v ≠ 0) : lostL r v = (⟨0, 0⟩, lErr r v) := by unfold lostL; rw [if_neg h]
/-! ### the reference's -/
theorem ediv_bd {a b : Int} (hb : 0 < b) (ha : 0 ≤ a) : 0 ≤ a / b ∧ a / b ≤ a := ⟨Int.ediv_nonneg ha (by omega), Int.ediv_le_self _ ha⟩
end
end Go.Proofs.YtcpdhclnmjfldaaGreatDoor

/- Losses, plainly: what arrives does not decrease with the parcel; the least parcel of which so much arrives, by halving. -/
namespace Go.Proofs.YtcpdhclnmjfldaaGreatDoor
open Go Go.RowKit

/-! ### halving -/
/-- From lo on, the first number for which p holds is res; none up to hi if res is hi. -/
structure First (p : Int → Bool) (lo hi res : Int) : Prop where
  le : lo ≤ res
  ge : res ≤ hi
  no : ∀ v, lo ≤ v → v < res → p v = false
  yes : res < hi → p res = true
theorem First.uniq {p : Int → Bool} {lo hi a b : Int} (h : First p lo hi a) (k : First p lo hi b) : a = b := by
  rcases Int.lt_trichotomy a b with h1 | h1 | h1
  · have := k.no a h.le h1
    rw [h.yes (by have := k.ge; omega)] at this; cases this
  · exact h1
  · have := h.no b k.le h1
    rw [k.yes (by have := h.ge; omega)] at this; cases this
def bs (p : Int → Bool) : Nat → Int → Int → Int
  | 0, lo, _ => lo
  | n + 1, lo, hi => if lo < hi then (if p ((lo + hi) / 2) then bs p n lo ((lo + hi) / 2) else bs p n ((lo + hi) / 2 + 1) hi) else lo
/-- What halving keeps. -/
structure Half (p : Int → Bool) (a b lo hi : Int) : Prop where
  a_lo : a ≤ lo
  lo_hi : lo ≤ hi
  hi_b : hi ≤ b
  no : ∀ v, a ≤ v → v < lo → p v = false
  yes : hi < b → p hi = true
theorem Half.start {p : Int → Bool} {a b : Int} (h : a ≤ b) : Half p a b a b := ⟨Int.le_refl _, h, Int.le_refl _, fun v h1 h2 => by omega, fun h => by omega⟩
theorem Half.left {p : Int → Bool} {a b lo hi m : Int} (h : Half p a b lo hi) (h1 : lo ≤ m) (h2 : m < hi) (hp : p m = true) : Half p a b lo m := ⟨h.a_lo, h1, by have := h.hi_b; omega, h.no, fun _ => hp⟩
theorem Half.right {p : Int → Bool} {a b lo hi m : Int} (hm : ∀ v v', a ≤ v → v ≤ v' → v' ≤ b → p v = true → p v' = true) (h : Half p a b lo hi) (h1 : lo ≤ m) (h2 : m < hi) (hp : p m = false) : Half p a b (m + 1) hi :=
  ⟨by have := h.a_lo; omega, by omega, h.hi_b, fun v hv hv2 => (by
    cases hpv : p v with
    | false => rfl
    | true => rw [hm v m hv (by omega) (by have := h.hi_b; omega) hpv] at hp; cases hp), h.yes⟩
theorem Half.done {p : Int → Bool} {a b lo hi : Int} (h : Half p a b lo hi) (e : hi ≤ lo) : First p a b lo := by
  have := h.lo_hi
  obtain rfl : lo = hi := by omega
  exact ⟨h.a_lo, h.hi_b, h.no, h.yes⟩
theorem bs_first {p : Int → Bool} {a b : Int} (hm : ∀ v v', a ≤ v → v ≤ v' → v' ≤ b → p v = true → p v' = true) : ∀ (n : Nat) {lo hi : Int}, Half p a b lo hi → hi - lo < 2 ^ n → First p a b (bs p n lo hi)
  | 0, lo, hi, h, hn => h.done (by simp at hn; omega)
  | n + 1, lo, hi, h, hn => by
    unfold bs
    have e : (2 : Int) ^ (n + 1) = 2 * 2 ^ n := by rw [Int.pow_succ]; omega
    by_cases hlt : lo < hi
    · rw [if_pos hlt]
      cases hp : p ((lo + hi) / 2) with
      | true => rw [if_pos rfl]; exact bs_first hm n (h.left (by omega) (by omega) hp) (by omega)
      | false => rw [if_neg (by simp)]; exact bs_first hm n (h.right hm (by omega) (by omega) hp) (by omega)
    · rw [if_neg hlt]; exact h.done (by omega)

/-! ### what arrives -/
def arrB (r : Reach) (v : Int) : Int := v - (lostR r v).lo
def arrW (r : Reach) (v : Int) : Int := v - (lostR r v).hi
section
variable {r : Reach} {v v' w : Int}
theorem floor_mono {n d : Int} (hd : 0 < d) (hn : 0 ≤ n) (hnd : n ≤ d) (h : v ≤ v') : v * n / d ≤ v' * n / d ∧ v' * n / d ≤ v * n / d + (v' - v) := by
  have h1 : v * n ≤ v' * n := Int.mul_le_mul_of_nonneg_right h hn
  have h2 : v' * n ≤ v * n + (v' - v) * d := by
    have : (v' - v) * n ≤ (v' - v) * d := Int.mul_le_mul_of_nonneg_left hnd (by omega)
    rw [Int.sub_mul] at this; omega
  refine ⟨Int.ediv_le_ediv hd h1, ?_⟩
  rw [← Int.add_mul_ediv_right _ _ (by omega)]
  exact Int.ediv_le_ediv hd h2
theorem ceil_mono {n d : Int} (hd : 0 < d) (hnd : n ≤ d) (h : v ≤ v') : upI (v' * n) d ≤ upI (v * n) d + (v' - v) := by
  have h2 : v' * n ≤ v * n + (v' - v) * d := by
    have : (v' - v) * n ≤ (v' - v) * d := Int.mul_le_mul_of_nonneg_left hnd (by omega)
    rw [Int.sub_mul] at this; omega
  unfold upI
  rw [← Int.add_mul_ediv_right _ _ (by omega)]
  exact Int.ediv_le_ediv hd (by omega)
theorem lost_eq (hl : lossOk r = true) (hv : 0 ≤ v) : lostR r v = ⟨min v (r.evap.lo + v * r.s0.n / r.s0.d), if v = 0 then 0 else min v (r.evap.hi + upI (v * r.s1.n) r.s1.d)⟩ := by
  obtain ⟨h1, h2⟩ := lossOk_iff.1 hl
  unfold lostR
  by_cases h : v = 0
  · subst h; rw [if_pos rfl, if_pos rfl, Int.zero_mul, Int.zero_ediv]; congr 1; omega
  · rw [if_neg h, if_neg h]
theorem arrB_mono (hl : lossOk r = true) (hv : 0 ≤ v) (h : v ≤ v') : arrB r v ≤ arrB r v' := by
  obtain ⟨h1, h2⟩ := lossOk_iff.1 hl
  obtain ⟨h3, h4, _⟩ := sharesQ_iff.1 h2
  obtain ⟨q1, q2, q3⟩ := shareQ_iff.1 h3
  obtain ⟨d1, -⟩ := qValid_iff.1 q1
  have f := floor_mono (v := v) (v' := v') (show 0 < r.s0.d by omega) q2 q3 h
  unfold arrB
  rw [lost_eq hl hv, lost_eq hl (by omega)]
  show v - min v _ ≤ v' - min v' _
  omega
theorem arrW_mono (hl : lossOk r = true) (hv : 0 ≤ v) (h : v ≤ v') : arrW r v ≤ arrW r v' := by
  obtain ⟨h1, h2⟩ := lossOk_iff.1 hl
  obtain ⟨h3, h4, _⟩ := sharesQ_iff.1 h2
  obtain ⟨q1, q2, q3⟩ := shareQ_iff.1 h4
  obtain ⟨d1, -⟩ := qValid_iff.1 q1
  have f := ceil_mono (v := v) (v' := v') (show 0 < r.s1.d by omega) q3 h
  have s := share_le (v := v') h4 (by omega)
  unfold arrW
  rw [lost_eq hl hv, lost_eq hl (by omega)]
  show v - (if v = 0 then 0 else _) ≤ v' - (if v' = 0 then 0 else _)
  by_cases e : v = 0
  · rw [if_pos e]
    by_cases e' : v' = 0
    · rw [if_pos e']; omega
    · rw [if_neg e']; omega
  · rw [if_neg e, if_neg (by omega)]; omega
theorem arr_le (hl : lossOk r = true) (hv : 0 ≤ v ∧ v ≤ 1073741824) : 0 ≤ arrW r v ∧ arrW r v ≤ arrB r v ∧ arrB r v ≤ v := by
  have h := lost_le hl hv
  obtain ⟨h1, h2⟩ := lossOk_iff.1 hl
  obtain ⟨h3, h4, h5⟩ := sharesQ_iff.1 h2
  have : (lostR r v).lo ≤ (lostR r v).hi := by
    rw [lost_eq hl hv.1]
    show min v _ ≤ if v = 0 then 0 else min v _
    by_cases e : v = 0
    · rw [if_pos e]; omega
    · rw [if_neg e]
      obtain ⟨q1, q2, q3⟩ := shareQ_iff.1 h3
      obtain ⟨q1', q2', q3'⟩ := shareQ_iff.1 h4
      obtain ⟨d1, -⟩ := qValid_iff.1 q1
      obtain ⟨d1', -⟩ := qValid_iff.1 q1'
      have k : v * r.s0.n / r.s0.d ≤ upI (v * r.s1.n) r.s1.d := by
        have a1 : v * r.s0.n / r.s0.d * r.s0.d ≤ v * r.s0.n := Int.ediv_mul_le _ (by omega)
        have a2 : v * r.s1.n ≤ upI (v * r.s1.n) r.s1.d * r.s1.d := by
          have : v * r.s1.n + r.s1.d - 1 < ((v * r.s1.n + r.s1.d - 1) / r.s1.d + 1) * r.s1.d := Int.lt_ediv_add_one_mul_self _ (by omega)
          unfold upI
          rw [Int.add_mul] at this
          omega
        generalize v * r.s0.n / r.s0.d = x at a1
        generalize upI (v * r.s1.n) r.s1.d = y at a2
        have b1 : x * r.s0.d * r.s1.d ≤ v * r.s0.n * r.s1.d := Int.mul_le_mul_of_nonneg_right a1 (by omega)
        have b2 : v * r.s1.n * r.s0.d ≤ y * r.s1.d * r.s0.d := Int.mul_le_mul_of_nonneg_right a2 (by omega)
        have b3 : v * (r.s0.n * r.s1.d) ≤ v * (r.s1.n * r.s0.d) := Int.mul_le_mul_of_nonneg_left h5 hv.1
        have b4 : x * (r.s0.d * r.s1.d) ≤ y * (r.s0.d * r.s1.d) := by
          rw [← Int.mul_assoc, ← Int.mul_assoc] at b3 ⊢
          rw [Int.mul_right_comm y r.s0.d r.s1.d]
          omega
        exact Int.le_of_mul_le_mul_right b4 (Int.mul_pos (by omega) (by omega))
      omega
  unfold arrW arrB
  omega
/-- The least parcel of which w litres arrive at best (at worst), one more than the greatest one if there is none. -/
def lvB (r : Reach) (w : Int) : Int := bs (fun v => decide (w ≤ arrB r v)) 31 0 1073741825
def lvW (r : Reach) (w : Int) : Int := bs (fun v => decide (w ≤ arrW r v)) 31 0 1073741825
theorem lvB_first (hl : lossOk r = true) : First (fun v => decide (w ≤ arrB r v)) 0 1073741825 (lvB r w) :=
  bs_first (fun v v' h1 h2 _ h => by rw [decide_eq_true_eq] at h ⊢; have := arrB_mono hl h1 h2; omega) 31 (Half.start (by omega)) (by decide)
theorem lvW_first (hl : lossOk r = true) : First (fun v => decide (w ≤ arrW r v)) 0 1073741825 (lvW r w) :=
  bs_first (fun v v' h1 h2 _ h => by rw [decide_eq_true_eq] at h ⊢; have := arrW_mono hl h1 h2; omega) 31 (Half.start (by omega)) (by decide)
end
def reachV (r : Reach) (w : Int) : Int × Bool := if lErr r w ≠ 0 then (0, false) else if lvB r w > 1073741824 then (0, false) else (lvB r w, true)
def mostV (r : Reach) (w : Int) : Int := if lErr r w ≠ 0 then 0 else lvW r (w + 1) - 1
end Go.Proofs.YtcpdhclnmjfldaaGreatDoor
