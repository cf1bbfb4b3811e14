/- Own layer, part b: V, what a piece of code asks, as a function of the code that reduces by itself; and that it is sound. Nothing of the program stands here. -/
import Derived.Test.YtpmmhcgghldaaaaDoorVa
namespace Go.Proofs.YtpmmhcgghldaaaaDoor
open Go

abbrev Fr := Nat → Value
abbrev KK := Exit → Fr → List Deferred → World → Prop
def upd (F : Fr) (d : Nat) (v : Value) : Fr := fun j => bif Nat.beq j d then v else F j
def updO (F : Fr) (d : Option Nat) (v : Value) : Fr := match d with | some d => upd F d v | none => F
def ev (F : Fr) : Operand → Value
  | .tmp t => F t
  | .const v => v
  | .global g => .pointer (some ⟨g, 0, none⟩)
  | .func f => .func (.func f) #[] #[]
def kno : IntKind → Nat
  | .i8 => 0 | .i16 => 1 | .i32 => 2 | .i64 => 3 | .u8 => 4 | .u16 => 5 | .u32 => 6 | .u64 => 7
theorem kno_inj {j k : IntKind} (h : Nat.beq (kno j) (kno k) = true) : j = k := by cases j <;> cases k <;> first | rfl | cases h

/-! ### the heads at which V stops -/
def vS (s : Sem Value) : Sem Next := do pure (.value (← s))
def uS (s : Sem Unit) : Sem Next := do s; pure .skip
/-- A comparison: it splits the walk at once. -/
structure CmpP (p : Prop) [Decidable p] (K : Value → Prop) : Prop where
  of_ ::
  un_ : (p → K (.bool true)) ∧ (¬ p → K (.bool false))
theorem CmpP_eq {p : Prop} [Decidable p] {K : Value → Prop} : CmpP p K = ((p → K (.bool true)) ∧ (¬ p → K (.bool false))) := propext ⟨fun h => h.un_, fun h => ⟨h⟩⟩
theorem CmpP.both {p : Prop} [Decidable p] {K : Value → Prop} (h : CmpP p K) : (p → K (.bool true)) ∧ (¬ p → K (.bool false)) := by rw [CmpP_eq] at h; exact h
theorem CmpP.of {p : Prop} [Decidable p] {K : Value → Prop} (h : (p → K (.bool true)) ∧ (¬ p → K (.bool false))) : CmpP p K := by rw [CmpP_eq]; exact h
theorem CmpP.val {p : Prop} [Decidable p] {K : Value → Prop} (h : CmpP p K) : K (.bool (decide p)) := by
  by_cases hp : p
  · rw [decide_eq_true hp]; exact h.both.1 hp
  · rw [decide_eq_false hp]; exact h.both.2 hp
structure PureP (P : Program) (s : Sem Next) (K : Value → Prop) : Prop where
  of_ ::
  un_ : PureS P s K
theorem PureP_eq {P : Program} {s : Sem Next} {K : Value → Prop} : PureP P s K = (PureS P s K) := propext ⟨fun h => h.un_, fun h => ⟨h⟩⟩
structure ArP (k : IntKind) (n : Int) (K : Value → Prop) : Prop where
  of_ ::
  un_ : K (.int k (k.wrap n))
theorem ArP_eq {k : IntKind} {n : Int} {K : Value → Prop} : ArP k n K = (K (.int k (k.wrap n))) := propext ⟨fun h => h.un_, fun h => ⟨h⟩⟩
structure BitP (op : BinOp) (k : IntKind) (a b : Int) (K : Value → Prop) : Prop where
  of_ ::
  un_ : K (.int k (bits op k a b))
theorem BitP_eq {op : BinOp} {k : IntKind} {a b : Int} {K : Value → Prop} : BitP op k a b K = (K (.int k (bits op k a b))) := propext ⟨fun h => h.un_, fun h => ⟨h⟩⟩
structure QuoP (k : IntKind) (a b : Int) (K : Value → Prop) : Prop where
  of_ ::
  un_ : b ≠ 0 ∧ K (.int k (k.wrap (a.tdiv b)))
theorem QuoP_eq {k : IntKind} {a b : Int} {K : Value → Prop} : QuoP k a b K = (b ≠ 0 ∧ K (.int k (k.wrap (a.tdiv b)))) := propext ⟨fun h => h.un_, fun h => ⟨h⟩⟩
structure RemP (k : IntKind) (a b : Int) (K : Value → Prop) : Prop where
  of_ ::
  un_ : b ≠ 0 ∧ K (.int k (a.tmod b))
theorem RemP_eq {k : IntKind} {a b : Int} {K : Value → Prop} : RemP k a b K = (b ≠ 0 ∧ K (.int k (a.tmod b))) := propext ⟨fun h => h.un_, fun h => ⟨h⟩⟩
structure ShlP (k : IntKind) (a b : Int) (K : Value → Prop) : Prop where
  of_ ::
  un_ : 0 ≤ b ∧ K (.int k (k.wrap (a * 2 ^ (min b.toNat k.bits))))
theorem ShlP_eq {k : IntKind} {a b : Int} {K : Value → Prop} : ShlP k a b K = (0 ≤ b ∧ K (.int k (k.wrap (a * 2 ^ (min b.toNat k.bits))))) := propext ⟨fun h => h.un_, fun h => ⟨h⟩⟩
structure ShrP (k : IntKind) (a b : Int) (K : Value → Prop) : Prop where
  of_ ::
  un_ : 0 ≤ b ∧ K (.int k (a.fdiv (2 ^ (min b.toNat k.bits))))
theorem ShrP_eq {k : IntKind} {a b : Int} {K : Value → Prop} : ShrP k a b K = (0 ≤ b ∧ K (.int k (a.fdiv (2 ^ (min b.toNat k.bits))))) := propext ⟨fun h => h.un_, fun h => ⟨h⟩⟩
structure BinP (P : Program) (op : BinOp) (t : TypeId) (xo yo : Operand) (x y : Value) (K : Value → Prop) : Prop where
  of_ ::
  un_ : PureS P (vS (do eqGuard op t xo yo x y; binOp op t x y)) K
theorem BinP_eq {P : Program} {op : BinOp} {t : TypeId} {xo yo : Operand} {x y : Value} {K : Value → Prop} : BinP P op t xo yo x y K = (PureS P (vS (do eqGuard op t xo yo x y; binOp op t x y)) K) := propext ⟨fun h => h.un_, fun h => ⟨h⟩⟩
structure ConvP (P : Program) (src dst : TypeId) (x : Value) (K : Value → Prop) : Prop where
  of_ ::
  un_ : PureS P (vS (convert src dst x)) K
theorem ConvP_eq {P : Program} {src dst : TypeId} {x : Value} {K : Value → Prop} : ConvP P src dst x K = (PureS P (vS (convert src dst x)) K) := propext ⟨fun h => h.un_, fun h => ⟨h⟩⟩
structure FldAP (P : Program) (s : TypeId) (x : Value) (f : Nat) (K : Value → Prop) : Prop where
  of_ ::
  un_ : PureS P (vS (Instr.fieldAt s x f)) K
theorem FldAP_eq {P : Program} {s : TypeId} {x : Value} {f : Nat} {K : Value → Prop} : FldAP P s x f K = (PureS P (vS (Instr.fieldAt s x f)) K) := propext ⟨fun h => h.un_, fun h => ⟨h⟩⟩
structure FldVP (P : Program) (t : TypeId) (x : Value) (f : Nat) (K : Value → Prop) : Prop where
  of_ ::
  un_ : PureS P (vS (Instr.field t x f)) K
theorem FldVP_eq {P : Program} {t : TypeId} {x : Value} {f : Nat} {K : Value → Prop} : FldVP P t x f K = (PureS P (vS (Instr.field t x f)) K) := propext ⟨fun h => h.un_, fun h => ⟨h⟩⟩
structure IdxAP (P : Program) (t : TypeId) (x i : Value) (K : Value → Prop) : Prop where
  of_ ::
  un_ : PureS P (vS (Instr.indexAt t x i)) K
theorem IdxAP_eq {P : Program} {t : TypeId} {x i : Value} {K : Value → Prop} : IdxAP P t x i K = (PureS P (vS (Instr.indexAt t x i)) K) := propext ⟨fun h => h.un_, fun h => ⟨h⟩⟩
structure IdxVP (P : Program) (t : TypeId) (x i : Value) (K : Value → Prop) : Prop where
  of_ ::
  un_ : PureS P (vS (Instr.index t x i)) K
theorem IdxVP_eq {P : Program} {t : TypeId} {x i : Value} {K : Value → Prop} : IdxVP P t x i K = (PureS P (vS (Instr.index t x i)) K) := propext ⟨fun h => h.un_, fun h => ⟨h⟩⟩
structure SlcP (P : Program) (t : TypeId) (x : Value) (lo hi mx : Option Value) (K : Value → Prop) : Prop where
  of_ ::
  un_ : PureS P (vS (Instr.sliceAt t x lo hi mx)) K
theorem SlcP_eq {P : Program} {t : TypeId} {x : Value} {lo hi mx : Option Value} {K : Value → Prop} : SlcP P t x lo hi mx K = (PureS P (vS (Instr.sliceAt t x lo hi mx)) K) := propext ⟨fun h => h.un_, fun h => ⟨h⟩⟩
structure LenP (P : Program) (t : TypeId) (x : Value) (K : Value → Prop) : Prop where
  of_ ::
  un_ : PureS P (vS (Builtin.len_ #[t] 0 #[x])) K
theorem LenP_eq {P : Program} {t : TypeId} {x : Value} {K : Value → Prop} : LenP P t x K = (PureS P (vS (Builtin.len_ #[t] 0 #[x])) K) := propext ⟨fun h => h.un_, fun h => ⟨h⟩⟩
structure BldP (P : Program) (t : TypeId) (ps : Array (Nat × Value)) (K : Value → Prop) : Prop where
  of_ ::
  un_ : PureS P (vS (Instr.build t ps)) K
theorem BldP_eq {P : Program} {t : TypeId} {ps : Array (Nat × Value)} {K : Value → Prop} : BldP P t ps K = (PureS P (vS (Instr.build t ps)) K) := propext ⟨fun h => h.un_, fun h => ⟨h⟩⟩
structure LoadG (P : Program) (S : World → Prop) (t : TypeId) (x : Value) (K : Value → Prop) : Prop where
  of_ ::
  un_ : ∃ v, (∀ w, S w → OpS P (vS (Instr.loadAt t x)) (fun u w' => u = v ∧ w' = w) w) ∧ K v
theorem LoadG_eq {P : Program} {S : World → Prop} {t : TypeId} {x : Value} {K : Value → Prop} : LoadG P S t x K = (∃ v, (∀ w, S w → OpS P (vS (Instr.loadAt t x)) (fun u w' => u = v ∧ w' = w) w) ∧ K v) := propext ⟨fun h => h.un_, fun h => ⟨h⟩⟩
structure LookG (P : Program) (S : World → Prop) (t : TypeId) (x i : Value) (ok : Bool) (K : Value → Prop) : Prop where
  of_ ::
  un_ : ∃ v, (∀ w, S w → OpS P (vS (Instr.lookup t x i ok)) (fun u w' => u = v ∧ w' = w) w) ∧ K v
theorem LookG_eq {P : Program} {S : World → Prop} {t : TypeId} {x i : Value} {ok : Bool} {K : Value → Prop} : LookG P S t x i ok K = (∃ v, (∀ w, S w → OpS P (vS (Instr.lookup t x i ok)) (fun u w' => u = v ∧ w' = w) w) ∧ K v) := propext ⟨fun h => h.un_, fun h => ⟨h⟩⟩
structure LenG (P : Program) (S : World → Prop) (t : TypeId) (x : Value) (K : Value → Prop) : Prop where
  of_ ::
  un_ : ∃ v, (∀ w, S w → OpS P (vS (Builtin.len_ #[t] 0 #[x])) (fun u w' => u = v ∧ w' = w) w) ∧ K v
theorem LenG_eq {P : Program} {S : World → Prop} {t : TypeId} {x : Value} {K : Value → Prop} : LenG P S t x K = (∃ v, (∀ w, S w → OpS P (vS (Builtin.len_ #[t] 0 #[x])) (fun u w' => u = v ∧ w' = w) w) ∧ K v) := propext ⟨fun h => h.un_, fun h => ⟨h⟩⟩
structure CallQ (P : Program) (S : World → Prop) (f : FuncId) (args : Array Value) (K : Value → Prop) : Prop where
  of_ ::
  un_ : ∃ v, (∀ w, S w → OpS P (callFunc f args) (fun u w' => u = v ∧ w' = w) w) ∧ K v
theorem CallQ_eq {P : Program} {S : World → Prop} {f : FuncId} {args : Array Value} {K : Value → Prop} : CallQ P S f args K = (∃ v, (∀ w, S w → OpS P (callFunc f args) (fun u w' => u = v ∧ w' = w) w) ∧ K v) := propext ⟨fun h => h.un_, fun h => ⟨h⟩⟩
structure StoreP (P : Program) (t : TypeId) (a v : Value) (K : VK) (w : World) : Prop where
  of_ ::
  un_ : OpS P (uS (Instr.storeAt t a v)) K w
theorem StoreP_eq {P : Program} {t : TypeId} {a v : Value} {K : VK} {w : World} : StoreP P t a v K w = (OpS P (uS (Instr.storeAt t a v)) K w) := propext ⟨fun h => h.un_, fun h => ⟨h⟩⟩
structure AllocP (P : Program) (e : TypeId) (K : VK) (w : World) : Prop where
  of_ ::
  un_ : OpS P (vS (Instr.alloc e true (.tuple #[]))) K w
theorem AllocP_eq {P : Program} {e : TypeId} {K : VK} {w : World} : AllocP P e K w = (OpS P (vS (Instr.alloc e true (.tuple #[]))) K w) := propext ⟨fun h => h.un_, fun h => ⟨h⟩⟩
structure BoxP (P : Program) (e : TypeId) (v : Value) (K : VK) (w : World) : Prop where
  of_ ::
  un_ : OpS P (vS (Instr.box e v)) K w
theorem BoxP_eq {P : Program} {e : TypeId} {v : Value} {K : VK} {w : World} : BoxP P e v K w = (OpS P (vS (Instr.box e v)) K w) := propext ⟨fun h => h.un_, fun h => ⟨h⟩⟩
structure BSlcP (P : Program) (t : TypeId) (n : Nat) (ps : Array (Nat × Value)) (K : VK) (w : World) : Prop where
  of_ ::
  un_ : OpS P (vS (Instr.buildSlice t n ps)) K w
theorem BSlcP_eq {P : Program} {t : TypeId} {n : Nat} {ps : Array (Nat × Value)} {K : VK} {w : World} : BSlcP P t n ps K w = (OpS P (vS (Instr.buildSlice t n ps)) K w) := propext ⟨fun h => h.un_, fun h => ⟨h⟩⟩
structure MMapP (P : Program) (t : TypeId) (r : Option Value) (K : VK) (w : World) : Prop where
  of_ ::
  un_ : OpS P (vS (Instr.makeMap t r)) K w
theorem MMapP_eq {P : Program} {t : TypeId} {r : Option Value} {K : VK} {w : World} : MMapP P t r K w = (OpS P (vS (Instr.makeMap t r)) K w) := propext ⟨fun h => h.un_, fun h => ⟨h⟩⟩
structure MSlcP (P : Program) (t : TypeId) (l c : Value) (K : VK) (w : World) : Prop where
  of_ ::
  un_ : OpS P (vS (Instr.makeSlice t l c)) K w
theorem MSlcP_eq {P : Program} {t : TypeId} {l c : Value} {K : VK} {w : World} : MSlcP P t l c K w = (OpS P (vS (Instr.makeSlice t l c)) K w) := propext ⟨fun h => h.un_, fun h => ⟨h⟩⟩
structure MUpdP (P : Program) (t : TypeId) (m k x : Value) (K : VK) (w : World) : Prop where
  of_ ::
  un_ : OpS P (uS (Instr.mapUpdate t m k x)) K w
theorem MUpdP_eq {P : Program} {t : TypeId} {m k x : Value} {K : VK} {w : World} : MUpdP P t m k x K w = (OpS P (uS (Instr.mapUpdate t m k x)) K w) := propext ⟨fun h => h.un_, fun h => ⟨h⟩⟩
structure MEntP (P : Program) (t : TypeId) (m k : Value) (K : VK) (w : World) : Prop where
  of_ ::
  un_ : OpS P (vS (Instr.mapEntry t m k)) K w
theorem MEntP_eq {P : Program} {t : TypeId} {m k : Value} {K : VK} {w : World} : MEntP P t m k K w = (OpS P (vS (Instr.mapEntry t m k)) K w) := propext ⟨fun h => h.un_, fun h => ⟨h⟩⟩
structure EStoP (P : Program) (t : TypeId) (m s x : Value) (K : VK) (w : World) : Prop where
  of_ ::
  un_ : OpS P (uS (Instr.entryStore t m s x)) K w
theorem EStoP_eq {P : Program} {t : TypeId} {m s x : Value} {K : VK} {w : World} : EStoP P t m s x K w = (OpS P (uS (Instr.entryStore t m s x)) K w) := propext ⟨fun h => h.un_, fun h => ⟨h⟩⟩
structure CallP (P : Program) (f : FuncId) (args : Array Value) (K : VK) (w : World) : Prop where
  of_ ::
  un_ : OpS P (callFunc f args) K w
theorem CallP_eq {P : Program} {f : FuncId} {args : Array Value} {K : VK} {w : World} : CallP P f args K w = (OpS P (callFunc f args) K w) := propext ⟨fun h => h.un_, fun h => ⟨h⟩⟩
structure YieldP (P : Program) (l : Nat) (args : Array Value) (K : VK) (w : World) : Prop where
  of_ ::
  un_ : OpS P (Instr.yield l args) K w
theorem YieldP_eq {P : Program} {l : Nat} {args : Array Value} {K : VK} {w : World} : YieldP P l args K w = (OpS P (Instr.yield l args) K w) := propext ⟨fun h => h.un_, fun h => ⟨h⟩⟩
structure BuiP (P : Program) (b : Builtin) (ts : Array TypeId) (ty : TypeId) (cs : Array Bool) (args : Array Value) (K : VK) (w : World) : Prop where
  of_ ::
  un_ : OpS P (builtin b ts ty cs args) K w
theorem BuiP_eq {P : Program} {b : Builtin} {ts : Array TypeId} {ty : TypeId} {cs : Array Bool} {args : Array Value} {K : VK} {w : World} : BuiP P b ts ty cs args K w = (OpS P (builtin b ts ty cs args) K w) := propext ⟨fun h => h.un_, fun h => ⟨h⟩⟩
structure OthP (P : Program) (s : Sem Next) (K : VK) (w : World) : Prop where
  of_ ::
  un_ : OpS P s K w
theorem OthP_eq {P : Program} {s : Sem Next} {K : VK} {w : World} : OthP P s K w = (OpS P s K w) := propext ⟨fun h => h.un_, fun h => ⟨h⟩⟩
structure StrP (S : World → Prop) (w : World) (C : (World → Prop) → Prop) : Prop where
  of_ ::
  un_ : ∃ S' : World → Prop, S' w ∧ (∀ u, S' u → S u) ∧ C S'
theorem StrP_eq {S : World → Prop} {w : World} {C : (World → Prop) → Prop} : StrP S w C = (∃ S' : World → Prop, S' w ∧ (∀ u, S' u → S u) ∧ C S') := propext ⟨fun h => h.un_, fun h => ⟨h⟩⟩

structure BarP (w : World) (C : (World → Prop) → Prop) : Prop where
  of_ ::
  un_ : ∃ S' : World → Prop, S' w ∧ C S'

/-! ### V -/
def VInt (P : Program) (op : BinOp) (t : TypeId) (xo yo : Operand) (k : IntKind) (a b : Int) (K : Value → Prop) : Prop :=
  match op with
  | .add => ArP k (a + b) K
  | .sub => ArP k (a - b) K
  | .mul => ArP k (a * b) K
  | .eql => CmpP (a = b) K
  | .neq => CmpP (a ≠ b) K
  | .lss => CmpP (a < b) K
  | .leq => CmpP (a ≤ b) K
  | .gtr => CmpP (a > b) K
  | .geq => CmpP (a ≥ b) K
  | .quo => QuoP k a b K
  | .rem => RemP k a b K
  | .and => BitP .and k a b K
  | .or => BitP .or k a b K
  | .xor => BitP .xor k a b K
  | .andNot => BitP .andNot k a b K
  | .shl | .shr => BinP P op t xo yo (.int k a) (.int k b) K
def VBin (P : Program) (op : BinOp) (t : TypeId) (xo yo : Operand) (x y : Value) (K : Value → Prop) : Prop :=
  match x, y with
  | .int k a, .int k' b =>
    match op with
    | .shl => ShlP k a b K
    | .shr => ShrP k a b K
    | op => bif Nat.beq (kno k) (kno k') then VInt P op t xo yo k a b K else False
  | x, y => BinP P op t xo yo x y K

def VPure (P : Program) (o : Oper) (F : Fr) (K : Value → Prop) : Prop :=
  match o.op with
  | .move x | .assign x => K (ev F x)
  | .pick c a b => match ev F c with | .bool true => K (ev F a) | .bool false => K (ev F b) | _ => False
  | .binOp op t x y _ => VBin P op t x y (ev F x) (ev F y) K
  | .unOp op _ x => match op, ev F x with
    | .not, .bool true => K (.bool false)
    | .not, .bool false => K (.bool true)
    | .neg, .int k n => ArP k (0 - n) K
    | op, x => PureP P (vS (Op.unary op x)) K
  | .convert s d x => ConvP P s d (ev F x) K
  | .fieldAddr s x f => FldAP P s (ev F x) f K
  | .field t x f => FldVP P t (ev F x) f K
  | .indexAddr t x i => IdxAP P t (ev F x) (ev F i) K
  | .index t x i => IdxVP P t (ev F x) (ev F i) K
  | .slice t x lo hi mx => SlcP P t (ev F x) (lo.map (ev F)) (hi.map (ev F)) (mx.map (ev F)) K
  | .extract t i => match ev F t with
    | .tuple vs => match vs.toList[i]? with | some v => K v | none => False
    | _ => False
  | .nilCheck x => match ev F x with
    | .pointer (some a) => K (.pointer (some a))
    | .func (.func f) pre caps => K (.func (.func f) pre caps)
    | _ => PureP P (execOp (ev F) o) K
  | .makeFunc fn first captured => K (.func fn (first.toList.map (ev F)).toArray (captured.toList.map (ev F)).toArray)
  | .build t ps => BldP P t (ps.toList.map fun p => (p.1, ev F p.2)).toArray K
  | .call c => match c.callee, c.args.toList.map (ev F) with
    | .builtin .len, [x] => (match c.argTypes.toList with | t :: _ => LenP P t x K | [] => PureP P (execOp (ev F) o) K)
    | .builtin .max, [.int k x, .int k' y] => bif Nat.beq (kno k) (kno k') then K (.int k (max x y)) else False
    | .builtin .min, [.int k x, .int k' y] => bif Nat.beq (kno k) (kno k') then K (.int k (min x y)) else False
    | _, _ => PureP P (execOp (ev F) o) K
  | _ => PureP P (execOp (ev F) o) K

def VCall (P : Program) (o : Oper) (c : Call) (F : Fr) (K : VK) (w : World) : Prop :=
  match c.callee with
  | .value f => match ev F f with
    | .func (.func k) pre caps => CallP P k (pre.toList ++ c.args.toList.map (ev F) ++ caps.toList).toArray K w
    | .func (.yield l) pre _ => YieldP P l (pre.toList ++ c.args.toList.map (ev F)).toArray K w
    | _ => OthP P (execOp (ev F) o) K w
  | .builtin b => match b, c.args.toList.map (ev F) with
    | .len, [.map m] => (match c.argTypes.toList with | t :: _ => LenG P (fun u => u = w) t (.map m) (fun v => K v w) | [] => OthP P (execOp (ev F) o) K w)
    | .len, _ | .max, _ | .min, _ => VPure P o F (fun v => K v w)
    | b, args => BuiP P b c.argTypes o.type (c.args.map fun | .const _ => true | _ => false) args.toArray K w
  | _ => OthP P (execOp (ev F) o) K w

def VOp (P : Program) (o : Oper) (F : Fr) (K : VK) (w : World) : Prop :=
  match o.op with
  | .load t x => LoadG P (fun u => u = w) t (ev F x) (fun v => K v w)
  | .lookup t x i ok => LookG P (fun u => u = w) t (ev F x) (ev F i) ok (fun v => K v w)
  | .store t a x => StoreP P t (ev F a) (ev F x) K w
  | .alloc e => AllocP P e K w
  | .box e x => BoxP P e (ev F x) K w
  | .buildSlice t n ps => BSlcP P t n (ps.toList.map fun p => (p.1, ev F p.2)).toArray K w
  | .makeMap t r => MMapP P t (r.map (ev F)) K w
  | .makeSlice t l c => MSlcP P t (ev F l) (ev F c) K w
  | .mapUpdate t m k x | .insert t m k x => MUpdP P t (ev F m) (ev F k) (ev F x) K w
  | .mapEntry t m k => MEntP P t (ev F m) (ev F k) K w
  | .entryStore t m s x => EStoP P t (ev F m) (ev F s) (ev F x) K w
  | .call c => VCall P o c F K w
  | .move _ | .assign _ | .pick .. | .binOp .. | .unOp .. | .convert .. | .fieldAddr .. | .field .. | .indexAddr .. | .index .. | .slice .. | .extract .. | .nilCheck _ | .makeFunc .. | .build .. =>
    VPure P o F (fun v => K v w)
  | _ => OthP P (execOp (ev F) o) K w

/-- In a region that draws: an operation that is taken first, whatever world of S it meets. -/
def VQuiet (P : Program) (S : World → Prop) (o : Oper) (F : Fr) (K : Value → Prop) : Prop :=
  match o.op with
  | .load t x => LoadG P S t (ev F x) K
  | .lookup t x i ok => LookG P S t (ev F x) (ev F i) ok K
  | .call c => match c.callee with
    | .value f => match ev F f with
      | .func (.func k) pre caps => CallQ P S k (pre.toList ++ c.args.toList.map (ev F) ++ caps.toList).toArray K
      | _ => False
    | .builtin .len => match c.args.toList.map (ev F) with
      | [.map m] => (match c.argTypes.toList with | t :: _ => LenG P S t (.map m) K | [] => False)
      | _ => VPure P o F K
    | _ => VPure P o F K
  | _ => VPure P o F K

/-- A value is brought to its form before it is laid into a slot. -/
def fv (v : Value) (K : Value → Prop) : Prop :=
  match v with
  | .bool b => K (.bool b)
  | .int k n => K (.int k n)
  | .float k n => K (.float k n)
  | .complex k a b => K (.complex k a b)
  | .string s => K (.string s)
  | .pointer a => K (.pointer a)
  | .slice a n c => K (.slice a n c)
  | .map r => K (.map r)
  | .chan r => K (.chan r)
  | .func f a b => K (.func f a b)
  | .nilFunc => K .nilFunc
  | .iface t v => K (.iface t v)
  | .nilIface => K .nilIface
  | .agg cs => K (.agg cs)
  | .tuple vs => K (.tuple vs)
theorem fv_eq (v : Value) (K : Value → Prop) : fv v K = K v := by cases v <;> rfl

/-- An operation's guard. -/
def VGuard (ops : List Oper) (o : Oper) (F : Fr) (A B : Prop) : Prop :=
  match o.guard with
  | none => A
  | some (j, want) => match (ops[j]?).bind (·.dst) with
    | some d => match F d with
      | .bool true => (match want with | true => A | false => B)
      | .bool false => (match want with | true => B | false => A)
      | _ => B
    | none => B

/-! By the recursors themselves, so that what is left of the code has one form wherever it is looked into (the kernel's and the elaborator's). -/
def VOps (P : Program) (ops : List Oper) (K : Fr → World → Prop) (os : List Oper) : Fr → World → Prop :=
  List.rec (motive := fun _ => Fr → World → Prop) (fun F w => K F w)
    (fun o _ ih F w => VGuard ops o F (VOp P o F (fun v w => fv v fun v => ih (updO F o.dst v) w) w) (ih (updO F o.dst undef) w)) os
theorem VOps_nil {P : Program} {ops : List Oper} {K : Fr → World → Prop} {F : Fr} {w : World} : VOps P ops K [] F w = K F w := rfl
theorem VOps_cons {P : Program} {ops : List Oper} {K : Fr → World → Prop} {o : Oper} {os : List Oper} {F : Fr} {w : World} :
    VOps P ops K (o :: os) F w = VGuard ops o F (VOp P o F (fun v w => fv v fun v => VOps P ops K os (updO F o.dst v) w) w) (VOps P ops K os (updO F o.dst undef) w) := rfl

inductive Plan where
  | done
  | take (i : Nat) (p : Plan)
  | eff (i : Nat) (p : Plan)
  | alt (i : Nat) (p q : Plan)
  | bar (p : Plan)

def VPlan (P : Program) (ops : List Oper) (K : Fr → World → Prop) (p : Plan) : (World → Prop) → Fr → World → Prop :=
  Plan.rec (motive := fun _ => (World → Prop) → Fr → World → Prop) (fun _ F w => K F w)
    (fun i _ ih S F w => match ops[i]? with
      | some o => VGuard ops o F (VQuiet P S o F (fun v => fv v fun v => ih S (updO F o.dst v) w)) (ih S (updO F o.dst undef) w)
      | none => False)
    (fun i _ ih S F w => match ops[i]? with
      | some o => VGuard ops o F (VOp P o F (fun v w' => fv v fun v => StrP S w' (fun S' => ih S' (updO F o.dst v) w')) w) (StrP S w (fun S' => ih S' (updO F o.dst undef) w))
      | none => False)
    (fun i _ _ ihp ihq S F w => (match ops[i]? with
      | some o => VGuard ops o F (VOp P o F (fun v w' => fv v fun v => StrP S w' (fun S' => ihp S' (updO F o.dst v) w')) w) (StrP S w (fun S' => ihp S' (updO F o.dst undef) w))
      | none => False) ∧ ihq S F w)
    (fun _ ih _ F w => BarP w (fun S' => ih S' F w)) p
section
variable {P : Program} {ops : List Oper} {K : Fr → World → Prop} {i : Nat} {p q : Plan} {S : World → Prop} {F : Fr} {w : World}
theorem VPlan_done : VPlan P ops K .done S F w = K F w := rfl
theorem VPlan_take : VPlan P ops K (.take i p) S F w = (match ops[i]? with
    | some o => VGuard ops o F (VQuiet P S o F (fun v => fv v fun v => VPlan P ops K p S (updO F o.dst v) w)) (VPlan P ops K p S (updO F o.dst undef) w)
    | none => False) := rfl
theorem VPlan_eff : VPlan P ops K (.eff i p) S F w = (match ops[i]? with
    | some o => VGuard ops o F (VOp P o F (fun v w' => fv v fun v => StrP S w' (fun S' => VPlan P ops K p S' (updO F o.dst v) w')) w) (StrP S w (fun S' => VPlan P ops K p S' (updO F o.dst undef) w))
    | none => False) := rfl
theorem VPlan_alt : VPlan P ops K (.alt i p q) S F w = ((match ops[i]? with
    | some o => VGuard ops o F (VOp P o F (fun v w' => fv v fun v => StrP S w' (fun S' => VPlan P ops K p S' (updO F o.dst v) w')) w) (StrP S w (fun S' => VPlan P ops K p S' (updO F o.dst undef) w))
    | none => False) ∧ VPlan P ops K q S F w) := rfl
theorem VPlan_bar : VPlan P ops K (.bar p) S F w = BarP w (fun S' => VPlan P ops K p S' F w) := rfl
end

/-- The order that is walked: whatever may be taken first is, in the text's order. -/
def isOn (m i : Nat) : Bool := Nat.beq (Nat.land (Nat.shiftRight m i) 1) 1
def edgeOn (m : Nat) : List Edge → Bool
  | [] => true
  | e :: es => (match e.ground with | .textOnly _ => true | .gcOnly _ => true | _ => isOn m e.on) && edgeOn m es
def takeable (qf ex : List Nat) (i : Nat) (o : Oper) : Bool :=
  !(ex.any (Nat.beq i)) && match o.op with
  | .move _ | .assign _ | .pick .. | .binOp .. | .unOp .. | .convert .. | .fieldAddr .. | .field .. | .indexAddr .. | .index .. | .slice .. | .extract .. | .nilCheck _ | .makeFunc .. | .build .. | .load .. | .lookup .. => true
  | .call c => match c.callee with
    | .builtin .len | .builtin .max | .builtin .min => true
    | .value (.func k) => qf.any (Nat.beq k)
    | _ => false
  | _ => false
def firstTake (qf ex : List Nat) (m : Nat) : Nat → List Oper → Option Nat
  | _, [] => none
  | i, o :: os => bif !isOn m i && (takeable qf ex i o && edgeOn m o.after.toList) then some i else firstTake qf ex m (i + 1) os
def readyL (m : Nat) : Nat → List Oper → List Nat
  | _, [] => []
  | i, o :: os => bif !isOn m i && edgeOn m o.after.toList then i :: readyL m (i + 1) os else readyL m (i + 1) os
def altsOf (f : Nat → Plan) : List Nat → Plan
  | [] => .done
  | [i] => .eff i (f i)
  | i :: is => .alt i (f i) (altsOf f is)
noncomputable def mkPlan (qf ex : List Nat) (ops : List Oper) (n m : Nat) : Plan :=
  Nat.rec (motive := fun _ => Nat → Plan) (fun _ => .done)
    (fun _ ih m => match firstTake qf ex m 0 ops with
      | some i => .take i (ih (Nat.lor m (Nat.shiftLeft 1 i)))
      | none => altsOf (fun i => ih (Nat.lor m (Nat.shiftLeft 1 i))) (readyL m 0 ops)) n m

/-- The text's own order, everything taken first. -/
noncomputable def seqPlan (n i : Nat) : Plan := Nat.rec (motive := fun _ => Nat → Plan) (fun _ => .done) (fun _ ih i => .take i (ih (i + 1))) n i
/-- An order that is written out; what stands in 'es' is no read. -/
noncomputable def ordPlan (es is : List Nat) : Plan := List.rec (motive := fun _ => Plan) .done (fun i _ ih => bif es.any (Nat.beq i) then .eff i ih else .take i ih) is

def Plan.idx : Plan → List Nat
  | .eff i _ => [i]
  | .alt i _ q => i :: q.idx
  | _ => []
def Plan.len : Plan → Nat
  | .done => 0
  | .take _ p | .eff _ p => p.len + 1
  | .alt _ p q => max (p.len + 1) q.len
  | .bar p => p.len
/-- What operation b waits for, as bits. -/
def preds (ops : Array Oper) (b : Nat) : Nat := match ops[b]? with | some o => o.after.toList.foldr (fun e m => bif Region.binds .any e then Nat.lor m (Nat.shiftLeft 1 e.on) else m) 0 | none => 0
def predsOf (ops : Array Oper) (m : Nat) : List Nat → Nat
  | [] => 0
  | k :: r => bif Nat.testBit m k then Nat.lor (preds ops k) (predsOf ops m r) else predsOf ops m r
def ancs (ops : Array Oper) : Nat → Nat → Nat
  | 0, m => m
  | n + 1, m => ancs ops n (Nat.lor m (predsOf ops m (List.range ops.size)))
/-- Operation b comes behind operation i whatever the order. -/
def hasEdge (ops : Array Oper) (b i : Nat) : Bool := Nat.testBit (ancs ops 8 (preds ops b)) i
/-- An operation that asks nothing of the world. -/
def pureOp (o : Oper) : Bool := match o.op with | .load .. | .lookup .. | .call _ => false | _ => true
def pureAt (ops : Array Oper) (i : Nat) : Bool := match ops[i]? with | some o => pureOp o | none => false
def planOk (ops : Array Oper) : Bool → List Nat → Plan → Array Bool → Bool
  | top, _, .done, l => top && (Region.ready .any ops l).isEmpty
  | top, B, .take i p, l => top && ((Region.ready .any ops l).contains i && Region.free .any ops l i) && ((pureAt ops i && !(B.any (Nat.beq i))) || (!hasB B l && B.all fun b => hasEdge ops b i)) && planOk ops true B p (l.setIfInBounds i true)
  | top, B, .eff i p, l => (!top || Region.ready .any ops l == [i]) && planOk ops true B p (l.setIfInBounds i true)
  | top, B, .alt i p q, l => (!top || Region.ready .any ops l == i :: q.idx) && planOk ops true B p (l.setIfInBounds i true) && planOk ops false B q l
  | top, B, .bar p, l => top && ((List.range l.size).all fun j => l.getD j true || B.any (Nat.beq j)) && planOk ops true [] p l
def drawOk (ops : Array Oper) (B : List Nat) (p : Plan) : Bool := Region.noSelect ops && planOk ops true B p (Array.replicate ops.size false) && Nat.ble p.len ops.size

structure DrawH (P : Program) (ops : Array Oper) (K : Fr → World → Prop) (F : Fr) (w : World) : Prop where
  of_ ::
  un_ :
  P.follows .mixedOrders = true ∧ ∃ (p : Plan) (B : List Nat) (S : World → Prop), drawOk ops B p = true ∧ S w ∧ VPlan P ops.toList K p S F w
theorem DrawH_eq {P : Program} {ops : Array Oper} {K : Fr → World → Prop} {F : Fr} {w : World} : DrawH P ops K F w = (P.follows .mixedOrders = true ∧ ∃ (p : Plan) (B : List Nat) (S : World → Prop), drawOk ops B p = true ∧ S w ∧ VPlan P ops.toList K p S F w) := propext ⟨fun h => h.un_, fun h => ⟨h⟩⟩

structure LoopH (c : Code) (body : KK → Fr → List Deferred → World → Prop) (K : KK) (F : Fr) (ds : List Deferred) (w : World) : Prop where
  of_ ::
  un_ :
  ∃ (I : Nat → Fr → List Deferred → World → Prop), (∃ n, I n F ds w) ∧
    ∀ n F ds w, I n F ds w → body (fun e F' ds' w' => match e with | .normal => ∃ m, m < n ∧ I m F' ds' w' | e => K e F' ds' w') F ds w
theorem LoopH_eq {c : Code} {body : KK → Fr → List Deferred → World → Prop} {K : KK} {F : Fr} {ds : List Deferred} {w : World} : LoopH c body K F ds w = (∃ (I : Nat → Fr → List Deferred → World → Prop), (∃ n, I n F ds w) ∧
    ∀ n F ds w, I n F ds w → body (fun e F' ds' w' => match e with | .normal => ∃ m, m < n ∧ I m F' ds' w' | e => K e F' ds' w') F ds w) := propext ⟨fun h => h.un_, fun h => ⟨h⟩⟩

/-- A state of the machine that a frame of V's stands for. -/
def Agr (n : Nat) (a : Act) (F : Fr) (ds : List Deferred) : Prop := a.tmps.size = n ∧ (∀ t, a.tmps.getD t undef = F t) ∧ a.defers = ds

def wfL (n : Nat) (ops : List Oper) : Bool := ops.all fun o => match o.dst with | some d => Nat.blt d n | none => true
def noRange : Code → Bool
  | .seq a b | .cond _ a b => noRange a && noRange b
  | .block _ c | .loop c | .scope c => noRange c
  | .rangeFunc .. => false
  | _ => true
def wfC (n : Nat) : Code → Bool
  | .seq a b | .cond _ a b => wfC n a && wfC n b
  | .block _ c | .loop c | .scope c => wfC n c
  | .region _ ops _ => wfL n ops.toList
  | .rangeFunc _ ps a b => ((wfC n a && wfC n b) && (noRange a && noRange b)) && ps.toList.all fun t => Nat.blt t n
  | _ => true
structure RangeH (P : Program) (c : Code) (K : KK) (F : Fr) (ds : List Deferred) (w : World) : Prop where
  of_ ::
  un_ : ∀ (a : Act) (w0 : World), z w0 = w → (∀ t, a.tmps.getD t undef = F t) → a.defers = ds → wfC a.tmps.size c = true →
    c.wpIn (Fw none) 0 P (fun e a' w' => a'.tmps = a.tmps ∧ K e F a'.defers (z w')) a w0
theorem RangeH_eq {P : Program} {c : Code} {K : KK} {F : Fr} {ds : List Deferred} {w : World} : RangeH P c K F ds w = (∀ (a : Act) (w0 : World), z w0 = w → (∀ t, a.tmps.getD t undef = F t) → a.defers = ds → wfC a.tmps.size c = true →
    c.wpIn (Fw none) 0 P (fun e a' w' => a'.tmps = a.tmps ∧ K e F a'.defers (z w')) a w0) := propext ⟨fun h => h.un_, fun h => ⟨h⟩⟩

def V (P : Program) (c : Code) : KK → Fr → List Deferred → World → Prop :=
  Code.rec (motive := fun _ => KK → Fr → List Deferred → World → Prop)
    (fun K F ds w => K .normal F ds w)
    (fun _ ops draw K F ds w => match draw with
      | false => VOps P ops.toList (fun F' w' => K .normal F' ds w') ops.toList F w
      | true => DrawH P ops (fun F' w' => K .normal F' ds w') F w)
    (fun _ _ iha ihb K F ds w => iha (fun e => match e with | .normal => ihb K | e => K e) F ds w)
    (fun c _ _ iha ihb K F ds w => match ev F c with | .bool true => iha K F ds w | .bool false => ihb K F ds w | _ => False)
    (fun id _ ih K F ds w => ih (fun e => match e with | .exit i => bif Nat.beq i id then K .normal else K (.exit i) | e => K e) F ds w)
    (fun c ih K F ds w => LoopH c ih K F ds w)
    (fun g ps assign body _ _ K F ds w => RangeH P (.rangeFunc g ps assign body) K F ds w)
    (fun id K F ds w => K (.exit id) F ds w)
    (fun _ _ _ _ _ _ => False)
    (fun _ K F ds w => K .normal F ds w)
    (fun _ _ _ _ _ => False)
    (fun K F ds w => K .ret F ds w)
    (fun _ _ _ _ _ => False) c
section
variable {P : Program} {K : KK} {F : Fr} {ds : List Deferred} {w : World} {a b c : Code} {id : Nat} {ops : Array Oper}
theorem V_seq : V P (.seq a b) K F ds w = V P a (fun e => match e with | .normal => V P b K | e => K e) F ds w := rfl
theorem V_cond {x : Operand} : V P (.cond x a b) K F ds w = (match ev F x with | .bool true => V P a K F ds w | .bool false => V P b K F ds w | _ => False) := rfl
theorem V_block : V P (.block id c) K F ds w = V P c (fun e => match e with | .exit i => bif Nat.beq i id then K .normal else K (.exit i) | e => K e) F ds w := rfl
theorem V_list : V P (.region id ops false) K F ds w = VOps P ops.toList (fun F' w' => K .normal F' ds w') ops.toList F w := rfl
theorem V_draw : V P (.region id ops true) K F ds w = DrawH P ops (fun F' w' => K .normal F' ds w') F w := rfl
theorem V_loop : V P (.loop c) K F ds w = LoopH c (V P c) K F ds w := rfl
theorem V_range {g : Operand} {ps : Array Tmp} : V P (.rangeFunc g ps a b) K F ds w = RangeH P (.rangeFunc g ps a b) K F ds w := rfl
end

/-! ### sound: pure operations -/
section
variable {P : Program}
theorem run_vS (s : Sem Value) (w : World) : (vS s).run P w = (s.run P w).andThen (fun v w' => .ok (.value v) w') := by
  simp [vS]
theorem pure_val {x : Value} {K : Value → Prop} (h : K x) : PureS P (pure (.value x)) K := ⟨x, fun _ => rfl, h⟩
theorem pure_vval {x : Value} {K : Value → Prop} {s : Sem Value} (hs : ∀ w, s.run P w = .ok x w) (h : K x) : PureS P (vS s) K :=
  ⟨x, fun w => by rw [run_vS, hs]; rfl, h⟩

theorem beq_dec (a b : Int) : (a == b) = decide (a = b) := by cases h : (a == b) <;> simp_all
theorem VInt_sound {op : BinOp} {t : TypeId} {xo yo : Operand} {k : IntKind} {a b : Int} {K : Value → Prop} (hns : op ≠ .shl ∧ op ≠ .shr) (h : VInt P op t xo yo k a b K) :
    PureS P (vS (do eqGuard op t xo yo (.int k a) (.int k b); binOp op t (.int k a) (.int k b))) K := by
  have g : ∀ op w, (eqGuard op t xo yo (.int k a) (.int k b)).run P w = .ok () w := by
    intro op w; unfold eqGuard; cases op <;> rfl
  have hb : ∀ (v : Value), (∀ w, (binOp op t (.int k a) (.int k b)).run P w = .ok v w) → K v → PureS P (vS (do eqGuard op t xo yo (.int k a) (.int k b); binOp op t (.int k a) (.int k b))) K := by
    intro v hv hk
    exact pure_vval (fun w => by rw [Sem.run_bind, g]; exact hv w) hk
  cases op <;> simp only [VInt] at h
  case shl => exact absurd rfl hns.1
  case shr => exact absurd rfl hns.2
  case add => rw [ArP_eq] at h; exact hb _ (fun w => by simp [binOp, Op.intArith]) h
  case sub => rw [ArP_eq] at h; exact hb _ (fun w => by simp [binOp, Op.intArith]) h
  case mul => rw [ArP_eq] at h; exact hb _ (fun w => by simp [binOp, Op.intArith]) h
  case quo => rw [QuoP_eq] at h; exact hb _ (fun w => by simp [binOp, Op.intDiv, h.1]) h.2
  case rem => rw [RemP_eq] at h; exact hb _ (fun w => by simp [binOp, Op.intDiv, h.1]) h.2
  case and => rw [BitP_eq] at h; exact hb _ (fun w => by simp [binOp, Op.intBits, bits]) h
  case or => rw [BitP_eq] at h; exact hb _ (fun w => by simp [binOp, Op.intBits, bits]) h
  case xor => rw [BitP_eq] at h; exact hb _ (fun w => by simp [binOp, Op.intBits, bits]) h
  case andNot => rw [BitP_eq] at h; exact hb _ (fun w => by simp [binOp, Op.intBits, bits]) h
  all_goals (replace h := CmpP.val h)
  case eql => exact hb _ (fun w => by rw [← beq_dec]; simp [binOp, Op.intCmp]) h
  case neq => exact hb _ (fun w => by rw [show decide (a ≠ b) = (a != b) from by rw [bne, beq_dec]; simp]; simp [binOp, Op.intCmp]) h
  all_goals exact hb _ (fun w => by simp [binOp, Op.intCmp]) h

theorem VBin_sound {op : BinOp} {t : TypeId} {xo yo : Operand} {x y : Value} {K : Value → Prop} (h : VBin P op t xo yo x y K) :
    PureS P (vS (do eqGuard op t xo yo x y; binOp op t x y)) K := by
  have g : ∀ op k a k' b w, (eqGuard op t xo yo (.int k a) (.int k' b)).run P w = .ok () w := by
    intro op k a k' b w; unfold eqGuard; cases op <;> rfl
  unfold VBin at h
  split at h
  · rename_i k a k' b
    split at h
    · rw [ShlP_eq] at h
      exact pure_vval (fun w => by rw [Sem.run_bind, g]; simp [binOp, Op.shift, Int.not_lt.2 h.1]) h.2
    · rw [ShrP_eq] at h
      exact pure_vval (fun w => by rw [Sem.run_bind, g]; simp [binOp, Op.shift, Int.not_lt.2 h.1]) h.2
    · rename_i hs hr
      cases hk : Nat.beq (kno k) (kno k') with
      | false => rw [hk] at h; exact h.elim
      | true => rw [hk] at h; obtain rfl := kno_inj hk; exact VInt_sound ⟨hs, hr⟩ h
  · rw [BinP_eq] at h; exact h

theorem list_map_array (F : Fr) (xs : Array Operand) : (xs.toList.map (ev F)).toArray = xs.map (ev F) := by rw [← Array.toList_map]
theorem parts_map (F : Fr) (ps : Array (Nat × Operand)) : (ps.toList.map fun p => (p.1, ev F p.2)).toArray = ps.map fun (i, x) => (i, ev F x) := by rw [← Array.toList_map]

theorem args_list {F : Fr} {c : Call} {l : List Value} (h : c.args.toList.map (ev F) = l) : c.args.map (ev F) = l.toArray := by
  rw [← h, list_map_array]

theorem exec_builtin (F : Fr) (o : Oper) (c : Call) (b : Builtin) (hop : o.op = .call c) (hc : c.callee = .builtin b) :
    execOp (ev F) o = builtin b c.argTypes o.type (c.args.map fun | .const _ => true | _ => false) (c.args.map (ev F)) := by
  unfold execOp; rw [hop]; simp only [resolve, hc]; rfl

theorem getL {ts : Array TypeId} {t : TypeId} {r : List TypeId} (h : ts.toList = t :: r) (ty : TypeId) (x : Value) : Builtin.len_ ts ty #[x] = Builtin.len_ #[t] 0 #[x] := by
  obtain ⟨l⟩ := ts
  simp only at h
  subst h
  rfl

theorem VPure_sound {o : Oper} {F : Fr} {K : Value → Prop} (h : VPure P o F K) : PureS P (execOp (ev F) o) K := by
  unfold VPure at h
  split at h
  case h_1 x he => unfold execOp; rw [he]; exact pure_val h
  case h_2 x he => unfold execOp; rw [he]; exact pure_val h
  case h_3 c a b he =>
    split at h
    · rename_i hc
      unfold execOp; rw [he]; simp only [hc]
      exact ⟨ev F a, fun w => rfl, h⟩
    · rename_i hc
      unfold execOp; rw [he]; simp only [hc]
      exact ⟨ev F b, fun w => rfl, h⟩
    · exact h.elim
  case h_4 op t x y yt he => unfold execOp; rw [he]; exact VBin_sound h
  case h_5 op t x he =>
    unfold execOp; rw [he]; dsimp only
    split at h
    · rename_i hx; rw [hx]; exact pure_vval (fun _ => rfl) h
    · rename_i hx; rw [hx]; exact pure_vval (fun _ => rfl) h
    · rename_i k n hx; rw [hx]; rw [ArP_eq] at h; exact pure_vval (fun _ => rfl) h
    · rw [PureP_eq] at h; exact h
  case h_6 s d x he => unfold execOp; rw [he]; rw [ConvP_eq] at h; exact h
  case h_7 s x f he => unfold execOp; rw [he]; rw [FldAP_eq] at h; exact h
  case h_8 t x f he => unfold execOp; rw [he]; rw [FldVP_eq] at h; exact h
  case h_9 t x i he => unfold execOp; rw [he]; rw [IdxAP_eq] at h; exact h
  case h_10 t x i he => unfold execOp; rw [he]; rw [IdxVP_eq] at h; exact h
  case h_11 t x lo hi mx he => unfold execOp; rw [he]; rw [SlcP_eq] at h; exact h
  case h_12 t i he =>
    split at h
    · rename_i vs hv
      split at h
      · rename_i v hi
        unfold execOp; rw [he]; dsimp only; rw [hv]
        refine pure_vval (fun w => ?_) h
        have : vs[i]? = some v := by simpa using hi
        simp [Instr.extract, this]
      · exact h.elim
    · exact h.elim
  case h_13 x he =>
    split at h
    · rename_i a hx; unfold execOp; rw [he]; dsimp only; rw [hx]; exact pure_val h
    · rename_i f pre caps hx; unfold execOp; rw [he]; dsimp only; rw [hx]; exact pure_val h
    · rw [PureP_eq] at h; exact h
  case h_14 fn first cap he =>
    unfold execOp; rw [he]
    rw [list_map_array, list_map_array] at h
    exact pure_vval (fun _ => rfl) h
  case h_15 t ps he =>
    unfold execOp; rw [he]; rw [BldP_eq] at h
    rw [parts_map] at h; exact h
  case h_16 c he =>
    split at h
    · rename_i x hc hargs
      split at h
      · rename_i t ts ht
        rw [exec_builtin F o c _ he hc, args_list hargs]
        rw [LenP_eq] at h
        show PureS P (vS (Builtin.len_ c.argTypes o.type #[x])) K
        rw [getL ht]; exact h
      · rw [PureP_eq] at h; exact h
    · rename_i k x k' y hc hargs
      cases hk : Nat.beq (kno k) (kno k') with
      | false => rw [hk] at h; exact h.elim
      | true =>
        rw [hk] at h; obtain rfl := kno_inj hk
        rw [exec_builtin F o c _ he hc, args_list hargs]
        have e : (max x y : Int) = if y > x then y else x := by split <;> omega
        have h : K (.int k (max x y)) := h
        rw [e] at h
        exact pure_vval (s := Builtin.max_ c.argTypes o.type #[.int k x, .int k y]) (fun w => rfl) h
    · rename_i k x k' y hc hargs
      cases hk : Nat.beq (kno k) (kno k') with
      | false => rw [hk] at h; exact h.elim
      | true =>
        rw [hk] at h; obtain rfl := kno_inj hk
        rw [exec_builtin F o c _ he hc, args_list hargs]
        have e : (min x y : Int) = if y < x then y else x := by split <;> omega
        have h : K (.int k (min x y)) := h
        rw [e] at h
        exact pure_vval (s := Builtin.min_ c.argTypes o.type #[.int k x, .int k y]) (fun w => rfl) h
    · rw [PureP_eq] at h; exact h
  case h_17 => rw [PureP_eq] at h; exact h

/-! ### sound: all operations -/
theorem loadG_op {s : Sem Value} {K : VK} {w : World} (h : ∃ v, (∀ w', w' = w → OpS P (vS s) (fun u w'' => u = v ∧ w'' = w') w') ∧ K v w) : OpS P (vS s) K w := by
  obtain ⟨v, hv, hk⟩ := h
  exact (hv w rfl).mono fun u w' ⟨e1, e2⟩ => by subst e1; subst e2; exact hk

theorem exec_value (F : Fr) (o : Oper) (c : Call) (f : Operand) (fn : Fn) (pre caps : Array Value) (hop : o.op = .call c) (hc : c.callee = .value f) (hf : ev F f = .func fn pre caps) :
    execOp (ev F) o = invoke (.fn fn caps) (pre ++ c.args.map (ev F)) := by
  unfold execOp; rw [hop]; simp only [resolve, hc, hf, Deferred.ofValue]; rfl

theorem arr3 (F : Fr) (pre caps : Array Value) (c : Call) : (pre.toList ++ c.args.toList.map (ev F) ++ caps.toList).toArray = (pre ++ c.args.map (ev F)) ++ caps := by
  rw [← list_map_array]; simp
theorem arr2 (F : Fr) (pre : Array Value) (c : Call) : (pre.toList ++ c.args.toList.map (ev F)).toArray = pre ++ c.args.map (ev F) := by
  rw [← list_map_array]; simp

theorem VCall_sound {o : Oper} {c : Call} {F : Fr} {K : VK} {w : World} (hop : o.op = .call c) (h : VCall P o c F K w) : OpS P (execOp (ev F) o) K w := by
  unfold VCall at h
  split at h
  · rename_i f hc
    split at h
    · rename_i k pre caps hf
      rw [exec_value F o c f _ _ _ hop hc hf]
      rw [CallP_eq] at h
      rw [arr3] at h
      exact h
    · rename_i l pre caps hf
      rw [exec_value F o c f _ _ _ hop hc hf]
      rw [YieldP_eq] at h
      rw [arr2] at h
      exact h
    · rw [OthP_eq] at h; exact h
  · rename_i b hc
    split at h
    · rename_i m hargs
      split at h
      · rename_i t r ht
        rw [exec_builtin F o c _ hop hc, args_list hargs]
        rw [LenG_eq] at h
        show OpS P (vS (Builtin.len_ c.argTypes o.type #[.map m])) K w
        rw [getL ht]
        exact loadG_op h
      · rw [OthP_eq] at h; exact h
    · exact (VPure_sound h).op
    · exact (VPure_sound h).op
    · exact (VPure_sound h).op
    · rename_i b' args' hh1 hh2
      rw [exec_builtin F o c _ hop hc]
      rw [BuiP_eq] at h
      rw [list_map_array] at h
      exact h
  · rw [OthP_eq] at h; exact h

theorem VOp_sound {o : Oper} {F : Fr} {K : VK} {w : World} (h : VOp P o F K w) : OpS P (execOp (ev F) o) K w := by
  unfold VOp at h
  split at h
  case h_1 t x he => unfold execOp; rw [he]; rw [LoadG_eq] at h; exact loadG_op h
  case h_2 t x i ok he => unfold execOp; rw [he]; rw [LookG_eq] at h; exact loadG_op h
  case h_3 t a x he => unfold execOp; rw [he]; rw [StoreP_eq] at h; exact h
  case h_4 e he => unfold execOp; rw [he]; rw [AllocP_eq] at h; exact h
  case h_5 e x he => unfold execOp; rw [he]; rw [BoxP_eq] at h; exact h
  case h_6 t n ps he => unfold execOp; rw [he]; rw [BSlcP_eq] at h; rw [parts_map] at h; exact h
  case h_7 t r he => unfold execOp; rw [he]; rw [MMapP_eq] at h; exact h
  case h_8 t l c he => unfold execOp; rw [he]; rw [MSlcP_eq] at h; exact h
  case h_9 t m k x he => unfold execOp; rw [he]; rw [MUpdP_eq] at h; exact h
  case h_10 t m k x he => unfold execOp; rw [he]; rw [MUpdP_eq] at h; exact h
  case h_11 t m k he => unfold execOp; rw [he]; rw [MEntP_eq] at h; exact h
  case h_12 t m k x he => unfold execOp; rw [he]; rw [EStoP_eq] at h; exact h
  case h_13 c he => exact VCall_sound he h
  all_goals first | exact (VPure_sound h).op | (rw [OthP_eq] at h; exact h)

theorem pureS_quiet {s : Sem Next} {S : World → Prop} {K : Value → Prop} (h : PureS P s K) : ∃ v, (∀ w, S w → OpS P s (fun u w' => u = v ∧ w' = w) w) ∧ K v := by
  obtain ⟨v, hv, hk⟩ := h
  exact ⟨v, fun w _ w0 hw => by rw [hv]; exact ⟨rfl, hw⟩, hk⟩

theorem VQuiet_sound {S : World → Prop} {o : Oper} {F : Fr} {K : Value → Prop} (h : VQuiet P S o F K) :
    ∃ v, (∀ w, S w → OpS P (execOp (ev F) o) (fun u w' => u = v ∧ w' = w) w) ∧ K v := by
  unfold VQuiet at h
  split at h
  case h_1 t x he => rw [LoadG_eq] at h; obtain ⟨v, hv, hk⟩ := h; refine ⟨v, fun w hw => ?_, hk⟩; unfold execOp; rw [he]; exact hv w hw
  case h_2 t x i ok he => rw [LookG_eq] at h; obtain ⟨v, hv, hk⟩ := h; refine ⟨v, fun w hw => ?_, hk⟩; unfold execOp; rw [he]; exact hv w hw
  case h_3 c he =>
    split at h
    · rename_i f hc
      split at h
      · rename_i k pre caps hf
        rw [CallQ_eq] at h
        obtain ⟨v, hv, hk⟩ := h
        refine ⟨v, fun w hw => ?_, hk⟩
        rw [exec_value F o c f _ _ _ he hc hf]
        have := hv w hw
        rw [arr3] at this
        exact this
      · exact h.elim
    · rename_i hc
      split at h
      · rename_i m hargs
        split at h
        · rename_i t r ht
          rw [LenG_eq] at h
          obtain ⟨v, hv, hk⟩ := h
          refine ⟨v, fun w hw => ?_, hk⟩
          rw [exec_builtin F o c _ he hc, args_list hargs]
          show OpS P (vS (Builtin.len_ c.argTypes o.type #[.map m])) _ w
          rw [getL ht]
          exact hv w hw
        · exact h.elim
      · exact pureS_quiet (VPure_sound h)
    · exact pureS_quiet (VPure_sound h)
  all_goals exact pureS_quiet (VPure_sound h)
theorem VQuiet_pure {S : World → Prop} {o : Oper} {F : Fr} {K : Value → Prop} (ho : pureOp o = true) (h : VQuiet P S o F K) :
    ∃ v, (∀ w, True → OpS P (execOp (ev F) o) (fun u w' => u = v ∧ w' = w) w) ∧ K v := by
  unfold VQuiet at h
  unfold pureOp at ho
  split at h
  case h_1 t x he => rw [he] at ho; cases ho
  case h_2 t x i ok he => rw [he] at ho; cases ho
  case h_3 c he => rw [he] at ho; cases ho
  all_goals exact pureS_quiet (S := fun _ => True) (VPure_sound h)
end
end Go.Proofs.YtpmmhcgghldaaaaDoor
