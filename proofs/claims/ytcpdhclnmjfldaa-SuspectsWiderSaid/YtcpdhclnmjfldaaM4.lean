/- Parts of the proof: Vt Vw Vx Facts. -/
import Derived.Test.YtcpdhclnmjfldaaM3
import Derived.Test.YtcpdhclnmjfldaaM2
import Derived.Test.YtcpdhclnmjfldaaProg

/- Own layer, part t: a loop that holds ranges over functions; a return behind several of these. Nothing of the program stands here. -/
namespace Go.Proofs.Ytcpdhclnmjfldaa
open Go Go.RowKit

section
variable {P : Program}
structure NextDP {α β : Type} (enc : α → β → List (Nat × Value)) (I : α → β → List Deferred → World → Prop) (μ : α → β → World → Nat) (m : Nat) (F : Fr) (ds : List Deferred) (w : World) : Prop where
  of_ ::
  un_ : ∃ (a : α) (b : β), Has F (enc a b) ∧ I a b ds w ∧ μ a b w < m
theorem nextD {α β : Type} {enc : α → β → List (Nat × Value)} {I : α → β → List Deferred → World → Prop} {μ : α → β → World → Nat} {m : Nat} {F : Fr} {ds : List Deferred} {w : World} (a : α) (b : β) (h : Has F (enc a b)) (hi : I a b ds w) (hm : μ a b w < m) : NextDP enc I μ m F ds w := ⟨a, b, h, hi, hm⟩
theorem loopD {c : Code} {K : KK} {F0 : Fr} {ds0 : List Deferred} {w0 : World} {α β : Type} (enc : α → β → List (Nat × Value)) (I : α → β → List Deferred → World → Prop) (μ : α → β → World → Nat)
    (a0 : α) (b0 : β) (h0 : Has F0 (enc a0 b0)) (hI : I a0 b0 ds0 w0)
    (step : ∀ (G : Fr) (a : α) (b : β) (ds : List Deferred) (w : World), I a b ds w →
      V P c (fun e F' ds' w' => match e with | .normal => NextDP enc I μ (μ a b w) F' ds' w' | e => K e F' ds' w') (upds (enc a b) (mix (writes c) F0 G)) ds w) :
    LoopH c (V P c) K F0 ds0 w0 := by
  rw [LoopH_eq]
  refine ⟨fun n F ds' w => Off (writes c) F0 F ∧ ∃ a b, Has F (enc a b) ∧ I a b ds' w ∧ μ a b w = n, ⟨_, .refl _ _, a0, b0, h0, hI, rfl⟩, ?_⟩
  rintro n F ds' w ⟨hf, a, b, hs, hi, rfl⟩
  have hm : mix (writes c) F0 F = F := funext fun j => by
    show (bif memN j (writes c) then F j else F0 j) = F j
    cases hb : memN j (writes c) with
    | true => rfl
    | false => exact (hf j hb).symm
  have h1 := step F a b ds' w hi
  rw [hm, upds_has hs] at h1
  refine V_mf c _ _ F ds' w (fun e F' ds'' w' hf' hd h => ?_) h1
  cases e with
  | normal =>
    have h : NextDP enc I μ (μ a b w) F' ds'' w' := h
    obtain ⟨a', b', a1, a2, a3⟩ := h.un_
    exact ⟨_, a3, hf.trans (hf' (fun _ e => by cases e)), a', b', a1, a2, rfl⟩
  | _ => exact h
/-- The marks that have been laid. -/
def Marks (lo : Nat) : List Deferred → World → Prop
  | [], _ => True
  | d :: ds, w => (∃ b, d.target = .collected b ∧ lo ≤ b ∧ w.heap[b]? = some (.deferred (some [])) ∧ ∀ d' ∈ ds, d'.target ≠ .collected b) ∧ Marks lo ds w
theorem Marks.lt {lo : Nat} : ∀ {ds : List Deferred} {w : World}, Marks lo ds w → ∀ d ∈ ds, ∀ b, d.target = .collected b → b < w.heap.size
  | d :: ds, w, ⟨⟨b, h1, h2, h3, h4⟩, h5⟩, x, hx, b', hb => by
    rcases List.mem_cons.1 hx with rfl | hx
    · rw [h1] at hb; injection hb with hb; subst hb
      exact (Array.getElem?_eq_some_iff.1 h3).1
    · exact h5.lt x hx b' hb
theorem Marks.kept {lo : Nat} {D : Nat → Prop} : ∀ {ds : List Deferred} {w w' : World}, Marks lo ds w → Kept D w w' → (∀ b, lo ≤ b → b < w.heap.size → w.heap[b]? = some (.deferred (some [])) → D b) → Marks lo ds w'
  | [], _, _, _, _, _ => trivial
  | _ :: _, _, _, ⟨⟨b, h1, h2, h3, h4⟩, h5⟩, k, hD => ⟨⟨b, h1, h2, (k.blk b (Array.getElem?_eq_some_iff.1 h3).1 (hD b h2 (Array.getElem?_eq_some_iff.1 h3).1 h3)).trans h3, h4⟩, h5.kept k hD⟩
theorem Marks.ext {lo : Nat} {ds : List Deferred} {w w' : World} (h : Marks lo ds w) (k : Ext w w') : Marks lo ds w' := h.kept k fun _ _ _ _ => trivial
theorem Marks.add {lo b : Nat} {ds : List Deferred} {w w' : World} (h : Marks lo ds w) (k : Ext w w') (hb : w.heap.size ≤ b) (hlo : lo ≤ b) (hw : w'.heap[b]? = some (.deferred (some []))) : Marks lo ({ target := .collected b, args := #[] } :: ds) w' :=
  ⟨⟨b, rfl, hlo, hw, fun d' hd e => by have := h.lt d' hd b e; omega⟩, h.ext k⟩
theorem Marks.shut {lo : Nat} : ∀ {ds : List Deferred} {w : World}, Marks lo ds w → ∃ w', shutMarks ds w = some w' ∧ Kept (fun b => b < lo) w w'
  | [], w, _ => ⟨w, rfl, .refl _ _⟩
  | d :: ds, w, ⟨⟨b, h1, h2, h3, h4⟩, h5⟩ => by
    have k : Kept (fun c => c ≠ b) w (w.putObj b (.deferred none)) := Kept.putObj w b _
    have h6 : Marks lo ds (w.putObj b (.deferred none)) := by
      clear h2
      induction ds with
      | nil => trivial
      | cons x r ih =>
        obtain ⟨⟨c, g1, g2, g3, g4⟩, g5⟩ := h5
        have hne : c ≠ b := fun e => h4 x List.mem_cons_self (e ▸ g1)
        exact ⟨⟨c, g1, g2, (k.blk c (Array.getElem?_eq_some_iff.1 g3).1 hne).trans g3, g4⟩, ih (fun y hy => h4 y (List.mem_cons_of_mem _ hy)) g5⟩
    obtain ⟨w', h7, h8⟩ := Marks.shut h6
    refine ⟨w', ?_, (k.weak fun i _ hi => by omega).trans h8⟩
    unfold shutMarks
    rw [h1]
    simp only [h3]
    exact h7
/-- A return behind marks. -/
theorem retMs {rs : List ResultVar} {F : Fr} {R : VK} {lo : Nat} {ds : List Deferred} {w : World} (hm : Marks lo ds w) (h : ∀ w', Kept (fun b => b < lo) w w' → VRes P F w' rs [] (fun vs => R (resV vs) w')) : RetP P rs F ds R w := by
  rw [RetP_eq]
  obtain ⟨w', h1, h2⟩ := hm.shut
  exact ⟨w', h1, h w' h2⟩
end
end Go.Proofs.Ytcpdhclnmjfldaa

/- Own layer, part w: maps whose keys are records of two numbers; a look with its truth. Nothing of the program stands here. -/
namespace Go.Proofs.Ytcpdhclnmjfldaa
open Go Go.RowKit Classical

/-- What the rules ask of the record's type. -/
structure KeyS (P : Program) (k e : TypeId) (f0 f1 : Field) : Prop where
  u : P.underlying k = some (.struct #[f0, f1])
  t0 : f0.type = e
  t1 : f1.type = e
  o0 : f0.offset = 0
  o1 : f1.offset = 1
  n0 : f0.name ≠ "_"
  n1 : f1.name ≠ "_"
  ue : P.underlying e = some (.int .i64)
  eq : ∀ a b c d : Int, eqV P 8 k (.agg #[.int .i64 a, .int .i64 b]) (.agg #[.int .i64 c, .int .i64 d]) = some ((a == c) && ((b == d) && true))
section
variable {P : Program}
theorem run_chkS {k e : TypeId} {f0 f1 : Field} (h : KeyS P k e f0 f1) (b : Bool) (a : Int × Int) (w : World) : (Instr.checkKey b 10000 k (kv2 a)).run P w = .ok () w := by
  have p0 : (part e #[.int .i64 a.1, .int .i64 a.2] 0).run P w = .ok (.int .i64 a.1) w := run_partV (by unfold partV; rw [h.ue]; rfl) w
  have p1 : (part e #[.int .i64 a.1, .int .i64 a.2] 1).run P w = .ok (.int .i64 a.2) w := run_partV (by unfold partV; rw [h.ue]; rfl) w
  have ck : ∀ n : Int, (Instr.checkKey b 9999 e (.int .i64 n)).run P w = .ok () w := fun n => by
    rw [show (9999 : Nat) = 9998 + 1 from rfl]
    unfold Instr.checkKey
    rw [Sem.run_bind, run_underlying h.ue]
    rfl
  rw [show (10000 : Nat) = 9999 + 1 from rfl]
  unfold Instr.checkKey
  simp only [Sem.run_bind, run_underlying h.u, Result.andThen_ok]
  simp only [← Array.forIn_toList, List.forIn_cons, List.forIn_nil, if_pos h.n0, if_pos h.n1, Sem.run_bind, h.t0, h.t1, h.o0, h.o1, p0, p1, ck, Result.andThen_ok, Sem.run_pure]
theorem run_fndS {k e : TypeId} {f0 f1 : Field} (h : KeyS P k e f0 f1) (a : Int × Int) (L : List MapEntry) (w : World) (hL : ∀ e ∈ L, ∃ q, e.key = kv2 q) : (Instr.findKey k (kv2 a) L).run P w = .ok (findP (kv2 a) L 0) w := by
  have heq : ∀ q, (Op.equal k (kv2 a) (kv2 q)).run P w = .ok ((a.1 == q.1) && ((a.2 == q.2) && true)) w := fun q => run_eqV 9992 8 k _ _ _ (h.eq a.1 a.2 q.1 q.2) w
  have ask : ∀ (L : List MapEntry) (i : Nat), (∀ e ∈ L, ∃ q, e.key = kv2 q) → (Instr.findAsking k (kv2 a) L i).run P w = .ok (findP (kv2 a) L i) w := by
    intro L
    induction L with
    | nil => intro i _; simp [Instr.findAsking, findP]
    | cons x r ih =>
      intro i hx
      obtain ⟨q, hq⟩ := hx x List.mem_cons_self
      unfold Instr.findAsking findP
      rw [hq, Sem.run_bind, heq q]
      by_cases hab : a = q
      · subst hab
        simp
      · have h1 : ((a.1 == q.1) && ((a.2 == q.2) && true)) = false := by
          rw [Bool.eq_false_iff]
          intro e
          simp at e
          exact hab (Prod.ext e.1 e.2)
        have h2 : ¬ (kv2 q = kv2 a) := fun e => by
          simp at e
          exact hab (Prod.ext e.1.symm e.2.symm)
        rw [h1, if_neg h2]
        simpa using ih (i + 1) fun y hy => hx y (List.mem_cons_of_mem _ hy)
  unfold Instr.findKey
  rw [Sem.run_bind, run_underlying h.u]
  simp only [Result.andThen_ok]
  cases L with
  | nil => simp [Instr.findNow, findP]
  | cons x r =>
    obtain ⟨q, hq⟩ := hL x List.mem_cons_self
    have : Instr.findNow (.struct #[f0, f1]) (kv2 a) (x :: r) 0 = none := by unfold Instr.findNow; rw [hq]; rfl
    rw [this]
    exact ask _ 0 hL
theorem KeyS.law {k e : TypeId} {f0 f1 : Field} (h : KeyS P k e f0 f1) : KeyL P k kv2 where
  inj a b h := by simp at h; exact Prod.ext h.1 h.2
  chk := run_chkS h
  bits a := by
    rw [show (10000 : Nat) = 9998 + 1 + 1 from rfl]
    simp [Instr.sameBits]
  fnd := run_fndS h
/-- A look into a map, the value and whether it is there. -/
theorem lookG2 {κ : Type} {kv : κ → Value} {S : World → Prop} {t k e : TypeId} {zv : Value} [hm : MapTy P t k e] [hk : KeyL P k kv] [hz : ZeroTy P e zv] {g : Nat} (a : κ) {K : Value → Prop} (v : Option Value) (h : ∀ u, S u → ∃ f : κ → Option Value, MapG kv u g f ∧ f a = v)
    (k1 : ∀ x, v = some x → K (.tuple #[x, .bool true])) (k2 : v = none → K (.tuple #[zv, .bool false])) : LookG P S t (.map (some g)) (kv a) true K := by
  rw [LookG_eq]
  cases v with
  | none =>
    refine ⟨_, fun w hw w0 e0 => ?_, k2 rfl⟩
    subst e0
    obtain ⟨f, h1, h2⟩ := h _ hw
    have := run_lookupG (mapOf_spec hm.h) hz.h (w := w0) (show MapG kv w0 g f from by obtain ⟨L, c, hE, hf⟩ := h1; exact ⟨L, c, ⟨hE.at_, hE.keys, hE.born⟩, hf⟩) a true
    rw [run_vS, this, h2]
    exact ⟨rfl, rfl⟩
  | some x =>
    refine ⟨_, fun w hw w0 e0 => ?_, k1 x rfl⟩
    subst e0
    obtain ⟨f, h1, h2⟩ := h _ hw
    have := run_lookupG (mapOf_spec hm.h) hz.h (w := w0) (show MapG kv w0 g f from by obtain ⟨L, c, hE, hf⟩ := h1; exact ⟨L, c, ⟨hE.at_, hE.keys, hE.born⟩, hf⟩) a true
    rw [run_vS, this, h2]
    exact ⟨rfl, rfl⟩
end
end Go.Proofs.Ytcpdhclnmjfldaa

/- Own layer, part x: drawn regions: one slot told apart; effects that may come in any order. Nothing of the program stands here. -/
namespace Go.Proofs.Ytcpdhclnmjfldaa
open Go Go.RowKit

section
variable {P : Program} {X : XK} {ops : Array Oper} {K : Fr → World → Prop} {F : Fr} {w : World}
theorem mix_off {l : List Nat} {F F' : Fr} (h : Off l F F') : mix l F F' = F' := funext fun j => by
  show (bif memN j l then F' j else F j) = F' j
  cases hb : memN j l with
  | true => rfl
  | false => exact (h j hb).symm
/-- What is said of a region that draws, if it is of the world and of one slot. -/
theorem draw_slot (j : Nat) (K' : Value → World → Prop) (h : DrawH P ops (fun F' w' => K' (F' j) w') X F w) (k : ∀ G v w', K' v w' → K (upds [(j, v)] (mix (wr ops.toList) F G)) w') : DrawH P ops K X F w :=
  draw_then h fun F' w' hoff hk => by
    have e : upds [(j, F' j)] (mix (wr ops.toList) F F') = F' := by
      rw [mix_off hoff]
      exact upd_self rfl
    rw [← e]; exact k F' _ w' hk
/-- .. if it is of the world alone. -/
theorem draw_w (K' : World → Prop) (h : DrawH P ops (fun _ w' => K' w') X F w) (k : ∀ G w', K' w' → K (mix (wr ops.toList) F G) w') : DrawH P ops K X F w :=
  draw_then h fun F' w' hoff hk => by
    rw [← mix_off hoff]; exact k F' w' hk
end

/-! ### effects in any order -/
/-- All orders of some effects, then the rest. -/
def altsP (g : Nat → Plan) : List Nat → Plan
  | [] => .done
  | [e] => .eff e (g e)
  | e :: e2 :: es => .alt e (g e) (altsP g (e2 :: es))
def permP : Nat → List Nat → Plan → Plan
  | 0, _, t => t
  | n + 1, rem, t => altsP (fun e => permP n (rem.erase e) t) rem
/-- What an effect asks, with what comes next. -/
def EffP (P : Program) (ops : List Oper) (X : XK) (i : Nat) (C : (World → Prop) → Fr → World → Prop) (S : World → Prop) (F : Fr) (w : World) : Prop := match ops[i]? with
  | some o => VGuard ops o F (VOp P o F (fun v w' => fv v fun v => StrP S w' (fun S' => C S' (updO F o.dst v) w')) X w) (StrP S w (fun S' => C S' (updO F o.dst undef) w))
  | none => False
theorem vplan_perm {P : Program} {ops : List Oper} {K : Fr → World → Prop} {X : XK} {S : World → Prop} {t : Plan} (I : List Nat → Fr → World → Prop)
    (step : ∀ rem e F w (C : (World → Prop) → Fr → World → Prop), e ∈ rem → I rem F w → (∀ F' w', I (rem.erase e) F' w' → C S F' w') → EffP P ops X e C S F w)
    (fin : ∀ F w, I [] F w → VPlan P ops K X t S F w) : ∀ (n : Nat) (rem : List Nat) (F : Fr) (w : World), rem.length = n → I rem F w → VPlan P ops K X (permP n rem t) S F w := by
  intro n
  induction n with
  | zero =>
    intro rem F w hl hI
    obtain rfl : rem = [] := List.eq_nil_of_length_eq_zero hl
    exact fin F w hI
  | succ n ih =>
    intro rem F w hl hI
    have key : ∀ es : List Nat, es ≠ [] → (∀ e ∈ es, e ∈ rem) → VPlan P ops K X (altsP (fun e => permP n (rem.erase e) t) es) S F w := by
      intro es
      induction es with
      | nil => intro h _; exact absurd rfl h
      | cons e es ihe =>
        intro _ hs
        have one : EffP P ops X e (fun S' F' w' => VPlan P ops K X (permP n (rem.erase e) t) S' F' w') S F w :=
          step rem e F w _ (hs e List.mem_cons_self) hI fun F' w' hI' => ih (rem.erase e) F' w' (by rw [List.length_erase_of_mem (hs e List.mem_cons_self), hl]; rfl) hI'
        cases es with
        | nil => exact one
        | cons e2 es => exact ⟨one, ihe (by simp) fun a ha => hs a (List.mem_cons_of_mem _ ha)⟩
    exact key rem (by intro e; subst e; cases hl) fun _ h => h
end Go.Proofs.Ytcpdhclnmjfldaa

/- Made by facts.py off the translation: what the rules ask of the program's types and functions. -/
namespace Go.Proofs.Ytcpdhclnmjfldaa
open Go
theorem mx : Try.prog.follows .mixedOrders = true := by kernel_rfl
instance cellTy0 : CellTy Try.prog 0 := ⟨by kernel_rfl⟩
instance stoTy0 : StoTy Try.prog 0 := ⟨by kernel_rfl⟩
instance zeroTy0 : ZeroTy Try.prog 0 (.tuple #[]) := ⟨by kernel_rfl⟩
instance bytesTy0 : BytesTy Try.prog 0 0 := ⟨by kernel_rfl⟩
instance cellTy1 : CellTy Try.prog 1 := ⟨by kernel_rfl⟩
instance stoTy1 : StoTy Try.prog 1 := ⟨by kernel_rfl⟩
instance zeroTy1 : ZeroTy Try.prog 1 (.nilFunc) := ⟨by kernel_rfl⟩
instance bytesTy1 : BytesTy Try.prog 1 8 := ⟨by kernel_rfl⟩
instance cellTy2 : CellTy Try.prog 2 := ⟨by kernel_rfl⟩
instance stoTy2 : StoTy Try.prog 2 := ⟨by kernel_rfl⟩
instance intTy2 : IntTy Try.prog 2 .i64 := ⟨by kernel_rfl⟩
instance zeroTy2 : ZeroTy Try.prog 2 (.int .i64 0) := ⟨by kernel_rfl⟩
instance bytesTy2 : BytesTy Try.prog 2 8 := ⟨by kernel_rfl⟩
instance cellTy3 : CellTy Try.prog 3 := ⟨by kernel_rfl⟩
instance stoTy3 : StoTy Try.prog 3 := ⟨by kernel_rfl⟩
instance intTy3 : IntTy Try.prog 3 .i64 := ⟨by kernel_rfl⟩
instance zeroTy3 : ZeroTy Try.prog 3 (.int .i64 0) := ⟨by kernel_rfl⟩
instance bytesTy3 : BytesTy Try.prog 3 8 := ⟨by kernel_rfl⟩
instance cellTy4 : CellTy Try.prog 4 := ⟨by kernel_rfl⟩
instance stoTy4 : StoTy Try.prog 4 := ⟨by kernel_rfl⟩
instance boolTy4 : BoolTy Try.prog 4 := ⟨by kernel_rfl⟩
instance zeroTy4 : ZeroTy Try.prog 4 (.bool false) := ⟨by kernel_rfl⟩
instance bytesTy4 : BytesTy Try.prog 4 1 := ⟨by kernel_rfl⟩
instance cellTy5 : CellTy Try.prog 5 := ⟨by kernel_rfl⟩
instance stoTy5 : StoTy Try.prog 5 := ⟨by kernel_rfl⟩
instance intTy5 : IntTy Try.prog 5 .u8 := ⟨by kernel_rfl⟩
instance zeroTy5 : ZeroTy Try.prog 5 (.int .u8 0) := ⟨by kernel_rfl⟩
instance bytesTy5 : BytesTy Try.prog 5 1 := ⟨by kernel_rfl⟩
instance cellTy6 : CellTy Try.prog 6 := ⟨by kernel_rfl⟩
instance stoTy6 : StoTy Try.prog 6 := ⟨by kernel_rfl⟩
instance intTy6 : IntTy Try.prog 6 .u8 := ⟨by kernel_rfl⟩
instance zeroTy6 : ZeroTy Try.prog 6 (.int .u8 0) := ⟨by kernel_rfl⟩
instance bytesTy6 : BytesTy Try.prog 6 1 := ⟨by kernel_rfl⟩
instance aggTy7 : AggTy Try.prog 7 4 := ⟨by kernel_rfl⟩
instance fldTy7_0 : FldTy Try.prog 7 0 2 0 := ⟨by kernel_rfl⟩
instance fldTy7_1 : FldTy Try.prog 7 1 3 1 := ⟨by kernel_rfl⟩
instance fldTy7_2 : FldTy Try.prog 7 2 4 2 := ⟨by kernel_rfl⟩
instance fldTy7_3 : FldTy Try.prog 7 3 6 3 := ⟨by kernel_rfl⟩
instance zeroTy7 : ZeroTy Try.prog 7 (.agg #[.int .i64 0, .int .i64 0, .bool false, .int .u8 0]) := ⟨by kernel_rfl⟩
instance bytesTy7 : BytesTy Try.prog 7 24 := ⟨by kernel_rfl⟩
instance aggTy8 : AggTy Try.prog 8 4 := ⟨by kernel_rfl⟩
instance fldTy8_0 : FldTy Try.prog 8 0 2 0 := ⟨by kernel_rfl⟩
instance fldTy8_1 : FldTy Try.prog 8 1 3 1 := ⟨by kernel_rfl⟩
instance fldTy8_2 : FldTy Try.prog 8 2 4 2 := ⟨by kernel_rfl⟩
instance fldTy8_3 : FldTy Try.prog 8 3 6 3 := ⟨by kernel_rfl⟩
instance zeroTy8 : ZeroTy Try.prog 8 (.agg #[.int .i64 0, .int .i64 0, .bool false, .int .u8 0]) := ⟨by kernel_rfl⟩
instance bytesTy8 : BytesTy Try.prog 8 24 := ⟨by kernel_rfl⟩
instance cellTy9 : CellTy Try.prog 9 := ⟨by kernel_rfl⟩
instance stoTy9 : StoTy Try.prog 9 := ⟨by kernel_rfl⟩
instance strTy9 : StrTy Try.prog 9 := ⟨by kernel_rfl⟩
instance zeroTy9 : ZeroTy Try.prog 9 (.string ⟨#[]⟩) := ⟨by kernel_rfl⟩
instance bytesTy9 : BytesTy Try.prog 9 16 := ⟨by kernel_rfl⟩
instance cellTy10 : CellTy Try.prog 10 := ⟨by kernel_rfl⟩
instance stoTy10 : StoTy Try.prog 10 := ⟨by kernel_rfl⟩
instance strTy10 : StrTy Try.prog 10 := ⟨by kernel_rfl⟩
instance zeroTy10 : ZeroTy Try.prog 10 (.string ⟨#[]⟩) := ⟨by kernel_rfl⟩
instance bytesTy10 : BytesTy Try.prog 10 16 := ⟨by kernel_rfl⟩
instance cellTy11 : CellTy Try.prog 11 := ⟨by kernel_rfl⟩
instance stoTy11 : StoTy Try.prog 11 := ⟨by kernel_rfl⟩
instance strTy11 : StrTy Try.prog 11 := ⟨by kernel_rfl⟩
instance zeroTy11 : ZeroTy Try.prog 11 (.string ⟨#[]⟩) := ⟨by kernel_rfl⟩
instance bytesTy11 : BytesTy Try.prog 11 16 := ⟨by kernel_rfl⟩
instance cellTy12 : CellTy Try.prog 12 := ⟨by kernel_rfl⟩
instance stoTy12 : StoTy Try.prog 12 := ⟨by kernel_rfl⟩
instance intTy12 : IntTy Try.prog 12 .u64 := ⟨by kernel_rfl⟩
instance zeroTy12 : ZeroTy Try.prog 12 (.int .u64 0) := ⟨by kernel_rfl⟩
instance bytesTy12 : BytesTy Try.prog 12 8 := ⟨by kernel_rfl⟩
instance aggTy13 : AggTy Try.prog 13 2 := ⟨by kernel_rfl⟩
instance fldTy13_0 : FldTy Try.prog 13 0 9 0 := ⟨by kernel_rfl⟩
instance fldTy13_1 : FldTy Try.prog 13 1 12 1 := ⟨by kernel_rfl⟩
instance zeroTy13 : ZeroTy Try.prog 13 (.agg #[.string ⟨#[]⟩, .int .u64 0]) := ⟨by kernel_rfl⟩
instance bytesTy13 : BytesTy Try.prog 13 24 := ⟨by kernel_rfl⟩
instance aggTy14 : AggTy Try.prog 14 2 := ⟨by kernel_rfl⟩
instance fldTy14_0 : FldTy Try.prog 14 0 9 0 := ⟨by kernel_rfl⟩
instance fldTy14_1 : FldTy Try.prog 14 1 12 1 := ⟨by kernel_rfl⟩
instance zeroTy14 : ZeroTy Try.prog 14 (.agg #[.string ⟨#[]⟩, .int .u64 0]) := ⟨by kernel_rfl⟩
instance bytesTy14 : BytesTy Try.prog 14 24 := ⟨by kernel_rfl⟩
instance cellTy15 : CellTy Try.prog 15 := ⟨by kernel_rfl⟩
instance stoTy15 : StoTy Try.prog 15 := ⟨by kernel_rfl⟩
instance zeroTy15 : ZeroTy Try.prog 15 (.pointer none) := ⟨by kernel_rfl⟩
instance bytesTy15 : BytesTy Try.prog 15 8 := ⟨by kernel_rfl⟩
instance cellTy16 : CellTy Try.prog 16 := ⟨by kernel_rfl⟩
instance stoTy16 : StoTy Try.prog 16 := ⟨by kernel_rfl⟩
instance zeroTy16 : ZeroTy Try.prog 16 (.pointer none) := ⟨by kernel_rfl⟩
instance bytesTy16 : BytesTy Try.prog 16 8 := ⟨by kernel_rfl⟩
instance cellTy17 : CellTy Try.prog 17 := ⟨by kernel_rfl⟩
instance stoTy17 : StoTy Try.prog 17 := ⟨by kernel_rfl⟩
instance zeroTy17 : ZeroTy Try.prog 17 (.pointer none) := ⟨by kernel_rfl⟩
instance bytesTy17 : BytesTy Try.prog 17 8 := ⟨by kernel_rfl⟩
instance aggTy18 : AggTy Try.prog 18 1 := ⟨by kernel_rfl⟩
instance fldTy18_0 : FldTy Try.prog 18 0 17 0 := ⟨by kernel_rfl⟩
instance zeroTy18 : ZeroTy Try.prog 18 (.agg #[.pointer none]) := ⟨by kernel_rfl⟩
instance bytesTy18 : BytesTy Try.prog 18 8 := ⟨by kernel_rfl⟩
instance aggTy19 : AggTy Try.prog 19 1 := ⟨by kernel_rfl⟩
instance fldTy19_0 : FldTy Try.prog 19 0 17 0 := ⟨by kernel_rfl⟩
instance zeroTy19 : ZeroTy Try.prog 19 (.agg #[.pointer none]) := ⟨by kernel_rfl⟩
instance bytesTy19 : BytesTy Try.prog 19 8 := ⟨by kernel_rfl⟩
instance cellTy20 : CellTy Try.prog 20 := ⟨by kernel_rfl⟩
instance stoTy20 : StoTy Try.prog 20 := ⟨by kernel_rfl⟩
instance zeroTy20 : ZeroTy Try.prog 20 (.nilIface) := ⟨by kernel_rfl⟩
instance bytesTy20 : BytesTy Try.prog 20 16 := ⟨by kernel_rfl⟩
instance cellTy21 : CellTy Try.prog 21 := ⟨by kernel_rfl⟩
instance stoTy21 : StoTy Try.prog 21 := ⟨by kernel_rfl⟩
instance intTy21 : IntTy Try.prog 21 .i32 := ⟨by kernel_rfl⟩
instance zeroTy21 : ZeroTy Try.prog 21 (.int .i32 0) := ⟨by kernel_rfl⟩
instance bytesTy21 : BytesTy Try.prog 21 4 := ⟨by kernel_rfl⟩
instance aggTy22 : AggTy Try.prog 22 2 := ⟨by kernel_rfl⟩
instance fldTy22_0 : FldTy Try.prog 22 0 3 0 := ⟨by kernel_rfl⟩
instance fldTy22_1 : FldTy Try.prog 22 1 3 1 := ⟨by kernel_rfl⟩
instance zeroTy22 : ZeroTy Try.prog 22 (.agg #[.int .i64 0, .int .i64 0]) := ⟨by kernel_rfl⟩
instance bytesTy22 : BytesTy Try.prog 22 16 := ⟨by kernel_rfl⟩
instance aggTy23 : AggTy Try.prog 23 2 := ⟨by kernel_rfl⟩
instance fldTy23_0 : FldTy Try.prog 23 0 3 0 := ⟨by kernel_rfl⟩
instance fldTy23_1 : FldTy Try.prog 23 1 3 1 := ⟨by kernel_rfl⟩
instance zeroTy23 : ZeroTy Try.prog 23 (.agg #[.int .i64 0, .int .i64 0]) := ⟨by kernel_rfl⟩
instance bytesTy23 : BytesTy Try.prog 23 16 := ⟨by kernel_rfl⟩
instance cellTy24 : CellTy Try.prog 24 := ⟨by kernel_rfl⟩
instance stoTy24 : StoTy Try.prog 24 := ⟨by kernel_rfl⟩
instance sliceTy24 : SliceTy Try.prog 24 87 12 := ⟨by kernel_rfl⟩
instance zeroTy24 : ZeroTy Try.prog 24 (.slice none 0 0) := ⟨by kernel_rfl⟩
instance bytesTy24 : BytesTy Try.prog 24 24 := ⟨by kernel_rfl⟩
instance cellTy25 : CellTy Try.prog 25 := ⟨by kernel_rfl⟩
instance stoTy25 : StoTy Try.prog 25 := ⟨by kernel_rfl⟩
instance sliceTy25 : SliceTy Try.prog 25 89 4 := ⟨by kernel_rfl⟩
instance zeroTy25 : ZeroTy Try.prog 25 (.slice none 0 0) := ⟨by kernel_rfl⟩
instance bytesTy25 : BytesTy Try.prog 25 24 := ⟨by kernel_rfl⟩
instance cellTy26 : CellTy Try.prog 26 := ⟨by kernel_rfl⟩
instance stoTy26 : StoTy Try.prog 26 := ⟨by kernel_rfl⟩
instance sliceTy26 : SliceTy Try.prog 26 167 2 := ⟨by kernel_rfl⟩
instance zeroTy26 : ZeroTy Try.prog 26 (.slice none 0 0) := ⟨by kernel_rfl⟩
instance bytesTy26 : BytesTy Try.prog 26 24 := ⟨by kernel_rfl⟩
instance cellTy27 : CellTy Try.prog 27 := ⟨by kernel_rfl⟩
instance stoTy27 : StoTy Try.prog 27 := ⟨by kernel_rfl⟩
instance sliceTy27 : SliceTy Try.prog 27 169 10 := ⟨by kernel_rfl⟩
instance zeroTy27 : ZeroTy Try.prog 27 (.slice none 0 0) := ⟨by kernel_rfl⟩
instance bytesTy27 : BytesTy Try.prog 27 24 := ⟨by kernel_rfl⟩
instance cellTy28 : CellTy Try.prog 28 := ⟨by kernel_rfl⟩
instance stoTy28 : StoTy Try.prog 28 := ⟨by kernel_rfl⟩
instance sliceTy28 : SliceTy Try.prog 28 172 4 := ⟨by kernel_rfl⟩
instance zeroTy28 : ZeroTy Try.prog 28 (.slice none 0 0) := ⟨by kernel_rfl⟩
instance bytesTy28 : BytesTy Try.prog 28 24 := ⟨by kernel_rfl⟩
instance cellTy29 : CellTy Try.prog 29 := ⟨by kernel_rfl⟩
instance stoTy29 : StoTy Try.prog 29 := ⟨by kernel_rfl⟩
instance sliceTy29 : SliceTy Try.prog 29 201 4 := ⟨by kernel_rfl⟩
instance zeroTy29 : ZeroTy Try.prog 29 (.slice none 0 0) := ⟨by kernel_rfl⟩
instance bytesTy29 : BytesTy Try.prog 29 24 := ⟨by kernel_rfl⟩
instance aggTy30 : AggTy Try.prog 30 10 := ⟨by kernel_rfl⟩
instance fldTy30_0 : FldTy Try.prog 30 0 9 0 := ⟨by kernel_rfl⟩
instance fldTy30_1 : FldTy Try.prog 30 1 3 1 := ⟨by kernel_rfl⟩
instance fldTy30_2 : FldTy Try.prog 30 2 23 2 := ⟨by kernel_rfl⟩
instance fldTy30_3 : FldTy Try.prog 30 3 24 4 := ⟨by kernel_rfl⟩
instance fldTy30_4 : FldTy Try.prog 30 4 25 5 := ⟨by kernel_rfl⟩
instance fldTy30_5 : FldTy Try.prog 30 5 26 6 := ⟨by kernel_rfl⟩
instance fldTy30_6 : FldTy Try.prog 30 6 27 7 := ⟨by kernel_rfl⟩
instance fldTy30_7 : FldTy Try.prog 30 7 28 8 := ⟨by kernel_rfl⟩
instance fldTy30_8 : FldTy Try.prog 30 8 29 9 := ⟨by kernel_rfl⟩
instance zeroTy30 : ZeroTy Try.prog 30 (.agg #[.string ⟨#[]⟩, .int .i64 0, .int .i64 0, .int .i64 0, .slice none 0 0, .slice none 0 0, .slice none 0 0, .slice none 0 0, .slice none 0 0, .slice none 0 0]) := ⟨by kernel_rfl⟩
instance bytesTy30 : BytesTy Try.prog 30 184 := ⟨by kernel_rfl⟩
instance aggTy31 : AggTy Try.prog 31 10 := ⟨by kernel_rfl⟩
instance fldTy31_0 : FldTy Try.prog 31 0 9 0 := ⟨by kernel_rfl⟩
instance fldTy31_1 : FldTy Try.prog 31 1 3 1 := ⟨by kernel_rfl⟩
instance fldTy31_2 : FldTy Try.prog 31 2 23 2 := ⟨by kernel_rfl⟩
instance fldTy31_3 : FldTy Try.prog 31 3 24 4 := ⟨by kernel_rfl⟩
instance fldTy31_4 : FldTy Try.prog 31 4 25 5 := ⟨by kernel_rfl⟩
instance fldTy31_5 : FldTy Try.prog 31 5 26 6 := ⟨by kernel_rfl⟩
instance fldTy31_6 : FldTy Try.prog 31 6 27 7 := ⟨by kernel_rfl⟩
instance fldTy31_7 : FldTy Try.prog 31 7 28 8 := ⟨by kernel_rfl⟩
instance fldTy31_8 : FldTy Try.prog 31 8 29 9 := ⟨by kernel_rfl⟩
instance zeroTy31 : ZeroTy Try.prog 31 (.agg #[.string ⟨#[]⟩, .int .i64 0, .int .i64 0, .int .i64 0, .slice none 0 0, .slice none 0 0, .slice none 0 0, .slice none 0 0, .slice none 0 0, .slice none 0 0]) := ⟨by kernel_rfl⟩
instance bytesTy31 : BytesTy Try.prog 31 184 := ⟨by kernel_rfl⟩
instance cellTy32 : CellTy Try.prog 32 := ⟨by kernel_rfl⟩
instance stoTy32 : StoTy Try.prog 32 := ⟨by kernel_rfl⟩
instance sliceTy32 : SliceTy Try.prog 32 52 4 := ⟨by kernel_rfl⟩
instance zeroTy32 : ZeroTy Try.prog 32 (.slice none 0 0) := ⟨by kernel_rfl⟩
instance bytesTy32 : BytesTy Try.prog 32 24 := ⟨by kernel_rfl⟩
instance cellTy33 : CellTy Try.prog 33 := ⟨by kernel_rfl⟩
instance stoTy33 : StoTy Try.prog 33 := ⟨by kernel_rfl⟩
instance sliceTy33 : SliceTy Try.prog 33 92 3 := ⟨by kernel_rfl⟩
instance zeroTy33 : ZeroTy Try.prog 33 (.slice none 0 0) := ⟨by kernel_rfl⟩
instance bytesTy33 : BytesTy Try.prog 33 24 := ⟨by kernel_rfl⟩
instance aggTy34 : AggTy Try.prog 34 2 := ⟨by kernel_rfl⟩
instance fldTy34_0 : FldTy Try.prog 34 0 32 0 := ⟨by kernel_rfl⟩
instance fldTy34_1 : FldTy Try.prog 34 1 33 1 := ⟨by kernel_rfl⟩
instance zeroTy34 : ZeroTy Try.prog 34 (.agg #[.slice none 0 0, .slice none 0 0]) := ⟨by kernel_rfl⟩
instance bytesTy34 : BytesTy Try.prog 34 48 := ⟨by kernel_rfl⟩
instance aggTy35 : AggTy Try.prog 35 2 := ⟨by kernel_rfl⟩
instance fldTy35_0 : FldTy Try.prog 35 0 32 0 := ⟨by kernel_rfl⟩
instance fldTy35_1 : FldTy Try.prog 35 1 33 1 := ⟨by kernel_rfl⟩
instance zeroTy35 : ZeroTy Try.prog 35 (.agg #[.slice none 0 0, .slice none 0 0]) := ⟨by kernel_rfl⟩
instance bytesTy35 : BytesTy Try.prog 35 48 := ⟨by kernel_rfl⟩
instance cellTy36 : CellTy Try.prog 36 := ⟨by kernel_rfl⟩
instance stoTy36 : StoTy Try.prog 36 := ⟨by kernel_rfl⟩
instance sliceTy36 : SliceTy Try.prog 36 3 1 := ⟨by kernel_rfl⟩
instance zeroTy36 : ZeroTy Try.prog 36 (.slice none 0 0) := ⟨by kernel_rfl⟩
instance bytesTy36 : BytesTy Try.prog 36 24 := ⟨by kernel_rfl⟩
instance cellTy37 : CellTy Try.prog 37 := ⟨by kernel_rfl⟩
instance stoTy37 : StoTy Try.prog 37 := ⟨by kernel_rfl⟩
instance zeroTy37 : ZeroTy Try.prog 37 (.nilFunc) := ⟨by kernel_rfl⟩
instance bytesTy37 : BytesTy Try.prog 37 8 := ⟨by kernel_rfl⟩
instance cellTy38 : CellTy Try.prog 38 := ⟨by kernel_rfl⟩
instance stoTy38 : StoTy Try.prog 38 := ⟨by kernel_rfl⟩
instance zeroTy38 : ZeroTy Try.prog 38 (.nilFunc) := ⟨by kernel_rfl⟩
instance bytesTy38 : BytesTy Try.prog 38 8 := ⟨by kernel_rfl⟩
instance cellTy39 : CellTy Try.prog 39 := ⟨by kernel_rfl⟩
instance stoTy39 : StoTy Try.prog 39 := ⟨by kernel_rfl⟩
instance intTy39 : IntTy Try.prog 39 .i64 := ⟨by kernel_rfl⟩
instance zeroTy39 : ZeroTy Try.prog 39 (.int .i64 0) := ⟨by kernel_rfl⟩
instance bytesTy39 : BytesTy Try.prog 39 8 := ⟨by kernel_rfl⟩
instance cellTy40 : CellTy Try.prog 40 := ⟨by kernel_rfl⟩
instance stoTy40 : StoTy Try.prog 40 := ⟨by kernel_rfl⟩
instance zeroTy40 : ZeroTy Try.prog 40 (.tuple #[.bool false, .int .i64 0]) := ⟨by kernel_rfl⟩
instance bytesTy40 : BytesTy Try.prog 40 0 := ⟨by kernel_rfl⟩
instance cellTy41 : CellTy Try.prog 41 := ⟨by kernel_rfl⟩
instance stoTy41 : StoTy Try.prog 41 := ⟨by kernel_rfl⟩
instance zeroTy41 : ZeroTy Try.prog 41 (.nilFunc) := ⟨by kernel_rfl⟩
instance bytesTy41 : BytesTy Try.prog 41 8 := ⟨by kernel_rfl⟩
instance cellTy42 : CellTy Try.prog 42 := ⟨by kernel_rfl⟩
instance stoTy42 : StoTy Try.prog 42 := ⟨by kernel_rfl⟩
instance zeroTy42 : ZeroTy Try.prog 42 (.tuple #[.slice none 0 0, .int .i64 0]) := ⟨by kernel_rfl⟩
instance bytesTy42 : BytesTy Try.prog 42 0 := ⟨by kernel_rfl⟩
instance cellTy43 : CellTy Try.prog 43 := ⟨by kernel_rfl⟩
instance stoTy43 : StoTy Try.prog 43 := ⟨by kernel_rfl⟩
instance zeroTy43 : ZeroTy Try.prog 43 (.nilFunc) := ⟨by kernel_rfl⟩
instance bytesTy43 : BytesTy Try.prog 43 8 := ⟨by kernel_rfl⟩
instance cellTy44 : CellTy Try.prog 44 := ⟨by kernel_rfl⟩
instance stoTy44 : StoTy Try.prog 44 := ⟨by kernel_rfl⟩
instance zeroTy44 : ZeroTy Try.prog 44 (.nilFunc) := ⟨by kernel_rfl⟩
instance bytesTy44 : BytesTy Try.prog 44 8 := ⟨by kernel_rfl⟩
instance cellTy45 : CellTy Try.prog 45 := ⟨by kernel_rfl⟩
instance stoTy45 : StoTy Try.prog 45 := ⟨by kernel_rfl⟩
instance zeroTy45 : ZeroTy Try.prog 45 (.nilFunc) := ⟨by kernel_rfl⟩
instance bytesTy45 : BytesTy Try.prog 45 8 := ⟨by kernel_rfl⟩
instance cellTy46 : CellTy Try.prog 46 := ⟨by kernel_rfl⟩
instance stoTy46 : StoTy Try.prog 46 := ⟨by kernel_rfl⟩
instance sliceTy46 : SliceTy Try.prog 46 36 1 := ⟨by kernel_rfl⟩
instance zeroTy46 : ZeroTy Try.prog 46 (.slice none 0 0) := ⟨by kernel_rfl⟩
instance bytesTy46 : BytesTy Try.prog 46 24 := ⟨by kernel_rfl⟩
instance cellTy47 : CellTy Try.prog 47 := ⟨by kernel_rfl⟩
instance stoTy47 : StoTy Try.prog 47 := ⟨by kernel_rfl⟩
instance zeroTy47 : ZeroTy Try.prog 47 (.tuple #[.slice none 0 0, .int .i64 0]) := ⟨by kernel_rfl⟩
instance bytesTy47 : BytesTy Try.prog 47 0 := ⟨by kernel_rfl⟩
instance cellTy48 : CellTy Try.prog 48 := ⟨by kernel_rfl⟩
instance stoTy48 : StoTy Try.prog 48 := ⟨by kernel_rfl⟩
instance zeroTy48 : ZeroTy Try.prog 48 (.nilFunc) := ⟨by kernel_rfl⟩
instance bytesTy48 : BytesTy Try.prog 48 8 := ⟨by kernel_rfl⟩
instance cellTy49 : CellTy Try.prog 49 := ⟨by kernel_rfl⟩
instance stoTy49 : StoTy Try.prog 49 := ⟨by kernel_rfl⟩
instance zeroTy49 : ZeroTy Try.prog 49 (.pointer none) := ⟨by kernel_rfl⟩
instance bytesTy49 : BytesTy Try.prog 49 8 := ⟨by kernel_rfl⟩
instance cellTy50 : CellTy Try.prog 50 := ⟨by kernel_rfl⟩
instance stoTy50 : StoTy Try.prog 50 := ⟨by kernel_rfl⟩
instance sliceTy50 : SliceTy Try.prog 50 56 2 := ⟨by kernel_rfl⟩
instance zeroTy50 : ZeroTy Try.prog 50 (.slice none 0 0) := ⟨by kernel_rfl⟩
instance bytesTy50 : BytesTy Try.prog 50 24 := ⟨by kernel_rfl⟩
instance aggTy51 : AggTy Try.prog 51 4 := ⟨by kernel_rfl⟩
instance fldTy51_0 : FldTy Try.prog 51 0 3 0 := ⟨by kernel_rfl⟩
instance fldTy51_1 : FldTy Try.prog 51 1 50 1 := ⟨by kernel_rfl⟩
instance fldTy51_2 : FldTy Try.prog 51 2 50 2 := ⟨by kernel_rfl⟩
instance fldTy51_3 : FldTy Try.prog 51 3 50 3 := ⟨by kernel_rfl⟩
instance zeroTy51 : ZeroTy Try.prog 51 (.agg #[.int .i64 0, .slice none 0 0, .slice none 0 0, .slice none 0 0]) := ⟨by kernel_rfl⟩
instance bytesTy51 : BytesTy Try.prog 51 80 := ⟨by kernel_rfl⟩
instance aggTy52 : AggTy Try.prog 52 4 := ⟨by kernel_rfl⟩
instance fldTy52_0 : FldTy Try.prog 52 0 3 0 := ⟨by kernel_rfl⟩
instance fldTy52_1 : FldTy Try.prog 52 1 50 1 := ⟨by kernel_rfl⟩
instance fldTy52_2 : FldTy Try.prog 52 2 50 2 := ⟨by kernel_rfl⟩
instance fldTy52_3 : FldTy Try.prog 52 3 50 3 := ⟨by kernel_rfl⟩
instance zeroTy52 : ZeroTy Try.prog 52 (.agg #[.int .i64 0, .slice none 0 0, .slice none 0 0, .slice none 0 0]) := ⟨by kernel_rfl⟩
instance bytesTy52 : BytesTy Try.prog 52 80 := ⟨by kernel_rfl⟩
instance cellTy53 : CellTy Try.prog 53 := ⟨by kernel_rfl⟩
instance stoTy53 : StoTy Try.prog 53 := ⟨by kernel_rfl⟩
instance zeroTy53 : ZeroTy Try.prog 53 (.pointer none) := ⟨by kernel_rfl⟩
instance bytesTy53 : BytesTy Try.prog 53 8 := ⟨by kernel_rfl⟩
instance cellTy54 : CellTy Try.prog 54 := ⟨by kernel_rfl⟩
instance stoTy54 : StoTy Try.prog 54 := ⟨by kernel_rfl⟩
instance sliceTy54 : SliceTy Try.prog 54 53 1 := ⟨by kernel_rfl⟩
instance zeroTy54 : ZeroTy Try.prog 54 (.slice none 0 0) := ⟨by kernel_rfl⟩
instance bytesTy54 : BytesTy Try.prog 54 24 := ⟨by kernel_rfl⟩
instance aggTy55 : AggTy Try.prog 55 2 := ⟨by kernel_rfl⟩
instance fldTy55_0 : FldTy Try.prog 55 0 3 0 := ⟨by kernel_rfl⟩
instance fldTy55_1 : FldTy Try.prog 55 1 3 1 := ⟨by kernel_rfl⟩
instance zeroTy55 : ZeroTy Try.prog 55 (.agg #[.int .i64 0, .int .i64 0]) := ⟨by kernel_rfl⟩
instance bytesTy55 : BytesTy Try.prog 55 16 := ⟨by kernel_rfl⟩
instance aggTy56 : AggTy Try.prog 56 2 := ⟨by kernel_rfl⟩
instance fldTy56_0 : FldTy Try.prog 56 0 3 0 := ⟨by kernel_rfl⟩
instance fldTy56_1 : FldTy Try.prog 56 1 3 1 := ⟨by kernel_rfl⟩
instance zeroTy56 : ZeroTy Try.prog 56 (.agg #[.int .i64 0, .int .i64 0]) := ⟨by kernel_rfl⟩
instance bytesTy56 : BytesTy Try.prog 56 16 := ⟨by kernel_rfl⟩
instance cellTy57 : CellTy Try.prog 57 := ⟨by kernel_rfl⟩
instance stoTy57 : StoTy Try.prog 57 := ⟨by kernel_rfl⟩
instance zeroTy57 : ZeroTy Try.prog 57 (.nilFunc) := ⟨by kernel_rfl⟩
instance bytesTy57 : BytesTy Try.prog 57 8 := ⟨by kernel_rfl⟩
instance cellTy58 : CellTy Try.prog 58 := ⟨by kernel_rfl⟩
instance stoTy58 : StoTy Try.prog 58 := ⟨by kernel_rfl⟩
instance zeroTy58 : ZeroTy Try.prog 58 (.nilFunc) := ⟨by kernel_rfl⟩
instance bytesTy58 : BytesTy Try.prog 58 8 := ⟨by kernel_rfl⟩
instance cellTy59 : CellTy Try.prog 59 := ⟨by kernel_rfl⟩
instance stoTy59 : StoTy Try.prog 59 := ⟨by kernel_rfl⟩
instance zeroTy59 : ZeroTy Try.prog 59 (.nilFunc) := ⟨by kernel_rfl⟩
instance bytesTy59 : BytesTy Try.prog 59 8 := ⟨by kernel_rfl⟩
instance cellTy60 : CellTy Try.prog 60 := ⟨by kernel_rfl⟩
instance stoTy60 : StoTy Try.prog 60 := ⟨by kernel_rfl⟩
instance zeroTy60 : ZeroTy Try.prog 60 (.tuple #[.slice none 0 0, .bool false, .int .i64 0]) := ⟨by kernel_rfl⟩
instance bytesTy60 : BytesTy Try.prog 60 0 := ⟨by kernel_rfl⟩
instance cellTy61 : CellTy Try.prog 61 := ⟨by kernel_rfl⟩
instance stoTy61 : StoTy Try.prog 61 := ⟨by kernel_rfl⟩
instance zeroTy61 : ZeroTy Try.prog 61 (.nilFunc) := ⟨by kernel_rfl⟩
instance bytesTy61 : BytesTy Try.prog 61 8 := ⟨by kernel_rfl⟩
instance cellTy62 : CellTy Try.prog 62 := ⟨by kernel_rfl⟩
instance stoTy62 : StoTy Try.prog 62 := ⟨by kernel_rfl⟩
instance mapTy62 : MapTy Try.prog 62 98 3 := ⟨by kernel_rfl⟩
instance zeroTy62 : ZeroTy Try.prog 62 (.map none) := ⟨by kernel_rfl⟩
instance bytesTy62 : BytesTy Try.prog 62 8 := ⟨by kernel_rfl⟩
instance aggTy63 : AggTy Try.prog 63 13 := ⟨by kernel_rfl⟩
instance fldTy63_0 : FldTy Try.prog 63 0 31 0 := ⟨by kernel_rfl⟩
instance fldTy63_1 : FldTy Try.prog 63 1 35 10 := ⟨by kernel_rfl⟩
instance fldTy63_2 : FldTy Try.prog 63 2 62 12 := ⟨by kernel_rfl⟩
instance zeroTy63 : ZeroTy Try.prog 63 (.agg #[.string ⟨#[]⟩, .int .i64 0, .int .i64 0, .int .i64 0, .slice none 0 0, .slice none 0 0, .slice none 0 0, .slice none 0 0, .slice none 0 0, .slice none 0 0, .slice none 0 0, .slice none 0 0, .map none]) := ⟨by kernel_rfl⟩
instance bytesTy63 : BytesTy Try.prog 63 240 := ⟨by kernel_rfl⟩
instance aggTy64 : AggTy Try.prog 64 13 := ⟨by kernel_rfl⟩
instance fldTy64_0 : FldTy Try.prog 64 0 31 0 := ⟨by kernel_rfl⟩
instance fldTy64_1 : FldTy Try.prog 64 1 35 10 := ⟨by kernel_rfl⟩
instance fldTy64_2 : FldTy Try.prog 64 2 62 12 := ⟨by kernel_rfl⟩
instance zeroTy64 : ZeroTy Try.prog 64 (.agg #[.string ⟨#[]⟩, .int .i64 0, .int .i64 0, .int .i64 0, .slice none 0 0, .slice none 0 0, .slice none 0 0, .slice none 0 0, .slice none 0 0, .slice none 0 0, .slice none 0 0, .slice none 0 0, .map none]) := ⟨by kernel_rfl⟩
instance bytesTy64 : BytesTy Try.prog 64 240 := ⟨by kernel_rfl⟩
instance cellTy65 : CellTy Try.prog 65 := ⟨by kernel_rfl⟩
instance stoTy65 : StoTy Try.prog 65 := ⟨by kernel_rfl⟩
instance zeroTy65 : ZeroTy Try.prog 65 (.tuple #[.agg #[.string ⟨#[]⟩, .int .i64 0, .int .i64 0, .int .i64 0, .slice none 0 0, .slice none 0 0, .slice none 0 0, .slice none 0 0, .slice none 0 0, .slice none 0 0, .slice none 0 0, .slice none 0 0, .map none], .int .i64 0]) := ⟨by kernel_rfl⟩
instance bytesTy65 : BytesTy Try.prog 65 0 := ⟨by kernel_rfl⟩
instance cellTy66 : CellTy Try.prog 66 := ⟨by kernel_rfl⟩
instance stoTy66 : StoTy Try.prog 66 := ⟨by kernel_rfl⟩
instance zeroTy66 : ZeroTy Try.prog 66 (.nilFunc) := ⟨by kernel_rfl⟩
instance bytesTy66 : BytesTy Try.prog 66 8 := ⟨by kernel_rfl⟩
instance cellTy67 : CellTy Try.prog 67 := ⟨by kernel_rfl⟩
instance stoTy67 : StoTy Try.prog 67 := ⟨by kernel_rfl⟩
instance zeroTy67 : ZeroTy Try.prog 67 (.nilFunc) := ⟨by kernel_rfl⟩
instance bytesTy67 : BytesTy Try.prog 67 8 := ⟨by kernel_rfl⟩
instance cellTy68 : CellTy Try.prog 68 := ⟨by kernel_rfl⟩
instance stoTy68 : StoTy Try.prog 68 := ⟨by kernel_rfl⟩
instance zeroTy68 : ZeroTy Try.prog 68 (.pointer none) := ⟨by kernel_rfl⟩
instance bytesTy68 : BytesTy Try.prog 68 8 := ⟨by kernel_rfl⟩
instance cellTy69 : CellTy Try.prog 69 := ⟨by kernel_rfl⟩
instance stoTy69 : StoTy Try.prog 69 := ⟨by kernel_rfl⟩
instance zeroTy69 : ZeroTy Try.prog 69 (.tuple #[.pointer none, .bool false]) := ⟨by kernel_rfl⟩
instance bytesTy69 : BytesTy Try.prog 69 0 := ⟨by kernel_rfl⟩
instance cellTy70 : CellTy Try.prog 70 := ⟨by kernel_rfl⟩
instance stoTy70 : StoTy Try.prog 70 := ⟨by kernel_rfl⟩
instance zeroTy70 : ZeroTy Try.prog 70 (.nilFunc) := ⟨by kernel_rfl⟩
instance bytesTy70 : BytesTy Try.prog 70 8 := ⟨by kernel_rfl⟩
instance cellTy71 : CellTy Try.prog 71 := ⟨by kernel_rfl⟩
instance stoTy71 : StoTy Try.prog 71 := ⟨by kernel_rfl⟩
instance zeroTy71 : ZeroTy Try.prog 71 (.nilFunc) := ⟨by kernel_rfl⟩
instance bytesTy71 : BytesTy Try.prog 71 8 := ⟨by kernel_rfl⟩
instance cellTy72 : CellTy Try.prog 72 := ⟨by kernel_rfl⟩
instance stoTy72 : StoTy Try.prog 72 := ⟨by kernel_rfl⟩
instance zeroTy72 : ZeroTy Try.prog 72 (.nilFunc) := ⟨by kernel_rfl⟩
instance bytesTy72 : BytesTy Try.prog 72 8 := ⟨by kernel_rfl⟩
instance cellTy73 : CellTy Try.prog 73 := ⟨by kernel_rfl⟩
instance stoTy73 : StoTy Try.prog 73 := ⟨by kernel_rfl⟩
instance zeroTy73 : ZeroTy Try.prog 73 (.nilFunc) := ⟨by kernel_rfl⟩
instance bytesTy73 : BytesTy Try.prog 73 8 := ⟨by kernel_rfl⟩
instance cellTy74 : CellTy Try.prog 74 := ⟨by kernel_rfl⟩
instance stoTy74 : StoTy Try.prog 74 := ⟨by kernel_rfl⟩
instance sliceTy74 : SliceTy Try.prog 74 4 1 := ⟨by kernel_rfl⟩
instance zeroTy74 : ZeroTy Try.prog 74 (.slice none 0 0) := ⟨by kernel_rfl⟩
instance bytesTy74 : BytesTy Try.prog 74 24 := ⟨by kernel_rfl⟩
instance cellTy75 : CellTy Try.prog 75 := ⟨by kernel_rfl⟩
instance stoTy75 : StoTy Try.prog 75 := ⟨by kernel_rfl⟩
instance zeroTy75 : ZeroTy Try.prog 75 (.tuple #[.slice none 0 0, .int .i64 0]) := ⟨by kernel_rfl⟩
instance bytesTy75 : BytesTy Try.prog 75 0 := ⟨by kernel_rfl⟩
instance cellTy76 : CellTy Try.prog 76 := ⟨by kernel_rfl⟩
instance stoTy76 : StoTy Try.prog 76 := ⟨by kernel_rfl⟩
instance zeroTy76 : ZeroTy Try.prog 76 (.nilFunc) := ⟨by kernel_rfl⟩
instance bytesTy76 : BytesTy Try.prog 76 8 := ⟨by kernel_rfl⟩
instance cellTy77 : CellTy Try.prog 77 := ⟨by kernel_rfl⟩
instance stoTy77 : StoTy Try.prog 77 := ⟨by kernel_rfl⟩
instance zeroTy77 : ZeroTy Try.prog 77 (.nilFunc) := ⟨by kernel_rfl⟩
instance bytesTy77 : BytesTy Try.prog 77 8 := ⟨by kernel_rfl⟩
instance cellTy78 : CellTy Try.prog 78 := ⟨by kernel_rfl⟩
instance stoTy78 : StoTy Try.prog 78 := ⟨by kernel_rfl⟩
instance zeroTy78 : ZeroTy Try.prog 78 (.nilFunc) := ⟨by kernel_rfl⟩
instance bytesTy78 : BytesTy Try.prog 78 8 := ⟨by kernel_rfl⟩
instance cellTy79 : CellTy Try.prog 79 := ⟨by kernel_rfl⟩
instance stoTy79 : StoTy Try.prog 79 := ⟨by kernel_rfl⟩
instance zeroTy79 : ZeroTy Try.prog 79 (.nilFunc) := ⟨by kernel_rfl⟩
instance bytesTy79 : BytesTy Try.prog 79 8 := ⟨by kernel_rfl⟩
instance cellTy80 : CellTy Try.prog 80 := ⟨by kernel_rfl⟩
instance stoTy80 : StoTy Try.prog 80 := ⟨by kernel_rfl⟩
instance zeroTy80 : ZeroTy Try.prog 80 (.nilFunc) := ⟨by kernel_rfl⟩
instance bytesTy80 : BytesTy Try.prog 80 8 := ⟨by kernel_rfl⟩
instance cellTy81 : CellTy Try.prog 81 := ⟨by kernel_rfl⟩
instance stoTy81 : StoTy Try.prog 81 := ⟨by kernel_rfl⟩
instance zeroTy81 : ZeroTy Try.prog 81 (.nilFunc) := ⟨by kernel_rfl⟩
instance bytesTy81 : BytesTy Try.prog 81 8 := ⟨by kernel_rfl⟩
instance cellTy82 : CellTy Try.prog 82 := ⟨by kernel_rfl⟩
instance stoTy82 : StoTy Try.prog 82 := ⟨by kernel_rfl⟩
instance zeroTy82 : ZeroTy Try.prog 82 (.nilFunc) := ⟨by kernel_rfl⟩
instance bytesTy82 : BytesTy Try.prog 82 8 := ⟨by kernel_rfl⟩
instance aggTy83 : AggTy Try.prog 83 2 := ⟨by kernel_rfl⟩
instance fldTy83_0 : FldTy Try.prog 83 0 3 0 := ⟨by kernel_rfl⟩
instance fldTy83_1 : FldTy Try.prog 83 1 3 1 := ⟨by kernel_rfl⟩
instance zeroTy83 : ZeroTy Try.prog 83 (.agg #[.int .i64 0, .int .i64 0]) := ⟨by kernel_rfl⟩
instance bytesTy83 : BytesTy Try.prog 83 16 := ⟨by kernel_rfl⟩
instance aggTy84 : AggTy Try.prog 84 2 := ⟨by kernel_rfl⟩
instance fldTy84_0 : FldTy Try.prog 84 0 3 0 := ⟨by kernel_rfl⟩
instance fldTy84_1 : FldTy Try.prog 84 1 3 1 := ⟨by kernel_rfl⟩
instance zeroTy84 : ZeroTy Try.prog 84 (.agg #[.int .i64 0, .int .i64 0]) := ⟨by kernel_rfl⟩
instance bytesTy84 : BytesTy Try.prog 84 16 := ⟨by kernel_rfl⟩
instance aggTy85 : AggTy Try.prog 85 4 := ⟨by kernel_rfl⟩
instance arrTy85 : ArrTy Try.prog 85 2 84 2 := ⟨by kernel_rfl⟩
instance zeroTy85 : ZeroTy Try.prog 85 (.agg #[.int .i64 0, .int .i64 0, .int .i64 0, .int .i64 0]) := ⟨by kernel_rfl⟩
instance bytesTy85 : BytesTy Try.prog 85 32 := ⟨by kernel_rfl⟩
instance aggTy86 : AggTy Try.prog 86 12 := ⟨by kernel_rfl⟩
instance fldTy86_0 : FldTy Try.prog 86 0 9 0 := ⟨by kernel_rfl⟩
instance fldTy86_1 : FldTy Try.prog 86 1 3 1 := ⟨by kernel_rfl⟩
instance fldTy86_2 : FldTy Try.prog 86 2 3 2 := ⟨by kernel_rfl⟩
instance fldTy86_3 : FldTy Try.prog 86 3 3 3 := ⟨by kernel_rfl⟩
instance fldTy86_4 : FldTy Try.prog 86 4 3 4 := ⟨by kernel_rfl⟩
instance fldTy86_5 : FldTy Try.prog 86 5 3 5 := ⟨by kernel_rfl⟩
instance fldTy86_6 : FldTy Try.prog 86 6 56 6 := ⟨by kernel_rfl⟩
instance fldTy86_7 : FldTy Try.prog 86 7 85 8 := ⟨by kernel_rfl⟩
instance zeroTy86 : ZeroTy Try.prog 86 (.agg #[.string ⟨#[]⟩, .int .i64 0, .int .i64 0, .int .i64 0, .int .i64 0, .int .i64 0, .int .i64 0, .int .i64 0, .int .i64 0, .int .i64 0, .int .i64 0, .int .i64 0]) := ⟨by kernel_rfl⟩
instance bytesTy86 : BytesTy Try.prog 86 104 := ⟨by kernel_rfl⟩
instance aggTy87 : AggTy Try.prog 87 12 := ⟨by kernel_rfl⟩
instance fldTy87_0 : FldTy Try.prog 87 0 9 0 := ⟨by kernel_rfl⟩
instance fldTy87_1 : FldTy Try.prog 87 1 3 1 := ⟨by kernel_rfl⟩
instance fldTy87_2 : FldTy Try.prog 87 2 3 2 := ⟨by kernel_rfl⟩
instance fldTy87_3 : FldTy Try.prog 87 3 3 3 := ⟨by kernel_rfl⟩
instance fldTy87_4 : FldTy Try.prog 87 4 3 4 := ⟨by kernel_rfl⟩
instance fldTy87_5 : FldTy Try.prog 87 5 3 5 := ⟨by kernel_rfl⟩
instance fldTy87_6 : FldTy Try.prog 87 6 56 6 := ⟨by kernel_rfl⟩
instance fldTy87_7 : FldTy Try.prog 87 7 85 8 := ⟨by kernel_rfl⟩
instance zeroTy87 : ZeroTy Try.prog 87 (.agg #[.string ⟨#[]⟩, .int .i64 0, .int .i64 0, .int .i64 0, .int .i64 0, .int .i64 0, .int .i64 0, .int .i64 0, .int .i64 0, .int .i64 0, .int .i64 0, .int .i64 0]) := ⟨by kernel_rfl⟩
instance bytesTy87 : BytesTy Try.prog 87 104 := ⟨by kernel_rfl⟩
instance aggTy88 : AggTy Try.prog 88 4 := ⟨by kernel_rfl⟩
instance fldTy88_0 : FldTy Try.prog 88 0 9 0 := ⟨by kernel_rfl⟩
instance fldTy88_1 : FldTy Try.prog 88 1 3 1 := ⟨by kernel_rfl⟩
instance fldTy88_2 : FldTy Try.prog 88 2 3 2 := ⟨by kernel_rfl⟩
instance fldTy88_3 : FldTy Try.prog 88 3 3 3 := ⟨by kernel_rfl⟩
instance zeroTy88 : ZeroTy Try.prog 88 (.agg #[.string ⟨#[]⟩, .int .i64 0, .int .i64 0, .int .i64 0]) := ⟨by kernel_rfl⟩
instance bytesTy88 : BytesTy Try.prog 88 40 := ⟨by kernel_rfl⟩
instance aggTy89 : AggTy Try.prog 89 4 := ⟨by kernel_rfl⟩
instance fldTy89_0 : FldTy Try.prog 89 0 9 0 := ⟨by kernel_rfl⟩
instance fldTy89_1 : FldTy Try.prog 89 1 3 1 := ⟨by kernel_rfl⟩
instance fldTy89_2 : FldTy Try.prog 89 2 3 2 := ⟨by kernel_rfl⟩
instance fldTy89_3 : FldTy Try.prog 89 3 3 3 := ⟨by kernel_rfl⟩
instance zeroTy89 : ZeroTy Try.prog 89 (.agg #[.string ⟨#[]⟩, .int .i64 0, .int .i64 0, .int .i64 0]) := ⟨by kernel_rfl⟩
instance bytesTy89 : BytesTy Try.prog 89 40 := ⟨by kernel_rfl⟩
instance cellTy90 : CellTy Try.prog 90 := ⟨by kernel_rfl⟩
instance stoTy90 : StoTy Try.prog 90 := ⟨by kernel_rfl⟩
instance zeroTy90 : ZeroTy Try.prog 90 (.nilFunc) := ⟨by kernel_rfl⟩
instance bytesTy90 : BytesTy Try.prog 90 8 := ⟨by kernel_rfl⟩
instance aggTy91 : AggTy Try.prog 91 3 := ⟨by kernel_rfl⟩
instance fldTy91_0 : FldTy Try.prog 91 0 3 0 := ⟨by kernel_rfl⟩
instance fldTy91_1 : FldTy Try.prog 91 1 3 1 := ⟨by kernel_rfl⟩
instance fldTy91_2 : FldTy Try.prog 91 2 3 2 := ⟨by kernel_rfl⟩
instance zeroTy91 : ZeroTy Try.prog 91 (.agg #[.int .i64 0, .int .i64 0, .int .i64 0]) := ⟨by kernel_rfl⟩
instance bytesTy91 : BytesTy Try.prog 91 24 := ⟨by kernel_rfl⟩
instance aggTy92 : AggTy Try.prog 92 3 := ⟨by kernel_rfl⟩
instance fldTy92_0 : FldTy Try.prog 92 0 3 0 := ⟨by kernel_rfl⟩
instance fldTy92_1 : FldTy Try.prog 92 1 3 1 := ⟨by kernel_rfl⟩
instance fldTy92_2 : FldTy Try.prog 92 2 3 2 := ⟨by kernel_rfl⟩
instance zeroTy92 : ZeroTy Try.prog 92 (.agg #[.int .i64 0, .int .i64 0, .int .i64 0]) := ⟨by kernel_rfl⟩
instance bytesTy92 : BytesTy Try.prog 92 24 := ⟨by kernel_rfl⟩
instance cellTy93 : CellTy Try.prog 93 := ⟨by kernel_rfl⟩
instance stoTy93 : StoTy Try.prog 93 := ⟨by kernel_rfl⟩
instance zeroTy93 : ZeroTy Try.prog 93 (.nilFunc) := ⟨by kernel_rfl⟩
instance bytesTy93 : BytesTy Try.prog 93 8 := ⟨by kernel_rfl⟩
instance cellTy94 : CellTy Try.prog 94 := ⟨by kernel_rfl⟩
instance stoTy94 : StoTy Try.prog 94 := ⟨by kernel_rfl⟩
instance zeroTy94 : ZeroTy Try.prog 94 (.nilFunc) := ⟨by kernel_rfl⟩
instance bytesTy94 : BytesTy Try.prog 94 8 := ⟨by kernel_rfl⟩
instance cellTy95 : CellTy Try.prog 95 := ⟨by kernel_rfl⟩
instance stoTy95 : StoTy Try.prog 95 := ⟨by kernel_rfl⟩
instance zeroTy95 : ZeroTy Try.prog 95 (.nilFunc) := ⟨by kernel_rfl⟩
instance bytesTy95 : BytesTy Try.prog 95 8 := ⟨by kernel_rfl⟩
instance cellTy96 : CellTy Try.prog 96 := ⟨by kernel_rfl⟩
instance stoTy96 : StoTy Try.prog 96 := ⟨by kernel_rfl⟩
instance zeroTy96 : ZeroTy Try.prog 96 (.nilFunc) := ⟨by kernel_rfl⟩
instance bytesTy96 : BytesTy Try.prog 96 8 := ⟨by kernel_rfl⟩
instance aggTy97 : AggTy Try.prog 97 2 := ⟨by kernel_rfl⟩
instance fldTy97_0 : FldTy Try.prog 97 0 3 0 := ⟨by kernel_rfl⟩
instance fldTy97_1 : FldTy Try.prog 97 1 3 1 := ⟨by kernel_rfl⟩
instance zeroTy97 : ZeroTy Try.prog 97 (.agg #[.int .i64 0, .int .i64 0]) := ⟨by kernel_rfl⟩
instance bytesTy97 : BytesTy Try.prog 97 16 := ⟨by kernel_rfl⟩
instance aggTy98 : AggTy Try.prog 98 2 := ⟨by kernel_rfl⟩
instance fldTy98_0 : FldTy Try.prog 98 0 3 0 := ⟨by kernel_rfl⟩
instance fldTy98_1 : FldTy Try.prog 98 1 3 1 := ⟨by kernel_rfl⟩
instance zeroTy98 : ZeroTy Try.prog 98 (.agg #[.int .i64 0, .int .i64 0]) := ⟨by kernel_rfl⟩
instance bytesTy98 : BytesTy Try.prog 98 16 := ⟨by kernel_rfl⟩
instance cellTy99 : CellTy Try.prog 99 := ⟨by kernel_rfl⟩
instance stoTy99 : StoTy Try.prog 99 := ⟨by kernel_rfl⟩
instance zeroTy99 : ZeroTy Try.prog 99 (.nilFunc) := ⟨by kernel_rfl⟩
instance bytesTy99 : BytesTy Try.prog 99 8 := ⟨by kernel_rfl⟩
instance aggTy100 : AggTy Try.prog 100 5 := ⟨by kernel_rfl⟩
instance fldTy100_0 : FldTy Try.prog 100 0 36 0 := ⟨by kernel_rfl⟩
instance fldTy100_1 : FldTy Try.prog 100 1 36 1 := ⟨by kernel_rfl⟩
instance fldTy100_2 : FldTy Try.prog 100 2 36 2 := ⟨by kernel_rfl⟩
instance fldTy100_3 : FldTy Try.prog 100 3 36 3 := ⟨by kernel_rfl⟩
instance fldTy100_4 : FldTy Try.prog 100 4 36 4 := ⟨by kernel_rfl⟩
instance zeroTy100 : ZeroTy Try.prog 100 (.agg #[.slice none 0 0, .slice none 0 0, .slice none 0 0, .slice none 0 0, .slice none 0 0]) := ⟨by kernel_rfl⟩
instance bytesTy100 : BytesTy Try.prog 100 120 := ⟨by kernel_rfl⟩
instance aggTy101 : AggTy Try.prog 101 5 := ⟨by kernel_rfl⟩
instance fldTy101_0 : FldTy Try.prog 101 0 36 0 := ⟨by kernel_rfl⟩
instance fldTy101_1 : FldTy Try.prog 101 1 36 1 := ⟨by kernel_rfl⟩
instance fldTy101_2 : FldTy Try.prog 101 2 36 2 := ⟨by kernel_rfl⟩
instance fldTy101_3 : FldTy Try.prog 101 3 36 3 := ⟨by kernel_rfl⟩
instance fldTy101_4 : FldTy Try.prog 101 4 36 4 := ⟨by kernel_rfl⟩
instance zeroTy101 : ZeroTy Try.prog 101 (.agg #[.slice none 0 0, .slice none 0 0, .slice none 0 0, .slice none 0 0, .slice none 0 0]) := ⟨by kernel_rfl⟩
instance bytesTy101 : BytesTy Try.prog 101 120 := ⟨by kernel_rfl⟩
instance aggTy102 : AggTy Try.prog 102 23 := ⟨by kernel_rfl⟩
instance fldTy102_0 : FldTy Try.prog 102 0 64 0 := ⟨by kernel_rfl⟩
instance fldTy102_1 : FldTy Try.prog 102 1 52 13 := ⟨by kernel_rfl⟩
instance fldTy102_2 : FldTy Try.prog 102 2 50 17 := ⟨by kernel_rfl⟩
instance fldTy102_3 : FldTy Try.prog 102 3 101 18 := ⟨by kernel_rfl⟩
instance zeroTy102 : ZeroTy Try.prog 102 (.agg #[.string ⟨#[]⟩, .int .i64 0, .int .i64 0, .int .i64 0, .slice none 0 0, .slice none 0 0, .slice none 0 0, .slice none 0 0, .slice none 0 0, .slice none 0 0, .slice none 0 0, .slice none 0 0, .map none, .int .i64 0, .slice none 0 0, .slice none 0 0, .slice none 0 0, .slice none 0 0, .slice none 0 0, .slice none 0 0, .slice none 0 0, .slice none 0 0, .slice none 0 0]) := ⟨by kernel_rfl⟩
instance bytesTy102 : BytesTy Try.prog 102 464 := ⟨by kernel_rfl⟩
instance aggTy103 : AggTy Try.prog 103 23 := ⟨by kernel_rfl⟩
instance fldTy103_0 : FldTy Try.prog 103 0 64 0 := ⟨by kernel_rfl⟩
instance fldTy103_1 : FldTy Try.prog 103 1 52 13 := ⟨by kernel_rfl⟩
instance fldTy103_2 : FldTy Try.prog 103 2 50 17 := ⟨by kernel_rfl⟩
instance fldTy103_3 : FldTy Try.prog 103 3 101 18 := ⟨by kernel_rfl⟩
instance zeroTy103 : ZeroTy Try.prog 103 (.agg #[.string ⟨#[]⟩, .int .i64 0, .int .i64 0, .int .i64 0, .slice none 0 0, .slice none 0 0, .slice none 0 0, .slice none 0 0, .slice none 0 0, .slice none 0 0, .slice none 0 0, .slice none 0 0, .map none, .int .i64 0, .slice none 0 0, .slice none 0 0, .slice none 0 0, .slice none 0 0, .slice none 0 0, .slice none 0 0, .slice none 0 0, .slice none 0 0, .slice none 0 0]) := ⟨by kernel_rfl⟩
instance bytesTy103 : BytesTy Try.prog 103 464 := ⟨by kernel_rfl⟩
instance cellTy104 : CellTy Try.prog 104 := ⟨by kernel_rfl⟩
instance stoTy104 : StoTy Try.prog 104 := ⟨by kernel_rfl⟩
instance zeroTy104 : ZeroTy Try.prog 104 (.nilFunc) := ⟨by kernel_rfl⟩
instance bytesTy104 : BytesTy Try.prog 104 8 := ⟨by kernel_rfl⟩
instance cellTy105 : CellTy Try.prog 105 := ⟨by kernel_rfl⟩
instance stoTy105 : StoTy Try.prog 105 := ⟨by kernel_rfl⟩
instance zeroTy105 : ZeroTy Try.prog 105 (.nilFunc) := ⟨by kernel_rfl⟩
instance bytesTy105 : BytesTy Try.prog 105 8 := ⟨by kernel_rfl⟩
instance cellTy106 : CellTy Try.prog 106 := ⟨by kernel_rfl⟩
instance stoTy106 : StoTy Try.prog 106 := ⟨by kernel_rfl⟩
instance zeroTy106 : ZeroTy Try.prog 106 (.nilFunc) := ⟨by kernel_rfl⟩
instance bytesTy106 : BytesTy Try.prog 106 8 := ⟨by kernel_rfl⟩
instance cellTy107 : CellTy Try.prog 107 := ⟨by kernel_rfl⟩
instance stoTy107 : StoTy Try.prog 107 := ⟨by kernel_rfl⟩
instance zeroTy107 : ZeroTy Try.prog 107 (.nilFunc) := ⟨by kernel_rfl⟩
instance bytesTy107 : BytesTy Try.prog 107 8 := ⟨by kernel_rfl⟩
instance cellTy108 : CellTy Try.prog 108 := ⟨by kernel_rfl⟩
instance stoTy108 : StoTy Try.prog 108 := ⟨by kernel_rfl⟩
instance zeroTy108 : ZeroTy Try.prog 108 (.tuple #[.int .i64 0, .bool false, .int .i64 0]) := ⟨by kernel_rfl⟩
instance bytesTy108 : BytesTy Try.prog 108 0 := ⟨by kernel_rfl⟩
instance cellTy109 : CellTy Try.prog 109 := ⟨by kernel_rfl⟩
instance stoTy109 : StoTy Try.prog 109 := ⟨by kernel_rfl⟩
instance zeroTy109 : ZeroTy Try.prog 109 (.nilFunc) := ⟨by kernel_rfl⟩
instance bytesTy109 : BytesTy Try.prog 109 8 := ⟨by kernel_rfl⟩
instance cellTy110 : CellTy Try.prog 110 := ⟨by kernel_rfl⟩
instance stoTy110 : StoTy Try.prog 110 := ⟨by kernel_rfl⟩
instance zeroTy110 : ZeroTy Try.prog 110 (.tuple #[.int .i64 0, .int .i64 0]) := ⟨by kernel_rfl⟩
instance bytesTy110 : BytesTy Try.prog 110 0 := ⟨by kernel_rfl⟩
instance cellTy111 : CellTy Try.prog 111 := ⟨by kernel_rfl⟩
instance stoTy111 : StoTy Try.prog 111 := ⟨by kernel_rfl⟩
instance zeroTy111 : ZeroTy Try.prog 111 (.nilFunc) := ⟨by kernel_rfl⟩
instance bytesTy111 : BytesTy Try.prog 111 8 := ⟨by kernel_rfl⟩
instance cellTy112 : CellTy Try.prog 112 := ⟨by kernel_rfl⟩
instance stoTy112 : StoTy Try.prog 112 := ⟨by kernel_rfl⟩
instance zeroTy112 : ZeroTy Try.prog 112 (.nilFunc) := ⟨by kernel_rfl⟩
instance bytesTy112 : BytesTy Try.prog 112 8 := ⟨by kernel_rfl⟩
instance cellTy113 : CellTy Try.prog 113 := ⟨by kernel_rfl⟩
instance stoTy113 : StoTy Try.prog 113 := ⟨by kernel_rfl⟩
instance mapTy113 : MapTy Try.prog 113 3 3 := ⟨by kernel_rfl⟩
instance zeroTy113 : ZeroTy Try.prog 113 (.map none) := ⟨by kernel_rfl⟩
instance bytesTy113 : BytesTy Try.prog 113 8 := ⟨by kernel_rfl⟩
instance cellTy114 : CellTy Try.prog 114 := ⟨by kernel_rfl⟩
instance stoTy114 : StoTy Try.prog 114 := ⟨by kernel_rfl⟩
instance zeroTy114 : ZeroTy Try.prog 114 (.nilFunc) := ⟨by kernel_rfl⟩
instance bytesTy114 : BytesTy Try.prog 114 8 := ⟨by kernel_rfl⟩
instance cellTy115 : CellTy Try.prog 115 := ⟨by kernel_rfl⟩
instance stoTy115 : StoTy Try.prog 115 := ⟨by kernel_rfl⟩
instance zeroTy115 : ZeroTy Try.prog 115 (.nilFunc) := ⟨by kernel_rfl⟩
instance bytesTy115 : BytesTy Try.prog 115 8 := ⟨by kernel_rfl⟩
instance cellTy116 : CellTy Try.prog 116 := ⟨by kernel_rfl⟩
instance stoTy116 : StoTy Try.prog 116 := ⟨by kernel_rfl⟩
instance zeroTy116 : ZeroTy Try.prog 116 (.nilFunc) := ⟨by kernel_rfl⟩
instance bytesTy116 : BytesTy Try.prog 116 8 := ⟨by kernel_rfl⟩
instance cellTy117 : CellTy Try.prog 117 := ⟨by kernel_rfl⟩
instance stoTy117 : StoTy Try.prog 117 := ⟨by kernel_rfl⟩
instance zeroTy117 : ZeroTy Try.prog 117 (.nilFunc) := ⟨by kernel_rfl⟩
instance bytesTy117 : BytesTy Try.prog 117 8 := ⟨by kernel_rfl⟩
instance cellTy118 : CellTy Try.prog 118 := ⟨by kernel_rfl⟩
instance stoTy118 : StoTy Try.prog 118 := ⟨by kernel_rfl⟩
instance intTy118 : IntTy Try.prog 118 .u64 := ⟨by kernel_rfl⟩
instance zeroTy118 : ZeroTy Try.prog 118 (.int .u64 0) := ⟨by kernel_rfl⟩
instance bytesTy118 : BytesTy Try.prog 118 8 := ⟨by kernel_rfl⟩
instance cellTy119 : CellTy Try.prog 119 := ⟨by kernel_rfl⟩
instance stoTy119 : StoTy Try.prog 119 := ⟨by kernel_rfl⟩
instance zeroTy119 : ZeroTy Try.prog 119 (.nilFunc) := ⟨by kernel_rfl⟩
instance bytesTy119 : BytesTy Try.prog 119 8 := ⟨by kernel_rfl⟩
instance cellTy120 : CellTy Try.prog 120 := ⟨by kernel_rfl⟩
instance stoTy120 : StoTy Try.prog 120 := ⟨by kernel_rfl⟩
instance zeroTy120 : ZeroTy Try.prog 120 (.nilFunc) := ⟨by kernel_rfl⟩
instance bytesTy120 : BytesTy Try.prog 120 8 := ⟨by kernel_rfl⟩
instance cellTy121 : CellTy Try.prog 121 := ⟨by kernel_rfl⟩
instance stoTy121 : StoTy Try.prog 121 := ⟨by kernel_rfl⟩
instance zeroTy121 : ZeroTy Try.prog 121 (.nilFunc) := ⟨by kernel_rfl⟩
instance bytesTy121 : BytesTy Try.prog 121 8 := ⟨by kernel_rfl⟩
instance cellTy122 : CellTy Try.prog 122 := ⟨by kernel_rfl⟩
instance stoTy122 : StoTy Try.prog 122 := ⟨by kernel_rfl⟩
instance zeroTy122 : ZeroTy Try.prog 122 (.nilFunc) := ⟨by kernel_rfl⟩
instance bytesTy122 : BytesTy Try.prog 122 8 := ⟨by kernel_rfl⟩
instance cellTy123 : CellTy Try.prog 123 := ⟨by kernel_rfl⟩
instance stoTy123 : StoTy Try.prog 123 := ⟨by kernel_rfl⟩
instance zeroTy123 : ZeroTy Try.prog 123 (.nilFunc) := ⟨by kernel_rfl⟩
instance bytesTy123 : BytesTy Try.prog 123 8 := ⟨by kernel_rfl⟩
instance cellTy124 : CellTy Try.prog 124 := ⟨by kernel_rfl⟩
instance stoTy124 : StoTy Try.prog 124 := ⟨by kernel_rfl⟩
instance zeroTy124 : ZeroTy Try.prog 124 (.nilFunc) := ⟨by kernel_rfl⟩
instance bytesTy124 : BytesTy Try.prog 124 8 := ⟨by kernel_rfl⟩
instance cellTy125 : CellTy Try.prog 125 := ⟨by kernel_rfl⟩
instance stoTy125 : StoTy Try.prog 125 := ⟨by kernel_rfl⟩
instance zeroTy125 : ZeroTy Try.prog 125 (.nilFunc) := ⟨by kernel_rfl⟩
instance bytesTy125 : BytesTy Try.prog 125 8 := ⟨by kernel_rfl⟩
instance cellTy126 : CellTy Try.prog 126 := ⟨by kernel_rfl⟩
instance stoTy126 : StoTy Try.prog 126 := ⟨by kernel_rfl⟩
instance zeroTy126 : ZeroTy Try.prog 126 (.nilFunc) := ⟨by kernel_rfl⟩
instance bytesTy126 : BytesTy Try.prog 126 8 := ⟨by kernel_rfl⟩
instance cellTy127 : CellTy Try.prog 127 := ⟨by kernel_rfl⟩
instance stoTy127 : StoTy Try.prog 127 := ⟨by kernel_rfl⟩
instance zeroTy127 : ZeroTy Try.prog 127 (.pointer none) := ⟨by kernel_rfl⟩
instance bytesTy127 : BytesTy Try.prog 127 8 := ⟨by kernel_rfl⟩
instance aggTy128 : AggTy Try.prog 128 3 := ⟨by kernel_rfl⟩
instance fldTy128_0 : FldTy Try.prog 128 0 56 0 := ⟨by kernel_rfl⟩
instance fldTy128_1 : FldTy Try.prog 128 1 127 2 := ⟨by kernel_rfl⟩
instance zeroTy128 : ZeroTy Try.prog 128 (.agg #[.int .i64 0, .int .i64 0, .pointer none]) := ⟨by kernel_rfl⟩
instance bytesTy128 : BytesTy Try.prog 128 24 := ⟨by kernel_rfl⟩
instance aggTy129 : AggTy Try.prog 129 3 := ⟨by kernel_rfl⟩
instance fldTy129_0 : FldTy Try.prog 129 0 56 0 := ⟨by kernel_rfl⟩
instance fldTy129_1 : FldTy Try.prog 129 1 127 2 := ⟨by kernel_rfl⟩
instance zeroTy129 : ZeroTy Try.prog 129 (.agg #[.int .i64 0, .int .i64 0, .pointer none]) := ⟨by kernel_rfl⟩
instance bytesTy129 : BytesTy Try.prog 129 24 := ⟨by kernel_rfl⟩
instance cellTy130 : CellTy Try.prog 130 := ⟨by kernel_rfl⟩
instance stoTy130 : StoTy Try.prog 130 := ⟨by kernel_rfl⟩
instance zeroTy130 : ZeroTy Try.prog 130 (.nilFunc) := ⟨by kernel_rfl⟩
instance bytesTy130 : BytesTy Try.prog 130 8 := ⟨by kernel_rfl⟩
instance cellTy131 : CellTy Try.prog 131 := ⟨by kernel_rfl⟩
instance stoTy131 : StoTy Try.prog 131 := ⟨by kernel_rfl⟩
instance zeroTy131 : ZeroTy Try.prog 131 (.nilFunc) := ⟨by kernel_rfl⟩
instance bytesTy131 : BytesTy Try.prog 131 8 := ⟨by kernel_rfl⟩
instance cellTy132 : CellTy Try.prog 132 := ⟨by kernel_rfl⟩
instance stoTy132 : StoTy Try.prog 132 := ⟨by kernel_rfl⟩
instance zeroTy132 : ZeroTy Try.prog 132 (.nilFunc) := ⟨by kernel_rfl⟩
instance bytesTy132 : BytesTy Try.prog 132 8 := ⟨by kernel_rfl⟩
instance cellTy133 : CellTy Try.prog 133 := ⟨by kernel_rfl⟩
instance stoTy133 : StoTy Try.prog 133 := ⟨by kernel_rfl⟩
instance zeroTy133 : ZeroTy Try.prog 133 (.nilFunc) := ⟨by kernel_rfl⟩
instance bytesTy133 : BytesTy Try.prog 133 8 := ⟨by kernel_rfl⟩
instance cellTy134 : CellTy Try.prog 134 := ⟨by kernel_rfl⟩
instance stoTy134 : StoTy Try.prog 134 := ⟨by kernel_rfl⟩
instance zeroTy134 : ZeroTy Try.prog 134 (.tuple #[.int .i64 0, .bool false]) := ⟨by kernel_rfl⟩
instance bytesTy134 : BytesTy Try.prog 134 0 := ⟨by kernel_rfl⟩
instance cellTy135 : CellTy Try.prog 135 := ⟨by kernel_rfl⟩
instance stoTy135 : StoTy Try.prog 135 := ⟨by kernel_rfl⟩
instance zeroTy135 : ZeroTy Try.prog 135 (.nilFunc) := ⟨by kernel_rfl⟩
instance bytesTy135 : BytesTy Try.prog 135 8 := ⟨by kernel_rfl⟩
instance cellTy136 : CellTy Try.prog 136 := ⟨by kernel_rfl⟩
instance stoTy136 : StoTy Try.prog 136 := ⟨by kernel_rfl⟩
instance intTy136 : IntTy Try.prog 136 .i64 := ⟨by kernel_rfl⟩
instance zeroTy136 : ZeroTy Try.prog 136 (.int .i64 0) := ⟨by kernel_rfl⟩
instance bytesTy136 : BytesTy Try.prog 136 8 := ⟨by kernel_rfl⟩
instance cellTy137 : CellTy Try.prog 137 := ⟨by kernel_rfl⟩
instance stoTy137 : StoTy Try.prog 137 := ⟨by kernel_rfl⟩
instance zeroTy137 : ZeroTy Try.prog 137 (.tuple #[.int .i64 0, .int .i64 0]) := ⟨by kernel_rfl⟩
instance bytesTy137 : BytesTy Try.prog 137 0 := ⟨by kernel_rfl⟩
instance cellTy138 : CellTy Try.prog 138 := ⟨by kernel_rfl⟩
instance stoTy138 : StoTy Try.prog 138 := ⟨by kernel_rfl⟩
instance zeroTy138 : ZeroTy Try.prog 138 (.nilFunc) := ⟨by kernel_rfl⟩
instance bytesTy138 : BytesTy Try.prog 138 8 := ⟨by kernel_rfl⟩
instance cellTy139 : CellTy Try.prog 139 := ⟨by kernel_rfl⟩
instance stoTy139 : StoTy Try.prog 139 := ⟨by kernel_rfl⟩
instance zeroTy139 : ZeroTy Try.prog 139 (.nilFunc) := ⟨by kernel_rfl⟩
instance bytesTy139 : BytesTy Try.prog 139 8 := ⟨by kernel_rfl⟩
instance cellTy140 : CellTy Try.prog 140 := ⟨by kernel_rfl⟩
instance stoTy140 : StoTy Try.prog 140 := ⟨by kernel_rfl⟩
instance zeroTy140 : ZeroTy Try.prog 140 (.nilFunc) := ⟨by kernel_rfl⟩
instance bytesTy140 : BytesTy Try.prog 140 8 := ⟨by kernel_rfl⟩
instance cellTy141 : CellTy Try.prog 141 := ⟨by kernel_rfl⟩
instance stoTy141 : StoTy Try.prog 141 := ⟨by kernel_rfl⟩
instance zeroTy141 : ZeroTy Try.prog 141 (.nilFunc) := ⟨by kernel_rfl⟩
instance bytesTy141 : BytesTy Try.prog 141 8 := ⟨by kernel_rfl⟩
instance cellTy142 : CellTy Try.prog 142 := ⟨by kernel_rfl⟩
instance stoTy142 : StoTy Try.prog 142 := ⟨by kernel_rfl⟩
instance zeroTy142 : ZeroTy Try.prog 142 (.nilFunc) := ⟨by kernel_rfl⟩
instance bytesTy142 : BytesTy Try.prog 142 8 := ⟨by kernel_rfl⟩
instance cellTy143 : CellTy Try.prog 143 := ⟨by kernel_rfl⟩
instance stoTy143 : StoTy Try.prog 143 := ⟨by kernel_rfl⟩
instance intTy143 : IntTy Try.prog 143 .u32 := ⟨by kernel_rfl⟩
instance zeroTy143 : ZeroTy Try.prog 143 (.int .u32 0) := ⟨by kernel_rfl⟩
instance bytesTy143 : BytesTy Try.prog 143 4 := ⟨by kernel_rfl⟩
instance cellTy144 : CellTy Try.prog 144 := ⟨by kernel_rfl⟩
instance stoTy144 : StoTy Try.prog 144 := ⟨by kernel_rfl⟩
instance zeroTy144 : ZeroTy Try.prog 144 (.nilFunc) := ⟨by kernel_rfl⟩
instance bytesTy144 : BytesTy Try.prog 144 8 := ⟨by kernel_rfl⟩
instance cellTy145 : CellTy Try.prog 145 := ⟨by kernel_rfl⟩
instance stoTy145 : StoTy Try.prog 145 := ⟨by kernel_rfl⟩
instance intTy145 : IntTy Try.prog 145 .u64 := ⟨by kernel_rfl⟩
instance zeroTy145 : ZeroTy Try.prog 145 (.int .u64 0) := ⟨by kernel_rfl⟩
instance bytesTy145 : BytesTy Try.prog 145 8 := ⟨by kernel_rfl⟩
instance cellTy146 : CellTy Try.prog 146 := ⟨by kernel_rfl⟩
instance stoTy146 : StoTy Try.prog 146 := ⟨by kernel_rfl⟩
instance zeroTy146 : ZeroTy Try.prog 146 (.nilFunc) := ⟨by kernel_rfl⟩
instance bytesTy146 : BytesTy Try.prog 146 8 := ⟨by kernel_rfl⟩
instance cellTy147 : CellTy Try.prog 147 := ⟨by kernel_rfl⟩
instance stoTy147 : StoTy Try.prog 147 := ⟨by kernel_rfl⟩
instance zeroTy147 : ZeroTy Try.prog 147 (.nilFunc) := ⟨by kernel_rfl⟩
instance bytesTy147 : BytesTy Try.prog 147 8 := ⟨by kernel_rfl⟩
instance cellTy148 : CellTy Try.prog 148 := ⟨by kernel_rfl⟩
instance stoTy148 : StoTy Try.prog 148 := ⟨by kernel_rfl⟩
instance zeroTy148 : ZeroTy Try.prog 148 (.nilFunc) := ⟨by kernel_rfl⟩
instance bytesTy148 : BytesTy Try.prog 148 8 := ⟨by kernel_rfl⟩
instance cellTy149 : CellTy Try.prog 149 := ⟨by kernel_rfl⟩
instance stoTy149 : StoTy Try.prog 149 := ⟨by kernel_rfl⟩
instance zeroTy149 : ZeroTy Try.prog 149 (.nilFunc) := ⟨by kernel_rfl⟩
instance bytesTy149 : BytesTy Try.prog 149 8 := ⟨by kernel_rfl⟩
instance cellTy150 : CellTy Try.prog 150 := ⟨by kernel_rfl⟩
instance stoTy150 : StoTy Try.prog 150 := ⟨by kernel_rfl⟩
instance zeroTy150 : ZeroTy Try.prog 150 (.nilFunc) := ⟨by kernel_rfl⟩
instance bytesTy150 : BytesTy Try.prog 150 8 := ⟨by kernel_rfl⟩
instance cellTy151 : CellTy Try.prog 151 := ⟨by kernel_rfl⟩
instance stoTy151 : StoTy Try.prog 151 := ⟨by kernel_rfl⟩
instance zeroTy151 : ZeroTy Try.prog 151 (.nilFunc) := ⟨by kernel_rfl⟩
instance bytesTy151 : BytesTy Try.prog 151 8 := ⟨by kernel_rfl⟩
instance cellTy152 : CellTy Try.prog 152 := ⟨by kernel_rfl⟩
instance stoTy152 : StoTy Try.prog 152 := ⟨by kernel_rfl⟩
instance zeroTy152 : ZeroTy Try.prog 152 (.nilFunc) := ⟨by kernel_rfl⟩
instance bytesTy152 : BytesTy Try.prog 152 8 := ⟨by kernel_rfl⟩
instance cellTy153 : CellTy Try.prog 153 := ⟨by kernel_rfl⟩
instance stoTy153 : StoTy Try.prog 153 := ⟨by kernel_rfl⟩
instance zeroTy153 : ZeroTy Try.prog 153 (.nilFunc) := ⟨by kernel_rfl⟩
instance bytesTy153 : BytesTy Try.prog 153 8 := ⟨by kernel_rfl⟩
instance cellTy154 : CellTy Try.prog 154 := ⟨by kernel_rfl⟩
instance stoTy154 : StoTy Try.prog 154 := ⟨by kernel_rfl⟩
instance zeroTy154 : ZeroTy Try.prog 154 (.nilFunc) := ⟨by kernel_rfl⟩
instance bytesTy154 : BytesTy Try.prog 154 8 := ⟨by kernel_rfl⟩
instance cellTy155 : CellTy Try.prog 155 := ⟨by kernel_rfl⟩
instance stoTy155 : StoTy Try.prog 155 := ⟨by kernel_rfl⟩
instance zeroTy155 : ZeroTy Try.prog 155 (.nilFunc) := ⟨by kernel_rfl⟩
instance bytesTy155 : BytesTy Try.prog 155 8 := ⟨by kernel_rfl⟩
instance cellTy156 : CellTy Try.prog 156 := ⟨by kernel_rfl⟩
instance stoTy156 : StoTy Try.prog 156 := ⟨by kernel_rfl⟩
instance zeroTy156 : ZeroTy Try.prog 156 (.tuple #[.int .i64 0, .int .i64 0, .int .i64 0]) := ⟨by kernel_rfl⟩
instance bytesTy156 : BytesTy Try.prog 156 0 := ⟨by kernel_rfl⟩
instance cellTy157 : CellTy Try.prog 157 := ⟨by kernel_rfl⟩
instance stoTy157 : StoTy Try.prog 157 := ⟨by kernel_rfl⟩
instance zeroTy157 : ZeroTy Try.prog 157 (.nilFunc) := ⟨by kernel_rfl⟩
instance bytesTy157 : BytesTy Try.prog 157 8 := ⟨by kernel_rfl⟩
instance cellTy158 : CellTy Try.prog 158 := ⟨by kernel_rfl⟩
instance stoTy158 : StoTy Try.prog 158 := ⟨by kernel_rfl⟩
instance intTy158 : IntTy Try.prog 158 .u64 := ⟨by kernel_rfl⟩
instance zeroTy158 : ZeroTy Try.prog 158 (.int .u64 0) := ⟨by kernel_rfl⟩
instance bytesTy158 : BytesTy Try.prog 158 8 := ⟨by kernel_rfl⟩
instance cellTy159 : CellTy Try.prog 159 := ⟨by kernel_rfl⟩
instance stoTy159 : StoTy Try.prog 159 := ⟨by kernel_rfl⟩
instance zeroTy159 : ZeroTy Try.prog 159 (.nilFunc) := ⟨by kernel_rfl⟩
instance bytesTy159 : BytesTy Try.prog 159 8 := ⟨by kernel_rfl⟩
instance cellTy160 : CellTy Try.prog 160 := ⟨by kernel_rfl⟩
instance stoTy160 : StoTy Try.prog 160 := ⟨by kernel_rfl⟩
instance zeroTy160 : ZeroTy Try.prog 160 (.nilFunc) := ⟨by kernel_rfl⟩
instance bytesTy160 : BytesTy Try.prog 160 8 := ⟨by kernel_rfl⟩
instance cellTy161 : CellTy Try.prog 161 := ⟨by kernel_rfl⟩
instance stoTy161 : StoTy Try.prog 161 := ⟨by kernel_rfl⟩
instance zeroTy161 : ZeroTy Try.prog 161 (.nilFunc) := ⟨by kernel_rfl⟩
instance bytesTy161 : BytesTy Try.prog 161 8 := ⟨by kernel_rfl⟩
instance cellTy162 : CellTy Try.prog 162 := ⟨by kernel_rfl⟩
instance stoTy162 : StoTy Try.prog 162 := ⟨by kernel_rfl⟩
instance zeroTy162 : ZeroTy Try.prog 162 (.nilFunc) := ⟨by kernel_rfl⟩
instance bytesTy162 : BytesTy Try.prog 162 8 := ⟨by kernel_rfl⟩
instance cellTy163 : CellTy Try.prog 163 := ⟨by kernel_rfl⟩
instance stoTy163 : StoTy Try.prog 163 := ⟨by kernel_rfl⟩
instance intTy163 : IntTy Try.prog 163 .i64 := ⟨by kernel_rfl⟩
instance zeroTy163 : ZeroTy Try.prog 163 (.int .i64 0) := ⟨by kernel_rfl⟩
instance bytesTy163 : BytesTy Try.prog 163 8 := ⟨by kernel_rfl⟩
instance cellTy164 : CellTy Try.prog 164 := ⟨by kernel_rfl⟩
instance stoTy164 : StoTy Try.prog 164 := ⟨by kernel_rfl⟩
instance zeroTy164 : ZeroTy Try.prog 164 (.tuple #[.int .i64 0, .bool false]) := ⟨by kernel_rfl⟩
instance bytesTy164 : BytesTy Try.prog 164 0 := ⟨by kernel_rfl⟩
instance cellTy165 : CellTy Try.prog 165 := ⟨by kernel_rfl⟩
instance stoTy165 : StoTy Try.prog 165 := ⟨by kernel_rfl⟩
instance zeroTy165 : ZeroTy Try.prog 165 (.nilFunc) := ⟨by kernel_rfl⟩
instance bytesTy165 : BytesTy Try.prog 165 8 := ⟨by kernel_rfl⟩
instance aggTy166 : AggTy Try.prog 166 2 := ⟨by kernel_rfl⟩
instance fldTy166_0 : FldTy Try.prog 166 0 9 0 := ⟨by kernel_rfl⟩
instance fldTy166_1 : FldTy Try.prog 166 1 3 1 := ⟨by kernel_rfl⟩
instance zeroTy166 : ZeroTy Try.prog 166 (.agg #[.string ⟨#[]⟩, .int .i64 0]) := ⟨by kernel_rfl⟩
instance bytesTy166 : BytesTy Try.prog 166 24 := ⟨by kernel_rfl⟩
instance aggTy167 : AggTy Try.prog 167 2 := ⟨by kernel_rfl⟩
instance fldTy167_0 : FldTy Try.prog 167 0 9 0 := ⟨by kernel_rfl⟩
instance fldTy167_1 : FldTy Try.prog 167 1 3 1 := ⟨by kernel_rfl⟩
instance zeroTy167 : ZeroTy Try.prog 167 (.agg #[.string ⟨#[]⟩, .int .i64 0]) := ⟨by kernel_rfl⟩
instance bytesTy167 : BytesTy Try.prog 167 24 := ⟨by kernel_rfl⟩
instance aggTy168 : AggTy Try.prog 168 10 := ⟨by kernel_rfl⟩
instance fldTy168_0 : FldTy Try.prog 168 0 9 0 := ⟨by kernel_rfl⟩
instance fldTy168_1 : FldTy Try.prog 168 1 3 1 := ⟨by kernel_rfl⟩
instance fldTy168_2 : FldTy Try.prog 168 2 3 2 := ⟨by kernel_rfl⟩
instance fldTy168_3 : FldTy Try.prog 168 3 3 3 := ⟨by kernel_rfl⟩
instance fldTy168_4 : FldTy Try.prog 168 4 3 4 := ⟨by kernel_rfl⟩
instance fldTy168_5 : FldTy Try.prog 168 5 3 5 := ⟨by kernel_rfl⟩
instance fldTy168_6 : FldTy Try.prog 168 6 3 6 := ⟨by kernel_rfl⟩
instance fldTy168_7 : FldTy Try.prog 168 7 3 7 := ⟨by kernel_rfl⟩
instance fldTy168_8 : FldTy Try.prog 168 8 3 8 := ⟨by kernel_rfl⟩
instance fldTy168_9 : FldTy Try.prog 168 9 3 9 := ⟨by kernel_rfl⟩
instance zeroTy168 : ZeroTy Try.prog 168 (.agg #[.string ⟨#[]⟩, .int .i64 0, .int .i64 0, .int .i64 0, .int .i64 0, .int .i64 0, .int .i64 0, .int .i64 0, .int .i64 0, .int .i64 0]) := ⟨by kernel_rfl⟩
instance bytesTy168 : BytesTy Try.prog 168 88 := ⟨by kernel_rfl⟩
instance aggTy169 : AggTy Try.prog 169 10 := ⟨by kernel_rfl⟩
instance fldTy169_0 : FldTy Try.prog 169 0 9 0 := ⟨by kernel_rfl⟩
instance fldTy169_1 : FldTy Try.prog 169 1 3 1 := ⟨by kernel_rfl⟩
instance fldTy169_2 : FldTy Try.prog 169 2 3 2 := ⟨by kernel_rfl⟩
instance fldTy169_3 : FldTy Try.prog 169 3 3 3 := ⟨by kernel_rfl⟩
instance fldTy169_4 : FldTy Try.prog 169 4 3 4 := ⟨by kernel_rfl⟩
instance fldTy169_5 : FldTy Try.prog 169 5 3 5 := ⟨by kernel_rfl⟩
instance fldTy169_6 : FldTy Try.prog 169 6 3 6 := ⟨by kernel_rfl⟩
instance fldTy169_7 : FldTy Try.prog 169 7 3 7 := ⟨by kernel_rfl⟩
instance fldTy169_8 : FldTy Try.prog 169 8 3 8 := ⟨by kernel_rfl⟩
instance fldTy169_9 : FldTy Try.prog 169 9 3 9 := ⟨by kernel_rfl⟩
instance zeroTy169 : ZeroTy Try.prog 169 (.agg #[.string ⟨#[]⟩, .int .i64 0, .int .i64 0, .int .i64 0, .int .i64 0, .int .i64 0, .int .i64 0, .int .i64 0, .int .i64 0, .int .i64 0]) := ⟨by kernel_rfl⟩
instance bytesTy169 : BytesTy Try.prog 169 88 := ⟨by kernel_rfl⟩
instance cellTy170 : CellTy Try.prog 170 := ⟨by kernel_rfl⟩
instance stoTy170 : StoTy Try.prog 170 := ⟨by kernel_rfl⟩
instance zeroTy170 : ZeroTy Try.prog 170 (.nilFunc) := ⟨by kernel_rfl⟩
instance bytesTy170 : BytesTy Try.prog 170 8 := ⟨by kernel_rfl⟩
instance aggTy171 : AggTy Try.prog 171 4 := ⟨by kernel_rfl⟩
instance fldTy171_0 : FldTy Try.prog 171 0 9 0 := ⟨by kernel_rfl⟩
instance fldTy171_1 : FldTy Try.prog 171 1 3 1 := ⟨by kernel_rfl⟩
instance fldTy171_2 : FldTy Try.prog 171 2 3 2 := ⟨by kernel_rfl⟩
instance fldTy171_3 : FldTy Try.prog 171 3 3 3 := ⟨by kernel_rfl⟩
instance zeroTy171 : ZeroTy Try.prog 171 (.agg #[.string ⟨#[]⟩, .int .i64 0, .int .i64 0, .int .i64 0]) := ⟨by kernel_rfl⟩
instance bytesTy171 : BytesTy Try.prog 171 40 := ⟨by kernel_rfl⟩
instance aggTy172 : AggTy Try.prog 172 4 := ⟨by kernel_rfl⟩
instance fldTy172_0 : FldTy Try.prog 172 0 9 0 := ⟨by kernel_rfl⟩
instance fldTy172_1 : FldTy Try.prog 172 1 3 1 := ⟨by kernel_rfl⟩
instance fldTy172_2 : FldTy Try.prog 172 2 3 2 := ⟨by kernel_rfl⟩
instance fldTy172_3 : FldTy Try.prog 172 3 3 3 := ⟨by kernel_rfl⟩
instance zeroTy172 : ZeroTy Try.prog 172 (.agg #[.string ⟨#[]⟩, .int .i64 0, .int .i64 0, .int .i64 0]) := ⟨by kernel_rfl⟩
instance bytesTy172 : BytesTy Try.prog 172 40 := ⟨by kernel_rfl⟩
instance cellTy173 : CellTy Try.prog 173 := ⟨by kernel_rfl⟩
instance stoTy173 : StoTy Try.prog 173 := ⟨by kernel_rfl⟩
instance zeroTy173 : ZeroTy Try.prog 173 (.nilFunc) := ⟨by kernel_rfl⟩
instance bytesTy173 : BytesTy Try.prog 173 8 := ⟨by kernel_rfl⟩
instance cellTy174 : CellTy Try.prog 174 := ⟨by kernel_rfl⟩
instance stoTy174 : StoTy Try.prog 174 := ⟨by kernel_rfl⟩
instance zeroTy174 : ZeroTy Try.prog 174 (.nilFunc) := ⟨by kernel_rfl⟩
instance bytesTy174 : BytesTy Try.prog 174 8 := ⟨by kernel_rfl⟩
instance cellTy175 : CellTy Try.prog 175 := ⟨by kernel_rfl⟩
instance stoTy175 : StoTy Try.prog 175 := ⟨by kernel_rfl⟩
instance zeroTy175 : ZeroTy Try.prog 175 (.nilFunc) := ⟨by kernel_rfl⟩
instance bytesTy175 : BytesTy Try.prog 175 8 := ⟨by kernel_rfl⟩
instance cellTy176 : CellTy Try.prog 176 := ⟨by kernel_rfl⟩
instance stoTy176 : StoTy Try.prog 176 := ⟨by kernel_rfl⟩
instance zeroTy176 : ZeroTy Try.prog 176 (.nilFunc) := ⟨by kernel_rfl⟩
instance bytesTy176 : BytesTy Try.prog 176 8 := ⟨by kernel_rfl⟩
instance cellTy177 : CellTy Try.prog 177 := ⟨by kernel_rfl⟩
instance stoTy177 : StoTy Try.prog 177 := ⟨by kernel_rfl⟩
instance zeroTy177 : ZeroTy Try.prog 177 (.pointer none) := ⟨by kernel_rfl⟩
instance bytesTy177 : BytesTy Try.prog 177 8 := ⟨by kernel_rfl⟩
instance cellTy178 : CellTy Try.prog 178 := ⟨by kernel_rfl⟩
instance stoTy178 : StoTy Try.prog 178 := ⟨by kernel_rfl⟩
instance zeroTy178 : ZeroTy Try.prog 178 (.tuple #[.int .i64 0, .int .i64 0]) := ⟨by kernel_rfl⟩
instance bytesTy178 : BytesTy Try.prog 178 0 := ⟨by kernel_rfl⟩
instance cellTy179 : CellTy Try.prog 179 := ⟨by kernel_rfl⟩
instance stoTy179 : StoTy Try.prog 179 := ⟨by kernel_rfl⟩
instance zeroTy179 : ZeroTy Try.prog 179 (.nilFunc) := ⟨by kernel_rfl⟩
instance bytesTy179 : BytesTy Try.prog 179 8 := ⟨by kernel_rfl⟩
instance cellTy180 : CellTy Try.prog 180 := ⟨by kernel_rfl⟩
instance stoTy180 : StoTy Try.prog 180 := ⟨by kernel_rfl⟩
instance zeroTy180 : ZeroTy Try.prog 180 (.nilFunc) := ⟨by kernel_rfl⟩
instance bytesTy180 : BytesTy Try.prog 180 8 := ⟨by kernel_rfl⟩
instance cellTy181 : CellTy Try.prog 181 := ⟨by kernel_rfl⟩
instance stoTy181 : StoTy Try.prog 181 := ⟨by kernel_rfl⟩
instance zeroTy181 : ZeroTy Try.prog 181 (.nilFunc) := ⟨by kernel_rfl⟩
instance bytesTy181 : BytesTy Try.prog 181 8 := ⟨by kernel_rfl⟩
instance cellTy182 : CellTy Try.prog 182 := ⟨by kernel_rfl⟩
instance stoTy182 : StoTy Try.prog 182 := ⟨by kernel_rfl⟩
instance zeroTy182 : ZeroTy Try.prog 182 (.nilFunc) := ⟨by kernel_rfl⟩
instance bytesTy182 : BytesTy Try.prog 182 8 := ⟨by kernel_rfl⟩
instance cellTy183 : CellTy Try.prog 183 := ⟨by kernel_rfl⟩
instance stoTy183 : StoTy Try.prog 183 := ⟨by kernel_rfl⟩
instance zeroTy183 : ZeroTy Try.prog 183 (.nilFunc) := ⟨by kernel_rfl⟩
instance bytesTy183 : BytesTy Try.prog 183 8 := ⟨by kernel_rfl⟩
instance cellTy184 : CellTy Try.prog 184 := ⟨by kernel_rfl⟩
instance stoTy184 : StoTy Try.prog 184 := ⟨by kernel_rfl⟩
instance zeroTy184 : ZeroTy Try.prog 184 (.nilFunc) := ⟨by kernel_rfl⟩
instance bytesTy184 : BytesTy Try.prog 184 8 := ⟨by kernel_rfl⟩
instance cellTy185 : CellTy Try.prog 185 := ⟨by kernel_rfl⟩
instance stoTy185 : StoTy Try.prog 185 := ⟨by kernel_rfl⟩
instance zeroTy185 : ZeroTy Try.prog 185 (.nilFunc) := ⟨by kernel_rfl⟩
instance bytesTy185 : BytesTy Try.prog 185 8 := ⟨by kernel_rfl⟩
instance aggTy186 : AggTy Try.prog 186 4 := ⟨by kernel_rfl⟩
instance fldTy186_0 : FldTy Try.prog 186 0 17 0 := ⟨by kernel_rfl⟩
instance fldTy186_1 : FldTy Try.prog 186 1 17 1 := ⟨by kernel_rfl⟩
instance fldTy186_2 : FldTy Try.prog 186 2 17 2 := ⟨by kernel_rfl⟩
instance fldTy186_3 : FldTy Try.prog 186 3 9 3 := ⟨by kernel_rfl⟩
instance zeroTy186 : ZeroTy Try.prog 186 (.agg #[.pointer none, .pointer none, .pointer none, .string ⟨#[]⟩]) := ⟨by kernel_rfl⟩
instance bytesTy186 : BytesTy Try.prog 186 40 := ⟨by kernel_rfl⟩
instance aggTy187 : AggTy Try.prog 187 4 := ⟨by kernel_rfl⟩
instance fldTy187_0 : FldTy Try.prog 187 0 17 0 := ⟨by kernel_rfl⟩
instance fldTy187_1 : FldTy Try.prog 187 1 17 1 := ⟨by kernel_rfl⟩
instance fldTy187_2 : FldTy Try.prog 187 2 17 2 := ⟨by kernel_rfl⟩
instance fldTy187_3 : FldTy Try.prog 187 3 9 3 := ⟨by kernel_rfl⟩
instance zeroTy187 : ZeroTy Try.prog 187 (.agg #[.pointer none, .pointer none, .pointer none, .string ⟨#[]⟩]) := ⟨by kernel_rfl⟩
instance bytesTy187 : BytesTy Try.prog 187 40 := ⟨by kernel_rfl⟩
instance aggTy188 : AggTy Try.prog 188 0 := ⟨by kernel_rfl⟩
instance arrTy188 : ArrTy Try.prog 188 0 16 1 := ⟨by kernel_rfl⟩
instance zeroTy188 : ZeroTy Try.prog 188 (.agg #[]) := ⟨by kernel_rfl⟩
instance bytesTy188 : BytesTy Try.prog 188 0 := ⟨by kernel_rfl⟩
instance aggTy189 : AggTy Try.prog 189 0 := ⟨by kernel_rfl⟩
instance zeroTy189 : ZeroTy Try.prog 189 (.agg #[]) := ⟨by kernel_rfl⟩
instance bytesTy189 : BytesTy Try.prog 189 0 := ⟨by kernel_rfl⟩
instance aggTy190 : AggTy Try.prog 190 0 := ⟨by kernel_rfl⟩
instance zeroTy190 : ZeroTy Try.prog 190 (.agg #[]) := ⟨by kernel_rfl⟩
instance bytesTy190 : BytesTy Try.prog 190 0 := ⟨by kernel_rfl⟩
instance cellTy191 : CellTy Try.prog 191 := ⟨by kernel_rfl⟩
instance stoTy191 : StoTy Try.prog 191 := ⟨by kernel_rfl⟩
instance zeroTy191 : ZeroTy Try.prog 191 (.nilFunc) := ⟨by kernel_rfl⟩
instance bytesTy191 : BytesTy Try.prog 191 8 := ⟨by kernel_rfl⟩
instance cellTy192 : CellTy Try.prog 192 := ⟨by kernel_rfl⟩
instance stoTy192 : StoTy Try.prog 192 := ⟨by kernel_rfl⟩
instance intTy192 : IntTy Try.prog 192 .u8 := ⟨by kernel_rfl⟩
instance zeroTy192 : ZeroTy Try.prog 192 (.int .u8 0) := ⟨by kernel_rfl⟩
instance bytesTy192 : BytesTy Try.prog 192 1 := ⟨by kernel_rfl⟩
instance cellTy193 : CellTy Try.prog 193 := ⟨by kernel_rfl⟩
instance stoTy193 : StoTy Try.prog 193 := ⟨by kernel_rfl⟩
instance intTy193 : IntTy Try.prog 193 .u8 := ⟨by kernel_rfl⟩
instance zeroTy193 : ZeroTy Try.prog 193 (.int .u8 0) := ⟨by kernel_rfl⟩
instance bytesTy193 : BytesTy Try.prog 193 1 := ⟨by kernel_rfl⟩
instance cellTy194 : CellTy Try.prog 194 := ⟨by kernel_rfl⟩
instance stoTy194 : StoTy Try.prog 194 := ⟨by kernel_rfl⟩
instance zeroTy194 : ZeroTy Try.prog 194 (.nilFunc) := ⟨by kernel_rfl⟩
instance bytesTy194 : BytesTy Try.prog 194 8 := ⟨by kernel_rfl⟩
instance cellTy195 : CellTy Try.prog 195 := ⟨by kernel_rfl⟩
instance stoTy195 : StoTy Try.prog 195 := ⟨by kernel_rfl⟩
instance zeroTy195 : ZeroTy Try.prog 195 (.pointer none) := ⟨by kernel_rfl⟩
instance bytesTy195 : BytesTy Try.prog 195 8 := ⟨by kernel_rfl⟩
instance cellTy196 : CellTy Try.prog 196 := ⟨by kernel_rfl⟩
instance stoTy196 : StoTy Try.prog 196 := ⟨by kernel_rfl⟩
instance intTy196 : IntTy Try.prog 196 .i32 := ⟨by kernel_rfl⟩
instance zeroTy196 : ZeroTy Try.prog 196 (.int .i32 0) := ⟨by kernel_rfl⟩
instance bytesTy196 : BytesTy Try.prog 196 4 := ⟨by kernel_rfl⟩
instance cellTy197 : CellTy Try.prog 197 := ⟨by kernel_rfl⟩
instance stoTy197 : StoTy Try.prog 197 := ⟨by kernel_rfl⟩
instance intTy197 : IntTy Try.prog 197 .i32 := ⟨by kernel_rfl⟩
instance zeroTy197 : ZeroTy Try.prog 197 (.int .i32 0) := ⟨by kernel_rfl⟩
instance bytesTy197 : BytesTy Try.prog 197 4 := ⟨by kernel_rfl⟩
instance aggTy198 : AggTy Try.prog 198 11 := ⟨by kernel_rfl⟩
instance fldTy198_0 : FldTy Try.prog 198 0 12 0 := ⟨by kernel_rfl⟩
instance fldTy198_1 : FldTy Try.prog 198 1 12 1 := ⟨by kernel_rfl⟩
instance fldTy198_2 : FldTy Try.prog 198 2 143 2 := ⟨by kernel_rfl⟩
instance fldTy198_3 : FldTy Try.prog 198 3 192 3 := ⟨by kernel_rfl⟩
instance fldTy198_4 : FldTy Try.prog 198 4 5 4 := ⟨by kernel_rfl⟩
instance fldTy198_5 : FldTy Try.prog 198 5 5 5 := ⟨by kernel_rfl⟩
instance fldTy198_6 : FldTy Try.prog 198 6 193 6 := ⟨by kernel_rfl⟩
instance fldTy198_7 : FldTy Try.prog 198 7 194 7 := ⟨by kernel_rfl⟩
instance fldTy198_8 : FldTy Try.prog 198 8 195 8 := ⟨by kernel_rfl⟩
instance fldTy198_9 : FldTy Try.prog 198 9 196 9 := ⟨by kernel_rfl⟩
instance fldTy198_10 : FldTy Try.prog 198 10 197 10 := ⟨by kernel_rfl⟩
instance zeroTy198 : ZeroTy Try.prog 198 (.agg #[.int .u64 0, .int .u64 0, .int .u32 0, .int .u8 0, .int .u8 0, .int .u8 0, .int .u8 0, .nilFunc, .pointer none, .int .i32 0, .int .i32 0]) := ⟨by kernel_rfl⟩
instance bytesTy198 : BytesTy Try.prog 198 48 := ⟨by kernel_rfl⟩
instance aggTy199 : AggTy Try.prog 199 11 := ⟨by kernel_rfl⟩
instance fldTy199_0 : FldTy Try.prog 199 0 12 0 := ⟨by kernel_rfl⟩
instance fldTy199_1 : FldTy Try.prog 199 1 12 1 := ⟨by kernel_rfl⟩
instance fldTy199_2 : FldTy Try.prog 199 2 143 2 := ⟨by kernel_rfl⟩
instance fldTy199_3 : FldTy Try.prog 199 3 192 3 := ⟨by kernel_rfl⟩
instance fldTy199_4 : FldTy Try.prog 199 4 5 4 := ⟨by kernel_rfl⟩
instance fldTy199_5 : FldTy Try.prog 199 5 5 5 := ⟨by kernel_rfl⟩
instance fldTy199_6 : FldTy Try.prog 199 6 193 6 := ⟨by kernel_rfl⟩
instance fldTy199_7 : FldTy Try.prog 199 7 194 7 := ⟨by kernel_rfl⟩
instance fldTy199_8 : FldTy Try.prog 199 8 195 8 := ⟨by kernel_rfl⟩
instance fldTy199_9 : FldTy Try.prog 199 9 196 9 := ⟨by kernel_rfl⟩
instance fldTy199_10 : FldTy Try.prog 199 10 197 10 := ⟨by kernel_rfl⟩
instance zeroTy199 : ZeroTy Try.prog 199 (.agg #[.int .u64 0, .int .u64 0, .int .u32 0, .int .u8 0, .int .u8 0, .int .u8 0, .int .u8 0, .nilFunc, .pointer none, .int .i32 0, .int .i32 0]) := ⟨by kernel_rfl⟩
instance bytesTy199 : BytesTy Try.prog 199 48 := ⟨by kernel_rfl⟩
instance aggTy200 : AggTy Try.prog 200 4 := ⟨by kernel_rfl⟩
instance fldTy200_0 : FldTy Try.prog 200 0 3 0 := ⟨by kernel_rfl⟩
instance fldTy200_1 : FldTy Try.prog 200 1 3 1 := ⟨by kernel_rfl⟩
instance fldTy200_2 : FldTy Try.prog 200 2 3 2 := ⟨by kernel_rfl⟩
instance fldTy200_3 : FldTy Try.prog 200 3 36 3 := ⟨by kernel_rfl⟩
instance zeroTy200 : ZeroTy Try.prog 200 (.agg #[.int .i64 0, .int .i64 0, .int .i64 0, .slice none 0 0]) := ⟨by kernel_rfl⟩
instance bytesTy200 : BytesTy Try.prog 200 48 := ⟨by kernel_rfl⟩
instance aggTy201 : AggTy Try.prog 201 4 := ⟨by kernel_rfl⟩
instance fldTy201_0 : FldTy Try.prog 201 0 3 0 := ⟨by kernel_rfl⟩
instance fldTy201_1 : FldTy Try.prog 201 1 3 1 := ⟨by kernel_rfl⟩
instance fldTy201_2 : FldTy Try.prog 201 2 3 2 := ⟨by kernel_rfl⟩
instance fldTy201_3 : FldTy Try.prog 201 3 36 3 := ⟨by kernel_rfl⟩
instance zeroTy201 : ZeroTy Try.prog 201 (.agg #[.int .i64 0, .int .i64 0, .int .i64 0, .slice none 0 0]) := ⟨by kernel_rfl⟩
instance bytesTy201 : BytesTy Try.prog 201 48 := ⟨by kernel_rfl⟩
instance cellTy202 : CellTy Try.prog 202 := ⟨by kernel_rfl⟩
instance stoTy202 : StoTy Try.prog 202 := ⟨by kernel_rfl⟩
instance zeroTy202 : ZeroTy Try.prog 202 (.nilFunc) := ⟨by kernel_rfl⟩
instance bytesTy202 : BytesTy Try.prog 202 8 := ⟨by kernel_rfl⟩
instance cellTy203 : CellTy Try.prog 203 := ⟨by kernel_rfl⟩
instance stoTy203 : StoTy Try.prog 203 := ⟨by kernel_rfl⟩
instance zeroTy203 : ZeroTy Try.prog 203 (.pointer none) := ⟨by kernel_rfl⟩
instance bytesTy203 : BytesTy Try.prog 203 8 := ⟨by kernel_rfl⟩
instance enters2 : Enters Try.prog 2 := Enters.of Try.func2 (by kernel_rfl) (by kernel_rfl)
instance enters3 : Enters Try.prog 3 := Enters.of Try.func3 (by kernel_rfl) (by kernel_rfl)
instance enters4 : Enters Try.prog 4 := Enters.of Try.func4 (by kernel_rfl) (by kernel_rfl)
instance enters5 : Enters Try.prog 5 := Enters.of Try.func5 (by kernel_rfl) (by kernel_rfl)
instance enters6 : Enters Try.prog 6 := Enters.of Try.func6 (by kernel_rfl) (by kernel_rfl)
instance enters7 : Enters Try.prog 7 := Enters.of Try.func7 (by kernel_rfl) (by kernel_rfl)
instance enters8 : Enters Try.prog 8 := Enters.of Try.func8 (by kernel_rfl) (by kernel_rfl)
instance enters9 : Enters Try.prog 9 := Enters.of Try.func9 (by kernel_rfl) (by kernel_rfl)
instance enters10 : Enters Try.prog 10 := Enters.of Try.func10 (by kernel_rfl) (by kernel_rfl)
instance enters11 : Enters Try.prog 11 := Enters.of Try.func11 (by kernel_rfl) (by kernel_rfl)
instance enters12 : Enters Try.prog 12 := Enters.of Try.func12 (by kernel_rfl) (by kernel_rfl)
instance enters13 : Enters Try.prog 13 := Enters.of Try.func13 (by kernel_rfl) (by kernel_rfl)
instance enters14 : Enters Try.prog 14 := Enters.of Try.func14 (by kernel_rfl) (by kernel_rfl)
instance enters15 : Enters Try.prog 15 := Enters.of Try.func15 (by kernel_rfl) (by kernel_rfl)
instance enters16 : Enters Try.prog 16 := Enters.of Try.func16 (by kernel_rfl) (by kernel_rfl)
instance enters17 : Enters Try.prog 17 := Enters.of Try.func17 (by kernel_rfl) (by kernel_rfl)
instance enters18 : Enters Try.prog 18 := Enters.of Try.func18 (by kernel_rfl) (by kernel_rfl)
instance enters19 : Enters Try.prog 19 := Enters.of Try.func19 (by kernel_rfl) (by kernel_rfl)
instance enters20 : Enters Try.prog 20 := Enters.of Try.func20 (by kernel_rfl) (by kernel_rfl)
instance enters21 : Enters Try.prog 21 := Enters.of Try.func21 (by kernel_rfl) (by kernel_rfl)
instance enters22 : Enters Try.prog 22 := Enters.of Try.func22 (by kernel_rfl) (by kernel_rfl)
instance enters23 : Enters Try.prog 23 := Enters.of Try.func23 (by kernel_rfl) (by kernel_rfl)
instance enters24 : Enters Try.prog 24 := Enters.of Try.func24 (by kernel_rfl) (by kernel_rfl)
instance enters25 : Enters Try.prog 25 := Enters.of Try.func25 (by kernel_rfl) (by kernel_rfl)
instance enters26 : Enters Try.prog 26 := Enters.of Try.func26 (by kernel_rfl) (by kernel_rfl)
instance enters27 : Enters Try.prog 27 := Enters.of Try.func27 (by kernel_rfl) (by kernel_rfl)
instance enters28 : Enters Try.prog 28 := Enters.of Try.func28 (by kernel_rfl) (by kernel_rfl)
instance enters29 : Enters Try.prog 29 := Enters.of Try.func29 (by kernel_rfl) (by kernel_rfl)
instance enters30 : Enters Try.prog 30 := Enters.of Try.func30 (by kernel_rfl) (by kernel_rfl)
instance enters31 : Enters Try.prog 31 := Enters.of Try.func31 (by kernel_rfl) (by kernel_rfl)
instance enters32 : Enters Try.prog 32 := Enters.of Try.func32 (by kernel_rfl) (by kernel_rfl)
instance enters33 : Enters Try.prog 33 := Enters.of Try.func33 (by kernel_rfl) (by kernel_rfl)
instance enters34 : Enters Try.prog 34 := Enters.of Try.func34 (by kernel_rfl) (by kernel_rfl)
instance enters35 : Enters Try.prog 35 := Enters.of Try.func35 (by kernel_rfl) (by kernel_rfl)
instance enters36 : Enters Try.prog 36 := Enters.of Try.func36 (by kernel_rfl) (by kernel_rfl)
instance enters37 : Enters Try.prog 37 := Enters.of Try.func37 (by kernel_rfl) (by kernel_rfl)
instance enters38 : Enters Try.prog 38 := Enters.of Try.func38 (by kernel_rfl) (by kernel_rfl)
instance enters39 : Enters Try.prog 39 := Enters.of Try.func39 (by kernel_rfl) (by kernel_rfl)
instance enters40 : Enters Try.prog 40 := Enters.of Try.func40 (by kernel_rfl) (by kernel_rfl)
instance enters41 : Enters Try.prog 41 := Enters.of Try.func41 (by kernel_rfl) (by kernel_rfl)
instance enters42 : Enters Try.prog 42 := Enters.of Try.func42 (by kernel_rfl) (by kernel_rfl)
instance enters43 : Enters Try.prog 43 := Enters.of Try.func43 (by kernel_rfl) (by kernel_rfl)
instance enters44 : Enters Try.prog 44 := Enters.of Try.func44 (by kernel_rfl) (by kernel_rfl)
instance enters45 : Enters Try.prog 45 := Enters.of Try.func45 (by kernel_rfl) (by kernel_rfl)
instance enters46 : Enters Try.prog 46 := Enters.of Try.func46 (by kernel_rfl) (by kernel_rfl)
instance enters47 : Enters Try.prog 47 := Enters.of Try.func47 (by kernel_rfl) (by kernel_rfl)
instance enters48 : Enters Try.prog 48 := Enters.of Try.func48 (by kernel_rfl) (by kernel_rfl)
instance enters49 : Enters Try.prog 49 := Enters.of Try.func49 (by kernel_rfl) (by kernel_rfl)
instance enters50 : Enters Try.prog 50 := Enters.of Try.func50 (by kernel_rfl) (by kernel_rfl)
instance enters51 : Enters Try.prog 51 := Enters.of Try.func51 (by kernel_rfl) (by kernel_rfl)
instance enters52 : Enters Try.prog 52 := Enters.of Try.func52 (by kernel_rfl) (by kernel_rfl)
instance enters53 : Enters Try.prog 53 := Enters.of Try.func53 (by kernel_rfl) (by kernel_rfl)
instance enters54 : Enters Try.prog 54 := Enters.of Try.func54 (by kernel_rfl) (by kernel_rfl)
instance enters55 : Enters Try.prog 55 := Enters.of Try.func55 (by kernel_rfl) (by kernel_rfl)
instance enters56 : Enters Try.prog 56 := Enters.of Try.func56 (by kernel_rfl) (by kernel_rfl)
instance enters57 : Enters Try.prog 57 := Enters.of Try.func57 (by kernel_rfl) (by kernel_rfl)
instance enters58 : Enters Try.prog 58 := Enters.of Try.func58 (by kernel_rfl) (by kernel_rfl)
instance enters59 : Enters Try.prog 59 := Enters.of Try.func59 (by kernel_rfl) (by kernel_rfl)
instance enters60 : Enters Try.prog 60 := Enters.of Try.func60 (by kernel_rfl) (by kernel_rfl)
instance enters61 : Enters Try.prog 61 := Enters.of Try.func61 (by kernel_rfl) (by kernel_rfl)
instance enters62 : Enters Try.prog 62 := Enters.of Try.func62 (by kernel_rfl) (by kernel_rfl)
instance enters63 : Enters Try.prog 63 := Enters.of Try.func63 (by kernel_rfl) (by kernel_rfl)
instance enters64 : Enters Try.prog 64 := Enters.of Try.func64 (by kernel_rfl) (by kernel_rfl)
instance enters65 : Enters Try.prog 65 := Enters.of Try.func65 (by kernel_rfl) (by kernel_rfl)
instance enters66 : Enters Try.prog 66 := Enters.of Try.func66 (by kernel_rfl) (by kernel_rfl)
instance enters67 : Enters Try.prog 67 := Enters.of Try.func67 (by kernel_rfl) (by kernel_rfl)
instance enters68 : Enters Try.prog 68 := Enters.of Try.func68 (by kernel_rfl) (by kernel_rfl)
instance enters69 : Enters Try.prog 69 := Enters.of Try.func69 (by kernel_rfl) (by kernel_rfl)
instance enters70 : Enters Try.prog 70 := Enters.of Try.func70 (by kernel_rfl) (by kernel_rfl)
instance enters71 : Enters Try.prog 71 := Enters.of Try.func71 (by kernel_rfl) (by kernel_rfl)
instance enters72 : Enters Try.prog 72 := Enters.of Try.func72 (by kernel_rfl) (by kernel_rfl)
instance enters73 : Enters Try.prog 73 := Enters.of Try.func73 (by kernel_rfl) (by kernel_rfl)
instance enters74 : Enters Try.prog 74 := Enters.of Try.func74 (by kernel_rfl) (by kernel_rfl)
instance enters75 : Enters Try.prog 75 := Enters.of Try.func75 (by kernel_rfl) (by kernel_rfl)
instance enters76 : Enters Try.prog 76 := Enters.of Try.func76 (by kernel_rfl) (by kernel_rfl)
instance enters77 : Enters Try.prog 77 := Enters.of Try.func77 (by kernel_rfl) (by kernel_rfl)
instance enters78 : Enters Try.prog 78 := Enters.of Try.func78 (by kernel_rfl) (by kernel_rfl)
instance enters79 : Enters Try.prog 79 := Enters.of Try.func79 (by kernel_rfl) (by kernel_rfl)
instance enters80 : Enters Try.prog 80 := Enters.of Try.func80 (by kernel_rfl) (by kernel_rfl)
instance enters81 : Enters Try.prog 81 := Enters.of Try.func81 (by kernel_rfl) (by kernel_rfl)
instance enters82 : Enters Try.prog 82 := Enters.of Try.func82 (by kernel_rfl) (by kernel_rfl)
instance enters83 : Enters Try.prog 83 := Enters.of Try.func83 (by kernel_rfl) (by kernel_rfl)
instance enters84 : Enters Try.prog 84 := Enters.of Try.func84 (by kernel_rfl) (by kernel_rfl)
instance enters85 : Enters Try.prog 85 := Enters.of Try.func85 (by kernel_rfl) (by kernel_rfl)
instance enters86 : Enters Try.prog 86 := Enters.of Try.func86 (by kernel_rfl) (by kernel_rfl)
instance enters87 : Enters Try.prog 87 := Enters.of Try.func87 (by kernel_rfl) (by kernel_rfl)
instance enters88 : Enters Try.prog 88 := Enters.of Try.func88 (by kernel_rfl) (by kernel_rfl)
instance enters89 : Enters Try.prog 89 := Enters.of Try.func89 (by kernel_rfl) (by kernel_rfl)
instance enters90 : Enters Try.prog 90 := Enters.of Try.func90 (by kernel_rfl) (by kernel_rfl)
instance enters91 : Enters Try.prog 91 := Enters.of Try.func91 (by kernel_rfl) (by kernel_rfl)
instance enters92 : Enters Try.prog 92 := Enters.of Try.func92 (by kernel_rfl) (by kernel_rfl)
instance enters93 : Enters Try.prog 93 := Enters.of Try.func93 (by kernel_rfl) (by kernel_rfl)
instance enters94 : Enters Try.prog 94 := Enters.of Try.func94 (by kernel_rfl) (by kernel_rfl)
instance enters95 : Enters Try.prog 95 := Enters.of Try.func95 (by kernel_rfl) (by kernel_rfl)
instance enters96 : Enters Try.prog 96 := Enters.of Try.func96 (by kernel_rfl) (by kernel_rfl)
instance enters97 : Enters Try.prog 97 := Enters.of Try.func97 (by kernel_rfl) (by kernel_rfl)
instance enters98 : Enters Try.prog 98 := Enters.of Try.func98 (by kernel_rfl) (by kernel_rfl)
instance enters99 : Enters Try.prog 99 := Enters.of Try.func99 (by kernel_rfl) (by kernel_rfl)
instance enters100 : Enters Try.prog 100 := Enters.of Try.func100 (by kernel_rfl) (by kernel_rfl)
instance enters101 : Enters Try.prog 101 := Enters.of Try.func101 (by kernel_rfl) (by kernel_rfl)
end Go.Proofs.Ytcpdhclnmjfldaa
