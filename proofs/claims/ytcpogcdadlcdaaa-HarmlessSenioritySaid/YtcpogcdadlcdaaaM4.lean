/- Parts of the proof: Vt Vu Vw Vx Vy Facts. -/
import Derived.Test.YtcpogcdadlcdaaaM3
import Derived.Laws.AppendOwn
import Derived.Maps.RangeRun
import Derived.Test.YtcpogcdadlcdaaaM2
import Derived.Test.YtcpogcdadlcdaaaProg

/- Own layer, part t: a loop that holds ranges over functions; a return behind several of these. Nothing of the program stands here. -/
namespace Go.Proofs.Ytcpogcdadlcdaaa
open Go Go.RowKit

section
variable {P : Program}
structure NextDP {α β : Type} (enc : α → β → List (Nat × Value)) (I : α → β → List Deferred → World → Prop) (μ : α → β → World → Nat) (m : Nat) (F : Fr) (ds : List Deferred) (w : World) : Prop where
  of_ ::
  un_ : ∃ (a : α) (b : β), Has F (enc a b) ∧ I a b ds w ∧ μ a b w < m
theorem nextD {α β : Type} {enc : α → β → List (Nat × Value)} {I : α → β → List Deferred → World → Prop} {μ : α → β → World → Nat} {m : Nat} {F : Fr} {ds : List Deferred} {w : World} (a : α) (b : β) (h : Has F (enc a b)) (hi : I a b ds w) (hm : μ a b w < m) : NextDP enc I μ m F ds w := ⟨a, b, h, hi, hm⟩
theorem loopD {c : Code} {K : KK} {F0 : Fr} {ds0 : List Deferred} {w0 : World} {α β : Type} (enc : α → β → List (Nat × Value)) (I : α → β → List Deferred → World → Prop) (μ : α → β → World → Nat)
    (a0 : α) (b0 : β) (h0 : Has F0 (enc a0 b0)) (hI : I a0 b0 ds0 w0)
    (step : ∀ (G : Fr) (a : α) (b : β) (ds : List Deferred) (w : World), I a b ds w →
      V P c (fun e F' ds' w' => match e with | .normal => NextDP enc I μ (μ a b w) F' ds' w' | e => K e F' ds' w') (upds (enc a b) (mix (writes c) F0 G)) ds w) :
    LoopH c (V P c) K F0 ds0 w0 := by
  rw [LoopH_eq]
  refine ⟨fun n F ds' w => Off (writes c) F0 F ∧ ∃ a b, Has F (enc a b) ∧ I a b ds' w ∧ μ a b w = n, ⟨_, .refl _ _, a0, b0, h0, hI, rfl⟩, ?_⟩
  rintro n F ds' w ⟨hf, a, b, hs, hi, rfl⟩
  have hm : mix (writes c) F0 F = F := funext fun j => by
    show (bif memN j (writes c) then F j else F0 j) = F j
    cases hb : memN j (writes c) with
    | true => rfl
    | false => exact (hf j hb).symm
  have h1 := step F a b ds' w hi
  rw [hm, upds_has hs] at h1
  refine V_mf c _ _ F ds' w (fun e F' ds'' w' hf' hd h => ?_) h1
  cases e with
  | normal =>
    have h : NextDP enc I μ (μ a b w) F' ds'' w' := h
    obtain ⟨a', b', a1, a2, a3⟩ := h.un_
    exact ⟨_, a3, hf.trans (hf' (fun _ e => by cases e)), a', b', a1, a2, rfl⟩
  | _ => exact h
/-- The marks that have been laid. -/
def Marks (lo : Nat) : List Deferred → World → Prop
  | [], _ => True
  | d :: ds, w => (∃ b, d.target = .collected b ∧ lo ≤ b ∧ w.heap[b]? = some (.deferred (some [])) ∧ ∀ d' ∈ ds, d'.target ≠ .collected b) ∧ Marks lo ds w
theorem Marks.lt {lo : Nat} : ∀ {ds : List Deferred} {w : World}, Marks lo ds w → ∀ d ∈ ds, ∀ b, d.target = .collected b → b < w.heap.size
  | d :: ds, w, ⟨⟨b, h1, h2, h3, h4⟩, h5⟩, x, hx, b', hb => by
    rcases List.mem_cons.1 hx with rfl | hx
    · rw [h1] at hb; injection hb with hb; subst hb
      exact (Array.getElem?_eq_some_iff.1 h3).1
    · exact h5.lt x hx b' hb
theorem Marks.kept {lo : Nat} {D : Nat → Prop} : ∀ {ds : List Deferred} {w w' : World}, Marks lo ds w → Kept D w w' → (∀ b, lo ≤ b → b < w.heap.size → w.heap[b]? = some (.deferred (some [])) → D b) → Marks lo ds w'
  | [], _, _, _, _, _ => trivial
  | _ :: _, _, _, ⟨⟨b, h1, h2, h3, h4⟩, h5⟩, k, hD => ⟨⟨b, h1, h2, (k.blk b (Array.getElem?_eq_some_iff.1 h3).1 (hD b h2 (Array.getElem?_eq_some_iff.1 h3).1 h3)).trans h3, h4⟩, h5.kept k hD⟩
theorem Marks.ext {lo : Nat} {ds : List Deferred} {w w' : World} (h : Marks lo ds w) (k : Ext w w') : Marks lo ds w' := h.kept k fun _ _ _ _ => trivial
theorem Marks.add {lo b : Nat} {ds : List Deferred} {w w' : World} (h : Marks lo ds w) (k : Ext w w') (hb : w.heap.size ≤ b) (hlo : lo ≤ b) (hw : w'.heap[b]? = some (.deferred (some []))) : Marks lo ({ target := .collected b, args := #[] } :: ds) w' :=
  ⟨⟨b, rfl, hlo, hw, fun d' hd e => by have := h.lt d' hd b e; omega⟩, h.ext k⟩
theorem Marks.shut {lo : Nat} : ∀ {ds : List Deferred} {w : World}, Marks lo ds w → ∃ w', shutMarks ds w = some w' ∧ Kept (fun b => b < lo) w w'
  | [], w, _ => ⟨w, rfl, .refl _ _⟩
  | d :: ds, w, ⟨⟨b, h1, h2, h3, h4⟩, h5⟩ => by
    have k : Kept (fun c => c ≠ b) w (w.putObj b (.deferred none)) := Kept.putObj w b _
    have h6 : Marks lo ds (w.putObj b (.deferred none)) := by
      clear h2
      induction ds with
      | nil => trivial
      | cons x r ih =>
        obtain ⟨⟨c, g1, g2, g3, g4⟩, g5⟩ := h5
        have hne : c ≠ b := fun e => h4 x List.mem_cons_self (e ▸ g1)
        exact ⟨⟨c, g1, g2, (k.blk c (Array.getElem?_eq_some_iff.1 g3).1 hne).trans g3, g4⟩, ih (fun y hy => h4 y (List.mem_cons_of_mem _ hy)) g5⟩
    obtain ⟨w', h7, h8⟩ := Marks.shut h6
    refine ⟨w', ?_, (k.weak fun i _ hi => by omega).trans h8⟩
    unfold shutMarks
    rw [h1]
    simp only [h3]
    exact h7
/-- A return behind marks. -/
theorem retMs {rs : List ResultVar} {F : Fr} {R : VK} {lo : Nat} {ds : List Deferred} {w : World} (hm : Marks lo ds w) (h : ∀ w', Kept (fun b => b < lo) w w' → VRes P F w' rs [] (fun vs => R (resV vs) w')) : RetP P rs F ds R w := by
  rw [RetP_eq]
  obtain ⟨w', h1, h2⟩ := hm.shut
  exact ⟨w', h1, h w' h2⟩
end
end Go.Proofs.Ytcpogcdadlcdaaa

/- Own layer, part u: 'clear' of a slice; a slice of a known block. Nothing of the program stands here. -/
namespace Go.Proofs.Ytcpogcdadlcdaaa
open Go Go.RowKit

section
variable {P : Program} {X : XK}
theorem zeroCells_one (zs : List Value) (hz : (zs.all fun v => v.oneCell') = true) (n : Nat) : ∀ v ∈ (Builtin.zeroCells zs.toArray n).toList, v.oneCell' = true := by
  intro v hv
  unfold Builtin.zeroCells at hv
  simp only [List.size_toArray, Array.toList_map, Array.toList_range, List.mem_map, List.mem_range] at hv
  obtain ⟨i, hi, rfl⟩ := hv
  have hpos : 0 < zs.length := by
    rcases Nat.eq_zero_or_pos zs.length with h | h
    · rw [h, Nat.mul_zero] at hi; omega
    · exact h
  have hlt : i % zs.length < zs.toArray.size := by simpa using Nat.mod_lt i hpos
  rw [getElem!_pos zs.toArray (i % zs.length) hlt]
  exact List.all_eq_true.1 hz _ (by simp)
/-- clear(xs[..]), xs's block known: what stands ahead of it stays. -/
theorem clr {t e : TypeId} {sz : Nat} {zv : Value} [h : SliceTy P t e sz] [hz : ZeroTy P e zv] {ty : TypeId} {cst : Array Bool} {g o n c : Nat} {cs : List Value} {w : World} {K : VK} (hb : Blk w g e cs) (hn : 0 < n) (ho : o + n * sz ≤ cs.length)
    (kk : ∀ w' cs', Blk w' g e cs' → cs'.take o = cs.take o → cs'.length = cs.length → Kept (fun b => b ≠ g) w w' → K (.tuple #[]) w') (hzs : (cellsL zv).length = sz := by rfl) (h1 : ((cellsL zv).all fun u => u.oneCell') = true := by rfl) :
    BuiP P .clear #[t] ty cst #[.slice (some (ad g o)) n c] K X w := by
  rw [BuiP_eq]
  refine OpS.x fun w0 hw => ?_
  subst hw
  obtain ⟨hu, _⟩ := sliceOf_spec h.h
  have hsz : (Builtin.zeroCells (cellsL zv).toArray n).toList.length = n * sz := by rw [Array.length_toList, size_zeroCells]; simp [hzs]
  obtain ⟨w', hr, hb', hk, _⟩ := run_storeCells' (P := P) (Builtin.zeroCells (cellsL zv).toArray n).toList o 0 cs w0 hb (by rw [hsz]; omega) (zeroCells_one _ h1 n)
  have hrun : (builtin .clear #[t] ty cst #[.slice (some (ad g o)) n c]).run P w0 = .ok (.value (.tuple #[])) w' := by
    have hbc : builtin .clear #[t] ty cst #[.slice (some (ad g o)) n c] = (do pure (.value (← Builtin.clear_ #[t] ty #[.slice (some (ad g o)) n c]))) := rfl
    rw [hbc, Sem.run_bind]
    have : (Builtin.clear_ #[t] ty #[.slice (some (ad g o)) n c]).run P w0 = .ok (.tuple #[]) w' := by
      obtain ⟨m, rfl⟩ : ∃ m, n = m + 1 := ⟨n - 1, by omega⟩
      simp [Builtin.clear_, run_underlying hu, run_zeroValue' hz.h, cellsL_eq, hr]
    rw [this]; rfl
  rw [hrun]
  refine kk (z w') _ hb' ?_ ?_ ⟨hk.os, hk.tape, hk.output, hk.size, hk.blk⟩
  · rw [Nat.add_zero, List.append_assoc, List.take_append_of_le_length (by rw [List.length_take]; omega), List.take_take, Nat.min_self]
  · simp only [List.length_append, List.length_take, List.length_drop, hsz]; omega
/-- xs[l:h], xs's address known. -/
theorem slcA {t e : TypeId} {sz : Nat} [hst : SliceTy P t e sz] {g o n c : Nat} {lo hi : Option Value} {K : Value → Prop} (l h : Nat) (hlo : IsB lo l 0) (hhi : IsB hi h n) (h1 : l ≤ h) (h2 : h ≤ c) (hlc : l < c)
    (kk : K (.slice (some (ad g (o + l * sz))) (h - l) (c - l))) : SlcP P t (.slice (some (ad g o)) n c) lo hi none K := by
  rw [SlcP_eq]
  obtain ⟨hu, inf, hinf, hs'⟩ := sliceOf_spec hst.h
  refine pure_vval (fun w => ?_) kk
  unfold Instr.sliceAt
  rw [Sem.run_bind, run_underlying hu]
  simp only [Result.andThen_ok]
  unfold Instr.slice
  rw [Sem.run_bind, run_underlying hu]
  simp only [Result.andThen_ok]
  rw [Sem.run_bind, run_sliceBounds hlo hhi h1 h2]
  simp only [Result.andThen_ok]
  rw [Sem.run_bind, run_sizeOf hinf, hs']
  have : ¬ (c = l) := by omega
  show Result.ok (Value.slice (if c = l then some (ad g o) else (some (ad g o)).map (·.add (l * sz))) (h - l) (c - l)) w = _
  rw [if_neg this]
  show Result.ok (Value.slice (some ((ad g o).add (l * sz))) (h - l) (c - l)) w = _
  rw [add_ad]
end
end Go.Proofs.Ytcpogcdadlcdaaa

/- Own layer, part w: maps whose keys are records of two numbers; a look with its truth. Nothing of the program stands here. -/
namespace Go.Proofs.Ytcpogcdadlcdaaa
open Go Go.RowKit Classical

/-- What the rules ask of the record's type. -/
structure KeyS (P : Program) (k e : TypeId) (f0 f1 : Field) : Prop where
  u : P.underlying k = some (.struct #[f0, f1])
  t0 : f0.type = e
  t1 : f1.type = e
  o0 : f0.offset = 0
  o1 : f1.offset = 1
  n0 : f0.name ≠ "_"
  n1 : f1.name ≠ "_"
  ue : P.underlying e = some (.int .i64)
  eq : ∀ a b c d : Int, eqV P 8 k (.agg #[.int .i64 a, .int .i64 b]) (.agg #[.int .i64 c, .int .i64 d]) = some ((a == c) && ((b == d) && true))
section
variable {P : Program}
theorem run_chkS {k e : TypeId} {f0 f1 : Field} (h : KeyS P k e f0 f1) (b : Bool) (a : Int × Int) (w : World) : (Instr.checkKey b 10000 k (kv2 a)).run P w = .ok () w := by
  have p0 : (part e #[.int .i64 a.1, .int .i64 a.2] 0).run P w = .ok (.int .i64 a.1) w := run_partV (by unfold partV; rw [h.ue]; rfl) w
  have p1 : (part e #[.int .i64 a.1, .int .i64 a.2] 1).run P w = .ok (.int .i64 a.2) w := run_partV (by unfold partV; rw [h.ue]; rfl) w
  have ck : ∀ n : Int, (Instr.checkKey b 9999 e (.int .i64 n)).run P w = .ok () w := fun n => by
    rw [show (9999 : Nat) = 9998 + 1 from rfl]
    unfold Instr.checkKey
    rw [Sem.run_bind, run_underlying h.ue]
    rfl
  rw [show (10000 : Nat) = 9999 + 1 from rfl]
  unfold Instr.checkKey
  simp only [Sem.run_bind, run_underlying h.u, Result.andThen_ok]
  simp only [← Array.forIn_toList, List.forIn_cons, List.forIn_nil, if_pos h.n0, if_pos h.n1, Sem.run_bind, h.t0, h.t1, h.o0, h.o1, p0, p1, ck, Result.andThen_ok, Sem.run_pure]
theorem run_fndS {k e : TypeId} {f0 f1 : Field} (h : KeyS P k e f0 f1) (a : Int × Int) (L : List MapEntry) (w : World) (hL : ∀ e ∈ L, ∃ q, e.key = kv2 q) : (Instr.findKey k (kv2 a) L).run P w = .ok (findP (kv2 a) L 0) w := by
  have heq : ∀ q, (Op.equal k (kv2 a) (kv2 q)).run P w = .ok ((a.1 == q.1) && ((a.2 == q.2) && true)) w := fun q => run_eqV 9992 8 k _ _ _ (h.eq a.1 a.2 q.1 q.2) w
  have ask : ∀ (L : List MapEntry) (i : Nat), (∀ e ∈ L, ∃ q, e.key = kv2 q) → (Instr.findAsking k (kv2 a) L i).run P w = .ok (findP (kv2 a) L i) w := by
    intro L
    induction L with
    | nil => intro i _; simp [Instr.findAsking, findP]
    | cons x r ih =>
      intro i hx
      obtain ⟨q, hq⟩ := hx x List.mem_cons_self
      unfold Instr.findAsking findP
      rw [hq, Sem.run_bind, heq q]
      by_cases hab : a = q
      · subst hab
        simp
      · have h1 : ((a.1 == q.1) && ((a.2 == q.2) && true)) = false := by
          rw [Bool.eq_false_iff]
          intro e
          simp at e
          exact hab (Prod.ext e.1 e.2)
        have h2 : ¬ (kv2 q = kv2 a) := fun e => by
          simp at e
          exact hab (Prod.ext e.1.symm e.2.symm)
        rw [h1, if_neg h2]
        simpa using ih (i + 1) fun y hy => hx y (List.mem_cons_of_mem _ hy)
  unfold Instr.findKey
  rw [Sem.run_bind, run_underlying h.u]
  simp only [Result.andThen_ok]
  cases L with
  | nil => simp [Instr.findNow, findP]
  | cons x r =>
    obtain ⟨q, hq⟩ := hL x List.mem_cons_self
    have : Instr.findNow (.struct #[f0, f1]) (kv2 a) (x :: r) 0 = none := by unfold Instr.findNow; rw [hq]; rfl
    rw [this]
    exact ask _ 0 hL
theorem KeyS.law {k e : TypeId} {f0 f1 : Field} (h : KeyS P k e f0 f1) : KeyL P k kv2 where
  inj a b h := by simp at h; exact Prod.ext h.1 h.2
  chk := run_chkS h
  bits a := by
    rw [show (10000 : Nat) = 9998 + 1 + 1 from rfl]
    simp [Instr.sameBits]
  fnd := run_fndS h
/-- A look into a map, the value and whether it is there. -/
theorem lookG2 {κ : Type} {kv : κ → Value} {S : World → Prop} {t k e : TypeId} {zv : Value} [hm : MapTy P t k e] [hk : KeyL P k kv] [hz : ZeroTy P e zv] {g : Nat} (a : κ) {K : Value → Prop} (v : Option Value) (h : ∀ u, S u → ∃ f : κ → Option Value, MapG kv u g f ∧ f a = v)
    (k1 : ∀ x, v = some x → K (.tuple #[x, .bool true])) (k2 : v = none → K (.tuple #[zv, .bool false])) : LookG P S t (.map (some g)) (kv a) true K := by
  rw [LookG_eq]
  cases v with
  | none =>
    refine ⟨_, fun w hw w0 e0 => ?_, k2 rfl⟩
    subst e0
    obtain ⟨f, h1, h2⟩ := h _ hw
    have := run_lookupG (mapOf_spec hm.h) hz.h (w := w0) (show MapG kv w0 g f from by obtain ⟨L, c, hE, hf⟩ := h1; exact ⟨L, c, ⟨hE.at_, hE.keys, hE.born⟩, hf⟩) a true
    rw [run_vS, this, h2]
    exact ⟨rfl, rfl⟩
  | some x =>
    refine ⟨_, fun w hw w0 e0 => ?_, k1 x rfl⟩
    subst e0
    obtain ⟨f, h1, h2⟩ := h _ hw
    have := run_lookupG (mapOf_spec hm.h) hz.h (w := w0) (show MapG kv w0 g f from by obtain ⟨L, c, hE, hf⟩ := h1; exact ⟨L, c, ⟨hE.at_, hE.keys, hE.born⟩, hf⟩) a true
    rw [run_vS, this, h2]
    exact ⟨rfl, rfl⟩
end
end Go.Proofs.Ytcpogcdadlcdaaa

/- Own layer, part x: drawn regions: one slot told apart; effects that may come in any order. Nothing of the program stands here. -/
namespace Go.Proofs.Ytcpogcdadlcdaaa
open Go Go.RowKit

section
variable {P : Program} {X : XK} {ops : Array Oper} {K : Fr → World → Prop} {F : Fr} {w : World}
theorem mix_off {l : List Nat} {F F' : Fr} (h : Off l F F') : mix l F F' = F' := funext fun j => by
  show (bif memN j l then F' j else F j) = F' j
  cases hb : memN j l with
  | true => rfl
  | false => exact (h j hb).symm
/-- What is said of a region that draws, if it is of the world and of one slot. -/
theorem draw_slot (j : Nat) (K' : Value → World → Prop) (h : DrawH P ops (fun F' w' => K' (F' j) w') X F w) (k : ∀ G v w', K' v w' → K (upds [(j, v)] (mix (wr ops.toList) F G)) w') : DrawH P ops K X F w :=
  draw_then h fun F' w' hoff hk => by
    have e : upds [(j, F' j)] (mix (wr ops.toList) F F') = F' := by
      rw [mix_off hoff]
      exact upd_self rfl
    rw [← e]; exact k F' _ w' hk
/-- .. if it is of the world alone. -/
theorem draw_w (K' : World → Prop) (h : DrawH P ops (fun _ w' => K' w') X F w) (k : ∀ G w', K' w' → K (mix (wr ops.toList) F G) w') : DrawH P ops K X F w :=
  draw_then h fun F' w' hoff hk => by
    rw [← mix_off hoff]; exact k F' w' hk
end

/-! ### effects in any order -/
/-- All orders of some effects, then the rest. -/
def altsP (g : Nat → Plan) : List Nat → Plan
  | [] => .done
  | [e] => .eff e (g e)
  | e :: e2 :: es => .alt e (g e) (altsP g (e2 :: es))
def permP : Nat → List Nat → Plan → Plan
  | 0, _, t => t
  | n + 1, rem, t => altsP (fun e => permP n (rem.erase e) t) rem
/-- What an effect asks, with what comes next. -/
def EffP (P : Program) (ops : List Oper) (X : XK) (i : Nat) (C : (World → Prop) → Fr → World → Prop) (S : World → Prop) (F : Fr) (w : World) : Prop := match ops[i]? with
  | some o => VGuard ops o F (VOp P o F (fun v w' => fv v fun v => StrP S w' (fun S' => C S' (updO F o.dst v) w')) X w) (StrP S w (fun S' => C S' (updO F o.dst undef) w))
  | none => False
theorem vplan_perm {P : Program} {ops : List Oper} {K : Fr → World → Prop} {X : XK} {S : World → Prop} {t : Plan} (I : List Nat → Fr → World → Prop)
    (step : ∀ rem e F w (C : (World → Prop) → Fr → World → Prop), e ∈ rem → I rem F w → (∀ F' w', I (rem.erase e) F' w' → C S F' w') → EffP P ops X e C S F w)
    (fin : ∀ F w, I [] F w → VPlan P ops K X t S F w) : ∀ (n : Nat) (rem : List Nat) (F : Fr) (w : World), rem.length = n → I rem F w → VPlan P ops K X (permP n rem t) S F w := by
  intro n
  induction n with
  | zero =>
    intro rem F w hl hI
    obtain rfl : rem = [] := List.eq_nil_of_length_eq_zero hl
    exact fin F w hI
  | succ n ih =>
    intro rem F w hl hI
    have key : ∀ es : List Nat, es ≠ [] → (∀ e ∈ es, e ∈ rem) → VPlan P ops K X (altsP (fun e => permP n (rem.erase e) t) es) S F w := by
      intro es
      induction es with
      | nil => intro h _; exact absurd rfl h
      | cons e es ihe =>
        intro _ hs
        have one : EffP P ops X e (fun S' F' w' => VPlan P ops K X (permP n (rem.erase e) t) S' F' w') S F w :=
          step rem e F w _ (hs e List.mem_cons_self) hI fun F' w' hI' => ih (rem.erase e) F' w' (by rw [List.length_erase_of_mem (hs e List.mem_cons_self), hl]; rfl) hI'
        cases es with
        | nil => exact one
        | cons e2 es => exact ⟨one, ihe (by simp) fun a ha => hs a (List.mem_cons_of_mem _ ha)⟩
    exact key rem (by intro e; subst e; cases hl) fun _ h => h
end Go.Proofs.Ytcpogcdadlcdaaa

/- Own layer, part y: ranging over a map. Nothing of the program stands here. -/
namespace Go.Proofs.Ytcpogcdadlcdaaa
open Go Go.RowKit Go.ChangeMaps

theorem BornL.nodup {L : List MapEntry} {c : Nat} (h : BornL L c) : (L.map (·.born)).Nodup := by
  rw [List.nodup_iff_pairwise_ne, List.pairwise_map, List.pairwise_iff_getElem]
  intro i j hi hj hij e
  have := (h i L[i] (List.getElem?_eq_getElem hi)).2 j L[j] (List.getElem?_eq_getElem hj) e.symm
  omega
/-- Block r ranges over the map in block g; the entries with the stamps 'seen' have come. -/
def IterM (w : World) (r g c : Nat) (seen : List Nat) : Prop := w.heap[r]? = some (.mapIter (some g) c seen.toArray c)
theorem IterM.kept {D : Nat → Prop} {w w' : World} {r g c : Nat} {seen : List Nat} (h : IterM w r g c seen) (k : Kept D w w') (hD : D r) : IterM w' r g c seen :=
  (k.blk r (Array.getElem?_eq_some_iff.1 h).1 hD).trans h
theorem heap_set2 {w0 : World} {g : Nat} {o0 o : Obj} (hb : w0.heap[g]? = some o0) : Kept (fun b => b ≠ g) (z w0) (z { w0 with heap := w0.heap.setIfInBounds g o }) ∧ (z { w0 with heap := w0.heap.setIfInBounds g o }).heap[g]? = some o := by
  have hlt := (Array.getElem?_eq_some_iff.1 hb).1
  exact ⟨⟨rfl, rfl, rfl, by simp [z], fun b hb1 hne => by
    show (w0.heap.setIfInBounds g _)[b]? = w0.heap[b]?
    rw [Array.getElem?_setIfInBounds_ne (fun e => hne e.symm)]⟩, by simp [z, hlt]⟩
section
variable {P : Program} {κ : Type} {kv : κ → Value}
theorem rngM {t k e : TypeId} [hm : MapTy P t k e] {s : Sem Next} {g c : Nat} {L : List MapEntry} {w : World} {K : VK} {X : XK} (hs : s = vS (Instr.range t (.map (some g)))) (h : Ents kv w g L c)
    (kk : ∀ w', Ents kv w' g L c → IterM w' w.heap.size g c [] → Ext w w' → w'.heap.size = w.heap.size + 1 → K (.pointer (some (ad w.heap.size 0))) w') : OthP P s K X w := by
  subst hs
  rw [OthP_eq]
  refine OpS.x fun w0 hw => ?_
  subst hw
  have hb : w0.heap[g]? = some (.map L.toArray c) := h.at_
  rw [run_vS]
  unfold Instr.range
  simp only [Sem.run_bind, run_underlying (mapOf_spec hm.h), Result.andThen_ok, MapKept.run_getObj_map hb, Sem.run_pure, run_newObj]
  have x : Ext (z w0) (z (w0.alloc (.mapIter (some g) c #[] c))) := ⟨rfl, rfl, rfl, by show w0.heap.size ≤ (w0.heap.push _).size; simp, fun i hi _ => by
    show (w0.heap.push _)[i]? = w0.heap[i]?
    rw [Array.getElem?_push, if_neg (by have : i < w0.heap.size := hi; omega)]⟩
  exact kk _ (h.kept x trivial) (by show (w0.heap.push _)[w0.heap.size]? = _; simp) x (by show (w0.heap.push _).size = w0.heap.size + 1; simp)
theorem nxtM {ty : TypeId} {s : Sem Next} {r g c : Nat} {seen : List Nat} {L : List MapEntry} {w : World} {K : VK} {X : XK} (hs : s = vS (Instr.next (.pointer (some (ad r 0))) false ty)) (h : Ents kv w g L c) (hi : IterM w r g c seen)
    (k1 : (∀ e ∈ L, e.born ∈ seen) → K (.tuple #[.bool false]) w)
    (k2 : ∀ e ∈ L, e.born ∉ seen → ∀ w', Ents kv w' g L c → IterM w' r g c (seen ++ [e.born]) → Kept (fun b => b ≠ r) w w' → w'.heap.size = w.heap.size → K (.tuple #[.bool true, e.key, e.val]) w') : OthP P s K X w := by
  subst hs
  rw [OthP_eq]
  refine OpS.x fun w0 hw => ?_
  subst hw
  have hb : w0.heap[g]? = some (.map L.toArray c) := h.at_
  have hr : w0.heap[r]? = some (.mapIter (some g) c seen.toArray c) := hi
  have hrg : r ≠ g := fun e => by rw [e, hb] at hr; cases hr
  have hold : ∀ x ∈ L.toArray.toList, x.born < c := fun x hx => by
    obtain ⟨i, hi⟩ := List.getElem?_of_mem (show x ∈ L from hx)
    exact (h.born i x hi).1
  have hmem : ∀ x, x ∈ (leftOf L.toArray seen.toArray).toList ↔ x ∈ L ∧ x.born ∉ seen := fun x => by
    unfold leftOf
    simp
  rw [run_vS]
  rcases run_next_at (P := P) w0 ty r g c c seen.toArray L.toArray c hr hb hold (Nat.le_refl _) with ⟨h0, hrun⟩ | ⟨e, he, w1, hw1, hrun⟩
  · rw [hrun]
    refine k1 fun e he => Classical.byContradiction fun hn => ?_
    have := (hmem e).2 ⟨he, hn⟩
    rw [Array.eq_empty_of_size_eq_zero h0] at this
    cases this
  · rw [hrun]
    obtain ⟨h1, h2⟩ := (hmem e).1 he
    have hh : z (setBlock w1 r (.mapIter (some g) c (seen.toArray.push e.born) c)) = z { w0 with heap := w0.heap.setIfInBounds r (.mapIter (some g) c (seen ++ [e.born]).toArray c) } := by
      rw [List.push_toArray]
      rcases hw1 with rfl | rfl <;> rfl
    show K _ (z _)
    rw [hh]
    obtain ⟨q1, q2⟩ := heap_set2 (o := .mapIter (some g) c (seen ++ [e.born]).toArray c) hr
    exact k2 e h1 h2 _ (h.kept q1 fun e => hrg e.symm) q2 q1 (by simp [z])
theorem entM {s : Sem Next} {r g c : Nat} {seen : List Nat} {L : List MapEntry} {e : MapEntry} {w : World} {K : VK} {X : XK} (hs : s = vS (Instr.entry (.pointer (some (ad r 0))))) (h : Ents kv w g L c) (he : e ∈ L) (hi : IterM w r g c (seen ++ [e.born]))
    (k1 : K (.tuple #[e.key, e.val]) w) : OthP P s K X w := by
  subst hs
  rw [OthP_eq]
  refine OpS.x fun w0 hw => ?_
  subst hw
  have hr : w0.heap[r]? = some (.mapIter (some g) c (seen.toArray.push e.born) c) := by rw [List.push_toArray]; exact hi
  rw [run_vS, run_entry_at (P := P) w0 r g c seen.toArray L.toArray c e hr h.at_ (by simpa using he) h.born.nodup]
  exact k1
/-! ### keys that are numbers -/
abbrev kvI (i : Int) : Value := .int .i64 i
theorem findNow_I : ∀ (L : List MapEntry) (a : Int) (i : Nat), (∀ e ∈ L, ∃ q, e.key = kvI q) → Instr.findNow (.int .i64) (kvI a) L i = some (findP (kvI a) L i)
  | [], _, _, _ => rfl
  | e :: r, a, i, h => by
    obtain ⟨q, hq⟩ := h e List.mem_cons_self
    have ih := findNow_I r a (i + 1) fun x hx => h x (List.mem_cons_of_mem _ hx)
    unfold Instr.findNow findP
    rw [hq]
    simp only [Instr.sameNow, if_true]
    by_cases hk : a = q
    · subst hk; simp
    · have h1 : ¬ (kvI q = kvI a) := fun e => by injection e with _ e; exact hk e.symm
      have h2 : (a == q) = false := beq_eq_false_iff_ne.2 hk
      rw [if_neg h1, h2]
      exact ih
theorem keyI {k : TypeId} (hu : P.underlying k = some (.int .i64)) : KeyL P k kvI where
  inj a b h := by injection h
  chk b a w := run_checkKey_int hu b a w
  bits a := by simp [Instr.sameBits]
  fnd a L w h := run_findKey_int hu (findNow_I L a 0 h) w
/-- A new key. -/
theorem mupdN {t k e : TypeId} [hm : MapTy P t k e] [hk : KeyL P k kv] {g c : Nat} {L : List MapEntry} (a : κ) {v : Value} {w : World} {K : VK} (h : Ents kv w g L c) (hn : ∀ e ∈ L, e.key ≠ kv a)
    (kk : ∀ w', Ents kv w' g (L ++ [mkE (kv a) v c]) (c + 1) → Kept (fun b => b ≠ g) w w' → w'.heap.size = w.heap.size → K undef w') : MUpdP P t (.map (some g)) (kv a) v K w := by
  rw [MUpdP_eq]
  intro w0 hw
  subst hw
  have h1 := mapOf_spec hm.h
  have hb : w0.heap[g]? = some (.map L.toArray c) := h.at_
  have hfn := hk.fnd a L w0 h.keys
  rw [findP_none.2 hn] at hfn
  have hr : (uS (Instr.mapUpdate t (.map (some g)) (kv a) v)).run P w0 = .ok .skip { w0 with heap := w0.heap.setIfInBounds g (.map (L ++ [(mkE (kv a) v c)]).toArray (c + 1)) } := by
    unfold uS Instr.mapUpdate
    simp only [Sem.run_bind, run_underlying h1, Result.andThen_ok, MapKept.run_getObj_map hb, hk.chk, hfn, MapKept.run_setObj_map _ hb, Sem.run_pure]
    simp
  rw [hr]
  obtain ⟨k1, k2⟩ := heap_set2 (o := .map (L ++ [(mkE (kv a) v c)]).toArray (c + 1)) hb
  refine kk (z { w0 with heap := w0.heap.setIfInBounds g _ }) ⟨k2, fun y hy => ?_, h.born.push _ _⟩ k1 (by simp [z])
  rcases List.mem_append.1 hy with h' | h'
  · exact h.keys y h'
  · simp at h'; subst h'; exact ⟨a, rfl⟩
/-- How many entries. -/
theorem lenM {S : World → Prop} {t k e : TypeId} [hm : MapTy P t k e] {g n : Nat} {K : Value → Prop} (h : ∀ u, S u → ∃ L c, Ents kv u g L c ∧ L.length = n) (kk : K (.int .i64 n)) : LenG P S t (.map (some g)) K := by
  rw [LenG_eq]
  refine ⟨.int .i64 n, fun w hw w0 e0 => ?_, kk⟩
  subst e0
  obtain ⟨L, c, h1, h2⟩ := h _ hw
  have hb : w0.heap[g]? = some (.map L.toArray c) := h1.at_
  rw [run_vS]
  unfold Builtin.len_
  have e1 : (#[t] : Array TypeId)[0]? = some t := rfl
  have e2 : (#[Value.map (some g)] : Array Value)[0]? = some (.map (some g)) := rfl
  simp only [e1, e2, Sem.run_bind, run_underlying (mapOf_spec hm.h), Result.andThen_ok, MapKept.run_getObj_map hb, Sem.run_pure]
  exact ⟨by simp [goInt, h2], rfl⟩
theorem Ents.new (kv : κ → Value) (w : World) : Ents kv (w.alloc (.map #[] 0)) w.heap.size [] 0 := ⟨by unfold World.alloc; simp, fun _ h => (by cases h), fun i e h => by simp at h⟩
theorem Ents.g {w : World} {g c : Nat} {L : List MapEntry} (h : Ents kv w g L c) : MapG kv w g (fun a => lookP (kv a) L) := ⟨L, c, h, fun _ => rfl⟩
end
end Go.Proofs.Ytcpogcdadlcdaaa

/- Made by facts.py off the translation: what the rules ask of the program's types and functions. -/
namespace Go.Proofs.Ytcpogcdadlcdaaa
open Go
theorem mx : Try.prog.follows .mixedOrders = true := by kernel_rfl
instance cellTy0 : CellTy Try.prog 0 := ⟨by kernel_rfl⟩
instance stoTy0 : StoTy Try.prog 0 := ⟨by kernel_rfl⟩
instance zeroTy0 : ZeroTy Try.prog 0 (.tuple #[]) := ⟨by kernel_rfl⟩
instance bytesTy0 : BytesTy Try.prog 0 0 := ⟨by kernel_rfl⟩
instance cellTy1 : CellTy Try.prog 1 := ⟨by kernel_rfl⟩
instance stoTy1 : StoTy Try.prog 1 := ⟨by kernel_rfl⟩
instance zeroTy1 : ZeroTy Try.prog 1 (.nilFunc) := ⟨by kernel_rfl⟩
instance bytesTy1 : BytesTy Try.prog 1 8 := ⟨by kernel_rfl⟩
instance cellTy2 : CellTy Try.prog 2 := ⟨by kernel_rfl⟩
instance stoTy2 : StoTy Try.prog 2 := ⟨by kernel_rfl⟩
instance intTy2 : IntTy Try.prog 2 .i64 := ⟨by kernel_rfl⟩
instance zeroTy2 : ZeroTy Try.prog 2 (.int .i64 0) := ⟨by kernel_rfl⟩
instance bytesTy2 : BytesTy Try.prog 2 8 := ⟨by kernel_rfl⟩
instance cellTy3 : CellTy Try.prog 3 := ⟨by kernel_rfl⟩
instance stoTy3 : StoTy Try.prog 3 := ⟨by kernel_rfl⟩
instance intTy3 : IntTy Try.prog 3 .i64 := ⟨by kernel_rfl⟩
instance zeroTy3 : ZeroTy Try.prog 3 (.int .i64 0) := ⟨by kernel_rfl⟩
instance bytesTy3 : BytesTy Try.prog 3 8 := ⟨by kernel_rfl⟩
instance cellTy4 : CellTy Try.prog 4 := ⟨by kernel_rfl⟩
instance stoTy4 : StoTy Try.prog 4 := ⟨by kernel_rfl⟩
instance boolTy4 : BoolTy Try.prog 4 := ⟨by kernel_rfl⟩
instance zeroTy4 : ZeroTy Try.prog 4 (.bool false) := ⟨by kernel_rfl⟩
instance bytesTy4 : BytesTy Try.prog 4 1 := ⟨by kernel_rfl⟩
instance cellTy5 : CellTy Try.prog 5 := ⟨by kernel_rfl⟩
instance stoTy5 : StoTy Try.prog 5 := ⟨by kernel_rfl⟩
instance intTy5 : IntTy Try.prog 5 .u8 := ⟨by kernel_rfl⟩
instance zeroTy5 : ZeroTy Try.prog 5 (.int .u8 0) := ⟨by kernel_rfl⟩
instance bytesTy5 : BytesTy Try.prog 5 1 := ⟨by kernel_rfl⟩
instance cellTy6 : CellTy Try.prog 6 := ⟨by kernel_rfl⟩
instance stoTy6 : StoTy Try.prog 6 := ⟨by kernel_rfl⟩
instance intTy6 : IntTy Try.prog 6 .u8 := ⟨by kernel_rfl⟩
instance zeroTy6 : ZeroTy Try.prog 6 (.int .u8 0) := ⟨by kernel_rfl⟩
instance bytesTy6 : BytesTy Try.prog 6 1 := ⟨by kernel_rfl⟩
instance aggTy7 : AggTy Try.prog 7 4 := ⟨by kernel_rfl⟩
instance fldTy7_0 : FldTy Try.prog 7 0 2 0 := ⟨by kernel_rfl⟩
instance fldTy7_1 : FldTy Try.prog 7 1 3 1 := ⟨by kernel_rfl⟩
instance fldTy7_2 : FldTy Try.prog 7 2 4 2 := ⟨by kernel_rfl⟩
instance fldTy7_3 : FldTy Try.prog 7 3 6 3 := ⟨by kernel_rfl⟩
instance zeroTy7 : ZeroTy Try.prog 7 (.agg #[.int .i64 0, .int .i64 0, .bool false, .int .u8 0]) := ⟨by kernel_rfl⟩
instance bytesTy7 : BytesTy Try.prog 7 24 := ⟨by kernel_rfl⟩
instance aggTy8 : AggTy Try.prog 8 4 := ⟨by kernel_rfl⟩
instance fldTy8_0 : FldTy Try.prog 8 0 2 0 := ⟨by kernel_rfl⟩
instance fldTy8_1 : FldTy Try.prog 8 1 3 1 := ⟨by kernel_rfl⟩
instance fldTy8_2 : FldTy Try.prog 8 2 4 2 := ⟨by kernel_rfl⟩
instance fldTy8_3 : FldTy Try.prog 8 3 6 3 := ⟨by kernel_rfl⟩
instance zeroTy8 : ZeroTy Try.prog 8 (.agg #[.int .i64 0, .int .i64 0, .bool false, .int .u8 0]) := ⟨by kernel_rfl⟩
instance bytesTy8 : BytesTy Try.prog 8 24 := ⟨by kernel_rfl⟩
instance cellTy9 : CellTy Try.prog 9 := ⟨by kernel_rfl⟩
instance stoTy9 : StoTy Try.prog 9 := ⟨by kernel_rfl⟩
instance strTy9 : StrTy Try.prog 9 := ⟨by kernel_rfl⟩
instance zeroTy9 : ZeroTy Try.prog 9 (.string ⟨#[]⟩) := ⟨by kernel_rfl⟩
instance bytesTy9 : BytesTy Try.prog 9 16 := ⟨by kernel_rfl⟩
instance cellTy10 : CellTy Try.prog 10 := ⟨by kernel_rfl⟩
instance stoTy10 : StoTy Try.prog 10 := ⟨by kernel_rfl⟩
instance strTy10 : StrTy Try.prog 10 := ⟨by kernel_rfl⟩
instance zeroTy10 : ZeroTy Try.prog 10 (.string ⟨#[]⟩) := ⟨by kernel_rfl⟩
instance bytesTy10 : BytesTy Try.prog 10 16 := ⟨by kernel_rfl⟩
instance cellTy11 : CellTy Try.prog 11 := ⟨by kernel_rfl⟩
instance stoTy11 : StoTy Try.prog 11 := ⟨by kernel_rfl⟩
instance strTy11 : StrTy Try.prog 11 := ⟨by kernel_rfl⟩
instance zeroTy11 : ZeroTy Try.prog 11 (.string ⟨#[]⟩) := ⟨by kernel_rfl⟩
instance bytesTy11 : BytesTy Try.prog 11 16 := ⟨by kernel_rfl⟩
instance cellTy12 : CellTy Try.prog 12 := ⟨by kernel_rfl⟩
instance stoTy12 : StoTy Try.prog 12 := ⟨by kernel_rfl⟩
instance intTy12 : IntTy Try.prog 12 .u64 := ⟨by kernel_rfl⟩
instance zeroTy12 : ZeroTy Try.prog 12 (.int .u64 0) := ⟨by kernel_rfl⟩
instance bytesTy12 : BytesTy Try.prog 12 8 := ⟨by kernel_rfl⟩
instance aggTy13 : AggTy Try.prog 13 2 := ⟨by kernel_rfl⟩
instance fldTy13_0 : FldTy Try.prog 13 0 9 0 := ⟨by kernel_rfl⟩
instance fldTy13_1 : FldTy Try.prog 13 1 12 1 := ⟨by kernel_rfl⟩
instance zeroTy13 : ZeroTy Try.prog 13 (.agg #[.string ⟨#[]⟩, .int .u64 0]) := ⟨by kernel_rfl⟩
instance bytesTy13 : BytesTy Try.prog 13 24 := ⟨by kernel_rfl⟩
instance aggTy14 : AggTy Try.prog 14 2 := ⟨by kernel_rfl⟩
instance fldTy14_0 : FldTy Try.prog 14 0 9 0 := ⟨by kernel_rfl⟩
instance fldTy14_1 : FldTy Try.prog 14 1 12 1 := ⟨by kernel_rfl⟩
instance zeroTy14 : ZeroTy Try.prog 14 (.agg #[.string ⟨#[]⟩, .int .u64 0]) := ⟨by kernel_rfl⟩
instance bytesTy14 : BytesTy Try.prog 14 24 := ⟨by kernel_rfl⟩
instance cellTy15 : CellTy Try.prog 15 := ⟨by kernel_rfl⟩
instance stoTy15 : StoTy Try.prog 15 := ⟨by kernel_rfl⟩
instance zeroTy15 : ZeroTy Try.prog 15 (.pointer none) := ⟨by kernel_rfl⟩
instance bytesTy15 : BytesTy Try.prog 15 8 := ⟨by kernel_rfl⟩
instance cellTy16 : CellTy Try.prog 16 := ⟨by kernel_rfl⟩
instance stoTy16 : StoTy Try.prog 16 := ⟨by kernel_rfl⟩
instance zeroTy16 : ZeroTy Try.prog 16 (.pointer none) := ⟨by kernel_rfl⟩
instance bytesTy16 : BytesTy Try.prog 16 8 := ⟨by kernel_rfl⟩
instance cellTy17 : CellTy Try.prog 17 := ⟨by kernel_rfl⟩
instance stoTy17 : StoTy Try.prog 17 := ⟨by kernel_rfl⟩
instance zeroTy17 : ZeroTy Try.prog 17 (.pointer none) := ⟨by kernel_rfl⟩
instance bytesTy17 : BytesTy Try.prog 17 8 := ⟨by kernel_rfl⟩
instance aggTy18 : AggTy Try.prog 18 1 := ⟨by kernel_rfl⟩
instance fldTy18_0 : FldTy Try.prog 18 0 17 0 := ⟨by kernel_rfl⟩
instance zeroTy18 : ZeroTy Try.prog 18 (.agg #[.pointer none]) := ⟨by kernel_rfl⟩
instance bytesTy18 : BytesTy Try.prog 18 8 := ⟨by kernel_rfl⟩
instance aggTy19 : AggTy Try.prog 19 1 := ⟨by kernel_rfl⟩
instance fldTy19_0 : FldTy Try.prog 19 0 17 0 := ⟨by kernel_rfl⟩
instance zeroTy19 : ZeroTy Try.prog 19 (.agg #[.pointer none]) := ⟨by kernel_rfl⟩
instance bytesTy19 : BytesTy Try.prog 19 8 := ⟨by kernel_rfl⟩
instance cellTy20 : CellTy Try.prog 20 := ⟨by kernel_rfl⟩
instance stoTy20 : StoTy Try.prog 20 := ⟨by kernel_rfl⟩
instance zeroTy20 : ZeroTy Try.prog 20 (.nilIface) := ⟨by kernel_rfl⟩
instance bytesTy20 : BytesTy Try.prog 20 16 := ⟨by kernel_rfl⟩
instance cellTy21 : CellTy Try.prog 21 := ⟨by kernel_rfl⟩
instance stoTy21 : StoTy Try.prog 21 := ⟨by kernel_rfl⟩
instance intTy21 : IntTy Try.prog 21 .i32 := ⟨by kernel_rfl⟩
instance zeroTy21 : ZeroTy Try.prog 21 (.int .i32 0) := ⟨by kernel_rfl⟩
instance bytesTy21 : BytesTy Try.prog 21 4 := ⟨by kernel_rfl⟩
instance cellTy22 : CellTy Try.prog 22 := ⟨by kernel_rfl⟩
instance stoTy22 : StoTy Try.prog 22 := ⟨by kernel_rfl⟩
instance sliceTy22 : SliceTy Try.prog 22 60 5 := ⟨by kernel_rfl⟩
instance zeroTy22 : ZeroTy Try.prog 22 (.slice none 0 0) := ⟨by kernel_rfl⟩
instance bytesTy22 : BytesTy Try.prog 22 24 := ⟨by kernel_rfl⟩
instance cellTy23 : CellTy Try.prog 23 := ⟨by kernel_rfl⟩
instance stoTy23 : StoTy Try.prog 23 := ⟨by kernel_rfl⟩
instance zeroTy23 : ZeroTy Try.prog 23 (.nilFunc) := ⟨by kernel_rfl⟩
instance bytesTy23 : BytesTy Try.prog 23 8 := ⟨by kernel_rfl⟩
instance cellTy24 : CellTy Try.prog 24 := ⟨by kernel_rfl⟩
instance stoTy24 : StoTy Try.prog 24 := ⟨by kernel_rfl⟩
instance intTy24 : IntTy Try.prog 24 .i64 := ⟨by kernel_rfl⟩
instance zeroTy24 : ZeroTy Try.prog 24 (.int .i64 0) := ⟨by kernel_rfl⟩
instance bytesTy24 : BytesTy Try.prog 24 8 := ⟨by kernel_rfl⟩
instance cellTy25 : CellTy Try.prog 25 := ⟨by kernel_rfl⟩
instance stoTy25 : StoTy Try.prog 25 := ⟨by kernel_rfl⟩
instance zeroTy25 : ZeroTy Try.prog 25 (.tuple #[.slice none 0 0, .int .i64 0]) := ⟨by kernel_rfl⟩
instance bytesTy25 : BytesTy Try.prog 25 0 := ⟨by kernel_rfl⟩
instance cellTy26 : CellTy Try.prog 26 := ⟨by kernel_rfl⟩
instance stoTy26 : StoTy Try.prog 26 := ⟨by kernel_rfl⟩
instance zeroTy26 : ZeroTy Try.prog 26 (.nilFunc) := ⟨by kernel_rfl⟩
instance bytesTy26 : BytesTy Try.prog 26 8 := ⟨by kernel_rfl⟩
instance cellTy27 : CellTy Try.prog 27 := ⟨by kernel_rfl⟩
instance stoTy27 : StoTy Try.prog 27 := ⟨by kernel_rfl⟩
instance zeroTy27 : ZeroTy Try.prog 27 (.nilFunc) := ⟨by kernel_rfl⟩
instance bytesTy27 : BytesTy Try.prog 27 8 := ⟨by kernel_rfl⟩
instance cellTy28 : CellTy Try.prog 28 := ⟨by kernel_rfl⟩
instance stoTy28 : StoTy Try.prog 28 := ⟨by kernel_rfl⟩
instance zeroTy28 : ZeroTy Try.prog 28 (.nilFunc) := ⟨by kernel_rfl⟩
instance bytesTy28 : BytesTy Try.prog 28 8 := ⟨by kernel_rfl⟩
instance aggTy29 : AggTy Try.prog 29 2 := ⟨by kernel_rfl⟩
instance fldTy29_0 : FldTy Try.prog 29 0 3 0 := ⟨by kernel_rfl⟩
instance fldTy29_1 : FldTy Try.prog 29 1 3 1 := ⟨by kernel_rfl⟩
instance zeroTy29 : ZeroTy Try.prog 29 (.agg #[.int .i64 0, .int .i64 0]) := ⟨by kernel_rfl⟩
instance bytesTy29 : BytesTy Try.prog 29 16 := ⟨by kernel_rfl⟩
instance aggTy30 : AggTy Try.prog 30 2 := ⟨by kernel_rfl⟩
instance fldTy30_0 : FldTy Try.prog 30 0 3 0 := ⟨by kernel_rfl⟩
instance fldTy30_1 : FldTy Try.prog 30 1 3 1 := ⟨by kernel_rfl⟩
instance zeroTy30 : ZeroTy Try.prog 30 (.agg #[.int .i64 0, .int .i64 0]) := ⟨by kernel_rfl⟩
instance bytesTy30 : BytesTy Try.prog 30 16 := ⟨by kernel_rfl⟩
instance cellTy31 : CellTy Try.prog 31 := ⟨by kernel_rfl⟩
instance stoTy31 : StoTy Try.prog 31 := ⟨by kernel_rfl⟩
instance sliceTy31 : SliceTy Try.prog 31 47 12 := ⟨by kernel_rfl⟩
instance zeroTy31 : ZeroTy Try.prog 31 (.slice none 0 0) := ⟨by kernel_rfl⟩
instance bytesTy31 : BytesTy Try.prog 31 24 := ⟨by kernel_rfl⟩
instance cellTy32 : CellTy Try.prog 32 := ⟨by kernel_rfl⟩
instance stoTy32 : StoTy Try.prog 32 := ⟨by kernel_rfl⟩
instance sliceTy32 : SliceTy Try.prog 32 96 4 := ⟨by kernel_rfl⟩
instance zeroTy32 : ZeroTy Try.prog 32 (.slice none 0 0) := ⟨by kernel_rfl⟩
instance bytesTy32 : BytesTy Try.prog 32 24 := ⟨by kernel_rfl⟩
instance cellTy33 : CellTy Try.prog 33 := ⟨by kernel_rfl⟩
instance stoTy33 : StoTy Try.prog 33 := ⟨by kernel_rfl⟩
instance sliceTy33 : SliceTy Try.prog 33 130 2 := ⟨by kernel_rfl⟩
instance zeroTy33 : ZeroTy Try.prog 33 (.slice none 0 0) := ⟨by kernel_rfl⟩
instance bytesTy33 : BytesTy Try.prog 33 24 := ⟨by kernel_rfl⟩
instance cellTy34 : CellTy Try.prog 34 := ⟨by kernel_rfl⟩
instance stoTy34 : StoTy Try.prog 34 := ⟨by kernel_rfl⟩
instance sliceTy34 : SliceTy Try.prog 34 94 10 := ⟨by kernel_rfl⟩
instance zeroTy34 : ZeroTy Try.prog 34 (.slice none 0 0) := ⟨by kernel_rfl⟩
instance bytesTy34 : BytesTy Try.prog 34 24 := ⟨by kernel_rfl⟩
instance cellTy35 : CellTy Try.prog 35 := ⟨by kernel_rfl⟩
instance stoTy35 : StoTy Try.prog 35 := ⟨by kernel_rfl⟩
instance sliceTy35 : SliceTy Try.prog 35 134 4 := ⟨by kernel_rfl⟩
instance zeroTy35 : ZeroTy Try.prog 35 (.slice none 0 0) := ⟨by kernel_rfl⟩
instance bytesTy35 : BytesTy Try.prog 35 24 := ⟨by kernel_rfl⟩
instance cellTy36 : CellTy Try.prog 36 := ⟨by kernel_rfl⟩
instance stoTy36 : StoTy Try.prog 36 := ⟨by kernel_rfl⟩
instance sliceTy36 : SliceTy Try.prog 36 197 4 := ⟨by kernel_rfl⟩
instance zeroTy36 : ZeroTy Try.prog 36 (.slice none 0 0) := ⟨by kernel_rfl⟩
instance bytesTy36 : BytesTy Try.prog 36 24 := ⟨by kernel_rfl⟩
instance aggTy37 : AggTy Try.prog 37 10 := ⟨by kernel_rfl⟩
instance fldTy37_0 : FldTy Try.prog 37 0 9 0 := ⟨by kernel_rfl⟩
instance fldTy37_1 : FldTy Try.prog 37 1 3 1 := ⟨by kernel_rfl⟩
instance fldTy37_2 : FldTy Try.prog 37 2 30 2 := ⟨by kernel_rfl⟩
instance fldTy37_3 : FldTy Try.prog 37 3 31 4 := ⟨by kernel_rfl⟩
instance fldTy37_4 : FldTy Try.prog 37 4 32 5 := ⟨by kernel_rfl⟩
instance fldTy37_5 : FldTy Try.prog 37 5 33 6 := ⟨by kernel_rfl⟩
instance fldTy37_6 : FldTy Try.prog 37 6 34 7 := ⟨by kernel_rfl⟩
instance fldTy37_7 : FldTy Try.prog 37 7 35 8 := ⟨by kernel_rfl⟩
instance fldTy37_8 : FldTy Try.prog 37 8 36 9 := ⟨by kernel_rfl⟩
instance zeroTy37 : ZeroTy Try.prog 37 (.agg #[.string ⟨#[]⟩, .int .i64 0, .int .i64 0, .int .i64 0, .slice none 0 0, .slice none 0 0, .slice none 0 0, .slice none 0 0, .slice none 0 0, .slice none 0 0]) := ⟨by kernel_rfl⟩
instance bytesTy37 : BytesTy Try.prog 37 184 := ⟨by kernel_rfl⟩
instance aggTy38 : AggTy Try.prog 38 10 := ⟨by kernel_rfl⟩
instance fldTy38_0 : FldTy Try.prog 38 0 9 0 := ⟨by kernel_rfl⟩
instance fldTy38_1 : FldTy Try.prog 38 1 3 1 := ⟨by kernel_rfl⟩
instance fldTy38_2 : FldTy Try.prog 38 2 30 2 := ⟨by kernel_rfl⟩
instance fldTy38_3 : FldTy Try.prog 38 3 31 4 := ⟨by kernel_rfl⟩
instance fldTy38_4 : FldTy Try.prog 38 4 32 5 := ⟨by kernel_rfl⟩
instance fldTy38_5 : FldTy Try.prog 38 5 33 6 := ⟨by kernel_rfl⟩
instance fldTy38_6 : FldTy Try.prog 38 6 34 7 := ⟨by kernel_rfl⟩
instance fldTy38_7 : FldTy Try.prog 38 7 35 8 := ⟨by kernel_rfl⟩
instance fldTy38_8 : FldTy Try.prog 38 8 36 9 := ⟨by kernel_rfl⟩
instance zeroTy38 : ZeroTy Try.prog 38 (.agg #[.string ⟨#[]⟩, .int .i64 0, .int .i64 0, .int .i64 0, .slice none 0 0, .slice none 0 0, .slice none 0 0, .slice none 0 0, .slice none 0 0, .slice none 0 0]) := ⟨by kernel_rfl⟩
instance bytesTy38 : BytesTy Try.prog 38 184 := ⟨by kernel_rfl⟩
instance cellTy39 : CellTy Try.prog 39 := ⟨by kernel_rfl⟩
instance stoTy39 : StoTy Try.prog 39 := ⟨by kernel_rfl⟩
instance sliceTy39 : SliceTy Try.prog 39 3 1 := ⟨by kernel_rfl⟩
instance zeroTy39 : ZeroTy Try.prog 39 (.slice none 0 0) := ⟨by kernel_rfl⟩
instance bytesTy39 : BytesTy Try.prog 39 24 := ⟨by kernel_rfl⟩
instance cellTy40 : CellTy Try.prog 40 := ⟨by kernel_rfl⟩
instance stoTy40 : StoTy Try.prog 40 := ⟨by kernel_rfl⟩
instance zeroTy40 : ZeroTy Try.prog 40 (.nilFunc) := ⟨by kernel_rfl⟩
instance bytesTy40 : BytesTy Try.prog 40 8 := ⟨by kernel_rfl⟩
instance aggTy41 : AggTy Try.prog 41 2 := ⟨by kernel_rfl⟩
instance fldTy41_0 : FldTy Try.prog 41 0 3 0 := ⟨by kernel_rfl⟩
instance fldTy41_1 : FldTy Try.prog 41 1 3 1 := ⟨by kernel_rfl⟩
instance zeroTy41 : ZeroTy Try.prog 41 (.agg #[.int .i64 0, .int .i64 0]) := ⟨by kernel_rfl⟩
instance bytesTy41 : BytesTy Try.prog 41 16 := ⟨by kernel_rfl⟩
instance aggTy42 : AggTy Try.prog 42 2 := ⟨by kernel_rfl⟩
instance fldTy42_0 : FldTy Try.prog 42 0 3 0 := ⟨by kernel_rfl⟩
instance fldTy42_1 : FldTy Try.prog 42 1 3 1 := ⟨by kernel_rfl⟩
instance zeroTy42 : ZeroTy Try.prog 42 (.agg #[.int .i64 0, .int .i64 0]) := ⟨by kernel_rfl⟩
instance bytesTy42 : BytesTy Try.prog 42 16 := ⟨by kernel_rfl⟩
instance aggTy43 : AggTy Try.prog 43 2 := ⟨by kernel_rfl⟩
instance fldTy43_0 : FldTy Try.prog 43 0 3 0 := ⟨by kernel_rfl⟩
instance fldTy43_1 : FldTy Try.prog 43 1 3 1 := ⟨by kernel_rfl⟩
instance zeroTy43 : ZeroTy Try.prog 43 (.agg #[.int .i64 0, .int .i64 0]) := ⟨by kernel_rfl⟩
instance bytesTy43 : BytesTy Try.prog 43 16 := ⟨by kernel_rfl⟩
instance aggTy44 : AggTy Try.prog 44 2 := ⟨by kernel_rfl⟩
instance fldTy44_0 : FldTy Try.prog 44 0 3 0 := ⟨by kernel_rfl⟩
instance fldTy44_1 : FldTy Try.prog 44 1 3 1 := ⟨by kernel_rfl⟩
instance zeroTy44 : ZeroTy Try.prog 44 (.agg #[.int .i64 0, .int .i64 0]) := ⟨by kernel_rfl⟩
instance bytesTy44 : BytesTy Try.prog 44 16 := ⟨by kernel_rfl⟩
instance aggTy45 : AggTy Try.prog 45 4 := ⟨by kernel_rfl⟩
instance arrTy45 : ArrTy Try.prog 45 2 44 2 := ⟨by kernel_rfl⟩
instance zeroTy45 : ZeroTy Try.prog 45 (.agg #[.int .i64 0, .int .i64 0, .int .i64 0, .int .i64 0]) := ⟨by kernel_rfl⟩
instance bytesTy45 : BytesTy Try.prog 45 32 := ⟨by kernel_rfl⟩
instance aggTy46 : AggTy Try.prog 46 12 := ⟨by kernel_rfl⟩
instance fldTy46_0 : FldTy Try.prog 46 0 9 0 := ⟨by kernel_rfl⟩
instance fldTy46_1 : FldTy Try.prog 46 1 3 1 := ⟨by kernel_rfl⟩
instance fldTy46_2 : FldTy Try.prog 46 2 3 2 := ⟨by kernel_rfl⟩
instance fldTy46_3 : FldTy Try.prog 46 3 3 3 := ⟨by kernel_rfl⟩
instance fldTy46_4 : FldTy Try.prog 46 4 3 4 := ⟨by kernel_rfl⟩
instance fldTy46_5 : FldTy Try.prog 46 5 3 5 := ⟨by kernel_rfl⟩
instance fldTy46_6 : FldTy Try.prog 46 6 42 6 := ⟨by kernel_rfl⟩
instance fldTy46_7 : FldTy Try.prog 46 7 45 8 := ⟨by kernel_rfl⟩
instance zeroTy46 : ZeroTy Try.prog 46 (.agg #[.string ⟨#[]⟩, .int .i64 0, .int .i64 0, .int .i64 0, .int .i64 0, .int .i64 0, .int .i64 0, .int .i64 0, .int .i64 0, .int .i64 0, .int .i64 0, .int .i64 0]) := ⟨by kernel_rfl⟩
instance bytesTy46 : BytesTy Try.prog 46 104 := ⟨by kernel_rfl⟩
instance aggTy47 : AggTy Try.prog 47 12 := ⟨by kernel_rfl⟩
instance fldTy47_0 : FldTy Try.prog 47 0 9 0 := ⟨by kernel_rfl⟩
instance fldTy47_1 : FldTy Try.prog 47 1 3 1 := ⟨by kernel_rfl⟩
instance fldTy47_2 : FldTy Try.prog 47 2 3 2 := ⟨by kernel_rfl⟩
instance fldTy47_3 : FldTy Try.prog 47 3 3 3 := ⟨by kernel_rfl⟩
instance fldTy47_4 : FldTy Try.prog 47 4 3 4 := ⟨by kernel_rfl⟩
instance fldTy47_5 : FldTy Try.prog 47 5 3 5 := ⟨by kernel_rfl⟩
instance fldTy47_6 : FldTy Try.prog 47 6 42 6 := ⟨by kernel_rfl⟩
instance fldTy47_7 : FldTy Try.prog 47 7 45 8 := ⟨by kernel_rfl⟩
instance zeroTy47 : ZeroTy Try.prog 47 (.agg #[.string ⟨#[]⟩, .int .i64 0, .int .i64 0, .int .i64 0, .int .i64 0, .int .i64 0, .int .i64 0, .int .i64 0, .int .i64 0, .int .i64 0, .int .i64 0, .int .i64 0]) := ⟨by kernel_rfl⟩
instance bytesTy47 : BytesTy Try.prog 47 104 := ⟨by kernel_rfl⟩
instance cellTy48 : CellTy Try.prog 48 := ⟨by kernel_rfl⟩
instance stoTy48 : StoTy Try.prog 48 := ⟨by kernel_rfl⟩
instance zeroTy48 : ZeroTy Try.prog 48 (.tuple #[.int .i64 0, .slice none 0 0, .int .i64 0]) := ⟨by kernel_rfl⟩
instance bytesTy48 : BytesTy Try.prog 48 0 := ⟨by kernel_rfl⟩
instance cellTy49 : CellTy Try.prog 49 := ⟨by kernel_rfl⟩
instance stoTy49 : StoTy Try.prog 49 := ⟨by kernel_rfl⟩
instance zeroTy49 : ZeroTy Try.prog 49 (.nilFunc) := ⟨by kernel_rfl⟩
instance bytesTy49 : BytesTy Try.prog 49 8 := ⟨by kernel_rfl⟩
instance cellTy50 : CellTy Try.prog 50 := ⟨by kernel_rfl⟩
instance stoTy50 : StoTy Try.prog 50 := ⟨by kernel_rfl⟩
instance zeroTy50 : ZeroTy Try.prog 50 (.nilFunc) := ⟨by kernel_rfl⟩
instance bytesTy50 : BytesTy Try.prog 50 8 := ⟨by kernel_rfl⟩
instance cellTy51 : CellTy Try.prog 51 := ⟨by kernel_rfl⟩
instance stoTy51 : StoTy Try.prog 51 := ⟨by kernel_rfl⟩
instance sliceTy51 : SliceTy Try.prog 51 55 5 := ⟨by kernel_rfl⟩
instance zeroTy51 : ZeroTy Try.prog 51 (.slice none 0 0) := ⟨by kernel_rfl⟩
instance bytesTy51 : BytesTy Try.prog 51 24 := ⟨by kernel_rfl⟩
instance cellTy52 : CellTy Try.prog 52 := ⟨by kernel_rfl⟩
instance stoTy52 : StoTy Try.prog 52 := ⟨by kernel_rfl⟩
instance zeroTy52 : ZeroTy Try.prog 52 (.tuple #[.slice none 0 0, .slice none 0 0, .int .i64 0]) := ⟨by kernel_rfl⟩
instance bytesTy52 : BytesTy Try.prog 52 0 := ⟨by kernel_rfl⟩
instance cellTy53 : CellTy Try.prog 53 := ⟨by kernel_rfl⟩
instance stoTy53 : StoTy Try.prog 53 := ⟨by kernel_rfl⟩
instance zeroTy53 : ZeroTy Try.prog 53 (.nilFunc) := ⟨by kernel_rfl⟩
instance bytesTy53 : BytesTy Try.prog 53 8 := ⟨by kernel_rfl⟩
instance aggTy54 : AggTy Try.prog 54 5 := ⟨by kernel_rfl⟩
instance fldTy54_0 : FldTy Try.prog 54 0 3 0 := ⟨by kernel_rfl⟩
instance fldTy54_1 : FldTy Try.prog 54 1 3 1 := ⟨by kernel_rfl⟩
instance fldTy54_2 : FldTy Try.prog 54 2 3 2 := ⟨by kernel_rfl⟩
instance fldTy54_3 : FldTy Try.prog 54 3 42 3 := ⟨by kernel_rfl⟩
instance zeroTy54 : ZeroTy Try.prog 54 (.agg #[.int .i64 0, .int .i64 0, .int .i64 0, .int .i64 0, .int .i64 0]) := ⟨by kernel_rfl⟩
instance bytesTy54 : BytesTy Try.prog 54 40 := ⟨by kernel_rfl⟩
instance aggTy55 : AggTy Try.prog 55 5 := ⟨by kernel_rfl⟩
instance fldTy55_0 : FldTy Try.prog 55 0 3 0 := ⟨by kernel_rfl⟩
instance fldTy55_1 : FldTy Try.prog 55 1 3 1 := ⟨by kernel_rfl⟩
instance fldTy55_2 : FldTy Try.prog 55 2 3 2 := ⟨by kernel_rfl⟩
instance fldTy55_3 : FldTy Try.prog 55 3 42 3 := ⟨by kernel_rfl⟩
instance zeroTy55 : ZeroTy Try.prog 55 (.agg #[.int .i64 0, .int .i64 0, .int .i64 0, .int .i64 0, .int .i64 0]) := ⟨by kernel_rfl⟩
instance bytesTy55 : BytesTy Try.prog 55 40 := ⟨by kernel_rfl⟩
instance cellTy56 : CellTy Try.prog 56 := ⟨by kernel_rfl⟩
instance stoTy56 : StoTy Try.prog 56 := ⟨by kernel_rfl⟩
instance zeroTy56 : ZeroTy Try.prog 56 (.nilFunc) := ⟨by kernel_rfl⟩
instance bytesTy56 : BytesTy Try.prog 56 8 := ⟨by kernel_rfl⟩
instance cellTy57 : CellTy Try.prog 57 := ⟨by kernel_rfl⟩
instance stoTy57 : StoTy Try.prog 57 := ⟨by kernel_rfl⟩
instance zeroTy57 : ZeroTy Try.prog 57 (.nilFunc) := ⟨by kernel_rfl⟩
instance bytesTy57 : BytesTy Try.prog 57 8 := ⟨by kernel_rfl⟩
instance cellTy58 : CellTy Try.prog 58 := ⟨by kernel_rfl⟩
instance stoTy58 : StoTy Try.prog 58 := ⟨by kernel_rfl⟩
instance mapTy58 : MapTy Try.prog 58 63 3 := ⟨by kernel_rfl⟩
instance zeroTy58 : ZeroTy Try.prog 58 (.map none) := ⟨by kernel_rfl⟩
instance bytesTy58 : BytesTy Try.prog 58 8 := ⟨by kernel_rfl⟩
instance aggTy59 : AggTy Try.prog 59 5 := ⟨by kernel_rfl⟩
instance fldTy59_0 : FldTy Try.prog 59 0 3 0 := ⟨by kernel_rfl⟩
instance fldTy59_1 : FldTy Try.prog 59 1 3 1 := ⟨by kernel_rfl⟩
instance fldTy59_2 : FldTy Try.prog 59 2 3 2 := ⟨by kernel_rfl⟩
instance fldTy59_3 : FldTy Try.prog 59 3 3 3 := ⟨by kernel_rfl⟩
instance fldTy59_4 : FldTy Try.prog 59 4 3 4 := ⟨by kernel_rfl⟩
instance zeroTy59 : ZeroTy Try.prog 59 (.agg #[.int .i64 0, .int .i64 0, .int .i64 0, .int .i64 0, .int .i64 0]) := ⟨by kernel_rfl⟩
instance bytesTy59 : BytesTy Try.prog 59 40 := ⟨by kernel_rfl⟩
instance aggTy60 : AggTy Try.prog 60 5 := ⟨by kernel_rfl⟩
instance fldTy60_0 : FldTy Try.prog 60 0 3 0 := ⟨by kernel_rfl⟩
instance fldTy60_1 : FldTy Try.prog 60 1 3 1 := ⟨by kernel_rfl⟩
instance fldTy60_2 : FldTy Try.prog 60 2 3 2 := ⟨by kernel_rfl⟩
instance fldTy60_3 : FldTy Try.prog 60 3 3 3 := ⟨by kernel_rfl⟩
instance fldTy60_4 : FldTy Try.prog 60 4 3 4 := ⟨by kernel_rfl⟩
instance zeroTy60 : ZeroTy Try.prog 60 (.agg #[.int .i64 0, .int .i64 0, .int .i64 0, .int .i64 0, .int .i64 0]) := ⟨by kernel_rfl⟩
instance bytesTy60 : BytesTy Try.prog 60 40 := ⟨by kernel_rfl⟩
instance cellTy61 : CellTy Try.prog 61 := ⟨by kernel_rfl⟩
instance stoTy61 : StoTy Try.prog 61 := ⟨by kernel_rfl⟩
instance zeroTy61 : ZeroTy Try.prog 61 (.pointer none) := ⟨by kernel_rfl⟩
instance bytesTy61 : BytesTy Try.prog 61 8 := ⟨by kernel_rfl⟩
instance aggTy62 : AggTy Try.prog 62 3 := ⟨by kernel_rfl⟩
instance fldTy62_0 : FldTy Try.prog 62 0 3 0 := ⟨by kernel_rfl⟩
instance fldTy62_1 : FldTy Try.prog 62 1 3 1 := ⟨by kernel_rfl⟩
instance fldTy62_2 : FldTy Try.prog 62 2 3 2 := ⟨by kernel_rfl⟩
instance zeroTy62 : ZeroTy Try.prog 62 (.agg #[.int .i64 0, .int .i64 0, .int .i64 0]) := ⟨by kernel_rfl⟩
instance bytesTy62 : BytesTy Try.prog 62 24 := ⟨by kernel_rfl⟩
instance aggTy63 : AggTy Try.prog 63 3 := ⟨by kernel_rfl⟩
instance fldTy63_0 : FldTy Try.prog 63 0 3 0 := ⟨by kernel_rfl⟩
instance fldTy63_1 : FldTy Try.prog 63 1 3 1 := ⟨by kernel_rfl⟩
instance fldTy63_2 : FldTy Try.prog 63 2 3 2 := ⟨by kernel_rfl⟩
instance zeroTy63 : ZeroTy Try.prog 63 (.agg #[.int .i64 0, .int .i64 0, .int .i64 0]) := ⟨by kernel_rfl⟩
instance bytesTy63 : BytesTy Try.prog 63 24 := ⟨by kernel_rfl⟩
instance cellTy64 : CellTy Try.prog 64 := ⟨by kernel_rfl⟩
instance stoTy64 : StoTy Try.prog 64 := ⟨by kernel_rfl⟩
instance zeroTy64 : ZeroTy Try.prog 64 (.nilFunc) := ⟨by kernel_rfl⟩
instance bytesTy64 : BytesTy Try.prog 64 8 := ⟨by kernel_rfl⟩
instance cellTy65 : CellTy Try.prog 65 := ⟨by kernel_rfl⟩
instance stoTy65 : StoTy Try.prog 65 := ⟨by kernel_rfl⟩
instance zeroTy65 : ZeroTy Try.prog 65 (.tuple #[.int .i64 0, .bool false]) := ⟨by kernel_rfl⟩
instance bytesTy65 : BytesTy Try.prog 65 0 := ⟨by kernel_rfl⟩
instance cellTy66 : CellTy Try.prog 66 := ⟨by kernel_rfl⟩
instance stoTy66 : StoTy Try.prog 66 := ⟨by kernel_rfl⟩
instance zeroTy66 : ZeroTy Try.prog 66 (.nilFunc) := ⟨by kernel_rfl⟩
instance bytesTy66 : BytesTy Try.prog 66 8 := ⟨by kernel_rfl⟩
instance cellTy67 : CellTy Try.prog 67 := ⟨by kernel_rfl⟩
instance stoTy67 : StoTy Try.prog 67 := ⟨by kernel_rfl⟩
instance zeroTy67 : ZeroTy Try.prog 67 (.nilFunc) := ⟨by kernel_rfl⟩
instance bytesTy67 : BytesTy Try.prog 67 8 := ⟨by kernel_rfl⟩
instance cellTy68 : CellTy Try.prog 68 := ⟨by kernel_rfl⟩
instance stoTy68 : StoTy Try.prog 68 := ⟨by kernel_rfl⟩
instance zeroTy68 : ZeroTy Try.prog 68 (.nilFunc) := ⟨by kernel_rfl⟩
instance bytesTy68 : BytesTy Try.prog 68 8 := ⟨by kernel_rfl⟩
instance cellTy69 : CellTy Try.prog 69 := ⟨by kernel_rfl⟩
instance stoTy69 : StoTy Try.prog 69 := ⟨by kernel_rfl⟩
instance mapTy69 : MapTy Try.prog 69 73 3 := ⟨by kernel_rfl⟩
instance zeroTy69 : ZeroTy Try.prog 69 (.map none) := ⟨by kernel_rfl⟩
instance bytesTy69 : BytesTy Try.prog 69 8 := ⟨by kernel_rfl⟩
instance cellTy70 : CellTy Try.prog 70 := ⟨by kernel_rfl⟩
instance stoTy70 : StoTy Try.prog 70 := ⟨by kernel_rfl⟩
instance zeroTy70 : ZeroTy Try.prog 70 (.nilFunc) := ⟨by kernel_rfl⟩
instance bytesTy70 : BytesTy Try.prog 70 8 := ⟨by kernel_rfl⟩
instance cellTy71 : CellTy Try.prog 71 := ⟨by kernel_rfl⟩
instance stoTy71 : StoTy Try.prog 71 := ⟨by kernel_rfl⟩
instance zeroTy71 : ZeroTy Try.prog 71 (.nilFunc) := ⟨by kernel_rfl⟩
instance bytesTy71 : BytesTy Try.prog 71 8 := ⟨by kernel_rfl⟩
instance aggTy72 : AggTy Try.prog 72 4 := ⟨by kernel_rfl⟩
instance fldTy72_0 : FldTy Try.prog 72 0 3 0 := ⟨by kernel_rfl⟩
instance fldTy72_1 : FldTy Try.prog 72 1 3 1 := ⟨by kernel_rfl⟩
instance fldTy72_2 : FldTy Try.prog 72 2 3 2 := ⟨by kernel_rfl⟩
instance fldTy72_3 : FldTy Try.prog 72 3 3 3 := ⟨by kernel_rfl⟩
instance zeroTy72 : ZeroTy Try.prog 72 (.agg #[.int .i64 0, .int .i64 0, .int .i64 0, .int .i64 0]) := ⟨by kernel_rfl⟩
instance bytesTy72 : BytesTy Try.prog 72 32 := ⟨by kernel_rfl⟩
instance aggTy73 : AggTy Try.prog 73 4 := ⟨by kernel_rfl⟩
instance fldTy73_0 : FldTy Try.prog 73 0 3 0 := ⟨by kernel_rfl⟩
instance fldTy73_1 : FldTy Try.prog 73 1 3 1 := ⟨by kernel_rfl⟩
instance fldTy73_2 : FldTy Try.prog 73 2 3 2 := ⟨by kernel_rfl⟩
instance fldTy73_3 : FldTy Try.prog 73 3 3 3 := ⟨by kernel_rfl⟩
instance zeroTy73 : ZeroTy Try.prog 73 (.agg #[.int .i64 0, .int .i64 0, .int .i64 0, .int .i64 0]) := ⟨by kernel_rfl⟩
instance bytesTy73 : BytesTy Try.prog 73 32 := ⟨by kernel_rfl⟩
instance cellTy74 : CellTy Try.prog 74 := ⟨by kernel_rfl⟩
instance stoTy74 : StoTy Try.prog 74 := ⟨by kernel_rfl⟩
instance zeroTy74 : ZeroTy Try.prog 74 (.nilFunc) := ⟨by kernel_rfl⟩
instance bytesTy74 : BytesTy Try.prog 74 8 := ⟨by kernel_rfl⟩
instance cellTy75 : CellTy Try.prog 75 := ⟨by kernel_rfl⟩
instance stoTy75 : StoTy Try.prog 75 := ⟨by kernel_rfl⟩
instance zeroTy75 : ZeroTy Try.prog 75 (.nilFunc) := ⟨by kernel_rfl⟩
instance bytesTy75 : BytesTy Try.prog 75 8 := ⟨by kernel_rfl⟩
instance cellTy76 : CellTy Try.prog 76 := ⟨by kernel_rfl⟩
instance stoTy76 : StoTy Try.prog 76 := ⟨by kernel_rfl⟩
instance zeroTy76 : ZeroTy Try.prog 76 (.nilFunc) := ⟨by kernel_rfl⟩
instance bytesTy76 : BytesTy Try.prog 76 8 := ⟨by kernel_rfl⟩
instance cellTy77 : CellTy Try.prog 77 := ⟨by kernel_rfl⟩
instance stoTy77 : StoTy Try.prog 77 := ⟨by kernel_rfl⟩
instance zeroTy77 : ZeroTy Try.prog 77 (.nilFunc) := ⟨by kernel_rfl⟩
instance bytesTy77 : BytesTy Try.prog 77 8 := ⟨by kernel_rfl⟩
instance cellTy78 : CellTy Try.prog 78 := ⟨by kernel_rfl⟩
instance stoTy78 : StoTy Try.prog 78 := ⟨by kernel_rfl⟩
instance zeroTy78 : ZeroTy Try.prog 78 (.nilFunc) := ⟨by kernel_rfl⟩
instance bytesTy78 : BytesTy Try.prog 78 8 := ⟨by kernel_rfl⟩
instance cellTy79 : CellTy Try.prog 79 := ⟨by kernel_rfl⟩
instance stoTy79 : StoTy Try.prog 79 := ⟨by kernel_rfl⟩
instance zeroTy79 : ZeroTy Try.prog 79 (.nilFunc) := ⟨by kernel_rfl⟩
instance bytesTy79 : BytesTy Try.prog 79 8 := ⟨by kernel_rfl⟩
instance cellTy80 : CellTy Try.prog 80 := ⟨by kernel_rfl⟩
instance stoTy80 : StoTy Try.prog 80 := ⟨by kernel_rfl⟩
instance zeroTy80 : ZeroTy Try.prog 80 (.nilFunc) := ⟨by kernel_rfl⟩
instance bytesTy80 : BytesTy Try.prog 80 8 := ⟨by kernel_rfl⟩
instance cellTy81 : CellTy Try.prog 81 := ⟨by kernel_rfl⟩
instance stoTy81 : StoTy Try.prog 81 := ⟨by kernel_rfl⟩
instance zeroTy81 : ZeroTy Try.prog 81 (.nilFunc) := ⟨by kernel_rfl⟩
instance bytesTy81 : BytesTy Try.prog 81 8 := ⟨by kernel_rfl⟩
instance cellTy82 : CellTy Try.prog 82 := ⟨by kernel_rfl⟩
instance stoTy82 : StoTy Try.prog 82 := ⟨by kernel_rfl⟩
instance zeroTy82 : ZeroTy Try.prog 82 (.nilFunc) := ⟨by kernel_rfl⟩
instance bytesTy82 : BytesTy Try.prog 82 8 := ⟨by kernel_rfl⟩
instance cellTy83 : CellTy Try.prog 83 := ⟨by kernel_rfl⟩
instance stoTy83 : StoTy Try.prog 83 := ⟨by kernel_rfl⟩
instance zeroTy83 : ZeroTy Try.prog 83 (.nilFunc) := ⟨by kernel_rfl⟩
instance bytesTy83 : BytesTy Try.prog 83 8 := ⟨by kernel_rfl⟩
instance cellTy84 : CellTy Try.prog 84 := ⟨by kernel_rfl⟩
instance stoTy84 : StoTy Try.prog 84 := ⟨by kernel_rfl⟩
instance zeroTy84 : ZeroTy Try.prog 84 (.nilFunc) := ⟨by kernel_rfl⟩
instance bytesTy84 : BytesTy Try.prog 84 8 := ⟨by kernel_rfl⟩
instance cellTy85 : CellTy Try.prog 85 := ⟨by kernel_rfl⟩
instance stoTy85 : StoTy Try.prog 85 := ⟨by kernel_rfl⟩
instance zeroTy85 : ZeroTy Try.prog 85 (.tuple #[.slice none 0 0, .bool false]) := ⟨by kernel_rfl⟩
instance bytesTy85 : BytesTy Try.prog 85 0 := ⟨by kernel_rfl⟩
instance cellTy86 : CellTy Try.prog 86 := ⟨by kernel_rfl⟩
instance stoTy86 : StoTy Try.prog 86 := ⟨by kernel_rfl⟩
instance zeroTy86 : ZeroTy Try.prog 86 (.nilFunc) := ⟨by kernel_rfl⟩
instance bytesTy86 : BytesTy Try.prog 86 8 := ⟨by kernel_rfl⟩
instance cellTy87 : CellTy Try.prog 87 := ⟨by kernel_rfl⟩
instance stoTy87 : StoTy Try.prog 87 := ⟨by kernel_rfl⟩
instance zeroTy87 : ZeroTy Try.prog 87 (.tuple #[.int .i64 0, .slice none 0 0]) := ⟨by kernel_rfl⟩
instance bytesTy87 : BytesTy Try.prog 87 0 := ⟨by kernel_rfl⟩
instance cellTy88 : CellTy Try.prog 88 := ⟨by kernel_rfl⟩
instance stoTy88 : StoTy Try.prog 88 := ⟨by kernel_rfl⟩
instance zeroTy88 : ZeroTy Try.prog 88 (.nilFunc) := ⟨by kernel_rfl⟩
instance bytesTy88 : BytesTy Try.prog 88 8 := ⟨by kernel_rfl⟩
instance cellTy89 : CellTy Try.prog 89 := ⟨by kernel_rfl⟩
instance stoTy89 : StoTy Try.prog 89 := ⟨by kernel_rfl⟩
instance zeroTy89 : ZeroTy Try.prog 89 (.nilFunc) := ⟨by kernel_rfl⟩
instance bytesTy89 : BytesTy Try.prog 89 8 := ⟨by kernel_rfl⟩
instance cellTy90 : CellTy Try.prog 90 := ⟨by kernel_rfl⟩
instance stoTy90 : StoTy Try.prog 90 := ⟨by kernel_rfl⟩
instance zeroTy90 : ZeroTy Try.prog 90 (.nilFunc) := ⟨by kernel_rfl⟩
instance bytesTy90 : BytesTy Try.prog 90 8 := ⟨by kernel_rfl⟩
instance cellTy91 : CellTy Try.prog 91 := ⟨by kernel_rfl⟩
instance stoTy91 : StoTy Try.prog 91 := ⟨by kernel_rfl⟩
instance zeroTy91 : ZeroTy Try.prog 91 (.nilFunc) := ⟨by kernel_rfl⟩
instance bytesTy91 : BytesTy Try.prog 91 8 := ⟨by kernel_rfl⟩
instance cellTy92 : CellTy Try.prog 92 := ⟨by kernel_rfl⟩
instance stoTy92 : StoTy Try.prog 92 := ⟨by kernel_rfl⟩
instance zeroTy92 : ZeroTy Try.prog 92 (.nilFunc) := ⟨by kernel_rfl⟩
instance bytesTy92 : BytesTy Try.prog 92 8 := ⟨by kernel_rfl⟩
instance aggTy93 : AggTy Try.prog 93 10 := ⟨by kernel_rfl⟩
instance fldTy93_0 : FldTy Try.prog 93 0 9 0 := ⟨by kernel_rfl⟩
instance fldTy93_1 : FldTy Try.prog 93 1 3 1 := ⟨by kernel_rfl⟩
instance fldTy93_2 : FldTy Try.prog 93 2 3 2 := ⟨by kernel_rfl⟩
instance fldTy93_3 : FldTy Try.prog 93 3 3 3 := ⟨by kernel_rfl⟩
instance fldTy93_4 : FldTy Try.prog 93 4 3 4 := ⟨by kernel_rfl⟩
instance fldTy93_5 : FldTy Try.prog 93 5 3 5 := ⟨by kernel_rfl⟩
instance fldTy93_6 : FldTy Try.prog 93 6 3 6 := ⟨by kernel_rfl⟩
instance fldTy93_7 : FldTy Try.prog 93 7 3 7 := ⟨by kernel_rfl⟩
instance fldTy93_8 : FldTy Try.prog 93 8 3 8 := ⟨by kernel_rfl⟩
instance fldTy93_9 : FldTy Try.prog 93 9 3 9 := ⟨by kernel_rfl⟩
instance zeroTy93 : ZeroTy Try.prog 93 (.agg #[.string ⟨#[]⟩, .int .i64 0, .int .i64 0, .int .i64 0, .int .i64 0, .int .i64 0, .int .i64 0, .int .i64 0, .int .i64 0, .int .i64 0]) := ⟨by kernel_rfl⟩
instance bytesTy93 : BytesTy Try.prog 93 88 := ⟨by kernel_rfl⟩
instance aggTy94 : AggTy Try.prog 94 10 := ⟨by kernel_rfl⟩
instance fldTy94_0 : FldTy Try.prog 94 0 9 0 := ⟨by kernel_rfl⟩
instance fldTy94_1 : FldTy Try.prog 94 1 3 1 := ⟨by kernel_rfl⟩
instance fldTy94_2 : FldTy Try.prog 94 2 3 2 := ⟨by kernel_rfl⟩
instance fldTy94_3 : FldTy Try.prog 94 3 3 3 := ⟨by kernel_rfl⟩
instance fldTy94_4 : FldTy Try.prog 94 4 3 4 := ⟨by kernel_rfl⟩
instance fldTy94_5 : FldTy Try.prog 94 5 3 5 := ⟨by kernel_rfl⟩
instance fldTy94_6 : FldTy Try.prog 94 6 3 6 := ⟨by kernel_rfl⟩
instance fldTy94_7 : FldTy Try.prog 94 7 3 7 := ⟨by kernel_rfl⟩
instance fldTy94_8 : FldTy Try.prog 94 8 3 8 := ⟨by kernel_rfl⟩
instance fldTy94_9 : FldTy Try.prog 94 9 3 9 := ⟨by kernel_rfl⟩
instance zeroTy94 : ZeroTy Try.prog 94 (.agg #[.string ⟨#[]⟩, .int .i64 0, .int .i64 0, .int .i64 0, .int .i64 0, .int .i64 0, .int .i64 0, .int .i64 0, .int .i64 0, .int .i64 0]) := ⟨by kernel_rfl⟩
instance bytesTy94 : BytesTy Try.prog 94 88 := ⟨by kernel_rfl⟩
instance aggTy95 : AggTy Try.prog 95 4 := ⟨by kernel_rfl⟩
instance fldTy95_0 : FldTy Try.prog 95 0 9 0 := ⟨by kernel_rfl⟩
instance fldTy95_1 : FldTy Try.prog 95 1 3 1 := ⟨by kernel_rfl⟩
instance fldTy95_2 : FldTy Try.prog 95 2 3 2 := ⟨by kernel_rfl⟩
instance fldTy95_3 : FldTy Try.prog 95 3 3 3 := ⟨by kernel_rfl⟩
instance zeroTy95 : ZeroTy Try.prog 95 (.agg #[.string ⟨#[]⟩, .int .i64 0, .int .i64 0, .int .i64 0]) := ⟨by kernel_rfl⟩
instance bytesTy95 : BytesTy Try.prog 95 40 := ⟨by kernel_rfl⟩
instance aggTy96 : AggTy Try.prog 96 4 := ⟨by kernel_rfl⟩
instance fldTy96_0 : FldTy Try.prog 96 0 9 0 := ⟨by kernel_rfl⟩
instance fldTy96_1 : FldTy Try.prog 96 1 3 1 := ⟨by kernel_rfl⟩
instance fldTy96_2 : FldTy Try.prog 96 2 3 2 := ⟨by kernel_rfl⟩
instance fldTy96_3 : FldTy Try.prog 96 3 3 3 := ⟨by kernel_rfl⟩
instance zeroTy96 : ZeroTy Try.prog 96 (.agg #[.string ⟨#[]⟩, .int .i64 0, .int .i64 0, .int .i64 0]) := ⟨by kernel_rfl⟩
instance bytesTy96 : BytesTy Try.prog 96 40 := ⟨by kernel_rfl⟩
instance cellTy97 : CellTy Try.prog 97 := ⟨by kernel_rfl⟩
instance stoTy97 : StoTy Try.prog 97 := ⟨by kernel_rfl⟩
instance zeroTy97 : ZeroTy Try.prog 97 (.nilFunc) := ⟨by kernel_rfl⟩
instance bytesTy97 : BytesTy Try.prog 97 8 := ⟨by kernel_rfl⟩
instance cellTy98 : CellTy Try.prog 98 := ⟨by kernel_rfl⟩
instance stoTy98 : StoTy Try.prog 98 := ⟨by kernel_rfl⟩
instance zeroTy98 : ZeroTy Try.prog 98 (.nilFunc) := ⟨by kernel_rfl⟩
instance bytesTy98 : BytesTy Try.prog 98 8 := ⟨by kernel_rfl⟩
instance cellTy99 : CellTy Try.prog 99 := ⟨by kernel_rfl⟩
instance stoTy99 : StoTy Try.prog 99 := ⟨by kernel_rfl⟩
instance zeroTy99 : ZeroTy Try.prog 99 (.nilFunc) := ⟨by kernel_rfl⟩
instance bytesTy99 : BytesTy Try.prog 99 8 := ⟨by kernel_rfl⟩
instance cellTy100 : CellTy Try.prog 100 := ⟨by kernel_rfl⟩
instance stoTy100 : StoTy Try.prog 100 := ⟨by kernel_rfl⟩
instance zeroTy100 : ZeroTy Try.prog 100 (.nilFunc) := ⟨by kernel_rfl⟩
instance bytesTy100 : BytesTy Try.prog 100 8 := ⟨by kernel_rfl⟩
instance cellTy101 : CellTy Try.prog 101 := ⟨by kernel_rfl⟩
instance stoTy101 : StoTy Try.prog 101 := ⟨by kernel_rfl⟩
instance zeroTy101 : ZeroTy Try.prog 101 (.nilFunc) := ⟨by kernel_rfl⟩
instance bytesTy101 : BytesTy Try.prog 101 8 := ⟨by kernel_rfl⟩
instance cellTy102 : CellTy Try.prog 102 := ⟨by kernel_rfl⟩
instance stoTy102 : StoTy Try.prog 102 := ⟨by kernel_rfl⟩
instance intTy102 : IntTy Try.prog 102 .u64 := ⟨by kernel_rfl⟩
instance zeroTy102 : ZeroTy Try.prog 102 (.int .u64 0) := ⟨by kernel_rfl⟩
instance bytesTy102 : BytesTy Try.prog 102 8 := ⟨by kernel_rfl⟩
instance cellTy103 : CellTy Try.prog 103 := ⟨by kernel_rfl⟩
instance stoTy103 : StoTy Try.prog 103 := ⟨by kernel_rfl⟩
instance zeroTy103 : ZeroTy Try.prog 103 (.nilFunc) := ⟨by kernel_rfl⟩
instance bytesTy103 : BytesTy Try.prog 103 8 := ⟨by kernel_rfl⟩
instance cellTy104 : CellTy Try.prog 104 := ⟨by kernel_rfl⟩
instance stoTy104 : StoTy Try.prog 104 := ⟨by kernel_rfl⟩
instance zeroTy104 : ZeroTy Try.prog 104 (.nilFunc) := ⟨by kernel_rfl⟩
instance bytesTy104 : BytesTy Try.prog 104 8 := ⟨by kernel_rfl⟩
instance cellTy105 : CellTy Try.prog 105 := ⟨by kernel_rfl⟩
instance stoTy105 : StoTy Try.prog 105 := ⟨by kernel_rfl⟩
instance zeroTy105 : ZeroTy Try.prog 105 (.nilFunc) := ⟨by kernel_rfl⟩
instance bytesTy105 : BytesTy Try.prog 105 8 := ⟨by kernel_rfl⟩
instance cellTy106 : CellTy Try.prog 106 := ⟨by kernel_rfl⟩
instance stoTy106 : StoTy Try.prog 106 := ⟨by kernel_rfl⟩
instance zeroTy106 : ZeroTy Try.prog 106 (.nilFunc) := ⟨by kernel_rfl⟩
instance bytesTy106 : BytesTy Try.prog 106 8 := ⟨by kernel_rfl⟩
instance cellTy107 : CellTy Try.prog 107 := ⟨by kernel_rfl⟩
instance stoTy107 : StoTy Try.prog 107 := ⟨by kernel_rfl⟩
instance zeroTy107 : ZeroTy Try.prog 107 (.nilFunc) := ⟨by kernel_rfl⟩
instance bytesTy107 : BytesTy Try.prog 107 8 := ⟨by kernel_rfl⟩
instance cellTy108 : CellTy Try.prog 108 := ⟨by kernel_rfl⟩
instance stoTy108 : StoTy Try.prog 108 := ⟨by kernel_rfl⟩
instance zeroTy108 : ZeroTy Try.prog 108 (.tuple #[.slice none 0 0, .bool false, .int .i64 0]) := ⟨by kernel_rfl⟩
instance bytesTy108 : BytesTy Try.prog 108 0 := ⟨by kernel_rfl⟩
instance cellTy109 : CellTy Try.prog 109 := ⟨by kernel_rfl⟩
instance stoTy109 : StoTy Try.prog 109 := ⟨by kernel_rfl⟩
instance zeroTy109 : ZeroTy Try.prog 109 (.nilFunc) := ⟨by kernel_rfl⟩
instance bytesTy109 : BytesTy Try.prog 109 8 := ⟨by kernel_rfl⟩
instance cellTy110 : CellTy Try.prog 110 := ⟨by kernel_rfl⟩
instance stoTy110 : StoTy Try.prog 110 := ⟨by kernel_rfl⟩
instance zeroTy110 : ZeroTy Try.prog 110 (.nilFunc) := ⟨by kernel_rfl⟩
instance bytesTy110 : BytesTy Try.prog 110 8 := ⟨by kernel_rfl⟩
instance cellTy111 : CellTy Try.prog 111 := ⟨by kernel_rfl⟩
instance stoTy111 : StoTy Try.prog 111 := ⟨by kernel_rfl⟩
instance zeroTy111 : ZeroTy Try.prog 111 (.nilFunc) := ⟨by kernel_rfl⟩
instance bytesTy111 : BytesTy Try.prog 111 8 := ⟨by kernel_rfl⟩
instance cellTy112 : CellTy Try.prog 112 := ⟨by kernel_rfl⟩
instance stoTy112 : StoTy Try.prog 112 := ⟨by kernel_rfl⟩
instance zeroTy112 : ZeroTy Try.prog 112 (.nilFunc) := ⟨by kernel_rfl⟩
instance bytesTy112 : BytesTy Try.prog 112 8 := ⟨by kernel_rfl⟩
instance cellTy113 : CellTy Try.prog 113 := ⟨by kernel_rfl⟩
instance stoTy113 : StoTy Try.prog 113 := ⟨by kernel_rfl⟩
instance zeroTy113 : ZeroTy Try.prog 113 (.nilFunc) := ⟨by kernel_rfl⟩
instance bytesTy113 : BytesTy Try.prog 113 8 := ⟨by kernel_rfl⟩
instance cellTy114 : CellTy Try.prog 114 := ⟨by kernel_rfl⟩
instance stoTy114 : StoTy Try.prog 114 := ⟨by kernel_rfl⟩
instance zeroTy114 : ZeroTy Try.prog 114 (.nilFunc) := ⟨by kernel_rfl⟩
instance bytesTy114 : BytesTy Try.prog 114 8 := ⟨by kernel_rfl⟩
instance cellTy115 : CellTy Try.prog 115 := ⟨by kernel_rfl⟩
instance stoTy115 : StoTy Try.prog 115 := ⟨by kernel_rfl⟩
instance intTy115 : IntTy Try.prog 115 .i64 := ⟨by kernel_rfl⟩
instance zeroTy115 : ZeroTy Try.prog 115 (.int .i64 0) := ⟨by kernel_rfl⟩
instance bytesTy115 : BytesTy Try.prog 115 8 := ⟨by kernel_rfl⟩
instance cellTy116 : CellTy Try.prog 116 := ⟨by kernel_rfl⟩
instance stoTy116 : StoTy Try.prog 116 := ⟨by kernel_rfl⟩
instance zeroTy116 : ZeroTy Try.prog 116 (.tuple #[.int .i64 0, .int .i64 0]) := ⟨by kernel_rfl⟩
instance bytesTy116 : BytesTy Try.prog 116 0 := ⟨by kernel_rfl⟩
instance cellTy117 : CellTy Try.prog 117 := ⟨by kernel_rfl⟩
instance stoTy117 : StoTy Try.prog 117 := ⟨by kernel_rfl⟩
instance zeroTy117 : ZeroTy Try.prog 117 (.nilFunc) := ⟨by kernel_rfl⟩
instance bytesTy117 : BytesTy Try.prog 117 8 := ⟨by kernel_rfl⟩
instance cellTy118 : CellTy Try.prog 118 := ⟨by kernel_rfl⟩
instance stoTy118 : StoTy Try.prog 118 := ⟨by kernel_rfl⟩
instance zeroTy118 : ZeroTy Try.prog 118 (.nilFunc) := ⟨by kernel_rfl⟩
instance bytesTy118 : BytesTy Try.prog 118 8 := ⟨by kernel_rfl⟩
instance cellTy119 : CellTy Try.prog 119 := ⟨by kernel_rfl⟩
instance stoTy119 : StoTy Try.prog 119 := ⟨by kernel_rfl⟩
instance zeroTy119 : ZeroTy Try.prog 119 (.nilFunc) := ⟨by kernel_rfl⟩
instance bytesTy119 : BytesTy Try.prog 119 8 := ⟨by kernel_rfl⟩
instance cellTy120 : CellTy Try.prog 120 := ⟨by kernel_rfl⟩
instance stoTy120 : StoTy Try.prog 120 := ⟨by kernel_rfl⟩
instance zeroTy120 : ZeroTy Try.prog 120 (.nilFunc) := ⟨by kernel_rfl⟩
instance bytesTy120 : BytesTy Try.prog 120 8 := ⟨by kernel_rfl⟩
instance cellTy121 : CellTy Try.prog 121 := ⟨by kernel_rfl⟩
instance stoTy121 : StoTy Try.prog 121 := ⟨by kernel_rfl⟩
instance zeroTy121 : ZeroTy Try.prog 121 (.nilFunc) := ⟨by kernel_rfl⟩
instance bytesTy121 : BytesTy Try.prog 121 8 := ⟨by kernel_rfl⟩
instance cellTy122 : CellTy Try.prog 122 := ⟨by kernel_rfl⟩
instance stoTy122 : StoTy Try.prog 122 := ⟨by kernel_rfl⟩
instance intTy122 : IntTy Try.prog 122 .u32 := ⟨by kernel_rfl⟩
instance zeroTy122 : ZeroTy Try.prog 122 (.int .u32 0) := ⟨by kernel_rfl⟩
instance bytesTy122 : BytesTy Try.prog 122 4 := ⟨by kernel_rfl⟩
instance cellTy123 : CellTy Try.prog 123 := ⟨by kernel_rfl⟩
instance stoTy123 : StoTy Try.prog 123 := ⟨by kernel_rfl⟩
instance zeroTy123 : ZeroTy Try.prog 123 (.nilFunc) := ⟨by kernel_rfl⟩
instance bytesTy123 : BytesTy Try.prog 123 8 := ⟨by kernel_rfl⟩
instance cellTy124 : CellTy Try.prog 124 := ⟨by kernel_rfl⟩
instance stoTy124 : StoTy Try.prog 124 := ⟨by kernel_rfl⟩
instance intTy124 : IntTy Try.prog 124 .u64 := ⟨by kernel_rfl⟩
instance zeroTy124 : ZeroTy Try.prog 124 (.int .u64 0) := ⟨by kernel_rfl⟩
instance bytesTy124 : BytesTy Try.prog 124 8 := ⟨by kernel_rfl⟩
instance cellTy125 : CellTy Try.prog 125 := ⟨by kernel_rfl⟩
instance stoTy125 : StoTy Try.prog 125 := ⟨by kernel_rfl⟩
instance intTy125 : IntTy Try.prog 125 .i64 := ⟨by kernel_rfl⟩
instance zeroTy125 : ZeroTy Try.prog 125 (.int .i64 0) := ⟨by kernel_rfl⟩
instance bytesTy125 : BytesTy Try.prog 125 8 := ⟨by kernel_rfl⟩
instance cellTy126 : CellTy Try.prog 126 := ⟨by kernel_rfl⟩
instance stoTy126 : StoTy Try.prog 126 := ⟨by kernel_rfl⟩
instance zeroTy126 : ZeroTy Try.prog 126 (.tuple #[.int .i64 0, .bool false]) := ⟨by kernel_rfl⟩
instance bytesTy126 : BytesTy Try.prog 126 0 := ⟨by kernel_rfl⟩
instance cellTy127 : CellTy Try.prog 127 := ⟨by kernel_rfl⟩
instance stoTy127 : StoTy Try.prog 127 := ⟨by kernel_rfl⟩
instance zeroTy127 : ZeroTy Try.prog 127 (.nilFunc) := ⟨by kernel_rfl⟩
instance bytesTy127 : BytesTy Try.prog 127 8 := ⟨by kernel_rfl⟩
instance cellTy128 : CellTy Try.prog 128 := ⟨by kernel_rfl⟩
instance stoTy128 : StoTy Try.prog 128 := ⟨by kernel_rfl⟩
instance zeroTy128 : ZeroTy Try.prog 128 (.nilFunc) := ⟨by kernel_rfl⟩
instance bytesTy128 : BytesTy Try.prog 128 8 := ⟨by kernel_rfl⟩
instance aggTy129 : AggTy Try.prog 129 2 := ⟨by kernel_rfl⟩
instance fldTy129_0 : FldTy Try.prog 129 0 9 0 := ⟨by kernel_rfl⟩
instance fldTy129_1 : FldTy Try.prog 129 1 3 1 := ⟨by kernel_rfl⟩
instance zeroTy129 : ZeroTy Try.prog 129 (.agg #[.string ⟨#[]⟩, .int .i64 0]) := ⟨by kernel_rfl⟩
instance bytesTy129 : BytesTy Try.prog 129 24 := ⟨by kernel_rfl⟩
instance aggTy130 : AggTy Try.prog 130 2 := ⟨by kernel_rfl⟩
instance fldTy130_0 : FldTy Try.prog 130 0 9 0 := ⟨by kernel_rfl⟩
instance fldTy130_1 : FldTy Try.prog 130 1 3 1 := ⟨by kernel_rfl⟩
instance zeroTy130 : ZeroTy Try.prog 130 (.agg #[.string ⟨#[]⟩, .int .i64 0]) := ⟨by kernel_rfl⟩
instance bytesTy130 : BytesTy Try.prog 130 24 := ⟨by kernel_rfl⟩
instance cellTy131 : CellTy Try.prog 131 := ⟨by kernel_rfl⟩
instance stoTy131 : StoTy Try.prog 131 := ⟨by kernel_rfl⟩
instance zeroTy131 : ZeroTy Try.prog 131 (.nilFunc) := ⟨by kernel_rfl⟩
instance bytesTy131 : BytesTy Try.prog 131 8 := ⟨by kernel_rfl⟩
instance cellTy132 : CellTy Try.prog 132 := ⟨by kernel_rfl⟩
instance stoTy132 : StoTy Try.prog 132 := ⟨by kernel_rfl⟩
instance zeroTy132 : ZeroTy Try.prog 132 (.nilFunc) := ⟨by kernel_rfl⟩
instance bytesTy132 : BytesTy Try.prog 132 8 := ⟨by kernel_rfl⟩
instance aggTy133 : AggTy Try.prog 133 4 := ⟨by kernel_rfl⟩
instance fldTy133_0 : FldTy Try.prog 133 0 9 0 := ⟨by kernel_rfl⟩
instance fldTy133_1 : FldTy Try.prog 133 1 3 1 := ⟨by kernel_rfl⟩
instance fldTy133_2 : FldTy Try.prog 133 2 3 2 := ⟨by kernel_rfl⟩
instance fldTy133_3 : FldTy Try.prog 133 3 3 3 := ⟨by kernel_rfl⟩
instance zeroTy133 : ZeroTy Try.prog 133 (.agg #[.string ⟨#[]⟩, .int .i64 0, .int .i64 0, .int .i64 0]) := ⟨by kernel_rfl⟩
instance bytesTy133 : BytesTy Try.prog 133 40 := ⟨by kernel_rfl⟩
instance aggTy134 : AggTy Try.prog 134 4 := ⟨by kernel_rfl⟩
instance fldTy134_0 : FldTy Try.prog 134 0 9 0 := ⟨by kernel_rfl⟩
instance fldTy134_1 : FldTy Try.prog 134 1 3 1 := ⟨by kernel_rfl⟩
instance fldTy134_2 : FldTy Try.prog 134 2 3 2 := ⟨by kernel_rfl⟩
instance fldTy134_3 : FldTy Try.prog 134 3 3 3 := ⟨by kernel_rfl⟩
instance zeroTy134 : ZeroTy Try.prog 134 (.agg #[.string ⟨#[]⟩, .int .i64 0, .int .i64 0, .int .i64 0]) := ⟨by kernel_rfl⟩
instance bytesTy134 : BytesTy Try.prog 134 40 := ⟨by kernel_rfl⟩
instance cellTy135 : CellTy Try.prog 135 := ⟨by kernel_rfl⟩
instance stoTy135 : StoTy Try.prog 135 := ⟨by kernel_rfl⟩
instance zeroTy135 : ZeroTy Try.prog 135 (.nilFunc) := ⟨by kernel_rfl⟩
instance bytesTy135 : BytesTy Try.prog 135 8 := ⟨by kernel_rfl⟩
instance cellTy136 : CellTy Try.prog 136 := ⟨by kernel_rfl⟩
instance stoTy136 : StoTy Try.prog 136 := ⟨by kernel_rfl⟩
instance mapTy136 : MapTy Try.prog 136 3 149 := ⟨by kernel_rfl⟩
instance zeroTy136 : ZeroTy Try.prog 136 (.map none) := ⟨by kernel_rfl⟩
instance bytesTy136 : BytesTy Try.prog 136 8 := ⟨by kernel_rfl⟩
instance aggTy137 : AggTy Try.prog 137 11 := ⟨by kernel_rfl⟩
instance fldTy137_0 : FldTy Try.prog 137 0 38 0 := ⟨by kernel_rfl⟩
instance fldTy137_1 : FldTy Try.prog 137 1 136 10 := ⟨by kernel_rfl⟩
instance zeroTy137 : ZeroTy Try.prog 137 (.agg #[.string ⟨#[]⟩, .int .i64 0, .int .i64 0, .int .i64 0, .slice none 0 0, .slice none 0 0, .slice none 0 0, .slice none 0 0, .slice none 0 0, .slice none 0 0, .map none]) := ⟨by kernel_rfl⟩
instance bytesTy137 : BytesTy Try.prog 137 192 := ⟨by kernel_rfl⟩
instance aggTy138 : AggTy Try.prog 138 11 := ⟨by kernel_rfl⟩
instance fldTy138_0 : FldTy Try.prog 138 0 38 0 := ⟨by kernel_rfl⟩
instance fldTy138_1 : FldTy Try.prog 138 1 136 10 := ⟨by kernel_rfl⟩
instance zeroTy138 : ZeroTy Try.prog 138 (.agg #[.string ⟨#[]⟩, .int .i64 0, .int .i64 0, .int .i64 0, .slice none 0 0, .slice none 0 0, .slice none 0 0, .slice none 0 0, .slice none 0 0, .slice none 0 0, .map none]) := ⟨by kernel_rfl⟩
instance bytesTy138 : BytesTy Try.prog 138 192 := ⟨by kernel_rfl⟩
instance cellTy139 : CellTy Try.prog 139 := ⟨by kernel_rfl⟩
instance stoTy139 : StoTy Try.prog 139 := ⟨by kernel_rfl⟩
instance zeroTy139 : ZeroTy Try.prog 139 (.nilFunc) := ⟨by kernel_rfl⟩
instance bytesTy139 : BytesTy Try.prog 139 8 := ⟨by kernel_rfl⟩
instance cellTy140 : CellTy Try.prog 140 := ⟨by kernel_rfl⟩
instance stoTy140 : StoTy Try.prog 140 := ⟨by kernel_rfl⟩
instance zeroTy140 : ZeroTy Try.prog 140 (.nilFunc) := ⟨by kernel_rfl⟩
instance bytesTy140 : BytesTy Try.prog 140 8 := ⟨by kernel_rfl⟩
instance cellTy141 : CellTy Try.prog 141 := ⟨by kernel_rfl⟩
instance stoTy141 : StoTy Try.prog 141 := ⟨by kernel_rfl⟩
instance intTy141 : IntTy Try.prog 141 .u64 := ⟨by kernel_rfl⟩
instance zeroTy141 : ZeroTy Try.prog 141 (.int .u64 0) := ⟨by kernel_rfl⟩
instance bytesTy141 : BytesTy Try.prog 141 8 := ⟨by kernel_rfl⟩
instance cellTy142 : CellTy Try.prog 142 := ⟨by kernel_rfl⟩
instance stoTy142 : StoTy Try.prog 142 := ⟨by kernel_rfl⟩
instance zeroTy142 : ZeroTy Try.prog 142 (.nilFunc) := ⟨by kernel_rfl⟩
instance bytesTy142 : BytesTy Try.prog 142 8 := ⟨by kernel_rfl⟩
instance cellTy143 : CellTy Try.prog 143 := ⟨by kernel_rfl⟩
instance stoTy143 : StoTy Try.prog 143 := ⟨by kernel_rfl⟩
instance zeroTy143 : ZeroTy Try.prog 143 (.nilFunc) := ⟨by kernel_rfl⟩
instance bytesTy143 : BytesTy Try.prog 143 8 := ⟨by kernel_rfl⟩
instance cellTy144 : CellTy Try.prog 144 := ⟨by kernel_rfl⟩
instance stoTy144 : StoTy Try.prog 144 := ⟨by kernel_rfl⟩
instance zeroTy144 : ZeroTy Try.prog 144 (.nilFunc) := ⟨by kernel_rfl⟩
instance bytesTy144 : BytesTy Try.prog 144 8 := ⟨by kernel_rfl⟩
instance cellTy145 : CellTy Try.prog 145 := ⟨by kernel_rfl⟩
instance stoTy145 : StoTy Try.prog 145 := ⟨by kernel_rfl⟩
instance zeroTy145 : ZeroTy Try.prog 145 (.pointer none) := ⟨by kernel_rfl⟩
instance bytesTy145 : BytesTy Try.prog 145 8 := ⟨by kernel_rfl⟩
instance cellTy146 : CellTy Try.prog 146 := ⟨by kernel_rfl⟩
instance stoTy146 : StoTy Try.prog 146 := ⟨by kernel_rfl⟩
instance zeroTy146 : ZeroTy Try.prog 146 (.nilFunc) := ⟨by kernel_rfl⟩
instance bytesTy146 : BytesTy Try.prog 146 8 := ⟨by kernel_rfl⟩
instance cellTy147 : CellTy Try.prog 147 := ⟨by kernel_rfl⟩
instance stoTy147 : StoTy Try.prog 147 := ⟨by kernel_rfl⟩
instance zeroTy147 : ZeroTy Try.prog 147 (.nilFunc) := ⟨by kernel_rfl⟩
instance bytesTy147 : BytesTy Try.prog 147 8 := ⟨by kernel_rfl⟩
instance cellTy148 : CellTy Try.prog 148 := ⟨by kernel_rfl⟩
instance stoTy148 : StoTy Try.prog 148 := ⟨by kernel_rfl⟩
instance zeroTy148 : ZeroTy Try.prog 148 (.nilFunc) := ⟨by kernel_rfl⟩
instance bytesTy148 : BytesTy Try.prog 148 8 := ⟨by kernel_rfl⟩
instance cellTy149 : CellTy Try.prog 149 := ⟨by kernel_rfl⟩
instance stoTy149 : StoTy Try.prog 149 := ⟨by kernel_rfl⟩
instance sliceTy149 : SliceTy Try.prog 149 151 2 := ⟨by kernel_rfl⟩
instance zeroTy149 : ZeroTy Try.prog 149 (.slice none 0 0) := ⟨by kernel_rfl⟩
instance bytesTy149 : BytesTy Try.prog 149 24 := ⟨by kernel_rfl⟩
instance aggTy150 : AggTy Try.prog 150 2 := ⟨by kernel_rfl⟩
instance fldTy150_0 : FldTy Try.prog 150 0 4 0 := ⟨by kernel_rfl⟩
instance fldTy150_1 : FldTy Try.prog 150 1 3 1 := ⟨by kernel_rfl⟩
instance zeroTy150 : ZeroTy Try.prog 150 (.agg #[.bool false, .int .i64 0]) := ⟨by kernel_rfl⟩
instance bytesTy150 : BytesTy Try.prog 150 16 := ⟨by kernel_rfl⟩
instance aggTy151 : AggTy Try.prog 151 2 := ⟨by kernel_rfl⟩
instance fldTy151_0 : FldTy Try.prog 151 0 4 0 := ⟨by kernel_rfl⟩
instance fldTy151_1 : FldTy Try.prog 151 1 3 1 := ⟨by kernel_rfl⟩
instance zeroTy151 : ZeroTy Try.prog 151 (.agg #[.bool false, .int .i64 0]) := ⟨by kernel_rfl⟩
instance bytesTy151 : BytesTy Try.prog 151 16 := ⟨by kernel_rfl⟩
instance cellTy152 : CellTy Try.prog 152 := ⟨by kernel_rfl⟩
instance stoTy152 : StoTy Try.prog 152 := ⟨by kernel_rfl⟩
instance zeroTy152 : ZeroTy Try.prog 152 (.nilFunc) := ⟨by kernel_rfl⟩
instance bytesTy152 : BytesTy Try.prog 152 8 := ⟨by kernel_rfl⟩
instance cellTy153 : CellTy Try.prog 153 := ⟨by kernel_rfl⟩
instance stoTy153 : StoTy Try.prog 153 := ⟨by kernel_rfl⟩
instance zeroTy153 : ZeroTy Try.prog 153 (.nilFunc) := ⟨by kernel_rfl⟩
instance bytesTy153 : BytesTy Try.prog 153 8 := ⟨by kernel_rfl⟩
instance cellTy154 : CellTy Try.prog 154 := ⟨by kernel_rfl⟩
instance stoTy154 : StoTy Try.prog 154 := ⟨by kernel_rfl⟩
instance zeroTy154 : ZeroTy Try.prog 154 (.nilFunc) := ⟨by kernel_rfl⟩
instance bytesTy154 : BytesTy Try.prog 154 8 := ⟨by kernel_rfl⟩
instance cellTy155 : CellTy Try.prog 155 := ⟨by kernel_rfl⟩
instance stoTy155 : StoTy Try.prog 155 := ⟨by kernel_rfl⟩
instance zeroTy155 : ZeroTy Try.prog 155 (.tuple #[.slice none 0 0, .int .i64 0]) := ⟨by kernel_rfl⟩
instance bytesTy155 : BytesTy Try.prog 155 0 := ⟨by kernel_rfl⟩
instance cellTy156 : CellTy Try.prog 156 := ⟨by kernel_rfl⟩
instance stoTy156 : StoTy Try.prog 156 := ⟨by kernel_rfl⟩
instance zeroTy156 : ZeroTy Try.prog 156 (.nilFunc) := ⟨by kernel_rfl⟩
instance bytesTy156 : BytesTy Try.prog 156 8 := ⟨by kernel_rfl⟩
instance cellTy157 : CellTy Try.prog 157 := ⟨by kernel_rfl⟩
instance stoTy157 : StoTy Try.prog 157 := ⟨by kernel_rfl⟩
instance zeroTy157 : ZeroTy Try.prog 157 (.tuple #[.int .i64 0, .bool false, .int .i64 0]) := ⟨by kernel_rfl⟩
instance bytesTy157 : BytesTy Try.prog 157 0 := ⟨by kernel_rfl⟩
instance cellTy158 : CellTy Try.prog 158 := ⟨by kernel_rfl⟩
instance stoTy158 : StoTy Try.prog 158 := ⟨by kernel_rfl⟩
instance zeroTy158 : ZeroTy Try.prog 158 (.nilFunc) := ⟨by kernel_rfl⟩
instance bytesTy158 : BytesTy Try.prog 158 8 := ⟨by kernel_rfl⟩
instance cellTy159 : CellTy Try.prog 159 := ⟨by kernel_rfl⟩
instance stoTy159 : StoTy Try.prog 159 := ⟨by kernel_rfl⟩
instance zeroTy159 : ZeroTy Try.prog 159 (.pointer none) := ⟨by kernel_rfl⟩
instance bytesTy159 : BytesTy Try.prog 159 8 := ⟨by kernel_rfl⟩
instance cellTy160 : CellTy Try.prog 160 := ⟨by kernel_rfl⟩
instance stoTy160 : StoTy Try.prog 160 := ⟨by kernel_rfl⟩
instance zeroTy160 : ZeroTy Try.prog 160 (.tuple #[.int .i64 0, .int .i64 0]) := ⟨by kernel_rfl⟩
instance bytesTy160 : BytesTy Try.prog 160 0 := ⟨by kernel_rfl⟩
instance cellTy161 : CellTy Try.prog 161 := ⟨by kernel_rfl⟩
instance stoTy161 : StoTy Try.prog 161 := ⟨by kernel_rfl⟩
instance zeroTy161 : ZeroTy Try.prog 161 (.nilFunc) := ⟨by kernel_rfl⟩
instance bytesTy161 : BytesTy Try.prog 161 8 := ⟨by kernel_rfl⟩
instance cellTy162 : CellTy Try.prog 162 := ⟨by kernel_rfl⟩
instance stoTy162 : StoTy Try.prog 162 := ⟨by kernel_rfl⟩
instance zeroTy162 : ZeroTy Try.prog 162 (.tuple #[.int .i64 0, .int .i64 0]) := ⟨by kernel_rfl⟩
instance bytesTy162 : BytesTy Try.prog 162 0 := ⟨by kernel_rfl⟩
instance cellTy163 : CellTy Try.prog 163 := ⟨by kernel_rfl⟩
instance stoTy163 : StoTy Try.prog 163 := ⟨by kernel_rfl⟩
instance zeroTy163 : ZeroTy Try.prog 163 (.nilFunc) := ⟨by kernel_rfl⟩
instance bytesTy163 : BytesTy Try.prog 163 8 := ⟨by kernel_rfl⟩
instance cellTy164 : CellTy Try.prog 164 := ⟨by kernel_rfl⟩
instance stoTy164 : StoTy Try.prog 164 := ⟨by kernel_rfl⟩
instance zeroTy164 : ZeroTy Try.prog 164 (.nilFunc) := ⟨by kernel_rfl⟩
instance bytesTy164 : BytesTy Try.prog 164 8 := ⟨by kernel_rfl⟩
instance cellTy165 : CellTy Try.prog 165 := ⟨by kernel_rfl⟩
instance stoTy165 : StoTy Try.prog 165 := ⟨by kernel_rfl⟩
instance zeroTy165 : ZeroTy Try.prog 165 (.nilFunc) := ⟨by kernel_rfl⟩
instance bytesTy165 : BytesTy Try.prog 165 8 := ⟨by kernel_rfl⟩
instance cellTy166 : CellTy Try.prog 166 := ⟨by kernel_rfl⟩
instance stoTy166 : StoTy Try.prog 166 := ⟨by kernel_rfl⟩
instance zeroTy166 : ZeroTy Try.prog 166 (.nilFunc) := ⟨by kernel_rfl⟩
instance bytesTy166 : BytesTy Try.prog 166 8 := ⟨by kernel_rfl⟩
instance cellTy167 : CellTy Try.prog 167 := ⟨by kernel_rfl⟩
instance stoTy167 : StoTy Try.prog 167 := ⟨by kernel_rfl⟩
instance zeroTy167 : ZeroTy Try.prog 167 (.nilFunc) := ⟨by kernel_rfl⟩
instance bytesTy167 : BytesTy Try.prog 167 8 := ⟨by kernel_rfl⟩
instance cellTy168 : CellTy Try.prog 168 := ⟨by kernel_rfl⟩
instance stoTy168 : StoTy Try.prog 168 := ⟨by kernel_rfl⟩
instance zeroTy168 : ZeroTy Try.prog 168 (.nilFunc) := ⟨by kernel_rfl⟩
instance bytesTy168 : BytesTy Try.prog 168 8 := ⟨by kernel_rfl⟩
instance cellTy169 : CellTy Try.prog 169 := ⟨by kernel_rfl⟩
instance stoTy169 : StoTy Try.prog 169 := ⟨by kernel_rfl⟩
instance zeroTy169 : ZeroTy Try.prog 169 (.nilFunc) := ⟨by kernel_rfl⟩
instance bytesTy169 : BytesTy Try.prog 169 8 := ⟨by kernel_rfl⟩
instance cellTy170 : CellTy Try.prog 170 := ⟨by kernel_rfl⟩
instance stoTy170 : StoTy Try.prog 170 := ⟨by kernel_rfl⟩
instance zeroTy170 : ZeroTy Try.prog 170 (.nilFunc) := ⟨by kernel_rfl⟩
instance bytesTy170 : BytesTy Try.prog 170 8 := ⟨by kernel_rfl⟩
instance cellTy171 : CellTy Try.prog 171 := ⟨by kernel_rfl⟩
instance stoTy171 : StoTy Try.prog 171 := ⟨by kernel_rfl⟩
instance zeroTy171 : ZeroTy Try.prog 171 (.nilFunc) := ⟨by kernel_rfl⟩
instance bytesTy171 : BytesTy Try.prog 171 8 := ⟨by kernel_rfl⟩
instance cellTy172 : CellTy Try.prog 172 := ⟨by kernel_rfl⟩
instance stoTy172 : StoTy Try.prog 172 := ⟨by kernel_rfl⟩
instance zeroTy172 : ZeroTy Try.prog 172 (.nilFunc) := ⟨by kernel_rfl⟩
instance bytesTy172 : BytesTy Try.prog 172 8 := ⟨by kernel_rfl⟩
instance cellTy173 : CellTy Try.prog 173 := ⟨by kernel_rfl⟩
instance stoTy173 : StoTy Try.prog 173 := ⟨by kernel_rfl⟩
instance zeroTy173 : ZeroTy Try.prog 173 (.tuple #[.int .i64 0, .int .i64 0, .int .i64 0]) := ⟨by kernel_rfl⟩
instance bytesTy173 : BytesTy Try.prog 173 0 := ⟨by kernel_rfl⟩
instance cellTy174 : CellTy Try.prog 174 := ⟨by kernel_rfl⟩
instance stoTy174 : StoTy Try.prog 174 := ⟨by kernel_rfl⟩
instance zeroTy174 : ZeroTy Try.prog 174 (.nilFunc) := ⟨by kernel_rfl⟩
instance bytesTy174 : BytesTy Try.prog 174 8 := ⟨by kernel_rfl⟩
instance cellTy175 : CellTy Try.prog 175 := ⟨by kernel_rfl⟩
instance stoTy175 : StoTy Try.prog 175 := ⟨by kernel_rfl⟩
instance zeroTy175 : ZeroTy Try.prog 175 (.nilFunc) := ⟨by kernel_rfl⟩
instance bytesTy175 : BytesTy Try.prog 175 8 := ⟨by kernel_rfl⟩
instance cellTy176 : CellTy Try.prog 176 := ⟨by kernel_rfl⟩
instance stoTy176 : StoTy Try.prog 176 := ⟨by kernel_rfl⟩
instance zeroTy176 : ZeroTy Try.prog 176 (.nilFunc) := ⟨by kernel_rfl⟩
instance bytesTy176 : BytesTy Try.prog 176 8 := ⟨by kernel_rfl⟩
instance cellTy177 : CellTy Try.prog 177 := ⟨by kernel_rfl⟩
instance stoTy177 : StoTy Try.prog 177 := ⟨by kernel_rfl⟩
instance zeroTy177 : ZeroTy Try.prog 177 (.nilFunc) := ⟨by kernel_rfl⟩
instance bytesTy177 : BytesTy Try.prog 177 8 := ⟨by kernel_rfl⟩
instance cellTy178 : CellTy Try.prog 178 := ⟨by kernel_rfl⟩
instance stoTy178 : StoTy Try.prog 178 := ⟨by kernel_rfl⟩
instance zeroTy178 : ZeroTy Try.prog 178 (.nilFunc) := ⟨by kernel_rfl⟩
instance bytesTy178 : BytesTy Try.prog 178 8 := ⟨by kernel_rfl⟩
instance cellTy179 : CellTy Try.prog 179 := ⟨by kernel_rfl⟩
instance stoTy179 : StoTy Try.prog 179 := ⟨by kernel_rfl⟩
instance zeroTy179 : ZeroTy Try.prog 179 (.nilFunc) := ⟨by kernel_rfl⟩
instance bytesTy179 : BytesTy Try.prog 179 8 := ⟨by kernel_rfl⟩
instance cellTy180 : CellTy Try.prog 180 := ⟨by kernel_rfl⟩
instance stoTy180 : StoTy Try.prog 180 := ⟨by kernel_rfl⟩
instance zeroTy180 : ZeroTy Try.prog 180 (.nilFunc) := ⟨by kernel_rfl⟩
instance bytesTy180 : BytesTy Try.prog 180 8 := ⟨by kernel_rfl⟩
instance cellTy181 : CellTy Try.prog 181 := ⟨by kernel_rfl⟩
instance stoTy181 : StoTy Try.prog 181 := ⟨by kernel_rfl⟩
instance zeroTy181 : ZeroTy Try.prog 181 (.nilFunc) := ⟨by kernel_rfl⟩
instance bytesTy181 : BytesTy Try.prog 181 8 := ⟨by kernel_rfl⟩
instance aggTy182 : AggTy Try.prog 182 4 := ⟨by kernel_rfl⟩
instance fldTy182_0 : FldTy Try.prog 182 0 17 0 := ⟨by kernel_rfl⟩
instance fldTy182_1 : FldTy Try.prog 182 1 17 1 := ⟨by kernel_rfl⟩
instance fldTy182_2 : FldTy Try.prog 182 2 17 2 := ⟨by kernel_rfl⟩
instance fldTy182_3 : FldTy Try.prog 182 3 9 3 := ⟨by kernel_rfl⟩
instance zeroTy182 : ZeroTy Try.prog 182 (.agg #[.pointer none, .pointer none, .pointer none, .string ⟨#[]⟩]) := ⟨by kernel_rfl⟩
instance bytesTy182 : BytesTy Try.prog 182 40 := ⟨by kernel_rfl⟩
instance aggTy183 : AggTy Try.prog 183 4 := ⟨by kernel_rfl⟩
instance fldTy183_0 : FldTy Try.prog 183 0 17 0 := ⟨by kernel_rfl⟩
instance fldTy183_1 : FldTy Try.prog 183 1 17 1 := ⟨by kernel_rfl⟩
instance fldTy183_2 : FldTy Try.prog 183 2 17 2 := ⟨by kernel_rfl⟩
instance fldTy183_3 : FldTy Try.prog 183 3 9 3 := ⟨by kernel_rfl⟩
instance zeroTy183 : ZeroTy Try.prog 183 (.agg #[.pointer none, .pointer none, .pointer none, .string ⟨#[]⟩]) := ⟨by kernel_rfl⟩
instance bytesTy183 : BytesTy Try.prog 183 40 := ⟨by kernel_rfl⟩
instance aggTy184 : AggTy Try.prog 184 0 := ⟨by kernel_rfl⟩
instance arrTy184 : ArrTy Try.prog 184 0 16 1 := ⟨by kernel_rfl⟩
instance zeroTy184 : ZeroTy Try.prog 184 (.agg #[]) := ⟨by kernel_rfl⟩
instance bytesTy184 : BytesTy Try.prog 184 0 := ⟨by kernel_rfl⟩
instance aggTy185 : AggTy Try.prog 185 0 := ⟨by kernel_rfl⟩
instance zeroTy185 : ZeroTy Try.prog 185 (.agg #[]) := ⟨by kernel_rfl⟩
instance bytesTy185 : BytesTy Try.prog 185 0 := ⟨by kernel_rfl⟩
instance aggTy186 : AggTy Try.prog 186 0 := ⟨by kernel_rfl⟩
instance zeroTy186 : ZeroTy Try.prog 186 (.agg #[]) := ⟨by kernel_rfl⟩
instance bytesTy186 : BytesTy Try.prog 186 0 := ⟨by kernel_rfl⟩
instance cellTy187 : CellTy Try.prog 187 := ⟨by kernel_rfl⟩
instance stoTy187 : StoTy Try.prog 187 := ⟨by kernel_rfl⟩
instance zeroTy187 : ZeroTy Try.prog 187 (.nilFunc) := ⟨by kernel_rfl⟩
instance bytesTy187 : BytesTy Try.prog 187 8 := ⟨by kernel_rfl⟩
instance cellTy188 : CellTy Try.prog 188 := ⟨by kernel_rfl⟩
instance stoTy188 : StoTy Try.prog 188 := ⟨by kernel_rfl⟩
instance intTy188 : IntTy Try.prog 188 .u8 := ⟨by kernel_rfl⟩
instance zeroTy188 : ZeroTy Try.prog 188 (.int .u8 0) := ⟨by kernel_rfl⟩
instance bytesTy188 : BytesTy Try.prog 188 1 := ⟨by kernel_rfl⟩
instance cellTy189 : CellTy Try.prog 189 := ⟨by kernel_rfl⟩
instance stoTy189 : StoTy Try.prog 189 := ⟨by kernel_rfl⟩
instance intTy189 : IntTy Try.prog 189 .u8 := ⟨by kernel_rfl⟩
instance zeroTy189 : ZeroTy Try.prog 189 (.int .u8 0) := ⟨by kernel_rfl⟩
instance bytesTy189 : BytesTy Try.prog 189 1 := ⟨by kernel_rfl⟩
instance cellTy190 : CellTy Try.prog 190 := ⟨by kernel_rfl⟩
instance stoTy190 : StoTy Try.prog 190 := ⟨by kernel_rfl⟩
instance zeroTy190 : ZeroTy Try.prog 190 (.nilFunc) := ⟨by kernel_rfl⟩
instance bytesTy190 : BytesTy Try.prog 190 8 := ⟨by kernel_rfl⟩
instance cellTy191 : CellTy Try.prog 191 := ⟨by kernel_rfl⟩
instance stoTy191 : StoTy Try.prog 191 := ⟨by kernel_rfl⟩
instance zeroTy191 : ZeroTy Try.prog 191 (.pointer none) := ⟨by kernel_rfl⟩
instance bytesTy191 : BytesTy Try.prog 191 8 := ⟨by kernel_rfl⟩
instance cellTy192 : CellTy Try.prog 192 := ⟨by kernel_rfl⟩
instance stoTy192 : StoTy Try.prog 192 := ⟨by kernel_rfl⟩
instance intTy192 : IntTy Try.prog 192 .i32 := ⟨by kernel_rfl⟩
instance zeroTy192 : ZeroTy Try.prog 192 (.int .i32 0) := ⟨by kernel_rfl⟩
instance bytesTy192 : BytesTy Try.prog 192 4 := ⟨by kernel_rfl⟩
instance cellTy193 : CellTy Try.prog 193 := ⟨by kernel_rfl⟩
instance stoTy193 : StoTy Try.prog 193 := ⟨by kernel_rfl⟩
instance intTy193 : IntTy Try.prog 193 .i32 := ⟨by kernel_rfl⟩
instance zeroTy193 : ZeroTy Try.prog 193 (.int .i32 0) := ⟨by kernel_rfl⟩
instance bytesTy193 : BytesTy Try.prog 193 4 := ⟨by kernel_rfl⟩
instance aggTy194 : AggTy Try.prog 194 11 := ⟨by kernel_rfl⟩
instance fldTy194_0 : FldTy Try.prog 194 0 12 0 := ⟨by kernel_rfl⟩
instance fldTy194_1 : FldTy Try.prog 194 1 12 1 := ⟨by kernel_rfl⟩
instance fldTy194_2 : FldTy Try.prog 194 2 122 2 := ⟨by kernel_rfl⟩
instance fldTy194_3 : FldTy Try.prog 194 3 188 3 := ⟨by kernel_rfl⟩
instance fldTy194_4 : FldTy Try.prog 194 4 5 4 := ⟨by kernel_rfl⟩
instance fldTy194_5 : FldTy Try.prog 194 5 5 5 := ⟨by kernel_rfl⟩
instance fldTy194_6 : FldTy Try.prog 194 6 189 6 := ⟨by kernel_rfl⟩
instance fldTy194_7 : FldTy Try.prog 194 7 190 7 := ⟨by kernel_rfl⟩
instance fldTy194_8 : FldTy Try.prog 194 8 191 8 := ⟨by kernel_rfl⟩
instance fldTy194_9 : FldTy Try.prog 194 9 192 9 := ⟨by kernel_rfl⟩
instance fldTy194_10 : FldTy Try.prog 194 10 193 10 := ⟨by kernel_rfl⟩
instance zeroTy194 : ZeroTy Try.prog 194 (.agg #[.int .u64 0, .int .u64 0, .int .u32 0, .int .u8 0, .int .u8 0, .int .u8 0, .int .u8 0, .nilFunc, .pointer none, .int .i32 0, .int .i32 0]) := ⟨by kernel_rfl⟩
instance bytesTy194 : BytesTy Try.prog 194 48 := ⟨by kernel_rfl⟩
instance aggTy195 : AggTy Try.prog 195 11 := ⟨by kernel_rfl⟩
instance fldTy195_0 : FldTy Try.prog 195 0 12 0 := ⟨by kernel_rfl⟩
instance fldTy195_1 : FldTy Try.prog 195 1 12 1 := ⟨by kernel_rfl⟩
instance fldTy195_2 : FldTy Try.prog 195 2 122 2 := ⟨by kernel_rfl⟩
instance fldTy195_3 : FldTy Try.prog 195 3 188 3 := ⟨by kernel_rfl⟩
instance fldTy195_4 : FldTy Try.prog 195 4 5 4 := ⟨by kernel_rfl⟩
instance fldTy195_5 : FldTy Try.prog 195 5 5 5 := ⟨by kernel_rfl⟩
instance fldTy195_6 : FldTy Try.prog 195 6 189 6 := ⟨by kernel_rfl⟩
instance fldTy195_7 : FldTy Try.prog 195 7 190 7 := ⟨by kernel_rfl⟩
instance fldTy195_8 : FldTy Try.prog 195 8 191 8 := ⟨by kernel_rfl⟩
instance fldTy195_9 : FldTy Try.prog 195 9 192 9 := ⟨by kernel_rfl⟩
instance fldTy195_10 : FldTy Try.prog 195 10 193 10 := ⟨by kernel_rfl⟩
instance zeroTy195 : ZeroTy Try.prog 195 (.agg #[.int .u64 0, .int .u64 0, .int .u32 0, .int .u8 0, .int .u8 0, .int .u8 0, .int .u8 0, .nilFunc, .pointer none, .int .i32 0, .int .i32 0]) := ⟨by kernel_rfl⟩
instance bytesTy195 : BytesTy Try.prog 195 48 := ⟨by kernel_rfl⟩
instance aggTy196 : AggTy Try.prog 196 4 := ⟨by kernel_rfl⟩
instance fldTy196_0 : FldTy Try.prog 196 0 3 0 := ⟨by kernel_rfl⟩
instance fldTy196_1 : FldTy Try.prog 196 1 3 1 := ⟨by kernel_rfl⟩
instance fldTy196_2 : FldTy Try.prog 196 2 3 2 := ⟨by kernel_rfl⟩
instance fldTy196_3 : FldTy Try.prog 196 3 39 3 := ⟨by kernel_rfl⟩
instance zeroTy196 : ZeroTy Try.prog 196 (.agg #[.int .i64 0, .int .i64 0, .int .i64 0, .slice none 0 0]) := ⟨by kernel_rfl⟩
instance bytesTy196 : BytesTy Try.prog 196 48 := ⟨by kernel_rfl⟩
instance aggTy197 : AggTy Try.prog 197 4 := ⟨by kernel_rfl⟩
instance fldTy197_0 : FldTy Try.prog 197 0 3 0 := ⟨by kernel_rfl⟩
instance fldTy197_1 : FldTy Try.prog 197 1 3 1 := ⟨by kernel_rfl⟩
instance fldTy197_2 : FldTy Try.prog 197 2 3 2 := ⟨by kernel_rfl⟩
instance fldTy197_3 : FldTy Try.prog 197 3 39 3 := ⟨by kernel_rfl⟩
instance zeroTy197 : ZeroTy Try.prog 197 (.agg #[.int .i64 0, .int .i64 0, .int .i64 0, .slice none 0 0]) := ⟨by kernel_rfl⟩
instance bytesTy197 : BytesTy Try.prog 197 48 := ⟨by kernel_rfl⟩
instance cellTy198 : CellTy Try.prog 198 := ⟨by kernel_rfl⟩
instance stoTy198 : StoTy Try.prog 198 := ⟨by kernel_rfl⟩
instance zeroTy198 : ZeroTy Try.prog 198 (.pointer none) := ⟨by kernel_rfl⟩
instance bytesTy198 : BytesTy Try.prog 198 8 := ⟨by kernel_rfl⟩
instance enters2 : Enters Try.prog 2 := Enters.of Try.func2 (by kernel_rfl) (by kernel_rfl)
instance enters3 : Enters Try.prog 3 := Enters.of Try.func3 (by kernel_rfl) (by kernel_rfl)
instance enters4 : Enters Try.prog 4 := Enters.of Try.func4 (by kernel_rfl) (by kernel_rfl)
instance enters5 : Enters Try.prog 5 := Enters.of Try.func5 (by kernel_rfl) (by kernel_rfl)
instance enters6 : Enters Try.prog 6 := Enters.of Try.func6 (by kernel_rfl) (by kernel_rfl)
instance enters7 : Enters Try.prog 7 := Enters.of Try.func7 (by kernel_rfl) (by kernel_rfl)
instance enters8 : Enters Try.prog 8 := Enters.of Try.func8 (by kernel_rfl) (by kernel_rfl)
instance enters9 : Enters Try.prog 9 := Enters.of Try.func9 (by kernel_rfl) (by kernel_rfl)
instance enters10 : Enters Try.prog 10 := Enters.of Try.func10 (by kernel_rfl) (by kernel_rfl)
instance enters11 : Enters Try.prog 11 := Enters.of Try.func11 (by kernel_rfl) (by kernel_rfl)
instance enters12 : Enters Try.prog 12 := Enters.of Try.func12 (by kernel_rfl) (by kernel_rfl)
instance enters13 : Enters Try.prog 13 := Enters.of Try.func13 (by kernel_rfl) (by kernel_rfl)
instance enters14 : Enters Try.prog 14 := Enters.of Try.func14 (by kernel_rfl) (by kernel_rfl)
instance enters15 : Enters Try.prog 15 := Enters.of Try.func15 (by kernel_rfl) (by kernel_rfl)
instance enters16 : Enters Try.prog 16 := Enters.of Try.func16 (by kernel_rfl) (by kernel_rfl)
instance enters17 : Enters Try.prog 17 := Enters.of Try.func17 (by kernel_rfl) (by kernel_rfl)
instance enters18 : Enters Try.prog 18 := Enters.of Try.func18 (by kernel_rfl) (by kernel_rfl)
instance enters19 : Enters Try.prog 19 := Enters.of Try.func19 (by kernel_rfl) (by kernel_rfl)
instance enters20 : Enters Try.prog 20 := Enters.of Try.func20 (by kernel_rfl) (by kernel_rfl)
instance enters21 : Enters Try.prog 21 := Enters.of Try.func21 (by kernel_rfl) (by kernel_rfl)
instance enters22 : Enters Try.prog 22 := Enters.of Try.func22 (by kernel_rfl) (by kernel_rfl)
instance enters23 : Enters Try.prog 23 := Enters.of Try.func23 (by kernel_rfl) (by kernel_rfl)
instance enters24 : Enters Try.prog 24 := Enters.of Try.func24 (by kernel_rfl) (by kernel_rfl)
instance enters25 : Enters Try.prog 25 := Enters.of Try.func25 (by kernel_rfl) (by kernel_rfl)
instance enters26 : Enters Try.prog 26 := Enters.of Try.func26 (by kernel_rfl) (by kernel_rfl)
instance enters27 : Enters Try.prog 27 := Enters.of Try.func27 (by kernel_rfl) (by kernel_rfl)
instance enters28 : Enters Try.prog 28 := Enters.of Try.func28 (by kernel_rfl) (by kernel_rfl)
instance enters29 : Enters Try.prog 29 := Enters.of Try.func29 (by kernel_rfl) (by kernel_rfl)
instance enters30 : Enters Try.prog 30 := Enters.of Try.func30 (by kernel_rfl) (by kernel_rfl)
instance enters31 : Enters Try.prog 31 := Enters.of Try.func31 (by kernel_rfl) (by kernel_rfl)
instance enters32 : Enters Try.prog 32 := Enters.of Try.func32 (by kernel_rfl) (by kernel_rfl)
instance enters33 : Enters Try.prog 33 := Enters.of Try.func33 (by kernel_rfl) (by kernel_rfl)
instance enters34 : Enters Try.prog 34 := Enters.of Try.func34 (by kernel_rfl) (by kernel_rfl)
instance enters35 : Enters Try.prog 35 := Enters.of Try.func35 (by kernel_rfl) (by kernel_rfl)
instance enters36 : Enters Try.prog 36 := Enters.of Try.func36 (by kernel_rfl) (by kernel_rfl)
instance enters37 : Enters Try.prog 37 := Enters.of Try.func37 (by kernel_rfl) (by kernel_rfl)
instance enters38 : Enters Try.prog 38 := Enters.of Try.func38 (by kernel_rfl) (by kernel_rfl)
instance enters39 : Enters Try.prog 39 := Enters.of Try.func39 (by kernel_rfl) (by kernel_rfl)
instance enters40 : Enters Try.prog 40 := Enters.of Try.func40 (by kernel_rfl) (by kernel_rfl)
instance enters41 : Enters Try.prog 41 := Enters.of Try.func41 (by kernel_rfl) (by kernel_rfl)
instance enters42 : Enters Try.prog 42 := Enters.of Try.func42 (by kernel_rfl) (by kernel_rfl)
instance enters43 : Enters Try.prog 43 := Enters.of Try.func43 (by kernel_rfl) (by kernel_rfl)
instance enters44 : Enters Try.prog 44 := Enters.of Try.func44 (by kernel_rfl) (by kernel_rfl)
instance enters45 : Enters Try.prog 45 := Enters.of Try.func45 (by kernel_rfl) (by kernel_rfl)
instance enters46 : Enters Try.prog 46 := Enters.of Try.func46 (by kernel_rfl) (by kernel_rfl)
instance enters47 : Enters Try.prog 47 := Enters.of Try.func47 (by kernel_rfl) (by kernel_rfl)
instance enters48 : Enters Try.prog 48 := Enters.of Try.func48 (by kernel_rfl) (by kernel_rfl)
instance enters49 : Enters Try.prog 49 := Enters.of Try.func49 (by kernel_rfl) (by kernel_rfl)
instance enters50 : Enters Try.prog 50 := Enters.of Try.func50 (by kernel_rfl) (by kernel_rfl)
instance enters51 : Enters Try.prog 51 := Enters.of Try.func51 (by kernel_rfl) (by kernel_rfl)
instance enters52 : Enters Try.prog 52 := Enters.of Try.func52 (by kernel_rfl) (by kernel_rfl)
instance enters53 : Enters Try.prog 53 := Enters.of Try.func53 (by kernel_rfl) (by kernel_rfl)
instance enters54 : Enters Try.prog 54 := Enters.of Try.func54 (by kernel_rfl) (by kernel_rfl)
instance enters55 : Enters Try.prog 55 := Enters.of Try.func55 (by kernel_rfl) (by kernel_rfl)
instance enters56 : Enters Try.prog 56 := Enters.of Try.func56 (by kernel_rfl) (by kernel_rfl)
instance enters57 : Enters Try.prog 57 := Enters.of Try.func57 (by kernel_rfl) (by kernel_rfl)
instance enters58 : Enters Try.prog 58 := Enters.of Try.func58 (by kernel_rfl) (by kernel_rfl)
instance enters59 : Enters Try.prog 59 := Enters.of Try.func59 (by kernel_rfl) (by kernel_rfl)
instance enters60 : Enters Try.prog 60 := Enters.of Try.func60 (by kernel_rfl) (by kernel_rfl)
instance enters61 : Enters Try.prog 61 := Enters.of Try.func61 (by kernel_rfl) (by kernel_rfl)
instance enters62 : Enters Try.prog 62 := Enters.of Try.func62 (by kernel_rfl) (by kernel_rfl)
instance enters63 : Enters Try.prog 63 := Enters.of Try.func63 (by kernel_rfl) (by kernel_rfl)
instance enters64 : Enters Try.prog 64 := Enters.of Try.func64 (by kernel_rfl) (by kernel_rfl)
instance enters65 : Enters Try.prog 65 := Enters.of Try.func65 (by kernel_rfl) (by kernel_rfl)
instance enters66 : Enters Try.prog 66 := Enters.of Try.func66 (by kernel_rfl) (by kernel_rfl)
instance enters67 : Enters Try.prog 67 := Enters.of Try.func67 (by kernel_rfl) (by kernel_rfl)
instance enters68 : Enters Try.prog 68 := Enters.of Try.func68 (by kernel_rfl) (by kernel_rfl)
instance enters69 : Enters Try.prog 69 := Enters.of Try.func69 (by kernel_rfl) (by kernel_rfl)
instance enters70 : Enters Try.prog 70 := Enters.of Try.func70 (by kernel_rfl) (by kernel_rfl)
instance enters71 : Enters Try.prog 71 := Enters.of Try.func71 (by kernel_rfl) (by kernel_rfl)
instance enters72 : Enters Try.prog 72 := Enters.of Try.func72 (by kernel_rfl) (by kernel_rfl)
instance enters73 : Enters Try.prog 73 := Enters.of Try.func73 (by kernel_rfl) (by kernel_rfl)
instance enters74 : Enters Try.prog 74 := Enters.of Try.func74 (by kernel_rfl) (by kernel_rfl)
instance enters75 : Enters Try.prog 75 := Enters.of Try.func75 (by kernel_rfl) (by kernel_rfl)
instance enters76 : Enters Try.prog 76 := Enters.of Try.func76 (by kernel_rfl) (by kernel_rfl)
instance enters77 : Enters Try.prog 77 := Enters.of Try.func77 (by kernel_rfl) (by kernel_rfl)
instance enters78 : Enters Try.prog 78 := Enters.of Try.func78 (by kernel_rfl) (by kernel_rfl)
instance enters79 : Enters Try.prog 79 := Enters.of Try.func79 (by kernel_rfl) (by kernel_rfl)
instance enters80 : Enters Try.prog 80 := Enters.of Try.func80 (by kernel_rfl) (by kernel_rfl)
instance enters81 : Enters Try.prog 81 := Enters.of Try.func81 (by kernel_rfl) (by kernel_rfl)
instance enters82 : Enters Try.prog 82 := Enters.of Try.func82 (by kernel_rfl) (by kernel_rfl)
instance enters83 : Enters Try.prog 83 := Enters.of Try.func83 (by kernel_rfl) (by kernel_rfl)
instance enters84 : Enters Try.prog 84 := Enters.of Try.func84 (by kernel_rfl) (by kernel_rfl)
instance enters85 : Enters Try.prog 85 := Enters.of Try.func85 (by kernel_rfl) (by kernel_rfl)
instance enters86 : Enters Try.prog 86 := Enters.of Try.func86 (by kernel_rfl) (by kernel_rfl)
instance enters87 : Enters Try.prog 87 := Enters.of Try.func87 (by kernel_rfl) (by kernel_rfl)
instance enters88 : Enters Try.prog 88 := Enters.of Try.func88 (by kernel_rfl) (by kernel_rfl)
instance enters89 : Enters Try.prog 89 := Enters.of Try.func89 (by kernel_rfl) (by kernel_rfl)
instance enters90 : Enters Try.prog 90 := Enters.of Try.func90 (by kernel_rfl) (by kernel_rfl)
instance enters91 : Enters Try.prog 91 := Enters.of Try.func91 (by kernel_rfl) (by kernel_rfl)
instance enters92 : Enters Try.prog 92 := Enters.of Try.func92 (by kernel_rfl) (by kernel_rfl)
instance enters93 : Enters Try.prog 93 := Enters.of Try.func93 (by kernel_rfl) (by kernel_rfl)
instance enters94 : Enters Try.prog 94 := Enters.of Try.func94 (by kernel_rfl) (by kernel_rfl)
instance enters95 : Enters Try.prog 95 := Enters.of Try.func95 (by kernel_rfl) (by kernel_rfl)
instance enters96 : Enters Try.prog 96 := Enters.of Try.func96 (by kernel_rfl) (by kernel_rfl)
instance enters97 : Enters Try.prog 97 := Enters.of Try.func97 (by kernel_rfl) (by kernel_rfl)
instance enters98 : Enters Try.prog 98 := Enters.of Try.func98 (by kernel_rfl) (by kernel_rfl)
instance enters99 : Enters Try.prog 99 := Enters.of Try.func99 (by kernel_rfl) (by kernel_rfl)
instance enters100 : Enters Try.prog 100 := Enters.of Try.func100 (by kernel_rfl) (by kernel_rfl)
instance enters101 : Enters Try.prog 101 := Enters.of Try.func101 (by kernel_rfl) (by kernel_rfl)
end Go.Proofs.Ytcpogcdadlcdaaa
