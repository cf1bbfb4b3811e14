/- Parts of the proof: A5 Vq A6 A7 A8 Vr A9 Aa E2 E5. -/
import Derived.Test.YtcpdhclnmjfldaaGreatDoorM4
import Derived.ChangeKeysEq
import Derived.Laws.StructEq
import Derived.RecoverIn

/- Districts; contracts of the small checks of layer 19. -/
namespace Go.Proofs.YtcpdhclnmjfldaaGreatDoor
open Go Go.RowKit

/-! ### flat records -/
def tFl {α : Type} (n : Nat) (c : α → List Value) (hl : ∀ x, (c x).length = n) : Ty α where
  sz := n
  rep _ _ cs x := cs = c x
  len h := by rw [h]; exact hl _
  keep _ h := h
  more _ h := h
structure Farm where
  name : ByteArray
  reach : Int
  area : Int
  crop : Int
abbrev Farm.c (x : Farm) : List Value := [.string x.name, iv x.reach, iv x.area, iv x.crop]
structure Crop where
  name : ByteArray
  need : Int
abbrev Crop.c (x : Crop) : List Value := [.string x.name, iv x.need]
structure Right where
  name : ByteArray
  kind : Int
  farm : Int
  reach : Int
  rank : Int
  litres : Int
  frm : Int
  to : Int
  every : Int
  length : Int
abbrev Right.c (x : Right) : List Value := [.string x.name, iv x.kind, iv x.farm, iv x.reach, iv x.rank, iv x.litres, iv x.frm, iv x.to, iv x.every, iv x.length]
structure Duty where
  name : ByteArray
  farm : Int
  reach : Int
  due : Int
abbrev Duty.c (x : Duty) : List Value := [.string x.name, iv x.farm, iv x.reach, iv x.due]
structure Well where
  farm : Int
  reach : Int
  d : Int
  kernel : List Int
def tReach : Ty Reach := tFl 12 Reach.c fun _ => rfl
def tFarm : Ty Farm := tFl 4 Farm.c fun _ => rfl
def tCrop : Ty Crop := tFl 2 Crop.c fun _ => rfl
def tRight : Ty Right := tFl 10 Right.c fun _ => rfl
def tDuty : Ty Duty := tFl 4 Duty.c fun _ => rfl
def tWell : Ty Well := tMap (tPair tInt (tPair tInt (tPair tInt (tSl tInt)))) fun x => (x.farm, x.reach, x.d, x.kernel)
structure Dist where
  name : ByteArray
  hours : Int
  cap : Int
  start : Int
  reaches : List Reach
  farms : List Farm
  crops : List Crop
  rights : List Right
  duties : List Duty
  wells : List Well
/-- A district's cells. -/
structure DiR (D : Nat → Prop) (w : World) (cs : List Value) (d : Dist) : Prop where
  of_ ::
  ex : ∃ A1 n1 c1 A2 n2 c2 A3 n3 c3 A4 n4 c4 A5 n5 c5 A6 n6 c6, cs = [.string d.name, iv d.hours, iv d.cap, iv d.start, .slice A1 n1 c1, .slice A2 n2 c2, .slice A3 n3 c3, .slice A4 n4 c4, .slice A5 n5 c5, .slice A6 n6 c6] ∧
    SlR tReach D w A1 n1 d.reaches ∧ SlR tFarm D w A2 n2 d.farms ∧ SlR tCrop D w A3 n3 d.crops ∧ SlR tRight D w A4 n4 d.rights ∧ SlR tDuty D w A5 n5 d.duties ∧ SlR tWell D w A6 n6 d.wells
theorem DiR.keep {D : Nat → Prop} {w w' : World} {cs : List Value} {d : Dist} (hk : ∀ b, b < w.heap.size → D b → w'.heap[b]? = w.heap[b]?) (h : DiR D w cs d) : DiR D w' cs d := by
  obtain ⟨A1, n1, c1, A2, n2, c2, A3, n3, c3, A4, n4, c4, A5, n5, c5, A6, n6, c6, h, h1, h2, h3, h4, h5, h6⟩ := h.ex
  exact ⟨A1, n1, c1, A2, n2, c2, A3, n3, c3, A4, n4, c4, A5, n5, c5, A6, n6, c6, h, h1.keep hk, h2.keep hk, h3.keep hk, h4.keep hk, h5.keep hk, h6.keep hk⟩
theorem DiR.more {D D' : Nat → Prop} {w : World} {cs : List Value} {d : Dist} (hk : ∀ b, b < w.heap.size → D b → D' b) (h : DiR D w cs d) : DiR D' w cs d := by
  obtain ⟨A1, n1, c1, A2, n2, c2, A3, n3, c3, A4, n4, c4, A5, n5, c5, A6, n6, c6, h, h1, h2, h3, h4, h5, h6⟩ := h.ex
  exact ⟨A1, n1, c1, A2, n2, c2, A3, n3, c3, A4, n4, c4, A5, n5, c5, A6, n6, c6, h, h1.more (by decide) hk, h2.more (by decide) hk, h3.more (by decide) hk, h4.more (by decide) hk, h5.more (by decide) hk, h6.more (by decide) hk⟩
theorem DiR.kept {D D' : Nat → Prop} {w w' : World} {cs : List Value} {d : Dist} (h : DiR D w cs d) (k : Kept D' w w') (hd : ∀ b, b < w.heap.size → D b → D' b) : DiR D w' cs d := h.keep fun b hb hD => k.blk b hb (hd b hb hD)
theorem DiR.ext {D : Nat → Prop} {w w' : World} {cs : List Value} {d : Dist} (h : DiR D w cs d) (k : Ext w w') : DiR D w' cs d := h.kept k fun _ _ _ => trivial
def tDist : Ty Dist where
  sz := 10
  rep := DiR
  len h := by obtain ⟨A1, n1, c1, A2, n2, c2, A3, n3, c3, A4, n4, c4, A5, n5, c5, A6, n6, c6, rfl, -⟩ := h.ex; rfl
  keep hk h := h.keep hk
  more hB h := h.more hB

/-! ### what is valid -/
def risingL : List Int → Bool
  | a :: b :: l => decide (a ≤ b) && risingL (b :: l)
  | _ => true
theorem rising3 {a b c : Int} : risingL [a, b, c] = inI b a c := by unfold risingL risingL risingL inI; rw [Bool.and_true]
def reachOk (x : Reach) : Bool := inI x.delay 1 16 && (inI x.cap 0 1073741824 && (inI x.bank 0 1099511627776 && (inI x.siphon 0 (min x.cap x.bank) && lossOk x)))
theorem reachOk_iff {x : Reach} : reachOk x = true ↔ (1 ≤ x.delay ∧ x.delay ≤ 16) ∧ (0 ≤ x.cap ∧ x.cap ≤ 1073741824) ∧ (0 ≤ x.bank ∧ x.bank ≤ 1099511627776) ∧ (0 ≤ x.siphon ∧ x.siphon ≤ min x.cap x.bank) ∧ lossOk x = true := by
  unfold reachOk; simp only [Bool.and_eq_true, inI_iff]
def upOk (i : Nat) (up : Int) : Bool := if i = 0 then decide (up = -1) else inI up 0 ((i : Int) - 1)

section
variable {D : Nat → Prop} {w : World}
theorem c_eindex {i n : Int} : CallZ Tryz.prog 81 #[iv i, iv n] w (fun v w' => v = .bool (inI i 0 (n - 1)) ∧ w' = w) := by
  refine fn_rule (args := [iv i, iv n]) Tryz.func81 (by kernel_rfl) ?_
  refine cD (fun g => ?_) (fun g => ?_)
  · refine cD (fun g2 => ?_) (fun g2 => ?_)
    · exact ret1 (.bool true) rfl ⟨by rw [inI_iff.2 (by omega)], rfl⟩
    · exact ret1 (.bool false) rfl ⟨by rw [inI_not.2 (by omega)], rfl⟩
  · exact ret1 (.bool false) rfl ⟨by rw [inI_not.2 (by omega)], rfl⟩
theorem c_eshare {a b : Q} : CallZ Tryz.prog 92 #[pairQ a b] w (fun v w' => v = .bool (sharesQ a b) ∧ Ext w w') := by
  refine fn_rule (args := [.agg #[iv a.n, iv a.d, iv b.n, iv b.d]]) Tryz.func92 (by kernel_rfl) ?_
  refine box (fun g w1 h1 => ?_)
  have hc := CellsAt.blk h1.blk
  refine idxR 0 rfl (by decide) ?_
  refine ldA [iv a.n, iv a.d] (hc.mid 0 2) rfl ?_
  refine idxR 1 rfl (by decide) ?_
  refine ldA [iv b.n, iv b.d] (hc.mid 2 2) rfl ?_
  refine call_of (c_qCmp (a := a) (b := b)) ?_
  rintro _ w2 ⟨rfl, x2⟩
  have b2 := h1.blk.ext x2
  have x := h1.ext.trans x2
  have hs : sharesQ a b = true ↔ qValid a = true ∧ qValid b = true ∧ 0 ≤ a.n ∧ a.n * b.d ≤ b.n * a.d ∧ b.n ≤ b.d := by
    rw [sharesQ_iff, shareQ_iff, shareQ_iff]
    refine ⟨fun ⟨⟨h1, h2, h3⟩, ⟨h4, h5, h6⟩, h7⟩ => ⟨h1, h4, h2, h7, h6⟩, fun ⟨h1, h4, h2, h7, h6⟩ => ?_⟩
    have d1 := (qValid_iff.1 h1).1
    have d2 := (qValid_iff.1 h4).1
    have hb : 0 ≤ b.n := by
      have : 0 ≤ b.n * a.d := Int.le_trans (Int.mul_nonneg h2 (by omega)) h7
      exact Int.not_lt.1 fun hn => by have := Int.mul_neg_of_neg_of_pos hn (show 0 < a.d by omega); omega
    have ha : a.n ≤ a.d := Int.not_lt.1 fun hn => by
      have e1 : b.n * a.d ≤ b.d * a.d := Int.mul_le_mul_of_nonneg_right h6 (by omega)
      have e2 : a.d * b.d < a.n * b.d := Int.mul_lt_mul_of_pos_right hn (by omega)
      rw [Int.mul_comm b.d] at e1
      omega
    exact ⟨⟨h1, h2, ha⟩, ⟨h4, hb, h6⟩, h7⟩
  have bad : ¬ (qValid a = true ∧ qValid b = true ∧ 0 ≤ a.n ∧ a.n * b.d ≤ b.n * a.d ∧ b.n ≤ b.d) → Value.bool false = .bool (sharesQ a b) := fun h => by rw [show sharesQ a b = false from Bool.eq_false_iff.2 fun e => h (hs.1 e)]
  by_cases hv : qValid a = true ∧ qValid b = true
  · have hC : qCmp a b = (cmpI (a.n * b.d) (b.n * a.d), 0) := by unfold qCmp; rw [hv.1, hv.2]; rfl
    have hcmp : cmpI (a.n * b.d) (b.n * a.d) ≤ 0 ↔ a.n * b.d ≤ b.n * a.d := by unfold cmpI; split <;> (try split) <;> omega
    rw [hC]
    refine cE (fun _ => ?_) (fun h => absurd rfl h)
    refine idxR 0 rfl (by decide) ?_
    refine fldA ?_
    refine ld (iv a.n) (b2.cell rfl) ?_
    refine cD (fun g1 => ?_) (fun g1 => ?_)
    · refine cD (fun g2 => ?_) (fun g2 => ?_)
      · refine idxR 1 rfl (by decide) ?_
        refine fldA ?_
        refine ld (iv b.n) (b2.cell rfl) ?_
        refine idxR 1 rfl (by decide) ?_
        refine fldA ?_
        refine ld (iv b.d) (b2.cell rfl) ?_
        refine cD (fun g3 => ?_) (fun g3 => ?_)
        · exact ret1 (.bool true) rfl ⟨by rw [hs.2 ⟨hv.1, hv.2, g1, hcmp.1 g2, g3⟩], x⟩
        · exact ret1 (.bool false) rfl ⟨bad fun h => g3 h.2.2.2.2, x⟩
      · exact ret1 (.bool false) rfl ⟨bad fun h => g2 (hcmp.2 h.2.2.2.1), x⟩
    · exact ret1 (.bool false) rfl ⟨bad fun h => g1 h.2.2.1, x⟩
  · have hC : qCmp a b = (0, 120) := by unfold qCmp; rw [if_neg (by simpa using hv)]
    rw [hC]
    refine cE (fun h => absurd h (by decide)) (fun _ => ?_)
    exact ret1 (.bool false) rfl ⟨bad fun h => hv ⟨h.1, h.2.1⟩, x⟩
end
end Go.Proofs.YtcpdhclnmjfldaaGreatDoor

/- Own layer, part q: structs and arrays compared; interface values, panics. Nothing of the program stands here. -/
namespace Go.Proofs.YtcpdhclnmjfldaaGreatDoor
open Go Go.RowKit

section
variable {P : Program} {X : XK}
/-- A part of a struct or an array. -/
def partV (P : Program) (e : TypeId) (xs : List Value) (off : Nat) : Option Value := match P.underlying e with
  | some (.struct _) | some (.array _ _) => some (.agg ((xs.drop off).take (P.cellsOf e)).toArray)
  | some _ => xs[off]?
  | none => none
def eqF (P : Program) (f : TypeId → Value → Value → Option Bool) (xs ys : List Value) : List Field → Option Bool
  | [] => some true
  | d :: fs => if d.name = "_" then none else match partV P d.type xs d.offset, partV P d.type ys d.offset, eqF P f xs ys fs with
    | some a, some b, some s => (match f d.type a b with | some r => some (r && s) | none => none)
    | _, _, _ => none
def eqI (P : Program) (f : TypeId → Value → Value → Option Bool) (e : TypeId) (xs ys : List Value) : List Nat → Option Bool
  | [] => some true
  | i :: is => match partV P e xs (i * P.cellsOf e), partV P e ys (i * P.cellsOf e), eqI P f e xs ys is with
    | some a, some b, some s => (match f e a b with | some r => some (r && s) | none => none)
    | _, _, _ => none
/-- Whether two values of a type are equal. -/
def eqV (P : Program) : Nat → TypeId → Value → Value → Option Bool
  | 0, _, _, _ => none
  | d + 1, t, x, y => match P.underlying t with
    | some .bool => (match x, y with | .bool a, .bool b => some (a == b) | _, _ => none)
    | some (.int _) => (match x, y with | .int k a, .int k' b => bif Nat.beq (kno k) (kno k') then some (a == b) else none | _, _ => none)
    | some .string => (match x, y with | .string a, .string b => some (a.toList == b.toList) | _, _ => none)
    | some (.array n e) => (match x, y with | .agg xs, .agg ys => if (P.info? e).isSome then eqI P (eqV P d) e xs.toList ys.toList (List.range n) else none | _, _ => none)
    | some (.struct fs) => (match x, y with | .agg xs, .agg ys => if P.stoodInHeld t then none else eqF P (eqV P d) xs.toList ys.toList fs.toList | _, _ => none)
    | _ => none
theorem run_partV {e : TypeId} {xs : Array Value} {off : Nat} {v : Value} (h : partV P e xs.toList off = some v) (w : World) : (part e xs off).run P w = .ok v w := by
  unfold partV at h
  cases hu : P.underlying e with
  | none => rw [hu] at h; cases h
  | some d =>
    obtain ⟨i, hi⟩ := info_of_underlying hu
    rw [hu] at h
    have hl : xs.extract off (off + P.cellsOf e) = ((xs.toList.drop off).take (P.cellsOf e)).toArray := by
      rw [← Array.toList_inj, Array.toList_extract]
      simp [List.extract]
    cases d <;> dsimp only at h <;> first
      | (have h' : xs[off]? = some v := by simpa using h
         simp [part, isAgg, run_underlying hu, h']
         done)
      | (simp only [Option.some.injEq] at h
         subst h
         simp [part, isAgg, run_underlying hu, Go.run_sizeOf w hi, hl]
         done)
theorem run_eqV (D : Nat) : ∀ (d : Nat) (t : TypeId) (x y : Value) (r : Bool), eqV P d t x y = some r → ∀ w : World, (Op.equalIn (D + d) t x y).run P w = .ok r w
  | 0, _, _, _, _, h => by cases h
  | d + 1, t, x, y, r, h => by
    intro w
    have ih := run_eqV D d
    unfold eqV at h
    cases hu : P.underlying t with
    | none => rw [hu] at h; cases h
    | some k =>
      rw [hu] at h
      cases k <;> dsimp only at h <;> try (cases h; done)
      case bool =>
        split at h <;> cases h
        exact run_equalIn_bool' w (D + d) t _ _ hu
      case int q =>
        split at h
        · rename_i k a k' b
          cases hb : Nat.beq (kno k) (kno k') with
          | false => rw [hb] at h; cases h
          | true =>
            rw [hb] at h
            cases h
            cases kno_inj hb
            exact run_equalIn_int w (D + d) t _ q _ _ hu
        · cases h
      case string =>
        split at h <;> cases h
        exact run_equalIn_string w (D + d) t _ _ hu
      case array n e =>
        split at h
        · rename_i xs ys
          split at h
          · rename_i hi
            obtain ⟨i, hi⟩ := Option.isSome_iff_exists.1 hi
            rw [show D + (d + 1) = (D + d) + 1 from rfl, run_equalIn_array w (D + d) xs ys hu hi]
            generalize List.range n = is at h
            induction is generalizing r with
            | nil => cases h; rfl
            | cons i is IH =>
              unfold eqI at h
              split at h
              · rename_i a b s ha hb hs
                split at h
                · rename_i q hq
                  cases h
                  rw [Op.eqItems, Sem.run_bind, run_partV ha, Result.andThen_ok, Sem.run_bind, run_partV hb, Result.andThen_ok, Sem.run_bind, ih _ _ _ _ hq, Result.andThen_ok]
                  cases q
                  · rfl
                  · exact IH _ hs
                · cases h
              · cases h
          · cases h
        · cases h
      case struct fs =>
        split at h
        · rename_i xs ys
          split at h
          · cases h
          · rename_i hst
            have hfs : P.fieldsOf t = fs := by simp [Program.fieldsOf, hu]
            rw [show D + (d + 1) = (D + d) + 1 from rfl, run_equalIn_struct w (D + d) t xs ys (by rw [hfs]; exact hu) (by simpa using hst), hfs]
            generalize fs.toList = is at h
            induction is generalizing r with
            | nil => cases h; rfl
            | cons i is IH =>
              unfold eqF at h
              split at h
              · cases h
              · rename_i hn
                split at h
                · rename_i a b s ha hb hs
                  split at h
                  · rename_i q hq
                    cases h
                    rw [Op.eqFields, if_pos hn, Sem.run_bind, run_partV ha, Result.andThen_ok, Sem.run_bind, run_partV hb, Result.andThen_ok, Sem.run_bind, ih _ _ _ _ hq, Result.andThen_ok]
                    cases q
                    · rfl
                    · exact IH _ hs
                  · cases h
                · cases h
        · cases h
class EqTy (P : Program) (t : TypeId) : Prop where
  g : P.eqGuardType P.depth t = false
theorem run_eqD {t : TypeId} [h : EqTy P t] (xo yo : Operand) {xs ys : Array Value} {q : Bool} (hq : eqV P 8 t (.agg xs) (.agg ys) = some q) (w : World) :
    (do eqGuard .eql t xo yo (.agg xs) (.agg ys); binOp .eql t (.agg xs) (.agg ys) : Sem Value).run P w = .ok (.bool q) w := by
  have hr : (Op.equalIn 10000 t (.agg xs) (.agg ys)).run P w = .ok q w := run_eqV 9992 8 t _ _ _ hq w
  rw [Sem.run_bind, run_eqGuard_agg w .eql t xo yo _ _ h.g, Result.andThen_ok, run_eql_struct, hr]
  rfl
theorem run_neD {t : TypeId} [h : EqTy P t] (xo yo : Operand) {xs ys : Array Value} {q : Bool} (hq : eqV P 8 t (.agg xs) (.agg ys) = some q) (w : World) :
    (do eqGuard .neq t xo yo (.agg xs) (.agg ys); binOp .neq t (.agg xs) (.agg ys) : Sem Value).run P w = .ok (.bool (!q)) w := by
  have hr : (Op.equalIn 10000 t (.agg xs) (.agg ys)).run P w = .ok q w := run_eqV 9992 8 t _ _ _ hq w
  rw [Sem.run_bind, run_eqGuard_agg w .neq t xo yo _ _ h.g, Result.andThen_ok, run_neq_struct, hr]
  rfl
theorem eqS {t : TypeId} [h : EqTy P t] {xo yo : Operand} {xs ys : Array Value} (q : Bool) {K : Value → Prop} (hq : eqV P 8 t (.agg xs) (.agg ys) = some q) (k1 : q = true → K (.bool true)) (k2 : q = false → K (.bool false)) : BinP P .eql t xo yo (.agg xs) (.agg ys) K := by
  rw [BinP_eq]
  refine pure_vval (fun w => run_eqD xo yo hq w) ?_
  cases q
  · exact k2 rfl
  · exact k1 rfl
theorem neS {t : TypeId} [h : EqTy P t] {xo yo : Operand} {xs ys : Array Value} (q : Bool) {K : Value → Prop} (hq : eqV P 8 t (.agg xs) (.agg ys) = some q) (k1 : q = false → K (.bool true)) (k2 : q = true → K (.bool false)) : BinP P .neq t xo yo (.agg xs) (.agg ys) K := by
  rw [BinP_eq]
  refine pure_vval (fun w => run_neD xo yo hq w) ?_
  cases q
  · exact k1 rfl
  · exact k2 rfl

/-! ### interface values, panics -/
/-- A value made an interface's. -/
theorem mkI {s : Sem Next} {t : TypeId} {v : Value} {K : VK} {w : World} (hs : s = vS (Instr.makeInterface t v)) (hc : P.concrete t = true) (k : K (.iface t v) w) : OthP P s K X w := by
  rw [OthP_eq]
  refine OpS.x fun w0 hw => ?_
  subst hw
  rw [hs, run_vS, run_makeInterface _ t v hc]
  exact k
theorem panicI {s : Sem Next} {t : TypeId} {v : Value} {K : VK} {w : World} (hs : s = vS (Instr.panic (.iface t v))) (k : X [{ v := .iface t v, recovered := false }] w) : OthP P s K X w := by
  rw [OthP_eq]
  intro w0 hw
  subst hw
  rw [hs, run_vS]
  exact k
/-- A type assertion to a type that is no interface, which holds. -/
theorem tAs {s : Sem Next} {t xt : TypeId} {v : Value} {K : VK} {w : World} (hs : s = vS (Instr.typeAssert (.iface t v) xt t true)) (hc : P.concrete t = true) (k : K (.tuple #[v, .bool true]) w) : OthP P s K X w := by
  rw [OthP_eq]
  refine OpS.x fun w0 hw => ?_
  subst hw
  rw [hs, run_vS]
  have : (Instr.typeAssert (.iface t v) xt t true).run P w0 = .ok (.tuple #[v, .bool true]) w0 := by
    unfold Program.concrete at hc
    cases hd : P.underlying t with
    | none => simp [hd] at hc
    | some d => cases d <;> first | (simp [hd] at hc; done) | simp [Instr.typeAssert, run_underlying hd]
  rw [this]
  exact k
end
end Go.Proofs.YtcpdhclnmjfldaaGreatDoor

/- Contracts: expand's checks. -/
namespace Go.Proofs.YtcpdhclnmjfldaaGreatDoor
open Go Go.RowKit

instance : EqTy Tryz.prog 174 := ⟨by kernel_rfl⟩
def tI0 : Ty Int := tFl 1 (fun x => [iv x]) fun _ => rfl
theorem NewB.i0 {w w' : World} {e : TypeId} {g : Nat} (xs : List Int) (hb : NewB w e (xs.map fun x => .int .i64 x) g w') (hl : Nat.ble xs.length 1000 = true := by rfl) : SlR tI0 (fun _ => True) w' (some (ad g 0)) xs.length xs :=
  SlR.of_cells rfl (by have := Nat.le_of_ble_eq_true hl; omega) trivial (.blk hb.blk) (by
    clear hl hb
    induction xs with
    | nil => rfl
    | cons x xs ih => exact ⟨[iv x], _, rfl, rfl, ih⟩)
def kindOk (h : Int) (x : Right) : Bool :=
  if x.kind = 1 then decide (x.reach = 0) && (inI x.rank 0 1048576 && (inI x.litres 1 1073741824 && (inI x.length 1 x.every && decide (x.every ≤ h))))
  else if x.kind = 2 then decide (x.rank = 0) && (decide (x.litres = 0) && (decide (x.every = 0) && (decide (x.length = 0) && (decide (x.frm = 0) && decide (x.to = h - 1)))))
  else if x.kind = 3 then decide (x.rank = 0) && (decide (x.litres = 0) && (decide (x.every = 0) && decide (x.length = 0)))
  else false
def rightOk (nf nr : Nat) (h : Int) (x : Right) : Bool := inI x.farm 0 ((nf : Int) - 1) && (inI x.reach 0 ((nr : Int) - 1) && (inI x.frm 0 x.to && (decide (x.to < h) && kindOk h x)))
theorem rising4 {a b c e : Int} : risingL [a, b, c, e] = true ↔ a ≤ b ∧ b ≤ c ∧ c ≤ e := by unfold risingL risingL risingL risingL; simp
theorem rising4' {a b c e : Int} : risingL [a, b, c, e] = false ↔ ¬ (a ≤ b ∧ b ≤ c ∧ c ≤ e) := by rw [← rising4]; simp
theorem rising3' {a b c : Int} : risingL [a, b, c] = true ↔ a ≤ b ∧ b ≤ c := by rw [rising3, inI_iff]
theorem rising3n {a b c : Int} : risingL [a, b, c] = false ↔ ¬ (a ≤ b ∧ b ≤ c) := by rw [rising3, inI_not]

section
variable {D : Nat → Prop} {w : World}
theorem c_rising {xs : List Int} {A : Option Addr} {n c : Nat} (h : SlR tI0 D w A n xs) : CallZ Tryz.prog 79 #[.slice A n c] w (fun v w' => v = .bool (risingL xs) ∧ w' = w) := by
  refine fn_rule (args := [.slice A n c]) Tryz.func79 (by kernel_rfl) ?_
  refine loop_rule (fun k : Nat => [(3, iv (k : Int))]) (fun k w' => w' = w ∧ 1 ≤ k ∧ (k ≤ n ∨ k = 1) ∧ risingL xs = risingL (xs.drop (k - 1))) (fun k _ => n + 1 - k) 1 ⟨rfl, trivial⟩ ⟨rfl, by omega, by omega, by rw [Nat.sub_self, List.drop_zero]⟩ rfl ?_
  rintro G k w' ⟨rfl, h1, h2, he⟩
  refine len ?_
  refine cD (fun hlt => ?_) (fun hge => ?_)
  · refine drawQ mx (by kernel_rfl) ?_
    obtain ⟨b, o, cs, x, rfl, -, hx, -, hc, rfl⟩ := h.at_ (show k < n by omega)
    obtain ⟨b', o', cs, y, hb, -, hy, -, hc', rfl⟩ := h.at_ (show k - 1 < n by omega)
    cases hb
    refine idx k rfl (by omega) ?_
    refine ldS (iv x) (fun u hu => by rw [hu]; exact hc 0 _ rfl) ?_
    refine arI (by have := h.le; omega) ?_
    refine idx (k - 1) (by omega) (by omega) ?_
    refine ldS (iv y) (fun u hu => by rw [hu]; exact hc' 0 _ rfl) ?_
    rw [hy, show k - 1 + 1 = k by omega, hx] at he
    refine cD (fun g => ?_) (fun g => ?_)
    · exact ret1 (.bool false) rfl ⟨by rw [he, risingL, decide_eq_false (by omega)]; rfl, rfl⟩
    · refine arI (by have := h.le; omega) ?_
      refine next (k + 1) ⟨by rw [Int.natCast_add]; rfl, trivial⟩ ⟨rfl, by omega, by omega, ?_⟩ (by omega)
      rw [he, risingL, decide_eq_true (by omega), Nat.add_sub_cancel, hx]; rfl
  · refine ret1 (.bool true) rfl ⟨?_, rfl⟩
    rw [he]
    have hl := h.len
    match hd : xs.drop (k - 1), (show (xs.drop (k - 1)).length ≤ 1 by rw [List.length_drop]; omega) with
    | [], _ => rfl
    | [_], _ => rfl
theorem c_ereach {i : Nat} {x : Reach} : CallZ Tryz.prog 80 #[iv (i : Int), x.v] w (fun v w' => v = .bool (upOk i x.up && reachOk x) ∧ Ext w w') := by
  refine fn_rule (args := [iv (i : Int), .agg #[.string x.name, iv x.up, iv x.delay, iv x.cap, iv x.bank, iv x.siphon, iv x.evap.lo, iv x.evap.hi, iv x.s0.n, iv x.s0.d, iv x.s1.n, iv x.s1.d]]) Tryz.func80 (by kernel_rfl) ?_
  refine box (fun g w1 h1 => ?_)
  have bad : ¬ (upOk i x.up = true ∧ reachOk x = true) → Value.bool false = .bool (upOk i x.up && reachOk x) := fun h => by rw [show (upOk i x.up && reachOk x) = false from Bool.eq_false_iff.2 fun e => h (by simpa using e)]
  refine fldA ?_
  refine ld (iv x.up) (h1.blk.cell rfl) ?_
  refine cE (fun h0 => ?a) (fun h0 => ?b)
  all_goals refine cD (fun hi => ?_) (fun hi => ?_)
  case' b.refine_2 =>
    exact ret1 (.bool false) rfl ⟨bad fun h => by have := h.1; unfold upOk at this; rw [if_pos (by omega), decide_eq_true_eq] at this; exact h0 this, h1.ext⟩
  case' a.refine_1 =>
    refine fldA ?_
    refine ld (iv x.up) (h1.blk.cell rfl) ?_
    refine callB c_eindex (fun hb => ?_) (fun hb => ?_)
    rotate_left
    · exact ret1 (.bool false) rfl ⟨bad fun h => by have := h.1; unfold upOk at this; rw [if_neg (by omega), hb] at this; exact Bool.noConfusion this, h1.ext⟩
    have hu : upOk i x.up = true := by unfold upOk; rw [if_neg (by omega), hb]
  case' b.refine_1 =>
    refine fldA ?_
    refine ld (iv x.up) (h1.blk.cell rfl) ?_
    refine callB c_eindex (fun hb => ?_) (fun hb => ?_)
    rotate_left
    · exact ret1 (.bool false) rfl ⟨bad fun h => by have := h.1; unfold upOk at this; rw [if_neg (by omega), hb] at this; exact Bool.noConfusion this, h1.ext⟩
    have hu : upOk i x.up = true := by unfold upOk; rw [if_neg (by omega), hb]
  case' a.refine_2 =>
    have hu : upOk i x.up = true := by unfold upOk; rw [if_pos (by omega), h0]; rfl
  all_goals
    refine fldA ?_
    refine ld (iv x.delay) (h1.blk.cell rfl) ?_
    refine lit [iv 1, iv x.delay, iv 16] (fun g2 w2 hb2 => ?_)
    refine callB (c_rising (hb2.i0 [1, x.delay, 16])) (fun r1 => ?_) (fun r1 => ?_)
    rotate_left
    · exact ret1 (.bool false) rfl ⟨bad fun h => rising3n.1 r1 (reachOk_iff.1 h.2).1, h1.ext.trans hb2.ext⟩
    have y2 := h1.blk.ext hb2.ext
    refine fldA ?_
    refine ld (iv x.siphon) (y2.cell rfl) ?_
    refine fldA ?_
    refine ld (iv x.cap) (y2.cell rfl) ?_
    refine lit [iv 0, iv x.siphon, iv x.cap, iv 1073741824] (fun g3 w3 hb3 => ?_)
    have x3 := hb2.ext.trans hb3.ext
    refine callB (c_rising (hb3.i0 [0, x.siphon, x.cap, 1073741824])) (fun r2 => ?_) (fun r2 => ?_)
    rotate_left
    · exact ret1 (.bool false) rfl ⟨bad fun h => rising4'.1 r2 (by have := reachOk_iff.1 h.2; omega), h1.ext.trans x3⟩
    have y3 := h1.blk.ext x3
    refine fldA ?_
    refine ld (iv x.siphon) (y3.cell rfl) ?_
    refine fldA ?_
    refine ld (iv x.bank) (y3.cell rfl) ?_
    refine lit [iv 0, iv x.siphon, iv x.bank, iv 1099511627776] (fun g4 w4 hb4 => ?_)
    have x4 := x3.trans hb4.ext
    refine callB (c_rising (hb4.i0 [0, x.siphon, x.bank, 1099511627776])) (fun r3 => ?_) (fun r3 => ?_)
    rotate_left
    · exact ret1 (.bool false) rfl ⟨bad fun h => rising4'.1 r3 (by have := reachOk_iff.1 h.2; omega), h1.ext.trans x4⟩
    have y4 := h1.blk.ext x4
    refine fldA ?_
    refine fldA ?_
    refine ld (iv x.evap.lo) (y4.cell rfl) ?_
    refine fldA ?_
    refine fldA ?_
    refine ld (iv x.evap.hi) (y4.cell rfl) ?_
    refine lit [iv 0, iv x.evap.lo, iv x.evap.hi, iv 1073741824] (fun g5 w5 hb5 => ?_)
    have x5 := x4.trans hb5.ext
    refine callB (c_rising (hb5.i0 [0, x.evap.lo, x.evap.hi, 1073741824])) (fun r4 => ?_) (fun r4 => ?_)
    rotate_left
    · exact ret1 (.bool false) rfl ⟨bad fun h => rising4'.1 r4 (lossOk_iff.1 (reachOk_iff.1 h.2).2.2.2.2).1, h1.ext.trans x5⟩
    refine fldA ?_
    refine ldA [iv x.s0.n, iv x.s0.d, iv x.s1.n, iv x.s1.d] (((CellsAt.blk h1.blk).mid 8 4).kept x5 trivial) rfl ?_
    refine callE (c_eshare (a := x.s0) (b := x.s1)) (fun w6 hs x6 => ?_) (fun w6 hs x6 => ?_)
    · have := rising3'.1 r1
      have := rising4.1 r2
      have := rising4.1 r3
      have he := rising4.1 r4
      exact ret1 (.bool true) rfl ⟨by rw [hu, reachOk_iff.2 ⟨by omega, by omega, by omega, by omega, lossOk_iff.2 ⟨he, hs⟩⟩]; rfl, h1.ext.trans (x5.trans x6)⟩
    · exact ret1 (.bool false) rfl ⟨bad fun h => by have := (lossOk_iff.1 (reachOk_iff.1 h.2).2.2.2.2).2; rw [hs] at this; exact Bool.noConfusion this, h1.ext.trans (x5.trans x6)⟩
end
end Go.Proofs.YtcpdhclnmjfldaaGreatDoor

/- Contracts: expand's rights, demands. -/
namespace Go.Proofs.YtcpdhclnmjfldaaGreatDoor
open Go Go.RowKit

section
variable {D : Nat → Prop} {w : World}
theorem c_eright {d : Dist} {cs : List Value} {x : Right} (hd : DiR D w cs d) (hh : 1 ≤ d.hours ∧ d.hours ≤ 4096) : CallZ Tryz.prog 82 #[.agg cs.toArray, .agg x.c.toArray] w (fun v w' => v = .bool (rightOk d.farms.length d.reaches.length d.hours x) ∧ Ext w w') := by
  obtain ⟨A1, n1, c1, A2, n2, c2, A3, n3, c3, A4, n4, c4, A5, n5, c5, A6, n6, c6, rfl, hr, hf, hcr, hri, hdu, hwe⟩ := hd.ex
  have l1 := hr.len
  have l2 := hf.len
  have e1 := hr.le
  have e2 := hf.le
  refine fn_rule (args := [.agg #[.string d.name, iv d.hours, iv d.cap, iv d.start, .slice A1 n1 c1, .slice A2 n2 c2, .slice A3 n3 c3, .slice A4 n4 c4, .slice A5 n5 c5, .slice A6 n6 c6], .agg #[.string x.name, iv x.kind, iv x.farm, iv x.reach, iv x.rank, iv x.litres, iv x.frm, iv x.to, iv x.every, iv x.length]]) Tryz.func82 (by kernel_rfl) ?_
  have bad : ¬ (rightOk d.farms.length d.reaches.length d.hours x = true) → Value.bool false = .bool (rightOk d.farms.length d.reaches.length d.hours x) := fun h => by rw [Bool.eq_false_iff.2 h]
  have iff : rightOk d.farms.length d.reaches.length d.hours x = true ↔ inI x.farm 0 ((n2 : Int) - 1) = true ∧ inI x.reach 0 ((n1 : Int) - 1) = true ∧ (0 ≤ x.frm ∧ x.frm ≤ x.to) ∧ x.to < d.hours ∧ kindOk d.hours x = true := by
    unfold rightOk; rw [l1, l2]; simp only [Bool.and_eq_true, decide_eq_true_eq, inI_iff]
  refine box (fun g w1 h1 => ?_)
  refine box (fun q w2 h2 => ?_)
  have bg := h1.blk.ext h2.ext
  have bq := h2.blk
  have x2 := h1.ext.trans h2.ext
  refine fldA ?_
  refine ld (iv x.farm) (bq.cell rfl) ?_
  refine fldA ?_
  refine ld (.slice A2 n2 c2) (bg.cell rfl) ?_
  refine len ?_
  refine callB c_eindex (fun a1 => ?_) (fun a1 => ?_)
  rotate_left
  · exact ret1 (.bool false) rfl ⟨bad fun h => by have := (iff.1 h).1; rw [a1] at this; exact Bool.noConfusion this, x2⟩
  refine fldA ?_
  refine ld (iv x.reach) (bq.cell rfl) ?_
  refine fldA ?_
  refine ld (.slice A1 n1 c1) (bg.cell rfl) ?_
  refine len ?_
  refine callB c_eindex (fun a2 => ?_) (fun a2 => ?_)
  rotate_left
  · exact ret1 (.bool false) rfl ⟨bad fun h => by have := (iff.1 h).2.1; rw [a2] at this; exact Bool.noConfusion this, x2⟩
  refine fldA ?_
  refine ld (iv x.frm) (bq.cell rfl) ?_
  refine fldA ?_
  refine ld (iv x.to) (bq.cell rfl) ?_
  refine fldA ?_
  refine ld (iv d.hours) (bg.cell rfl) ?_
  refine arI (by omega) ?_
  refine lit [iv 0, iv x.frm, iv x.to, iv (d.hours - 1)] (fun g3 w3 hb3 => ?_)
  refine callB (c_rising (hb3.i0 [0, x.frm, x.to, d.hours - 1])) (fun a3 => ?_) (fun a3 => ?_)
  rotate_left
  · exact ret1 (.bool false) rfl ⟨bad fun h => rising4'.1 a3 (by have := iff.1 h; omega), x2.trans hb3.ext⟩
  have a3 := rising4.1 a3
  have iff2 : rightOk d.farms.length d.reaches.length d.hours x = true ↔ kindOk d.hours x = true := by
    rw [iff]; exact ⟨fun h => h.2.2.2.2, fun h => ⟨a1, a2, by omega, by omega, h⟩⟩
  have x3 := x2.trans hb3.ext
  have bg3 := bg.ext hb3.ext
  have bq3 := bq.ext hb3.ext
  refine fldA ?_
  refine ld (iv x.kind) (bq3.cell rfl) ?_
  refine cE (fun k1 => ?_) (fun k1 => ?_)
  · have iff3 : kindOk d.hours x = true ↔ x.reach = 0 ∧ (0 ≤ x.rank ∧ x.rank ≤ 1048576) ∧ (1 ≤ x.litres ∧ x.litres ≤ 1073741824) ∧ (1 ≤ x.length ∧ x.length ≤ x.every) ∧ x.every ≤ d.hours := by
      unfold kindOk; rw [if_pos k1]; simp only [Bool.and_eq_true, decide_eq_true_eq, inI_iff]
    refine fldA ?_
    refine ld (iv x.reach) (bq3.cell rfl) ?_
    refine cE (fun b1 => ?_) (fun b1 => ?_)
    rotate_left
    · exact ret1 (.bool false) rfl ⟨bad fun h => b1 (iff3.1 (iff2.1 h)).1, x3⟩
    refine fldA ?_
    refine ld (iv x.rank) (bq3.cell rfl) ?_
    refine lit [iv 0, iv x.rank, iv 1048576] (fun g4 w4 hb4 => ?_)
    refine callB (c_rising (hb4.i0 [0, x.rank, 1048576])) (fun b2 => ?_) (fun b2 => ?_)
    rotate_left
    · exact ret1 (.bool false) rfl ⟨bad fun h => rising3n.1 b2 (iff3.1 (iff2.1 h)).2.1, x3.trans hb4.ext⟩
    refine fldA ?_
    refine ld (iv x.litres) ((bq3.ext hb4.ext).cell rfl) ?_
    refine lit [iv 1, iv x.litres, iv 1073741824] (fun g5 w5 hb5 => ?_)
    have x35 := hb4.ext.trans hb5.ext
    refine callB (c_rising (hb5.i0 [1, x.litres, 1073741824])) (fun b3 => ?_) (fun b3 => ?_)
    rotate_left
    · exact ret1 (.bool false) rfl ⟨bad fun h => rising3n.1 b3 (iff3.1 (iff2.1 h)).2.2.1, x3.trans x35⟩
    refine fldA ?_
    refine ld (iv x.length) ((bq3.ext x35).cell rfl) ?_
    refine fldA ?_
    refine ld (iv x.every) ((bq3.ext x35).cell rfl) ?_
    refine fldA ?_
    refine ld (iv d.hours) ((bg3.ext x35).cell rfl) ?_
    refine lit [iv 1, iv x.length, iv x.every, iv d.hours] (fun g6 w6 hb6 => ?_)
    have x36 := x35.trans hb6.ext
    refine callB (c_rising (hb6.i0 [1, x.length, x.every, d.hours])) (fun b4 => ?_) (fun b4 => ?_)
    · have b4 := rising4.1 b4
      exact ret1 (.bool true) rfl ⟨by rw [iff2.2 (iff3.2 ⟨b1, rising3'.1 b2, rising3'.1 b3, by omega, by omega⟩)], x3.trans x36⟩
    · exact ret1 (.bool false) rfl ⟨bad fun h => rising4'.1 b4 (by have := iff3.1 (iff2.1 h); omega), x3.trans x36⟩
  refine cE (fun k2 => ?_) (fun k2 => ?_)
  · have iff3 : kindOk d.hours x = true ↔ x.rank = 0 ∧ x.litres = 0 ∧ x.every = 0 ∧ x.length = 0 ∧ x.frm = 0 ∧ x.to = d.hours - 1 := by
      unfold kindOk; rw [if_neg k1, if_pos k2]; simp only [Bool.and_eq_true, decide_eq_true_eq]
    refine ldA x.c (.blk bq3) rfl ?_
    refine fldA ?_
    refine ld (.string x.name) (bq3.cell rfl) ?_
    refine fldA ?_
    refine ld (iv x.kind) (bq3.cell rfl) ?_
    refine fldA ?_
    refine ld (iv x.farm) (bq3.cell rfl) ?_
    refine fldA ?_
    refine ld (iv x.reach) (bq3.cell rfl) ?_
    refine fldA ?_
    refine ld (iv d.hours) (bg3.cell rfl) ?_
    refine arI (by omega) ?_
    refine bld [.string x.name, iv x.kind, iv x.farm, iv x.reach, iv 0, iv 0, iv 0, iv (d.hours - 1), iv 0, iv 0] (by kernel_rfl) ?_
    refine eqS ((x.name.toList == x.name.toList) && ((x.kind == x.kind) && ((x.farm == x.farm) && ((x.reach == x.reach) && ((x.rank == 0) && ((x.litres == 0) && ((x.frm == 0) && ((x.to == d.hours - 1) && ((x.every == 0) && ((x.length == 0) && true)))))))))) (by kernel_rfl) (fun b => ?_) (fun b => ?_)
    · refine ret1 (.bool true) rfl ⟨?_, x3⟩
      simp at b
      rw [iff2.2 (iff3.2 (by omega))]
    · refine ret1 (.bool false) rfl ⟨bad fun h => ?_, x3⟩
      have := iff3.1 (iff2.1 h)
      simp [this] at b
  refine cE (fun k3 => ?_) (fun k3 => ?_)
  · have iff3 : kindOk d.hours x = true ↔ x.rank = 0 ∧ x.litres = 0 ∧ x.every = 0 ∧ x.length = 0 := by
      unfold kindOk; rw [if_neg k1, if_neg k2, if_pos k3]; simp only [Bool.and_eq_true, decide_eq_true_eq]
    refine ldA x.c (.blk bq3) rfl ?_
    refine fldA ?_
    refine ld (.string x.name) (bq3.cell rfl) ?_
    refine fldA ?_
    refine ld (iv x.kind) (bq3.cell rfl) ?_
    refine fldA ?_
    refine ld (iv x.farm) (bq3.cell rfl) ?_
    refine fldA ?_
    refine ld (iv x.reach) (bq3.cell rfl) ?_
    refine fldA ?_
    refine ld (iv x.frm) (bq3.cell rfl) ?_
    refine fldA ?_
    refine ld (iv x.to) (bq3.cell rfl) ?_
    refine bld [.string x.name, iv x.kind, iv x.farm, iv x.reach, iv 0, iv 0, iv x.frm, iv x.to, iv 0, iv 0] (by kernel_rfl) ?_
    refine eqS ((x.name.toList == x.name.toList) && ((x.kind == x.kind) && ((x.farm == x.farm) && ((x.reach == x.reach) && ((x.rank == 0) && ((x.litres == 0) && ((x.frm == x.frm) && ((x.to == x.to) && ((x.every == 0) && ((x.length == 0) && true)))))))))) (by kernel_rfl) (fun b => ?_) (fun b => ?_)
    · refine ret1 (.bool true) rfl ⟨?_, x3⟩
      simp at b
      rw [iff2.2 (iff3.2 (by omega))]
    · refine ret1 (.bool false) rfl ⟨bad fun h => ?_, x3⟩
      have := iff3.1 (iff2.1 h)
      simp [this] at b
  · refine ret1 (.bool false) rfl ⟨bad fun h => ?_, x3⟩
    have := iff2.1 h
    unfold kindOk at this
    rw [if_neg k1, if_neg k2, if_neg k3] at this
    exact Bool.noConfusion this
/-- The panic of a demand. -/
abbrev refusal (e : Int) : List PanicEntry := [{ v := .iface 165 (iv e), recovered := false }]
theorem c_demand {ok : Bool} {e : Int} : CallX Tryz.prog 62 #[.bool ok, iv e] w (fun v w' => v = .tuple #[] ∧ ok = true ∧ w' = w) (fun ch w' => ok = false ∧ w' = w ∧ ch = refusal e) := by
  refine fn_ruleX (args := [.bool ok, iv e]) Tryz.func62 (by kernel_rfl) ?_
  cases ok with
  | true => exact ret0 ⟨rfl, rfl, rfl⟩
  | false =>
    refine mkI rfl (by kernel_rfl) ?_
    refine panicI rfl ?_
    exact fun _ _ => ⟨rfl, rfl, rfl, rfl⟩
theorem dem {ok : Bool} {e : Int} {K : VK} {X : XK} (k1 : ok = true → K (.tuple #[]) w) (k2 : ok = false → X (refusal e) w) : CallP Tryz.prog 62 #[.bool ok, iv e] K X w := by
  refine call_ofX c_demand ?_ ?_
  · rintro _ _ ⟨rfl, h, rfl⟩; exact k1 h
  · rintro _ _ ⟨h, rfl, rfl⟩; exact k2 h
end
end Go.Proofs.YtcpdhclnmjfldaaGreatDoor

/- Contracts: expand's examine. -/
namespace Go.Proofs.YtcpdhclnmjfldaaGreatDoor
open Go Go.RowKit

def reachesB : Nat → List Reach → Bool
  | _, [] => true
  | i, x :: l => (upOk i x.up && reachOk x) && reachesB (i + 1) l
def cropOk (x : Crop) : Bool := inI x.need 0 1048576
def farmOk (nr nc : Nat) (x : Farm) : Bool := (if 0 < x.area then inI x.crop 0 ((nc : Int) - 1) else decide (x.crop = -1)) && (inI x.reach 0 ((nr : Int) - 1) && inI x.area 0 1048576)
def dutyOk (nf nr : Nat) (h : Int) (x : Duty) : Bool := inI x.farm 0 ((nf : Int) - 1) && (inI x.reach 0 ((nr : Int) - 1) && inI x.due 0 h)
def headOk (d : Dist) : Bool := inI d.hours 1 4096 && (inI d.start 0 d.cap && (decide (d.cap ≤ 1099511627776) && decide (0 < d.reaches.length)))
theorem headOk_iff {d : Dist} : headOk d = true ↔ (1 ≤ d.hours ∧ d.hours ≤ 4096) ∧ (0 ≤ d.start ∧ d.start ≤ d.cap) ∧ d.cap ≤ 1099511627776 ∧ 0 < d.reaches.length := by unfold headOk; simp only [Bool.and_eq_true, decide_eq_true_eq, inI_iff]
def validB (d : Dist) : Bool := headOk d && (reachesB 0 d.reaches && (d.crops.all cropOk && (d.farms.all (farmOk d.reaches.length d.crops.length) && (d.rights.all (rightOk d.farms.length d.reaches.length d.hours) && d.duties.all (dutyOk d.farms.length d.reaches.length d.hours)))))
theorem validB_iff {d : Dist} : validB d = true ↔ headOk d = true ∧ reachesB 0 d.reaches = true ∧ d.crops.all cropOk = true ∧ d.farms.all (farmOk d.reaches.length d.crops.length) = true ∧ d.rights.all (rightOk d.farms.length d.reaches.length d.hours) = true ∧ d.duties.all (dutyOk d.farms.length d.reaches.length d.hours) = true := by
  unfold validB; simp only [Bool.and_eq_true]

section
variable {D : Nat → Prop} {w : World}
theorem c_examine {d : Dist} {cs : List Value} {e : Int} (hd : DiR D w cs d) : CallX Tryz.prog 63 #[.agg cs.toArray, iv e] w (fun v w' => v = .tuple #[] ∧ validB d = true ∧ Ext w w') (fun ch w' => validB d = false ∧ Ext w w' ∧ ch = refusal e) := by
  obtain ⟨A1, n1, c1, A2, n2, c2, A3, n3, c3, A4, n4, c4, A5, n5, c5, A6, n6, c6, rfl, hr, hf, hcr, hri, hdu, hwe⟩ := hd.ex
  have l1 := hr.len
  have l2 := hf.len
  have l3 := hcr.len
  refine fn_ruleX (args := [.agg #[.string d.name, iv d.hours, iv d.cap, iv d.start, .slice A1 n1 c1, .slice A2 n2 c2, .slice A3 n3 c3, .slice A4 n4 c4, .slice A5 n5 c5, .slice A6 n6 c6], iv e]) Tryz.func63 (by kernel_rfl) ?_
  have bad : ¬ (validB d = true) → validB d = false := Bool.eq_false_iff.2
  refine box (fun g w1 h1 => ?_)
  have bg := h1.blk
  have x1 := h1.ext
  have zg := h1.at_
  have hlt := bg.lt
  -- the head
  have tail1 : ∀ w2, Ext w1 w2 → headOk d = true → True := fun _ _ _ => trivial
  refine fldA ?_
  refine ld (iv d.hours) (bg.cell rfl) ?_
  refine lit [iv 1, iv d.hours, iv 4096] (fun g3 w3 hb3 => ?_)
  refine callB (c_rising (hb3.i0 [1, d.hours, 4096])) (fun a1 => ?_) (fun a1 => ?_)
  rotate_left
  · refine dem (fun h => Bool.noConfusion h) (fun _ => ?_)
    exact fun _ _ => ⟨rfl, bad fun h => rising3n.1 a1 (headOk_iff.1 (validB_iff.1 h).1).1, x1.trans hb3.ext, rfl⟩
  have b3 := bg.ext hb3.ext
  refine fldA ?_
  refine fldA ?_
  refine ld (iv d.start) (b3.cell rfl) ?_
  refine fldA ?_
  refine fldA ?_
  refine ld (iv d.cap) (b3.cell rfl) ?_
  refine lit [iv 0, iv d.start, iv d.cap, iv 1099511627776] (fun g4 w4 hb4 => ?_)
  have x4 := hb3.ext.trans hb4.ext
  refine callB (c_rising (hb4.i0 [0, d.start, d.cap, 1099511627776])) (fun a2 => ?_) (fun a2 => ?_)
  rotate_left
  · refine dem (fun h => Bool.noConfusion h) (fun _ => ?_)
    exact fun _ _ => ⟨rfl, bad fun h => rising4'.1 a2 (by have := headOk_iff.1 (validB_iff.1 h).1; omega), x1.trans x4, rfl⟩
  have b4 := bg.ext x4
  refine fldA ?_
  refine ld (.slice A1 n1 c1) (b4.cell rfl) ?_
  refine len ?_
  refine cD (fun a3 => ?_) (fun a3 => ?_)
  rotate_left
  · refine dem (fun h => Bool.noConfusion h) (fun _ => ?_)
    exact fun _ _ => ⟨rfl, bad fun h => by have := headOk_iff.1 (validB_iff.1 h).1; omega, x1.trans x4, rfl⟩
  refine dem (fun _ => ?_) (fun h => Bool.noConfusion h)
  have a1 := rising3'.1 a1
  have a2 := rising4.1 a2
  have hH : headOk d = true := headOk_iff.2 (by omega)
  clear a2 tail1
  refine fldA ?_
  refine ld (.slice A1 n1 c1) (b4.cell rfl) ?_
  refine len ?_
  -- the reaches
  refine loop_rule (fun k : Nat => [(40, iv (k : Int))]) (fun k w' => k ≤ n1 ∧ Ext w1 w' ∧ reachesB 0 d.reaches = reachesB k (d.reaches.drop k)) (fun k _ => n1 - k) 0 ⟨rfl, trivial⟩ ⟨by omega, x4, rfl⟩ rfl ?_
  rintro G k w5 ⟨hk, x5, he⟩
  refine cD (fun hlt => ?_) (fun hge => ?_)
  · obtain ⟨b, o, cs, x, rfl, -, hx, -, hc, rfl⟩ := (hr.ext (x1.trans x5)).at_ (show k < n1 by omega)
    rw [hx, reachesB] at he
    refine idx k rfl (by omega) ?_
    refine ldA x.c hc rfl ?_
    refine alloc (fun q w6 h6 => ?_)
    refine stA (vs := x.c) h6.blk rfl (Nat.le_of_ble_eq_true rfl) (by simp [Value.oneCell']) (fun w7 hb7 k7 z7 => ?_)
    have z6 := h6.at_
    have zz := x5.size
    have x7 : Ext w1 w7 := (x5.trans h6.ext).then k7 fun b hb _ e => by omega
    refine ldA x.c (.blk hb7) rfl ?_
    refine callE (c_ereach (i := k) (x := x)) (fun w8 hq x8 => ?_) (fun w8 hq x8 => ?_)
    · refine dem (fun _ => ?_) (fun h => Bool.noConfusion h)
      refine arI (by have := hr.le; omega) ?_
      refine next (k + 1) ⟨by rw [Int.natCast_add]; rfl, trivial⟩ ⟨by omega, x7.trans x8, ?_⟩ (by omega)
      rw [he, hq]; rfl
    · refine dem (fun h => Bool.noConfusion h) (fun _ => ?_)
      exact fun _ _ => ⟨rfl, bad fun h => by have := (validB_iff.1 h).2.1; rw [he, hq] at this; exact Bool.noConfusion this, x1.trans (x7.trans x8), rfl⟩
  have hR : reachesB 0 d.reaches = true := by rw [he, drop_end (by omega)]; rfl
  clear he hge

  refine fldA ?_
  refine ld (.slice A3 n3 c3) ((bg.ext x5).cell rfl) ?_
  refine len ?_
  -- the crops
  refine loop_rule (fun k : Nat => [(54, iv (k : Int))]) (fun k w' => k ≤ n3 ∧ Ext w1 w' ∧ d.crops.all cropOk = (d.crops.drop k).all cropOk) (fun k _ => n3 - k) 0 ⟨rfl, trivial⟩ ⟨by omega, x5, rfl⟩ rfl ?_
  rintro G k w9 ⟨hk, x9, he⟩
  refine cD (fun hlt => ?_) (fun hge => ?_)
  · obtain ⟨b, o, cs, x, rfl, -, hx, -, hc, rfl⟩ := (hcr.ext (x1.trans x9)).at_ (show k < n3 by omega)
    rw [hx, List.all_cons] at he
    refine idx k rfl (by omega) ?_
    refine ldA x.c hc rfl ?_
    refine alloc (fun q w6 h6 => ?_)
    refine stA (vs := x.c) h6.blk rfl (Nat.le_of_ble_eq_true rfl) (by simp [Value.oneCell']) (fun w7 hb7 k7 z7 => ?_)
    have z6 := h6.at_
    have zz := x9.size
    have x7 : Ext w1 w7 := (x9.trans h6.ext).then k7 fun b hb _ e => by omega
    refine fldA ?_
    refine ld (iv x.need) (hb7.cell rfl) ?_
    refine lit [iv 0, iv x.need, iv 1048576] (fun g8 w8 hb8 => ?_)
    refine callB (c_rising (hb8.i0 [0, x.need, 1048576])) (fun hq => ?_) (fun hq => ?_)
    · refine dem (fun _ => ?_) (fun h => Bool.noConfusion h)
      refine arI (by have := hcr.le; omega) ?_
      refine next (k + 1) ⟨by rw [Int.natCast_add]; rfl, trivial⟩ ⟨by omega, x7.trans hb8.ext, ?_⟩ (by omega)
      rw [he, show cropOk x = true from rising3.symm.trans hq]; rfl
    · refine dem (fun h => Bool.noConfusion h) (fun _ => ?_)
      exact fun _ _ => ⟨rfl, bad fun h => by have := (validB_iff.1 h).2.2.1; rw [he, show cropOk x = false from rising3.symm.trans hq] at this; exact Bool.noConfusion this, x1.trans (x7.trans hb8.ext), rfl⟩
  have hC : d.crops.all cropOk = true := by rw [he, drop_end (by have := hcr.len; omega)]; rfl
  clear he hge

  refine fldA ?_
  refine ld (.slice A2 n2 c2) ((bg.ext x9).cell rfl) ?_
  refine len ?_
  -- the farms
  refine loop_rule (fun k : Nat => [(68, iv (k : Int))]) (fun k w' => k ≤ n2 ∧ Ext w1 w' ∧ d.farms.all (farmOk d.reaches.length d.crops.length) = (d.farms.drop k).all (farmOk d.reaches.length d.crops.length)) (fun k _ => n2 - k) 0 ⟨rfl, trivial⟩ ⟨by omega, x9, rfl⟩ rfl ?_
  rintro G k w10 ⟨hk, x10, he⟩
  refine cD (fun hlt => ?_) (fun hge => ?_)
  · obtain ⟨b, o, cs, x, rfl, -, hx, -, hc, rfl⟩ := (hf.ext (x1.trans x10)).at_ (show k < n2 by omega)
    rw [hx, List.all_cons] at he
    refine idx k rfl (by omega) ?_
    refine ldA x.c hc rfl ?_
    refine alloc (fun q w6 h6 => ?_)
    refine stA (vs := x.c) h6.blk rfl (Nat.le_of_ble_eq_true rfl) (by simp [Value.oneCell']) (fun w7 hb7 k7 z7 => ?_)
    have z6 := h6.at_
    have zz := x10.size
    have x7 : Ext w1 w7 := (x10.trans h6.ext).then k7 fun b hb _ e => by omega
    have bg7 := bg.ext x7
    have bad2 : farmOk d.reaches.length d.crops.length x = false → validB d = false := fun hq => bad fun h => by have := (validB_iff.1 h).2.2.2.1; rw [he, hq] at this; exact Bool.noConfusion this
    have fiff : farmOk d.reaches.length d.crops.length x = true ↔ (if 0 < x.area then inI x.crop 0 ((n3 : Int) - 1) = true else x.crop = -1) ∧ inI x.reach 0 ((n1 : Int) - 1) = true ∧ (0 ≤ x.area ∧ x.area ≤ 1048576) := by
      unfold farmOk; rw [l1, l3, Bool.and_eq_true, Bool.and_eq_true, inI_iff (n := x.area)]
      split <;> simp only [decide_eq_true_eq]
    have bad3 : ¬ (farmOk d.reaches.length d.crops.length x = true) → validB d = false := fun h => bad2 (Bool.eq_false_iff.2 h)
    refine fldA ?_
    refine ld (iv x.crop) (hb7.cell rfl) ?_
    refine cE (fun p1 => ?ca) (fun p1 => ?cb)
    all_goals
      refine fldA ?_
      refine ld (iv x.area) (hb7.cell rfl) ?_
      refine cD (fun p2 => ?_) (fun p2 => ?_)
    case' cb.refine_2 =>
      refine dem (fun h => Bool.noConfusion h) (fun _ => ?_)
      exact fun _ _ => ⟨rfl, bad3 fun h => by have := (fiff.1 h).1; rw [if_neg (by omega)] at this; exact p1 this, x1.trans x7, rfl⟩
    case' ca.refine_1 =>
      refine fldA ?_
      refine ld (iv x.crop) (hb7.cell rfl) ?_
      refine fldA ?_
      refine ld (.slice A3 n3 c3) (bg7.cell rfl) ?_
      refine len ?_
      refine callB c_eindex (fun p3 => ?_) (fun p3 => ?_)
      rotate_left
      · refine dem (fun h => Bool.noConfusion h) (fun _ => ?_)
        exact fun _ _ => ⟨rfl, bad3 fun h => by have := (fiff.1 h).1; rw [if_pos (by omega), p3] at this; exact Bool.noConfusion this, x1.trans x7, rfl⟩
      have hu : (if 0 < x.area then inI x.crop 0 ((n3 : Int) - 1) = true else x.crop = -1) := by rw [if_pos (by omega)]; exact p3
    case' cb.refine_1 =>
      refine fldA ?_
      refine ld (iv x.crop) (hb7.cell rfl) ?_
      refine fldA ?_
      refine ld (.slice A3 n3 c3) (bg7.cell rfl) ?_
      refine len ?_
      refine callB c_eindex (fun p3 => ?_) (fun p3 => ?_)
      rotate_left
      · refine dem (fun h => Bool.noConfusion h) (fun _ => ?_)
        exact fun _ _ => ⟨rfl, bad3 fun h => by have := (fiff.1 h).1; rw [if_pos (by omega), p3] at this; exact Bool.noConfusion this, x1.trans x7, rfl⟩
      have hu : (if 0 < x.area then inI x.crop 0 ((n3 : Int) - 1) = true else x.crop = -1) := by rw [if_pos (by omega)]; exact p3
    case' ca.refine_2 =>
      have hu : (if 0 < x.area then inI x.crop 0 ((n3 : Int) - 1) = true else x.crop = -1) := by rw [if_neg (by omega)]; exact p1
    all_goals
      refine fldA ?_
      refine ld (iv x.reach) (hb7.cell rfl) ?_
      refine fldA ?_
      refine ld (.slice A1 n1 c1) (bg7.cell rfl) ?_
      refine len ?_
      refine callB c_eindex (fun p4 => ?_) (fun p4 => ?_)
      rotate_left
      · refine dem (fun h => Bool.noConfusion h) (fun _ => ?_)
        exact fun _ _ => ⟨rfl, bad3 fun h => by have := (fiff.1 h).2.1; rw [p4] at this; exact Bool.noConfusion this, x1.trans x7, rfl⟩
      refine fldA ?_
      refine ld (iv x.area) (hb7.cell rfl) ?_
      refine lit [iv 0, iv x.area, iv 1048576] (fun g8 w8 hb8 => ?_)
      refine callB (c_rising (hb8.i0 [0, x.area, 1048576])) (fun hq => ?_) (fun hq => ?_)
      · refine dem (fun _ => ?_) (fun h => Bool.noConfusion h)
        refine arI (by have := hf.le; omega) ?_
        refine next (k + 1) ⟨by rw [Int.natCast_add]; rfl, trivial⟩ ⟨by omega, x7.trans hb8.ext, ?_⟩ (by omega)
        rw [he, fiff.2 ⟨hu, p4, rising3'.1 hq⟩]; rfl
      · refine dem (fun h => Bool.noConfusion h) (fun _ => ?_)
        exact fun _ _ => ⟨rfl, bad3 fun h => rising3n.1 hq (fiff.1 h).2.2, x1.trans (x7.trans hb8.ext), rfl⟩
  have hF : d.farms.all (farmOk d.reaches.length d.crops.length) = true := by rw [he, drop_end (by omega)]; rfl
  clear he hge

  refine fldA ?_
  refine ld (.slice A4 n4 c4) ((bg.ext x10).cell rfl) ?_
  refine len ?_
  -- the rights
  refine loop_rule (fun k : Nat => [(105, iv (k : Int))]) (fun k w' => k ≤ n4 ∧ Ext w1 w' ∧ d.rights.all (rightOk d.farms.length d.reaches.length d.hours) = (d.rights.drop k).all (rightOk d.farms.length d.reaches.length d.hours)) (fun k _ => n4 - k) 0 ⟨rfl, trivial⟩ ⟨by omega, x10, rfl⟩ rfl ?_
  rintro G k w11 ⟨hk, x11, he⟩
  refine cD (fun hlt => ?_) (fun hge => ?_)
  · obtain ⟨b, o, cs, x, rfl, -, hx, -, hc, rfl⟩ := (hri.ext (x1.trans x11)).at_ (show k < n4 by omega)
    rw [hx, List.all_cons] at he
    refine idx k rfl (by omega) ?_
    refine ldA x.c hc rfl ?_
    refine alloc (fun q w6 h6 => ?_)
    refine stA (vs := x.c) h6.blk rfl (Nat.le_of_ble_eq_true rfl) (by simp [Value.oneCell']) (fun w7 hb7 k7 z7 => ?_)
    have z6 := h6.at_
    have zz := x11.size
    have x7 : Ext w1 w7 := (x11.trans h6.ext).then k7 fun b hb _ e => by omega
    refine ldA [.string d.name, iv d.hours, iv d.cap, iv d.start, .slice A1 n1 c1, .slice A2 n2 c2, .slice A3 n3 c3, .slice (some (ad b o)) n4 c4, .slice A5 n5 c5, .slice A6 n6 c6] (.blk (bg.ext x7)) rfl ?_
    refine ldA x.c (.blk hb7) rfl ?_
    refine callE (c_eright (d := d) (x := x) (hd.ext (x1.trans x7)) a1) (fun w8 hq x8 => ?_) (fun w8 hq x8 => ?_)
    · refine dem (fun _ => ?_) (fun h => Bool.noConfusion h)
      refine arI (by have := hri.le; omega) ?_
      refine next (k + 1) ⟨by rw [Int.natCast_add]; rfl, trivial⟩ ⟨by omega, x7.trans x8, ?_⟩ (by omega)
      rw [he, hq]; rfl
    · refine dem (fun h => Bool.noConfusion h) (fun _ => ?_)
      exact fun _ _ => ⟨rfl, bad fun h => by have := (validB_iff.1 h).2.2.2.2.1; rw [he, hq] at this; exact Bool.noConfusion this, x1.trans (x7.trans x8), rfl⟩
  have hG : d.rights.all (rightOk d.farms.length d.reaches.length d.hours) = true := by rw [he, drop_end (by have := hri.len; omega)]; rfl
  clear he hge

  refine fldA ?_
  refine ld (.slice A5 n5 c5) ((bg.ext x11).cell rfl) ?_
  refine len ?_
  -- the duties
  refine loop_rule (fun k : Nat => [(118, iv (k : Int))]) (fun k w' => k ≤ n5 ∧ Ext w1 w' ∧ d.duties.all (dutyOk d.farms.length d.reaches.length d.hours) = (d.duties.drop k).all (dutyOk d.farms.length d.reaches.length d.hours)) (fun k _ => n5 - k) 0 ⟨rfl, trivial⟩ ⟨by omega, x11, rfl⟩ rfl ?_
  rintro G k w12 ⟨hk, x12, he⟩
  refine cD (fun hlt => ?_) (fun hge => ?_)
  · obtain ⟨b, o, cs, x, rfl, -, hx, -, hc, rfl⟩ := (hdu.ext (x1.trans x12)).at_ (show k < n5 by omega)
    rw [hx, List.all_cons] at he
    refine idx k rfl (by omega) ?_
    refine ldA x.c hc rfl ?_
    refine alloc (fun q w6 h6 => ?_)
    refine stA (vs := x.c) h6.blk rfl (Nat.le_of_ble_eq_true rfl) (by simp [Value.oneCell']) (fun w7 hb7 k7 z7 => ?_)
    have z6 := h6.at_
    have zz := x12.size
    have x7 : Ext w1 w7 := (x12.trans h6.ext).then k7 fun b hb _ e => by omega
    have bg7 := bg.ext x7
    have fiff : dutyOk d.farms.length d.reaches.length d.hours x = true ↔ inI x.farm 0 ((n2 : Int) - 1) = true ∧ inI x.reach 0 ((n1 : Int) - 1) = true ∧ (0 ≤ x.due ∧ x.due ≤ d.hours) := by
      unfold dutyOk; rw [l1, l2, Bool.and_eq_true, Bool.and_eq_true, inI_iff (n := x.due)]
    have bad3 : ¬ (dutyOk d.farms.length d.reaches.length d.hours x = true) → validB d = false := fun hq => bad fun h => by have := (validB_iff.1 h).2.2.2.2.2; rw [he, Bool.eq_false_iff.2 hq] at this; exact Bool.noConfusion this
    refine fldA ?_
    refine ld (iv x.farm) (hb7.cell rfl) ?_
    refine fldA ?_
    refine ld (.slice A2 n2 c2) (bg7.cell rfl) ?_
    refine len ?_
    refine callB c_eindex (fun b1 => ?_) (fun b1 => ?_)
    rotate_left
    · refine dem (fun h => Bool.noConfusion h) (fun _ => ?_)
      exact fun _ _ => ⟨rfl, bad3 fun h => by have := (fiff.1 h).1; rw [b1] at this; exact Bool.noConfusion this, x1.trans x7, rfl⟩
    refine fldA ?_
    refine ld (iv x.reach) (hb7.cell rfl) ?_
    refine fldA ?_
    refine ld (.slice A1 n1 c1) (bg7.cell rfl) ?_
    refine len ?_
    refine callB c_eindex (fun b2 => ?_) (fun b2 => ?_)
    rotate_left
    · refine dem (fun h => Bool.noConfusion h) (fun _ => ?_)
      exact fun _ _ => ⟨rfl, bad3 fun h => by have := (fiff.1 h).2.1; rw [b2] at this; exact Bool.noConfusion this, x1.trans x7, rfl⟩
    refine fldA ?_
    refine ld (iv x.due) (hb7.cell rfl) ?_
    refine fldA ?_
    refine ld (iv d.hours) (bg7.cell rfl) ?_
    refine lit [iv 0, iv x.due, iv d.hours] (fun g8 w8 hb8 => ?_)
    refine callB (c_rising (hb8.i0 [0, x.due, d.hours])) (fun hq => ?_) (fun hq => ?_)
    · refine dem (fun _ => ?_) (fun h => Bool.noConfusion h)
      refine arI (by have := hdu.le; omega) ?_
      refine next (k + 1) ⟨by rw [Int.natCast_add]; rfl, trivial⟩ ⟨by omega, x7.trans hb8.ext, ?_⟩ (by omega)
      rw [he, fiff.2 ⟨b1, b2, rising3'.1 hq⟩]; rfl
    · refine dem (fun h => Bool.noConfusion h) (fun _ => ?_)
      exact fun _ _ => ⟨rfl, bad3 fun h => rising3n.1 hq (fiff.1 h).2.2, x1.trans (x7.trans hb8.ext), rfl⟩
  have hU : d.duties.all (dutyOk d.farms.length d.reaches.length d.hours) = true := by rw [he, drop_end (by have := hdu.len; omega)]; rfl
  exact ret0 ⟨rfl, validB_iff.2 ⟨hH, hR, hC, hF, hG, hU⟩, x1.trans x12⟩
theorem c_caught {e : Int} : CallZ Tryz.prog 61 #[.iface 165 (iv e)] w (fun v w' => v = iv e ∧ w' = w) := by
  refine fn_rule (args := [.iface 165 (iv e)]) Tryz.func61 (by kernel_rfl) ?_
  refine tAs rfl (by kernel_rfl) ?_
  exact ret1 (iv e) rfl ⟨rfl, rfl⟩
end
end Go.Proofs.YtcpdhclnmjfldaaGreatDoor

/- Own layer, part r: a function that defers one closure; a closure that recovers. Nothing of the program stands here. -/
namespace Go.Proofs.YtcpdhclnmjfldaaGreatDoor
open Go Go.RowKit

section
variable {P : Program}
/-- What the end of a body must bring about, whatever deferred calls there are. -/
def KendL (P : Program) (fn : Func) (R2 : Ending → World → Prop) : KK := fun e F ds w => ∀ (tmps : Array Value) (w0 : World), (∀ t, tmps.getD t undef = F t) → z w0 = w → match e with
  | .normal | .ret => LeavesInM Fence.wide 0 P fn tmps R2 ds .returning w0
  | .panic ch => LeavesInM Fence.wide 0 P fn tmps R2 ds (.panicking ch) w0
  | _ => False
theorem initAgr {n : Nat} {args : List Value} (hle : args.length ≤ n) : Agr n { tmps := args.toArray ++ Array.replicate (n - args.toArray.size) undef, defers := [] } (init args) [] := by
  refine ⟨by simp; omega, fun t => ?_, rfl⟩
  rw [init_getD]
  simp only [Array.getD_eq_getD_getElem?, List.getD_eq_getElem?_getD]
  by_cases ht : t < args.length
  · rw [Array.getElem?_append_left (by simpa using ht)]
    simp
  · rw [Array.getElem?_append_right (by simp; omega), List.getElem?_eq_none (by omega)]
    simp only [List.size_toArray, Array.getElem?_replicate]
    split <;> rfl
theorem KendL_use {fn : Func} {R2 : Ending → World → Prop} {n : Nat} {e : Exit} {a : Act} {w0 : World} (h : KQ n (KendL P fn R2) e a w0) : bodyPostM Fence.wide 0 P fn R2 e a w0 := by
  obtain ⟨F', hg, hk⟩ := h
  have := hk a.tmps w0 hg.2.1 rfl
  cases e with
  | normal => exact this
  | ret => exact this
  | panic ch => exact this
  | _ => exact this.elim
abbrev oMk (d0 G c0 : Nat) (t : TypeId) (p : String) (af : Array Edge) : Oper := { dst := some d0, op := .makeFunc (.func G) #[] #[.tmp c0], type := t, pos := p, after := af, guard := none }
abbrev oDf (d0 : Nat) (t : TypeId) (p : String) (af : Array Edge) : Oper := { dst := none, op := .defer { callee := .value (.tmp d0), args := #[], argTypes := #[] }, type := t, pos := p, after := af, guard := none }
/-- A function that defers one closure of one captured variable, after x and ahead of y. -/
theorem fn_ruleD {f : FuncId} {fn : Func} {args : List Value} {w : World} {R2 : Ending → World → Prop} {x y : Code} {id d0 G c0 : Nat} {t1 t2 : TypeId} {p1 p2 : String} {a1 a2 : Array Edge} (hf : P.funcs[f]? = some fn)
    (hb : fn.body = some (.seq x (.seq (.region id #[oMk d0 G c0 t1 p1 a1, oDf d0 t2 p2 a2] false) y)))
    (hok : (wfC fn.ntmps x && wfC fn.ntmps y && Nat.ble args.length fn.ntmps && Nat.blt d0 fn.ntmps) = true)
    (h : V P x (fun e F ds w' => match e with
      | .normal => ds = [] ∧ V P y (KendL P fn R2) (upd F d0 (.func (.func G) #[] #[F c0])) [{ target := .fn (.func G) #[F c0], args := #[] }] w'
      | _ => False) (init args) [] w) (w0 : World) (hw : z w0 = w) : CallsIn Fence.wide 0 P f args.toArray w0 R2 := by
  have hok4 := bothT hok
  have hok3 := bothT hok4.1
  have hok2 := bothT hok3.1
  have hle := Nat.le_of_ble_eq_true hok3.2
  have hd0 : d0 < fn.ntmps := Nat.le_of_ble_eq_true hok4.2
  subst hw
  refine callsIn_of_wp_marks (F := Fence.wide) hf hb trivial ?_
  refine wpIn_seq (wpIn_mono (V_sound (r := none) x hok2.1 _ _ [] w0 _ (.inl rfl) (initAgr hle) h) fun e a w1 hq => ?_)
  obtain ⟨F', hg, hk⟩ := hq
  cases e with
  | normal =>
    obtain ⟨hd, hk⟩ := hk
    refine wpIn_seq (wpIn_region ?_)
    have hF : a.tmps.getD c0 undef = F' c0 := hg.2.1 c0
    have hg1 : Agr fn.ntmps (a.put (some d0) (.func (.func G) #[] #[F' c0])) (upd F' d0 (.func (.func G) #[] #[F' c0])) a.defers := hg.put (d := some d0) (fun j hj => by cases hj; exact hd0) _
    have hl : List.range (#[oMk d0 G c0 t1 p1 a1, oDf d0 t2 p2 a2] : Array Oper).size = [0, 1] := rfl
    rw [hl]
    refine ⟨fun _ _ => trivial, ?_⟩
    have e1 : ((oMk d0 G c0 t1 p1 a1).semAt Fence.wide.round a.eval).run P w1 = .ok (.value (.func (.func G) #[] #[F' c0])) w1 := by
      rw [show Fence.wide.round = none from rfl, Oper.semAt_none]
      show (execOp a.eval (oMk d0 G c0 t1 p1 a1)).run P w1 = _
      rw [hg.eval]
      simp [execOp, Instr.makeFunc, ev]
    show Oper.uponIn Fence.wide 0 P (oMk d0 G c0 t1 p1 a1) a _ _ (((oMk d0 G c0 t1 p1 a1).semAt Fence.wide.round a.eval).run P w1)
    rw [e1]
    refine ⟨fun _ _ => trivial, ?_⟩
    have e2 : ((oDf d0 t2 p2 a2).semAt Fence.wide.round (a.put (some d0) (.func (.func G) #[] #[F' c0])).eval).run P w1 = .ok (.defer { target := .fn (.func G) #[F' c0], args := #[] }) w1 := by
      rw [show Fence.wide.round = none from rfl, Oper.semAt_none]
      show (execOp (a.put (some d0) (.func (.func G) #[] #[F' c0])).eval (oDf d0 t2 p2 a2)).run P w1 = _
      rw [hg1.eval]
      have : ev (upd F' d0 (.func (.func G) #[] #[F' c0])) (.tmp d0) = .func (.func G) #[] #[F' c0] := by
        show (bif Nat.beq d0 d0 then _ else _) = _
        rw [Nat.beq_refl]; rfl
      show (execOp (ev (upd F' d0 (.func (.func G) #[] #[F' c0]))) (oDf d0 t2 p2 a2)).run P w1 = _
      show ((do pure (.defer (← resolve (ev (upd F' d0 (.func (.func G) #[] #[F' c0]))) { callee := .value (.tmp d0), args := #[], argTypes := #[] } t2)) : Sem Next)).run P w1 = _
      simp [resolve, this, Deferred.ofValue]
    show Oper.uponIn Fence.wide 0 P (oDf d0 t2 p2 a2) (a.put (some d0) (.func (.func G) #[] #[F' c0])) _ _ (((oDf d0 t2 p2 a2).semAt Fence.wide.round (a.put (some d0) (.func (.func G) #[] #[F' c0])).eval).run P w1)
    rw [e2]
    show y.wpIn Fence.wide 0 P (bodyPostM Fence.wide 0 P fn R2) _ w1
    have hds : a.defers = [] := hd
    have hg2 : Agr fn.ntmps { (a.put (some d0) (.func (.func G) #[] #[F' c0])) with defers := { target := .fn (.func G) #[F' c0], args := #[] } :: a.defers } (upd F' d0 (.func (.func G) #[] #[F' c0])) [{ target := .fn (.func G) #[F' c0], args := #[] }] := ⟨hg1.1, hg1.2.1, by rw [hds]⟩
    exact wpIn_mono (V_sound (r := none) y hok2.2 _ _ _ w1 _ (.inl rfl) hg2 hk) fun e a' w' hq => KendL_use hq
  | _ => exact hk.elim

theorem opsS_rec {Q : Exit → Act → List Frame → World → Prop} {ops : Array Oper} {i : Nat} {rest : List Nat} {o : Oper} {a : Act} {cs : List Frame} {w : World} (ho : ops[i]? = some o) (hg : o.guard = none) (he : (execOp a.eval o).run P w = .ok .recover w)
    (h1 : ∀ v cs', recoverD cs = some (v, cs') → wpOpsSIn Fence.wide 0 P ops Q rest (a.put o.dst v) cs' w) (h2 : recoverD cs = none → wpOpsSIn Fence.wide 0 P ops Q rest (a.put o.dst .nilIface) cs w) : wpOpsSIn Fence.wide 0 P ops Q (i :: rest) a cs w := by
  unfold wpOpsSIn
  rw [ho]
  dsimp only
  refine ⟨fun _ _ => trivial, ?_⟩
  rw [if_pos (by simp [Region.wanted, hg]), he]
  dsimp only
  cases hr : recoverD cs with
  | none => exact h2 hr
  | some p => exact h1 p.1 p.2 hr
theorem opsS_val {Q : Exit → Act → List Frame → World → Prop} {ops : Array Oper} {i : Nat} {rest : List Nat} {o : Oper} {a : Act} {cs : List Frame} {w : World} {v : Value} (ho : ops[i]? = some o) (hg : o.guard = none) (he : (execOp a.eval o).run P w = .ok (.value v) w)
    (h1 : wpOpsSIn Fence.wide 0 P ops Q rest (a.put o.dst v) cs w) : wpOpsSIn Fence.wide 0 P ops Q (i :: rest) a cs w := by
  unfold wpOpsSIn
  rw [ho]
  dsimp only
  refine ⟨fun _ _ => trivial, ?_⟩
  rw [if_pos (by simp [Region.wanted, hg]), he]
  exact h1

/-- A closure that recovers: slot c1 := recover(); then y, which does not recover. -/
abbrev oRc (d0 : Nat) (t : TypeId) (p : String) (af : Array Edge) : Oper := { dst := some d0, op := .call { callee := .builtin .recover, args := #[], argTypes := #[] }, type := t, pos := p, after := af, guard := none }
abbrev oAs (d1 d0 : Nat) (t : TypeId) (p : String) (af : Array Edge) : Oper := { dst := some d1, op := .assign (.tmp d0), type := t, pos := p, after := af, guard := none }
/-- What the rest of the closure must do: in the mode u of the frame below. -/
def KendS (P : Program) (fn : Func) (u : FrameMode) (R : Ending → FrameMode → World → Prop) : KK := fun e F ds w => ds = [] ∧ ∀ (tmps : Array Value) (w0 : World), (∀ t, tmps.getD t undef = F t) → z w0 = w → match e with
  | .normal | .ret => ∃ v, (results fn tmps).run P w0 = .ok v w0 ∧ R (.returned v) u w0
  | _ => False
theorem rec_rule {f : FuncId} {fn : Func} {args : List Value} {R : Ending → FrameMode → World → Prop} {y : Code} {id d0 d1 : Nat} {t1 t2 : TypeId} {p1 p2 : String} {a1 a2 : Array Edge} {u u' : FrameMode} {v : Value} (hf : P.funcs[f]? = some fn)
    (hb : fn.body = some (.seq (.region id #[oRc d0 t1 p1 a1, oAs d1 d0 t2 p2 a2] false) y))
    (hok : (wfC fn.ntmps y && Nat.ble args.length fn.ntmps && Nat.blt d0 fn.ntmps && Nat.blt d1 fn.ntmps) = true)
    (hu : ∀ (c₀ : Frame) (cs : List Frame), c₀.mode = u → (match recoverD (c₀ :: cs) with | some (x, cs') => x = v ∧ cs' = { c₀ with mode := u' } :: cs | none => v = .nilIface ∧ u' = u))
    (w0 : World) (h : V P y (KendS P fn u' R) (upd (upd (init args) d0 v) d1 v) [] (z w0)) : CallsDIn Fence.wide 0 P f args.toArray u w0 R := by
  have hok4 := bothT hok
  have hok3 := bothT hok4.1
  have hok2 := bothT hok3.1
  have hle := Nat.le_of_ble_eq_true hok2.2
  have hd0 : d0 < fn.ntmps := Nat.le_of_ble_eq_true hok3.2
  have hd1 : d1 < fn.ntmps := Nat.le_of_ble_eq_true hok4.2
  refine callsDIn_of_wpSIn hf hb trivial fun c₀ cs hmode => ?_
  have hrec := hu c₀ cs hmode
  have hg : Agr fn.ntmps { tmps := args.toArray ++ Array.replicate (fn.ntmps - args.toArray.size) undef, defers := [] } (init args) [] := initAgr hle
  generalize ha : ({ tmps := args.toArray ++ Array.replicate (fn.ntmps - args.toArray.size) undef, defers := [] } : Act) = a at hg
  have hg1 : Agr fn.ntmps (a.put (some d0) v) (upd (init args) d0 v) [] := hg.put (d := some d0) (fun j hj => by cases hj; exact hd0) _
  have hg2 : Agr fn.ntmps ((a.put (some d0) v).put (some d1) v) (upd (upd (init args) d0 v) d1 v) [] := hg1.put (d := some d1) (fun j hj => by cases hj; exact hd1) _
  have hl : List.range (#[oRc d0 t1 p1 a1, oAs d1 d0 t2 p2 a2] : Array Oper).size = [0, 1] := rfl
  have e2 : (execOp (a.put (some d0) v).eval (oAs d1 d0 t2 p2 a2)).run P w0 = .ok (.value v) w0 := by
    rw [hg1.eval]
    show (pure (.value (ev (upd (init args) d0 v) (.tmp d0))) : Sem Next).run P w0 = _
    have : ev (upd (init args) d0 v) (.tmp d0) = v := by
      show (bif Nat.beq d0 d0 then _ else _) = _
      rw [Nat.beq_refl]; rfl
    rw [this]; rfl
  have e1 : (execOp a.eval (oRc d0 t1 p1 a1)).run P w0 = .ok .recover w0 := rfl
  have fin : ∀ cs', cs' = { c₀ with mode := u' } :: cs → y.wpSIn Fence.wide 0 P (bodyPostS P fn c₀ cs R) ((a.put (some d0) v).put (some d1) v) cs' w0 := by
    rintro _ rfl
    refine wpSIn_of_wpIn rfl (wpIn_mono (V_sound (r := none) y hok2.1 _ _ [] w0 _ (.inl rfl) hg2 h) fun e a' w' hq => ?_)
    obtain ⟨F', hg', hd, hk⟩ := hq
    have hk := hk a'.tmps w' hg'.2.1 rfl
    cases e with
    | normal => exact ⟨hd, u', rfl, hk⟩
    | ret => exact ⟨hd, u', rfl, hk⟩
    | _ => exact hk.elim
  refine wpSIn_seq (wpSIn_region ?_)
  rw [hl]
  have step2 : ∀ cs', cs' = { c₀ with mode := u' } :: cs → wpOpsSIn Fence.wide 0 P #[oRc d0 t1 p1 a1, oAs d1 d0 t2 p2 a2] (Exit.thenS (y.wpSIn Fence.wide 0 P (bodyPostS P fn c₀ cs R)) (bodyPostS P fn c₀ cs R)) [1] (a.put (some d0) v) cs' w0 := by
    intro cs' hcs
    exact opsS_val (o := oAs d1 d0 t2 p2 a2) rfl rfl e2 (fin cs' hcs)
  refine opsS_rec (o := oRc d0 t1 p1 a1) rfl rfl e1 (fun x cs' hr => ?_) (fun hr => ?_)
  · rw [hr] at hrec
    obtain ⟨rfl, hcs⟩ := hrec
    exact step2 _ hcs
  · rw [hr] at hrec
    obtain ⟨rfl, rfl⟩ := hrec
    exact step2 _ (by subst hmode; rfl)
end
end Go.Proofs.YtcpdhclnmjfldaaGreatDoor

/- Contracts: expand.Check. -/
namespace Go.Proofs.YtcpdhclnmjfldaaGreatDoor
open Go Go.RowKit

def tooMany (d : Dist) : Bool := !(decide (d.reaches.length ≤ 64) && (decide (d.farms.length ≤ 600) && (decide (d.crops.length ≤ 32) && (decide (d.rights.length ≤ 256) && decide (d.duties.length ≤ 256)))))
def dErr (d : Dist) : Int := if tooMany d then 2 else if validB d then 0 else 191

section
variable {P : Program} {X : XK}
theorem run_equalNil {t u : TypeId} {v : Value} {ms : Array (String × TypeId)} (hu : P.underlying t = some (.interface ms)) (w : World) : (Op.equal t (.iface u v) .nilIface).run P w = .ok false w := by
  unfold Op.equal
  rw [show Op.maxDepth = (Op.maxDepth - 1) + 1 from rfl]
  rw [Op.equalIn, Sem.run_bind, run_underlying hu]
  rfl
theorem run_equalNil0 {t : TypeId} {ms : Array (String × TypeId)} (hu : P.underlying t = some (.interface ms)) (w : World) : (Op.equal t .nilIface .nilIface).run P w = .ok true w := by
  unfold Op.equal
  rw [show Op.maxDepth = (Op.maxDepth - 1) + 1 from rfl]
  rw [Op.equalIn, Sem.run_bind, run_underlying hu]
  rfl
theorem neNil {t u : TypeId} {v c : Value} {xo : Operand} {K : Value → Prop} {ms : Array (String × TypeId)} (hu : P.underlying t = some (.interface ms)) (k : K (.bool true)) : BinP P .neq t xo (.const c) (.iface u v) .nilIface K := by
  rw [BinP_eq]
  refine pure_vval (fun w => ?_) k
  have h1 : (eqGuard .neq t xo (.const c) (.iface u v) .nilIface).run P w = .ok () w := rfl
  have h2 : binOp .neq t (.iface u v) .nilIface = (do pure (.bool (!(← Op.equal t (.iface u v) .nilIface)))) := rfl
  rw [Sem.run_bind, h1, h2]
  simp only [Result.andThen_ok, Sem.run_bind, run_equalNil hu, Sem.run_pure]
  rfl
theorem neNil0 {t : TypeId} {c : Value} {xo : Operand} {K : Value → Prop} {ms : Array (String × TypeId)} (hu : P.underlying t = some (.interface ms)) (k : K (.bool false)) : BinP P .neq t xo (.const c) .nilIface .nilIface K := by
  rw [BinP_eq]
  refine pure_vval (fun w => ?_) k
  have h1 : (eqGuard .neq t xo (.const c) .nilIface .nilIface).run P w = .ok () w := by rw [eqGuard_nil_constR]; rfl
  have h2 : binOp .neq t .nilIface .nilIface = (do pure (.bool (!(← Op.equal t .nilIface .nilIface)))) := rfl
  rw [Sem.run_bind, h1, h2]
  simp only [Result.andThen_ok, Sem.run_bind, run_equalNil0 hu, Sem.run_pure]
  rfl
end
section
variable {D : Nat → Prop} {w : World}
theorem u20 : Tryz.prog.underlying 20 = some (.interface #[]) := by kernel_rfl
theorem c_rec {p : Nat} {e x : Int} {w0 : World} (hp : Blk (z w0) p 40 [iv x]) :
    CallsDIn Fence.wide 0 Tryz.prog 60 #[ptr p] (.panicking (refusal e)) w0 (fun e' u' w' => e' = .returned (.tuple #[]) ∧ u' = .panicking [{ v := .iface 165 (iv e), recovered := true }] ∧ Blk (z w') p 40 [iv e] ∧ Kept (fun b => b ≠ p) (z w0) (z w')) := by
  refine rec_rule (args := [ptr p]) (d0 := 2) (d1 := 1) (v := .iface 165 (iv e)) (u' := .panicking [{ v := .iface 165 (iv e), recovered := true }]) Tryz.func60 rfl (by kernel_rfl) ?_ w0 ?_
  · intro c₀ cs h
    simp [recoverD, h, refusal]
  · refine neNil u20 ?_
    refine call_of c_caught ?_
    rintro _ _ ⟨rfl, rfl⟩
    refine st1 hp rfl (fun w2 hb2 k2 => ?_)
    refine ⟨rfl, fun tmps w3 _ hw3 => ⟨.tuple #[], results_none rfl _ _ _, rfl, rfl, ?_⟩⟩
    subst hw3
    exact ⟨hb2, k2⟩
theorem c_idle {p : Nat} {w0 : World} :
    CallsDIn Fence.wide 0 Tryz.prog 60 #[ptr p] .returning w0 (fun e' u' w' => e' = .returned (.tuple #[]) ∧ u' = .returning ∧ z w' = z w0) := by
  refine rec_rule (args := [ptr p]) (d0 := 2) (d1 := 1) (v := .nilIface) (u' := .returning) Tryz.func60 rfl (by kernel_rfl) ?_ w0 ?_
  · intro c₀ cs h
    simp [recoverD, h]
  · refine neNil0 u20 ?_
    exact ⟨rfl, fun tmps w3 _ hw3 => ⟨.tuple #[], results_none rfl _ _ _, rfl, rfl, hw3⟩⟩
abbrev R2 (R : VK) : Ending → World → Prop := fun e w' => ∃ v, e = .returned v ∧ R v (z w')
theorem inv42 {q : Nat} (w0 : World) : (invoke (.fn (.func 60) #[ptr q]) #[]).run Tryz.prog w0 = .ok (.enter 60 #[ptr q]) w0 := (inferInstance : Enters Tryz.prog 60).h #[ptr q] w0
/-- The end: the result's cell is read. -/
theorem eEnd {q : Nat} {x : Int} {F : Fr} {R : VK} {tmps : Array Value} {w0 : World} (hF : ∀ t, tmps.getD t undef = F t) (h2 : F 2 = ptr q) (hb : Blk (z w0) q 40 [iv x]) (k : R (iv x) (z w0)) :
    LeavesInM Fence.wide 0 Tryz.prog Tryz.f40 tmps (R2 R) [] .returning w0 :=
  leaves_soundG (a := { tmps := tmps, defers := [] }) (R := R) (fun v _ h => ⟨v, rfl, h⟩) hF [] w0 (z w0) rfl (by
    show ResLP _ _ (F 2) _ _
    rw [h2]
    exact resL _ (holds_cell (hb.cell rfl)) k)
theorem door_idle {q : Nat} {x : Int} {F : Fr} {R : VK} {w : World} (h2 : F 2 = ptr q) (hb : Blk w q 40 [iv x]) (k : R (iv x) w) :
    KendL Tryz.prog Tryz.f40 (R2 R) .normal F [{ target := .fn (.func 60) #[ptr q], args := #[] }] w := by
  intro tmps w0 hF hw
  subst hw
  refine ⟨by simp, .inr ⟨(fun h => Bool.noConfusion h), _, _, 60, #[ptr q], rfl, inv42 w0, fun _ _ => trivial, c_idle.mono ?_⟩⟩
  rintro e u w1 ⟨rfl, rfl, hz⟩
  show LeavesInM _ _ _ _ _ _ [] .returning w1
  exact eEnd hF h2 (by rw [hz]; exact hb) (by rw [hz]; exact k)
theorem door_pan {q : Nat} {x e : Int} {F : Fr} {R : VK} {w : World} (h2 : F 2 = ptr q) (hb : Blk w q 40 [iv x]) (k : ∀ w', Kept (fun b => b ≠ q) w w' → R (iv e) w') :
    KendL Tryz.prog Tryz.f40 (R2 R) (.panic (refusal e)) F [{ target := .fn (.func 60) #[ptr q], args := #[] }] w := by
  intro tmps w0 hF hw
  subst hw
  refine ⟨by simp, .inr ⟨(fun h => Bool.noConfusion h), _, _, 60, #[ptr q], rfl, inv42 w0, fun _ _ => trivial, (c_rec hb).mono ?_⟩⟩
  rintro e' u w1 ⟨rfl, rfl, hb1, hk⟩
  show LeavesInM _ _ _ _ _ _ [] .returning w1
  exact eEnd hF h2 hb1 (k _ hk)
theorem c_eCheck {d : Dist} {cs : List Value} (hd : DiR D w cs d) : CallZ Tryz.prog 40 #[.agg cs.toArray] w (fun v w' => v = iv (dErr d) ∧ Ext w w') := by
  obtain ⟨A1, n1, c1, A2, n2, c2, A3, n3, c3, A4, n4, c4, A5, n5, c5, A6, n6, c6, rfl, hr, hf, hcr, hri, hdu, hwe⟩ := hd.ex
  have l1 := hr.len
  have l2 := hf.len
  have l3 := hcr.len
  have l4 := hri.len
  have l5 := hdu.len
  intro w00 hw00
  refine fn_ruleD (args := [.agg #[.string d.name, iv d.hours, iv d.cap, iv d.start, .slice A1 n1 c1, .slice A2 n2 c2, .slice A3 n3 c3, .slice A4 n4 c4, .slice A5 n5 c5, .slice A6 n6 c6]]) (d0 := 3) (c0 := 2) (w := w) Tryz.func40 rfl (by kernel_rfl) ?_ w00 hw00
  refine box (fun g w1 h1 => ?_)
  refine alloc (fun q w2 h2 => ?_)
  refine ⟨rfl, ?_⟩
  have bg := h1.blk.ext h2.ext
  have x2 := h1.ext.trans h2.ext
  have tiff : tooMany d = false ↔ n1 ≤ 64 ∧ n2 ≤ 600 ∧ n3 ≤ 32 ∧ n4 ≤ 256 ∧ n5 ≤ 256 := by unfold tooMany; rw [l1, l2, l3, l4, l5]; simp
  have bad : ¬ (n1 ≤ 64 ∧ n2 ≤ 600 ∧ n3 ≤ 32 ∧ n4 ≤ 256 ∧ n5 ≤ 256) → dErr d = 2 := fun h => by unfold dErr; rw [show tooMany d = true from by cases ht : tooMany d with | true => rfl | false => exact absurd (tiff.1 ht) h]; rfl
  have zz := h2.at_
  have z1 := h1.ext.size
  have fin : ∀ {w5 : World}, Ext w2 w5 → ∀ w', Kept (fun b => b ≠ q) w5 w' → Ext w w' := fun x5 w' k => (x2.trans x5).then k fun b hb _ e => by omega
  have qb := h2.blk
  refine fldA ?_
  refine ld (.slice A1 n1 c1) (bg.cell rfl) ?_
  refine len ?_
  refine cD (fun a1 => ?_) (fun a1 => ?_)
  rotate_left
  · refine dem (fun h => Bool.noConfusion h) (fun _ => ?_)
    exact fun F' hF' => door_pan (R := fun v w' => v = iv (dErr d) ∧ Ext w w') (hF' 2 rfl) qb fun w' k => ⟨by rw [bad (by omega)], fin (.refl _ _) w' k⟩
  refine fldA ?_
  refine ld (.slice A2 n2 c2) (bg.cell rfl) ?_
  refine len ?_
  refine cD (fun a2 => ?_) (fun a2 => ?_)
  rotate_left
  · refine dem (fun h => Bool.noConfusion h) (fun _ => ?_)
    exact fun F' hF' => door_pan (R := fun v w' => v = iv (dErr d) ∧ Ext w w') (hF' 2 rfl) qb fun w' k => ⟨by rw [bad (by omega)], fin (.refl _ _) w' k⟩
  refine fldA ?_
  refine ld (.slice A3 n3 c3) (bg.cell rfl) ?_
  refine len ?_
  refine cD (fun a3 => ?_) (fun a3 => ?_)
  rotate_left
  · refine dem (fun h => Bool.noConfusion h) (fun _ => ?_)
    exact fun F' hF' => door_pan (R := fun v w' => v = iv (dErr d) ∧ Ext w w') (hF' 2 rfl) qb fun w' k => ⟨by rw [bad (by omega)], fin (.refl _ _) w' k⟩
  refine fldA ?_
  refine ld (.slice A4 n4 c4) (bg.cell rfl) ?_
  refine len ?_
  refine cD (fun a4 => ?_) (fun a4 => ?_)
  rotate_left
  · refine dem (fun h => Bool.noConfusion h) (fun _ => ?_)
    exact fun F' hF' => door_pan (R := fun v w' => v = iv (dErr d) ∧ Ext w w') (hF' 2 rfl) qb fun w' k => ⟨by rw [bad (by omega)], fin (.refl _ _) w' k⟩
  refine fldA ?_
  refine ld (.slice A5 n5 c5) (bg.cell rfl) ?_
  refine len ?_
  refine cD (fun a5 => ?_) (fun a5 => ?_)
  rotate_left
  · refine dem (fun h => Bool.noConfusion h) (fun _ => ?_)
    exact fun F' hF' => door_pan (R := fun v w' => v = iv (dErr d) ∧ Ext w w') (hF' 2 rfl) qb fun w' k => ⟨by rw [bad (by omega)], fin (.refl _ _) w' k⟩
  refine dem (fun _ => ?_) (fun h => Bool.noConfusion h)
  have hT : tooMany d = false := tiff.2 (by omega)
  refine ldA [.string d.name, iv d.hours, iv d.cap, iv d.start, .slice A1 n1 c1, .slice A2 n2 c2, .slice A3 n3 c3, .slice A4 n4 c4, .slice A5 n5 c5, .slice A6 n6 c6] (.blk bg) rfl ?_
  refine call_ofX (c_examine (e := 191) (hd.ext x2)) ?_ ?_
  · rintro _ w5 ⟨rfl, hv, x5⟩
    refine st1 (qb.ext x5) rfl (fun w6 hb6 k6 => ?_)
    exact door_idle (R := fun v w' => v = iv (dErr d) ∧ Ext w w') rfl hb6 ⟨by unfold dErr; rw [hT, hv]; rfl, fin x5 _ k6⟩
  · rintro _ w5 ⟨hv, x5, rfl⟩
    exact fun F' hF' => door_pan (R := fun v w' => v = iv (dErr d) ∧ Ext w w') (hF' 2 rfl) (qb.ext x5) fun w' k => ⟨by unfold dErr; rw [hT, hv]; rfl, fin x5 w' k⟩
end
end Go.Proofs.YtcpdhclnmjfldaaGreatDoor

/- Made by gen_XA10.py. Contracts: layer 19's reference. -/
namespace Go.Proofs.YtcpdhclnmjfldaaGreatDoor
open Go Go.RowKit

section
variable {D : Nat → Prop} {w : World}
theorem sharesQ_all {a b : Q} : sharesQ a b = true ↔ qValid a = true ∧ qValid b = true ∧ 0 ≤ a.n ∧ a.n * b.d ≤ b.n * a.d ∧ b.n ≤ b.d := by
  rw [sharesQ_iff, shareQ_iff, shareQ_iff]
  refine ⟨fun ⟨⟨h1, h2, h3⟩, ⟨h4, h5, h6⟩, h7⟩ => ⟨h1, h4, h2, h7, h6⟩, fun ⟨h1, h4, h2, h7, h6⟩ => ?_⟩
  have d1 := (qValid_iff.1 h1).1
  have d2 := (qValid_iff.1 h4).1
  have hb : 0 ≤ b.n := by
    have : 0 ≤ b.n * a.d := Int.le_trans (Int.mul_nonneg h2 (by omega)) h7
    exact Int.not_lt.1 fun hn => by have := Int.mul_neg_of_neg_of_pos hn (show 0 < a.d by omega); omega
  have ha : a.n ≤ a.d := Int.not_lt.1 fun hn => by
    have e1 : b.n * a.d ≤ b.d * a.d := Int.mul_le_mul_of_nonneg_right h6 (by omega)
    have e2 : a.d * b.d < a.n * b.d := Int.mul_lt_mul_of_pos_right hn (by omega)
    rw [Int.mul_comm b.d] at e1
    omega
  exact ⟨⟨h1, h2, ha⟩, ⟨h4, hb, h6⟩, h7⟩
def fewD (d : Dist) : Bool := decide (d.reaches.length ≤ 100) && (decide (d.farms.length ≤ 700) && (decide (d.crops.length ≤ 100) && (decide (d.rights.length ≤ 300) && (decide (d.duties.length ≤ 300) && decide (d.wells.length ≤ 100)))))
theorem c_r19Few {d : Dist} {cs : List Value} (hd : DiR D w cs d) : CallZ Tryz.prog 16 #[.agg cs.toArray] w (fun v w' => v = .bool (fewD d) ∧ Ext w w') := by
  obtain ⟨A1, n1, c1, A2, n2, c2, A3, n3, c3, A4, n4, c4, A5, n5, c5, A6, n6, c6, rfl, hr, hf, hcr, hri, hdu, hwe⟩ := hd.ex
  have l1 := hr.len
  have l2 := hf.len
  have l3 := hcr.len
  have l4 := hri.len
  have l5 := hdu.len
  have l6 := hwe.len
  have e1 := hr.le
  have e2 := hf.le
  have e3 := hcr.le
  have e4 := hri.le
  have e5 := hdu.le
  refine fn_rule (args := [.agg #[.string d.name, iv d.hours, iv d.cap, iv d.start, .slice A1 n1 c1, .slice A2 n2 c2, .slice A3 n3 c3, .slice A4 n4 c4, .slice A5 n5 c5, .slice A6 n6 c6]]) Tryz.func16 (by kernel_rfl) ?_
  refine box (fun g w1 h1 => ?_)
  have bg := h1.blk
  have x1 := h1.ext
  have tiff : fewD d = true ↔ n1 ≤ 100 ∧ n2 ≤ 700 ∧ n3 ≤ 100 ∧ n4 ≤ 300 ∧ n5 ≤ 300 ∧ n6 ≤ 100 := by unfold fewD; rw [l1, l2, l3, l4, l5, l6]; simp
  have bad : ¬ (n1 ≤ 100 ∧ n2 ≤ 700 ∧ n3 ≤ 100 ∧ n4 ≤ 300 ∧ n5 ≤ 300 ∧ n6 ≤ 100) → Value.bool false = .bool (fewD d) ∧ Ext w w1 := fun h => ⟨by rw [Bool.eq_false_iff.2 fun e => h (tiff.1 e)], x1⟩
  refine fldA ?_
  refine ld (.slice A1 n1 c1) (bg.cell rfl) ?_
  refine len ?_
  refine cDr (fun g1 => ?_) (fun g1 => ?_)
  · exact ret1 (.bool false) rfl (bad (by omega))
  refine fldA ?_
  refine ld (.slice A2 n2 c2) (bg.cell rfl) ?_
  refine len ?_
  refine cDr (fun g2 => ?_) (fun g2 => ?_)
  · exact ret1 (.bool false) rfl (bad (by omega))
  refine fldA ?_
  refine ld (.slice A3 n3 c3) (bg.cell rfl) ?_
  refine len ?_
  refine cDr (fun g3 => ?_) (fun g3 => ?_)
  · exact ret1 (.bool false) rfl (bad (by omega))
  refine fldA ?_
  refine ld (.slice A4 n4 c4) (bg.cell rfl) ?_
  refine len ?_
  refine cDr (fun g4 => ?_) (fun g4 => ?_)
  · exact ret1 (.bool false) rfl (bad (by omega))
  refine fldA ?_
  refine ld (.slice A5 n5 c5) (bg.cell rfl) ?_
  refine len ?_
  refine cDr (fun g5 => ?_) (fun g5 => ?_)
  · exact ret1 (.bool false) rfl (bad (by omega))
  refine fldA ?_
  refine ld (.slice A6 n6 c6) (bg.cell rfl) ?_
  refine len ?_
  refine cDr (fun g6 => ?_) (fun g6 => ?_)
  · exact ret1 (.bool false) rfl (bad (by omega))
  exact ret1 (.bool true) rfl ⟨by rw [tiff.2 (by omega)], x1⟩
end
end Go.Proofs.YtcpdhclnmjfldaaGreatDoor

/- Layer 48: the data, and what is computed, plainly. -/
namespace Go.Proofs.YtcpdhclnmjfldaaGreatDoor
open Go Go.RowKit

abbrev Rg.c (x : Rg) : List Value := [iv x.lo, iv x.hi]
def tRg : Ty Rg := tFl 2 Rg.c fun _ => rfl
structure Wv where
  hour : Int
  heads : List Rg
  outlets : List Rg
  tails : List Rg
structure Su where
  kind : Int
  index : Int
  most : Int
abbrev Su.c (x : Su) : List Value := [iv x.kind, iv x.index, iv x.most]
def tSu : Ty Su := tFl 3 Su.c fun _ => rfl
structure Ev where
  waves : List Wv
  suspects : List Su
structure Tru where
  heads : List Int
  outlets : List Int
  tails : List Int
  arrived : List Int
  taken : List Int
def tWv : Ty Wv := tMap (tPair tInt (tPair (tSl tRg) (tPair (tSl tRg) (tSl tRg)))) fun w => (w.hour, w.heads, w.outlets, w.tails)
def tEv : Ty Ev := tMap (tPair (tSl tWv) (tSl tSu)) fun x => (x.waves, x.suspects)
abbrev tIs : Ty (List Int) := tSl tInt
def tTru : Ty Tru := tMap (tPair tIs (tPair tIs (tPair tIs (tPair tIs tIs)))) fun t => (t.heads, t.outlets, t.tails, t.arrived, t.taken)

/-! ### what is right -/
def rgsB (many : Nat) (l : List Rg) : Bool := decide (l.length = many) && l.all fun x => rgOk x 1073741824
def waveB (d : Dist) (last : Int) (w : Wv) : Bool := decide (last < w.hour) && (decide (w.hour < d.hours) && (rgsB d.reaches.length w.heads && (rgsB d.farms.length w.outlets && rgsB d.reaches.length w.tails)))
def wavesB (d : Dist) : Int → List Wv → Bool
  | _, [] => true
  | last, w :: r => waveB d last w && wavesB d w.hour r
def manyN (d : Dist) (kind : Int) : Int := if kind = 1 ∨ kind = 3 ∨ kind = 4 then d.reaches.length else if kind = 2 then d.farms.length else 0
def suB (d : Dist) (b : Int × Int) (s : Su) : Bool := decide (0 ≤ s.index) && (decide (s.index < manyN d s.kind) && (inI s.most 1 1073741824 && (decide (b.1 < s.kind) || (decide (b.1 = s.kind) && decide (b.2 < s.index)))))
def susB (d : Dist) : Int × Int → List Su → Bool
  | _, [] => true
  | b, s :: r => suB d b s && susB d (s.kind, s.index) r
def evErr (d : Dist) (x : Ev) : Int := if dErr d ≠ 0 then dErr d else if x.waves.length > 24 ∨ x.suspects.length > 12 then 2 else if wavesB d (-1) x.waves && susB d (0, -1) x.suspects then 0 else 480
def setB (n : Nat) : Int → List Int → Bool
  | _, [] => true
  | last, i :: r => decide (last < i) && (decide (i < n) && setB n i r)
def askErr (d : Dist) (x : Ev) (set : List Int) : Int := if evErr d x ≠ 0 then evErr d x else if setB x.suspects.length (-1) set then 0 else 480

/-! ### who is to blame -/
def s0 : Su := ⟨0, 0, 0⟩
def suAt (x : Ev) (i : Int) : Su := x.suspects.getD i.toNat s0
def blF (x : Ev) (set : List Int) (key : Int × Int) : Option Int := set.findSome? fun i => if ((suAt x i).kind, (suAt x i).index) = key then some (suAt x i).most else none
def meterV (bl : Int × Int → Option Int) (kind index : Int) (read : Rg) : Rg := match bl (kind, index) with
  | some n => ⟨0, max n read.hi⟩
  | none => read

def rE0 : Reach := ⟨ByteArray.empty, 0, 0, 0, 0, 0, ⟨0, 0⟩, ⟨0, 0⟩, ⟨0, 0⟩⟩
def fE0 : Farm := ⟨ByteArray.empty, 0, 0, 0⟩
def rcE (d : Dist) (k : Nat) : Reach := d.reaches.getD k rE0
def fmE (d : Dist) (k : Nat) : Farm := d.farms.getD k fE0
def suE (x : Ev) (k : Nat) : Su := x.suspects.getD k s0
/-! ### what may leave the end of a reach -/
inductive Dst where
  | tail (r : Nat)
  | head (k : Nat)
  | outlet (f : Nat)
  | taken (i : Nat)
deriving DecidableEq
def g0 : Rg := ⟨0, 0⟩
def tailP (bl : Int × Int → Option Int) (w : Wv) (r : Nat) : List (Rg × Dst) := [(meterV bl 3 r (w.tails.getD r g0), .tail r)]
def headP (d : Dist) (f : Nat → Rg) (r n : Nat) : List (Rg × Dst) := ((List.range n).filter fun k : Nat => decide ((rcE d k).up = (r : Int))).map fun k : Nat => (f k, .head k)
def outP (d : Dist) (bl : Int × Int → Option Int) (w : Wv) (r n : Nat) : List (Rg × Dst) := ((List.range n).filter fun k : Nat => decide ((fmE d k).reach = (r : Int))).map fun k : Nat => (meterV bl 2 k (w.outlets.getD k g0), .outlet k)
def pumpP (x : Ev) (bl : Int × Int → Option Int) (r n : Nat) : List (Rg × Dst) := ((List.range n).filter fun i : Nat => decide ((suE x i).kind = 4) && decide ((suE x i).index = (r : Int))).map fun i : Nat => (meterV bl 4 r g0, .taken i)
def partsL (d : Dist) (x : Ev) (bl : Int × Int → Option Int) (w : Wv) (f : Nat → Rg) (r : Nat) : List (Rg × Dst) :=
  tailP bl w r ++ (headP d f r d.reaches.length ++ (outP d bl w r d.farms.length ++ pumpP x bl r x.suspects.length))
def loS (l : List (Rg × Dst)) : Int := (l.map fun p => p.1.lo).sum
def hiS (l : List (Rg × Dst)) : Int := (l.map fun p => p.1.hi).sum

/-! ### the heads that are possible -/
def headV (d : Dist) (x : Ev) (bl : Int × Int → Option Int) (w : Wv) (f : Nat → Rg) (r : Nat) (y : Reach) : Rg :=
  ⟨max (reachV y (loS (partsL d x bl w f r))).1 (meterV bl 1 r (w.heads.getD r g0)).lo, min (mostV y (min 1073741824 (hiS (partsL d x bl w f r)))) (meterV bl 1 r (w.heads.getD r g0)).hi⟩
def setF {α : Type} (f : Nat → α) (r : Nat) (v : α) : Nat → α := fun k => if k = r then v else f k
/-- From the reach n - 1 up to the reach 0. -/
def followV (d : Dist) (x : Ev) (bl : Int × Int → Option Int) (w : Wv) : Nat → (Nat → Rg) → Option (Nat → Rg)
  | 0, f => some f
  | n + 1, f =>
    if loS (partsL d x bl w f n) > 1073741824 then none
    else if (reachV (rcE d n) (loS (partsL d x bl w f n))).2 = false ∨ (headV d x bl w f n (rcE d n)).lo > (headV d x bl w f n (rcE d n)).hi then none
    else followV d x bl w n (setF f n (headV d x bl w f n (rcE d n)))
def explB (d : Dist) (x : Ev) (set : List Int) : Bool := x.waves.all fun w => (followV d x (blF x set) w d.reaches.length fun _ => g0).isSome
end Go.Proofs.YtcpdhclnmjfldaaGreatDoor

/- Contracts of sort.Search, losses.least, losses.Reachable, losses.Most. -/
namespace Go.Proofs.YtcpdhclnmjfldaaGreatDoor
open Go Go.RowKit

section
variable {D : Nat → Prop} {w : World}
/-- sort.Search with a function that answers p, and leaves alone what was there. -/
theorem c_Search {n : Nat} {p : Int → Bool} {fn : FuncId} {cap : Array Value} [he : Enters Tryz.prog fn] (hn : n ≤ 4611686018427387904) (hm : ∀ v v' : Int, 0 ≤ v → v ≤ v' → v' ≤ n → p v = true → p v' = true)
    (hc : ∀ (v : Int) (w' : World), 0 ≤ v → v < n → Ext w w' → CallZ Tryz.prog fn ([iv v] ++ cap.toList).toArray w' (fun u w'' => u = .bool (p v) ∧ Ext w' w'')) :
    CallZ Tryz.prog 97 #[iv (n : Int), .func (.func fn) #[] cap] w (fun v w' => ∃ k : Int, v = iv k ∧ First p 0 n k ∧ Ext w w') := by
  refine fn_rule (args := [iv (n : Int), .func (.func fn) #[] cap]) Tryz.func97 (by kernel_rfl) ?_
  refine loop2 (fun (lo hi : Int) => [(5, iv lo), (6, iv hi)]) (fun lo hi w' => Half p 0 n lo hi ∧ Ext w w') (fun lo hi _ => (hi - lo).toNat) 0 (n : Int) ⟨rfl, rfl, trivial⟩ ⟨Half.start (by omega), .refl _ _⟩ rfl ?_
  rintro G lo hi w' ⟨h, xw⟩
  have h1 := h.a_lo
  have h2 := h.lo_hi
  have h3 := h.hi_b
  refine cD (fun hlt => ?_) (fun hge => ?_)
  · refine arI (by omega) ?_
    obtain ⟨s, hs⟩ : ∃ s : Nat, lo + hi = (s : Int) := ⟨(lo + hi).toNat, by omega⟩
    refine convU (n := s) (by omega) (by omega) ?_
    refine shrR (by decide) ?_
    refine conv (k := .i64) ?_
    have e : IntKind.i64.wrap (((s : Int)).fdiv (2 ^ (min (1 : Int).toNat IntKind.u64.bits))) = (lo + hi) / 2 := by
      rw [show (2 : Int) ^ (min (1 : Int).toNat IntKind.u64.bits) = 2 by decide, Int.fdiv_eq_ediv_of_nonneg _ (by omega), i64_wrap_id (by omega), hs]
    rw [e]
    obtain ⟨m, hmm⟩ : ∃ m, m = (lo + hi) / 2 := ⟨_, rfl⟩
    rw [← hmm]
    refine callE (hc m w' (by omega) (by omega) xw) (fun w2 hp x2 => ?_) (fun w2 hp x2 => ?_)
    · exact next2 lo m ⟨rfl, rfl, trivial⟩ ⟨h.left (by omega) (by omega) hp, xw.trans x2⟩ (by omega)
    · refine arI (by omega) ?_
      exact next2 (m + 1) hi ⟨rfl, rfl, trivial⟩ ⟨h.right hm (by omega) (by omega) hp, xw.trans x2⟩ (by omega)
  · exact ret1 (iv lo) rfl ⟨lo, rfl, h.done (by omega), xw⟩
/-- A function that a closure holds, which answers g and leaves alone what was there. -/
def Fun1 (fn : FuncId) (cap : Array Value) (w : World) (g : Int → Int) : Prop := ∀ (v : Int) (w' : World), 0 ≤ v → v ≤ 1073741824 → Ext w w' → CallZ Tryz.prog fn ([iv v] ++ cap.toList).toArray w' (fun u w'' => u = iv (g v) ∧ Ext w' w'')
theorem c_lleast1 {fn : FuncId} {cap : Array Value} [he : Enters Tryz.prog fn] {g : Int → Int} {ba bw : Nat} {t : TypeId} {w0 : World} {v x : Int} (hc : Fun1 fn cap w0 g) (hx : Ext w0 w) (hv : 0 ≤ v ∧ v ≤ 1073741824)
    (h1 : Blk w ba t [.func (.func fn) #[] cap]) (h2 : Blk w bw 3 [iv x]) : CallZ Tryz.prog 98 #[iv v, ptr ba, ptr bw] w (fun u w' => u = .bool (decide (g v > x)) ∧ Ext w w') := by
  refine fn_rule (args := [iv v, ptr ba, ptr bw]) Tryz.func98 (by kernel_rfl) ?_
  refine drawK (fun _ => True) [0, 1, 3, 2, 4, 5] [2] mx (by kernel_rfl) ?_
  refine ldK (.func (.func fn) #[] cap) (h1.cell rfl) trivial (.refl _ _) ?_
  refine ldK (iv x) (h2.cell rfl) trivial (.refl _ _) ?_
  refine call_of (hc v w hv.1 hv.2 hx) ?_
  rintro _ w2 ⟨rfl, x2⟩
  refine strK x2 ?_
  refine cD (fun q => ?_) (fun q => ?_)
  · exact ret1 (.bool true) rfl ⟨by rw [decide_eq_true q], x2⟩
  · exact ret1 (.bool false) rfl ⟨by rw [decide_eq_false q], x2⟩
theorem c_lleast {fn : FuncId} {cap : Array Value} [he : Enters Tryz.prog fn] {g : Int → Int} {x : Int} (hc : Fun1 fn cap w g) (hm : ∀ v v', 0 ≤ v → v ≤ v' → g v ≤ g v') :
    CallZ Tryz.prog 87 #[iv x, .func (.func fn) #[] cap] w (fun u w' => ∃ k : Int, u = iv k ∧ First (fun v => decide (g v > x)) 0 1073741825 k ∧ Ext w w') := by
  refine fn_rule (args := [iv x, .func (.func fn) #[] cap]) Tryz.func87 (by kernel_rfl) ?_
  refine box (fun bw w1 h1 => ?_)
  refine box (fun ba w2 h2 => ?_)
  have x2 := h1.ext.trans h2.ext
  refine call_of (c_Search (fn := 98) (cap := #[ptr ba, ptr bw]) (n := 1073741825) (p := fun v => decide (g v > x)) (by omega) (fun v v' h0 h1 _ h => by rw [decide_eq_true_eq] at h ⊢; have := hm v v' h0 h1; omega)
    (fun v w' hv0 hv1 xw => c_lleast1 hc (x2.trans xw) ⟨hv0, by omega⟩ (h2.blk.ext xw) ((h1.blk.ext h2.ext).ext xw))) ?_
  rintro _ w3 ⟨k, rfl, hk, x3⟩
  exact ret1 (iv k) rfl ⟨k, rfl, hk, x2.trans x3⟩
theorem c_lReach1 {r : Reach} {b : Nat} {t : TypeId} {v : Int} (hok : lossOk r = true) (hv : 0 ≤ v ∧ v ≤ 1073741824) (hb : Blk w b t r.c) : CallZ Tryz.prog 88 #[iv v, ptr b] w (fun u w' => u = iv (arrB r v) ∧ Ext w w') := by
  refine fn_rule (args := [iv v, ptr b]) Tryz.func88 (by kernel_rfl) ?_
  refine ldA _ (.blk hb) rfl ?_
  refine call_of (c_llost hok hv) ?_
  rintro _ w2 ⟨rfl, x2⟩
  have h := lost_le hok hv
  refine fldV (cs := [iv (lostR r v).lo, iv (lostR r v).hi]) (iv (lostR r v).lo) rfl ?_
  refine arI (by omega) ?_
  exact ret1 (iv (v - (lostR r v).lo)) rfl ⟨rfl, x2⟩
theorem c_lMost1 {r : Reach} {b : Nat} {t : TypeId} {v : Int} (hok : lossOk r = true) (hv : 0 ≤ v ∧ v ≤ 1073741824) (hb : Blk w b t r.c) : CallZ Tryz.prog 90 #[iv v, ptr b] w (fun u w' => u = iv (arrW r v) ∧ Ext w w') := by
  refine fn_rule (args := [iv v, ptr b]) Tryz.func90 (by kernel_rfl) ?_
  refine ldA _ (.blk hb) rfl ?_
  refine call_of (c_llost hok hv) ?_
  rintro _ w2 ⟨rfl, x2⟩
  have h := lost_le hok hv
  refine fldV (cs := [iv (lostR r v).lo, iv (lostR r v).hi]) (iv (lostR r v).hi) rfl ?_
  refine arI (by omega) ?_
  exact ret1 (iv (v - (lostR r v).hi)) rfl ⟨rfl, x2⟩
theorem c_lReach {r : Reach} {x : Int} : CallZ Tryz.prog 69 #[r.v, iv x] w (fun u w' => u = .tuple #[iv (reachV r x).1, .bool (reachV r x).2, iv (lErr r x)] ∧ Ext w w') := by
  refine fn_rule (args := [.agg #[.string r.name, iv r.up, iv r.delay, iv r.cap, iv r.bank, iv r.siphon, iv r.evap.lo, iv r.evap.hi, iv r.s0.n, iv r.s0.d, iv r.s1.n, iv r.s1.d], iv x]) Tryz.func69 (by kernel_rfl) ?_
  refine box (fun b w1 h1 => ?_)
  refine ldA r.c (.blk h1.blk) rfl ?_
  refine call_of c_lvalid ?_
  rintro _ w2 ⟨rfl, x2⟩
  refine cN (fun he => ?_) (fun he => ?_)
  · exact ret3 (iv 0) (.bool false) (iv (lErr r x)) rfl rfl rfl ⟨by unfold reachV; rw [if_pos he], h1.ext.trans x2⟩
  have he : lErr r x = 0 := he
  obtain ⟨hok, hx⟩ := lErr_ok.1 he
  refine arI (by omega) ?_
  refine call_of (c_lleast (fn := 88) (cap := #[ptr b]) (g := arrB r) (x := x - 1) (fun v w' h0 h2 xw => c_lReach1 hok ⟨h0, h2⟩ ((h1.blk.ext x2).ext xw)) (fun v v' h0 h => arrB_mono hok h0 h)) ?_
  rintro _ w3 ⟨k, rfl, hk, x3⟩
  have e : (fun v => decide (arrB r v > x - 1)) = fun v => decide (x ≤ arrB r v) := funext fun v => decide_eq_decide.2 ⟨fun h => by omega, fun h => by omega⟩
  rw [e] at hk
  obtain rfl := hk.uniq (lvB_first hok)
  have xx := (h1.ext.trans x2).trans x3
  refine cD (fun q => ?_) (fun q => ?_)
  · exact ret3 (iv 0) (.bool false) (iv 0) rfl rfl rfl ⟨by unfold reachV; rw [if_neg (by simp [he]), if_pos q, he], xx⟩
  · exact ret3 (iv (lvB r x)) (.bool true) (iv 0) rfl rfl rfl ⟨by unfold reachV; rw [if_neg (by simp [he]), if_neg q, he], xx⟩
theorem c_lMost {r : Reach} {x : Int} : CallZ Tryz.prog 70 #[r.v, iv x] w (fun u w' => u = .tuple #[iv (mostV r x), iv (lErr r x)] ∧ Ext w w') := by
  refine fn_rule (args := [.agg #[.string r.name, iv r.up, iv r.delay, iv r.cap, iv r.bank, iv r.siphon, iv r.evap.lo, iv r.evap.hi, iv r.s0.n, iv r.s0.d, iv r.s1.n, iv r.s1.d], iv x]) Tryz.func70 (by kernel_rfl) ?_
  refine box (fun b w1 h1 => ?_)
  refine ldA r.c (.blk h1.blk) rfl ?_
  refine call_of c_lvalid ?_
  rintro _ w2 ⟨rfl, x2⟩
  refine cN (fun he => ?_) (fun he => ?_)
  · exact ret2 (iv 0) (iv (lErr r x)) rfl rfl ⟨by unfold mostV; rw [if_pos he], h1.ext.trans x2⟩
  have he : lErr r x = 0 := he
  obtain ⟨hok, hx⟩ := lErr_ok.1 he
  refine call_of (c_lleast (fn := 90) (cap := #[ptr b]) (g := arrW r) (x := x) (fun v w' h0 h2 xw => c_lMost1 hok ⟨h0, h2⟩ ((h1.blk.ext x2).ext xw)) (fun v v' h0 h => arrW_mono hok h0 h)) ?_
  rintro _ w3 ⟨k, rfl, hk, x3⟩
  have e : (fun v => decide (arrW r v > x)) = fun v => decide (x + 1 ≤ arrW r v) := funext fun v => decide_eq_decide.2 ⟨fun h => by omega, fun h => by omega⟩
  rw [e] at hk
  obtain rfl := hk.uniq (lvW_first hok)
  have xx := (h1.ext.trans x2).trans x3
  have := hk.le
  have := hk.ge
  refine arI (by omega) ?_
  exact ret2 (iv (lvW r (x + 1) - 1)) (iv 0) rfl rfl ⟨by unfold mostV; rw [if_neg (by simp [he]), he], xx⟩
end
end Go.Proofs.YtcpdhclnmjfldaaGreatDoor
