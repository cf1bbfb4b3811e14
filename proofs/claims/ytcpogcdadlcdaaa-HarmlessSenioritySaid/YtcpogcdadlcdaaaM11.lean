/- Parts of the proof: Ka Kb Za Zc. -/
import Derived.Test.YtcpogcdadlcdaaaM10
import Derived.Test.YtcpogcdadlcdaaaM5
import Derived.Test.YtcpogcdadlcdaaaM8
import Derived.Test.YtcpogcdadlcdaaaRows
import Derived.Stop.LaidErr
import Derived.Test.YtcpogcdadlcdaaaM9

/- Keys of three numbers; a look that says whether the entry is there; what has been read of a map of titles. -/
namespace Go.Proofs.Ytcpogcdadlcdaaa
open Go Go.RowKit Classical

abbrev kv3 (t : T3) : Value := .agg #[.int .i64 t.1, .int .i64 t.2.1, .int .i64 t.2.2]
/-- What the rules ask of the record's type. -/
structure Key3 (P : Program) (k e : TypeId) (f0 f1 f2 : Field) : Prop where
  u : P.underlying k = some (.struct #[f0, f1, f2])
  t0 : f0.type = e
  t1 : f1.type = e
  t2 : f2.type = e
  o0 : f0.offset = 0
  o1 : f1.offset = 1
  o2 : f2.offset = 2
  n0 : f0.name ≠ "_"
  n1 : f1.name ≠ "_"
  n2 : f2.name ≠ "_"
  ue : P.underlying e = some (.int .i64)
  eq : ∀ a b c a' b' c' : Int, eqV P 8 k (.agg #[.int .i64 a, .int .i64 b, .int .i64 c]) (.agg #[.int .i64 a', .int .i64 b', .int .i64 c']) = some ((a == a') && ((b == b') && ((c == c') && true)))
section
variable {P : Program}
theorem run_chk3 {k e : TypeId} {f0 f1 f2 : Field} (h : Key3 P k e f0 f1 f2) (b : Bool) (a : T3) (w : World) : (Instr.checkKey b 10000 k (kv3 a)).run P w = .ok () w := by
  have p0 : (part e #[.int .i64 a.1, .int .i64 a.2.1, .int .i64 a.2.2] 0).run P w = .ok (.int .i64 a.1) w := run_partV (by unfold partV; rw [h.ue]; rfl) w
  have p1 : (part e #[.int .i64 a.1, .int .i64 a.2.1, .int .i64 a.2.2] 1).run P w = .ok (.int .i64 a.2.1) w := run_partV (by unfold partV; rw [h.ue]; rfl) w
  have p2 : (part e #[.int .i64 a.1, .int .i64 a.2.1, .int .i64 a.2.2] 2).run P w = .ok (.int .i64 a.2.2) w := run_partV (by unfold partV; rw [h.ue]; rfl) w
  have ck : ∀ n : Int, (Instr.checkKey b 9999 e (.int .i64 n)).run P w = .ok () w := fun n => by
    rw [show (9999 : Nat) = 9998 + 1 from rfl]
    unfold Instr.checkKey
    rw [Sem.run_bind, run_underlying h.ue]
    rfl
  rw [show (10000 : Nat) = 9999 + 1 from rfl]
  unfold Instr.checkKey
  simp only [Sem.run_bind, run_underlying h.u, Result.andThen_ok]
  simp only [← Array.forIn_toList, List.forIn_cons, List.forIn_nil, if_pos h.n0, if_pos h.n1, if_pos h.n2, Sem.run_bind, h.t0, h.t1, h.t2, h.o0, h.o1, h.o2, p0, p1, p2, ck, Result.andThen_ok, Sem.run_pure]
theorem run_fnd3 {k e : TypeId} {f0 f1 f2 : Field} (h : Key3 P k e f0 f1 f2) (a : T3) (L : List MapEntry) (w : World) (hL : ∀ e ∈ L, ∃ q, e.key = kv3 q) : (Instr.findKey k (kv3 a) L).run P w = .ok (findP (kv3 a) L 0) w := by
  have heq : ∀ q : T3, (Op.equal k (kv3 a) (kv3 q)).run P w = .ok ((a.1 == q.1) && ((a.2.1 == q.2.1) && ((a.2.2 == q.2.2) && true))) w := fun q => run_eqV 9992 8 k _ _ _ (h.eq a.1 a.2.1 a.2.2 q.1 q.2.1 q.2.2) w
  have ask : ∀ (L : List MapEntry) (i : Nat), (∀ e ∈ L, ∃ q, e.key = kv3 q) → (Instr.findAsking k (kv3 a) L i).run P w = .ok (findP (kv3 a) L i) w := by
    intro L
    induction L with
    | nil => intro i _; simp [Instr.findAsking, findP]
    | cons x r ih =>
      intro i hx
      obtain ⟨q, hq⟩ := hx x List.mem_cons_self
      unfold Instr.findAsking findP
      rw [hq, Sem.run_bind, heq q]
      by_cases hab : a = q
      · subst hab
        simp
      · have h1 : ((a.1 == q.1) && ((a.2.1 == q.2.1) && ((a.2.2 == q.2.2) && true))) = false := by
          rw [Bool.eq_false_iff]
          intro e
          simp at e
          exact hab (Prod.ext e.1 (Prod.ext e.2.1 e.2.2))
        have h2 : ¬ (kv3 q = kv3 a) := fun e => by
          simp at e
          exact hab (Prod.ext e.1.symm (Prod.ext e.2.1.symm e.2.2.symm))
        rw [h1, if_neg h2]
        simpa using ih (i + 1) fun y hy => hx y (List.mem_cons_of_mem _ hy)
  unfold Instr.findKey
  rw [Sem.run_bind, run_underlying h.u]
  simp only [Result.andThen_ok]
  cases L with
  | nil => simp [Instr.findNow, findP]
  | cons x r =>
    obtain ⟨q, hq⟩ := hL x List.mem_cons_self
    have : Instr.findNow (.struct #[f0, f1, f2]) (kv3 a) (x :: r) 0 = none := by unfold Instr.findNow; rw [hq]; rfl
    rw [this]
    exact ask _ 0 hL
theorem Key3.law {k e : TypeId} {f0 f1 f2 : Field} (h : Key3 P k e f0 f1 f2) : KeyL P k kv3 where
  inj a b h := by simp at h; exact Prod.ext h.1 (Prod.ext h.2.1 h.2.2)
  chk := run_chk3 h
  bits a := by
    rw [show (10000 : Nat) = 9998 + 1 + 1 from rfl]
    simp [Instr.sameBits]
  fnd := run_fnd3 h
/-- A look into a map that says whether the entry is there. -/
theorem lookGT {κ : Type} {kv : κ → Value} {S : World → Prop} {t k e : TypeId} {zv : Value} [hm : MapTy P t k e] [hk : KeyL P k kv] [hz : ZeroTy P e zv] {g : Nat} (a : κ) {K : Value → Prop} (v : Value) (h : ∀ u, S u → ∃ f : κ → Option Value, MapG kv u g f ∧ f a = some v) (kk : K (.tuple #[v, .bool true])) : LookG P S t (.map (some g)) (kv a) true K := by
  rw [LookG_eq]
  refine ⟨_, fun w hw w0 e0 => ?_, kk⟩
  subst e0
  obtain ⟨f, h1, h2⟩ := h _ hw
  have := run_lookupG (mapOf_spec hm.h) hz.h (w := w0) (show MapG kv w0 g f from by obtain ⟨L, c, hE, hf⟩ := h1; exact ⟨L, c, ⟨hE.at_, hE.keys, hE.born⟩, hf⟩) a true
  rw [run_vS, this, h2]
  exact ⟨rfl, rfl⟩
theorem lookGF {κ : Type} {kv : κ → Value} {S : World → Prop} {t k e : TypeId} {zv : Value} [hm : MapTy P t k e] [hk : KeyL P k kv] [hz : ZeroTy P e zv] {g : Nat} (a : κ) {K : Value → Prop} (h : ∀ u, S u → ∃ f : κ → Option Value, MapG kv u g f ∧ f a = none) (kk : K (.tuple #[zv, .bool false])) : LookG P S t (.map (some g)) (kv a) true K := by
  rw [LookG_eq]
  refine ⟨_, fun w hw w0 e0 => ?_, kk⟩
  subst e0
  obtain ⟨f, h1, h2⟩ := h _ hw
  have := run_lookupG (mapOf_spec hm.h) hz.h (w := w0) (show MapG kv w0 g f from by obtain ⟨L, c, hE, hf⟩ := h1; exact ⟨L, c, ⟨hE.at_, hE.keys, hE.born⟩, hf⟩) a true
  rw [run_vS, this, h2]
  exact ⟨rfl, rfl⟩
end
theorem keyT3 : ∃ f0 f1 f2, Key3 Try.prog 63 3 f0 f1 f2 := ⟨_, _, _, ⟨Try.underlying63, rfl, rfl, rfl, rfl, rfl, rfl, by decide, by decide, by decide, by kernel_rfl, fun _ _ _ _ _ _ => by kernel_rfl⟩⟩
instance keyTi3 : KeyL Try.prog 63 kv3 := by
  obtain ⟨_, _, _, h⟩ := keyT3
  exact h.law
theorem kv3_inj {a b : T3} (h : kv3 a = kv3 b) : a = b := KeyL.inj (P := Try.prog) (k := 63) (kv := kv3) a b h
/-- A map of titles. -/
def MapM (w : World) (g : Nat) (f : GM3) : Prop := MapU kv3 w g fun t => (f t).map iv
theorem MapM.kept {D : Nat → Prop} {w w' : World} {g : Nat} {f : GM3} (h : MapM w g f) (k : Kept D w w') (hD : D g) : MapM w' g f := MapU.kept h k hD
theorem MapM.g {w : World} {g : Nat} {f : GM3} (h : MapM w g f) : MapG kv3 w g fun t => (f t).map iv := MapU.g h
theorem MapM.at_ {w : World} {g : Nat} {f : GM3} (h : MapM w g f) : ∃ L c, w.heap[g]? = some (.map L c) := by
  obtain ⟨L, c, hE, -⟩ := h
  exact ⟨_, _, hE.at_⟩
theorem MapM.lt {w : World} {g : Nat} {f : GM3} (h : MapM w g f) : g < w.heap.size := MapG.lt h.g
theorem MapM.own {w0 w : World} {g : Nat} {f : GM3} (h : MapM w g f) {A : Option Addr} {n c sz : Nat} {e : TypeId} {cs : List Value} (o : OwnF w0 w A n c e sz cs) : A ≠ some (ad g 0) := fun e2 => by
  subst e2
  obtain ⟨rest, Bg, -⟩ := o.own.blk
  obtain ⟨L, cc, h2⟩ := h.at_
  have h1 : w.heap[g]? = some (.cells _ _ _) := Bg
  rw [h1] at h2
  cases h2
theorem MapM.blk {w : World} {g b : Nat} {f : GM3} {t : TypeId} {cs : List Value} (h : MapM w g f) (B : Blk w b t cs) : g ≠ b := fun e2 => by
  subst e2
  obtain ⟨L, cc, h2⟩ := h.at_
  have h1 : w.heap[g]? = some (.cells _ _ _) := B
  rw [h1] at h2
  cases h2
theorem iset3_pset {g : GM3} {t : T3} {n : Int} : (pset (fun t => (g t).map iv) t (iv n)) = fun b => ((iset3 g t n) b).map iv := by
  funext b
  unfold pset iset3
  split <;> rfl
theorem getD_iv3 (g : GM3) (t : T3) : ((g t).map iv).getD (iv 0) = iv ((g t).getD 0) := by cases g t <;> rfl
/-- What has been read of the map: the keys that have come. -/
def MI (L : List MapEntry) (seen : List Nat) (ks : List T3) : Prop := ks.Nodup ∧ ∀ k, k ∈ ks ↔ ∃ e ∈ L, e.born ∈ seen ∧ e.key = kv3 k
theorem MI.nil {L : List MapEntry} : MI L [] [] := ⟨.nil, fun k => ⟨fun h => (by cases h), fun ⟨_, _, h, _⟩ => (by cases h)⟩⟩
theorem MI.snoc {L : List MapEntry} {seen : List Nat} {ks : List T3} {c : Nat} {e : MapEntry} {k : T3} (h : MI L seen ks) (hb : BornL L c) (hu : (L.map (·.key)).Nodup) (he : e ∈ L) (hns : e.born ∉ seen) (hk : e.key = kv3 k) : MI L (seen ++ [e.born]) (ks ++ [k]) := by
  refine ⟨?_, fun k' => ?_⟩
  · rw [List.nodup_append]
    refine ⟨h.1, by simp, fun x hx y hy => ?_⟩
    rw [List.mem_singleton] at hy
    subst hy
    rintro rfl
    obtain ⟨e1, he1, hs1, hk1⟩ := (h.2 x).1 hx
    have := key_inj hu he1 he (by rw [hk1, hk])
    rw [this] at hs1
    exact hns hs1
  · rw [List.mem_append, List.mem_singleton]
    constructor
    · rintro (h1 | rfl)
      · obtain ⟨e1, he1, hs1, r⟩ := (h.2 k').1 h1
        exact ⟨e1, he1, (RI.old hb he he1).2 (.inl hs1), r⟩
      · exact ⟨e, he, (RI.old hb he he).2 (.inr rfl), hk⟩
    · rintro ⟨e1, he1, hs1, hk1⟩
      rcases (RI.old hb he he1).1 hs1 with hs1 | rfl
      · exact .inl ((h.2 k').2 ⟨e1, he1, hs1, hk1⟩)
      · rw [hk] at hk1
        exact .inr (kv3_inj hk1).symm
theorem MI.all {L : List MapEntry} {seen : List Nat} {ks : List T3} {f : GM3} (h : MI L seen ks) (hL : ∀ t, lookP (kv3 t) L = (f t).map iv) (hu : (L.map (·.key)).Nodup) (hall : ∀ e ∈ L, e.born ∈ seen) (k : T3) : k ∈ ks ↔ f k ≠ none := by
  rw [h.2]
  constructor
  · rintro ⟨e, he, -, hk⟩ hn
    have h1 := look_own hu he
    rw [hk, hL, hn] at h1
    cases h1
  · intro hn
    cases hf : f k with
    | none => exact absurd hf hn
    | some n =>
      have h1 := hL k
      rw [hf] at h1
      obtain ⟨e, he, h2, -⟩ := look_has h1
      exact ⟨e, he, hall e he, h2⟩
theorem MI.ent {L : List MapEntry} {c : Nat} {kvL : ∀ e ∈ L, ∃ q : T3, e.key = kv3 q} {f : GM3} (_hb : BornL L c) (hL : ∀ t, lookP (kv3 t) L = (f t).map iv) (hu : (L.map (·.key)).Nodup) {e : MapEntry} (he : e ∈ L) : ∃ k n, e.key = kv3 k ∧ e.val = iv n ∧ f k = some n := by
  obtain ⟨t, ht⟩ := kvL e he
  have h1 := look_own hu he
  rw [ht, hL] at h1
  cases hg : f t with
  | none => rw [hg] at h1; cases h1
  | some n => rw [hg] at h1; injection h1 with h1; exact ⟨t, n, ht, h1.symm, hg⟩
/-- The keys that have come are keys of the map. -/
theorem MI.some {L : List MapEntry} {seen : List Nat} {ks : List T3} {f : GM3} (h : MI L seen ks) (hL : ∀ t, lookP (kv3 t) L = (f t).map iv) (hu : (L.map (·.key)).Nodup) {k : T3} (hk : k ∈ ks) : f k ≠ none := by
  obtain ⟨e, he, -, hk⟩ := (h.2 k).1 hk
  intro hn
  have h1 := look_own hu he
  rw [hk, hL, hn] at h1
  cases h1
theorem sumK_b {ks : List T3} {h : T3 → Int} {B : Int} (hb : ∀ k ∈ ks, 0 ≤ h k ∧ h k ≤ B) : 0 ≤ (ks.map h).sum ∧ (ks.map h).sum ≤ B * ks.length := by
  induction ks with
  | nil => exact ⟨Int.le_refl _, by simp⟩
  | cons a ks ih =>
    have ih := ih fun k hk => hb k (List.mem_cons_of_mem _ hk)
    have ha := hb a List.mem_cons_self
    rw [List.map_cons, List.sum_cons, List.length_cons, Int.natCast_add, Int.mul_add]
    omega
/-- A title's litres. -/
theorem sumT_le {l : List Cm} (hn : (l.map Cm.ti).Nodup) (hb : ∀ c ∈ l, 1 ≤ c.litres ∧ c.litres ≤ 1073741824) (t : Ti) : 0 ≤ sumT l t ∧ sumT l t ≤ 1073741824 := by
  by_cases q : ∃ c ∈ l, c.ti = t
  · obtain ⟨c, hc, rfl⟩ := q
    rw [sumT_mem hn hc]
    have := hb c hc
    omega
  · rw [sumT_none fun c hc e => q ⟨c, hc, e⟩]
    omega
theorem stM_le {hr f : Int} {l : List Cm} (hn : (l.map Cm.ti).Nodup) (hb : ∀ c ∈ l, 1 ≤ c.litres ∧ c.litres ≤ 1073741824) (k : T3) : 0 ≤ (stM hr f l k).getD 0 ∧ (stM hr f l k).getD 0 ≤ 1073741824 := by
  rw [stM_val]
  have := sumT_le hn hb (t4 k f)
  split <;> omega
theorem keys_le {hr f : Int} {l : List Cm} {ks : List T3} (hn : ks.Nodup) (h : ∀ k ∈ ks, stM hr f l k ≠ none) : ks.length ≤ l.length := by
  have := nodup_le (b := l.map Cm.k3) hn fun k hk => by
    obtain ⟨c, hc, -, -, e⟩ := stM_has.1 (h k hk)
    exact List.mem_map.2 ⟨c, hc, e⟩
  rwa [List.length_map] at this
end Go.Proofs.Ytcpogcdadlcdaaa

/- Layer 46: HarmlessSeniority. -/
namespace Go.Proofs.Ytcpogcdadlcdaaa
open Go Go.RowKit Classical

theorem own_tyK {w0 w : World} {A : Option Addr} {n c sz : Nat} {e t : TypeId} {cs xs : List Value} {b : Nat} (h : OwnF w0 w A n c e sz cs) (hb : Blk w b t xs) (hne : t ≠ e) : A ≠ some (ad b 0) := fun e2 => by
  obtain ⟨rest, hb3, _⟩ := Own.blk (e2 ▸ h.own)
  exact hne (hb.uniq hb3).1
def nwK (w : World) (A B : Option Addr) : Prop := B = A ∨ B = none ∨ ∃ g, B = some (ad g 0) ∧ w.heap.size ≤ g
/-- What the closure leaves behind. -/
def SenW (w0 : World) (hr fr to : Int) (ga gb br : Nat) (w' : World) (A : Option Addr) (n cc : Nat) (l : List Cm) : Prop :=
  Blk w' br 22 [.slice A n cc] ∧ n = (restF hr fr to l).length ∧ OwnF w0 w' A n cc 60 5 ((restF hr fr to l).flatMap encJ) ∧ MapM w' ga (stM hr fr l) ∧ MapM w' gb (stM hr to l)
section
variable {w : World}
set_option maxRecDepth 8000 in
set_option maxHeartbeats 2000000 in
theorem c_Sen1 {w0 : World} {hr fr to : Int} {c : Cm} {l : List Cm} {ga gb br b4 b5 b6 n cc : Nat} {A : Option Addr} (hW : SenW w0 hr fr to ga gb br w A n cc l) (B4 : Blk w b4 3 [iv hr]) (B5 : Blk w b5 3 [iv fr]) (B6 : Blk w b6 3 [iv to]) (hne : ga ≠ gb) (hga : w0.heap.size ≤ ga) (hgb : w0.heap.size ≤ gb) (hbr : w0.heap.size ≤ br) (hft : fr ≠ to)
    (bA : ∀ k, 0 ≤ (stM hr fr l k).getD 0 ∧ (stM hr fr l k).getD 0 ≤ 1073741824) (bB : ∀ k, 0 ≤ (stM hr to l k).getD 0 ∧ (stM hr to l k).getD 0 ≤ 1073741824) (hc : 1 ≤ c.litres ∧ c.litres ≤ 1073741824) (hl : l.length ≤ 8192) :
    CallZ Try.prog 15 #[.agg (encJ c).toArray, .map (some ga), .map (some gb), ptr br, ptr b4, ptr b5, ptr b6] w (fun v w' => v = .tuple #[] ∧ ∃ A' n' cc', SenW w0 hr fr to ga gb br w' A' n' cc' (l ++ [c]) ∧ nwK w A A' ∧ Kept (fun b => b ≠ ga ∧ b ≠ gb ∧ b ≠ br ∧ A ≠ some (ad b 0)) w w') := by
  obtain ⟨Br, hn, own, Ma, Mb⟩ := hW
  refine fn_rule (args := [.agg (encJ c).toArray, .map (some ga), .map (some gb), ptr br, ptr b4, ptr b5, ptr b6]) Try.func15 (by kernel_rfl) ?_
  refine box (fun b7 w1 h1 => ?_)
  have e7 := h1.at_
  have B7 : Blk w1 b7 60 (encJ c) := h1.blk
  have x1 := h1.ext
  have B4 := B4.ext x1
  have B5 := B5.ext x1
  have B6 := B6.ext x1
  have Br := Br.ext x1
  have on7 := own_ne own (show w.heap.size ≤ b7 by omega)
  have own := own.then x1
  have Ma := Ma.kept x1 trivial
  have Mb := Mb.kept x1 trivial
  have na := Ma.blk B7
  have nb := Mb.blk B7
  have nra := Ma.blk Br
  have nrb := Mb.blk Br
  have oa := Ma.own own
  have ob := Mb.own own
  have ot := own_tyK own Br (by decide)
  have hlen : (restF hr fr to l).length ≤ 8192 := Nat.le_trans (List.length_filter_le _ _) hl
  have sA : stM hr fr (l ++ [c]) = stStep hr fr (stM hr fr l) c := stM_snoc
  have sB : stM hr to (l ++ [c]) = stStep hr to (stM hr to l) c := stM_snoc
  have sR : restF hr fr to (l ++ [c]) = restF hr fr to l ++ if restB hr fr to c = true then [c] else [] := restF_snoc
  refine fldA ?_
  refine ld (iv c.hour) (B7.cell rfl) ?_
  refine ld (iv hr) (B4.cell rfl) ?_
  refine cE (fun q1 => ?_) (fun q1 => ?_)
  · refine fldA ?_
    refine ld (iv c.farm) (B7.cell rfl) ?_
    refine ld (iv fr) (B5.cell rfl) ?_
    refine cE (fun q2 => ?_) (fun q2 => ?_)
    · obtain ⟨V0, hV0⟩ : ∃ V0, V0 = ((stM hr fr l) c.k3).getD 0 := ⟨_, rfl⟩
      have hV0b := bA c.k3
      rw [← hV0] at hV0b
      have hV0v : (((stM hr fr l) c.k3).map iv).getD (iv 0) = iv V0 := by rw [hV0]; exact getD_iv3 _ _
      refine drawP (.take 0 (.take 1 (.take 2 (.take 3 (.take 4 (.take 5 (.take 6 (.take 7 (.take 8 (.take 9 (.take 10 (.take 11 (.eff 12 (.take 13 (.bar (.eff 14 .done)))))))))))))))) [14] (fun y => Kept (fun b => b ≠ ga) w1 y ∧ ∃ f', MapG kv3 y ga f' ∧ (f' c.k3).getD (iv 0) = iv V0) mx (by kernel_rfl) ⟨.refl _ _, _, MapM.g Ma, hV0v⟩ ?_
      refine fldA ?_
      refine ldS (iv c.hour) (fun y hy => hy.1.cell (B7.cell rfl) (show b7 ≠ ga from (fun e => na e.symm))) ?_
      refine fldA ?_
      refine ldS (iv c.rank) (fun y hy => hy.1.cell (B7.cell rfl) (show b7 ≠ ga from (fun e => na e.symm))) ?_
      refine fldA ?_
      refine ldS (iv c.right) (fun y hy => hy.1.cell (B7.cell rfl) (show b7 ≠ ga from (fun e => na e.symm))) ?_
      refine bld [iv c.hour, iv c.rank, iv c.right] (by kernel_rfl) ?_
      refine lookG1 (kv := kv3) c.k3 (iv V0) (fun y hy => hy.2) ?_
      refine fldA ?_
      refine ldS (iv c.litres) (fun y hy => hy.1.cell (B7.cell rfl) (show b7 ≠ ga from (fun e => na e.symm))) ?_
      refine arI (n := V0 + c.litres) (by omega) ?_
      refine mentU (kv := kv3) c.k3 Ma (fun u7 s7 MS k7 zs7 => ?_)
      refine strS ⟨k7, _, MS.g.g, ?_⟩ ?_
      · unfold pset
        rw [if_pos rfl]
        exact hV0v
      refine barS (fun _ => True) trivial ?_
      refine estoU MS (fun u8 M8 k8 zs8 => ?_)
      refine strS trivial ?_
      have M8 : MapM u8 ga (iset3 (stM hr fr l) c.k3 (V0 + c.litres)) := by
        rw [pset_pset] at M8
        unfold MapM
        rw [← iset3_pset]
        exact M8
      have k18 := k7.trans k8
      refine ret0 ⟨rfl, A, n, cc, ⟨Br.kept k18 (fun e => nra e.symm), ?_, ?_, ?_, ?_⟩, .inl rfl, (x1.any (D := fun b => b ≠ ga ∧ b ≠ gb ∧ b ≠ br ∧ A ≠ some (ad b 0))).trans (k18.weak fun b _ h => h.1)⟩
      · rw [sR, if_neg (by unfold restB; simp [q1, q2]), List.append_nil]; exact hn
      · rw [sR, if_neg (by unfold restB; simp [q1, q2]), List.append_nil]
        exact own.thenK k18 (fun g hg e => oa (by rw [hg, e])) (own.ext.then k18 fun b hb _ e => by omega)
      · rw [sA]; unfold stStep; rw [if_pos ⟨q1, q2⟩, ← hV0]; exact M8
      · rw [sB]; unfold stStep; rw [if_neg (fun h => hft (q2.symm.trans h.2))]; exact Mb.kept k18 (fun e => hne e.symm)
    · refine fldA ?_
      refine ld (iv c.hour) (B7.cell rfl) ?_
      refine ld (iv hr) (B4.cell rfl) ?_
      refine cE (fun _ => ?_) (fun h => absurd q1 h)
      refine fldA ?_
      refine ld (iv c.farm) (B7.cell rfl) ?_
      refine ld (iv to) (B6.cell rfl) ?_
      refine cE (fun q3 => ?_) (fun q3 => ?_)
      · obtain ⟨V0, hV0⟩ : ∃ V0, V0 = ((stM hr to l) c.k3).getD 0 := ⟨_, rfl⟩
        have hV0b := bB c.k3
        rw [← hV0] at hV0b
        have hV0v : (((stM hr to l) c.k3).map iv).getD (iv 0) = iv V0 := by rw [hV0]; exact getD_iv3 _ _
        refine drawP (.take 0 (.take 1 (.take 2 (.take 3 (.take 4 (.take 5 (.take 6 (.take 7 (.take 8 (.take 9 (.take 10 (.take 11 (.eff 12 (.take 13 (.bar (.eff 14 .done)))))))))))))))) [14] (fun y => Kept (fun b => b ≠ gb) w1 y ∧ ∃ f', MapG kv3 y gb f' ∧ (f' c.k3).getD (iv 0) = iv V0) mx (by kernel_rfl) ⟨.refl _ _, _, MapM.g Mb, hV0v⟩ ?_
        refine fldA ?_
        refine ldS (iv c.hour) (fun y hy => hy.1.cell (B7.cell rfl) (show b7 ≠ gb from (fun e => nb e.symm))) ?_
        refine fldA ?_
        refine ldS (iv c.rank) (fun y hy => hy.1.cell (B7.cell rfl) (show b7 ≠ gb from (fun e => nb e.symm))) ?_
        refine fldA ?_
        refine ldS (iv c.right) (fun y hy => hy.1.cell (B7.cell rfl) (show b7 ≠ gb from (fun e => nb e.symm))) ?_
        refine bld [iv c.hour, iv c.rank, iv c.right] (by kernel_rfl) ?_
        refine lookG1 (kv := kv3) c.k3 (iv V0) (fun y hy => hy.2) ?_
        refine fldA ?_
        refine ldS (iv c.litres) (fun y hy => hy.1.cell (B7.cell rfl) (show b7 ≠ gb from (fun e => nb e.symm))) ?_
        refine arI (n := V0 + c.litres) (by omega) ?_
        refine mentU (kv := kv3) c.k3 Mb (fun u7 s7 MS k7 zs7 => ?_)
        refine strS ⟨k7, _, MS.g.g, ?_⟩ ?_
        · unfold pset
          rw [if_pos rfl]
          exact hV0v
        refine barS (fun _ => True) trivial ?_
        refine estoU MS (fun u8 M8 k8 zs8 => ?_)
        refine strS trivial ?_
        have M8 : MapM u8 gb (iset3 (stM hr to l) c.k3 (V0 + c.litres)) := by
          rw [pset_pset] at M8
          unfold MapM
          rw [← iset3_pset]
          exact M8
        have k18 := k7.trans k8
        refine ret0 ⟨rfl, A, n, cc, ⟨Br.kept k18 (fun e => nrb e.symm), ?_, ?_, ?_, ?_⟩, .inl rfl, (x1.any (D := fun b => b ≠ ga ∧ b ≠ gb ∧ b ≠ br ∧ A ≠ some (ad b 0))).trans (k18.weak fun b _ h => h.2.1)⟩
        · rw [sR, if_neg (by unfold restB; simp [q1, q3]), List.append_nil]; exact hn
        · rw [sR, if_neg (by unfold restB; simp [q1, q3]), List.append_nil]
          exact own.thenK k18 (fun g hg e => ob (by rw [hg, e])) (own.ext.then k18 fun b hb _ e => by omega)
        · rw [sA]; unfold stStep; rw [if_neg (fun h => q2 h.2)]; exact Ma.kept k18 hne
        · rw [sB]; unfold stStep; rw [if_pos ⟨q1, q3⟩, ← hV0]; exact M8
      · refine drawP (.take 0 (.take 1 (.take 2 (.take 3 (.take 4 (.eff 5 (.eff 6 (.take 7 (.bar (.eff 8 .done)))))))))) [8] (fun y => Kept (fun b => A ≠ some (ad b 0)) w1 y) mx (by kernel_rfl) (.refl _ _) ?_
        refine ldK (.slice A n cc) (Br.cell rfl) ot (.refl _ _) ?_
        refine ldAK (encJ c) (.blk B7) rfl on7 (.refl _ _) ?_
        refine lit [.agg (encJ c).toArray] (fun g u1 hq => ?_)
        refine strS hq.ext.any ?_
        refine appF (own.then hq.ext) (hq.src (sz := 5) rfl) (by omega) (fun A' c' u2 p1 k2 hA => ?_)
        have kA : Kept (fun b => A ≠ some (ad b 0)) w1 u2 := (hq.ext.any (D := fun b => A ≠ some (ad b 0))).trans k2
        have zA := hq.ext.size
        refine strS kA ?_
        refine barS (fun _ => True) trivial ?_
        refine st (v := .slice A' (n + 1) c') (Br.kept kA ot) (by simp) rfl (fun u3 Br3 k3 zs3 => ?_)
        have Br3 : Blk u3 br 22 [.slice A' (n + 1) c'] := Br3
        refine strS trivial ?_
        have ot' := own_tyK p1 (Br.kept kA ot) (by decide)
        have k13 : Kept (fun b => b ≠ br ∧ A ≠ some (ad b 0)) w1 u3 := (kA.weak fun _ _ h => h.2).trans (k3.weak fun _ _ h => h.1)
        refine ret0 ⟨rfl, A', n + 1, c', ⟨Br3, ?_, ?_, ?_, ?_⟩, ?_, (x1.any (D := fun b => b ≠ ga ∧ b ≠ gb ∧ b ≠ br ∧ A ≠ some (ad b 0))).trans (k13.weak fun b _ h => h.2.2)⟩
        · rw [sR, if_pos (by unfold restB; simp [q1, q2, q3]), List.length_append, hn]; rfl
        · rw [sR, if_pos (by unfold restB; simp [q1, q2, q3]), List.flatMap_append]
          exact p1.thenK k3 (fun g hg e => ot' (by rw [hg, e])) (p1.ext.then k3 fun b hb _ e => by omega)
        · rw [sA]; unfold stStep; rw [if_neg (fun h => q2 (by first | exact h.1 | exact h.2))]; exact Ma.kept k13 ⟨nra, oa⟩
        · rw [sB]; unfold stStep; rw [if_neg (fun h => q3 (by first | exact h.1 | exact h.2))]; exact Mb.kept k13 ⟨nrb, ob⟩
        · rcases hA with h | h | h
          · exact .inl h
          · exact .inr (.inl h)
          · exact .inr (.inr ⟨_, h, by have := x1.size; omega⟩)
  · refine fldA ?_
    refine ld (iv c.hour) (B7.cell rfl) ?_
    refine ld (iv hr) (B4.cell rfl) ?_
    refine cE (fun h => absurd h q1) (fun _ => ?_)
    refine drawP (.take 0 (.take 1 (.take 2 (.take 3 (.take 4 (.eff 5 (.eff 6 (.take 7 (.bar (.eff 8 .done)))))))))) [8] (fun y => Kept (fun b => A ≠ some (ad b 0)) w1 y) mx (by kernel_rfl) (.refl _ _) ?_
    refine ldK (.slice A n cc) (Br.cell rfl) ot (.refl _ _) ?_
    refine ldAK (encJ c) (.blk B7) rfl on7 (.refl _ _) ?_
    refine lit [.agg (encJ c).toArray] (fun g u1 hq => ?_)
    refine strS hq.ext.any ?_
    refine appF (own.then hq.ext) (hq.src (sz := 5) rfl) (by omega) (fun A' c' u2 p1 k2 hA => ?_)
    have kA : Kept (fun b => A ≠ some (ad b 0)) w1 u2 := (hq.ext.any (D := fun b => A ≠ some (ad b 0))).trans k2
    have zA := hq.ext.size
    refine strS kA ?_
    refine barS (fun _ => True) trivial ?_
    refine st (v := .slice A' (n + 1) c') (Br.kept kA ot) (by simp) rfl (fun u3 Br3 k3 zs3 => ?_)
    have Br3 : Blk u3 br 22 [.slice A' (n + 1) c'] := Br3
    refine strS trivial ?_
    have ot' := own_tyK p1 (Br.kept kA ot) (by decide)
    have k13 : Kept (fun b => b ≠ br ∧ A ≠ some (ad b 0)) w1 u3 := (kA.weak fun _ _ h => h.2).trans (k3.weak fun _ _ h => h.1)
    refine ret0 ⟨rfl, A', n + 1, c', ⟨Br3, ?_, ?_, ?_, ?_⟩, ?_, (x1.any (D := fun b => b ≠ ga ∧ b ≠ gb ∧ b ≠ br ∧ A ≠ some (ad b 0))).trans (k13.weak fun b _ h => h.2.2)⟩
    · rw [sR, if_pos (by unfold restB; simp [q1]), List.length_append, hn]; rfl
    · rw [sR, if_pos (by unfold restB; simp [q1]), List.flatMap_append]
      exact p1.thenK k3 (fun g hg e => ot' (by rw [hg, e])) (p1.ext.then k3 fun b hb _ e => by omega)
    · rw [sA]; unfold stStep; rw [if_neg (fun h => q1 (by first | exact h.1 | exact h.2))]; exact Ma.kept k13 ⟨nra, oa⟩
    · rw [sB]; unfold stStep; rw [if_neg (fun h => q1 (by first | exact h.1 | exact h.2))]; exact Mb.kept k13 ⟨nrb, ob⟩
    · rcases hA with h | h | h
      · exact .inl h
      · exact .inr (.inl h)
      · exact .inr (.inr ⟨_, h, by have := x1.size; omega⟩)
end
section
variable {w : World}
theorem own_cms {w0 u : World} {A : Option Addr} {n c : Nat} {l : List Cm} (o : OwnF w0 u A n c 60 5 (l.flatMap encJ)) (hn : n = l.length) (h : n ≤ 10000) : SlR tCm (fun _ => True) u A n l :=
  o.own.rd (a := tCm) flat_cms hn (by omega) fun _ _ => trivial
set_option maxRecDepth 8000 in
set_option maxHeartbeats 4000000 in
theorem c_HarmlessSeniority {D : Nat → Prop} {csd : List Value} {d : Dist} {l : List Cm} {fr to hr litres got : Int} {A : Option Addr} {n c : Nat} (hd : DiR D w csd d) (hl : SlR tCm D w A n l) :
    CallZ Try.prog 6 #[.agg csd.toArray, .slice A n c, iv fr, iv to, iv hr, iv litres, iv got] w (fun v w' => v = .bool true ∧ Ext w w') := by
  have hd0 := hd.more (D' := fun _ => True) fun _ _ _ => trivial
  have hl := hl.more (D' := fun _ => True) (by decide) fun _ _ _ => trivial
  have hlen := hl.len
  obtain ⟨A1, n1, c1, A2, n2, c2, A3, n3, c3, A4, n4, c4, A5, n5, c5, A6, n6, c6, rfl, -, hf, -, hri, -⟩ := hd.ex
  have lf := hf.len
  have lri := hri.len
  refine fn_rule (args := [.agg #[.string d.name, iv d.hours, iv d.cap, iv d.start, .slice A1 n1 c1, .slice A2 n2 c2, .slice A3 n3 c3, .slice A4 n4 c4, .slice A5 n5 c5, .slice A6 n6 c6], .slice A n c, iv fr, iv to, iv hr, iv litres, iv got]) Try.func6 (by kernel_rfl) ?_
  refine box (fun b7 w1 h1 => ?_)
  refine box (fun b9 w2 h2 => ?_)
  refine box (fun b10 w3 h3 => ?_)
  refine box (fun b11 w4 h4 => ?_)
  have B7 : Blk w4 b7 38 [.string d.name, iv d.hours, iv d.cap, iv d.start, .slice A1 n1 c1, .slice A2 n2 c2, .slice A3 n3 c3, .slice A4 n4 c4, .slice A5 n5 c5, .slice A6 n6 c6] := ((h1.blk.ext h2.ext).ext h3.ext).ext h4.ext
  have B9 : Blk w4 b9 3 [iv fr] := (h2.blk.ext h3.ext).ext h4.ext
  have B10 : Blk w4 b10 3 [iv to] := h3.blk.ext h4.ext
  have B11 : Blk w4 b11 3 [iv hr] := h4.blk
  have x4 := ((h1.ext.trans h2.ext).trans h3.ext).trans h4.ext
  refine call_of (c_hsane) ?_
  rintro _ w5 ⟨rfl, x5⟩
  have x05 := x4.trans x5
  refine len ?_
  refine cD (fun g1 => ?_) (fun g1 => ?_)
  · exact ret1 (.bool true) rfl ⟨rfl, x05⟩
  have g1 : n ≤ 200 := by omega
  refine ld (iv fr) ((B9.ext x5).cell rfl) ?_
  refine ld (iv to) ((B10.ext x5).cell rfl) ?_
  refine ld (iv hr) ((B11.ext x5).cell rfl) ?_
  refine call_of (c_hRet (fr := fr) (to := to) (hr := hr) (litres := litres) (got := got) (hl.ext x05)) ?_
  rintro _ w6 ⟨x6, B, m, cm, x, e, rfl, sx, -, hR⟩
  have x06 := x05.trans x6
  have x46 := x5.trans x6
  refine cN (fun he => ?_) (fun he => ?_)
  · have hx0 : x = [] := by
      rcases hR with ⟨-, -, h⟩ | ⟨-, ⟨-, h, -⟩ | ⟨-, y, -, -, ⟨-, -, h⟩ | ⟨-, h, -⟩⟩⟩
      · exact h
      · exact h
      · exact h
      · exact absurd h he
    have hm0 : m = 0 := by rw [sx.1, hx0]; rfl
    subst hm0
    refine len ?_
    refine cE (fun _ => ?_) (fun h => absurd rfl h)
    exact ret1 (.bool true) rfl ⟨rfl, x06⟩
  subst he
  have hS := hR.sen
  have hm64 : m = x.length := sx.1
  have hm4 := hS.len
  have hll : l.length ≤ 200 := by omega
  have lb : ∀ c ∈ l, 1 ≤ c.litres ∧ c.litres ≤ 1073741824 := fun c hc => (claimB_iff.1 (hS.ok.1 c hc)).2.2.2.1
  have xb : ∀ c ∈ x, 1 ≤ c.litres ∧ c.litres ≤ 1073741824 := fun c hc => by
    obtain ⟨h1, h2⟩ := (hS.mem c).1 hc
    have := hS.le _ _ h1
    omega
  refine mmap (fun g17 v1 hg17 hv1 => ?_)
  have y1 : Ext w6 v1 := by rw [hv1]; exact Kept.alloc _ _ _
  have M17 : MapM v1 g17 (stM hr fr []) := by rw [hv1, hg17]; exact MapU.new kv3 w6
  refine mmap (fun g18 v2 hg18 hv2 => ?_)
  have y2 : Ext v1 v2 := by rw [hv2]; exact Kept.alloc _ _ _
  have M18 : MapM v2 g18 (stM hr fr []) := by rw [hv2, hg18]; exact MapU.new kv3 v1
  refine mmap (fun g19 v3 hg19 hv3 => ?_)
  have y3 : Ext v2 v3 := by rw [hv3]; exact Kept.alloc _ _ _
  have M19 : MapM v3 g19 (stM hr to []) := by rw [hv3, hg19]; exact MapU.new kv3 v2
  refine mmap (fun g20 v4 hg20 hv4 => ?_)
  have y4 : Ext v3 v4 := by rw [hv4]; exact Kept.alloc _ _ _
  have M20 : MapM v4 g20 (stM hr to []) := by rw [hv4, hg20]; exact MapU.new kv3 v3
  refine alloc (fun b21 v5 h5 => ?_)
  refine alloc (fun b22 v6 h6 => ?_)
  have s1 := y1.size
  have s2 := y2.size
  have s3 := y3.size
  have s4 := y4.size
  have l17 := M17.lt
  have l18 := M18.lt
  have l19 := M19.lt
  have l20 := M20.lt
  have e21 := h5.at_
  have e22 := h6.at_
  have s5 := h5.ext.size
  have B21 : Blk v6 b21 22 [.slice none 0 0] := h5.blk.ext h6.ext
  have B22 : Blk v6 b22 22 [.slice none 0 0] := h6.blk
  have l21 := h5.blk.lt
  have l22 := B22.lt
  have y56 := h5.ext.trans h6.ext
  have M17 := (((M17.kept y2 trivial).kept y3 trivial).kept y4 trivial).kept y56 trivial
  have M18 := ((M18.kept y3 trivial).kept y4 trivial).kept y56 trivial
  have M19 := (M19.kept y4 trivial).kept y56 trivial
  have M20 := M20.kept y56 trivial
  have x66 : Ext w6 v6 := (((y1.trans y2).trans y3).trans y4).trans y56
  have z66 := x66.size
  have x46v := x46.trans x66
  have B7 := B7.ext x46v
  have B9 := B9.ext x46v
  have B10 := B10.ext x46v
  have B11 := B11.ext x46v
  have sl6 := hl.ext (x06.trans x66)
  have hd6 := hd0.ext (x06.trans x66)
  have sx6 := (sx.more (D' := fun b => b < w6.heap.size) (by decide) fun b hb _ => hb).ext x66
  have sl6 : SlR tCm (fun b => b < w6.heap.size) v6 A n l := ((hl.ext x06).more (D' := fun b => b < w6.heap.size) (by decide) fun b hb _ => hb).ext x66
  have hd6 : DiR (fun b => b < w6.heap.size) v6 [.string d.name, iv d.hours, iv d.cap, iv d.start, .slice A1 n1 c1, .slice A2 n2 c2, .slice A3 n3 c3, .slice A4 n4 c4, .slice A5 n5 c5, .slice A6 n6 c6] d := ((hd0.ext x06).more (D' := fun b => b < w6.heap.size) fun b hb _ => hb).ext x66
  have b7l : b7 < w6.heap.size := by have := h1.blk.lt; have := (((h2.ext.trans h3.ext).trans h4.ext).trans x46).size; omega
  have b9l : b9 < w6.heap.size := by have := h2.blk.lt; have := ((h3.ext.trans h4.ext).trans x46).size; omega
  have b10l : b10 < w6.heap.size := by have := h3.blk.lt; have := (h4.ext.trans x46).size; omega
  have b11l : b11 < w6.heap.size := by have := h4.blk.lt; have := x46.size; omega
  have W0 : SenW w6 hr fr to g17 g19 b21 v6 none 0 0 (l.take 0) := ⟨B21, rfl, .nil x66, M17, M19⟩
  clear h1 h2 h3 h4 h5 h6 hv1 hv2 hv3 hv4
  refine len ?_
  refine loop4 (fun (k : Nat) (_ : Option Addr) (_ _ : Nat) => [(66, iv (k : Int))]) (fun k A' n' cc u => k ≤ n ∧ SenW w6 hr fr to g17 g19 b21 u A' n' cc (l.take k) ∧ (∀ g, A' = some (ad g 0) → v6.heap.size ≤ g) ∧ Kept (fun b => b ≠ g17 ∧ b ≠ g19 ∧ b ≠ b21) v6 u) (fun k _ _ _ _ => n - k) 0 none 0 0 ⟨rfl, trivial⟩ ⟨by omega, W0, fun g h => (by cases h), .refl _ _⟩ rfl ?_
  rintro G k A' n' cc u ⟨hk, hW, hA', ku⟩
  have hk : k ≤ n := hk
  have hA' : ∀ g, A' = some (ad g 0) → v6.heap.size ≤ g := hA'
  have zu := ku.size
  refine cD (fun hlt => ?_) (fun hge => ?_)
  · obtain ⟨b, o, cs, r, rfl, hr', -, -, hc, rfl⟩ := (sl6.kept ku fun b _ h => (show b ≠ g17 ∧ b ≠ g19 ∧ b ≠ b21 from ⟨by omega, by omega, by omega⟩)).at_ (k := k) (by omega)
    have htk : l.take (k + 1) = l.take k ++ [r] := by rw [List.take_add_one, hr']; rfl
    have hrb := lb r (List.mem_of_getElem? hr')
    refine idx k rfl (by omega) ?_
    refine ldA (encJ r) hc rfl ?_
    refine alloc (fun b25 u1 a1 => ?_)
    refine stA (vs := encJ r) a1.blk rfl (Nat.le_of_ble_eq_true rfl) (by simp [Value.oneCell']) (fun u2 B25 k2 z2 => ?_)
    have B25 : Blk u2 b25 60 (encJ r) := B25
    have e25 := a1.at_
    have xu2 : Ext u u2 := a1.ext.then k2 fun b hb _ e => by omega
    have ku2 := ku.ext xu2
    obtain ⟨W1, W2, W3, W4, W5⟩ := hW
    have zz := xu2.size
    refine ldA (encJ r) (.blk B25) rfl ?_
    have ndk : ((l.take k).map Cm.ti).Nodup := hS.ok.nodup.sublist ((List.take_sublist k l).map _)
    have lbk : ∀ c ∈ l.take k, 1 ≤ c.litres ∧ c.litres ≤ 1073741824 := fun c hc => lb c (List.mem_of_mem_take hc)
    refine call_of (c_Sen1 (c := r) (l := l.take k) ⟨W1.ext xu2, W2, W3.then xu2, W4.kept xu2 trivial, W5.kept xu2 trivial⟩ (B11.kept ku2 ⟨by omega, by omega, by omega⟩) (B9.kept ku2 ⟨by omega, by omega, by omega⟩) (B10.kept ku2 ⟨by omega, by omega, by omega⟩) (by omega) (by omega) (by omega) (by omega) hS.ne (stM_le ndk lbk) (stM_le ndk lbk) hrb (Nat.le_trans (List.length_take_le _ _) (by omega))) ?_
    rintro _ u3 ⟨rfl, A3, n3', cc3, hW3, hn3, k3⟩
    refine arI (n := (k : Int) + 1) (by omega) ?_
    refine next4 (k + 1) A3 n3' cc3 ⟨by rw [Int.natCast_add]; rfl, trivial⟩ ⟨by omega, by rw [htk]; exact hW3, fun g hg => ?_, ku2.then k3 fun b hb h => ⟨h.1, h.2.1, h.2.2, fun e => by have := hA' b e; omega⟩⟩ (by omega)
    rcases hn3 with h | h | ⟨g', h, hg'⟩
    · exact hA' g (by rw [← h]; exact hg)
    · rw [h] at hg; cases hg
    · rw [h] at hg; injection hg with hg; injection hg with hg; omega
  have hkn : k = n := by omega
  rw [List.take_of_length_le (by omega)] at hW
  obtain ⟨U21, hn', own1, U17, U19⟩ := hW
  have U18 := M18.kept ku ⟨by omega, by omega, by omega⟩
  have U20 := M20.kept ku ⟨by omega, by omega, by omega⟩
  have U22 := B22.kept ku ⟨by omega, by omega, by omega⟩
  have xu : Ext w6 u := own1.ext
  have B7 := B7.kept ku ⟨by omega, by omega, by omega⟩
  have B9 := B9.kept ku ⟨by omega, by omega, by omega⟩
  have B10 := B10.kept ku ⟨by omega, by omega, by omega⟩
  have B11 := B11.kept ku ⟨by omega, by omega, by omega⟩
  have slu : SlR tCm (fun b => b < w6.heap.size) u A n l := sl6.kept ku fun b _ h => (show b ≠ g17 ∧ b ≠ g19 ∧ b ≠ b21 from ⟨by omega, by omega, by omega⟩)
  have sxu : SlR tCm (fun b => b < w6.heap.size) u B m x := sx6.kept ku fun b _ h => (show b ≠ g17 ∧ b ≠ g19 ∧ b ≠ b21 from ⟨by omega, by omega, by omega⟩)
  have hdu : DiR (fun b => b < w6.heap.size) u [.string d.name, iv d.hours, iv d.cap, iv d.start, .slice A1 n1 c1, .slice A2 n2 c2, .slice A3 n3 c3, .slice A4 n4 c4, .slice A5 n5 c5, .slice A6 n6 c6] d := hd6.kept ku fun b _ h => (show b ≠ g17 ∧ b ≠ g19 ∧ b ≠ b21 from ⟨by omega, by omega, by omega⟩)
  have W0 : SenW w6 hr fr to g18 g20 b22 u none 0 0 (x.take 0) := ⟨U22, rfl, .nil xu, U18, U20⟩
  refine len ?_
  refine loop4 (fun (k : Nat) (_ : Option Addr) (_ _ : Nat) => [(78, iv (k : Int))]) (fun k A' n' cc v => k ≤ m ∧ SenW w6 hr fr to g18 g20 b22 v A' n' cc (x.take k) ∧ (∀ g, A' = some (ad g 0) → u.heap.size ≤ g) ∧ Kept (fun b => b ≠ g18 ∧ b ≠ g20 ∧ b ≠ b22) u v) (fun k _ _ _ _ => m - k) 0 none 0 0 ⟨rfl, trivial⟩ ⟨by omega, W0, fun g h => (by cases h), .refl _ _⟩ rfl ?_
  rintro G2 k2 A'' n'' cc2 v ⟨hk2, hW2, hA2, kv2⟩
  have hk2 : k2 ≤ m := hk2
  have hA2 : ∀ g, A'' = some (ad g 0) → u.heap.size ≤ g := hA2
  have zv := kv2.size
  refine cD (fun hlt => ?_) (fun hge => ?_)
  · obtain ⟨b, o, cs, r, rfl, hr', -, -, hc, rfl⟩ := (sxu.kept kv2 fun b _ h => (show b ≠ g18 ∧ b ≠ g20 ∧ b ≠ b22 from ⟨by omega, by omega, by omega⟩)).at_ (k := k2) (by omega)
    have htk : x.take (k2 + 1) = x.take k2 ++ [r] := by rw [List.take_add_one, hr']; rfl
    have hrb := xb r (List.mem_of_getElem? hr')
    refine idx k2 rfl (by omega) ?_
    refine ldA (encJ r) hc rfl ?_
    refine alloc (fun b27 u1 a1 => ?_)
    refine stA (vs := encJ r) a1.blk rfl (Nat.le_of_ble_eq_true rfl) (by simp [Value.oneCell']) (fun u2 B27 k2' z2 => ?_)
    have B27 : Blk u2 b27 60 (encJ r) := B27
    have e27 := a1.at_
    have xv2 : Ext v u2 := a1.ext.then k2' fun b hb _ e => by omega
    have kvu2 := kv2.ext xv2
    obtain ⟨W1, W2, W3, W4, W5⟩ := hW2
    have zz := xv2.size
    refine ldA (encJ r) (.blk B27) rfl ?_
    have ndk : ((x.take k2).map Cm.ti).Nodup := hS.nd.sublist ((List.take_sublist k2 x).map _)
    have lbk : ∀ c ∈ x.take k2, 1 ≤ c.litres ∧ c.litres ≤ 1073741824 := fun c hc => xb c (List.mem_of_mem_take hc)
    refine call_of (c_Sen1 (c := r) (l := x.take k2) ⟨W1.ext xv2, W2, W3.then xv2, W4.kept xv2 trivial, W5.kept xv2 trivial⟩ (B11.kept kvu2 ⟨by omega, by omega, by omega⟩) (B9.kept kvu2 ⟨by omega, by omega, by omega⟩) (B10.kept kvu2 ⟨by omega, by omega, by omega⟩) (by omega) (by omega) (by omega) (by omega) hS.ne (stM_le ndk lbk) (stM_le ndk lbk) hrb (Nat.le_trans (List.length_take_le _ _) (by omega))) ?_
    rintro _ u3 ⟨rfl, A3, n3', cc3, hW3, hn3, k3⟩
    refine arI (n := (k2 : Int) + 1) (by omega) ?_
    refine next4 (k2 + 1) A3 n3' cc3 ⟨by rw [Int.natCast_add]; rfl, trivial⟩ ⟨by omega, by rw [htk]; exact hW3, fun g hg => ?_, kvu2.then k3 fun b hb h => ⟨h.1, h.2.1, h.2.2, fun e => by have := hA2 b e; omega⟩⟩ (by omega)
    rcases hn3 with h | h | ⟨g', h, hg'⟩
    · exact hA2 g (by rw [← h]; exact hg)
    · rw [h] at hg; cases hg
    · rw [h] at hg; injection hg with hg; injection hg with hg; omega
  have hkm : k2 = m := by omega
  rw [List.take_of_length_le (by omega)] at hW2
  obtain ⟨V22, hn'', own2, V18, V20⟩ := hW2
  have kD : ∀ b, b ≠ g18 ∧ b ≠ g20 ∧ b ≠ b22 → b ≠ g18 ∧ b ≠ g20 ∧ b ≠ b22 := fun _ h => h
  have V17 := U17.kept kv2 ⟨by omega, by omega, by omega⟩
  have V19 := U19.kept kv2 ⟨by omega, by omega, by omega⟩
  have V21 := U21.kept kv2 ⟨by omega, by omega, by omega⟩
  have own1 := own1.thenK kv2 (fun g hg => by have := hA' g hg; exact ⟨by omega, by omega, by omega⟩) own2.ext
  have B7 := B7.kept kv2 ⟨by omega, by omega, by omega⟩
  have B9 := B9.kept kv2 ⟨by omega, by omega, by omega⟩
  have B10 := B10.kept kv2 ⟨by omega, by omega, by omega⟩
  have slv : SlR tCm (fun b => b < w6.heap.size) v A n l := slu.kept kv2 fun b _ h => (show b ≠ g18 ∧ b ≠ g20 ∧ b ≠ b22 from ⟨by omega, by omega, by omega⟩)
  have sxv : SlR tCm (fun b => b < w6.heap.size) v B m x := sxu.kept kv2 fun b _ h => (show b ≠ g18 ∧ b ≠ g20 ∧ b ≠ b22 from ⟨by omega, by omega, by omega⟩)
  have hdv : DiR (fun b => b < w6.heap.size) v [.string d.name, iv d.hours, iv d.cap, iv d.start, .slice A1 n1 c1, .slice A2 n2 c2, .slice A3 n3 c3, .slice A4 n4 c4, .slice A5 n5 c5, .slice A6 n6 c6] d := hdu.kept kv2 fun b _ h => (show b ≠ g18 ∧ b ≠ g20 ∧ b ≠ b22 from ⟨by omega, by omega, by omega⟩)
  have xv : Ext w6 v := own2.ext
  refine ld (.slice A' n' cc) (V21.cell rfl) ?_
  refine ld (.slice A'' n'' cc2) (V22.cell rfl) ?_
  have f1 : n' ≤ 10000 := by rw [hn']; exact Nat.le_trans (List.length_filter_le _ _) (by omega)
  have f2 : n'' ≤ 10000 := by rw [hn'']; exact Nat.le_trans (List.length_filter_le _ _) (by omega)
  refine callB (c_Same26 (own_cms own1 hn' f1) (own_cms own2 hn'' f2)) (fun _ => ?_) (fun h => absurd (of_decide_eq_false h) (fun h => h hS.rest))
  have kl : ∀ ks : List T3, ks.Nodup → (∀ k ∈ ks, stM hr fr l k ≠ none) → ks.length ≤ 5000 := fun ks h1 h2 => Nat.le_trans (keys_le h1 h2) (by omega)
  have kx : ∀ ks : List T3, ks.Nodup → (∀ k ∈ ks, stM hr to x k ≠ none) → ks.length ≤ 5000 := fun ks h1 h2 => Nat.le_trans (keys_le h1 h2) (by omega)
  have ndl : (l.map Cm.ti).Nodup := hS.ok.nodup
  -- what the farm has lost
  obtain ⟨L, cL, EL, hLu, hL⟩ := V17
  have V17 : MapM v g17 (stM hr fr l) := ⟨L, cL, EL, hLu, hL⟩
  have hL : ∀ t, lookP (kv3 t) L = (stM hr fr l t).map iv := hL
  refine rngM (kv := kv3) (t := 58) rfl EL (fun w1' E1 I1 x1 z1 => ?_)
  obtain ⟨it, hit⟩ : ∃ it, it = v.heap.size := ⟨_, rfl⟩
  rw [← hit] at I1 ⊢
  refine loop2 (fun (_ : List Nat) (ks : List T3) => [(28, iv (ks.map fun k => (stM hr fr l k).getD 0 - (stM hr fr x k).getD 0).sum)]) (fun seen ks u => Ext v u ∧ IterM u it g17 cL seen ∧ MI L seen ks) (fun seen _ _ => (L.filter fun x => !seen.contains x.born).length) [] [] ⟨rfl, trivial⟩ ⟨x1, I1, MI.nil⟩ rfl ?_
  rintro G3 seen ks u3 ⟨xu3, Iu3, hMI⟩
  have zu3 := xu3.size
  have V18u := V18.kept xu3 trivial
  have hks : ∀ k ∈ ks, 0 ≤ (stM hr fr l k).getD 0 - (stM hr fr x k).getD 0 ∧ (stM hr fr l k).getD 0 - (stM hr fr x k).getD 0 ≤ 1073741824 := fun k hk => by
    have h1 := hMI.some hL hLu hk
    cases hf : stM hr fr l k with
    | none => exact absurd hf h1
    | some v0 =>
      have h2 := hS.f1 hf
      have h3 := stM_le (hr := hr) (f := fr) ndl lb k
      rw [hf, Option.getD_some] at h3
      rw [Option.getD_some]
      omega
  have hsum := sumK_b hks
  have hkl := kl ks hMI.1 fun k hk => hMI.some hL hLu hk
  refine nxtM (kv := kv3) rfl (EL.kept xu3 trivial) Iu3 (fun hall => ?_) (fun e he hns u4 Eu4 Iu4 ku4 zu4 => ?_)
  rotate_left
  · obtain ⟨k, q, hek, hev, hfk⟩ := MI.ent (kvL := EL.keys) EL.born hL hLu he
    refine entM (kv := kv3) rfl Eu4 he Iu4 ?_
    rw [hek, hev]
    have hlt := left_ltJ he hns
    have hq := hS.f1 hfk
    have hqb := stM_le (hr := hr) (f := fr) ndl lb k
    rw [hfk, Option.getD_some] at hqb
    refine alloc (fun b30 u5 q5 => ?_)
    refine stA (vs := [iv k.1, iv k.2.1, iv k.2.2]) q5.blk rfl (Nat.le_of_ble_eq_true rfl) (by simp [Value.oneCell']) (fun u6 B30 k6 zs6 => ?_)
    have e30 := q5.at_
    have B30 : Blk u6 b30 63 [iv k.1, iv k.2.1, iv k.2.2] := B30
    have x46' : Ext u4 u6 := q5.ext.then k6 fun b hb _ e => by omega
    have xv4 : Ext v u4 := xu3.then ku4 fun b hb _ e => by omega
    have xv6 := xv4.trans x46'
    have V18k := V18.kept xv6 trivial
    refine ldA [iv k.1, iv k.2.1, iv k.2.2] (.blk B30) rfl ?_
    refine lookG1 (kv := kv3) k (iv ((stM hr fr x k).getD 0)) (fun y hy => ⟨_, by subst hy; exact V18k.g, getD_iv3 _ _⟩) ?_
    refine cD (fun h => absurd h (by omega)) (fun _ => ?_)
    refine ldA [iv k.1, iv k.2.1, iv k.2.2] (.blk B30) rfl ?_
    refine lookG1 (kv := kv3) k (iv ((stM hr fr x k).getD 0)) (fun y hy => ⟨_, by subst hy; exact V18k.g, getD_iv3 _ _⟩) ?_
    refine cD (fun h => absurd h (by omega)) (fun _ => ?_)
    refine ldA [iv k.1, iv k.2.1, iv k.2.2] (.blk B30) rfl ?_
    refine lookG1 (kv := kv3) k (iv ((stM hr fr x k).getD 0)) (fun y hy => ⟨_, by subst hy; exact V18k.g, getD_iv3 _ _⟩) ?_
    refine arI (n := q - (stM hr fr x k).getD 0) (by omega) ?_
    refine arI (n := (ks.map fun k => (stM hr fr l k).getD 0 - (stM hr fr x k).getD 0).sum + (q - (stM hr fr x k).getD 0)) (by omega) ?_
    refine next2 (seen ++ [e.born]) (ks ++ [k]) ⟨?_, trivial⟩ ⟨xv6, Iu4.kept x46' trivial, hMI.snoc EL.born hLu he hns hek⟩ hlt
    rw [List.map_append, List.sum_append]
    simp only [List.map_cons, List.map_nil, List.sum_cons, List.sum_nil, Int.add_zero]
    rw [hfk]
    rfl
  have hlost : (ks.map fun k => (stM hr fr l k).getD 0 - (stM hr fr x k).getD 0).sum = litres := hS.f5 hMI.1 (hMI.all hL hLu hall)
  rw [hlost]
  clear hsum hkl hks hall hMI Iu3 I1 E1 hit hL hLu EL
  -- it has no title that it had not
  have U17 := V17.kept xu3 trivial
  have U18 := V18u
  have U19 := V19.kept xu3 trivial
  have U20 := V20.kept xu3 trivial
  clear V18u
  obtain ⟨L4, cL4, EL, hLu, hL⟩ := U18
  have U18 : MapM u3 g18 (stM hr fr x) := ⟨L4, cL4, EL, hLu, hL⟩
  have hL : ∀ t, lookP (kv3 t) L4 = (stM hr fr x t).map iv := hL
  refine rngM (kv := kv3) (t := 58) rfl EL (fun w1' E1 I1 x1 z1 => ?_)
  obtain ⟨it, hit⟩ : ∃ it, it = u3.heap.size := ⟨_, rfl⟩
  rw [← hit] at I1 ⊢
  refine loop2 (fun (_ : List Nat) (_ : List T3) => []) (fun seen ks u => Ext u3 u ∧ IterM u it g18 cL4 seen ∧ MI L4 seen ks) (fun seen _ _ => (L4.filter fun x => !seen.contains x.born).length) [] [] trivial ⟨x1, I1, MI.nil⟩ rfl ?_
  rintro G4 seen ks p3 ⟨xp3, Ip3, hMI⟩
  have zp3 := xp3.size
  refine nxtM (kv := kv3) rfl (EL.kept xp3 trivial) Ip3 (fun hall => ?_) (fun e he hns u4 Eu4 Iu4 ku4 zu4 => ?_)
  rotate_left
  · obtain ⟨k, q, hek, hev, hfk⟩ := MI.ent (kvL := EL.keys) EL.born hL hLu he
    refine entM (kv := kv3) rfl Eu4 he Iu4 ?_
    rw [hek, hev]
    have hlt := left_ltJ he hns
    refine alloc (fun b30 u5 q5 => ?_)
    refine stA (vs := [iv k.1, iv k.2.1, iv k.2.2]) q5.blk rfl (Nat.le_of_ble_eq_true rfl) (by simp [Value.oneCell']) (fun u6 B30 k6 zs6 => ?_)
    have e30 := q5.at_
    have B30 : Blk u6 b30 63 [iv k.1, iv k.2.1, iv k.2.2] := B30
    have x46' : Ext u4 u6 := q5.ext.then k6 fun b hb _ e => by omega
    have xv4 : Ext u3 u4 := xp3.then ku4 fun b hb _ e => by omega
    have xv6 := xv4.trans x46'
    have W17 := U17.kept xv6 trivial
    refine ldA [iv k.1, iv k.2.1, iv k.2.2] (.blk B30) rfl ?_
    cases hw : stM hr fr l k with
    | none => exact absurd hw (hS.f2 (by rw [hfk]; exact fun h => by cases h))
    | some n0 =>
    refine lookGT (kv := kv3) k (iv n0) (fun y hy => ⟨_, by subst hy; exact W17.g, by simp only [hw]; rfl⟩) ?_
    exact next2 (seen ++ [e.born]) (ks ++ [k]) trivial ⟨xv6, Iu4.kept x46' trivial, hMI.snoc EL.born hLu he hns hek⟩ hlt
  clear hall hMI Ip3 I1 E1 hit hL hLu EL
  -- the other one has no less
  have V17 := U17.kept xp3 trivial
  have V18 := U18.kept xp3 trivial
  have V19 := U19.kept xp3 trivial
  have V20 := U20.kept xp3 trivial
  obtain ⟨L5, cL5, EL, hLu, hL⟩ := V19
  have V19 : MapM p3 g19 (stM hr to l) := ⟨L5, cL5, EL, hLu, hL⟩
  have hL : ∀ t, lookP (kv3 t) L5 = (stM hr to l t).map iv := hL
  refine rngM (kv := kv3) (t := 58) rfl EL (fun w1' E1 I1 x1 z1 => ?_)
  obtain ⟨it, hit⟩ : ∃ it, it = p3.heap.size := ⟨_, rfl⟩
  rw [← hit] at I1 ⊢
  refine loop2 (fun (_ : List Nat) (_ : List T3) => []) (fun seen ks u => Ext p3 u ∧ IterM u it g19 cL5 seen ∧ MI L5 seen ks) (fun seen _ _ => (L5.filter fun x => !seen.contains x.born).length) [] [] trivial ⟨x1, I1, MI.nil⟩ rfl ?_
  rintro G5 seen ks r3 ⟨xr3, Ir3, hMI⟩
  have zr3 := xr3.size
  refine nxtM (kv := kv3) rfl (EL.kept xr3 trivial) Ir3 (fun hall => ?_) (fun e he hns u4 Eu4 Iu4 ku4 zu4 => ?_)
  rotate_left
  · obtain ⟨k, q, hek, hev, hfk⟩ := MI.ent (kvL := EL.keys) EL.born hL hLu he
    refine entM (kv := kv3) rfl Eu4 he Iu4 ?_
    rw [hek, hev]
    have hlt := left_ltJ he hns
    refine alloc (fun b30 u5 q5 => ?_)
    refine stA (vs := [iv k.1, iv k.2.1, iv k.2.2]) q5.blk rfl (Nat.le_of_ble_eq_true rfl) (by simp [Value.oneCell']) (fun u6 B30 k6 zs6 => ?_)
    have e30 := q5.at_
    have B30 : Blk u6 b30 63 [iv k.1, iv k.2.1, iv k.2.2] := B30
    have x46' : Ext u4 u6 := q5.ext.then k6 fun b hb _ e => by omega
    have xv4 : Ext p3 u4 := xr3.then ku4 fun b hb _ e => by omega
    have xv6 := xv4.trans x46'
    have W20 := V20.kept xv6 trivial
    have h3 := hS.f3 hfk
    refine ldA [iv k.1, iv k.2.1, iv k.2.2] (.blk B30) rfl ?_
    refine lookG1 (kv := kv3) k (iv ((stM hr to x k).getD 0)) (fun y hy => ⟨_, by subst hy; exact W20.g, getD_iv3 _ _⟩) ?_
    refine cD (fun h => absurd h (by omega)) (fun _ => ?_)
    exact next2 (seen ++ [e.born]) (ks ++ [k]) trivial ⟨xv6, Iu4.kept x46' trivial, hMI.snoc EL.born hLu he hns hek⟩ hlt
  clear hall hMI Ir3 I1 E1 hit hL hLu EL
  -- what it has won
  have V17 := V17.kept xr3 trivial
  have V18 := V18.kept xr3 trivial
  have V19 := V19.kept xr3 trivial
  have V20 := V20.kept xr3 trivial
  obtain ⟨L6, cL6, EL, hLu, hL⟩ := V20
  have hL : ∀ t, lookP (kv3 t) L6 = (stM hr to x t).map iv := hL
  refine rngM (kv := kv3) (t := 58) rfl EL (fun w1' E1 I1 x1 z1 => ?_)
  obtain ⟨it, hit⟩ : ∃ it, it = r3.heap.size := ⟨_, rfl⟩
  rw [← hit] at I1 ⊢
  refine loop2 (fun (_ : List Nat) (ks : List T3) => [(29, iv (ks.map fun k => (stM hr to x k).getD 0 - (stM hr to l k).getD 0).sum)]) (fun seen ks u => Ext r3 u ∧ IterM u it g20 cL6 seen ∧ MI L6 seen ks) (fun seen _ _ => (L6.filter fun x => !seen.contains x.born).length) [] [] ⟨rfl, trivial⟩ ⟨x1, I1, MI.nil⟩ rfl ?_
  rintro G6 seen ks q3 ⟨xq3, Iq3, hMI⟩
  have zq3 := xq3.size
  have hks : ∀ k ∈ ks, 0 ≤ (stM hr to x k).getD 0 - (stM hr to l k).getD 0 ∧ (stM hr to x k).getD 0 - (stM hr to l k).getD 0 ≤ 1073741824 := fun k hk => by
    have h1 := hMI.some hL hLu hk
    have h4 := stM_le (hr := hr) (f := to) ndl lb k
    have h5 := stM_le (hr := hr) (f := to) hS.nd xb k
    cases hf : stM hr to x k with
    | none => exact absurd hf h1
    | some v0 =>
      have h2 := hS.f4 hf
      rw [hf, Option.getD_some] at h5
      rw [Option.getD_some]
      omega
  have hsum := sumK_b hks
  have hkl := kx ks hMI.1 fun k hk => hMI.some hL hLu hk
  refine nxtM (kv := kv3) rfl (EL.kept xq3 trivial) Iq3 (fun hall => ?_) (fun e he hns u4 Eu4 Iu4 ku4 zu4 => ?_)
  rotate_left
  · obtain ⟨k, q, hek, hev, hfk⟩ := MI.ent (kvL := EL.keys) EL.born hL hLu he
    refine entM (kv := kv3) rfl Eu4 he Iu4 ?_
    rw [hek, hev]
    have hlt := left_ltJ he hns
    obtain ⟨hq1, hq2⟩ := hS.f4 hfk
    have hqb := stM_le (hr := hr) (f := to) hS.nd xb k
    have hqc := stM_le (hr := hr) (f := to) ndl lb k
    rw [hfk, Option.getD_some] at hqb
    refine alloc (fun b30 u5 q5 => ?_)
    refine stA (vs := [iv k.1, iv k.2.1, iv k.2.2]) q5.blk rfl (Nat.le_of_ble_eq_true rfl) (by simp [Value.oneCell']) (fun u6 B30 k6 zs6 => ?_)
    have e30 := q5.at_
    have B30 : Blk u6 b30 63 [iv k.1, iv k.2.1, iv k.2.2] := B30
    have x46' : Ext u4 u6 := q5.ext.then k6 fun b hb _ e => by omega
    have xv4 : Ext r3 u4 := xq3.then ku4 fun b hb _ e => by omega
    have xv6 := xv4.trans x46'
    have W17 := V17.kept xv6 trivial
    have W18 := V18.kept xv6 trivial
    have W19 := V19.kept xv6 trivial
    have fin : ∀ {F : Fr}, True := fun {_} => trivial
    clear fin
    refine drawX [0, 1, 2, 3, 4, 5, 6, 7, 8, 9, 10, 11, 12, 13] [] mx (by kernel_rfl) ?_
    refine ldAX [iv k.1, iv k.2.1, iv k.2.2] (.blk B30) rfl (.refl _ _) ?_
    refine lookG1 (kv := kv3) k (iv ((stM hr to l k).getD 0)) (fun y hy => ⟨_, (W19.kept hy trivial).g, getD_iv3 _ _⟩) ?_
    refine cD (fun h7 => ?_) (fun h7 => ?_)
    · refine ldAX [iv k.1, iv k.2.1, iv k.2.2] (.blk B30) rfl (.refl _ _) ?_
      refine lookG1 (kv := kv3) k (iv ((stM hr fr l k).getD 0)) (fun y hy => ⟨_, (W17.kept hy trivial).g, getD_iv3 _ _⟩) ?_
      refine ldAX [iv k.1, iv k.2.1, iv k.2.2] (.blk B30) rfl (.refl _ _) ?_
      refine lookG1 (kv := kv3) k (iv ((stM hr fr x k).getD 0)) (fun y hy => ⟨_, (W18.kept hy trivial).g, getD_iv3 _ _⟩) ?_
      refine cE (fun h => absurd h (hq2 (by omega))) (fun _ => ?_)
      refine ldA [iv k.1, iv k.2.1, iv k.2.2] (.blk B30) rfl ?_
      refine lookG1 (kv := kv3) k (iv ((stM hr to l k).getD 0)) (fun y hy => ⟨_, by subst hy; exact W19.g, getD_iv3 _ _⟩) ?_
      refine arI (n := q - (stM hr to l k).getD 0) (by omega) ?_
      refine arI (n := (ks.map fun k => (stM hr to x k).getD 0 - (stM hr to l k).getD 0).sum + (q - (stM hr to l k).getD 0)) (by omega) ?_
      refine next2 (seen ++ [e.born]) (ks ++ [k]) ⟨?_, trivial⟩ ⟨xv6, Iu4.kept x46' trivial, hMI.snoc EL.born hLu he hns hek⟩ hlt
      rw [List.map_append, List.sum_append]
      simp only [List.map_cons, List.map_nil, List.sum_cons, List.sum_nil, Int.add_zero]
      rw [hfk]
      rfl
    · refine ldA [iv k.1, iv k.2.1, iv k.2.2] (.blk B30) rfl ?_
      refine lookG1 (kv := kv3) k (iv ((stM hr to l k).getD 0)) (fun y hy => ⟨_, by subst hy; exact W19.g, getD_iv3 _ _⟩) ?_
      refine arI (n := q - (stM hr to l k).getD 0) (by omega) ?_
      refine arI (n := (ks.map fun k => (stM hr to x k).getD 0 - (stM hr to l k).getD 0).sum + (q - (stM hr to l k).getD 0)) (by omega) ?_
      refine next2 (seen ++ [e.born]) (ks ++ [k]) ⟨?_, trivial⟩ ⟨xv6, Iu4.kept x46' trivial, hMI.snoc EL.born hLu he hns hek⟩ hlt
      rw [List.map_append, List.sum_append]
      simp only [List.map_cons, List.map_nil, List.sum_cons, List.sum_nil, Int.add_zero]
      rw [hfk]
      rfl
  have hwon : (ks.map fun k => (stM hr to x k).getD 0 - (stM hr to l k).getD 0).sum = got := hS.f6 hMI.1 (hMI.all hL hLu hall)
  rw [hwon]
  clear hsum hkl hks hall hMI Iq3 I1 E1 hit hL hLu EL
  have xv3 : Ext v q3 := ((xu3.trans xp3).trans xr3).trans xq3
  have B7 := B7.ext xv3
  have B9 := B9.ext xv3
  have B10 := B10.ext xv3
  have slq := slv.ext xv3
  have sxq := sxv.ext xv3
  have hdq := hdv.ext xv3
  have x0q : Ext w q3 := (x06.trans xv).trans xv3
  refine cN (fun h => absurd rfl h) (fun _ => ?_)
  refine cN (fun h => absurd rfl h) (fun _ => ?_)
  refine fldA ?_
  refine ld (.slice A2 n2 c2) (B7.cell rfl) ?_
  refine eqNilJ (fun _ => ?_) (fun _ => ?_)
  · exact ret1 (.bool true) rfl ⟨rfl, x0q⟩
  refine fldA ?_
  refine ld (.slice A2 n2 c2) (B7.cell rfl) ?_
  refine len ?_
  refine ld (iv fr) (B9.cell rfl) ?_
  refine ld (iv to) (B10.cell rfl) ?_
  refine cD (fun _ => ?_) (fun hmx => ?_)
  · exact ret1 (.bool true) rfl ⟨rfl, x0q⟩
  refine fldA ?_
  refine ld (.slice A4 n4 c4) (B7.cell rfl) ?_
  refine len ?_
  refine cD (fun _ => ?_) (fun _ => ?_)
  · exact ret1 (.bool true) rfl ⟨rfl, x0q⟩
  refine ldA [.string d.name, iv d.hours, iv d.cap, iv d.start, .slice A1 n1 c1, .slice A2 n2 c2, .slice A3 n3 c3, .slice A4 n4 c4, .slice A5 n5 c5, .slice A6 n6 c6] (.blk B7) rfl ?_
  refine call_of (c_clCheck hdq slq) ?_
  rintro _ w8 ⟨rfl, x8⟩
  refine cN (fun _ => ?_) (fun hcl => ?_)
  · exact ret1 (.bool true) rfl ⟨rfl, x0q.trans x8⟩
  refine ldA [.string d.name, iv d.hours, iv d.cap, iv d.start, .slice A1 n1 c1, .slice A2 n2 c2, .slice A3 n3 c3, .slice A4 n4 c4, .slice A5 n5 c5, .slice A6 n6 c6] (.blk (B7.ext x8)) rfl ?_
  refine call_of (c_clCheck (hdq.ext x8) (sxq.ext x8)) ?_
  rintro _ w9 ⟨rfl, x9⟩
  obtain ⟨p1, p2, p3⟩ := clErr_ok.1 hcl
  have hxe : clErr d x = 0 := clErr_ok.2 ⟨p1, hm4, hS.valid p3 (by omega)⟩
  refine cE (fun _ => ?_) (fun h => absurd hxe h)
  exact ret1 (.bool true) rfl ⟨rfl, (x0q.trans x8).trans x9⟩
end
end Go.Proofs.Ytcpogcdadlcdaaa

/- Closing: what districts, awards and deals that are handed in read as. -/
namespace Go.Proofs.Ytcpogcdadlcdaaa
open Go Go.RowKit Go.ChangeShapes Go.WideShapes Go.ChangeAt

theorem rd_is : Rd Try.prog 39 (tSl tInt) := inferInstance
theorem rd_deal : Rd Try.prog 55 tDeal := by
  refine Rd.of (fun y : Int × Int × Int × Int × Int => (⟨y.1, y.2.1, y.2.2.1, y.2.2.2.1, y.2.2.2.2⟩ : DealR))
    (Rd.struct Try.underlying55 (by kernel_rfl) fun n => .cons (rdAt Try.prog 3 tInt n) rfl (.cons (rdAt Try.prog 3 tInt n) rfl (.cons (rdAt Try.prog 3 tInt n) rfl (.one (rd_range.h n) rfl)))) ?_
  rintro W cs ⟨a, b, c, d, e⟩ ⟨_, _, rfl, ⟨rfl, -⟩, _, _, rfl, ⟨rfl, -⟩, _, _, rfl, ⟨rfl, -⟩, _, _, rfl, ⟨rfl, -⟩, ⟨rfl, -⟩⟩
  rfl
instance : Rd Try.prog 55 tDeal := rd_deal
theorem rd_deals : Rd Try.prog 51 (tSl tDeal) := inferInstance
end Go.Proofs.Ytcpogcdadlcdaaa

/- Closing: what claims that are handed in read as. -/
namespace Go.Proofs.Ytcpogcdadlcdaaa
open Go Go.RowKit Go.ChangeShapes Go.WideShapes Go.ChangeAt

theorem rd_claim : Rd Try.prog 60 tCm := by
  refine Rd.of (fun y : Int × Int × Int × Int × Int => (⟨y.1, y.2.1, y.2.2.1, y.2.2.2.1, y.2.2.2.2⟩ : Cm))
    (Rd.struct Try.underlying60 (by kernel_rfl) fun n => .cons (rdAt Try.prog 3 tInt n) rfl (.cons (rdAt Try.prog 3 tInt n) rfl (.cons (rdAt Try.prog 3 tInt n) rfl (.cons (rdAt Try.prog 3 tInt n) rfl (.one (rdAt Try.prog 3 tInt n) rfl))))) ?_
  rintro W cs ⟨a, b, c, d, e⟩ ⟨_, _, rfl, ⟨rfl, -⟩, _, _, rfl, ⟨rfl, -⟩, _, _, rfl, ⟨rfl, -⟩, _, _, rfl, ⟨rfl, -⟩, ⟨rfl, -⟩⟩
  rfl
instance : Rd Try.prog 60 tCm := rd_claim
theorem rd_claims : Rd Try.prog 22 (tSl tCm) := inferInstance
end Go.Proofs.Ytcpogcdadlcdaaa
