/- Parts of the proof: Ej Ek El Em En Eo Ep Es. -/
import Derived.Test.YtffdjecdcbbfaaaM9
import Derived.Test.YtffdjecdcbbfaaaM2
import Derived.Test.YtffdjecdcbbfaaaM8

/- Layer 48: contract of Find. -/
namespace Go.Proofs.Ytffdjecdcbbfaaa
open Go Go.RowKit

def mkT (R F S : Nat) (T : Dst → Int) (A : Nat → Int) : Tru := ⟨(List.range R).map fun k => T (.head k), (List.range F).map fun k => T (.outlet k), (List.range R).map fun k => T (.tail k), (List.range R).map A, (List.range S).map fun k => T (.taken k)⟩
def folF (d : Dist) (x : Ev) (bl : Int × Int → Option Int) (v : Wv) : Nat → Rg := (followV d x bl v d.reaches.length fun _ => g0).getD fun _ => g0
def truV (d : Dist) (x : Ev) (bl : Int × Int → Option Int) (v : Wv) : Tru := mkT d.reaches.length d.farms.length x.suspects.length (fillT d x bl v (folF d x bl v) d.reaches.length) (fillA d x bl v (folF d x bl v))
/-- What Find answers where it finds something. -/
def findL (d : Dist) (x : Ev) (set : List Int) : List Tru := x.waves.map (truV d x (blF x set))
theorem fol_fok {d : Dist} {x : Ev} {bl : Int × Int → Option Int} {v : Wv} {f : Nat → Rg} (hw : WavOk d x bl v) (h : followV d x bl v d.reaches.length (fun _ => g0) = some f) : folF d x bl v = f ∧ ∀ r, r < d.reaches.length → FOK d x bl v f r := by
  refine ⟨by unfold folF; rw [h]; rfl, (follow_ok hw _ _ _ (Nat.le_refl _) h).2⟩
theorem sl_icells {D : Nat → Prop} {w : World} {b R : Nat} {f : Nat → Int} (hb : Blk w b 3 (icells R f)) (hD : D b) (hR : R ≤ 140737488355328) (hf : ∀ k, k < R → I64 (f k)) : SlR tInt D w (some (ad b 0)) R ((List.range R).map f) := by
  refine SlR.of_cells (cs := icells R f) (by simp) hR hD (.blk hb) ?_
  have e : icells R f = ((List.range R).map f).map (.int .i64) := by unfold icells; rw [List.map_map]; rfl
  rw [e]
  refine flat_ints fun y hy => ?_
  obtain ⟨k, hk, rfl⟩ := List.mem_map.1 hy
  exact hf k (List.mem_range.1 hk)
/-- What is filled are numbers. -/
theorem fits_i64 {d : Dist} {x : Ev} {bl : Int × Int → Option Int} {v : Wv} {T : Dst → Int} {A : Nat → Int} (hw : WavOk d x bl v) (h : FitsT d x bl v T A) :
    (∀ k, k < d.reaches.length → I64 (T (.head k))) ∧ (∀ k, k < d.farms.length → I64 (T (.outlet k))) ∧ (∀ k, k < d.reaches.length → I64 (T (.tail k))) ∧ (∀ k, k < d.reaches.length → I64 (A k)) ∧ ∀ k, k < x.suspects.length → I64 (T (.taken k)) := by
  have hh : ∀ k, k < d.reaches.length → 0 ≤ T (.head k) ∧ T (.head k) ≤ 1073741824 := fun k hk => by
    have h1 := rgOk_iff.1 (meter_ok hw.bl (kd := 1) (ix := k) (hw.heads k hk))
    have h2 := h.heads k hk
    omega
  refine ⟨fun k hk => ?_, fun k hk => ?_, fun k hk => ?_, fun k hk => ?_, fun k hk => ?_⟩
  · have := hh k hk; exact ⟨by omega, by omega⟩
  · have h1 := rgOk_iff.1 (meter_ok hw.bl (kd := 2) (ix := k) (hw.outlets k hk))
    have h2 := h.outlets k hk
    exact ⟨by omega, by omega⟩
  · have h1 := rgOk_iff.1 (meter_ok hw.bl (kd := 3) (ix := k) (hw.tails k hk))
    have h2 := h.tails k hk
    exact ⟨by omega, by omega⟩
  · have h1 := arr_le (hw.loss k hk) (hh k hk)
    have h2 := h.arr k hk
    have h3 := hh k hk
    exact ⟨by omega, by omega⟩
  · have h2 := h.taken k hk
    split at h2
    · cases hb : bl ((suE x k).kind, (suE x k).index) with
      | none => rw [hb] at h2; have h3 : T (.taken k) ≤ 0 := h2.2; exact ⟨by omega, by omega⟩
      | some n => rw [hb] at h2; have h3 : T (.taken k) ≤ n := h2.2; have := hw.bl _ _ hb; exact ⟨by omega, by omega⟩
    · exact ⟨by omega, by omega⟩
section
variable {w : World}
set_option maxRecDepth 8000 in
theorem c_Find {D : Nat → Prop} {csd csx : List Value} {d : Dist} {x : Ev} {set : List Int} {A : Option Addr} {n c : Nat} (hd : DiR D w csd d) (hx : EvR D w csx x) (hset : SlR tInt D w A n set) : CallZ Try.prog 10 #[.agg csd.toArray, .agg csx.toArray, .slice A n c] w
    (fun v w' => Ext w w' ∧ ∃ A' n' c', v = .tuple #[.slice A' n' c', .bool (explV d x set), iv (askErr d x set)] ∧ n' ≤ c' ∧ (explV d x set = true → SlR tTru (fun b => w.heap.size ≤ b) w' A' n' (findL d x set)) ∧ (explV d x set = false → n' = 0)) := by
  obtain ⟨A1, n1, c1, A2, n2, c2, A3, n3, c3, A4, n4, c4, A5, n5, c5, A6, n6, c6, rfl, -⟩ := hd.ex
  obtain ⟨W1, m1, e1, S1, m2, e2, rfl, hwv, -⟩ := hx.ex
  refine fn_rule (args := [.agg #[.string d.name, iv d.hours, iv d.cap, iv d.start, .slice A1 n1 c1, .slice A2 n2 c2, .slice A3 n3 c3, .slice A4 n4 c4, .slice A5 n5 c5, .slice A6 n6 c6], .agg #[.slice W1 m1 e1, .slice S1 m2 e2], .slice A n c]) Try.func10 (by kernel_rfl) ?_
  refine box (fun bd w1 i1 => ?_)
  refine box (fun bx w2 i2 => ?_)
  have x2 := i1.ext.trans i2.ext
  have Bd : Blk w2 bd 31 [.string d.name, iv d.hours, iv d.cap, iv d.start, .slice A1 n1 c1, .slice A2 n2 c2, .slice A3 n3 c3, .slice A4 n4 c4, .slice A5 n5 c5, .slice A6 n6 c6] := i1.blk.ext i2.ext
  have Bx : Blk w2 bx 35 [.slice W1 m1 e1, .slice S1 m2 e2] := i2.blk
  refine ldA _ (.blk Bd) rfl ?_
  refine ldA _ (.blk Bx) rfl ?_
  refine call_of (c_ask (hd.ext x2) (hx.ext x2) (hset.ext x2)) ?_
  rintro _ w3 ⟨x3, q, rfl, ⟨cs, rfl, hcl, hco⟩, hq⟩
  refine alloc (fun bq w4 h4 => ?_)
  refine stA (vs := cs) h4.blk hcl (by rw [hcl]; exact Nat.le_of_ble_eq_true rfl) hco (fun w5 b5 k5 s5 => ?_)
  have a4 := h4.at_
  have x35 : Ext w3 w5 := h4.ext.then k5 fun b hb _ => by omega
  have x05 := (x2.trans x3).trans x35
  refine cN (fun e0 => ?_) (fun e0 => ?_)
  · have ev : explV d x set = false := by unfold explV; rw [if_neg e0]
    exact ret3 (.slice none 0 0) (.bool false) (iv (askErr d x set)) rfl rfl rfl ⟨x05, none, 0, 0, by rw [ev], Nat.le_refl _, (fun h => by rw [ev] at h; cases h), fun _ => rfl⟩
  have e0 : askErr d x set = 0 := e0
  obtain ⟨g, hqe, hmap, hg⟩ := hq e0
  have hcs : cs = [.string d.name, iv d.hours, iv d.cap, iv d.start, .slice A1 n1 c1, .slice A2 n2 c2, .slice A3 n3 c3, .slice A4 n4 c4, .slice A5 n5 c5, .slice A6 n6 c6] ++ ([.slice W1 m1 e1, .slice S1 m2 e2] ++ [Value.map (some g)]) := by
    have := hqe; injection this with this; simpa using this
  subst hcs
  have b5 : Blk w5 bq 79 ([.string d.name, iv d.hours, iv d.cap, iv d.start, .slice A1 n1 c1, .slice A2 n2 c2, .slice A3 n3 c3, .slice A4 n4 c4, .slice A5 n5 c5, .slice A6 n6 c6] ++ ([.slice W1 m1 e1, .slice S1 m2 e2] ++ [Value.map (some g)])) := b5
  have inq : InqR D w5 bq g _ _ d x set := ⟨hd.ext x05, hx.ext x05, hmap.kept x35 trivial, b5⟩
  obtain ⟨⟨r1, r0⟩, r2, r3⟩ := ev_sizes (askErr_ok.1 e0).1
  refine fldA ?_
  refine ld (.slice W1 m1 e1) (((Bx.ext x3).ext x35).cell rfl) ?_
  refine len ?_
  have hle := hwv.le
  have hlen := hwv.len
  have hw24 := (evErr_ok (askErr_ok.1 e0).1).2.1
  refine loopD (fun (k : Nat) (s : Option Addr × Nat) => [(27, iv (k : Int)), (6, .slice s.1 k s.2)]) (fun k s ds u => k ≤ m1 ∧ Ext w5 u ∧ (x.waves.take k).all (flwB d x set) = true ∧ (∃ cs, OwnF w5 u s.1 k s.2 65 5 cs ∧ FlatR tTru (fun b => w5.heap.size ≤ b ∧ s.1 ≠ some (ad b 0)) u ((x.waves.take k).map (truV d x (blF x set))) cs) ∧ ds = []) (fun k _ _ => m1 - k) 0 (none, 0) ⟨rfl, rfl, trivial⟩
    ⟨by omega, .refl _ _, rfl, ⟨[], .nil (.refl _ _), rfl⟩, rfl⟩ ?_
  rintro G k ⟨LA, lc⟩ ds u ⟨hk, xu, hal, ⟨cl, own, hfl⟩, rfl⟩
  refine cD (fun hlt => ?_) (fun hge => ?_)
  · have hlt : k < m1 := by omega
    obtain ⟨b', o, cs, v, hA, hv, hdv, -, hc, hrep⟩ := (hwv.ext (x05.trans xu)).at_ hlt
    obtain ⟨H1, h1', k1, O1, o1, k2, T1, g1, k3, rfl, -⟩ := wv_open hrep
    subst hA
    have htk : x.waves.take (k + 1) = x.waves.take k ++ [v] := by rw [List.take_add_one, hv]; rfl
    have hm : v ∈ x.waves := List.mem_of_getElem? hv
    obtain ⟨hw, l1, l2, l3⟩ := wavOk_of e0 hm
    refine idx k rfl hlt ?_
    refine ldA _ hc rfl ?_
    refine alloc (fun q1 u1 j1 => ?_)
    refine stA (vs := [iv v.hour, .slice H1 h1' k1, .slice O1 o1 k2, .slice T1 g1 k3]) j1.blk rfl (Nat.le_of_ble_eq_true rfl) (by simp [Value.oneCell']) (fun u2 b2 k2' s2 => ?_)
    have a1 := j1.at_
    have x12 : Ext u u2 := j1.ext.then k2' fun b hb _ => by omega
    have b2 : Blk u2 q1 53 [iv v.hour, .slice H1 h1' k1, .slice O1 o1 k2, .slice T1 g1 k3] := b2
    have inq2 := inq.ext (xu.trans x12)
    refine ldA [.string d.name, iv d.hours, iv d.cap, iv d.start, .slice A1 n1 c1, .slice A2 n2 c2, .slice A3 n3 c3, .slice A4 n4 c4, .slice A5 n5 c5, .slice A6 n6 c6, .slice (some (ad b' o)) m1 e1, .slice S1 m2 e2, .map (some g)] (.blk inq2.blk) rfl ?_
    refine ldA [iv v.hour, .slice H1 h1' k1, .slice O1 o1 k2, .slice T1 g1 k3] (.blk b2) rfl ?_
    refine call_of (c_follow inq2.hd inq2.hx (tWv.keep (fun b hb _ => x12.blk b hb trivial) hrep) inq2.map hw r1 r2 r3 l1 l2 l3) ?_
    rintro _ u3 ⟨x23, bc, rfl, hfo⟩
    have x03 := (xu.trans x12).trans x23
    obtain ⟨fb, hfb⟩ : ∃ fb, fb = flwB d x set v := ⟨_, rfl⟩
    show _
    rw [show (followV d x (blF x set) v d.reaches.length fun _ => g0).isSome = fb from hfb.symm]
    cases fb with
    | false =>
      have ev : explV d x set = false := by
        unfold explV explB; rw [if_pos e0]
        cases ha : x.waves.all fun w => (followV d x (blF x set) w d.reaches.length fun _ => g0).isSome with
        | false => rfl
        | true => exact absurd (List.all_eq_true.1 ha v hm) (by rw [show (followV d x (blF x set) v d.reaches.length fun _ => g0).isSome = false from hfb.symm]; decide)
      exact ret3 (.slice none 0 0) (.bool false) (iv 0) rfl rfl rfl ⟨x05.trans x03, none, 0, 0, by rw [ev, e0], Nat.le_refl _, (fun h => by rw [ev] at h; cases h), fun _ => rfl⟩
    | true =>
      obtain ⟨f, hf'⟩ := Option.isSome_iff_exists.1 (show (followV d x (blF x set) v d.reaches.length fun _ => g0).isSome = true from hfb.symm)
      obtain ⟨bh, t1, t2, t3, t4, t5, hl, hN, hf⟩ := hfo f hf'
      obtain ⟨hfol, hfok⟩ := fol_fok hw hf'
      have hfok' := hfok
      rw [hf] at hfok'
      refine call_of (c_fill hN hw r1 r0 r2 r3 l2 l3 hfok') ?_
      rintro _ u4 ⟨rfl, k34, tb, b4⟩
      rw [← hf] at tb b4
      have crs4 := hN.crs.kept k34 fun b _ h => hN.n5 b h
      obtain ⟨-, -, nt1, nt2, nt3, nt4, nt5⟩ := hN.new
      have x24 : Ext u2 u4 := x23.then k34 fun b hb _ => ⟨by omega, by omega, by omega, by omega, by omega⟩
      have x14 := x12.trans x24
      obtain ⟨iT1, iT2, iT3, iT4, iT5⟩ := fits_i64 hw (filled hw r0 hfok)
      refine fldA ?_
      refine ldA [.slice (some (ad t1 0)) d.reaches.length d.reaches.length, .slice (some (ad t2 0)) d.farms.length d.farms.length, .slice (some (ad t3 0)) d.reaches.length d.reaches.length, .slice (some (ad t4 0)) d.reaches.length d.reaches.length, .slice (some (ad t5 0)) x.suspects.length x.suspects.length] (fun j y hy => crs4.blk.cell (i := 18 + j) (by rw [← List.getElem?_drop]; exact hy)) rfl ?_
      refine lit [.agg #[.slice (some (ad t1 0)) d.reaches.length d.reaches.length, .slice (some (ad t2 0)) d.farms.length d.farms.length, .slice (some (ad t3 0)) d.reaches.length d.reaches.length, .slice (some (ad t4 0)) d.reaches.length d.reaches.length, .slice (some (ad t5 0)) x.suspects.length x.suspects.length]] (fun gl u5 hq5 => ?_)
      have z12 := x12.size
      refine appF (own.then (x14.trans hq5.ext)) (hq5.src (sz := 5) rfl) (by omega) (fun A' c' u6 o6 k6 hA' => ?_)
      have x45 := hq5.ext
      have a5 := hq5.at_
      have z14 := x14.size
      have z24 := x24.size
      have x06 := o6.ext
      have own_lt : ∀ b, u.heap.size ≤ b → LA ≠ some (ad b 0) := by
        rintro b hb rfl
        rcases own.form with ⟨h, -⟩ | ⟨g', hg', -, hg2, -⟩
        · cases h
        · injection hg' with hg'; injection hg' with hg'; omega
      have key : ∀ b, w5.heap.size ≤ b → b < u5.heap.size → LA ≠ some (ad b 0) → w5.heap.size ≤ b ∧ A' ≠ some (ad b 0) := by
        intro b hb hb2 h
        refine ⟨hb, ?_⟩
        rcases hA' with rfl | rfl | rfl
        · exact h
        · intro e; cases e
        · intro e; injection e with e; injection e with e; omega
      have z5 := xu.size
      refine arI (by omega) ?_
      refine nextD (k + 1) (A', c') ⟨by rw [Int.natCast_add]; rfl, rfl, trivial⟩ ⟨by omega, x06, ?_, ⟨_, o6, ?_⟩, rfl⟩ (by omega)
      · rw [htk, List.all_append, hal]
        show (true && (flwB d x set v && true)) = true
        rw [← hfb]; rfl
      · rw [htk, List.map_append]
        refine FlatR.app ?_ ?_
        · have f1 := hfl.keep (w' := u5) fun b hb _ => (x14.trans x45).blk b hb trivial
          have f2 := f1.more (D' := fun b => (w5.heap.size ≤ b ∧ LA ≠ some (ad b 0)) ∧ (w5.heap.size ≤ b ∧ A' ≠ some (ad b 0))) fun b hb h => ⟨h, key b h.1 hb h.2⟩
          have f3 := f2.keep (w' := u6) fun b hb h => k6.blk b hb h.1.2
          exact f3.more fun b _ h => h.2
        · refine FlatR.one ?_
          have mk : ∀ {t R : Nat} {ff : Nat → Int}, Blk u4 t 3 (icells R ff) → u2.heap.size ≤ t → R ≤ 600 → (∀ k, k < R → I64 (ff k)) → SlR tInt (fun b => w5.heap.size ≤ b ∧ A' ≠ some (ad b 0)) u6 (some (ad t 0)) R ((List.range R).map ff) := by
            intro t R ff hb ht hR hi
            have lt4 := hb.lt
            have z45 := x45.size
            exact sl_icells ((hb.ext x45).kept k6 (own_lt t (by omega))) (key t (by omega) (by omega) (own_lt t (by omega))) (by omega) hi
          have e : truV d x (blF x set) v = mkT d.reaches.length d.farms.length x.suspects.length (fillT d x (blF x set) v f d.reaches.length) (fillA d x (blF x set) v f) := by unfold truV; rw [hfol]
          rw [e]
          show tTru.rep _ _ [.slice (some (ad t1 0)) d.reaches.length d.reaches.length, .slice (some (ad t2 0)) d.farms.length d.farms.length, .slice (some (ad t3 0)) d.reaches.length d.reaches.length, .slice (some (ad t4 0)) d.reaches.length d.reaches.length, .slice (some (ad t5 0)) x.suspects.length x.suspects.length] _
          exact ⟨_, _, rfl, ⟨_, _, _, rfl, mk tb.1 nt1 (by omega) iT1, Nat.le_refl _⟩, _, _, rfl, ⟨_, _, _, rfl, mk tb.2.1 nt2 (by omega) iT2, Nat.le_refl _⟩, _, _, rfl, ⟨_, _, _, rfl, mk tb.2.2.1 nt3 (by omega) iT3, Nat.le_refl _⟩, _, _, rfl, ⟨_, _, _, rfl, mk b4 nt4 (by omega) iT4, Nat.le_refl _⟩, _, _, _, rfl, mk tb.2.2.2 nt5 (by omega) iT5, Nat.le_refl _⟩
  · have hkm : k = m1 := by omega
    subst hkm
    rw [List.take_of_length_le (by omega)] at hal hfl
    have ev : explV d x set = true := by unfold explV explB; rw [if_pos e0]; exact hal
    refine ret3 (.slice LA k lc) (.bool true) (iv 0) rfl rfl rfl ⟨x05.trans xu, LA, k, lc, by rw [ev, e0], own.le, fun _ => ?_, (fun h => by rw [ev] at h; cases h)⟩
    have z05 := x05.size
    refine own.own.rd (a := tTru) (hfl.more fun b _ h => (by have := h.1; omega)) (by unfold findL; rw [List.length_map]; omega) hle ?_
    rintro g' rfl
    rcases own.form with ⟨h, -⟩ | ⟨g'', hg', hg1, -⟩
    · cases h
    · injection hg' with hg'; injection hg' with hg'; omega
end
end Go.Proofs.Ytffdjecdcbbfaaa

/- Layer 48: the laws' examples and their answers. -/
namespace Go.Proofs.Ytffdjecdcbbfaaa
open Go Go.RowKit

def sD48 : Dist := ⟨ByteArray.empty, 9, 0, 0, [⟨ByteArray.empty, -1, 1, 0, 0, 0, ⟨1, 2⟩, ⟨0, 1⟩, ⟨0, 1⟩⟩, ⟨ByteArray.empty, 0, 2, 0, 0, 0, ⟨0, 0⟩, ⟨0, 1⟩, ⟨0, 1⟩⟩], [⟨ByteArray.empty, 0, 0, -1⟩, ⟨ByteArray.empty, 1, 0, -1⟩], [], [], [], []⟩
def sX48 (a b : Int) : Ev := ⟨[⟨3, [⟨20, 20⟩, ⟨8, 8⟩], [⟨5, 5⟩, ⟨6, 6⟩], [⟨a, a⟩, ⟨b, b⟩]⟩], [⟨2, 1, 9⟩, ⟨4, 0, 3⟩, ⟨4, 1, 4⟩]⟩
def nD48 : Dist := ⟨ByteArray.empty, 0, 0, 0, [], [], [], [], [], []⟩
def nX48 : Ev := ⟨[], []⟩
theorem se1 : explV sD48 (sX48 5 2) [] = true := by kernel_rfl
theorem sf1 : askErr sD48 (sX48 5 2) [] = 0 := by kernel_rfl
theorem se2 : explV sD48 (sX48 5 1) [] = false := by kernel_rfl
theorem sf2 : askErr sD48 (sX48 5 1) [] = 0 := by kernel_rfl
theorem se3 : explV sD48 (sX48 5 1) [0] = true := by kernel_rfl
theorem sf3 : askErr sD48 (sX48 5 1) [0] = 0 := by kernel_rfl
theorem se4 : explV sD48 (sX48 5 1) [2] = true := by kernel_rfl
theorem sf4 : askErr sD48 (sX48 5 1) [2] = 0 := by kernel_rfl
theorem stb1 : tableV sD48 (sX48 5 1) = [false, true, false, true, true, true, true, true] := by kernel_rfl
theorem sg1 : evErr sD48 (sX48 5 1) = 0 := by kernel_rfl
theorem stb2 : tableV sD48 (sX48 3 1) = [false, false, false, true, false, false, true, true] := by kernel_rfl
theorem sg2 : evErr sD48 (sX48 3 1) = 0 := by kernel_rfl
theorem se5 : explV sD48 (sX48 3 1) [1, 2] = true := by kernel_rfl
theorem sf5 : askErr sD48 (sX48 3 1) [1, 2] = 0 := by kernel_rfl
theorem sa1 : accV sD48 (sX48 3 1) [1, 2] (findL sD48 (sX48 3 1) [1, 2]) = true := by kernel_rfl
theorem sa2 : accV sD48 (sX48 3 1) [2] (findL sD48 (sX48 3 1) [1, 2]) = false := by kernel_rfl
theorem sf6 : askErr sD48 (sX48 3 1) [2] = 0 := by kernel_rfl
theorem sf7 : askErr sD48 nX48 [0] = 480 := by kernel_rfl
theorem se8 : explV sD48 nX48 [] = true := by kernel_rfl
theorem sf8 : askErr sD48 nX48 [] = 0 := by kernel_rfl
theorem sg9 : evErr nD48 (sX48 3 1) = 191 := by kernel_rfl
end Go.Proofs.Ytffdjecdcbbfaaa

/- Layer 48: the laws' small functions: Few (some truth), SameTable, exact, district. -/
namespace Go.Proofs.Ytffdjecdcbbfaaa
open Go Go.RowKit

section
variable {D : Nat → Prop} {w : World}
theorem c_r48Few {csd csx : List Value} {d : Dist} {x : Ev} (hd : DiR D w csd d) (hx : EvR D w csx x) : CallZ Try.prog 7 #[.agg csd.toArray, .agg csx.toArray] w (fun v w' => ∃ b, v = .bool b ∧ Ext w w') := by
  obtain ⟨A1, n1, c1, A2, n2, c2, A3, n3, c3, A4, n4, c4, A5, n5, c5, A6, n6, c6, rfl, hr, hfa, -⟩ := hd.ex
  obtain ⟨W1, m1, e1, S1, m2, e2, rfl, hwv, -⟩ := hx.ex
  refine fn_rule (args := [.agg #[.string d.name, iv d.hours, iv d.cap, iv d.start, .slice A1 n1 c1, .slice A2 n2 c2, .slice A3 n3 c3, .slice A4 n4 c4, .slice A5 n5 c5, .slice A6 n6 c6], .agg #[.slice W1 m1 e1, .slice S1 m2 e2]]) Try.func7 (by kernel_rfl) ?_
  refine box (fun bd w1 h1 => ?_)
  refine box (fun bx w2 h2 => ?_)
  have x2 := h1.ext.trans h2.ext
  have Bd := h1.blk.ext h2.ext
  have Bx := h2.blk
  refine ldA _ (.blk Bd) rfl ?_
  refine callE (c_r19Few (hd.ext x2)) (fun w3 _ x3 => ?_) (fun w3 _ x3 => ?_)
  rotate_left
  · exact ret1 (.bool false) rfl ⟨false, rfl, x2.trans x3⟩
  have x23 := x2.trans x3
  have Bd3 := Bd.ext x3
  have Bx3 := Bx.ext x3
  have hwv3 := hwv.ext x23
  have no : ∃ b, Value.bool false = .bool b ∧ Ext w w3 := ⟨false, rfl, x23⟩
  have yes : ∃ b, Value.bool true = .bool b ∧ Ext w w3 := ⟨true, rfl, x23⟩
  all_goals
    refine fldA ?_
    refine ld (.slice A1 n1 c1) (Bd3.cell rfl) ?_
    refine len ?_
    refine cD (fun _ => ?_) (fun _ => ?_)
    refine fldA ?_
    refine ld (.slice A1 n1 c1) (Bd3.cell rfl) ?_
    refine len ?_
    refine cD (fun _ => ?_) (fun _ => ?_)
    exact ret1 (.bool false) rfl no
  all_goals
    refine fldA ?_
    refine ld (.slice A2 n2 c2) (Bd3.cell rfl) ?_
    refine len ?_
    refine cD (fun _ => ?_) (fun _ => ?_)
    refine fldA ?_
    refine ld (.slice A2 n2 c2) (Bd3.cell rfl) ?_
    refine len ?_
    refine cD (fun _ => ?_) (fun _ => ?_)
    exact ret1 (.bool false) rfl no
  all_goals
    refine fldA ?_
    refine ld (.slice W1 m1 e1) (Bx3.cell rfl) ?_
    refine len ?_
    refine cD (fun _ => ?_) (fun _ => ?_)
    refine fldA ?_
    refine ld (.slice W1 m1 e1) (Bx3.cell rfl) ?_
    refine len ?_
    refine cD (fun _ => ?_) (fun _ => ?_)
    exact ret1 (.bool false) rfl no
  all_goals
    refine fldA ?_
    refine ld (.slice W1 m1 e1) (Bx3.cell rfl) ?_
    refine len ?_
    refine cD (fun _ => ?_) (fun _ => ?_)
    exact ret1 (.bool false) rfl no
  all_goals
    refine fldA ?_
    refine ld (.slice S1 m2 e2) (Bx3.cell rfl) ?_
    refine len ?_
    refine cD (fun _ => ?_) (fun _ => ?_)
    refine fldA ?_
    refine ld (.slice S1 m2 e2) (Bx3.cell rfl) ?_
    refine len ?_
    refine cD (fun _ => ?_) (fun _ => ?_)
    exact ret1 (.bool false) rfl no
  all_goals
    refine fldA ?_
    refine ld (.slice S1 m2 e2) (Bx3.cell rfl) ?_
    refine len ?_
    refine cD (fun _ => ?_) (fun _ => ?_)
    exact ret1 (.bool false) rfl no
  all_goals
    refine loop_rule (fun k : Nat => [(6, iv (k : Int))]) (fun k u => k ≤ m1 ∧ u = w3) (fun k _ => m1 - k) 0 ⟨rfl, trivial⟩ ⟨by omega, rfl⟩ rfl ?_
    rintro G k u ⟨hk, rfl⟩
    refine fldA ?_
    refine ld (.slice W1 m1 e1) (Bx3.cell rfl) ?_
    refine len ?_
    refine cD (fun hlt => ?_) (fun hge => ?_)
    rotate_left
    exact ret1 (.bool true) rfl yes
    have hlt : k < m1 := by omega
    have hle := hwv3.le
    obtain ⟨b', o, cs, v, rfl, hv, -, -, hc, hrep⟩ := hwv3.at_ hlt
    obtain ⟨H1, h1', k1, O1, o1, k2, T1, g1, k3, rfl, -⟩ := wv_open hrep
    refine fldA ?_
    refine ld (.slice (some (ad b' o)) m1 e1) (Bx3.cell rfl) ?_
    refine idx k rfl hlt ?_
    refine fldA ?_
    refine ld (.slice H1 h1' k1) (hc 1 _ rfl) ?_
    refine len ?_
    refine cD (fun _ => ?_) (fun _ => ?_)
    exact ret1 (.bool false) rfl no
    refine fldA ?_
    refine ld (.slice (some (ad b' o)) m1 e1) (Bx3.cell rfl) ?_
    refine idx k rfl hlt ?_
    refine fldA ?_
    refine ld (.slice O1 o1 k2) (hc 2 _ rfl) ?_
    refine len ?_
    refine cD (fun _ => ?_) (fun _ => ?_)
    exact ret1 (.bool false) rfl no
    refine fldA ?_
    refine ld (.slice (some (ad b' o)) m1 e1) (Bx3.cell rfl) ?_
    refine idx k rfl hlt ?_
    refine fldA ?_
    refine ld (.slice T1 g1 k3) (hc 3 _ rfl) ?_
    refine len ?_
    refine cD (fun _ => ?_) (fun _ => ?_)
    exact ret1 (.bool false) rfl no
    refine arI (n := (k : Int) + 1) (by omega) ?_
    exact next (k + 1) ⟨rfl, trivial⟩ ⟨by omega, rfl⟩ (by omega)
end
/-- Two tables are the same. -/
theorem c_sameTable {w : World} {D : Nat → Prop} {l m : List Bool} {A B : Option Addr} {n c n' c' : Nat} (hl : SlR tBool D w A n l) (hm : SlR tBool D w B n' m) : CallZ Try.prog 18 #[.slice A n c, .slice B n' c'] w (fun v w' => v = .bool (decide (l = m)) ∧ w' = w) := by
  have l1 := hl.len
  have l2 := hm.len
  have e1 := hl.le
  refine fn_rule (args := [.slice A n c, .slice B n' c']) Try.func18 (by kernel_rfl) ?_
  refine len ?_
  refine len ?_
  refine cN (fun q => ?_) (fun q => ?_)
  · exact ret1 (.bool false) rfl ⟨by rw [decide_eq_false fun h => q (by subst h; omega)], rfl⟩
  have q : n = n' := by omega
  refine loop_rule (fun k : Nat => [(5, iv (k : Int))]) (fun k u => k ≤ n ∧ u = w ∧ ∀ i, i < k → l[i]? = m[i]?) (fun k _ => n - k) 0 ⟨rfl, trivial⟩ ⟨by omega, rfl, fun i hi => by omega⟩ rfl ?_
  rintro G k u ⟨hk, rfl, hs⟩
  refine len ?_
  refine cD (fun hlt => ?_) (fun hge => ?_)
  · have hlt : k < n := by omega
    obtain ⟨b, o, cs, a, rfl, ha, -, -, hc, rfl⟩ := hl.at_ hlt
    obtain ⟨b', o', cs', a', rfl, ha', -, -, hc', rfl⟩ := hm.at_ (k := k) (by omega)
    refine drawX [0, 1, 2, 3, 4, 5, 6, 7, 8] [] mx (by kernel_rfl) ?_
    refine idx k rfl hlt ?_
    refine ldX (.bool a) (hc 0 _ rfl) (.refl _ _) ?_
    refine idx k rfl (by omega) ?_
    refine ldX (.bool a') (hc' 0 _ rfl) (.refl _ _) ?_
    refine neB (fun g => ?_) (fun g => ?_)
    · refine ret1 (.bool false) rfl ⟨?_, rfl⟩
      rw [decide_eq_false]
      rintro rfl
      rw [ha] at ha'; injection ha' with ha'; exact g ha'
    · refine arI (by omega) ?_
      refine next (k + 1) ⟨by rw [Int.natCast_add]; rfl, trivial⟩ ⟨by omega, rfl, fun i hi => ?_⟩ (by omega)
      by_cases e : i = k
      · subst e; rw [ha, ha', g]
      · exact hs i (by omega)
  · refine ret1 (.bool true) rfl ⟨?_, rfl⟩
    rw [decide_eq_true]
    apply List.ext_getElem?
    intro i
    by_cases hi : i < n
    · exact hs i (by omega)
    · rw [List.getElem?_eq_none (by omega), List.getElem?_eq_none (by omega)]
theorem flat_fl {α : Type} {n : Nat} {c : α → List Value} {hl : ∀ x, (c x).length = n} {D : Nat → Prop} {w : World} : ∀ {xs : List α}, FlatR (tFl n c hl) D w xs (xs.flatMap c)
  | [] => rfl
  | x :: xs => ⟨c x, xs.flatMap c, rfl, rfl, flat_fl⟩
theorem c_exact {w : World} {D : Nat → Prop} {l : List Int} {A : Option Addr} {n c : Nat} (hl : SlR tInt D w A n l) (hn : n ≤ 1000) : CallZ Try.prog 17 #[.slice A n c] w (fun v w' => Ext w w' ∧ ∃ A' n' c', v = .slice A' n' c' ∧ n' ≤ c' ∧ SlR tRg (fun b => w.heap.size ≤ b) w' A' n' (l.map fun i => ⟨i, i⟩)) := by
  have l1 := hl.len
  refine fn_rule (args := [.slice A n c]) Try.func17 (by kernel_rfl) ?_
  refine len ?_
  refine loop_rule (fun s : Nat × Option Addr × Nat => [(7, iv (s.1 : Int)), (2, .slice s.2.1 s.1 s.2.2)]) (fun s u => s.1 ≤ n ∧ OwnF w u s.2.1 s.1 s.2.2 58 2 (((l.take s.1).map fun i => (⟨i, i⟩ : Rg)).flatMap Rg.c)) (fun s _ => n - s.1) (0, none, 0) ⟨rfl, rfl, trivial⟩ ⟨by omega, .nil (.refl _ _)⟩ rfl ?_
  rintro G ⟨k, B, cb⟩ u ⟨hk, own⟩
  refine cD (fun hlt => ?_) (fun hge => ?_)
  · have hlt : k < n := by omega
    obtain ⟨b, o, cs, a, rfl, ha, -, -, hc, rfl, -⟩ := (hl.ext own.ext).at_ hlt
    have htk : l.take (k + 1) = l.take k ++ [a] := by rw [List.take_add_one, ha]; rfl
    refine idx k rfl hlt ?_
    refine ld (iv a) (hc 0 _ rfl) ?_
    refine bld [iv a, iv a] (by kernel_rfl) ?_
    refine lit [.agg #[iv a, iv a]] (fun g u1 hq => ?_)
    refine appF (own.then hq.ext) (hq.src (sz := 2) rfl) (by omega) (fun A' c' u2 o2 _ _ => ?_)
    refine arI (by omega) ?_
    refine next (k + 1, A', c') ⟨by rw [Int.natCast_add]; rfl, rfl, trivial⟩ ⟨by omega, ?_⟩ (by simp only; omega)
    rw [htk, List.map_append, List.flatMap_append]
    exact o2
  · have hkn : k = n := by omega
    subst hkn
    rw [List.take_of_length_le (by omega)] at own
    refine ret1 (.slice B k cb) rfl ⟨own.ext, B, k, cb, rfl, own.le, ?_⟩
    refine own.own.rd (a := tRg) flat_fl (by rw [List.length_map]; omega) (by omega) ?_
    rintro g' rfl
    rcases own.form with ⟨h, -⟩ | ⟨g'', hg', hg1, -⟩
    · cases h
    · injection hg' with hg'; injection hg' with hg'; omega
set_option maxRecDepth 4000 in
theorem c_district {w : World} : CallZ Try.prog 16 #[] w (fun v w' => Ext w w' ∧ ∃ csd, v = .agg csd.toArray ∧ DiR (fun b => w.heap.size ≤ b) w' csd sD48) := by
  refine fn_rule (args := []) Try.func16 (by kernel_rfl) ?_
  refine alloc (fun q1 w1 h1 => ?_)
  refine bld [iv 0, iv 1] (by kernel_rfl) ?_
  refine bld [iv 0, iv 1] (by kernel_rfl) ?_
  refine bld [iv 0, iv 1, iv 0, iv 1] (by kernel_rfl) ?_
  refine alloc (fun q2 w2 h2 => ?_)
  refine stA (vs := [iv 0, iv 1, iv 0, iv 1]) h2.blk rfl (Nat.le_of_ble_eq_true rfl) (by simp [Value.oneCell']) (fun w3 b3 k3 s3 => ?_)
  have y1 := h1.at_
  have y2 := h2.at_
  have z1 := h1.size
  have z2 := h2.size
  have m3 : Blk w3 q2 _ [iv 0, iv 1, iv 0, iv 1] := b3
  refine bld [iv 1, iv 2] (by kernel_rfl) ?_
  refine ldA [iv 0, iv 1, iv 0, iv 1] (CellsAt.blk m3) rfl ?_
  refine bld [.string ByteArray.empty, iv (-1), iv 1, iv 0, iv 0, iv 0, iv 1, iv 2, iv 0, iv 1, iv 0, iv 1] (by kernel_rfl) ?_
  refine ldA [iv 0, iv 1, iv 0, iv 1] (CellsAt.blk m3) rfl ?_
  refine bld [.string ByteArray.empty, iv 0, iv 2, iv 0, iv 0, iv 0, iv 0, iv 0, iv 0, iv 1, iv 0, iv 1] (by kernel_rfl) ?_
  refine lit [.agg #[.string ByteArray.empty, iv (-1), iv 1, iv 0, iv 0, iv 0, iv 1, iv 2, iv 0, iv 1, iv 0, iv 1], .agg #[.string ByteArray.empty, iv 0, iv 2, iv 0, iv 0, iv 0, iv 0, iv 0, iv 0, iv 1, iv 0, iv 1]] (fun q4 w4 h4 => ?_)
  refine bld [.string ByteArray.empty, iv 0, iv 0, iv (-1)] (by kernel_rfl) ?_
  refine bld [.string ByteArray.empty, iv 1, iv 0, iv (-1)] (by kernel_rfl) ?_
  refine lit [.agg #[.string ByteArray.empty, iv 0, iv 0, iv (-1)], .agg #[.string ByteArray.empty, iv 1, iv 0, iv (-1)]] (fun q5 w5 h5 => ?_)
  refine bld [.string ByteArray.empty, iv 9, iv 0, iv 0, .slice (some (ad q4 0)) 2 2, .slice (some (ad q5 0)) 2 2, .slice none 0 0, .slice none 0 0, .slice none 0 0, .slice none 0 0] (by kernel_rfl) ?_
  have y4 := h4.at_
  have z4 := h4.size
  have y5 := h5.at_
  have z5 := h5.size
  have e15 : Kept (fun b => b ≠ q2) w1 w5 := (((Ext.any h2.ext).then k3 fun b _ h => h).then h4.ext fun _ _ _ => trivial).then h5.ext fun _ _ _ => trivial
  refine stA (vs := [.string ByteArray.empty, iv 9, iv 0, iv 0, .slice (some (ad q4 0)) 2 2, .slice (some (ad q5 0)) 2 2, .slice none 0 0, .slice none 0 0, .slice none 0 0, .slice none 0 0]) (h1.blk.kept e15 (by omega)) rfl (Nat.le_of_ble_eq_true rfl) (by simp [Value.oneCell']) (fun w6 b6 k6 s6 => ?_)
  have m1 : Blk w6 q1 _ [.string ByteArray.empty, iv 9, iv 0, iv 0, .slice (some (ad q4 0)) 2 2, .slice (some (ad q5 0)) 2 2, .slice none 0 0, .slice none 0 0, .slice none 0 0, .slice none 0 0] := b6
  refine ret ?_
  refine resL _ (holds_agg (CellsAt.blk m1) rfl) ?_
  refine ⟨(h1.ext.then e15 fun b hb _ => by omega).then k6 fun b hb _ => by omega, _, rfl, DiR.of_ ⟨_, _, _, _, _, _, _, _, _, _, _, _, _, _, _, _, _, _, rfl, ?_, ?_, SlR.nil, SlR.nil, SlR.nil, SlR.nil⟩⟩
  · exact SlR.of_cells rfl (by decide) (by omega) (.blk ((h4.blk.ext h5.ext).kept k6 (by omega))) ⟨_, _, rfl, rfl, _, _, rfl, rfl, rfl⟩
  · exact SlR.of_cells rfl (by decide) (by omega) (.blk (h5.blk.kept k6 (by omega))) ⟨_, _, rfl, rfl, _, _, rfl, rfl, rfl⟩
end Go.Proofs.Ytffdjecdcbbfaaa

/- Layer 48: the laws' sane answers true. -/
namespace Go.Proofs.Ytffdjecdcbbfaaa
open Go Go.RowKit

structure SaR (u : World) (csd : List Value) (b1 b3 wq sq : Nat) (H O T : Option Addr) (hn hc om oc tn tc : Nat) (x y : Int) : Prop where
  hd : DiR (fun b => b ≠ wq) u csd sD48
  bd : Blk u b1 31 csd
  bx : Blk u b3 35 [.slice (some (ad wq 0)) 1 1, .slice (some (ad sq 0)) 3 3]
  wv : Blk u wq 53 [iv 3, .slice H hn hc, .slice O om oc, .slice T tn tc]
  h1 : SlR tRg (fun b => b ≠ wq) u H hn [⟨20, 20⟩, ⟨8, 8⟩]
  h2 : SlR tRg (fun b => b ≠ wq) u O om [⟨5, 5⟩, ⟨6, 6⟩]
  h3 : SlR tRg (fun b => b ≠ wq) u T tn [⟨x, x⟩, ⟨y, y⟩]
  su : Blk u sq 74 [iv 2, iv 1, iv 9, iv 4, iv 0, iv 3, iv 4, iv 1, iv 4]
  n1 : b1 ≠ wq
  n3 : b3 ≠ wq
  ns : sq ≠ wq
  c1 : hn ≤ hc
  c2 : om ≤ oc
  c3 : tn ≤ tc
theorem smallJ {l : List Int} (h : (l.all fun x => decide (0 ≤ x) && decide (x ≤ 100)) = true) : ∀ x ∈ l, I64 x := fun x hx => by have := List.all_eq_true.1 h x hx; simp only [Bool.and_eq_true, decide_eq_true_eq] at this; unfold I64; constructor <;> omega
theorem SaR.ext {u u' : World} {csd : List Value} {b1 b3 wq sq : Nat} {H O T : Option Addr} {hn hc om oc tn tc : Nat} {x y : Int} (s : SaR u csd b1 b3 wq sq H O T hn hc om oc tn tc x y) (k : Ext u u') : SaR u' csd b1 b3 wq sq H O T hn hc om oc tn tc x y :=
  ⟨s.hd.ext k, s.bd.ext k, s.bx.ext k, s.wv.ext k, s.h1.ext k, s.h2.ext k, s.h3.ext k, s.su.ext k, s.n1, s.n3, s.ns, s.c1, s.c2, s.c3⟩
/-- The tails' list is put in its place. -/
theorem SaR.put {u u' : World} {csd : List Value} {b1 b3 wq sq : Nat} {H O T T' : Option Addr} {hn hc om oc tn tc tn' tc' : Nat} {x y x' y' : Int} (s : SaR u csd b1 b3 wq sq H O T hn hc om oc tn tc x y) (k : Kept (fun b => b ≠ wq) u u') (hw : Blk u' wq 53 [iv 3, .slice H hn hc, .slice O om oc, .slice T' tn' tc'])
    (ht : SlR tRg (fun b => b ≠ wq) u T' tn' [⟨x', x'⟩, ⟨y', y'⟩]) (hc3 : tn' ≤ tc') : SaR u' csd b1 b3 wq sq H O T' hn hc om oc tn' tc' x' y' :=
  ⟨s.hd.kept k fun _ _ h => h, s.bd.kept k s.n1, s.bx.kept k s.n3, hw, s.h1.kept k fun _ _ h => h, s.h2.kept k fun _ _ h => h, ht.kept k fun _ _ h => h, s.su.kept k s.ns, s.n1, s.n3, s.ns, s.c1, s.c2, hc3⟩
theorem SaR.ev {u : World} {csd : List Value} {b1 b3 wq sq : Nat} {H O T : Option Addr} {hn hc om oc tn tc : Nat} {x y : Int} (s : SaR u csd b1 b3 wq sq H O T hn hc om oc tn tc x y) : EvR (fun _ => True) u [.slice (some (ad wq 0)) 1 1, .slice (some (ad sq 0)) 3 3] (sX48 x y) := by
  refine EvR.of_ ⟨_, _, _, _, _, _, rfl, ?_, ?_, Nat.le_refl _, Nat.le_refl _⟩
  · exact SlR.of_cells rfl (by decide) trivial (.blk s.wv) ⟨[iv 3, .slice H hn hc, .slice O om oc, .slice T tn tc], [], rfl, ⟨[iv 3], _, rfl, ⟨rfl, show I64 3 from ⟨by decide, by decide⟩⟩, _, _, rfl, ⟨_, _, _, rfl, s.h1.more (by decide) fun _ _ _ => trivial, s.c1⟩, _, _, rfl, ⟨_, _, _, rfl, s.h2.more (by decide) fun _ _ _ => trivial, s.c2⟩, _, _, _, rfl, s.h3.more (by decide) fun _ _ _ => trivial, s.c3⟩, rfl⟩
  · exact SlR.of_cells rfl (by decide) trivial (.blk s.su) ⟨_, _, rfl, rfl, _, _, rfl, rfl, _, _, rfl, rfl, rfl⟩
theorem nD_R {w : World} : DiR (fun _ => True) w [.string ByteArray.empty, iv 0, iv 0, iv 0, .slice none 0 0, .slice none 0 0, .slice none 0 0, .slice none 0 0, .slice none 0 0, .slice none 0 0] nD48 := DiR.of_ ⟨_, _, _, _, _, _, _, _, _, _, _, _, _, _, _, _, _, _, rfl, .nil, .nil, .nil, .nil, .nil, .nil⟩
theorem nX_R {w : World} : EvR (fun _ => True) w [.slice none 0 0, .slice none 0 0] nX48 := EvR.of_ ⟨_, _, _, _, _, _, rfl, .nil, .nil, Nat.le_refl _, Nat.le_refl _⟩
theorem OwnF.bools {w0 w : World} {D : Nat → Prop} {A : Option Addr} {n c : Nat} {xs : List Bool} (h : OwnF w0 w A n c 4 1 (xs.map fun b => Value.bool b)) (hle : xs.length ≤ 140737488355328) (hD : ∀ b, w0.heap.size ≤ b → D b) : SlR tBool D w A n xs := by
  have hf : ∀ {ys : List Bool}, FlatR tBool D w ys (ys.map fun b => Value.bool b) := fun {ys} => by
    induction ys with
    | nil => rfl
    | cons y ys ih => exact ⟨[.bool y], _, rfl, rfl, ih⟩
  have hl := h.own.len
  rw [List.length_map, Nat.mul_one] at hl
  refine h.own.rd (a := tBool) hf hl.symm (by omega) ?_
  rintro g rfl
  rcases h.form with ⟨h, -⟩ | ⟨g'', hg', hg1, -⟩
  · cases h
  · injection hg' with hg'; injection hg' with hg'; exact hD _ (by omega)
theorem blk_bools {w : World} {b : Nat} {xs : List Bool} (h : Blk w b 4 (xs.map fun b => Value.bool b)) (hle : xs.length ≤ 140737488355328) : SlR tBool (fun _ => True) w (some (ad b 0)) xs.length xs := by
  have hf : ∀ {ys : List Bool}, FlatR tBool (fun _ => True) w ys (ys.map fun b => Value.bool b) := fun {ys} => by
    induction ys with
    | nil => rfl
    | cons y ys ih => exact ⟨[.bool y], _, rfl, rfl, ih⟩
  exact SlR.of_cells rfl hle trivial (.blk h) hf
section
variable {w : World}
set_option maxRecDepth 8000 in
theorem c_esane : CallZ Try.prog 6 #[] w (fun v w' => v = .bool true ∧ Ext w w') := by
  refine fn_rule (args := []) Try.func6 (by kernel_rfl) ?_
  refine call_of c_district ?_
  rintro _ w1 ⟨x1, csd, rfl, hd⟩
  obtain ⟨A1, n1, c1, A2, n2, c2, A3, n3, c3, A4, n4, c4, A5, n5, c5, A6, n6, c6, hcsd, -⟩ := hd.ex
  refine alloc (fun b1 w2 h2 => ?_)
  have a2 := h2.at_
  have hcl : csd.length = 10 := by rw [hcsd]; rfl
  refine stA (vs := csd) h2.blk hcl (by rw [hcl]; exact Nat.le_of_ble_eq_true rfl) (by rw [hcsd]; simp [Value.oneCell']) (fun w3 d3 k3 s3 => ?_)
  have x13 : Ext w1 w3 := h2.ext.then k3 fun b hb _ => by omega
  have d3 : Blk w3 b1 31 csd := by rw [hcsd] at d3 ⊢; exact d3
  have x03 := x1.trans x13
  refine lit [iv 20, iv 8] (fun g4 w4 h4 => ?_)
  refine call_of (c_exact (D := fun _ => True) (l := [20, 8]) (SlR.of_cells rfl (by decide) trivial (.blk h4.blk) (flat_ints (smallJ (by decide)))) (by decide)) ?_
  rintro _ w5 ⟨x5, H, hn, hc, rfl, leH, sH⟩
  have z4 := h4.size
  have z5 := x5.size
  refine lit [iv 5, iv 6] (fun g6 w6 h6 => ?_)
  refine call_of (c_exact (D := fun _ => True) (l := [5, 6]) (SlR.of_cells rfl (by decide) trivial (.blk h6.blk) (flat_ints (smallJ (by decide)))) (by decide)) ?_
  rintro _ w7 ⟨x7, O, om, oc, rfl, leO, sO⟩
  have z6 := h6.size
  have z7 := x7.size
  refine lit [iv 5, iv 2] (fun g8 w8 h8 => ?_)
  refine call_of (c_exact (D := fun _ => True) (l := [5, 2]) (SlR.of_cells rfl (by decide) trivial (.blk h8.blk) (flat_ints (smallJ (by decide)))) (by decide)) ?_
  rintro _ w9 ⟨x9, T, tn, tc, rfl, leT, sT⟩
  have z8 := h8.size
  have z9 := x9.size
  have z3 := s3
  have z2 := h2.size
  refine bld [iv 3, .slice H hn hc, .slice O om oc, .slice T tn tc] (by kernel_rfl) ?_
  refine alloc (fun q10 w10 h10 => ?_)
  have a10 := h10.at_
  refine stA (vs := [iv 3, .slice H hn hc, .slice O om oc, .slice T tn tc]) h10.blk rfl (Nat.le_of_ble_eq_true rfl) (by simp [Value.oneCell']) (fun w11 b11 k11 s11 => ?_)
  have b11 : Blk w11 q10 53 [iv 3, .slice H hn hc, .slice O om oc, .slice T tn tc] := b11
  have z10 := h10.size
  have x911 : Ext w9 w11 := h10.ext.then k11 fun b hb _ => by omega
  refine ldA [iv 3, .slice H hn hc, .slice O om oc, .slice T tn tc] (.blk b11) rfl ?_
  refine lit [.agg #[iv 3, .slice H hn hc, .slice O om oc, .slice T tn tc]] (fun wq w12 h12 => ?_)
  have a12 := h12.at_
  have z12 := h12.size
  refine bld [iv 2, iv 1, iv 9] (by kernel_rfl) ?_
  refine bld [iv 4, iv 0, iv 3] (by kernel_rfl) ?_
  refine bld [iv 4, iv 1, iv 4] (by kernel_rfl) ?_
  refine lit [.agg #[iv 2, iv 1, iv 9], .agg #[iv 4, iv 0, iv 3], .agg #[iv 4, iv 1, iv 4]] (fun sq w13 h13 => ?_)
  have a13 := h13.at_
  have z13 := h13.size
  refine bld [.slice (some (ad wq 0)) 1 1, .slice (some (ad sq 0)) 3 3] (by kernel_rfl) ?_
  refine alloc (fun b3 w14 h14 => ?_)
  have a14 := h14.at_
  have z14 := h14.size
  refine stA (vs := [.slice (some (ad wq 0)) 1 1, .slice (some (ad sq 0)) 3 3]) h14.blk rfl (Nat.le_of_ble_eq_true rfl) (by simp [Value.oneCell']) (fun w15 b15 k15 s15 => ?_)
  have b15 : Blk w15 b3 35 [.slice (some (ad wq 0)) 1 1, .slice (some (ad sq 0)) 3 3] := b15
  have x1415 : Kept (fun b => b < w14.heap.size ∧ b ≠ b3) w14 w15 := k15.weak fun b _ h => h.2
  have x1315 : Ext w13 w15 := h14.ext.then k15 fun b hb _ => by omega
  have x915 : Ext w9 w15 := ((x911.trans h12.ext).trans h13.ext).trans x1315
  have x515 : Ext w5 w15 := (((h6.ext.trans x7).trans h8.ext).trans x9).trans x915
  have x715 : Ext w7 w15 := (h8.ext.trans x9).trans x915
  have x315 : Ext w3 w15 := (h4.ext.trans x5).trans x515
  have x115 := x13.trans x315
  have x015 := x03.trans x315
  have le1 := x1.size
  have ld3 := d3.lt
  have s : SaR w15 csd b1 b3 wq sq H O T hn hc om oc tn tc 5 2 := by
    exact ⟨(hd.more fun b hb _ => by omega).ext x115, d3.ext x315, b15, (h12.blk.ext h13.ext).ext x1315, (sH.more (by decide) fun b hb _ => by omega).ext x515, (sO.more (by decide) fun b hb _ => by omega).ext x715, (sT.more (by decide) fun b hb _ => by omega).ext x915, h13.blk.ext x1315, by omega, by omega, by omega, leH, leO, leT⟩
  have X := x015
  have hwq : w.heap.size ≤ wq := by omega
  clear x015 x115 x315 x715 x515 x915 x1315 x1415 b15 sH sO sT hd d3 x13 x03

  subst hcsd
  refine ldA _ (.blk s.bd) rfl ?_
  refine ldA [.slice (some (ad wq 0)) 1 1, .slice (some (ad sq 0)) 3 3] (.blk s.bx) rfl ?_
  have cc := c_Explains (set := []) (c := 0) (s.hd.more (D' := fun _ => True) fun _ _ _ => trivial) s.ev (SlR.nil (a := tInt) (D := fun _ => True) (A := none))
  rw [se1, sf1] at cc
  refine call_of cc ?_
  clear cc
  rintro _ w16 ⟨rfl, y16⟩
  have s := s.ext y16
  have X := X.trans y16
  refine drawK (fun b => b ≠ wq) [0, 1, 2, 3, 4, 5, 6] [2, 3, 6] mx (by kernel_rfl) ?_
  have s0 := s
  refine fldA ?_
  refine ldK (.slice (some (ad wq 0)) 1 1) (s0.bx.cell rfl) s0.n3 (.refl _ _) ?_
  refine lit [iv 5, iv 1] (fun g17 w17 h17 => ?_)
  refine strK (Ext.any h17.ext) ?_
  have cc := c_exact (w := w17) (D := fun _ => True) (l := [5, 1]) (n := 2) (c := 2) (SlR.of_cells rfl (by decide) trivial (.blk h17.blk) (flat_ints (smallJ (by decide)))) (by decide)
  refine call_of cc ?_
  clear cc
  rintro _ v17 ⟨y17, T17, tn17, tc17, rfl, le17, sT17⟩
  refine strK (Ext.any y17) ?_
  have s1 := (s0.ext h17.ext).ext y17
  have lw := s0.wv.lt
  have z17 := h17.size
  refine idx 0 rfl (by decide) ?_
  refine fldA ?_
  refine st s1.wv (Nat.le_of_ble_eq_true rfl) rfl (fun u17 p17 k17 q17 => ?_)
  refine strK (k17.weak fun b _ h => h) ?_
  have s := s1.put k17 p17 (sT17.more (by decide) fun b hb h => by omega) le17
  have X := ((X.trans h17.ext).trans y17).then k17 fun b hb _ e => by omega
  clear s0 s1
  refine ldA _ (.blk s.bd) rfl ?_
  refine ldA [.slice (some (ad wq 0)) 1 1, .slice (some (ad sq 0)) 3 3] (.blk s.bx) rfl ?_
  have cc := c_Explains (set := []) (c := 0) (s.hd.more (D' := fun _ => True) fun _ _ _ => trivial) s.ev (SlR.nil (a := tInt) (D := fun _ => True) (A := none))
  rw [se2, sf2] at cc
  refine call_of cc ?_
  clear cc
  rintro _ w18 ⟨rfl, y18⟩
  have s := s.ext y18
  have X := X.trans y18
  refine ldA _ (.blk s.bd) rfl ?_
  refine ldA [.slice (some (ad wq 0)) 1 1, .slice (some (ad sq 0)) 3 3] (.blk s.bx) rfl ?_
  refine lit [iv 0] (fun g19 w19 h19 => ?_)
  have s := s.ext h19.ext
  have X := X.trans h19.ext
  have cc := c_Explains (set := [0]) (c := 1) (s.hd.more (D' := fun _ => True) fun _ _ _ => trivial) s.ev (SlR.of_cells (a := tInt) (D := fun _ => True) (xs := [0]) rfl (by decide) trivial (.blk h19.blk) (flat_ints (smallJ (by decide))))
  rw [se3, sf3] at cc
  refine call_of cc ?_
  clear cc
  rintro _ w20 ⟨rfl, y20⟩
  have s := s.ext y20
  have X := X.trans y20
  refine ldA _ (.blk s.bd) rfl ?_
  refine ldA [.slice (some (ad wq 0)) 1 1, .slice (some (ad sq 0)) 3 3] (.blk s.bx) rfl ?_
  refine lit [iv 2] (fun g21 w21 h21 => ?_)
  have s := s.ext h21.ext
  have X := X.trans h21.ext
  have cc := c_Explains (set := [2]) (c := 1) (s.hd.more (D' := fun _ => True) fun _ _ _ => trivial) s.ev (SlR.of_cells (a := tInt) (D := fun _ => True) (xs := [2]) rfl (by decide) trivial (.blk h21.blk) (flat_ints (smallJ (by decide))))
  rw [se4, sf4] at cc
  refine call_of cc ?_
  clear cc
  rintro _ w22 ⟨rfl, y22⟩
  have s := s.ext y22
  have X := X.trans y22
  refine ldA _ (.blk s.bd) rfl ?_
  refine ldA [.slice (some (ad wq 0)) 1 1, .slice (some (ad sq 0)) 3 3] (.blk s.bx) rfl ?_
  have cc := c_Table (s.hd.more (D' := fun _ => True) fun _ _ _ => trivial) s.ev
  rw [stb1, sg1] at cc
  refine call_of cc ?_
  clear cc
  rintro _ w23 ⟨B1, nb1, cb1, rfl, ob1⟩
  have y23 := ob1.ext
  have lw1 := s.wv.lt
  have s := s.ext y23
  have tb1 := ob1.bools (D := fun b => b ≠ wq) (by decide) fun b hb e => by omega
  have X := X.trans y23
  refine drawK (fun b => b ≠ wq) [0, 1, 2, 3, 4, 5, 6] [2, 3, 6] mx (by kernel_rfl) ?_
  have s0 := s
  refine fldA ?_
  refine ldK (.slice (some (ad wq 0)) 1 1) (s0.bx.cell rfl) s0.n3 (.refl _ _) ?_
  refine lit [iv 3, iv 1] (fun g24 w24 h24 => ?_)
  refine strK (Ext.any h24.ext) ?_
  have cc := c_exact (w := w24) (D := fun _ => True) (l := [3, 1]) (n := 2) (c := 2) (SlR.of_cells rfl (by decide) trivial (.blk h24.blk) (flat_ints (smallJ (by decide)))) (by decide)
  refine call_of cc ?_
  clear cc
  rintro _ v24 ⟨y24, T24, tn24, tc24, rfl, le24, sT24⟩
  refine strK (Ext.any y24) ?_
  have s1 := (s0.ext h24.ext).ext y24
  have lw := s0.wv.lt
  have z24 := h24.size
  refine idx 0 rfl (by decide) ?_
  refine fldA ?_
  refine st s1.wv (Nat.le_of_ble_eq_true rfl) rfl (fun u24 p24 k24 q24 => ?_)
  refine strK (k24.weak fun b _ h => h) ?_
  have s := s1.put k24 p24 (sT24.more (by decide) fun b hb h => by omega) le24
  have X := ((X.trans h24.ext).trans y24).then k24 fun b hb _ e => by omega
  clear s0 s1
  have tb1 := tb1.ext h24.ext
  have tb1 := tb1.ext y24
  have tb1 := tb1.kept k24 fun _ _ h => h
  refine ldA _ (.blk s.bd) rfl ?_
  refine ldA [.slice (some (ad wq 0)) 1 1, .slice (some (ad sq 0)) 3 3] (.blk s.bx) rfl ?_
  have cc := c_Table (s.hd.more (D' := fun _ => True) fun _ _ _ => trivial) s.ev
  rw [stb2, sg2] at cc
  refine call_of cc ?_
  clear cc
  rintro _ w25 ⟨B2, nb2, cb2, rfl, ob2⟩
  have y25 := ob2.ext
  have lw2 := s.wv.lt
  have s := s.ext y25
  have tb2 := ob2.bools (D := fun b => b ≠ wq) (by decide) fun b hb e => by omega
  have X := X.trans y25
  have tb1 := tb1.ext y25
  refine ldA _ (.blk s.bd) rfl ?_
  refine ldA [.slice (some (ad wq 0)) 1 1, .slice (some (ad sq 0)) 3 3] (.blk s.bx) rfl ?_
  refine lit [iv 1, iv 2] (fun g26 w26 h26 => ?_)
  have s := s.ext h26.ext
  have X := X.trans h26.ext
  have tb1 := tb1.ext h26.ext
  have tb2 := tb2.ext h26.ext
  have cc := c_Find (set := [1, 2]) (c := 2) (s.hd.more (D' := fun _ => True) fun _ _ _ => trivial) s.ev (SlR.of_cells (a := tInt) (D := fun _ => True) (xs := [1, 2]) rfl (by decide) trivial (.blk h26.blk) (flat_ints (smallJ (by decide))))
  rw [se5, sf5] at cc
  refine call_of cc ?_
  clear cc
  rintro _ w27 ⟨y27, FA, fn, fc, rfl, fle, fR, -⟩
  have s := s.ext y27
  have X := X.trans y27
  have tb1 := tb1.ext y27
  have tb2 := tb2.ext y27
  have fR := (fR rfl).more (D' := fun _ => True) (by decide) fun _ _ _ => trivial
  refine ldA _ (.blk s.bd) rfl ?_
  refine ldA [.slice (some (ad wq 0)) 1 1, .slice (some (ad sq 0)) 3 3] (.blk s.bx) rfl ?_
  refine lit [iv 1, iv 2] (fun g28 w28 h28 => ?_)
  have s := s.ext h28.ext
  have X := X.trans h28.ext
  have tb1 := tb1.ext h28.ext
  have tb2 := tb2.ext h28.ext
  have fR := fR.ext h28.ext

  have cc := c_Accepts (set := [1, 2]) (c := 2) (c' := fc) (s.hd.more (D' := fun _ => True) fun _ _ _ => trivial) s.ev (SlR.of_cells (a := tInt) (D := fun _ => True) (xs := [1, 2]) rfl (by decide) trivial (.blk h28.blk) (flat_ints (smallJ (by decide)))) fR
  rw [sa1, sf5] at cc
  refine call_of cc ?_
  clear cc
  rintro _ w29 ⟨rfl, y29⟩
  have s := s.ext y29
  have X := X.trans y29
  have tb1 := tb1.ext y29
  have tb2 := tb2.ext y29
  have fR := fR.ext y29
  refine ldA _ (.blk s.bd) rfl ?_
  refine ldA [.slice (some (ad wq 0)) 1 1, .slice (some (ad sq 0)) 3 3] (.blk s.bx) rfl ?_
  refine lit [iv 2] (fun g30 w30 h30 => ?_)
  have s := s.ext h30.ext
  have X := X.trans h30.ext
  have tb1 := tb1.ext h30.ext
  have tb2 := tb2.ext h30.ext
  have fR := fR.ext h30.ext
  have cc := c_Accepts (set := [2]) (c := 1) (c' := fc) (s.hd.more (D' := fun _ => True) fun _ _ _ => trivial) s.ev (SlR.of_cells (a := tInt) (D := fun _ => True) (xs := [2]) rfl (by decide) trivial (.blk h30.blk) (flat_ints (smallJ (by decide)))) fR
  rw [sa2, sf6] at cc
  refine call_of cc ?_
  clear cc
  rintro _ w31 ⟨rfl, y31⟩
  have s := s.ext y31
  have X := X.trans y31
  have tb1 := tb1.ext y31
  have tb2 := tb2.ext y31
  have fR := fR.ext y31
  refine ldA _ (.blk s.bd) rfl ?_
  refine bld [.slice none 0 0, .slice none 0 0] (by kernel_rfl) ?_
  refine lit [iv 0] (fun g32 w32 h32 => ?_)
  have s := s.ext h32.ext
  have X := X.trans h32.ext
  have tb1 := tb1.ext h32.ext
  have tb2 := tb2.ext h32.ext
  have fR := fR.ext h32.ext
  have cc := c_Explains (set := [0]) (c := 1) (s.hd.more (D' := fun _ => True) fun _ _ _ => trivial) nX_R (SlR.of_cells (a := tInt) (D := fun _ => True) (xs := [0]) rfl (by decide) trivial (.blk h32.blk) (flat_ints (smallJ (by decide))))
  rw [sf7] at cc
  refine call_of cc ?_
  clear cc
  rintro _ w33 ⟨rfl, y33⟩
  have s := s.ext y33
  have X := X.trans y33
  have tb1 := tb1.ext y33
  have tb2 := tb2.ext y33
  have fR := fR.ext y33
  refine ldA _ (.blk s.bd) rfl ?_
  refine bld [.slice none 0 0, .slice none 0 0] (by kernel_rfl) ?_
  have cc := c_Explains (set := []) (c := 0) (s.hd.more (D' := fun _ => True) fun _ _ _ => trivial) nX_R (SlR.nil (a := tInt) (D := fun _ => True) (A := none))
  rw [se8, sf8] at cc
  refine call_of cc ?_
  clear cc
  rintro _ w34 ⟨rfl, y34⟩
  have s := s.ext y34
  have X := X.trans y34
  have tb1 := tb1.ext y34
  have tb2 := tb2.ext y34
  have fR := fR.ext y34
  refine cN (fun h => absurd rfl h) (fun _ => ?_)
  refine cN (fun h => absurd rfl h) (fun _ => ?_)
  refine cN (fun h => absurd rfl h) (fun _ => ?_)
  refine cN (fun h => absurd rfl h) (fun _ => ?_)
  refine cN (fun h => absurd rfl h) (fun _ => ?_)
  refine cN (fun h => absurd rfl h) (fun _ => ?_)
  refine cN (fun h => absurd rfl h) (fun _ => ?_)
  refine cN (fun h => absurd rfl h) (fun _ => ?_)
  refine cN (fun h => absurd rfl h) (fun _ => ?_)
  refine cN (fun h => absurd rfl h) (fun _ => ?_)
  refine cN (fun h => absurd rfl h) (fun _ => ?_)
  refine bld [.string ByteArray.empty, iv 0, iv 0, iv 0, .slice none 0 0, .slice none 0 0, .slice none 0 0, .slice none 0 0, .slice none 0 0, .slice none 0 0] (by kernel_rfl) ?_
  refine ldA [.slice (some (ad wq 0)) 1 1, .slice (some (ad sq 0)) 3 3] (.blk s.bx) rfl ?_
  have cc := c_eCheck48 nD_R s.ev
  rw [sg9] at cc
  refine call_of cc ?_
  clear cc
  rintro _ w35 ⟨rfl, y35⟩
  have s := s.ext y35
  have X := X.trans y35
  have tb1 := tb1.ext y35
  have tb2 := tb2.ext y35
  have fR := fR.ext y35
  refine cN (fun h => absurd rfl h) (fun _ => ?_)
  refine ldA _ (.blk s.bd) rfl ?_
  refine ldA [.slice (some (ad wq 0)) 1 1, .slice (some (ad sq 0)) 3 3] (.blk s.bx) rfl ?_
  have cc := c_eCheck48 (s.hd.more (D' := fun _ => True) fun _ _ _ => trivial) s.ev
  rw [sg2] at cc
  refine call_of cc ?_
  clear cc
  rintro _ w36 ⟨rfl, y36⟩
  have s := s.ext y36
  have X := X.trans y36
  have tb1 := tb1.ext y36
  have tb2 := tb2.ext y36
  have fR := fR.ext y36
  refine cN (fun h => absurd rfl h) (fun _ => ?_)
  refine lit [.bool false, .bool true, .bool false, .bool true, .bool true, .bool true, .bool true, .bool true] (fun g37 w37 h37 => ?_)
  have s := s.ext h37.ext
  have X := X.trans h37.ext
  have tb1 := tb1.ext h37.ext
  have tb2 := tb2.ext h37.ext
  have fR := fR.ext h37.ext
  have bb37 : SlR tBool (fun _ => True) w37 (some (ad g37 0)) 8 [false, true, false, true, true, true, true, true] := blk_bools (xs := [false, true, false, true, true, true, true, true]) h37.blk (by decide)
  refine callB (c_sameTable (c := cb1) (c' := 8) (tb1.more (D' := fun _ => True) (by decide) fun _ _ _ => trivial) bb37) (fun e => ?_) (fun e => by cases e)
  refine lit [.bool false, .bool false, .bool false, .bool true, .bool false, .bool false, .bool true, .bool true] (fun g38 w38 h38 => ?_)
  have s := s.ext h38.ext
  have X := X.trans h38.ext
  have tb1 := tb1.ext h38.ext
  have tb2 := tb2.ext h38.ext
  have fR := fR.ext h38.ext
  have bb38 : SlR tBool (fun _ => True) w38 (some (ad g38 0)) 8 [false, false, false, true, false, false, true, true] := blk_bools (xs := [false, false, false, true, false, false, true, true]) h38.blk (by decide)
  refine callB (c_sameTable (c := cb2) (c' := 8) (tb2.more (D' := fun _ => True) (by decide) fun _ _ _ => trivial) bb38) (fun e => ?_) (fun e => by cases e)
  exact ret1 (.bool true) rfl ⟨rfl, X⟩
end
end Go.Proofs.Ytffdjecdcbbfaaa

/- Layer 48, plainly: what is accepted is explained, what is found is accepted; sets as numbers. -/
namespace Go.Proofs.Ytffdjecdcbbfaaa
open Go Go.RowKit

def tT (t : Tru) : Dst → Int
  | .tail r => t.tails.getD r 0
  | .head k => t.heads.getD k 0
  | .outlet k => t.outlets.getD k 0
  | .taken i => t.taken.getD i 0
section
variable {d : Dist} {x : Ev} {bl : Int × Int → Option Int} {v : Wv} {t : Tru} {T : Dst → Int} {A : Nat → Int} {set : List Int}
theorem sumT_split (r : Nat) {f : Nat → Rg} : sumT T (partsL d x bl v f r) = T (.tail r) + (sumF (qH d r) (fun k => T (.head k)) d.reaches.length + (sumF (qO d r) (fun k => T (.outlet k)) d.farms.length + sumF (qP x r) (fun i => T (.taken i)) x.suspects.length)) := by
  unfold sumT partsL tailP headP outP pumpP sumF qH qO qP
  simp only [List.map_append, List.sum_append, List.map_map, List.map_cons, List.map_nil, List.sum_cons, List.sum_nil]
  rw [Int.add_zero]
  rfl
theorem fitsL_T (hw : WavOk d x bl v) (l1 : v.heads.length = d.reaches.length) (l2 : v.outlets.length = d.farms.length) (l3 : v.tails.length = d.reaches.length) (h : FitsL d x bl v t) : FitsT d x bl v (tT t) (fun r => t.arrived.getD r 0) := by
  obtain ⟨e1, i1⟩ := inB_iff.1 h.i1
  obtain ⟨e2, i2⟩ := inB_iff.1 h.i2
  obtain ⟨e3, i3⟩ := inB_iff.1 h.i3
  refine ⟨fun r hr => i1 r (by omega), fun k hk => i2 k (by omega), fun r hr => i3 r (by omega), fun i hi => h.tk i hi, fun r hr => ?_⟩
  obtain ⟨a1, a2, a3⟩ := h.ar r hr
  have hh := i1 r (by omega)
  have hm := rgOk_iff.1 (meter_ok hw.bl (kd := 1) (ix := r) (hw.heads r hr))
  have e : lErr (rcE d r) (t.heads.getD r 0) = 0 := lErr_ok.2 ⟨hw.loss r hr, by omega, by omega⟩
  have ew : worstV (rcE d r) (t.heads.getD r 0) = arrW (rcE d r) (t.heads.getD r 0) := by unfold worstV; rw [if_pos e]; rfl
  have eb : bestV (rcE d r) (t.heads.getD r 0) = arrB (rcE d r) (t.heads.getD r 0) := by unfold bestV; rw [if_pos e]; rfl
  rw [ew] at a2
  rw [eb] at a3
  show t.arrived.getD r 0 = _ ∧ arrW (rcE d r) (t.heads.getD r 0) ≤ t.arrived.getD r 0 ∧ t.arrived.getD r 0 ≤ arrB (rcE d r) (t.heads.getD r 0)
  refine ⟨?_, by omega, by omega⟩
  rw [sumT_split, a1]
  unfold out3 out2 out1 tT
  show _ = t.tails.getD r 0 + (sumF (qH d r) (fun k => t.heads.getD k 0) d.reaches.length + (sumF (qO d r) (fun k => t.outlets.getD k 0) d.farms.length + sumF (qP x r) (fun i => t.taken.getD i 0) x.suspects.length))
  omega
theorem getD_map {R : Nat} {f : Nat → Int} {k : Nat} (h : k < R) : ((List.range R).map f).getD k 0 = f k := by
  rw [List.getD_eq_getElem?_getD, List.getElem?_map, List.getElem?_range h]; rfl
theorem sumF_congr {q : Nat → Bool} {f g : Nat → Int} {k : Nat} (h : ∀ i, i < k → f i = g i) : sumF q f k = sumF q g k := by
  unfold sumF
  congr 1
  exact List.map_congr_left fun i hi => h i (List.mem_range.1 (List.mem_filter.1 hi).1)
theorem fitsT_L (hw : WavOk d x bl v) (l1 : v.heads.length = d.reaches.length) (l2 : v.outlets.length = d.farms.length) (l3 : v.tails.length = d.reaches.length) (h : FitsT d x bl v T A) : FitsL d x bl v (mkT d.reaches.length d.farms.length x.suspects.length T A) := by
  refine ⟨inB_iff.2 ⟨by simp [mkT, l1], fun i hi => ?_⟩, inB_iff.2 ⟨by simp [mkT, l2], fun i hi => ?_⟩, inB_iff.2 ⟨by simp [mkT, l3], fun i hi => ?_⟩, by simp [mkT], by simp [mkT], fun i hi => ?_, fun r hr => ?_⟩
  · have hi : i < d.reaches.length := by simpa [mkT] using hi
    unfold mkT; simp only; rw [getD_map hi]; exact h.heads i hi
  · have hi : i < d.farms.length := by simpa [mkT] using hi
    unfold mkT; simp only; rw [getD_map hi]; exact h.outlets i hi
  · have hi : i < d.reaches.length := by simpa [mkT] using hi
    unfold mkT; simp only; rw [getD_map hi]; exact h.tails i hi
  · unfold mkT; simp only; rw [getD_map hi]; exact h.taken i hi
  · have hh := h.heads r hr
    have hm := rgOk_iff.1 (meter_ok hw.bl (kd := 1) (ix := r) (hw.heads r hr))
    have e : lErr (rcE d r) (T (.head r)) = 0 := lErr_ok.2 ⟨hw.loss r hr, by omega, by omega⟩
    have ew : worstV (rcE d r) (T (.head r)) = arrW (rcE d r) (T (.head r)) := by unfold worstV; rw [if_pos e]; rfl
    have eb : bestV (rcE d r) (T (.head r)) = arrB (rcE d r) (T (.head r)) := by unfold bestV; rw [if_pos e]; rfl
    obtain ⟨a1, a2, a3⟩ := h.arr r hr
    rw [sumT_split] at a1
    have eo : out3 d x (mkT d.reaches.length d.farms.length x.suspects.length T A) d.farms.length r = A r := by
      unfold out3 out2 out1 mkT
      simp only
      rw [getD_map hr, sumF_congr (q := qP x r) (g := fun i => T (.taken i)) fun i hi => getD_map hi, sumF_congr (q := qH d r) (g := fun i => T (.head i)) fun i hi => getD_map hi, sumF_congr (q := qO d r) (g := fun i => T (.outlet i)) fun i hi => getD_map hi]
      omega
    rw [eo]
    unfold mkT; simp only; rw [getD_map hr, getD_map hr, ew, eb]
    exact ⟨rfl, a2, a3⟩
/-- What is accepted is explained. -/
theorem acc_expl {l : List Tru} (h : accV d x set l = true) : explV d x set = true := by
  unfold accV at h
  by_cases e : askErr d x set = 0
  · rw [if_pos e] at h
    unfold explV; rw [if_pos e]
    unfold allB at h
    rw [Bool.and_eq_true, decide_eq_true_eq] at h
    unfold explB
    rw [List.all_eq_true]
    intro v hv
    obtain ⟨k, hk, rfl⟩ := List.getElem_of_mem hv
    have hz := List.all_eq_true.1 h.2 (x.waves[k], l[k]'(by omega)) (List.mem_iff_getElem.2 ⟨k, by rw [List.length_zip]; omega, by rw [List.getElem_zip]⟩)
    obtain ⟨hw, l1, l2, l3⟩ := wavOk_of e hv
    exact fits_follow hw (fitsL_T hw l1 l2 l3 (fitsB_iff.1 hz)) _ _ (Nat.le_refl _) fun k h1 h2 => by omega
  · rw [if_neg e] at h; cases h
theorem find_acc (he : askErr d x set = 0) (h : explV d x set = true) : accV d x set (findL d x set) = true := by
  unfold accV allB findL; rw [if_pos he, Bool.and_eq_true, decide_eq_true_eq, List.length_map]
  refine ⟨rfl, List.all_eq_true.2 fun p hp => ?_⟩
  rw [List.zip_map_right, List.mem_map] at hp
  obtain ⟨⟨v, v'⟩, hv, rfl⟩ := hp
  have hvv : v = v' ∧ v ∈ x.waves := by
    obtain ⟨k, hk, e⟩ := List.getElem_of_mem hv
    rw [List.getElem_zip] at e
    injection e with e1 e2
    exact ⟨by rw [← e1, ← e2], by rw [← e1]; exact List.getElem_mem _⟩
  obtain ⟨rfl, hm⟩ := hvv
  obtain ⟨hw, l1, l2, l3⟩ := wavOk_of he hm
  unfold explV at h
  rw [if_pos he] at h
  obtain ⟨f, hf⟩ := Option.isSome_iff_exists.1 (List.all_eq_true.1 h v hm)
  obtain ⟨hfol, hfok⟩ := fol_fok hw hf
  obtain ⟨⟨r1, r0⟩, -⟩ := ev_sizes (askErr_ok.1 he).1
  have := fitsT_L hw l1 l2 l3 (filled hw r0 hfok)
  show fitsB d x (blF x set) v (truV d x (blF x set) v) = true
  unfold truV
  rw [hfol]
  exact fitsB_iff.2 this
theorem sorted_ext : ∀ {l m : List Int}, l.Pairwise (· < ·) → m.Pairwise (· < ·) → (∀ x, x ∈ l ↔ x ∈ m) → l = m
  | [], [], _, _, _ => rfl
  | [], b :: m, _, _, h => absurd ((h b).2 List.mem_cons_self) (by simp)
  | a :: l, [], _, _, h => absurd ((h a).1 List.mem_cons_self) (by simp)
  | a :: l, b :: m, hl, hm, h => by
    rw [List.pairwise_cons] at hl hm
    have e : a = b := by
      have h1 := (h a).1 List.mem_cons_self
      have h2 := (h b).2 List.mem_cons_self
      rcases List.mem_cons.1 h1 with h1 | h1
      · exact h1
      rcases List.mem_cons.1 h2 with h2 | h2
      · exact h2.symm
      have := hl.1 _ h2
      have := hm.1 _ h1
      omega
    subst e
    rw [sorted_ext hl.2 hm.2 fun y => ?_]
    constructor
    · intro hy
      rcases List.mem_cons.1 ((h y).1 (List.mem_cons_of_mem _ hy)) with e | e
      · subst e; have := hl.1 _ hy; omega
      · exact e
    · intro hy
      rcases List.mem_cons.1 ((h y).2 (List.mem_cons_of_mem _ hy)) with e | e
      · subst e; have := hm.1 _ hy; omega
      · exact e
theorem setB_ok {n : Nat} : ∀ {l : List Int} {last : Int}, setB n last l = true → l.Pairwise (· < ·) ∧ ∀ i ∈ l, last < i ∧ i < n
  | [], _, _ => ⟨.nil, fun i hi => by simp at hi⟩
  | i :: r, last, h => by
    unfold setB at h
    simp only [Bool.and_eq_true, decide_eq_true_eq] at h
    obtain ⟨h1, h2, h3⟩ := h
    obtain ⟨h4, h5⟩ := setB_ok h3
    refine ⟨List.pairwise_cons.2 ⟨fun j hj => (h5 j hj).1, h4⟩, fun j hj => ?_⟩
    rcases List.mem_cons.1 hj with rfl | hj
    · exact ⟨h1, h2⟩
    · have := h5 j hj; omega
def orL (l : List Int) : Nat := l.foldl (fun m i => m ||| 2 ^ i.toNat) 0
theorem orL_snoc (l : List Int) (i : Int) : orL (l ++ [i]) = orL l ||| 2 ^ i.toNat := by unfold orL; rw [List.foldl_append]; rfl
theorem orL_bit {j : Nat} : ∀ {l : List Int}, (∀ i ∈ l, 0 ≤ i) → ((orL l).testBit j = true ↔ (j : Int) ∈ l) := by
  have key : ∀ (l : List Int) (m : Nat), (∀ i ∈ l, 0 ≤ i) → ((l.foldl (fun m i => m ||| 2 ^ i.toNat) m).testBit j = true ↔ m.testBit j = true ∨ (j : Int) ∈ l) := by
    intro l
    induction l with
    | nil => intro m _; simp
    | cons i l ih =>
      intro m h
      rw [List.foldl_cons, ih _ fun k hk => h k (List.mem_cons_of_mem _ hk), Nat.testBit_or, Bool.or_eq_true, Nat.testBit_two_pow, decide_eq_true_eq, List.mem_cons]
      have := h i List.mem_cons_self
      have e : (i.toNat = j) ↔ (j : Int) = i := by omega
      rw [e, or_assoc]
  intro l h
  rw [show orL l = l.foldl (fun m i => m ||| 2 ^ i.toNat) 0 from rfl, key l 0 h]; simp
theorem orL_lt {S : Nat} {l : List Int} (h : ∀ i ∈ l, 0 ≤ i ∧ i < S) : orL l < 2 ^ S := by
  apply Nat.lt_pow_two_of_testBit
  intro j hj
  cases hb : (orL l).testBit j with
  | false => rfl
  | true =>
    have := (orL_bit fun i hi => (h i hi).1).1 hb
    have := h _ this
    omega
theorem members_or {S : Nat} {l : List Int} (h : setB S (-1) l = true) : membersL (orL l) S = l := by
  obtain ⟨h1, h2⟩ := setB_ok h
  refine sorted_ext ?_ h1 fun y => ?_
  · unfold membersL
    refine List.Pairwise.map _ (R := (· < ·)) (fun a b hab => by omega) ?_
    exact List.Pairwise.filter _ List.pairwise_lt_range
  · unfold membersL
    rw [List.mem_map]
    constructor
    · rintro ⟨k, hk, rfl⟩
      exact (orL_bit fun i hi => by have := h2 i hi; omega).1 (List.mem_filter.1 hk).2
    · intro hy
      have := h2 y hy
      refine ⟨y.toNat, List.mem_filter.2 ⟨List.mem_range.2 (by omega), ?_⟩, by omega⟩
      exact (orL_bit fun i hi => by have := h2 i hi; omega).2 (by rw [show ((y.toNat : Nat) : Int) = y by omega]; exact hy)
theorem table_or (he : askErr d x set = 0) : (tableV d x)[orL set]? = some (explV d x set) ∧ (tableV d x).length = 2 ^ x.suspects.length ∧ orL set < 2 ^ x.suspects.length := by
  obtain ⟨h0, hs⟩ := askErr_ok.1 he
  have hlt := orL_lt (fun i hi => by have := (setB_ok hs).2 i hi; omega : ∀ i ∈ set, 0 ≤ i ∧ i < x.suspects.length)
  unfold tableV tableL
  rw [if_pos h0]
  refine ⟨?_, by simp, hlt⟩
  rw [List.getElem?_map, List.getElem?_range hlt]
  show some (explV d x (membersL (orL set) x.suspects.length)) = _
  rw [members_or hs]
end
end Go.Proofs.Ytffdjecdcbbfaaa

/- Layer 48: the law EvidenceExact. -/
namespace Go.Proofs.Ytffdjecdcbbfaaa
open Go Go.RowKit

section
variable {D : Nat → Prop} {w : World}
theorem callSE {f : FuncId} [h : Enters Try.prog f] {args : Array Value} {K : VK} {X : XK} (c : CallZ Try.prog f args w (fun v w' => ∃ b, v = .bool b ∧ Ext w w')) (k1 : ∀ w', Ext w w' → K (.bool true) w') (k2 : ∀ w', Ext w w' → K (.bool false) w') : CallP Try.prog f args K X w := by
  refine call_of c ?_
  rintro _ w' ⟨b, rfl, x⟩
  cases b
  · exact k2 w' x
  · exact k1 w' x
set_option maxRecDepth 8000 in
theorem c_EvidenceExact {csd csx : List Value} {d : Dist} {x : Ev} {set : List Int} {l : List Tru} {AS AL : Option Addr} {nS cS nL cL : Nat} (hd : DiR D w csd d) (hx : EvR D w csx x) (hset : SlR tInt D w AS nS set) (hl : SlR tTru D w AL nL l) : CallZ Try.prog 3 #[.agg csd.toArray, .agg csx.toArray, .slice AS nS cS, .slice AL nL cL] w
    (fun v w' => v = .bool true ∧ Ext w w') := by
  have hd := hd.more (D' := fun _ => True) fun _ _ _ => trivial
  have hx := hx.more (D' := fun _ => True) fun _ _ _ => trivial
  have hset := hset.more (D' := fun _ => True) (by decide) fun _ _ _ => trivial
  have hl := hl.more (D' := fun _ => True) (by decide) fun _ _ _ => trivial
  obtain ⟨A1, n1, c1, A2, n2, c2, A3, n3, c3, A4, n4, c4, A5, n5, c5, A6, n6, c6, rfl, -⟩ := hd.ex
  obtain ⟨W1, m1, e1, S1, m2, e2, rfl, hwv, -⟩ := hx.ex
  refine fn_rule (args := [.agg #[.string d.name, iv d.hours, iv d.cap, iv d.start, .slice A1 n1 c1, .slice A2 n2 c2, .slice A3 n3 c3, .slice A4 n4 c4, .slice A5 n5 c5, .slice A6 n6 c6], .agg #[.slice W1 m1 e1, .slice S1 m2 e2], .slice AS nS cS, .slice AL nL cL]) Try.func3 (by kernel_rfl) ?_
  refine box (fun bd w1 i1 => ?_)
  refine box (fun bx w2 i2 => ?_)
  have x2 := i1.ext.trans i2.ext
  have Bd : Blk w2 bd 31 [.string d.name, iv d.hours, iv d.cap, iv d.start, .slice A1 n1 c1, .slice A2 n2 c2, .slice A3 n3 c3, .slice A4 n4 c4, .slice A5 n5 c5, .slice A6 n6 c6] := i1.blk.ext i2.ext
  have Bx : Blk w2 bx 35 [.slice W1 m1 e1, .slice S1 m2 e2] := i2.blk
  refine call_of c_esane ?_
  rintro _ w3 ⟨rfl, x3⟩
  refine ldA [.string d.name, iv d.hours, iv d.cap, iv d.start, .slice A1 n1 c1, .slice A2 n2 c2, .slice A3 n3 c3, .slice A4 n4 c4, .slice A5 n5 c5, .slice A6 n6 c6] (.blk (Bd.ext x3)) rfl ?_
  refine ldA [.slice W1 m1 e1, .slice S1 m2 e2] (.blk (Bx.ext x3)) rfl ?_
  refine callSE (c_r48Few ((hd.ext x2).ext x3) ((hx.ext x2).ext x3)) (fun w4 x4 => ?_) (fun w4 x4 => ?_)
  rotate_left
  · exact ret1 (.bool true) rfl ⟨rfl, x2.trans (x3.trans x4)⟩
  have z4 := x3.trans x4
  refine len ?_
  refine cD (fun _ => ?_) (fun _ => ?_)
  · exact ret1 (.bool true) rfl ⟨rfl, x2.trans z4⟩
  obtain ⟨b1, hb1⟩ : ∃ b, b = explV d x set := ⟨_, rfl⟩
  obtain ⟨b2, hb2⟩ : ∃ b, b = accV d x set l := ⟨_, rfl⟩
  cases b1 with
  | true =>
    cases b2 with
    | true =>
      refine ldA [.string d.name, iv d.hours, iv d.cap, iv d.start, .slice A1 n1 c1, .slice A2 n2 c2, .slice A3 n3 c3, .slice A4 n4 c4, .slice A5 n5 c5, .slice A6 n6 c6] (.blk (Bd.ext z4)) rfl ?_
      refine ldA [.slice W1 m1 e1, .slice S1 m2 e2] (.blk (Bx.ext z4)) rfl ?_
      have cc := c_Explains ((hd.ext x2).ext z4) ((hx.ext x2).ext z4) (c := cS) ((hset.ext x2).ext z4)
      rw [← hb1] at cc
      refine call_of cc ?_
      clear cc
      rintro _ w5 ⟨rfl, x5⟩
      have z5 := z4.trans x5
      refine ldA [.string d.name, iv d.hours, iv d.cap, iv d.start, .slice A1 n1 c1, .slice A2 n2 c2, .slice A3 n3 c3, .slice A4 n4 c4, .slice A5 n5 c5, .slice A6 n6 c6] (.blk (Bd.ext z5)) rfl ?_
      refine ldA [.slice W1 m1 e1, .slice S1 m2 e2] (.blk (Bx.ext z5)) rfl ?_
      have cc := c_Accepts ((hd.ext x2).ext z5) ((hx.ext x2).ext z5) (c := cS) (c' := cL) ((hset.ext x2).ext z5) ((hl.ext x2).ext z5)
      rw [← hb2] at cc
      refine call_of cc ?_
      clear cc
      rintro _ w6 ⟨rfl, x6⟩
      have z6 := z5.trans x6
      refine cN (fun h => absurd rfl h) (fun _ => ?_)
      have e0 : askErr d x set = 0 := by
        by_cases h : askErr d x set = 0
        · exact h
        · exfalso; unfold explV at hb1; rw [if_neg h] at hb1; cases hb1
      refine cN (fun h => absurd e0 h) (fun _ => ?_)
      have hsb : ∀ i ∈ set, 0 ≤ i ∧ i < (x.suspects.length : Int) := fun i hi => by have := (setB_ok (askErr_ok.1 e0).2).2 i hi; omega
      have hs12 := (evErr_ok (askErr_ok.1 e0).1).2.2.1
      obtain ⟨tg, tl, tb⟩ := table_or e0
      refine ldA [.string d.name, iv d.hours, iv d.cap, iv d.start, .slice A1 n1 c1, .slice A2 n2 c2, .slice A3 n3 c3, .slice A4 n4 c4, .slice A5 n5 c5, .slice A6 n6 c6] (.blk (Bd.ext z6)) rfl ?_
      refine ldA [.slice W1 m1 e1, .slice S1 m2 e2] (.blk (Bx.ext z6)) rfl ?_
      have cc := c_Find ((hd.ext x2).ext z6) ((hx.ext x2).ext z6) (c := cS) ((hset.ext x2).ext z6)
      rw [← hb1] at cc
      refine call_of cc ?_
      clear cc
      rintro _ w7 ⟨x7, FA, fn, fc, rfl, fle, fR, -⟩
      have z7 := z6.trans x7
      refine cN (fun h => absurd e0 h) (fun _ => ?_)
      refine neB (fun h => absurd rfl h) (fun _ => ?_)
      have fR := (fR rfl).more (D' := fun _ => True) (by decide) fun _ _ _ => trivial
      refine ldA [.string d.name, iv d.hours, iv d.cap, iv d.start, .slice A1 n1 c1, .slice A2 n2 c2, .slice A3 n3 c3, .slice A4 n4 c4, .slice A5 n5 c5, .slice A6 n6 c6] (.blk (Bd.ext z7)) rfl ?_
      refine ldA [.slice W1 m1 e1, .slice S1 m2 e2] (.blk (Bx.ext z7)) rfl ?_
      have cc := c_Accepts ((hd.ext x2).ext z7) ((hx.ext x2).ext z7) (c := cS) (c' := fc) ((hset.ext x2).ext z7) fR
      rw [find_acc e0 hb1.symm] at cc
      refine call_of cc ?_
      clear cc
      rintro _ w8 ⟨rfl, x8⟩
      have z8 := z7.trans x8
      refine cN (fun h => absurd e0 h) (fun _ => ?_)
      refine ldA [.string d.name, iv d.hours, iv d.cap, iv d.start, .slice A1 n1 c1, .slice A2 n2 c2, .slice A3 n3 c3, .slice A4 n4 c4, .slice A5 n5 c5, .slice A6 n6 c6] (.blk (Bd.ext z8)) rfl ?_
      refine ldA [.slice W1 m1 e1, .slice S1 m2 e2] (.blk (Bx.ext z8)) rfl ?_
      refine call_of (c_Table ((hd.ext x2).ext z8) ((hx.ext x2).ext z8)) ?_
      rintro _ w9 ⟨TA, tn, tc, rfl, oT⟩
      have z9 := z8.trans oT.ext
      have hset9 := ((hset.ext x2).ext z9)
      have hle := hset9.le
      have hln := hset9.len
      have bT := oT.bools (D := fun _ => True) (by rw [tl]; exact Nat.le_trans (Nat.pow_le_pow_right (by decide) hs12) (by decide)) fun _ _ => trivial
      refine len ?_
      refine loop_rule (fun s : Nat × Nat => [(105, iv (s.1 : Int)), (20, iv (s.2 : Int))]) (fun s u => s.1 ≤ nS ∧ u = w9 ∧ s.2 = orL (set.take s.1)) (fun s _ => nS - s.1) (0, 0) ⟨rfl, rfl, trivial⟩ ⟨by omega, rfl, by rfl⟩ rfl ?_
      rintro G ⟨k, m⟩ u ⟨hk, rfl, hm⟩
      refine cD (fun hlt => ?_) (fun hge => ?_)
      · have hlt : k < nS := by omega
        obtain ⟨b, o, cs, a, rfl, ha, -, -, hc, rfl, -⟩ := hset9.at_ hlt
        have htk : set.take (k + 1) = set.take k ++ [a] := by rw [List.take_add_one, ha]; rfl
        have hab := hsb a (List.mem_of_getElem? ha)
        have hm' : m < 2 ^ x.suspects.length := by rw [show m = orL (set.take k) from hm]; exact orL_lt fun i hi => hsb i (List.mem_of_mem_take hi)
        have hp : 2 ^ x.suspects.length ≤ 2 ^ 12 := Nat.pow_le_pow_right (by decide) hs12
        have hm'' : m < 4096 := by omega
        refine idx k rfl hlt ?_
        refine ld (iv a) (hc 0 _ rfl) ?_
        refine shl1 (fun q hq hql => ?_) (by omega)
        refine orV (fun q' hq' => ?_)
        refine arI (by omega) ?_
        refine next (k + 1, q') ⟨by rw [Int.natCast_add]; rfl, rfl, trivial⟩ ⟨by omega, rfl, ?_⟩ (by simp only; omega)
        show q' = orL (set.take (k + 1))
        rw [htk, orL_snoc, hq', hq, ← hm]
      · have hkn : k = nS := by omega
        subst hkn
        rw [List.take_of_length_le (by omega)] at hm
        have hm : m = orL set := hm
        have tnl : tn = 2 ^ x.suspects.length := by rw [← tl]; exact bT.len.symm
        refine cE (fun _ => ?_) (fun h => absurd (askErr_ok.1 e0).1 h)
        refine len ?_
        refine cD (fun _ => ?_) (fun h => by omega)
        obtain ⟨b, o, cs, y, rfl, hy, -, -, hc, rfl⟩ := bT.at_ (k := m) (by omega)
        rw [hm, tg, ← hb1] at hy
        injection hy with hy
        subst hy
        refine idx m rfl (by omega) ?_
        refine ld (.bool true) (hc 0 _ rfl) ?_
        refine eqB (fun _ => ?_) (fun h => absurd rfl h)
        exact ret1 (.bool true) rfl ⟨rfl, x2.trans z9⟩
    | false =>
      refine ldA [.string d.name, iv d.hours, iv d.cap, iv d.start, .slice A1 n1 c1, .slice A2 n2 c2, .slice A3 n3 c3, .slice A4 n4 c4, .slice A5 n5 c5, .slice A6 n6 c6] (.blk (Bd.ext z4)) rfl ?_
      refine ldA [.slice W1 m1 e1, .slice S1 m2 e2] (.blk (Bx.ext z4)) rfl ?_
      have cc := c_Explains ((hd.ext x2).ext z4) ((hx.ext x2).ext z4) (c := cS) ((hset.ext x2).ext z4)
      rw [← hb1] at cc
      refine call_of cc ?_
      clear cc
      rintro _ w5 ⟨rfl, x5⟩
      have z5 := z4.trans x5
      refine ldA [.string d.name, iv d.hours, iv d.cap, iv d.start, .slice A1 n1 c1, .slice A2 n2 c2, .slice A3 n3 c3, .slice A4 n4 c4, .slice A5 n5 c5, .slice A6 n6 c6] (.blk (Bd.ext z5)) rfl ?_
      refine ldA [.slice W1 m1 e1, .slice S1 m2 e2] (.blk (Bx.ext z5)) rfl ?_
      have cc := c_Accepts ((hd.ext x2).ext z5) ((hx.ext x2).ext z5) (c := cS) (c' := cL) ((hset.ext x2).ext z5) ((hl.ext x2).ext z5)
      rw [← hb2] at cc
      refine call_of cc ?_
      clear cc
      rintro _ w6 ⟨rfl, x6⟩
      have z6 := z5.trans x6
      refine cN (fun h => absurd rfl h) (fun _ => ?_)
      have e0 : askErr d x set = 0 := by
        by_cases h : askErr d x set = 0
        · exact h
        · exfalso; unfold explV at hb1; rw [if_neg h] at hb1; cases hb1
      refine cN (fun h => absurd e0 h) (fun _ => ?_)
      have hsb : ∀ i ∈ set, 0 ≤ i ∧ i < (x.suspects.length : Int) := fun i hi => by have := (setB_ok (askErr_ok.1 e0).2).2 i hi; omega
      have hs12 := (evErr_ok (askErr_ok.1 e0).1).2.2.1
      obtain ⟨tg, tl, tb⟩ := table_or e0
      refine ldA [.string d.name, iv d.hours, iv d.cap, iv d.start, .slice A1 n1 c1, .slice A2 n2 c2, .slice A3 n3 c3, .slice A4 n4 c4, .slice A5 n5 c5, .slice A6 n6 c6] (.blk (Bd.ext z6)) rfl ?_
      refine ldA [.slice W1 m1 e1, .slice S1 m2 e2] (.blk (Bx.ext z6)) rfl ?_
      have cc := c_Find ((hd.ext x2).ext z6) ((hx.ext x2).ext z6) (c := cS) ((hset.ext x2).ext z6)
      rw [← hb1] at cc
      refine call_of cc ?_
      clear cc
      rintro _ w7 ⟨x7, FA, fn, fc, rfl, fle, fR, -⟩
      have z7 := z6.trans x7
      refine cN (fun h => absurd e0 h) (fun _ => ?_)
      refine neB (fun h => absurd rfl h) (fun _ => ?_)
      have fR := (fR rfl).more (D' := fun _ => True) (by decide) fun _ _ _ => trivial
      refine ldA [.string d.name, iv d.hours, iv d.cap, iv d.start, .slice A1 n1 c1, .slice A2 n2 c2, .slice A3 n3 c3, .slice A4 n4 c4, .slice A5 n5 c5, .slice A6 n6 c6] (.blk (Bd.ext z7)) rfl ?_
      refine ldA [.slice W1 m1 e1, .slice S1 m2 e2] (.blk (Bx.ext z7)) rfl ?_
      have cc := c_Accepts ((hd.ext x2).ext z7) ((hx.ext x2).ext z7) (c := cS) (c' := fc) ((hset.ext x2).ext z7) fR
      rw [find_acc e0 hb1.symm] at cc
      refine call_of cc ?_
      clear cc
      rintro _ w8 ⟨rfl, x8⟩
      have z8 := z7.trans x8
      refine cN (fun h => absurd e0 h) (fun _ => ?_)
      refine ldA [.string d.name, iv d.hours, iv d.cap, iv d.start, .slice A1 n1 c1, .slice A2 n2 c2, .slice A3 n3 c3, .slice A4 n4 c4, .slice A5 n5 c5, .slice A6 n6 c6] (.blk (Bd.ext z8)) rfl ?_
      refine ldA [.slice W1 m1 e1, .slice S1 m2 e2] (.blk (Bx.ext z8)) rfl ?_
      refine call_of (c_Table ((hd.ext x2).ext z8) ((hx.ext x2).ext z8)) ?_
      rintro _ w9 ⟨TA, tn, tc, rfl, oT⟩
      have z9 := z8.trans oT.ext
      have hset9 := ((hset.ext x2).ext z9)
      have hle := hset9.le
      have hln := hset9.len
      have bT := oT.bools (D := fun _ => True) (by rw [tl]; exact Nat.le_trans (Nat.pow_le_pow_right (by decide) hs12) (by decide)) fun _ _ => trivial
      refine len ?_
      refine loop_rule (fun s : Nat × Nat => [(105, iv (s.1 : Int)), (20, iv (s.2 : Int))]) (fun s u => s.1 ≤ nS ∧ u = w9 ∧ s.2 = orL (set.take s.1)) (fun s _ => nS - s.1) (0, 0) ⟨rfl, rfl, trivial⟩ ⟨by omega, rfl, by rfl⟩ rfl ?_
      rintro G ⟨k, m⟩ u ⟨hk, rfl, hm⟩
      refine cD (fun hlt => ?_) (fun hge => ?_)
      · have hlt : k < nS := by omega
        obtain ⟨b, o, cs, a, rfl, ha, -, -, hc, rfl, -⟩ := hset9.at_ hlt
        have htk : set.take (k + 1) = set.take k ++ [a] := by rw [List.take_add_one, ha]; rfl
        have hab := hsb a (List.mem_of_getElem? ha)
        have hm' : m < 2 ^ x.suspects.length := by rw [show m = orL (set.take k) from hm]; exact orL_lt fun i hi => hsb i (List.mem_of_mem_take hi)
        have hp : 2 ^ x.suspects.length ≤ 2 ^ 12 := Nat.pow_le_pow_right (by decide) hs12
        have hm'' : m < 4096 := by omega
        refine idx k rfl hlt ?_
        refine ld (iv a) (hc 0 _ rfl) ?_
        refine shl1 (fun q hq hql => ?_) (by omega)
        refine orV (fun q' hq' => ?_)
        refine arI (by omega) ?_
        refine next (k + 1, q') ⟨by rw [Int.natCast_add]; rfl, rfl, trivial⟩ ⟨by omega, rfl, ?_⟩ (by simp only; omega)
        show q' = orL (set.take (k + 1))
        rw [htk, orL_snoc, hq', hq, ← hm]
      · have hkn : k = nS := by omega
        subst hkn
        rw [List.take_of_length_le (by omega)] at hm
        have hm : m = orL set := hm
        have tnl : tn = 2 ^ x.suspects.length := by rw [← tl]; exact bT.len.symm
        refine cE (fun _ => ?_) (fun h => absurd (askErr_ok.1 e0).1 h)
        refine len ?_
        refine cD (fun _ => ?_) (fun h => by omega)
        obtain ⟨b, o, cs, y, rfl, hy, -, -, hc, rfl⟩ := bT.at_ (k := m) (by omega)
        rw [hm, tg, ← hb1] at hy
        injection hy with hy
        subst hy
        refine idx m rfl (by omega) ?_
        refine ld (.bool true) (hc 0 _ rfl) ?_
        refine eqB (fun _ => ?_) (fun h => absurd rfl h)
        exact ret1 (.bool true) rfl ⟨rfl, x2.trans z9⟩
  | false =>
    cases b2 with
    | true => rw [acc_expl hb2.symm] at hb1; cases hb1
    | false =>
      refine ldA [.string d.name, iv d.hours, iv d.cap, iv d.start, .slice A1 n1 c1, .slice A2 n2 c2, .slice A3 n3 c3, .slice A4 n4 c4, .slice A5 n5 c5, .slice A6 n6 c6] (.blk (Bd.ext z4)) rfl ?_
      refine ldA [.slice W1 m1 e1, .slice S1 m2 e2] (.blk (Bx.ext z4)) rfl ?_
      have cc := c_Explains ((hd.ext x2).ext z4) ((hx.ext x2).ext z4) (c := cS) ((hset.ext x2).ext z4)
      rw [← hb1] at cc
      refine call_of cc ?_
      clear cc
      rintro _ w5 ⟨rfl, x5⟩
      have z5 := z4.trans x5
      refine ldA [.string d.name, iv d.hours, iv d.cap, iv d.start, .slice A1 n1 c1, .slice A2 n2 c2, .slice A3 n3 c3, .slice A4 n4 c4, .slice A5 n5 c5, .slice A6 n6 c6] (.blk (Bd.ext z5)) rfl ?_
      refine ldA [.slice W1 m1 e1, .slice S1 m2 e2] (.blk (Bx.ext z5)) rfl ?_
      have cc := c_Accepts ((hd.ext x2).ext z5) ((hx.ext x2).ext z5) (c := cS) (c' := cL) ((hset.ext x2).ext z5) ((hl.ext x2).ext z5)
      rw [← hb2] at cc
      refine call_of cc ?_
      clear cc
      rintro _ w6 ⟨rfl, x6⟩
      have z6 := z5.trans x6
      refine cN (fun h => absurd rfl h) (fun _ => ?_)
      refine cN (fun _ => ?_) (fun e0 => ?_)
      · exact ret1 (.bool true) rfl ⟨rfl, x2.trans z6⟩
      have e0 : askErr d x set = 0 := e0
      have hsb : ∀ i ∈ set, 0 ≤ i ∧ i < (x.suspects.length : Int) := fun i hi => by have := (setB_ok (askErr_ok.1 e0).2).2 i hi; omega
      have hs12 := (evErr_ok (askErr_ok.1 e0).1).2.2.1
      obtain ⟨tg, tl, tb⟩ := table_or e0
      refine ldA [.string d.name, iv d.hours, iv d.cap, iv d.start, .slice A1 n1 c1, .slice A2 n2 c2, .slice A3 n3 c3, .slice A4 n4 c4, .slice A5 n5 c5, .slice A6 n6 c6] (.blk (Bd.ext z6)) rfl ?_
      refine ldA [.slice W1 m1 e1, .slice S1 m2 e2] (.blk (Bx.ext z6)) rfl ?_
      have cc := c_Find ((hd.ext x2).ext z6) ((hx.ext x2).ext z6) (c := cS) ((hset.ext x2).ext z6)
      rw [← hb1] at cc
      refine call_of cc ?_
      clear cc
      rintro _ w7 ⟨x7, FA, fn, fc, rfl, fle, fR, -⟩
      have z7 := z6.trans x7
      refine cN (fun h => absurd e0 h) (fun _ => ?_)
      refine neB (fun h => absurd rfl h) (fun _ => ?_)
      have z8 := z7
      refine ldA [.string d.name, iv d.hours, iv d.cap, iv d.start, .slice A1 n1 c1, .slice A2 n2 c2, .slice A3 n3 c3, .slice A4 n4 c4, .slice A5 n5 c5, .slice A6 n6 c6] (.blk (Bd.ext z8)) rfl ?_
      refine ldA [.slice W1 m1 e1, .slice S1 m2 e2] (.blk (Bx.ext z8)) rfl ?_
      refine call_of (c_Table ((hd.ext x2).ext z8) ((hx.ext x2).ext z8)) ?_
      rintro _ w9 ⟨TA, tn, tc, rfl, oT⟩
      have z9 := z8.trans oT.ext
      have hset9 := ((hset.ext x2).ext z9)
      have hle := hset9.le
      have hln := hset9.len
      have bT := oT.bools (D := fun _ => True) (by rw [tl]; exact Nat.le_trans (Nat.pow_le_pow_right (by decide) hs12) (by decide)) fun _ _ => trivial
      refine len ?_
      refine loop_rule (fun s : Nat × Nat => [(105, iv (s.1 : Int)), (20, iv (s.2 : Int))]) (fun s u => s.1 ≤ nS ∧ u = w9 ∧ s.2 = orL (set.take s.1)) (fun s _ => nS - s.1) (0, 0) ⟨rfl, rfl, trivial⟩ ⟨by omega, rfl, by rfl⟩ rfl ?_
      rintro G ⟨k, m⟩ u ⟨hk, rfl, hm⟩
      refine cD (fun hlt => ?_) (fun hge => ?_)
      · have hlt : k < nS := by omega
        obtain ⟨b, o, cs, a, rfl, ha, -, -, hc, rfl, -⟩ := hset9.at_ hlt
        have htk : set.take (k + 1) = set.take k ++ [a] := by rw [List.take_add_one, ha]; rfl
        have hab := hsb a (List.mem_of_getElem? ha)
        have hm' : m < 2 ^ x.suspects.length := by rw [show m = orL (set.take k) from hm]; exact orL_lt fun i hi => hsb i (List.mem_of_mem_take hi)
        have hp : 2 ^ x.suspects.length ≤ 2 ^ 12 := Nat.pow_le_pow_right (by decide) hs12
        have hm'' : m < 4096 := by omega
        refine idx k rfl hlt ?_
        refine ld (iv a) (hc 0 _ rfl) ?_
        refine shl1 (fun q hq hql => ?_) (by omega)
        refine orV (fun q' hq' => ?_)
        refine arI (by omega) ?_
        refine next (k + 1, q') ⟨by rw [Int.natCast_add]; rfl, rfl, trivial⟩ ⟨by omega, rfl, ?_⟩ (by simp only; omega)
        show q' = orL (set.take (k + 1))
        rw [htk, orL_snoc, hq', hq, ← hm]
      · have hkn : k = nS := by omega
        subst hkn
        rw [List.take_of_length_le (by omega)] at hm
        have hm : m = orL set := hm
        have tnl : tn = 2 ^ x.suspects.length := by rw [← tl]; exact bT.len.symm
        refine cE (fun _ => ?_) (fun h => absurd (askErr_ok.1 e0).1 h)
        refine len ?_
        refine cD (fun _ => ?_) (fun h => by omega)
        obtain ⟨b, o, cs, y, rfl, hy, -, -, hc, rfl⟩ := bT.at_ (k := m) (by omega)
        rw [hm, tg, ← hb1] at hy
        injection hy with hy
        subst hy
        refine idx m rfl (by omega) ?_
        refine ld (.bool false) (hc 0 _ rfl) ?_
        refine eqB (fun _ => ?_) (fun h => absurd rfl h)
        exact ret1 (.bool true) rfl ⟨rfl, x2.trans z9⟩
end
end Go.Proofs.Ytffdjecdcbbfaaa

/- Layer 48, plainly: more suspects, wider ranges. -/
namespace Go.Proofs.Ytffdjecdcbbfaaa
open Go Go.RowKit

/-- As many ranges, each of them as wide or wider. -/
def WiderL (l l' : List Rg) : Prop := l.length = l'.length ∧ ∀ i, i < l.length → (l'.getD i g0).lo ≤ (l.getD i g0).lo ∧ (l.getD i g0).hi ≤ (l'.getD i g0).hi
theorem WiderL.refl (l : List Rg) : WiderL l l := ⟨rfl, fun _ _ => ⟨Int.le_refl _, Int.le_refl _⟩⟩
structure WiderW (v v' : Wv) : Prop where
  heads : WiderL v.heads v'.heads
  outlets : WiderL v.outlets v'.outlets
  tails : WiderL v.tails v'.tails
theorem WiderW.refl (v : Wv) : WiderW v v := ⟨.refl _, .refl _, .refl _⟩
def BlLe (bl bl' : Int × Int → Option Int) : Prop := ∀ key n, bl key = some n → bl' key = some n
theorem meter_more {bl bl' : Int × Int → Option Int} (hb : BlLe bl bl') {kd ix : Int} {y y' : Rg} (h0 : 0 ≤ y.lo) (h1 : y'.lo ≤ y.lo) (h2 : y.hi ≤ y'.hi) : (meterV bl' kd ix y').lo ≤ (meterV bl kd ix y).lo ∧ (meterV bl kd ix y).hi ≤ (meterV bl' kd ix y').hi := by
  unfold meterV
  cases e : bl (kd, ix) with
  | some n => rw [hb _ _ e]; show (0 : Int) ≤ 0 ∧ max n y.hi ≤ max n y'.hi; omega
  | none =>
    cases e' : bl' (kd, ix) with
    | some n => show (0 : Int) ≤ y.lo ∧ y.hi ≤ max n y'.hi; omega
    | none => exact ⟨h1, h2⟩
theorem in_more {bl bl' : Int × Int → Option Int} (hb : BlLe bl bl') {kd : Int} {l : List Int} {m : Nat} {read read' : List Rg} (hr : WiderL read read') (h0 : rgsB m read = true) (h : inB bl kd l read = true) : inB bl' kd l read' = true := by
  rw [inB_iff] at h ⊢
  refine ⟨by rw [h.1, hr.1], fun i hi => ?_⟩
  have h1 := h.2 i hi
  have h2 := hr.2 i (by rw [← h.1]; exact hi)
  have h3 := rgOk_iff.1 (rgsB_get h0 (by rw [← rgsB_len h0, ← h.1]; exact hi))
  have := meter_more hb (kd := kd) (ix := i) h3.1 h2.1 h2.2
  omega
section
variable {d : Dist} {x x' : Ev} {set set' : List Int}
theorem suE_congr (hs : x'.suspects = x.suspects) (i : Nat) : suE x' i = suE x i := by unfold suE; rw [hs]
theorem suAt_congr (hs : x'.suspects = x.suspects) (i : Int) : suAt x' i = suAt x i := by unfold suAt; rw [hs]
theorem fits_more {bl bl' : Int × Int → Option Int} {v v' : Wv} {t : Tru} (hs : x'.suspects = x.suspects) (hb : BlLe bl bl') (hw : WiderW v v') (w1 : rgsB d.reaches.length v.heads = true) (w2 : rgsB d.farms.length v.outlets = true) (w3 : rgsB d.reaches.length v.tails = true) (hp : ∀ key n, bl' key = some n → 0 ≤ n) (h : FitsL d x bl v t) : FitsL d x' bl' v' t := by
  have ho : ∀ k r, out3 d x' t k r = out3 d x t k r := fun k r => by
    unfold out3 out2 out1
    have : qP x' r = qP x r := funext fun i => by unfold qP; rw [suE_congr hs]
    rw [this, hs]
  refine ⟨in_more hb hw.heads w1 h.i1, in_more hb hw.outlets w2 h.i2, in_more hb hw.tails w3 h.i3, h.la, by rw [hs]; exact h.lt, fun i hi => ?_, fun r hr => ?_⟩
  · have := h.tk i (by rw [← hs]; exact hi)
    refine ⟨this.1, Int.le_trans this.2 ?_⟩
    unfold mostT
    rw [suE_congr hs]
    by_cases hk : (suE x i).kind = 4
    · rw [if_pos hk, if_pos hk]
      cases e : bl ((suE x i).kind, (suE x i).index) with
      | some n => rw [hb _ _ e]; exact Int.le_refl _
      | none =>
        cases e' : bl' ((suE x i).kind, (suE x i).index) with
        | none => exact Int.le_refl _
        | some n => exact hp _ _ e'
    · rw [if_neg hk, if_neg hk]; exact Int.le_refl _
  · rw [ho]; exact h.ar r hr
theorem bl_more (he : askErr d x set = 0) (he' : askErr d x' set' = 0) (hs : x'.suspects = x.suspects) (hsub : ∀ i ∈ set, i ∈ set') : BlLe (blF x set) (blF x' set') := by
  intro key n hn
  obtain ⟨i, hi, hk, rfl⟩ := blF_some hn
  have hsus := (evErr_ok (askErr_ok.1 he).1).2.2.2.2
  have hb := (setB_ok (askErr_ok.1 he).2).2
  have hb' := (setB_ok (askErr_ok.1 he').2).2
  cases e : blF x' set' key with
  | some m =>
    obtain ⟨j, hj, hk', rfl⟩ := blF_some e
    rw [suAt_congr hs] at hk' ⊢
    have h1 := hb i hi
    have h2 := hb' j hj
    rw [hs] at h2
    have : i.toNat = j.toNat := by
      rcases Nat.lt_trichotomy i.toNat j.toNat with q | q | q
      · exact absurd (hk.trans hk'.symm) (sus_ne hsus q (by omega))
      · exact q
      · exact absurd (hk'.trans hk.symm) (sus_ne hsus q (by omega))
    rw [show i = j by omega]
  | none =>
    exfalso
    unfold blF at e
    rw [List.findSome?_eq_none_iff] at e
    have := e i (hsub i hi)
    rw [suAt_congr hs] at this
    rw [if_pos hk] at this
    cases this
/-- Whoever explains, with more suspects and wider ranges still does. -/
theorem expl_more (he : askErr d x set = 0) (he' : askErr d x' set' = 0) (hs : x'.suspects = x.suspects) (hsub : ∀ i ∈ set, i ∈ set') (hl : x'.waves.length = x.waves.length)
    (hw : ∀ (k : Nat) v v', x.waves[k]? = some v → x'.waves[k]? = some v' → WiderW v v') (h : explV d x set = true) : explV d x' set' = true := by
  have hb := bl_more he he' hs hsub
  have ha := find_acc he h
  generalize findL d x set = l at ha
  refine acc_expl (l := l) ?_
  unfold accV at ha ⊢
  rw [if_pos he] at ha
  rw [if_pos he']
  unfold allB at ha ⊢
  rw [Bool.and_eq_true, decide_eq_true_eq] at ha ⊢
  refine ⟨by rw [hl]; exact ha.1, List.all_eq_true.2 fun p hp => ?_⟩
  obtain ⟨k, hk, rfl⟩ := List.getElem_of_mem hp
  rw [List.length_zip] at hk
  rw [List.getElem_zip]
  have hk1 : k < x.waves.length := by omega
  have hk2 : k < l.length := by omega
  have hz := List.all_eq_true.1 ha.2 (x.waves[k], l[k]) (List.mem_iff_getElem.2 ⟨k, by rw [List.length_zip]; omega, by rw [List.getElem_zip]⟩)
  have hm : x.waves[k] ∈ x.waves := List.getElem_mem _
  obtain ⟨w1, w2, w3⟩ := waves_mem (evErr_ok (askErr_ok.1 he).1).2.2.2.1 _ hm
  have hm' : x'.waves[k]'(by omega) ∈ x'.waves := List.getElem_mem _
  have hp' := (wavOk_of he' hm').1.bl
  exact fitsB_iff.2 (fits_more hs hb (hw k _ _ (List.getElem?_eq_getElem hk1) (List.getElem?_eq_getElem (by omega))) w1 w2 w3 (fun key n hn => by have := hp' key n hn; omega) (fitsB_iff.1 hz))

/-! ### in the table -/
theorem members_set {n S : Nat} : setB S (-1) (membersL n S) = true := by
  have key : ∀ (l : List Nat) (last : Int), l.Pairwise (· < ·) → (∀ k ∈ l, last < (k : Int) ∧ k < S) → setB S last (l.map fun i : Nat => (i : Int)) = true := by
    intro l
    induction l with
    | nil => intro _ _ _; rfl
    | cons a l ih =>
      intro last hp hb
      rw [List.pairwise_cons] at hp
      show (decide (last < (a : Int)) && (decide ((a : Int) < S) && setB S (a : Int) (l.map fun i : Nat => (i : Int)))) = true
      have h1 := hb a List.mem_cons_self
      rw [ih _ hp.2 fun k hk => ⟨by have := hp.1 k hk; omega, (hb k (List.mem_cons_of_mem _ hk)).2⟩]
      simp only [Bool.and_eq_true, decide_eq_true_eq]
      exact ⟨h1.1, by omega, trivial⟩
  refine key _ _ (List.Pairwise.filter _ List.pairwise_lt_range) fun k hk => ?_
  have := List.mem_range.1 (List.mem_filter.1 hk).1
  exact ⟨by omega, this⟩
theorem ask_members (h : evErr d x = 0) (n : Nat) : askErr d x (membersL n x.suspects.length) = 0 := askErr_ok.2 ⟨h, members_set⟩
theorem table_get (h : evErr d x = 0) {n : Nat} (hn : n < 2 ^ x.suspects.length) : (tableV d x)[n]? = some (explV d x (membersL n x.suspects.length)) := by
  unfold tableV tableL
  rw [if_pos h, List.getElem?_map, List.getElem?_range hn]; rfl
theorem table_len (h : evErr d x = 0) : (tableV d x).length = 2 ^ x.suspects.length := by unfold tableV tableL; rw [if_pos h]; simp
theorem table_none (h : evErr d x ≠ 0) : tableV d x = [] := by unfold tableV; rw [if_neg h]
/-- One suspect more. -/
theorem table_one (h : evErr d x = 0) {n i : Nat} (_ : n < 2 ^ x.suspects.length) (_ : i < x.suspects.length) (ht : explV d x (membersL n x.suspects.length) = true) : explV d x (membersL (n ||| 2 ^ i) x.suspects.length) = true := by
  refine expl_more (ask_members h n) (ask_members h _) rfl (fun j hj => ?_) rfl (fun k v v' h1 h2 => by rw [h1] at h2; injection h2 with h2; subst h2; exact .refl _) ht
  unfold membersL at hj ⊢
  rw [List.mem_map] at hj ⊢
  obtain ⟨q, hq, rfl⟩ := hj
  rw [List.mem_filter] at hq
  refine ⟨q, List.mem_filter.2 ⟨hq.1, ?_⟩, rfl⟩
  rw [Nat.testBit_or, hq.2]; rfl
/-- One range wider. -/
theorem table_wide (h : evErr d x = 0) (h' : evErr d x' = 0) (hs : x'.suspects = x.suspects) (hl : x'.waves.length = x.waves.length)
    (hw : ∀ (k : Nat) v v', x.waves[k]? = some v → x'.waves[k]? = some v' → WiderW v v') {n : Nat} (ht : explV d x (membersL n x.suspects.length) = true) : explV d x' (membersL n x'.suspects.length) = true := by
  rw [hs]
  exact expl_more (ask_members h n) (askErr_ok.2 ⟨h', by rw [hs]; exact members_set⟩) hs (fun _ h => h) hl hw ht
end
end Go.Proofs.Ytffdjecdcbbfaaa

/- Layer 48: Of's put. -/
namespace Go.Proofs.Ytffdjecdcbbfaaa
open Go Go.RowKit

/-- Two slices of the function's own that do not share. -/
def dj (A B : Option Addr) : Prop := ∀ g, A = some (ad g 0) → B ≠ some (ad g 0)
theorem dj.symm {A B : Option Addr} (h : dj A B) : dj B A := fun g h1 h2 => h g h2 h1
theorem dj.app {A A' B : Option Addr} {w0 u : World} {n c sz : Nat} {e : TypeId} {cs : List Value} (h : dj A B) (hA : A' = A ∨ A' = none ∨ A' = some (ad u.heap.size 0)) (hB : OwnF w0 u B n c e sz cs) : dj A' B := by
  intro g h1 h2
  rcases hA with e | e | e
  · exact h g (e ▸ h1) h2
  · rw [e] at h1; cases h1
  · rw [e] at h1
    injection h1 with h1; injection h1 with h1
    rcases hB.form with ⟨e2, -⟩ | ⟨g', e2, -, hlt, -⟩
    · rw [e2] at h2; cases h2
    · rw [e2] at h2; injection h2 with h2; injection h2 with h2; omega
theorem srcOf {w : World} {g sz : Nat} {t : TypeId} {vs : List Value} (h : Blk w g t vs) (hl : vs.length = 1 * sz) : Src w (some (ad g 0)) 1 sz vs := ⟨hl, fun _ => ⟨g, 0, rfl, fun j x hx => by rw [Nat.zero_add]; exact h.cell hx⟩⟩
theorem own_ne {w0 w : World} {A : Option Addr} {n c sz : Nat} {e : TypeId} {cs : List Value} (h : OwnF w0 w A n c e sz cs) {g : Nat} (hg : w.heap.size ≤ g) : A ≠ some (ad g 0) := fun e2 => by
  rcases h.form with ⟨e3, -⟩ | ⟨g', e3, -, hlt, -⟩
  · rw [e3] at e2; cases e2
  · rw [e3] at e2; injection e2 with e2; injection e2 with e2; omega
/-- A slice's block is of its elements' type. -/
theorem own_ty {w0 w : World} {A : Option Addr} {n c sz : Nat} {e t : TypeId} {cs xs : List Value} {b : Nat} (h : OwnF w0 w A n c e sz cs) (hb : Blk w b t xs) (hne : t ≠ e) : A ≠ some (ad b 0) := fun e2 => by
  obtain ⟨rest, hb3, _⟩ := Own.blk (e2 ▸ h.own)
  exact hne (hb.uniq hb3).1
/-- A slice after an append: the same block, none, or a new one. -/
def nw (w : World) (A B : Option Addr) : Prop := B = A ∨ B = none ∨ ∃ g, B = some (ad g 0) ∧ w.heap.size ≤ g
theorem nw.of {w u : World} {A B : Option Addr} (h : B = A ∨ B = none ∨ B = some (ad u.heap.size 0)) (hs : w.heap.size ≤ u.heap.size) : nw w A B := by
  rcases h with h | h | h
  · exact .inl h
  · exact .inr (.inl h)
  · exact .inr (.inr ⟨_, h, hs⟩)
theorem dj.nw {w0 w : World} {A B C : Option Addr} {n c sz : Nat} {e : TypeId} {cs : List Value} (h : dj A C) (hB : nw w A B) (hC : OwnF w0 w C n c e sz cs) : dj B C := by
  intro g h1 h2
  rcases hB with e | e | ⟨g', e, hg⟩
  · exact h g (e ▸ h1) h2
  · rw [e] at h1; cases h1
  · rw [e] at h1
    injection h1 with h1; injection h1 with h1
    rcases hC.form with ⟨e2, -⟩ | ⟨g2, e2, -, hlt, -⟩
    · rw [e2] at h2; cases h2
    · rw [e2] at h2; injection h2 with h2; injection h2 with h2; omega
theorem dj_none {A : Option Addr} : dj none A := fun g h => by cases h
/-- Slices of two kinds do not share. -/
theorem dj_ty {w0 v0 w : World} {A B : Option Addr} {n c sz m k sy : Nat} {e t : TypeId} {cs ds : List Value} (hA : OwnF w0 w A n c e sz cs) (hB : OwnF v0 w B m k t sy ds) (hne : t ≠ e) : dj A B := fun g h1 h2 => by
  obtain ⟨rest, hb, _⟩ := Own.blk (h1 ▸ hA.own)
  obtain ⟨rest', hb', _⟩ := Own.blk (h2 ▸ hB.own)
  exact hne (hb'.uniq hb).1
section
variable {w0 w : World}
set_option maxRecDepth 4000 in
theorem c_eput {bT bW bw i j n1 c1 n2 c2 : Nat} {A1 A2 : Option Addr} {cs1 cs2 csT csW : List Value} {N W : Int} (hT : Blk w bT 65 csT) (hW : Blk w bW 53 csW) (hi : csT[i]? = some (.slice A1 n1 c1)) (hj : csW[j]? = some (.slice A2 n2 c2))
    (o1 : OwnF w0 w A1 n1 c1 3 1 cs1) (o2 : OwnF w0 w A2 n2 c2 58 2 cs2) (hd : dj A1 A2) (hw : Blk w bw 3 [iv W]) (hwn : A1 ≠ some (ad bw 0)) (hN : -4611686018427387904 ≤ N ∧ N ≤ 4611686018427387904) (hWb : 0 ≤ W ∧ W ≤ 1073741824) (h1 : n1 ≤ 100000) (h2 : n2 ≤ 100000)
    (hbT : w0.heap.size ≤ bT) (hbW : w0.heap.size ≤ bW) :
    CallZ Try.prog 28 #[.pointer (some (ad bT i)), .pointer (some (ad bW j)), iv N, ptr bw] w (fun v w' => v = .tuple #[] ∧ ∃ B1 d1 B2 d2, Blk w' bT 65 (csT.set i (.slice B1 (n1 + 1) d1)) ∧ Blk w' bW 53 (csW.set j (.slice B2 (n2 + 1) d2)) ∧
      OwnF w0 w' B1 (n1 + 1) d1 3 1 (cs1 ++ [iv N]) ∧ OwnF w0 w' B2 (n2 + 1) d2 58 2 (cs2 ++ [iv (max 0 (N - W)), iv (min 1073741824 (N + W))]) ∧ dj B1 B2 ∧ nw w A1 B1 ∧ nw w A2 B2 ∧ Kept (fun b => b ≠ bT ∧ b ≠ bW ∧ A1 ≠ some (ad b 0) ∧ A2 ≠ some (ad b 0)) w w') := by
  have li : i < csT.length := (List.getElem?_eq_some_iff.1 hi).1
  have lj : j < csW.length := (List.getElem?_eq_some_iff.1 hj).1
  have tT := hT.lt
  have tW := hW.lt
  have hTW : bT ≠ bW := fun e => by subst e; exact absurd (hT.uniq hW).1 (by decide)
  refine fn_rule (args := [.pointer (some (ad bT i)), .pointer (some (ad bW j)), iv N, ptr bw]) Try.func28 (by kernel_rfl) ?_
  refine drawP (.take 0 (.take 1 (.take 2 (.take 3 (.take 4 (.take 5 (.take 8 (.take 9 (.take 10 (.take 11 (.take 12 (.take 13 (.take 14 (.take 15 (.take 16 (.take 17 (.take 18 (.take 19 (.alt 6 (.alt 7 (.eff 20 (.eff 21 (.take 22 (.bar (.eff 23 (.take 24 (.eff 25 .done))))))) (.eff 20 (.eff 7 (.eff 21 (.take 22 (.bar (.eff 23 (.take 24 (.eff 25 .done))))))))) (.eff 20 (.eff 6 (.eff 7 (.eff 21 (.take 22 (.bar (.eff 23 (.take 24 (.eff 25 .done)))))))))))))))))))))))))))) [23, 24, 25] (fun z => Kept (fun b => A1 ≠ some (ad b 0) ∧ A2 ≠ some (ad b 0)) w z) mx (by kernel_rfl) (.refl _ _) ?_
  refine ldK (.slice A1 n1 c1) (hT.cell hi) ⟨own_ty o1 hT (by decide), own_ty o2 hT (by decide)⟩ (.refl _ _) ?_
  refine ldK (.slice A2 n2 c2) (hW.cell hj) ⟨own_ty o1 hW (by decide), own_ty o2 hW (by decide)⟩ (.refl _ _) ?_
  refine ldK (iv W) (hw.cell rfl) ⟨hwn, own_ty o2 hw (by decide)⟩ (.refl _ _) ?_
  refine arI (by omega) ?_
  refine ldK (iv W) (hw.cell rfl) ⟨hwn, own_ty o2 hw (by decide)⟩ (.refl _ _) ?_
  refine arI (by omega) ?_
  refine bld [iv (max 0 (N - W)), iv (min 1073741824 (N + W))] (by kernel_rfl) ?_
  refine ⟨?yl, ?yr⟩
  case' yl =>
    refine lit [iv N] (fun g1 u1 hq1 => ?_)
    have z1 := hq1.at_
    have kA : Kept (fun b => A1 ≠ some (ad b 0) ∧ A2 ≠ some (ad b 0)) w u1 := hq1.ext.any
    have o1 := o1.then hq1.ext
    have o2 := o2.then hq1.ext
    refine strS kA ?_
    refine ⟨?yll, ?ylr⟩
  case' yll =>
    refine appF o1 (hq1.src (sz := 1) rfl) (by omega) (fun B1 d1 u2 p1 k2 hA => ?_)
    have hd1 := hd.app hA o2
    have n1' : nw w A1 B1 := nw.of hA kA.size
    have o2 := o2.thenK k2 (fun g h1 h2 => hd g h2 h1) p1.ext
    have kB := kA.trans (k2.weak fun _ _ h => h.1)
    refine strS kB ?_
    refine lit [.agg #[iv (max 0 (N - W)), iv (min 1073741824 (N + W))]] (fun g2 u3 hq2 => ?_)
    have p1 := p1.then hq2.ext
    have o2 := o2.then hq2.ext
    have kC := kB.ext hq2.ext
    refine strS kC ?_
    refine appF o2 (hq2.src (sz := 2) rfl) (by omega) (fun B2 d2 u4 p2 k4 hA2 => ?_)
    have n2' : nw w A2 B2 := nw.of hA2 kC.size
    have hdF := (hd1.symm.app hA2 p1).symm
    have p1 := p1.thenK k4 (fun g h1 => hd1 g h1) p2.ext
    have kF := kC.trans (k4.weak fun _ _ h => h.2)
    refine strS kF ?_
  case' ylr =>
    refine lit [.agg #[iv (max 0 (N - W)), iv (min 1073741824 (N + W))]] (fun g2 u2 hq2 => ?_)
    have z2 := hq2.at_
    have ne2 := own_ne o1 (show u1.heap.size ≤ g2 by omega)
    have o1 := o1.then hq2.ext
    have o2 := o2.then hq2.ext
    have kB := kA.ext hq2.ext
    refine strS kB ?_
    refine appF o1 (srcOf (sz := 1) (hq1.blk.ext hq2.ext) rfl) (by omega) (fun B1 d1 u3 p1 k2 hA => ?_)
    have hd1 := hd.app hA o2
    have n1' : nw w A1 B1 := nw.of hA kB.size
    have o2 := o2.thenK k2 (fun g h1 h2 => hd g h2 h1) p1.ext
    have bl2 := hq2.blk.kept k2 ne2
    have kC := kB.trans (k2.weak fun _ _ h => h.1)
    refine strS kC ?_
    refine appF o2 (srcOf (sz := 2) bl2 rfl) (by omega) (fun B2 d2 u4 p2 k4 hA2 => ?_)
    have n2' : nw w A2 B2 := nw.of hA2 kC.size
    have hdF := (hd1.symm.app hA2 p1).symm
    have p1 := p1.thenK k4 (fun g h1 => hd1 g h1) p2.ext
    have kF := kC.trans (k4.weak fun _ _ h => h.2)
    refine strS kF ?_
  case' yr =>
    refine lit [.agg #[iv (max 0 (N - W)), iv (min 1073741824 (N + W))]] (fun g2 u1 hq2 => ?_)
    have z2 := hq2.at_
    have ne2 := own_ne o1 (show w.heap.size ≤ g2 by omega)
    have kA : Kept (fun b => A1 ≠ some (ad b 0) ∧ A2 ≠ some (ad b 0)) w u1 := hq2.ext.any
    have o1 := o1.then hq2.ext
    have o2 := o2.then hq2.ext
    refine strS kA ?_
    refine lit [iv N] (fun g1 u2 hq1 => ?_)
    have o1 := o1.then hq1.ext
    have o2 := o2.then hq1.ext
    have kB := kA.ext hq1.ext
    refine strS kB ?_
    refine appF o1 (hq1.src (sz := 1) rfl) (by omega) (fun B1 d1 u3 p1 k2 hA => ?_)
    have hd1 := hd.app hA o2
    have n1' : nw w A1 B1 := nw.of hA kB.size
    have o2 := o2.thenK k2 (fun g h1 h2 => hd g h2 h1) p1.ext
    have bl2 := (hq2.blk.ext hq1.ext).kept k2 ne2
    have kC := kB.trans (k2.weak fun _ _ h => h.1)
    refine strS kC ?_
    refine appF o2 (srcOf (sz := 2) bl2 rfl) (by omega) (fun B2 d2 u4 p2 k4 hA2 => ?_)
    have n2' : nw w A2 B2 := nw.of hA2 kC.size
    have hdF := (hd1.symm.app hA2 p1).symm
    have p1 := p1.thenK k4 (fun g h1 => hd1 g h1) p2.ext
    have kF := kC.trans (k4.weak fun _ _ h => h.2)
    refine strS kF ?_
  all_goals
    have T4 := hT.kept kF ⟨own_ty ‹OwnF w0 w A1 n1 c1 3 1 cs1› hT (by decide), own_ty ‹OwnF w0 w A2 n2 c2 58 2 cs2› hT (by decide)⟩
    have W4 := hW.kept kF ⟨own_ty ‹OwnF w0 w A1 n1 c1 3 1 cs1› hW (by decide), own_ty ‹OwnF w0 w A2 n2 c2 58 2 cs2› hW (by decide)⟩
    refine barS (fun _ => True) trivial ?_
    refine st (v := .slice B1 (n1 + 1) d1) T4 li rfl (fun u5 T5 k5 z5 => ?_)
    have W5 := W4.kept k5 (Ne.symm hTW)
    have p1 := p1.thenK k5 (fun g h e => own_ty p1 T4 (by decide) (e ▸ h)) (p1.ext.then k5 fun b hb _ e => by omega)
    have p2 := p2.thenK k5 (fun g h e => own_ty p2 T4 (by decide) (e ▸ h)) (p2.ext.then k5 fun b hb _ e => by omega)
    refine strS trivial ?_
    refine st (v := .slice B2 (n2 + 1) d2) W5 lj rfl (fun u6 W6 k6 z6 => ?_)
    have T6 := T5.kept k6 hTW
    have p1 := p1.thenK k6 (fun g h e => own_ty p1 W5 (by decide) (e ▸ h)) (p1.ext.then k6 fun b hb _ e => by omega)
    have p2 := p2.thenK k6 (fun g h e => own_ty p2 W5 (by decide) (e ▸ h)) (p2.ext.then k6 fun b hb _ e => by omega)
    refine strS trivial ?_
    exact ret0 ⟨rfl, B1, d1, B2, d2, T6, W6, p1, p2, hdF, n1', n2', ((kF.weak fun _ _ h => h.2.2).trans (k5.weak fun _ _ h => h.1)).trans (k6.weak fun _ _ h => h.2.1)⟩
end
end Go.Proofs.Ytffdjecdcbbfaaa
