/- Parts of the proof: Ed Ee Ef Eg Eh Ei Ej Ek El Em En Eo. -/
import Derived.Test.YtcpdhclnmjfldaaGreatM8
import Derived.Test.YtcpdhclnmjfldaaGreatM2
import Derived.Laws.Cover3
import Derived.Test.YtcpdhclnmjfldaaGreatM7
import Derived.Test.YtcpdhclnmjfldaaGreatM4

/- Layer 48: contract of Explains. -/
namespace Go.Proofs.YtcpdhclnmjfldaaGreat
open Go Go.RowKit

theorem reachesB_get : ∀ {l : List Reach} {i k : Nat} {r : Reach}, reachesB i l = true → l[k]? = some r → upOk (i + k) r.up = true ∧ reachOk r = true
  | [], i, k, r, _, h => by simp at h
  | y :: l, i, 0, r, hl, h => by
    simp at h; subst h
    unfold reachesB at hl
    simp only [Bool.and_eq_true] at hl
    exact hl.1
  | y :: l, i, k + 1, r, hl, h => by
    unfold reachesB at hl
    simp only [Bool.and_eq_true] at hl
    have := reachesB_get (i := i + 1) (k := k) hl.2 (by simpa using h)
    rwa [show i + 1 + k = i + (k + 1) by omega] at this
theorem dErr_z {d : Dist} (h : dErr d = 0) : tooMany d = false ∧ validB d = true := by
  unfold dErr at h
  cases h1 : tooMany d with
  | true => rw [h1] at h; cases h
  | false =>
    rw [h1] at h
    cases h2 : validB d with
    | false => rw [h2] at h; cases h
    | true => exact ⟨rfl, rfl⟩
theorem waves_mem {d : Dist} : ∀ {l : List Wv} {b : Int}, wavesB d b l = true → ∀ v ∈ l, rgsB d.reaches.length v.heads = true ∧ rgsB d.farms.length v.outlets = true ∧ rgsB d.reaches.length v.tails = true
  | y :: l, b, h, v, hv => by
    unfold wavesB at h
    rw [Bool.and_eq_true] at h
    rcases List.mem_cons.1 hv with rfl | hv
    · have h1 := h.1
      unfold waveB at h1
      simp only [Bool.and_eq_true] at h1
      exact ⟨h1.2.2.1, h1.2.2.2.1, h1.2.2.2.2⟩
    · exact waves_mem h.2 v hv
theorem rgsB_get {m i : Nat} {l : List Rg} (h : rgsB m l = true) (hi : i < m) : rgOk (l.getD i g0) 1073741824 = true := by
  unfold rgsB at h
  rw [Bool.and_eq_true, decide_eq_true_eq, List.all_eq_true] at h
  rw [List.getD_eq_getElem?_getD, List.getElem?_eq_getElem (by omega)]
  exact h.2 _ (List.getElem_mem _)
theorem rgsB_len {m : Nat} {l : List Rg} (h : rgsB m l = true) : l.length = m := by
  unfold rgsB at h
  rw [Bool.and_eq_true, decide_eq_true_eq] at h
  exact h.1
theorem ev_sizes {d : Dist} {x : Ev} (h : evErr d x = 0) : (d.reaches.length ≤ 64 ∧ 0 < d.reaches.length) ∧ d.farms.length ≤ 600 ∧ x.suspects.length ≤ 12 := by
  obtain ⟨h0, -, h2, -, -⟩ := evErr_ok h
  obtain ⟨t, hv⟩ := dErr_z h0
  have h1 := headOk_iff.1 (validB_iff.1 hv).1
  unfold tooMany at t; simp at t; omega
/-- What a right evidence gives for each of its waves. -/
theorem wavOk_of {d : Dist} {x : Ev} {set : List Int} (h : askErr d x set = 0) {v : Wv} (hv : v ∈ x.waves) : WavOk d x (blF x set) v ∧ v.heads.length = d.reaches.length ∧ v.outlets.length = d.farms.length ∧ v.tails.length = d.reaches.length := by
  obtain ⟨he, hs⟩ := askErr_ok.1 h
  obtain ⟨h0, -, -, hwv, hsu⟩ := evErr_ok he
  obtain ⟨t, hval⟩ := dErr_z h0
  obtain ⟨-, hR, -, hF, -⟩ := validB_iff.1 hval
  obtain ⟨w1, w2, w3⟩ := waves_mem hwv v hv
  have rget : ∀ k, k < d.reaches.length → d.reaches[k]? = some (rcE d k) := fun k hk => by
    unfold rcE; rw [List.getD_eq_getElem?_getD, List.getElem?_eq_getElem hk]; rfl
  have hup : ∀ k, k < d.reaches.length → upOk k (rcE d k).up = true ∧ reachOk (rcE d k) = true := fun k hk => by
    have := reachesB_get hR (rget k hk)
    rwa [Nat.zero_add] at this
  have sp := (sus_pair hsu).1
  have sget : ∀ i, i < x.suspects.length → suE x i ∈ x.suspects := fun i hi => by
    unfold suE; rw [List.getD_eq_getElem?_getD, List.getElem?_eq_getElem hi]; exact List.getElem_mem _
  refine ⟨⟨fun r hr => (reachOk_iff.1 (hup r hr).2).2.2.2.2, fun k hk => ?_, fun k h0k hk => ?_, fun k hk => ?_, fun r hr => rgsB_get w1 hr, fun k hk => rgsB_get w2 hk, fun r hr => rgsB_get w3 hr, fun i hi hk => ?_, fun key n hn => ?_⟩, rgsB_len w1, rgsB_len w2, rgsB_len w3⟩
  · have := (hup k hk).1
    unfold upOk at this
    by_cases e : k = 0
    · rw [if_pos e, decide_eq_true_eq] at this; omega
    · rw [if_neg e, inI_iff] at this; omega
  · have := (hup k hk).1
    unfold upOk at this
    rw [if_neg (by omega), inI_iff] at this; omega
  · have hm : fmE d k ∈ d.farms := by unfold fmE; rw [List.getD_eq_getElem?_getD, List.getElem?_eq_getElem hk]; exact List.getElem_mem _
    have := List.all_eq_true.1 hF _ hm
    unfold farmOk at this
    simp only [Bool.and_eq_true, inI_iff] at this
    omega
  · have := (sp _ (sget i hi)).2.1
    unfold manyN at this
    rw [if_pos (by omega)] at this
    exact this
  · obtain ⟨i, hi, -, rfl⟩ := blF_some hn
    -- an index of the set is one of a suspect's
    have hset : ∀ {l : List Int} {b : Int}, -1 ≤ b → setB x.suspects.length b l = true → ∀ j ∈ l, 0 ≤ j ∧ j < x.suspects.length := by
      intro l
      induction l with
      | nil => intro b _ _ j hj; cases hj
      | cons a l ih =>
        intro b hb hl j hj
        unfold setB at hl
        simp only [Bool.and_eq_true, decide_eq_true_eq] at hl
        rcases List.mem_cons.1 hj with rfl | hj
        · omega
        · exact ih (b := a) (by omega) hl.2.2 j hj
    have hb := hset (by omega) hs i hi
    have : suAt x i ∈ x.suspects := by
      unfold suAt; rw [List.getD_eq_getElem?_getD, List.getElem?_eq_getElem (by omega)]; exact List.getElem_mem _
    exact (sp _ this).2.2
/-- What Explains answers. -/
def explV (d : Dist) (x : Ev) (set : List Int) : Bool := if askErr d x set = 0 then explB d x set else false
abbrev flwB (d : Dist) (x : Ev) (set : List Int) (v : Wv) : Bool := (followV d x (blF x set) v d.reaches.length fun _ => g0).isSome
section
variable {w : World}
/-- What Explains's closure holds. -/
structure InqR (D : Nat → Prop) (u : World) (b gm : Nat) (csd csx : List Value) (d : Dist) (x : Ev) (set : List Int) : Prop where
  hd : DiR D u csd d
  hx : EvR D u csx x
  map : MapG kv2 u gm (blM x set)
  blk : Blk u b 86 (csd ++ (csx ++ [Value.map (some gm)]))
theorem InqR.ext {D : Nat → Prop} {u u' : World} {b gm : Nat} {csd csx : List Value} {d : Dist} {x : Ev} {set : List Int} (h : InqR D u b gm csd csx d x set) (k : Ext u u') : InqR D u' b gm csd csx d x set := ⟨h.hd.ext k, h.hx.ext k, h.map.kept k trivial, h.blk.ext k⟩
theorem c_Explains1 {D : Nat → Prop} {b gm : Nat} {csd csx cw : List Value} {d : Dist} {x : Ev} {set : List Int} {v : Wv} (h : InqR D w b gm csd csx d x set) (hv : tWv.rep D w cw v) (he : askErr d x set = 0) (hm : v ∈ x.waves) :
    CallZ Tryz.prog 56 #[.agg cw.toArray, ptr b] w (fun u w' => u = .bool (!flwB d x set v) ∧ Ext w w') := by
  obtain ⟨A1, n1, c1, A2, n2, c2, A3, n3, c3, A4, n4, c4, A5, n5, c5, A6, n6, c6, rfl, -⟩ := h.hd.ex
  obtain ⟨W1, m1, e1, S1, m2, e2, rfl, -⟩ := h.hx.ex
  obtain ⟨H1, h1, k1, O1, o1, k2, T1, g1, k3, rfl, -⟩ := wv_open hv
  obtain ⟨hw, l1, l2, l3⟩ := wavOk_of he hm
  obtain ⟨⟨r1, -⟩, r2, r3⟩ := ev_sizes (askErr_ok.1 he).1
  refine fn_rule (args := [.agg #[iv v.hour, .slice H1 h1 k1, .slice O1 o1 k2, .slice T1 g1 k3], ptr b]) Tryz.func56 (by kernel_rfl) ?_
  refine box (fun bw w1 j1 => ?_)
  have h' := h.ext j1.ext
  refine ldA [.string d.name, iv d.hours, iv d.cap, iv d.start, .slice A1 n1 c1, .slice A2 n2 c2, .slice A3 n3 c3, .slice A4 n4 c4, .slice A5 n5 c5, .slice A6 n6 c6, .slice W1 m1 e1, .slice S1 m2 e2, .map (some gm)] (.blk h'.blk) rfl ?_
  refine ldA [iv v.hour, .slice H1 h1 k1, .slice O1 o1 k2, .slice T1 g1 k3] (.blk j1.blk) rfl ?_
  refine call_of (c_follow h'.hd h'.hx (tWv.keep (fun b hb _ => j1.ext.blk b hb trivial) hv) h'.map hw r1 r2 r3 l1 l2 l3) ?_
  rintro _ w2 ⟨x2, bc, rfl, -⟩
  obtain ⟨fb, hfb⟩ : ∃ fb, fb = flwB d x set v := ⟨_, rfl⟩
  show _
  rw [show (followV d x (blF x set) v d.reaches.length fun _ => g0).isSome = fb from hfb.symm, ← hfb]
  cases fb with
  | true => exact ret1 (.bool false) rfl ⟨rfl, j1.ext.trans x2⟩
  | false => exact ret1 (.bool true) rfl ⟨rfl, j1.ext.trans x2⟩
theorem c_indWv {D : Nat → Prop} {b gm : Nat} {csd csx : List Value} {d : Dist} {x : Ev} {set : List Int} {A : Option Addr} {n c : Nat} (h : InqR D w b gm csd csx d x set) (hs : SlR tWv D w A n x.waves) (he : askErr d x set = 0) :
    CallZ Tryz.prog 77 #[.slice A n c, .func (.func 56) #[] #[ptr b]] w (fun v w' => (∃ i : Int, v = iv i ∧ (0 ≤ i ↔ x.waves.all (flwB d x set) = false)) ∧ Ext w w') := by
  refine fn_rule (args := [.slice A n c, .func (.func 56) #[] #[ptr b]]) Tryz.func77 (by kernel_rfl) ?_
  refine len ?_
  refine loop_rule (fun k : Nat => [(8, iv (k : Int))]) (fun k w' => k ≤ n ∧ Ext w w' ∧ x.waves.all (flwB d x set) = (x.waves.drop k).all (flwB d x set)) (fun k _ => n - k) 0 ⟨rfl, trivial⟩ ⟨by omega, .refl _ _, rfl⟩ rfl ?_
  rintro G k w' ⟨hk, xw, hal⟩
  refine cD (fun hlt => ?_) (fun hge => ?_)
  · obtain ⟨b', o, cs, v, rfl, hv, hdv, -, hc, hrep⟩ := (hs.ext xw).at_ (show k < n by omega)
    obtain ⟨H1, h1, k1, O1, o1, k2, T1, g1, k3, rfl, -⟩ := wv_open hrep
    rw [hdv, List.all_cons] at hal
    refine idx k rfl (by omega) ?_
    refine ldA _ hc rfl ?_
    refine callE (c_Explains1 (h.ext xw) hrep he (List.mem_of_getElem? hv)) (fun w2 g x2 => ?_) (fun w2 g x2 => ?_)
    · refine ret1 (iv (k : Int)) rfl ⟨⟨k, rfl, ?_⟩, xw.trans x2⟩
      simp only [Bool.not_eq_true'] at g
      rw [hal, g]; simp
    · simp only [Bool.not_eq_false'] at g
      refine arI (by have := hs.le; omega) ?_
      refine next (k + 1) ⟨by rw [Int.natCast_add]; rfl, trivial⟩ ⟨by omega, xw.trans x2, ?_⟩ (by omega)
      rw [hal, g]; rfl
  · refine ret1 (iv (-1)) rfl ⟨⟨-1, rfl, ?_⟩, xw⟩
    rw [hal, List.drop_eq_nil_of_le (by have := hs.len; omega)]; simp
theorem c_contWv {D : Nat → Prop} {b gm : Nat} {csd csx : List Value} {d : Dist} {x : Ev} {set : List Int} {A : Option Addr} {n c : Nat} (h : InqR D w b gm csd csx d x set) (hs : SlR tWv D w A n x.waves) (he : askErr d x set = 0) :
    CallZ Tryz.prog 55 #[.slice A n c, .func (.func 56) #[] #[ptr b]] w (fun v w' => v = .bool (!explB d x set) ∧ Ext w w') := by
  refine fn_rule (args := [.slice A n c, .func (.func 56) #[] #[ptr b]]) Tryz.func55 (by kernel_rfl) ?_
  refine call_of (c_indWv h hs he) ?_
  rintro _ w' ⟨⟨i, rfl, hi⟩, xw⟩
  refine cD (fun g => ?_) (fun g => ?_)
  · exact ret1 (.bool true) rfl ⟨by show _ = Value.bool (!x.waves.all (flwB d x set)); rw [hi.1 g]; rfl, xw⟩
  · exact ret1 (.bool false) rfl ⟨by show _ = Value.bool (!x.waves.all (flwB d x set)); rw [show x.waves.all (flwB d x set) = true from by cases ha : x.waves.all (flwB d x set) with | true => rfl | false => exact absurd (hi.2 ha) g]; rfl, xw⟩
theorem c_Explains {D : Nat → Prop} {csd csx : List Value} {d : Dist} {x : Ev} {set : List Int} {A : Option Addr} {n c : Nat} (hd : DiR D w csd d) (hx : EvR D w csx x) (hset : SlR tInt D w A n set) : CallZ Tryz.prog 29 #[.agg csd.toArray, .agg csx.toArray, .slice A n c] w
    (fun v w' => v = .tuple #[.bool (explV d x set), iv (askErr d x set)] ∧ Ext w w') := by
  obtain ⟨A1, n1, c1, A2, n2, c2, A3, n3, c3, A4, n4, c4, A5, n5, c5, A6, n6, c6, rfl, -⟩ := hd.ex
  obtain ⟨W1, m1, e1, S1, m2, e2, rfl, hw, -⟩ := hx.ex
  refine fn_rule (args := [.agg #[.string d.name, iv d.hours, iv d.cap, iv d.start, .slice A1 n1 c1, .slice A2 n2 c2, .slice A3 n3 c3, .slice A4 n4 c4, .slice A5 n5 c5, .slice A6 n6 c6], .agg #[.slice W1 m1 e1, .slice S1 m2 e2], .slice A n c]) Tryz.func29 (by kernel_rfl) ?_
  refine box (fun bd w1 h1 => ?_)
  refine box (fun bx w2 h2 => ?_)
  have x2 := h1.ext.trans h2.ext
  have Bd : Blk w2 bd 31 [.string d.name, iv d.hours, iv d.cap, iv d.start, .slice A1 n1 c1, .slice A2 n2 c2, .slice A3 n3 c3, .slice A4 n4 c4, .slice A5 n5 c5, .slice A6 n6 c6] := h1.blk.ext h2.ext
  have Bx : Blk w2 bx 35 [.slice W1 m1 e1, .slice S1 m2 e2] := h2.blk
  refine ldA _ (.blk Bd) rfl ?_
  refine ldA _ (.blk Bx) rfl ?_
  refine call_of (c_ask (hd.ext x2) (hx.ext x2) (hset.ext x2)) ?_
  rintro _ w3 ⟨x3, q, rfl, ⟨cs, rfl, hcl, hco⟩, hq⟩
  refine alloc (fun bq w4 h4 => ?_)
  refine stA (vs := cs) h4.blk hcl (by rw [hcl]; exact Nat.le_of_ble_eq_true rfl) hco (fun w5 b5 k5 s5 => ?_)
  have a4 := h4.at_
  have x35 : Ext w3 w5 := h4.ext.then k5 fun b hb _ => by omega
  have x05 := (x2.trans x3).trans x35
  refine cN (fun e0 => ?_) (fun e0 => ?_)
  · exact ret2 (.bool false) (iv (askErr d x set)) rfl rfl ⟨by unfold explV; rw [if_neg e0], x05⟩
  have e0 : askErr d x set = 0 := e0
  obtain ⟨g, hqe, hmap, hg⟩ := hq e0
  have hcs : cs = [.string d.name, iv d.hours, iv d.cap, iv d.start, .slice A1 n1 c1, .slice A2 n2 c2, .slice A3 n3 c3, .slice A4 n4 c4, .slice A5 n5 c5, .slice A6 n6 c6] ++ ([.slice W1 m1 e1, .slice S1 m2 e2] ++ [Value.map (some g)]) := by
    have := hqe; injection this with this; simpa using this
  subst hcs
  have b5 : Blk w5 bq 86 ([.string d.name, iv d.hours, iv d.cap, iv d.start, .slice A1 n1 c1, .slice A2 n2 c2, .slice A3 n3 c3, .slice A4 n4 c4, .slice A5 n5 c5, .slice A6 n6 c6] ++ ([.slice W1 m1 e1, .slice S1 m2 e2] ++ [Value.map (some g)])) := b5
  have inq : InqR D w5 bq g _ _ d x set := ⟨hd.ext x05, hx.ext x05, hmap.kept x35 trivial, b5⟩
  refine fldA ?_
  refine ld (.slice W1 m1 e1) (((Bx.ext x3).ext x35).cell rfl) ?_
  refine callE (c_contWv inq (hw.ext x05) e0) (fun w6 g6 x6 => ?_) (fun w6 g6 x6 => ?_)
  · simp only [Bool.not_eq_true'] at g6
    exact ret2 (.bool false) (iv 0) rfl rfl ⟨by unfold explV; rw [if_pos e0, g6, e0], x05.trans x6⟩
  · simp only [Bool.not_eq_false'] at g6
    exact ret2 (.bool true) (iv 0) rfl rfl ⟨by unfold explV; rw [if_pos e0, g6, e0], x05.trans x6⟩
end
end Go.Proofs.YtcpdhclnmjfldaaGreat

/- Layer 48: contracts of Table, SameTable, Clone. -/
namespace Go.Proofs.YtcpdhclnmjfldaaGreat
open Go Go.RowKit

def membersL (n S : Nat) : List Int := ((List.range S).filter fun i => n.testBit i).map fun i : Nat => (i : Int)
def tableL (d : Dist) (x : Ev) : List Bool := (List.range (2 ^ x.suspects.length)).map fun n => explV d x (membersL n x.suspects.length)
def tableV (d : Dist) (x : Ev) : List Bool := if evErr d x = 0 then tableL d x else []
theorem bit_one {k i : Nat} : ((k >>> i) &&& 1 = 1) ↔ k.testBit i = true := by
  rw [Nat.and_one_is_mod, Nat.shiftRight_eq_div_pow, Nat.testBit_eq_decide_div_mod_eq, decide_eq_true_eq]
theorem members_snoc (k i : Nat) : membersL k (i + 1) = membersL k i ++ if k.testBit i then [(i : Int)] else [] := by
  unfold membersL; rw [range_snoc]
theorem members_bound (k S : Nat) : ∀ v ∈ membersL k S, 0 ≤ v ∧ v < S := by
  intro v hv
  unfold membersL at hv
  obtain ⟨i, hi, rfl⟩ := List.mem_map.1 hv
  have := List.mem_range.1 (List.mem_filter.1 hi).1
  omega
theorem members_len (k S : Nat) : (membersL k S).length ≤ S := by
  unfold membersL
  rw [List.length_map]
  have := List.length_filter_le (fun i => k.testBit i) (List.range S)
  rw [List.length_range] at this; exact this
section
variable {w : World}
set_option maxRecDepth 8000 in
theorem c_Table {D : Nat → Prop} {csd csx : List Value} {d : Dist} {x : Ev} (hd : DiR D w csd d) (hx : EvR D w csx x) : CallZ Tryz.prog 24 #[.agg csd.toArray, .agg csx.toArray] w
    (fun v w' => ∃ A n c, v = .tuple #[.slice A n c, iv (evErr d x)] ∧ OwnF w w' A n c 4 1 ((tableV d x).map fun b => Value.bool b)) := by
  obtain ⟨A1, n1, c1, A2, n2, c2, A3, n3, c3, A4, n4, c4, A5, n5, c5, A6, n6, c6, rfl, -⟩ := hd.ex
  obtain ⟨W1, m1, e1, S1, m2, e2, rfl, hw, hsu, -⟩ := hx.ex
  have ls := hsu.len
  refine fn_rule (args := [.agg #[.string d.name, iv d.hours, iv d.cap, iv d.start, .slice A1 n1 c1, .slice A2 n2 c2, .slice A3 n3 c3, .slice A4 n4 c4, .slice A5 n5 c5, .slice A6 n6 c6], .agg #[.slice W1 m1 e1, .slice S1 m2 e2]]) Tryz.func24 (by kernel_rfl) ?_
  refine box (fun bd w1 h1 => ?_)
  refine box (fun bx w2 h2 => ?_)
  have x2 := h1.ext.trans h2.ext
  have Bd : Blk w2 bd 31 [.string d.name, iv d.hours, iv d.cap, iv d.start, .slice A1 n1 c1, .slice A2 n2 c2, .slice A3 n3 c3, .slice A4 n4 c4, .slice A5 n5 c5, .slice A6 n6 c6] := h1.blk.ext h2.ext
  have Bx : Blk w2 bx 35 [.slice W1 m1 e1, .slice S1 m2 e2] := h2.blk
  refine ldA _ (.blk Bd) rfl ?_
  refine ldA _ (.blk Bx) rfl ?_
  refine call_of (c_eCheck48 (hd.ext x2) (hx.ext x2)) ?_
  rintro _ w3 ⟨rfl, x3⟩
  have x03 := x2.trans x3
  have Bd3 := Bd.ext x3
  have Bx3 := Bx.ext x3
  refine cN (fun q0 => ?_) (fun q0 => ?_)
  · exact ret2 (.slice none 0 0) (iv (evErr d x)) rfl rfl ⟨none, 0, 0, rfl, by unfold tableV; rw [if_neg q0]; exact OwnF.nil x03⟩
  have q0 : evErr d x = 0 := q0
  obtain ⟨-, -, hS⟩ := ev_sizes q0
  have tv : tableV d x = tableL d x := by unfold tableV; rw [if_pos q0]
  rw [tv, q0]
  obtain ⟨S, hSe⟩ : ∃ S, S = x.suspects.length := ⟨_, rfl⟩
  have hpow : 2 ^ S ≤ 4096 := Nat.le_trans (Nat.pow_le_pow_right (by omega) (show S ≤ 12 by omega)) (by decide)
  refine fldA ?_
  refine ld (.slice S1 m2 e2) (Bx3.cell rfl) ?_
  refine len ?_
  refine shl1 (fun pw hpw _ => ?_)
  have hpw : pw = 2 ^ S := by rw [hpw, Int.toNat_natCast, hSe, ls]
  rw [← hpw] at hpow
  obtain ⟨f, hf⟩ : ∃ f : Nat → Bool, f = fun n => explV d x (membersL n S) := ⟨_, rfl⟩
  have htl : tableL d x = (List.range pw).map f := by unfold tableL; rw [hpw, hf, hSe]
  rw [htl]
  refine loop4 (fun (k : Nat) (A : Option Addr) (n c : Nat) => [(21, iv (k : Int)), (4, .slice A n c)])
    (fun k A n c u => k ≤ pw ∧ OwnF w3 u A n c 4 1 (((List.range k).map f).map fun b => Value.bool b)) (fun k _ _ _ _ => pw - k) 0 none 0 0 ⟨rfl, rfl, trivial⟩ ⟨by omega, OwnF.nil (.refl _ _)⟩ rfl ?_
  rintro G k A n c u ⟨hk, hown⟩
  have xu := hown.ext
  have hlen := hown.own.len
  rw [List.length_map, List.length_map, List.length_range] at hlen
  refine cD (fun hlt => ?_) (fun hge => ?_)
  rotate_left
  · have hkp : k = pw := by omega
    rw [hkp] at hown
    exact ret2 (.slice A n c) (iv 0) rfl rfl ⟨A, n, c, rfl, hown.base x03⟩
  have hlt : k < pw := by omega
  refine fldA ?_
  refine ld (.slice S1 m2 e2) ((Bx3.ext xu).cell rfl) ?_
  refine len ?_
  refine loop4 (fun (i : Nat) (A : Option Addr) (n c : Nat) => [(27, iv (i : Int)), (7, .slice A n c)])
    (fun i A2' n2' c2' z => i ≤ m2 ∧ OwnF u z A2' n2' c2' 3 1 ((membersL k i).map fun v => Value.int .i64 v)) (fun i _ _ _ _ => m2 - i) 0 none 0 0 ⟨rfl, rfl, trivial⟩ ⟨by omega, OwnF.nil (.refl _ _)⟩ rfl ?_
  rintro G2 i A' n' c' z ⟨hi, hset⟩
  have hl2 := hset.own.len
  rw [List.length_map] at hl2
  have hml := members_len k i
  refine cD (fun hlti => ?_) (fun hgei => ?_)
  · have hlti : i < m2 := by omega
    refine shrV (fun sh hsh => ?_)
    have hsh : sh = k >>> i := by rw [hsh, Int.toNat_natCast]
    have hshl : sh ≤ k := by rw [hsh, Nat.shiftRight_eq_div_pow]; exact Nat.div_le_self _ _
    refine andV (a := sh) (b := 1) (fun an han => ?_)
    have hb : an = 1 ↔ k.testBit i = true := by rw [han, hsh]; exact bit_one
    refine cD (fun h1' => ?_) (fun h1' => ?_)
    · have hb1 := hb.1 (by omega)
      refine lit [iv (i : Int)] (fun q z1 hq => ?_)
      refine appF (hset.then hq.ext) (hq.src (sz := 1) rfl) (by omega) (fun A3 c3 z2 o2 k2 hA => ?_)
      refine arI (by omega) ?_
      refine next4 (i + 1) A3 (n' + 1) c3 ⟨rfl, rfl, trivial⟩ ⟨by omega, ?_⟩ (by omega)
      rw [members_snoc, if_pos hb1, List.map_append]; exact o2
    · have hb0 : ¬ k.testBit i = true := fun h => h1' (by have := hb.2 h; omega)
      refine arI (by omega) ?_
      refine next4 (i + 1) A' n' c' ⟨rfl, rfl, trivial⟩ ⟨by omega, ?_⟩ (by omega)
      rw [members_snoc, if_neg hb0, List.append_nil]; exact hset
  have him : i = S := by omega
  rw [him] at hset hl2 hml
  have xz := hset.ext
  have x0z := (x03.trans xu).trans xz
  refine ldA _ (.blk ((Bd3.ext xu).ext xz)) rfl ?_
  refine ldA _ (.blk ((Bx3.ext xu).ext xz)) rfl ?_
  have sset : SlR tInt (fun _ => True) z A' n' (membersL k S) := OwnF.ints hset (fun v hv => by have := members_bound k S v hv; unfold I64; omega) (by omega) fun _ _ => trivial
  refine call_of (c_Explains ((hd.ext x0z).more (D' := fun _ => True) fun _ _ _ => trivial) ((hx.ext x0z).more fun _ _ _ => trivial) sset) ?_
  rintro _ z1 ⟨rfl, xz1⟩
  refine lit [.bool (explV d x (membersL k S))] (fun q z2 hq => ?_)
  have xe := (xz.trans xz1).trans hq.ext
  refine appF (hown.then xe) (hq.src (sz := 1) rfl) (by omega) (fun A3 c3 z3 o3 k3 hA => ?_)
  refine arI (by omega) ?_
  refine next4 (k + 1) A3 (n + 1) c3 ⟨rfl, rfl, trivial⟩ ⟨by omega, ?_⟩ (by omega)
  rw [List.range_succ, List.map_append, List.map_append]
  have e : f k = explV d x (membersL k S) := by rw [hf]
  rw [show ([k].map f).map (fun b => Value.bool b) = [Value.bool (explV d x (membersL k S))] from by rw [← e]; rfl]
  exact o3
end
end Go.Proofs.YtcpdhclnmjfldaaGreat

/- Layer 48: contracts of Clone, in. -/
namespace Go.Proofs.YtcpdhclnmjfldaaGreat
open Go Go.RowKit

theorem eqNilE {P : Program} {t e : TypeId} {sz : Nat} [h : SliceTy P t e sz] {xo yo : Operand} {A : Option Addr} {n c : Nat} {K : Value → Prop} (k1 : A = none → K (.bool true)) (k2 : A ≠ none → K (.bool false)) : BinP P .eql t xo yo (.slice A n c) (.slice none 0 0) K := by
  rw [BinP_eq]
  obtain ⟨hu, _⟩ := sliceOf_spec h.h
  refine pure_vval (x := .bool A.isNone) (fun w => ?_) ?_
  · have h1 : (eqGuard .eql t xo yo (.slice A n c) (.slice none 0 0)).run P w = .ok () w := rfl
    have h2 : binOp .eql t (.slice A n c) (.slice none 0 0) = (do pure (.bool (← Op.equal t (.slice A n c) (.slice none 0 0)))) := rfl
    rw [Sem.run_bind, h1, h2]
    simp only [Result.andThen_ok, Sem.run_bind, run_equal_slice_nil w t e A n c hu, Sem.run_pure]
  · cases A with
    | none => exact k1 rfl
    | some a => exact k2 (by simp)
theorem flatI_eq {D : Nat → Prop} {w : World} : ∀ {xs : List Int} {cs : List Value}, FlatR tInt D w xs cs → cs = xs.map fun v => Value.int .i64 v
  | [], _, h => h
  | y :: r, _, ⟨c1, r1, h, ⟨h1, _⟩, h2⟩ => by rw [h, h1, flatI_eq h2]; rfl
def inB (bl : Int × Int → Option Int) (kind : Int) (l : List Int) (read : List Rg) : Bool := decide (l.length = read.length) && (List.range l.length).all fun i => inI (l.getD i 0) (meterV bl kind i (read.getD i g0)).lo (meterV bl kind i (read.getD i g0)).hi
theorem inB_iff {bl : Int × Int → Option Int} {kind : Int} {l : List Int} {read : List Rg} : inB bl kind l read = true ↔ l.length = read.length ∧ ∀ i, i < l.length → (meterV bl kind i (read.getD i g0)).lo ≤ l.getD i 0 ∧ l.getD i 0 ≤ (meterV bl kind i (read.getD i g0)).hi := by
  unfold inB
  simp only [Bool.and_eq_true, decide_eq_true_eq, List.all_eq_true, List.mem_range, inI_iff]
section
variable {w : World}
theorem c_cloneI {D : Nat → Prop} {A : Option Addr} {n c : Nat} {xs : List Int} (ha : SlR tInt D w A n xs) (hn : n ≤ 1000000) (hp : 0 < n) : CallZ Tryz.prog 74 #[.slice A n c] w
    (fun v w' => Ext w w' ∧ ∃ q c' rest, v = .slice (some (ad q 0)) n c' ∧ Blk w' q 3 ((xs.map fun v => iv v) ++ rest) ∧ w.heap.size ≤ q) := by
  have hl := ha.len
  refine fn_rule (args := [.slice A n c]) Tryz.func74 (by kernel_rfl) ?_
  refine eqNilE (fun hA => ?_) (fun hA => ?_)
  · obtain ⟨b, o, cs, x, e, _⟩ := ha.at_ (k := 0) hp
    rw [hA] at e; cases e
  · refine lit [] (fun g w1 h1 => ?_)
    have ha1 := ha.ext h1.ext
    have o1 : OwnF w w1 (some (ad g 0)) 0 0 3 1 [] := OwnF.lit (cs := []) (.refl _ _) h1 rfl
    have hsrc : Src w1 A n 1 (xs.map fun v => Value.int .i64 v) := by
      refine ⟨by rw [List.length_map]; omega, fun hn0 => ?_⟩
      obtain ⟨b, o, cs, x, rfl, _⟩ := ha1.at_ hn0
      obtain ⟨cs2, hf, hc⟩ := ha1.cells
      refine ⟨b, o, rfl, ?_⟩
      rw [← flatI_eq hf]; exact hc
    refine appF o1 hsrc (by omega) (fun A' c' w3 o3 _ _ => ?_) (h1 := by rw [List.all_map]; exact List.all_eq_true.2 fun _ _ => rfl)
    rcases o3.form with ⟨_, e1, -⟩ | ⟨q, e0, hg1, hg2, -⟩
    · omega
    · subst e0
      obtain ⟨rest, hb, -, -⟩ := o3.own.blk
      exact ret1 (.slice (some (ad q 0)) (0 + n) c') rfl ⟨o3.ext, q, c', rest, by rw [Nat.zero_add], hb, hg1⟩
set_option maxRecDepth 8000 in
theorem c_ein {D : Nat → Prop} {csd csx : List Value} {d : Dist} {x : Ev} {gm : Nat} {bl : Int × Int → Option Int} {kind : Int} {l : List Int} {read : List Rg} {A A' : Option Addr} {n c n' c' : Nat} (hd : DiR D w csd d) (hx : EvR D w csx x) (hm : MapG kv2 w gm fun key => (bl key).map fun n => iv n)
    (hl : SlR tInt D w A n l) (hr : SlR tRg D w A' n' read) : CallZ Tryz.prog 73 #[.agg (csd ++ (csx ++ [Value.map (some gm)])).toArray, iv kind, .slice A n c, .slice A' n' c'] w (fun u w' => u = .bool (inB bl kind l read) ∧ Ext w w') := by
  obtain ⟨A1, n1, c1, A2, n2, c2, A3, n3, c3, A4, n4, c4, A5, n5, c5, A6, n6, c6, rfl, -⟩ := hd.ex
  obtain ⟨W1, m1, e1, S1, m2, e2, rfl, -⟩ := hx.ex
  have ll := hl.len
  have lr := hr.len
  have lle := hl.le
  have no : ¬ (l.length = read.length ∧ ∀ i, i < l.length → (meterV bl kind i (read.getD i g0)).lo ≤ l.getD i 0 ∧ l.getD i 0 ≤ (meterV bl kind i (read.getD i g0)).hi) → Value.bool false = .bool (inB bl kind l read) := fun h => by
    cases hb : inB bl kind l read with
    | false => rfl
    | true => exact absurd (inB_iff.1 hb) h
  refine fn_rule (args := [.agg #[.string d.name, iv d.hours, iv d.cap, iv d.start, .slice A1 n1 c1, .slice A2 n2 c2, .slice A3 n3 c3, .slice A4 n4 c4, .slice A5 n5 c5, .slice A6 n6 c6, .slice W1 m1 e1, .slice S1 m2 e2, .map (some gm)], iv kind, .slice A n c, .slice A' n' c']) Tryz.func73 (by kernel_rfl) ?_
  refine box (fun bq w1 j1 => ?_)
  have Bq : Blk w1 bq 86 [.string d.name, iv d.hours, iv d.cap, iv d.start, .slice A1 n1 c1, .slice A2 n2 c2, .slice A3 n3 c3, .slice A4 n4 c4, .slice A5 n5 c5, .slice A6 n6 c6, .slice W1 m1 e1, .slice S1 m2 e2, .map (some gm)] := j1.blk
  refine len ?_
  refine len ?_
  refine cN (fun q => ?_) (fun heq => ?_)
  · exact ret1 (.bool false) rfl ⟨no fun h => q (by omega), j1.ext⟩
  have heq : n = n' := by omega
  refine len ?_
  refine loop_rule (fun i : Nat => [(19, iv (i : Int))]) (fun i u => i ≤ n ∧ Ext w1 u ∧ ∀ j, j < i → (meterV bl kind j (read.getD j g0)).lo ≤ l.getD j 0 ∧ l.getD j 0 ≤ (meterV bl kind j (read.getD j g0)).hi) (fun i _ => n - i) 0 ⟨rfl, trivial⟩ ⟨by omega, .refl _ _, fun j h => absurd h (Nat.not_lt_zero _)⟩ rfl ?_
  rintro G i u ⟨hi, xu, hall⟩
  have x0u := j1.ext.trans xu
  refine cD (fun hlt => ?_) (fun hge => ?_)
  rotate_left
  · refine ret1 (.bool true) rfl ⟨?_, x0u⟩
    rw [inB_iff.2 ⟨by omega, fun j hj => hall j (by omega)⟩]
  have hlt : i < n := by omega
  obtain ⟨b, o, cs, y, rfl, hy, -, -, hc, rfl, hy64⟩ := (hl.ext x0u).at_ hlt
  obtain ⟨b', o', cs', rg, rfl, hrg, -, hDr, hc', rfl⟩ := (hr.ext x0u).at_ (k := i) (by omega)
  have hge' : l.getD i 0 = y := by rw [List.getD_eq_getElem?_getD, hy]; rfl
  have hre : read.getD i g0 = rg := by rw [List.getD_eq_getElem?_getD, hrg]; rfl
  refine idx i rfl hlt ?_
  refine ld (iv y) (hc 0 _ rfl) ?_
  refine draw_slot 11 (fun z y => ∃ b, z = ptr b ∧ Blk y b 105 [iv (meterV bl kind i rg).lo, iv (meterV bl kind i rg).hi] ∧ Ext u y ∧ u.heap.size ≤ b) ?_ ?_
  · have hd' := hd.ext x0u
    have hx' := hx.ext x0u
    have hm' := hm.kept x0u trivial
    refine drawP (.take 0 (.take 1 (.take 2 (.take 3 (.take 4 (.take 5 (.take 6 (.alt 7 (.eff 8 (.eff 9 .done)) (.eff 8 (.eff 7 (.eff 9 .done))))))))))) [] (fun z => Ext u z) mx (by kernel_rfl) (.refl _ _) ?_
    refine ldAX _ (.blk (Bq.ext xu)) rfl (.refl _ _) ?_
    refine idx i rfl (by omega) ?_
    refine ldAX rg.c hc' rfl (.refl _ _) ?_
    refine ⟨?xl, ?xr⟩
    case' xl =>
      refine call_of (c_meter (kind := kind) (index := (i : Int)) (y := rg) hd' hx' hm') ?_
      rintro _ z1 ⟨rfl, y1⟩
      refine strS y1 ?_
      refine alloc (fun b z2 y2 => ?_)
      refine strS (y1.trans y2.ext) ?_
      refine stA (vs := [iv (meterV bl kind i rg).lo, iv (meterV bl kind i rg).hi]) y2.blk rfl (Nat.le_of_ble_eq_true rfl) (by simp [Value.oneCell']) (fun z3 y3 y3k y3s => ?_)
      have ya := y2.at_
      have yz := y1.size
      have y13 : Ext u z3 := (y1.trans y2.ext).then y3k fun b hb _ => by omega
      refine strS y13 ?_
      exact ⟨b, rfl, y3, y13, by omega⟩
    case' xr =>
      refine alloc (fun b z1 y1 => ?_)
      refine strS y1.ext ?_
      refine call_of (c_meter (kind := kind) (index := (i : Int)) (y := rg) (hd'.ext y1.ext) (hx'.ext y1.ext) (hm'.kept y1.ext trivial)) ?_
      rintro _ z2 ⟨rfl, y2⟩
      refine strS (y1.ext.trans y2) ?_
      refine stA (vs := [iv (meterV bl kind i rg).lo, iv (meterV bl kind i rg).hi]) (y1.blk.ext y2) rfl (Nat.le_of_ble_eq_true rfl) (by simp [Value.oneCell']) (fun z3 y3 y3k y3s => ?_)
      have ya := y1.at_
      have y13 : Ext u z3 := (y1.ext.trans y2).then y3k fun b hb _ => by omega
      refine strS y13 ?_
      exact ⟨b, rfl, y3, y13, by omega⟩
  rintro G9 _ u9 ⟨bm, rfl, bm9, xx9, hbm⟩
  have bad : ¬ ((meterV bl kind i rg).lo ≤ y ∧ y ≤ (meterV bl kind i rg).hi) → Value.bool false = .bool (inB bl kind l read) := fun h => no fun h2 => h (by have := h2.2 i (by omega); rwa [hge', hre] at this)
  refine fldA ?_
  refine ld (iv (meterV bl kind i rg).lo) (bm9.cell rfl) ?_
  refine cD (fun q => ?_) (fun q1 => ?_)
  · exact ret1 (.bool false) rfl ⟨bad fun h => by omega, x0u.trans xx9⟩
  refine fldA ?_
  refine ld (iv (meterV bl kind i rg).hi) (bm9.cell rfl) ?_
  refine cD (fun q => ?_) (fun q2 => ?_)
  · exact ret1 (.bool false) rfl ⟨bad fun h => by omega, x0u.trans xx9⟩
  refine arI (by omega) ?_
  refine next (i + 1) ⟨rfl, trivial⟩ ⟨by omega, xu.trans xx9, fun j hj => ?_⟩ (by omega)
  by_cases e : j = i
  · subst e; rw [hge', hre]; omega
  · exact hall j (by omega)
end
end Go.Proofs.YtcpdhclnmjfldaaGreat

/- Layer 48: contract of fits. -/
namespace Go.Proofs.YtcpdhclnmjfldaaGreat
open Go Go.RowKit

def sumF (q : Nat → Bool) (g : Nat → Int) (k : Nat) : Int := (((List.range k).filter q).map g).sum
theorem sumF_snoc (q : Nat → Bool) (g : Nat → Int) (k : Nat) : sumF q g (k + 1) = sumF q g k + if q k then g k else 0 := by
  unfold sumF
  rw [range_snoc, List.sum_append]
  by_cases h : q k
  · rw [if_pos h, if_pos h]; simp
  · rw [if_neg h, if_neg h]; rfl
theorem sumF_b {q : Nat → Bool} {g : Nat → Int} : ∀ {k : Nat}, (∀ i, i < k → 0 ≤ g i ∧ g i ≤ 1073741824) → 0 ≤ sumF q g k ∧ sumF q g k ≤ k * 1073741824
  | 0, _ => by unfold sumF; simp
  | k + 1, h => by
    have ih := sumF_b (q := q) (g := g) (k := k) fun i hi => h i (by omega)
    have hk := h k (by omega)
    rw [sumF_snoc]
    by_cases hq : q k
    · rw [if_pos hq]; omega
    · rw [if_neg hq]; omega
def qP (x : Ev) (r : Nat) (i : Nat) : Bool := decide ((suE x i).kind = 4) && decide ((suE x i).index = (r : Int))
def qH (d : Dist) (r : Nat) (k : Nat) : Bool := decide ((rcE d k).up = (r : Int))
def qO (d : Dist) (r : Nat) (k : Nat) : Bool := decide ((fmE d k).reach = (r : Int))
def out1 (x : Ev) (t : Tru) (k r : Nat) : Int := t.tails.getD r 0 + sumF (qP x r) (fun i => t.taken.getD i 0) k
def out2 (d : Dist) (x : Ev) (t : Tru) (k r : Nat) : Int := out1 x t x.suspects.length r + sumF (qH d r) (fun i => t.heads.getD i 0) k
def out3 (d : Dist) (x : Ev) (t : Tru) (k r : Nat) : Int := out2 d x t d.reaches.length r + sumF (qO d r) (fun i => t.outlets.getD i 0) k
def mostT (x : Ev) (bl : Int × Int → Option Int) (i : Nat) : Int := if (suE x i).kind = 4 then (bl ((suE x i).kind, (suE x i).index)).getD 0 else 0
def worstV (y : Reach) (h : Int) : Int := if lErr y h = 0 then h - (lostR y h).hi else 0
def bestV (y : Reach) (h : Int) : Int := if lErr y h = 0 then h - (lostR y h).lo else 0
def fitsB (d : Dist) (x : Ev) (bl : Int × Int → Option Int) (v : Wv) (t : Tru) : Bool := inB bl 1 t.heads v.heads && (inB bl 2 t.outlets v.outlets && (inB bl 3 t.tails v.tails && (decide (t.arrived.length = d.reaches.length) && (decide (t.taken.length = x.suspects.length) &&
  (((List.range x.suspects.length).all fun i => inI (t.taken.getD i 0) 0 (mostT x bl i)) && ((List.range d.reaches.length).all fun r => decide (t.arrived.getD r 0 = out3 d x t d.farms.length r) && inI (out3 d x t d.farms.length r) (worstV (rcE d r) (t.heads.getD r 0)) (bestV (rcE d r) (t.heads.getD r 0))))))))
structure FitsL (d : Dist) (x : Ev) (bl : Int × Int → Option Int) (v : Wv) (t : Tru) : Prop where
  i1 : inB bl 1 t.heads v.heads = true
  i2 : inB bl 2 t.outlets v.outlets = true
  i3 : inB bl 3 t.tails v.tails = true
  la : t.arrived.length = d.reaches.length
  lt : t.taken.length = x.suspects.length
  tk : ∀ i, i < x.suspects.length → 0 ≤ t.taken.getD i 0 ∧ t.taken.getD i 0 ≤ mostT x bl i
  ar : ∀ r, r < d.reaches.length → t.arrived.getD r 0 = out3 d x t d.farms.length r ∧ worstV (rcE d r) (t.heads.getD r 0) ≤ out3 d x t d.farms.length r ∧ out3 d x t d.farms.length r ≤ bestV (rcE d r) (t.heads.getD r 0)
theorem fitsB_iff {d : Dist} {x : Ev} {bl : Int × Int → Option Int} {v : Wv} {t : Tru} : fitsB d x bl v t = true ↔ FitsL d x bl v t := by
  unfold fitsB
  simp only [Bool.and_eq_true, decide_eq_true_eq, List.all_eq_true, List.mem_range, inI_iff]
  exact ⟨fun ⟨h1, h2, h3, h4, h5, h6, h7⟩ => ⟨h1, h2, h3, h4, h5, h6, h7⟩, fun h => ⟨h.i1, h.i2, h.i3, h.la, h.lt, h.tk, h.ar⟩⟩
theorem tru_open {D : Nat → Prop} {w : World} {cs : List Value} {t : Tru} (h : tTru.rep D w cs t) : ∃ P1 p1 r1 P2 p2 r2 P3 p3 r3 P4 p4 r4 P5 p5 r5, cs = [.slice P1 p1 r1, .slice P2 p2 r2, .slice P3 p3 r3, .slice P4 p4 r4, .slice P5 p5 r5] ∧ SlR tInt D w P1 p1 t.heads ∧ SlR tInt D w P2 p2 t.outlets ∧ SlR tInt D w P3 p3 t.tails ∧ SlR tInt D w P4 p4 t.arrived ∧ SlR tInt D w P5 p5 t.taken := by
  obtain ⟨_, _, rfl, ⟨P1, p1, r1, rfl, g1, -⟩, _, _, rfl, ⟨P2, p2, r2, rfl, g2, -⟩, _, _, rfl, ⟨P3, p3, r3, rfl, g3, -⟩, _, _, rfl, ⟨P4, p4, r4, rfl, g4, -⟩, P5, p5, r5, rfl, g5, -⟩ := h
  exact ⟨P1, p1, r1, P2, p2, r2, P3, p3, r3, P4, p4, r4, P5, p5, r5, rfl, g1, g2, g3, g4, g5⟩
theorem map_icells {l : List Int} {R : Nat} (h : l.length = R) : (l.map fun v => iv v) = icells R fun r => l.getD r 0 := by
  apply List.ext_getElem?
  intro j
  by_cases hj : j < R
  · rw [icells_at hj, List.getElem?_map, List.getElem?_eq_getElem (by omega), List.getD_eq_getElem?_getD, List.getElem?_eq_getElem (by omega)]; rfl
  · rw [List.getElem?_eq_none (by rw [List.length_map]; omega), List.getElem?_eq_none (by rw [icells_len]; omega)]
section
variable {w : World}
set_option maxRecDepth 8000 in
theorem c_fits {D : Nat → Prop} {csd csx cw ct : List Value} {d : Dist} {x : Ev} {gm : Nat} {set : List Int} {v : Wv} {t : Tru} (hd : DiR D w csd d) (hx : EvR D w csx x) (hm : MapG kv2 w gm (blM x set)) (hv : tWv.rep D w cw v) (ht : tTru.rep D w ct t) (he : askErr d x set = 0) (hmem : v ∈ x.waves) :
    CallZ Tryz.prog 54 #[.agg (csd ++ (csx ++ [Value.map (some gm)])).toArray, .agg cw.toArray, .agg ct.toArray] w (fun u w' => u = .bool (fitsB d x (blF x set) v t) ∧ Ext w w') := by
  have hd := hd.more (D' := fun b => b < w.heap.size) fun b hb _ => hb
  have hx := hx.more (D' := fun b => b < w.heap.size) fun b hb _ => hb
  have hv := tWv.more (fun b hb (_ : D b) => (hb : (fun b => b < w.heap.size) b)) hv
  have ht := tTru.more (fun b hb (_ : D b) => (hb : (fun b => b < w.heap.size) b)) ht
  have gml := hm.lt
  obtain ⟨A1, n1, c1, A2, n2, c2, A3, n3, c3, A4, n4, c4, A5, n5, c5, A6, n6, c6, rfl, hrr, hfa, -⟩ := hd.ex
  obtain ⟨W1, m1, e1, S1, m2, e2, rfl, -, hsu, -⟩ := hx.ex
  obtain ⟨H1, h1, k1, O1, o1, k2, T1, g1, k3, rfl, -, sh, so, st'⟩ := wv_open hv
  obtain ⟨P1, p1, r1, P2, p2, r2, P3, p3, r3, P4, p4, r4, P5, p5, r5, rfl, t1, t2, t3, t4, t5⟩ := tru_open ht
  obtain ⟨hw, lh, lo, lt⟩ := wavOk_of he hmem
  obtain ⟨⟨hR, hR0⟩, hF, hS⟩ := ev_sizes (askErr_ok.1 he).1
  obtain ⟨bl, hbl⟩ : ∃ bl, bl = blF x set := ⟨_, rfl⟩
  rw [← hbl] at hw ⊢
  have hm : MapG kv2 w gm fun key => (bl key).map fun n => iv n := by rw [hbl]; exact hm
  have ln := hrr.len
  have lf := hfa.len
  have ls := hsu.len
  have l1 := t1.len
  have l2 := t2.len
  have l3 := t3.len
  have l4 := t4.len
  have l5 := t5.len
  have no : ¬ FitsL d x bl v t → Value.bool false = .bool (fitsB d x bl v t) := fun h => by
    cases hb : fitsB d x bl v t with
    | false => rfl
    | true => exact absurd (fitsB_iff.1 hb) h
  refine fn_rule (args := [.agg #[.string d.name, iv d.hours, iv d.cap, iv d.start, .slice A1 n1 c1, .slice A2 n2 c2, .slice A3 n3 c3, .slice A4 n4 c4, .slice A5 n5 c5, .slice A6 n6 c6, .slice W1 m1 e1, .slice S1 m2 e2, .map (some gm)], .agg #[iv v.hour, .slice H1 h1 k1, .slice O1 o1 k2, .slice T1 g1 k3], .agg #[.slice P1 p1 r1, .slice P2 p2 r2, .slice P3 p3 r3, .slice P4 p4 r4, .slice P5 p5 r5]]) Tryz.func54 (by kernel_rfl) ?_
  refine box (fun bq w1 j1 => ?_)
  refine box (fun bw w2 j2 => ?_)
  refine box (fun bt w3 j3 => ?_)
  have x3 := (j1.ext.trans j2.ext).trans j3.ext
  have Bq : Blk w3 bq 86 [.string d.name, iv d.hours, iv d.cap, iv d.start, .slice A1 n1 c1, .slice A2 n2 c2, .slice A3 n3 c3, .slice A4 n4 c4, .slice A5 n5 c5, .slice A6 n6 c6, .slice W1 m1 e1, .slice S1 m2 e2, .map (some gm)] := (j1.blk.ext j2.ext).ext j3.ext
  have Bw : Blk w3 bw 92 [iv v.hour, .slice H1 h1 k1, .slice O1 o1 k2, .slice T1 g1 k3] := j2.blk.ext j3.ext
  have Bt : Blk w3 bt 94 [.slice P1 p1 r1, .slice P2 p2 r2, .slice P3 p3 r3, .slice P4 p4 r4, .slice P5 p5 r5] := j3.blk
  refine ldA _ (.blk Bq) rfl ?_
  refine fldA ?_
  refine ld (.slice P1 p1 r1) (Bt.cell rfl) ?_
  refine fldA ?_
  refine ld (.slice H1 h1 k1) (Bw.cell rfl) ?_
  have ce1 := c_ein (kind := 1) (c := r1) (c' := k1) (hd.ext x3) (hx.ext x3) (hm.kept x3 trivial) (t1.ext x3) (sh.ext x3)
  refine callE ce1 (fun w4 i1 x4 => ?_) (fun w4 i1 x4 => ?_)
  rotate_left
  · exact ret1 (.bool false) rfl ⟨no fun h => (by rw [h.i1] at i1; cases i1), x3.trans x4⟩
  have x04 := x3.trans x4
  refine ldA _ (.blk (Bq.ext x4)) rfl ?_
  refine fldA ?_
  refine ld (.slice P2 p2 r2) ((Bt.ext x4).cell rfl) ?_
  refine fldA ?_
  refine ld (.slice O1 o1 k2) ((Bw.ext x4).cell rfl) ?_
  have ce2 := c_ein (kind := 2) (c := r2) (c' := k2) (hd.ext x04) (hx.ext x04) (hm.kept x04 trivial) (t2.ext x04) (so.ext x04)
  refine callE ce2 (fun w5 i2 x5 => ?_) (fun w5 i2 x5 => ?_)
  rotate_left
  · exact ret1 (.bool false) rfl ⟨no fun h => (by rw [h.i2] at i2; cases i2), x04.trans x5⟩
  have x05 := x04.trans x5
  have x35 := x4.trans x5
  refine ldA _ (.blk (Bq.ext x35)) rfl ?_
  refine fldA ?_
  refine ld (.slice P3 p3 r3) ((Bt.ext x35).cell rfl) ?_
  refine fldA ?_
  refine ld (.slice T1 g1 k3) ((Bw.ext x35).cell rfl) ?_
  have ce3 := c_ein (kind := 3) (c := r3) (c' := k3) (hd.ext x05) (hx.ext x05) (hm.kept x05 trivial) (t3.ext x05) (st'.ext x05)
  refine callE ce3 (fun w6 i3 x6 => ?_) (fun w6 i3 x6 => ?_)
  rotate_left
  · exact ret1 (.bool false) rfl ⟨no fun h => (by rw [h.i3] at i3; cases i3), x05.trans x6⟩
  have x06 := x05.trans x6
  have x36 := x35.trans x6
  have Bq6 := Bq.ext x36
  have Bt6 := Bt.ext x36
  obtain ⟨la1, a1⟩ := inB_iff.1 i1
  obtain ⟨la2, a2⟩ := inB_iff.1 i2
  obtain ⟨la3, a3⟩ := inB_iff.1 i3
  -- the numbers are small
  have rb : ∀ {y : Rg} {z : Int}, rgOk y 1073741824 = true → y.lo ≤ z ∧ z ≤ y.hi → 0 ≤ z ∧ z ≤ 1073741824 := fun h k => by rw [rgOk_iff] at h; omega
  have bh : ∀ i, i < d.reaches.length → 0 ≤ t.heads.getD i 0 ∧ t.heads.getD i 0 ≤ 1073741824 := fun i hi => rb (meter_ok hw.bl (hw.heads i hi)) (a1 i (by omega))
  have bo : ∀ i, i < d.farms.length → 0 ≤ t.outlets.getD i 0 ∧ t.outlets.getD i 0 ≤ 1073741824 := fun i hi => rb (meter_ok hw.bl (hw.outlets i hi)) (a2 i (by omega))
  have btl : ∀ i, i < d.reaches.length → 0 ≤ t.tails.getD i 0 ∧ t.tails.getD i 0 ≤ 1073741824 := fun i hi => rb (meter_ok hw.bl (hw.tails i hi)) (a3 i (by omega))
  have bm : ∀ i, mostT x bl i ≤ 1073741824 := fun i => by
    unfold mostT
    split
    · cases hb : bl ((suE x i).kind, (suE x i).index) with
      | none => decide
      | some n => exact (hw.bl _ n hb).2
    · decide
  refine fldA ?_
  refine ld (.slice P4 p4 r4) (Bt6.cell rfl) ?_
  refine len ?_
  refine fldA ?_
  refine fldA ?_
  refine ld (.slice A1 n1 c1) (Bq6.cell rfl) ?_
  refine len ?_
  refine cN (fun q => ?_) (fun q4 => ?_)
  · exact ret1 (.bool false) rfl ⟨no fun h => q (by have := h.la; omega), x06⟩
  have q4 : p4 = n1 := by omega
  refine fldA ?_
  refine ld (.slice P5 p5 r5) (Bt6.cell rfl) ?_
  refine len ?_
  refine fldA ?_
  refine fldA ?_
  refine ld (.slice S1 m2 e2) (Bq6.cell rfl) ?_
  refine len ?_
  refine cN (fun q => ?_) (fun q5 => ?_)
  · exact ret1 (.bool false) rfl ⟨no fun h => q (by have := h.lt; omega), x06⟩
  have q5 : p5 = m2 := by omega
  refine fldA ?_
  refine ld (.slice P3 p3 r3) (Bt6.cell rfl) ?_
  refine call_of (c_cloneI (t3.ext x06) (by omega) (by omega)) ?_
  rintro _ w7 ⟨x7, q, cq, rest, rfl, bo7, hq7⟩
  rw [map_icells (R := d.reaches.length) (by omega)] at bo7
  have x07 := x06.trans x7
  have z06 := x06.size
  have Bq7 := Bq6.ext x7
  have Bt7 := Bt6.ext x7
  have lbq := Bq6.lt
  have lbt := Bt6.lt
  have env : ∀ u, Kept (fun b => b ≠ q) w7 u → Kept (fun b => b < w.heap.size) w u := fun u k => (Ext.any x07).then k fun b hb h => by omega
  have out1_0 : (fun r => t.tails.getD r 0) = out1 x t 0 := by funext r; unfold out1 sumF; simp
  rw [out1_0] at bo7
  refine fldA ?_
  refine fldA ?_
  refine ld (.slice S1 m2 e2) (Bq7.cell rfl) ?_
  refine len ?_
  refine loop_rule (fun i : Nat => [(73, iv (i : Int))]) (fun i u => i ≤ m2 ∧ Kept (fun b => b ≠ q) w7 u ∧ Blk u q 3 (icells d.reaches.length (out1 x t i) ++ rest) ∧ ∀ j, j < i → 0 ≤ t.taken.getD j 0 ∧ t.taken.getD j 0 ≤ mostT x bl j) (fun i _ => m2 - i) 0 ⟨rfl, trivial⟩ ⟨by omega, .refl _ _, bo7, fun j h => absurd h (Nat.not_lt_zero _)⟩ rfl ?_
  rintro G i u ⟨hi, ku, bou, htk⟩
  refine cD (fun hlt => ?_) (fun hge => ?_)
  · have hlt : i < m2 := by omega
    obtain ⟨b, o, cs, s, rfl, hs', -, -, hc, rfl⟩ := (hsu.kept (env u ku) fun b _ h => h).at_ hlt
    have hse : suE x i = s := by unfold suE; rw [List.getD_eq_getElem?_getD, hs']; rfl
    refine idx i rfl hlt ?_
    refine ldA s.c hc rfl ?_
    refine alloc (fun ty z1 q1 => ?_)
    refine stA (vs := s.c) q1.blk rfl (Nat.le_of_ble_eq_true rfl) (by simp [Value.oneCell']) (fun z2 tb s2' zs => ?_)
    have ta := q1.at_
    have lou := bou.lt
    have xz2 : Ext u z2 := q1.ext.then s2' fun b hb _ e => by omega
    have tb : Blk z2 ty 112 s.c := tb
    have kz := ku.ext xz2
    have bo2 := bou.ext xz2
    have bt2 := Bt7.kept kz (by omega)
    have bq2 := Bq7.kept kz (by omega)
    obtain ⟨f, hf⟩ : ∃ f, f = out1 x t i := ⟨_, rfl⟩
    rw [← hf] at bo2
    obtain ⟨bp, op, cp, yv, hP5, hyv, -, -, hcp, rfl, -⟩ := (t5.kept (env z2 kz) fun b _ h => h).at_ (k := i) (by omega)
    subst hP5
    have hyd : t.taken.getD i 0 = yv := by rw [List.getD_eq_getElem?_getD, hyv]; rfl
    refine fldA ?_
    refine ld (iv s.kind) (tb.cell rfl) ?_
    have bad : ¬ (0 ≤ yv ∧ yv ≤ mostT x bl i) → Value.bool false = .bool (fitsB d x bl v t) := fun h => no fun h2 => h (by rw [← hyd]; exact h2.tk i (by omega))
    have xe : Ext w z2 := x07.then kz fun b hb _ => by omega
    have hbm := bm i
    have fb : ∀ r, r < d.reaches.length → 0 ≤ f r ∧ f r ≤ 1073741824 + i * 1073741824 := fun r hr => by
      rw [hf]; unfold out1
      have := sumF_b (q := qP x r) (g := fun i => t.taken.getD i 0) (k := i) fun j hj => by have := htk j hj; have := bm j; omega
      have := btl r hr
      omega
    have nextF : ∀ (g : Nat → Int) z3, Kept (fun b => b ≠ q) z2 z3 → 0 ≤ yv ∧ yv ≤ mostT x bl i → Blk z3 q 3 (icells d.reaches.length g ++ rest) → (∀ r, r < d.reaches.length → g r = f r + if qP x r i then yv else 0) → i + 1 ≤ m2 ∧ Kept (fun b => b ≠ q) w7 z3 ∧ Blk z3 q 3 (icells d.reaches.length (out1 x t (i + 1)) ++ rest) ∧ ∀ j, j < i + 1 → 0 ≤ t.taken.getD j 0 ∧ t.taken.getD j 0 ≤ mostT x bl j := fun g z3 k3 hy hb hg => by
      refine ⟨by omega, kz.trans k3, ?_, fun j hj => ?_⟩
      · have e : icells d.reaches.length (out1 x t (i + 1)) = icells d.reaches.length g := by
          unfold icells
          refine List.map_congr_left fun r hr => ?_
          rw [hg r (List.mem_range.1 hr), hf]
          unfold out1
          rw [sumF_snoc, hyd]
          congr 1; omega
        rw [e]; exact hb
      · by_cases e : j = i
        · subst e; rw [hyd]; exact hy
        · exact htk j (by omega)
    refine cD (fun hk4 => ?_) (fun hk4 => ?_)
    · have hmo : mostT x bl i = (bl (s.kind, s.index)).getD 0 := by unfold mostT; rw [hse, if_pos hk4]
      refine fldA ?_
      refine ld (.map (some gm)) (bq2.cell rfl) ?_
      refine fldA ?_
      refine ld (iv s.kind) (tb.cell rfl) ?_
      refine fldA ?_
      refine ld (iv s.index) (tb.cell rfl) ?_
      refine bld [iv s.kind, iv s.index] (by kernel_rfl) ?_
      refine lookG1 (kv := kv2) (s.kind, s.index) (iv (mostT x bl i)) (fun y hy => by subst hy; exact ⟨_, hm.kept (env _ kz) gml, by rw [hmo]; cases bl (s.kind, s.index) <;> rfl⟩) ?_
      refine fldA ?_
      refine ld (.slice (some (ad bp op)) p5 r5) (bt2.cell rfl) ?_
      refine idx i rfl (by omega) ?_
      refine ld (iv yv) (hcp 0 _ rfl) ?_
      refine cD (fun q => ?_) (fun y0 => ?_)
      · exact ret1 (.bool false) rfl ⟨bad fun h => by omega, xe⟩
      refine fldA ?_
      refine ld (.slice (some (ad bp op)) p5 r5) (bt2.cell rfl) ?_
      refine idx i rfl (by omega) ?_
      refine ld (iv yv) (hcp 0 _ rfl) ?_
      refine cD (fun q => ?_) (fun y1 => ?_)
      · exact ret1 (.bool false) rfl ⟨bad fun h => by omega, xe⟩
      refine fldA ?_
      refine ld (iv s.kind) (tb.cell rfl) ?_
      refine cD (fun _ => ?_) (fun q => absurd hk4 q)
      have hsx := hw.sus i (by omega) (by rw [hse]; exact hk4)
      rw [hse] at hsx
      obtain ⟨rI, hrI⟩ : ∃ rI : Nat, s.index = (rI : Int) := ⟨s.index.toNat, by omega⟩
      have hrl : rI < d.reaches.length := by omega
      have fbr := fb rI hrl
      have hcell : (icells d.reaches.length f ++ rest)[rI]? = some (iv (f rI)) := by rw [List.getElem?_append_left (by rw [icells_len]; omega), icells_at (by omega)]
      refine drawP (.take 0 (.take 1 (.take 2 (.take 3 (.take 4 (.take 5 (.take 6 (.take 7 (.take 8 (.take 9 (.take 10 (.take 11 (.bar (.eff 12 .done)))))))))))))) [12] (fun u => u = z2) mx (by kernel_rfl) rfl ?_
      refine fldA ?_
      refine ld (iv s.index) (tb.cell rfl) ?_
      refine idx rI hrI (by omega) ?_
      refine ld (iv (f rI)) (by simpa using bo2.cell hcell) ?_
      refine fldA ?_
      refine ld (.slice (some (ad bp op)) p5 r5) (bt2.cell rfl) ?_
      refine idx i rfl (by omega) ?_
      refine ld (iv yv) (hcp 0 _ rfl) ?_
      refine arI (by omega) ?_
      refine idx rI hrI (by omega) ?_
      refine barS (fun _ => True) trivial ?_
      refine st bo2 (by rw [List.length_append, icells_len]; omega) rfl (fun z3 bo3 k3 s3 => ?_)
      refine strS trivial ?_
      have bo3 : Blk z3 q 3 ((icells d.reaches.length f ++ rest).set (0 + rI * 1) (iv (f rI + yv))) := bo3
      have bo3 : Blk z3 q 3 (icells d.reaches.length (setF f rI (f rI + yv)) ++ rest) := by
        have e := icells_set (R := d.reaches.length) (i := rI) (f := f) (g := setF f rI (f rI + yv)) (fun j _ => by unfold setF; by_cases e : j = rI <;> simp [e])
        rw [show setF f rI (f rI + yv) rI = f rI + yv from by unfold setF; rw [if_pos rfl]] at e
        rw [show 0 + rI * 1 = rI by omega, List.set_append_left _ _ (by rw [icells_len]; omega), e] at bo3
        exact bo3
      refine arI (n := (i : Int) + 1) (by omega) ?_
      refine next (i + 1) ⟨rfl, trivial⟩ (nextF _ z3 k3 (by omega) bo3 fun r hr => ?_) (by omega)
      unfold setF qP
      rw [hse, decide_eq_true hk4, hrI]
      by_cases e : r = rI
      · subst e; simp
      · have : ¬ ((rI : Int) = (r : Int)) := by omega
        simp [e, this]
    · have hmo : mostT x bl i = 0 := by unfold mostT; rw [hse, if_neg hk4]
      refine fldA ?_
      refine ld (.slice (some (ad bp op)) p5 r5) (bt2.cell rfl) ?_
      refine idx i rfl (by omega) ?_
      refine ld (iv yv) (hcp 0 _ rfl) ?_
      refine cD (fun q => ?_) (fun y0 => ?_)
      · exact ret1 (.bool false) rfl ⟨bad fun h => by omega, xe⟩
      refine fldA ?_
      refine ld (.slice (some (ad bp op)) p5 r5) (bt2.cell rfl) ?_
      refine idx i rfl (by omega) ?_
      refine ld (iv yv) (hcp 0 _ rfl) ?_
      refine cD (fun q => ?_) (fun y1 => ?_)
      · exact ret1 (.bool false) rfl ⟨bad fun h => by omega, xe⟩
      refine fldA ?_
      refine ld (iv s.kind) (tb.cell rfl) ?_
      refine cD (fun q => absurd q hk4) (fun _ => ?_)
      refine arI (n := (i : Int) + 1) (by omega) ?_
      refine next (i + 1) ⟨rfl, trivial⟩ (nextF f z2 (.refl _ _) (by omega) bo2 fun r hr => ?_) (by omega)
      unfold qP
      rw [hse, decide_eq_false hk4]; simp
  have hiS : i = x.suspects.length := by omega
  have htk' : ∀ j, j < x.suspects.length → 0 ≤ t.taken.getD j 0 ∧ t.taken.getD j 0 ≤ mostT x bl j := fun j hj => htk j (by omega)
  have e2 : out1 x t i = out2 d x t 0 := by rw [hiS]; funext r; unfold out2 sumF; simp
  rw [e2] at bou
  have Bq8 := Bq7.kept ku (by omega)
  have fb1 : ∀ r, r < d.reaches.length → 0 ≤ out1 x t x.suspects.length r ∧ out1 x t x.suspects.length r ≤ 13 * 1073741824 := fun r hr => by
    unfold out1
    have := sumF_b (q := qP x r) (g := fun i => t.taken.getD i 0) (k := x.suspects.length) fun j hj => by have := htk' j hj; have := bm j; omega
    have := btl r hr
    omega
  clear htk hge e2 hi
  refine fldA ?_
  refine fldA ?_
  refine ld (.slice A1 n1 c1) (Bq8.cell rfl) ?_
  refine len ?_
  refine loop_rule (fun k : Nat => [(124, iv (k : Int))]) (fun k u => k ≤ n1 ∧ Kept (fun b => b ≠ q) w7 u ∧ Blk u q 3 (icells d.reaches.length (out2 d x t k) ++ rest)) (fun k _ => n1 - k) 0 ⟨rfl, trivial⟩ ⟨by omega, ku, bou⟩ rfl ?_
  clear ku bou Bq8
  rintro G2 i u ⟨hi, ku, bou⟩
  refine cD (fun hlt => ?_) (fun hge => ?_)
  · have hlt : i < n1 := by omega
    obtain ⟨b, o, cs, y, rfl, hy', -, -, hc, rfl⟩ := (hrr.kept (env u ku) fun b _ h => h).at_ hlt
    have hye : rcE d i = y := by unfold rcE; rw [List.getD_eq_getElem?_getD, hy']; rfl
    refine idx i rfl hlt ?_
    refine ldA y.c hc rfl ?_
    refine alloc (fun ty z1 q1 => ?_)
    refine stA (vs := y.c) q1.blk rfl (Nat.le_of_ble_eq_true rfl) (by simp [Value.oneCell']) (fun z2 tb s2' zs => ?_)
    have ta := q1.at_
    have lou := bou.lt
    have xz2 : Ext u z2 := q1.ext.then s2' fun b hb _ e => by omega
    have tb : Blk z2 ty 107 y.c := tb
    have kz := ku.ext xz2
    have bo2 := bou.ext xz2
    have bt2 := Bt7.kept kz (by omega)
    obtain ⟨f, hf⟩ : ∃ f, f = out2 d x t i := ⟨_, rfl⟩
    rw [← hf] at bo2
    obtain ⟨bp, op, cp, yv, hP, hyv, -, -, hcp, rfl, -⟩ := (t1.kept (env z2 kz) fun b _ h => h).at_ (k := i) (by omega)
    subst hP
    have hyd : t.heads.getD i 0 = yv := by rw [List.getD_eq_getElem?_getD, hyv]; rfl
    have hyb := bh i (by omega)
    rw [hyd] at hyb
    have hup := hw.up i (by omega)
    rw [hye] at hup
    have fb : ∀ r, r < d.reaches.length → 0 ≤ f r ∧ f r ≤ 13 * 1073741824 + i * 1073741824 := fun r hr => by
      rw [hf]; unfold out2
      have := sumF_b (q := qH d r) (g := fun i => t.heads.getD i 0) (k := i) fun j hj => bh j (by omega)
      have := fb1 r hr
      omega
    have nextF : ∀ (g : Nat → Int) z3, Kept (fun b => b ≠ q) z2 z3 → Blk z3 q 3 (icells d.reaches.length g ++ rest) → (∀ r, r < d.reaches.length → g r = f r + if qH d r i then yv else 0) → i + 1 ≤ n1 ∧ Kept (fun b => b ≠ q) w7 z3 ∧ Blk z3 q 3 (icells d.reaches.length (out2 d x t (i + 1)) ++ rest) := fun g z3 k3 hb hg => by
      refine ⟨by omega, kz.trans k3, ?_⟩
      have e : icells d.reaches.length (out2 d x t (i + 1)) = icells d.reaches.length g := by
        unfold icells
        refine List.map_congr_left fun r hr => ?_
        rw [hg r (List.mem_range.1 hr), hf]
        unfold out2
        rw [sumF_snoc, hyd]
        congr 1; omega
      rw [e]; exact hb
    refine fldA ?_
    refine ld (iv y.up) (tb.cell rfl) ?_
    refine cD (fun hge0 => ?_) (fun hlt0 => ?_)
    · obtain ⟨rI, hrI⟩ : ∃ rI : Nat, y.up = (rI : Int) := ⟨y.up.toNat, by omega⟩
      have hrl : rI < d.reaches.length := by omega
      have fbr := fb rI hrl
      have hcell : (icells d.reaches.length f ++ rest)[rI]? = some (iv (f rI)) := by rw [List.getElem?_append_left (by rw [icells_len]; omega), icells_at (by omega)]
      refine drawP (.take 0 (.take 1 (.take 2 (.take 3 (.take 4 (.take 5 (.take 6 (.take 7 (.take 8 (.take 9 (.take 10 (.take 11 (.bar (.eff 12 .done)))))))))))))) [12] (fun u => u = z2) mx (by kernel_rfl) rfl ?_
      refine fldA ?_
      refine ld (iv y.up) (tb.cell rfl) ?_
      refine idx rI hrI (by omega) ?_
      refine ld (iv (f rI)) (by simpa using bo2.cell hcell) ?_
      refine fldA ?_
      refine ld (.slice (some (ad bp op)) p1 r1) (bt2.cell rfl) ?_
      refine idx i rfl (by omega) ?_
      refine ld (iv yv) (hcp 0 _ rfl) ?_
      refine arI (by omega) ?_
      refine idx rI hrI (by omega) ?_
      refine barS (fun _ => True) trivial ?_
      refine st bo2 (by rw [List.length_append, icells_len]; omega) rfl (fun z3 bo3 k3 s3 => ?_)
      refine strS trivial ?_
      have bo3 : Blk z3 q 3 ((icells d.reaches.length f ++ rest).set (0 + rI * 1) (iv (f rI + yv))) := bo3
      have bo3 : Blk z3 q 3 (icells d.reaches.length (setF f rI (f rI + yv)) ++ rest) := by
        have e := icells_set (R := d.reaches.length) (i := rI) (f := f) (g := setF f rI (f rI + yv)) (fun j _ => by unfold setF; by_cases e : j = rI <;> simp [e])
        rw [show setF f rI (f rI + yv) rI = f rI + yv from by unfold setF; rw [if_pos rfl]] at e
        rw [show 0 + rI * 1 = rI by omega, List.set_append_left _ _ (by rw [icells_len]; omega), e] at bo3
        exact bo3
      refine arI (n := (i : Int) + 1) (by omega) ?_
      refine next (i + 1) ⟨rfl, trivial⟩ (nextF _ z3 k3 bo3 fun r hr => ?_) (by omega)
      unfold setF qH
      rw [hye, hrI]
      by_cases e : r = rI
      · subst e; simp
      · have : ¬ ((rI : Int) = (r : Int)) := by omega
        simp [e, this]
    · refine arI (n := (i : Int) + 1) (by omega) ?_
      refine next (i + 1) ⟨rfl, trivial⟩ (nextF f z2 (.refl _ _) bo2 fun r hr => ?_) (by omega)
      unfold qH
      rw [hye, decide_eq_false (by omega)]; simp
  have hiR : i = d.reaches.length := by omega
  have e3 : out2 d x t i = out3 d x t 0 := by rw [hiR]; funext r; unfold out3 sumF; simp
  rw [e3] at bou
  have Bq8 := Bq7.kept ku (by omega)
  have fb2 : ∀ r, r < d.reaches.length → 0 ≤ out2 d x t d.reaches.length r ∧ out2 d x t d.reaches.length r ≤ 77 * 1073741824 := fun r hr => by
    unfold out2
    have := sumF_b (q := qH d r) (g := fun i => t.heads.getD i 0) (k := d.reaches.length) fun j hj => bh j (by omega)
    have := fb1 r hr
    omega
  clear hge e3 hi
  refine fldA ?_
  refine fldA ?_
  refine ld (.slice A2 n2 c2) (Bq8.cell rfl) ?_
  refine len ?_
  refine loop_rule (fun k : Nat => [(149, iv (k : Int))]) (fun k u => k ≤ n2 ∧ Kept (fun b => b ≠ q) w7 u ∧ Blk u q 3 (icells d.reaches.length (out3 d x t k) ++ rest)) (fun k _ => n2 - k) 0 ⟨rfl, trivial⟩ ⟨by omega, ku, bou⟩ rfl ?_
  clear ku bou Bq8
  rintro G3 i u ⟨hi, ku, bou⟩
  refine cD (fun hlt => ?_) (fun hge => ?_)
  · have hlt : i < n2 := by omega
    obtain ⟨b, o, cs, y, rfl, hy', -, -, hc, rfl⟩ := (hfa.kept (env u ku) fun b _ h => h).at_ hlt
    have hye : fmE d i = y := by unfold fmE; rw [List.getD_eq_getElem?_getD, hy']; rfl
    refine idx i rfl hlt ?_
    refine ldA y.c hc rfl ?_
    refine alloc (fun ty z1 q1 => ?_)
    refine stA (vs := y.c) q1.blk rfl (Nat.le_of_ble_eq_true rfl) (by simp [Value.oneCell']) (fun z2 tb s2' zs => ?_)
    have ta := q1.at_
    have lou := bou.lt
    have xz2 : Ext u z2 := q1.ext.then s2' fun b hb _ e => by omega
    have tb : Blk z2 ty 109 y.c := tb
    have kz := ku.ext xz2
    have bo2 := bou.ext xz2
    have bt2 := Bt7.kept kz (by omega)
    obtain ⟨f, hf⟩ : ∃ f, f = out3 d x t i := ⟨_, rfl⟩
    rw [← hf] at bo2
    obtain ⟨bp, op, cp, yv, hP, hyv, -, -, hcp, rfl, -⟩ := (t2.kept (env z2 kz) fun b _ h => h).at_ (k := i) (by omega)
    subst hP
    have hyd : t.outlets.getD i 0 = yv := by rw [List.getD_eq_getElem?_getD, hyv]; rfl
    have hyb := bo i (by omega)
    rw [hyd] at hyb
    have hfm := hw.farm i (by omega)
    rw [hye] at hfm
    have fb : ∀ r, r < d.reaches.length → 0 ≤ f r ∧ f r ≤ 77 * 1073741824 + i * 1073741824 := fun r hr => by
      rw [hf]; unfold out3
      have := sumF_b (q := qO d r) (g := fun i => t.outlets.getD i 0) (k := i) fun j hj => bo j (by omega)
      have := fb2 r hr
      omega
    obtain ⟨rI, hrI⟩ : ∃ rI : Nat, y.reach = (rI : Int) := ⟨y.reach.toNat, by omega⟩
    have hrl : rI < d.reaches.length := by omega
    have fbr := fb rI hrl
    have hcell : (icells d.reaches.length f ++ rest)[rI]? = some (iv (f rI)) := by rw [List.getElem?_append_left (by rw [icells_len]; omega), icells_at (by omega)]
    refine drawP (.take 0 (.take 1 (.take 2 (.take 3 (.take 4 (.take 5 (.take 6 (.take 7 (.take 8 (.take 9 (.take 10 (.take 11 (.bar (.eff 12 .done)))))))))))))) [12] (fun u => u = z2) mx (by kernel_rfl) rfl ?_
    refine fldA ?_
    refine ld (iv y.reach) (tb.cell rfl) ?_
    refine idx rI hrI (by omega) ?_
    refine ld (iv (f rI)) (by simpa using bo2.cell hcell) ?_
    refine fldA ?_
    refine ld (.slice (some (ad bp op)) p2 r2) (bt2.cell rfl) ?_
    refine idx i rfl (by omega) ?_
    refine ld (iv yv) (hcp 0 _ rfl) ?_
    refine arI (by omega) ?_
    refine idx rI hrI (by omega) ?_
    refine barS (fun _ => True) trivial ?_
    refine st bo2 (by rw [List.length_append, icells_len]; omega) rfl (fun z3 bo3 k3 s3 => ?_)
    refine strS trivial ?_
    have bo3 : Blk z3 q 3 ((icells d.reaches.length f ++ rest).set (0 + rI * 1) (iv (f rI + yv))) := bo3
    have bo3 : Blk z3 q 3 (icells d.reaches.length (setF f rI (f rI + yv)) ++ rest) := by
      have e := icells_set (R := d.reaches.length) (i := rI) (f := f) (g := setF f rI (f rI + yv)) (fun j _ => by unfold setF; by_cases e : j = rI <;> simp [e])
      rw [show setF f rI (f rI + yv) rI = f rI + yv from by unfold setF; rw [if_pos rfl]] at e
      rw [show 0 + rI * 1 = rI by omega, List.set_append_left _ _ (by rw [icells_len]; omega), e] at bo3
      exact bo3
    refine arI (n := (i : Int) + 1) (by omega) ?_
    refine next (i + 1) ⟨rfl, trivial⟩ ⟨by omega, kz.trans k3, ?_⟩ (by omega)
    have e : icells d.reaches.length (out3 d x t (i + 1)) = icells d.reaches.length (setF f rI (f rI + yv)) := by
      unfold icells
      refine List.map_congr_left fun r hr => ?_
      unfold setF
      rw [hf]
      unfold out3
      rw [sumF_snoc, hyd]
      unfold qO
      rw [hye, hrI]
      by_cases e : r = rI
      · subst e; simp; omega
      · have : ¬ ((rI : Int) = (r : Int)) := by omega
        simp [e, this]
    rw [e]; exact bo3
  have hiF : i = d.farms.length := by omega
  rw [hiF] at bou
  have Bq8 := Bq7.kept ku (by omega)
  have Bt8 := Bt7.kept ku (by omega)
  clear hge hi
  have x0u : Ext w u := x07.then ku fun b hb _ => by omega
  refine fldA ?_
  refine fldA ?_
  refine ld (.slice A1 n1 c1) (Bq8.cell rfl) ?_
  refine len ?_
  refine loop_rule (fun k : Nat => [(171, iv (k : Int))]) (fun k z => k ≤ n1 ∧ Ext u z ∧ ∀ r, r < k → t.arrived.getD r 0 = out3 d x t d.farms.length r ∧ worstV (rcE d r) (t.heads.getD r 0) ≤ out3 d x t d.farms.length r ∧ out3 d x t d.farms.length r ≤ bestV (rcE d r) (t.heads.getD r 0)) (fun k _ => n1 - k) 0 ⟨rfl, trivial⟩ ⟨by omega, .refl _ _, fun r h => absurd h (Nat.not_lt_zero _)⟩ rfl ?_
  rintro G4 i z ⟨hi, xz, har⟩
  have x0z := x0u.trans xz
  refine cD (fun hlt => ?_) (fun hge => ?_)
  rotate_left
  · refine ret1 (.bool true) rfl ⟨?_, x0z⟩
    rw [fitsB_iff.2 ⟨i1, i2, i3, by omega, by omega, htk', fun r hr => har r (by omega)⟩]
  have hlt : i < n1 := by omega
  obtain ⟨b, o, cs, y, rfl, hy', -, -, hc, rfl⟩ := (hrr.ext x0z).at_ hlt
  have hye : rcE d i = y := by unfold rcE; rw [List.getD_eq_getElem?_getD, hy']; rfl
  refine idx i rfl hlt ?_
  refine ldA y.c hc rfl ?_
  refine alloc (fun ty z1 q1 => ?_)
  refine stA (vs := y.c) q1.blk rfl (Nat.le_of_ble_eq_true rfl) (by simp [Value.oneCell']) (fun z2 tb s2' zs => ?_)
  have ta := q1.at_
  have xz2 : Ext z z2 := q1.ext.then s2' fun b hb _ e => by omega
  have tb : Blk z2 ty 107 y.c := tb
  have xu2 := xz.trans xz2
  have x02 := x0z.trans xz2
  have bt2 := Bt8.ext xu2
  have bo2 := bou.ext xu2
  obtain ⟨bp, op, cp, yv, hP, hyv, -, -, hcp, rfl, -⟩ := (t1.ext x02).at_ (k := i) (by omega)
  subst hP
  obtain ⟨ba, oa, ca, av, hP, hav, -, -, hca, rfl, -⟩ := (t4.ext x02).at_ (k := i) (by omega)
  subst hP
  have hyd : t.heads.getD i 0 = yv := by rw [List.getD_eq_getElem?_getD, hyv]; rfl
  have had : t.arrived.getD i 0 = av := by rw [List.getD_eq_getElem?_getD, hav]; rfl
  have hcv := hcp 0 _ rfl
  obtain ⟨ov, hov⟩ : ∃ ov, ov = out3 d x t d.farms.length i := ⟨_, rfl⟩
  have hoc : (icells d.reaches.length (out3 d x t d.farms.length) ++ rest)[i]? = some (iv ov) := by rw [List.getElem?_append_left (by rw [icells_len]; omega), icells_at (by omega), hov]
  have bad : ¬ (av = ov ∧ worstV y yv ≤ ov ∧ ov ≤ bestV y yv) → Value.bool false = .bool (fitsB d x bl v t) := fun h => no fun h2 => h (by have := h2.ar i (by omega); rwa [had, hyd, hye, ← hov] at this)
  refine drawK (fun _ => True) [0, 1, 2, 3, 4, 5, 6, 7, 8, 9, 10, 11] [6] mx (by kernel_rfl) ?_
  refine ldAK _ (.blk tb) rfl trivial (.refl _ _) ?_
  refine fldA ?_
  refine ldK (.slice (some (ad bp op)) p1 r1) (bt2.cell rfl) trivial (.refl _ _) ?_
  refine idx i rfl (by omega) ?_
  refine ldK (iv yv) hcv trivial (.refl _ _) ?_
  refine call_of (c_lWorst (r := y) (v := yv)) ?_
  rintro _ z3 ⟨rfl, xz3⟩
  refine strK xz3 ?_
  refine drawK (fun _ => True) [0, 1, 2, 3, 4, 5, 6, 7, 8, 9, 10, 11] [6] mx (by kernel_rfl) ?_
  refine ldAK _ (.blk (tb.ext xz3)) rfl trivial (.refl _ _) ?_
  refine fldA ?_
  refine ldK (.slice (some (ad bp op)) p1 r1) ((bt2.ext xz3).cell rfl) trivial (.refl _ _) ?_
  refine idx i rfl (by omega) ?_
  refine ldK (iv yv) (xz3.cell hcv trivial) trivial (.refl _ _) ?_
  refine call_of (c_lBest (r := y) (v := yv)) ?_
  rintro _ z4 ⟨rfl, xz4⟩
  refine strK xz4 ?_
  have x24 := xz3.trans xz4
  have bo4 := bo2.ext x24
  have x04' := x02.trans x24
  refine drawQ mx (by kernel_rfl) ?_
  refine fldA ?_
  refine ld (.slice (some (ad ba oa)) p4 r4) ((bt2.ext x24).cell rfl) ?_
  refine idx i rfl (by omega) ?_
  refine ld (iv av) (x24.cell (hca 0 _ rfl) trivial) ?_
  refine idx i rfl (by omega) ?_
  refine ld (iv ov) (by simpa using bo4.cell hoc) ?_
  refine cN (fun hne => ?_) (fun heq => ?_)
  · exact ret1 (.bool false) rfl ⟨bad fun h => hne h.1, x04'⟩
  have heq : av = ov := heq
  refine idx i rfl (by omega) ?_
  refine ld (iv ov) (by simpa using bo4.cell hoc) ?_
  refine cD (fun hlo => ?_) (fun hlo => ?_)
  · exact ret1 (.bool false) rfl ⟨bad fun h => by have := h.2.1; unfold worstV at this; omega, x04'⟩
  refine idx i rfl (by omega) ?_
  refine ld (iv ov) (by simpa using bo4.cell hoc) ?_
  refine cD (fun hhi => ?_) (fun hhi => ?_)
  · exact ret1 (.bool false) rfl ⟨bad fun h => by have := h.2.2; unfold bestV at this; omega, x04'⟩
  refine arI (n := (i : Int) + 1) (by omega) ?_
  refine next (i + 1) ⟨rfl, trivial⟩ ⟨by omega, xu2.trans x24, fun r hr => ?_⟩ (by omega)
  by_cases e : r = i
  · subst e
    rw [had, hyd, hye, ← hov]
    refine ⟨heq, ?_, ?_⟩
    · unfold worstV; omega
    · unfold bestV; omega
  · exact har r (by omega)
end
end Go.Proofs.YtcpdhclnmjfldaaGreat

/- Layer 48: contract of Accepts. -/
namespace Go.Proofs.YtcpdhclnmjfldaaGreat
open Go Go.RowKit

def allB (d : Dist) (x : Ev) (set : List Int) (vs : List Wv) (l : List Tru) : Bool := decide (vs.length = l.length) && (vs.zip l).all fun p => fitsB d x (blF x set) p.1 p.2
def accV (d : Dist) (x : Ev) (set : List Int) (l : List Tru) : Bool := if askErr d x set = 0 then allB d x set x.waves l else false
section
variable {w : World}
theorem c_eqWT {D : Nat → Prop} {csd csx : List Value} {d : Dist} {x : Ev} {gm : Nat} {set : List Int} {l : List Tru} {A A' : Option Addr} {n c n' c' : Nat} (hd : DiR D w csd d) (hx : EvR D w csx x) (hm : MapG kv2 w gm (blM x set)) (he : askErr d x set = 0) (hs : SlR tWv D w A n x.waves) (hl : SlR tTru D w A' n' l) :
    CallZ Tryz.prog 53 #[.slice A n c, .slice A' n' c', .func (.func 54) #[.agg (csd ++ (csx ++ [Value.map (some gm)])).toArray] #[]] w (fun u w' => u = .bool (allB d x set x.waves l) ∧ Ext w w') := by
  have ln := hs.len
  have ln' := hl.len
  have lle := hs.le
  refine fn_rule (args := [.slice A n c, .slice A' n' c', .func (.func 54) #[.agg (csd ++ (csx ++ [Value.map (some gm)])).toArray] #[]]) Tryz.func53 (by kernel_rfl) ?_
  refine len ?_
  refine len ?_
  refine cN (fun q => ?_) (fun q => ?_)
  · exact ret1 (.bool false) rfl ⟨by unfold allB; rw [decide_eq_false (fun h => q (by omega))]; rfl, .refl _ _⟩
  have q : n = n' := by omega
  refine len ?_
  refine loop_rule (fun k : Nat => [(17, iv (k : Int))]) (fun k u => k ≤ n ∧ Ext w u ∧ ((x.waves.zip l).all fun p => fitsB d x (blF x set) p.1 p.2) = (((x.waves.zip l).drop k).all fun p => fitsB d x (blF x set) p.1 p.2)) (fun k _ => n - k) 0 ⟨rfl, trivial⟩ ⟨by omega, .refl _ _, rfl⟩ rfl ?_
  rintro G k u ⟨hk, xu, hal⟩
  refine cD (fun hlt => ?_) (fun hge => ?_)
  rotate_left
  · refine ret1 (.bool true) rfl ⟨?_, xu⟩
    unfold allB
    rw [decide_eq_true (by omega), hal, List.drop_eq_nil_of_le (by rw [List.length_zip]; omega)]; rfl
  have hlt : k < n := by omega
  obtain ⟨b, o, cs, v, rfl, hv, -, -, hc, hrep⟩ := (hs.ext xu).at_ hlt
  obtain ⟨b', o', cs', t, rfl, ht, -, -, hc', hrep'⟩ := (hl.ext xu).at_ (k := k) (by omega)
  obtain ⟨H1, h1, k1, O1, o1, k2, T1, g1, k3, rfl, -⟩ := wv_open hrep
  obtain ⟨P1, p1, r1, P2, p2, r2, P3, p3, r3, P4, p4, r4, P5, p5, r5, rfl, -⟩ := tru_open hrep'
  have hz : (x.waves.zip l)[k]? = some (v, t) := by rw [List.getElem?_zip_eq_some]; exact ⟨hv, ht⟩
  have hdz : (x.waves.zip l).drop k = (v, t) :: (x.waves.zip l).drop (k + 1) := by
    have h1 := (List.getElem?_eq_some_iff.1 hz).1
    rw [List.drop_eq_getElem_cons h1, (List.getElem?_eq_some_iff.1 hz).2]
  rw [hdz, List.all_cons] at hal
  refine idx k rfl hlt ?_
  refine ldA _ hc rfl ?_
  refine alloc (fun q1 u1 j1 => ?_)
  refine stA (vs := [iv v.hour, .slice H1 h1 k1, .slice O1 o1 k2, .slice T1 g1 k3]) j1.blk rfl (Nat.le_of_ble_eq_true rfl) (by simp [Value.oneCell']) (fun u2 b2 k2' s2 => ?_)
  have a1 := j1.at_
  have x12 : Ext u u2 := j1.ext.then k2' fun b hb _ => by omega
  have b2 : Blk u2 q1 92 [iv v.hour, .slice H1 h1 k1, .slice O1 o1 k2, .slice T1 g1 k3] := b2
  refine idx k rfl (by omega) ?_
  refine ldA [.slice P1 p1 r1, .slice P2 p2 r2, .slice P3 p3 r3, .slice P4 p4 r4, .slice P5 p5 r5] (fun j y hy => x12.cell (hc' j y hy) trivial) rfl ?_
  refine alloc (fun q2 u3 j3 => ?_)
  refine stA (vs := [.slice P1 p1 r1, .slice P2 p2 r2, .slice P3 p3 r3, .slice P4 p4 r4, .slice P5 p5 r5]) j3.blk rfl (Nat.le_of_ble_eq_true rfl) (by simp [Value.oneCell']) (fun u4 b4 k4 s4 => ?_)
  have a3 := j3.at_
  have s3 := j1.size
  have lb2 := b2.lt
  have x24 : Ext u2 u4 := j3.ext.then k4 fun b hb _ => by omega
  have b4 : Blk u4 q2 94 [.slice P1 p1 r1, .slice P2 p2 r2, .slice P3 p3 r3, .slice P4 p4 r4, .slice P5 p5 r5] := b4
  have x14 := x12.trans x24
  have x04 := xu.trans x14
  refine ldA _ (.blk (b2.ext x24)) rfl ?_
  refine ldA _ (.blk b4) rfl ?_
  have cf := c_fits (hd.ext x04) (hx.ext x04) (hm.kept x04 trivial) (tWv.keep (fun b hb _ => x14.blk b hb trivial) hrep) (tTru.keep (fun b hb _ => x14.blk b hb trivial) hrep') he (List.mem_of_getElem? hv)
  refine callE cf (fun u5 g5 x5 => ?_) (fun u5 g5 x5 => ?_)
  · refine arI (n := (k : Int) + 1) (by omega) ?_
    refine next (k + 1) ⟨rfl, trivial⟩ ⟨by omega, x04.trans x5, ?_⟩ (by omega)
    rw [hal, g5]; rfl
  · refine ret1 (.bool false) rfl ⟨?_, x04.trans x5⟩
    unfold allB
    rw [hal, g5, Bool.false_and, Bool.and_false]
theorem c_Accepts {D : Nat → Prop} {csd csx : List Value} {d : Dist} {x : Ev} {set : List Int} {l : List Tru} {A A' : Option Addr} {n c n' c' : Nat} (hd : DiR D w csd d) (hx : EvR D w csx x) (hset : SlR tInt D w A n set) (hl : SlR tTru D w A' n' l) : CallZ Tryz.prog 27 #[.agg csd.toArray, .agg csx.toArray, .slice A n c, .slice A' n' c'] w
    (fun v w' => v = .tuple #[.bool (accV d x set l), iv (askErr d x set)] ∧ Ext w w') := by
  obtain ⟨A1, n1, c1, A2, n2, c2, A3, n3, c3, A4, n4, c4, A5, n5, c5, A6, n6, c6, rfl, -⟩ := hd.ex
  obtain ⟨W1, m1, e1, S1, m2, e2, rfl, hw, -⟩ := hx.ex
  refine fn_rule (args := [.agg #[.string d.name, iv d.hours, iv d.cap, iv d.start, .slice A1 n1 c1, .slice A2 n2 c2, .slice A3 n3 c3, .slice A4 n4 c4, .slice A5 n5 c5, .slice A6 n6 c6], .agg #[.slice W1 m1 e1, .slice S1 m2 e2], .slice A n c, .slice A' n' c']) Tryz.func27 (by kernel_rfl) ?_
  refine box (fun bd w1 h1 => ?_)
  refine box (fun bx w2 h2 => ?_)
  have x2 := h1.ext.trans h2.ext
  have Bd : Blk w2 bd 31 [.string d.name, iv d.hours, iv d.cap, iv d.start, .slice A1 n1 c1, .slice A2 n2 c2, .slice A3 n3 c3, .slice A4 n4 c4, .slice A5 n5 c5, .slice A6 n6 c6] := h1.blk.ext h2.ext
  have Bx : Blk w2 bx 35 [.slice W1 m1 e1, .slice S1 m2 e2] := h2.blk
  refine ldA _ (.blk Bd) rfl ?_
  refine ldA _ (.blk Bx) rfl ?_
  refine call_of (c_ask (hd.ext x2) (hx.ext x2) (hset.ext x2)) ?_
  rintro _ w3 ⟨x3, q, rfl, ⟨cs, rfl, hcl, hco⟩, hq⟩
  refine alloc (fun bq w4 h4 => ?_)
  refine stA (vs := cs) h4.blk hcl (by rw [hcl]; exact Nat.le_of_ble_eq_true rfl) hco (fun w5 b5 k5 s5 => ?_)
  have a4 := h4.at_
  have x35 : Ext w3 w5 := h4.ext.then k5 fun b hb _ => by omega
  have x05 := (x2.trans x3).trans x35
  refine cN (fun e0 => ?_) (fun e0 => ?_)
  · exact ret2 (.bool false) (iv (askErr d x set)) rfl rfl ⟨by unfold accV; rw [if_neg e0], x05⟩
  have e0 : askErr d x set = 0 := e0
  obtain ⟨g, hqe, hmap, hg⟩ := hq e0
  have hcs : cs = [.string d.name, iv d.hours, iv d.cap, iv d.start, .slice A1 n1 c1, .slice A2 n2 c2, .slice A3 n3 c3, .slice A4 n4 c4, .slice A5 n5 c5, .slice A6 n6 c6] ++ ([.slice W1 m1 e1, .slice S1 m2 e2] ++ [Value.map (some g)]) := by
    have := hqe; injection this with this; simpa using this
  subst hcs
  have b5 : Blk w5 bq 86 [.string d.name, iv d.hours, iv d.cap, iv d.start, .slice A1 n1 c1, .slice A2 n2 c2, .slice A3 n3 c3, .slice A4 n4 c4, .slice A5 n5 c5, .slice A6 n6 c6, .slice W1 m1 e1, .slice S1 m2 e2, .map (some g)] := b5
  refine fldA ?_
  refine ld (.slice W1 m1 e1) (((Bx.ext x3).ext x35).cell rfl) ?_
  refine ldA _ (.blk b5) rfl ?_
  have ce := c_eqWT (c := e1) (c' := c') (hd.ext x05) (hx.ext x05) (hmap.kept x35 trivial) e0 (hw.ext x05) (hl.ext x05)
  refine callE ce (fun w6 g6 x6 => ?_) (fun w6 g6 x6 => ?_)
  · exact ret2 (.bool true) (iv 0) rfl rfl ⟨by unfold accV; rw [if_pos e0, g6, e0], x05.trans x6⟩
  · exact ret2 (.bool false) (iv 0) rfl rfl ⟨by unfold accV; rw [if_pos e0, g6, e0], x05.trans x6⟩
end
end Go.Proofs.YtcpdhclnmjfldaaGreat

/- Layer 48: contract of fill. -/
namespace Go.Proofs.YtcpdhclnmjfldaaGreat
open Go Go.RowKit

def lftA : Int → List (Rg × Dst) → Int
  | l, [] => l
  | l, p :: r => lftA (l - min l (p.1.hi - p.1.lo)) r
theorem dist_app (p : Rg × Dst) : ∀ (pre : List (Rg × Dst)) (l : Int), distL l (pre ++ [p]) = distL l pre ++ [(p.2, p.1.lo + min (lftA l pre) (p.1.hi - p.1.lo))]
  | [], l => rfl
  | q :: pre, l => by
    show distL l (q :: (pre ++ [p])) = _
    unfold distL lftA
    rw [dist_app p pre]; rfl
theorem lft_app (p : Rg × Dst) : ∀ (pre : List (Rg × Dst)) (l : Int), lftA l (pre ++ [p]) = lftA l pre - min (lftA l pre) (p.1.hi - p.1.lo)
  | [], l => rfl
  | q :: pre, l => by
    show lftA l (q :: (pre ++ [p])) = lftA l (q :: pre) - min (lftA l (q :: pre)) _
    unfold lftA
    exact lft_app p pre _
theorem put_app (q : Dst × Int) : ∀ (pre : List (Dst × Int)) (T : Dst → Int), putL T (pre ++ [q]) = setD (putL T pre) q.1 q.2
  | [], T => rfl
  | a :: pre, T => by
    show putL T (a :: (pre ++ [q])) = _
    unfold putL
    exact put_app q pre _
theorem lft_b : ∀ {pre : List (Rg × Dst)} {l : Int}, 0 ≤ l → (∀ p ∈ pre, p.1.lo ≤ p.1.hi) → 0 ≤ lftA l pre ∧ lftA l pre ≤ l
  | [], l, h, _ => ⟨h, Int.le_refl _⟩
  | p :: pre, l, h, hp => by
    have h1 := hp p List.mem_cons_self
    have h2 := lft_b (pre := pre) (l := l - min l (p.1.hi - p.1.lo)) (by omega) fun q hq => hp q (List.mem_cons_of_mem _ hq)
    unfold lftA
    omega
theorem icells_setD {R K : Nat} {T : Dst → Int} {g : Nat → Dst} {v : Int} (hg : ∀ k, g k = g K → k = K) (_ : True) : icells R (fun k => setD T (g K) v (g k)) = (icells R fun k => T (g k)).set K (iv v) := by
  have e := icells_set (R := R) (i := K) (f := fun k => T (g k)) (g := fun k => setD T (g K) v (g k)) (fun j _ => by
    unfold setD
    by_cases e : j = K
    · subst e; simp
    · rw [if_neg e, if_neg (fun h => e (hg _ h))])
  rw [← e, show setD T (g K) v (g K) = v from by unfold setD; rw [if_pos rfl]]
theorem icells_setN {R : Nat} {T : Dst → Int} {g : Nat → Dst} {a : Dst} {v : Int} (hg : ∀ k, g k = a → False) : icells R (fun k => setD T a v (g k)) = icells R fun k => T (g k) := by
  congr 1; funext k; unfold setD; rw [if_neg fun h => hg k h]
/-- Five blocks: a block that is none of them; and that they are five. -/
structure N5 (t1 t2 t3 t4 t5 b : Nat) : Prop where
  a1 : b ≠ t1
  a2 : b ≠ t2
  a3 : b ≠ t3
  a4 : b ≠ t4
  a5 : b ≠ t5
structure T5 (t1 t2 t3 t4 t5 : Nat) : Prop where
  a12 : t1 ≠ t2
  a13 : t1 ≠ t3
  a14 : t1 ≠ t4
  a15 : t1 ≠ t5
  a23 : t2 ≠ t3
  a24 : t2 ≠ t4
  a25 : t2 ≠ t5
  a34 : t3 ≠ t4
  a35 : t3 ≠ t5
  a45 : t4 ≠ t5
structure N4 (t1 t2 t3 t5 b : Nat) : Prop where
  a1 : b ≠ t1
  a2 : b ≠ t2
  a3 : b ≠ t3
  a5 : b ≠ t5
theorem CrsN.t5 {w0 w : World} {bc gm bh t1 t2 t3 t4 t5 : Nat} {csd csx cw : List Value} {d : Dist} {x : Ev} {bl : Int × Int → Option Int} {v : Wv} {hl : List Rg} (hN : CrsN w0 w bc gm bh t1 t2 t3 t4 t5 csd csx cw d x bl v hl) : T5 t1 t2 t3 t4 t5 := by
  obtain ⟨-, -, ⟨h12, h13, h14, h15⟩, ⟨h23, h24, h25⟩, ⟨h34, h35⟩, h45⟩ := hN.ne
  exact ⟨h12, h13, h14, h15, h23, h24, h25, h34, h35, h45⟩
theorem CrsN.n5 {w0 w : World} {bc gm bh t1 t2 t3 t4 t5 : Nat} {csd csx cw : List Value} {d : Dist} {x : Ev} {bl : Int × Int → Option Int} {v : Wv} {hl : List Rg} (hN : CrsN w0 w bc gm bh t1 t2 t3 t4 t5 csd csx cw d x bl v hl) (b : Nat) (h : b < w0.heap.size ∨ b = bc ∨ b = bh) : N5 t1 t2 t3 t4 t5 b := by
  obtain ⟨⟨-, c1, c2, c3, c4, c5⟩, ⟨h1, h2, h3, h4, h5⟩, -⟩ := hN.ne
  obtain ⟨-, -, n1, n2, n3, n4, n5⟩ := hN.new
  rcases h with h | rfl | rfl
  · clear c1 c2 c3 c4 c5 h1 h2 h3 h4 h5
    exact ⟨by omega, by omega, by omega, by omega, by omega⟩
  · exact ⟨c1, c2, c3, c4, c5⟩
  · exact ⟨h1, h2, h3, h4, h5⟩
/-- The Truth's blocks hold T. -/
def TB (R F S : Nat) (u : World) (t1 t2 t3 t5 : Nat) (T : Dst → Int) : Prop := Blk u t1 3 (icells R fun k => T (.head k)) ∧ Blk u t2 3 (icells F fun k => T (.outlet k)) ∧ Blk u t3 3 (icells R fun k => T (.tail k)) ∧ Blk u t5 3 (icells S fun k => T (.taken k))
theorem TB.kept {R F S : Nat} {u u' : World} {t1 t2 t3 t5 : Nat} {T : Dst → Int} {D : Nat → Prop} (h : TB R F S u t1 t2 t3 t5 T) (k : Kept D u u') (h1 : D t1) (h2 : D t2) (h3 : D t3) (h5 : D t5) : TB R F S u' t1 t2 t3 t5 T := ⟨h.1.kept k h1, h.2.1.kept k h2, h.2.2.1.kept k h3, h.2.2.2.kept k h5⟩
theorem TB.ext {R F S : Nat} {u u' : World} {t1 t2 t3 t5 : Nat} {T : Dst → Int} (h : TB R F S u t1 t2 t3 t5 T) (k : Ext u u') : TB R F S u' t1 t2 t3 t5 T := h.kept k trivial trivial trivial trivial
section
variable {w : World}
end
end Go.Proofs.YtcpdhclnmjfldaaGreat

/- Layer 48: contract of Find. -/
namespace Go.Proofs.YtcpdhclnmjfldaaGreat
open Go Go.RowKit

def mkT (R F S : Nat) (T : Dst → Int) (A : Nat → Int) : Tru := ⟨(List.range R).map fun k => T (.head k), (List.range F).map fun k => T (.outlet k), (List.range R).map fun k => T (.tail k), (List.range R).map A, (List.range S).map fun k => T (.taken k)⟩
def folF (d : Dist) (x : Ev) (bl : Int × Int → Option Int) (v : Wv) : Nat → Rg := (followV d x bl v d.reaches.length fun _ => g0).getD fun _ => g0
def truV (d : Dist) (x : Ev) (bl : Int × Int → Option Int) (v : Wv) : Tru := mkT d.reaches.length d.farms.length x.suspects.length (fillT d x bl v (folF d x bl v) d.reaches.length) (fillA d x bl v (folF d x bl v))
/-- What Find answers where it finds something. -/
def findL (d : Dist) (x : Ev) (set : List Int) : List Tru := x.waves.map (truV d x (blF x set))
theorem fol_fok {d : Dist} {x : Ev} {bl : Int × Int → Option Int} {v : Wv} {f : Nat → Rg} (hw : WavOk d x bl v) (h : followV d x bl v d.reaches.length (fun _ => g0) = some f) : folF d x bl v = f ∧ ∀ r, r < d.reaches.length → FOK d x bl v f r := by
  refine ⟨by unfold folF; rw [h]; rfl, (follow_ok hw _ _ _ (Nat.le_refl _) h).2⟩
theorem sl_icells {D : Nat → Prop} {w : World} {b R : Nat} {f : Nat → Int} (hb : Blk w b 3 (icells R f)) (hD : D b) (hR : R ≤ 140737488355328) (hf : ∀ k, k < R → I64 (f k)) : SlR tInt D w (some (ad b 0)) R ((List.range R).map f) := by
  refine SlR.of_cells (cs := icells R f) (by simp) hR hD (.blk hb) ?_
  have e : icells R f = ((List.range R).map f).map (.int .i64) := by unfold icells; rw [List.map_map]; rfl
  rw [e]
  refine flat_ints fun y hy => ?_
  obtain ⟨k, hk, rfl⟩ := List.mem_map.1 hy
  exact hf k (List.mem_range.1 hk)
/-- What is filled are numbers. -/
theorem fits_i64 {d : Dist} {x : Ev} {bl : Int × Int → Option Int} {v : Wv} {T : Dst → Int} {A : Nat → Int} (hw : WavOk d x bl v) (h : FitsT d x bl v T A) :
    (∀ k, k < d.reaches.length → I64 (T (.head k))) ∧ (∀ k, k < d.farms.length → I64 (T (.outlet k))) ∧ (∀ k, k < d.reaches.length → I64 (T (.tail k))) ∧ (∀ k, k < d.reaches.length → I64 (A k)) ∧ ∀ k, k < x.suspects.length → I64 (T (.taken k)) := by
  have hh : ∀ k, k < d.reaches.length → 0 ≤ T (.head k) ∧ T (.head k) ≤ 1073741824 := fun k hk => by
    have h1 := rgOk_iff.1 (meter_ok hw.bl (kd := 1) (ix := k) (hw.heads k hk))
    have h2 := h.heads k hk
    omega
  refine ⟨fun k hk => ?_, fun k hk => ?_, fun k hk => ?_, fun k hk => ?_, fun k hk => ?_⟩
  · have := hh k hk; exact ⟨by omega, by omega⟩
  · have h1 := rgOk_iff.1 (meter_ok hw.bl (kd := 2) (ix := k) (hw.outlets k hk))
    have h2 := h.outlets k hk
    exact ⟨by omega, by omega⟩
  · have h1 := rgOk_iff.1 (meter_ok hw.bl (kd := 3) (ix := k) (hw.tails k hk))
    have h2 := h.tails k hk
    exact ⟨by omega, by omega⟩
  · have h1 := arr_le (hw.loss k hk) (hh k hk)
    have h2 := h.arr k hk
    have h3 := hh k hk
    exact ⟨by omega, by omega⟩
  · have h2 := h.taken k hk
    split at h2
    · cases hb : bl ((suE x k).kind, (suE x k).index) with
      | none => rw [hb] at h2; have h3 : T (.taken k) ≤ 0 := h2.2; exact ⟨by omega, by omega⟩
      | some n => rw [hb] at h2; have h3 : T (.taken k) ≤ n := h2.2; have := hw.bl _ _ hb; exact ⟨by omega, by omega⟩
    · exact ⟨by omega, by omega⟩
section
variable {w : World}
end
end Go.Proofs.YtcpdhclnmjfldaaGreat

/- Layer 48: the laws' examples and their answers. -/
namespace Go.Proofs.YtcpdhclnmjfldaaGreat
open Go Go.RowKit

def sD48 : Dist := ⟨ByteArray.empty, 9, 0, 0, [⟨ByteArray.empty, -1, 1, 0, 0, 0, ⟨1, 2⟩, ⟨0, 1⟩, ⟨0, 1⟩⟩, ⟨ByteArray.empty, 0, 2, 0, 0, 0, ⟨0, 0⟩, ⟨0, 1⟩, ⟨0, 1⟩⟩], [⟨ByteArray.empty, 0, 0, -1⟩, ⟨ByteArray.empty, 1, 0, -1⟩], [], [], [], []⟩
def sX48 (a b : Int) : Ev := ⟨[⟨3, [⟨20, 20⟩, ⟨8, 8⟩], [⟨5, 5⟩, ⟨6, 6⟩], [⟨a, a⟩, ⟨b, b⟩]⟩], [⟨2, 1, 9⟩, ⟨4, 0, 3⟩, ⟨4, 1, 4⟩]⟩
def nD48 : Dist := ⟨ByteArray.empty, 0, 0, 0, [], [], [], [], [], []⟩
def nX48 : Ev := ⟨[], []⟩
theorem se1 : explV sD48 (sX48 5 2) [] = true := by kernel_rfl
theorem sf1 : askErr sD48 (sX48 5 2) [] = 0 := by kernel_rfl
theorem se2 : explV sD48 (sX48 5 1) [] = false := by kernel_rfl
theorem sf2 : askErr sD48 (sX48 5 1) [] = 0 := by kernel_rfl
theorem se3 : explV sD48 (sX48 5 1) [0] = true := by kernel_rfl
theorem sf3 : askErr sD48 (sX48 5 1) [0] = 0 := by kernel_rfl
theorem se4 : explV sD48 (sX48 5 1) [2] = true := by kernel_rfl
theorem sf4 : askErr sD48 (sX48 5 1) [2] = 0 := by kernel_rfl
theorem stb1 : tableV sD48 (sX48 5 1) = [false, true, false, true, true, true, true, true] := by kernel_rfl
theorem sg1 : evErr sD48 (sX48 5 1) = 0 := by kernel_rfl
theorem stb2 : tableV sD48 (sX48 3 1) = [false, false, false, true, false, false, true, true] := by kernel_rfl
theorem sg2 : evErr sD48 (sX48 3 1) = 0 := by kernel_rfl
theorem se5 : explV sD48 (sX48 3 1) [1, 2] = true := by kernel_rfl
theorem sf5 : askErr sD48 (sX48 3 1) [1, 2] = 0 := by kernel_rfl
theorem sa1 : accV sD48 (sX48 3 1) [1, 2] (findL sD48 (sX48 3 1) [1, 2]) = true := by kernel_rfl
theorem sa2 : accV sD48 (sX48 3 1) [2] (findL sD48 (sX48 3 1) [1, 2]) = false := by kernel_rfl
theorem sf6 : askErr sD48 (sX48 3 1) [2] = 0 := by kernel_rfl
theorem sf7 : askErr sD48 nX48 [0] = 480 := by kernel_rfl
theorem se8 : explV sD48 nX48 [] = true := by kernel_rfl
theorem sf8 : askErr sD48 nX48 [] = 0 := by kernel_rfl
theorem sg9 : evErr nD48 (sX48 3 1) = 191 := by kernel_rfl
end Go.Proofs.YtcpdhclnmjfldaaGreat

/- Layer 48: the laws' small functions: Few (some truth), SameTable, exact, district. -/
namespace Go.Proofs.YtcpdhclnmjfldaaGreat
open Go Go.RowKit

section
variable {D : Nat → Prop} {w : World}
theorem c_r48Few {csd csx : List Value} {d : Dist} {x : Ev} (hd : DiR D w csd d) (hx : EvR D w csx x) : CallZ Tryz.prog 32 #[.agg csd.toArray, .agg csx.toArray] w (fun v w' => ∃ b, v = .bool b ∧ Ext w w') := by
  obtain ⟨A1, n1, c1, A2, n2, c2, A3, n3, c3, A4, n4, c4, A5, n5, c5, A6, n6, c6, rfl, hr, hfa, -⟩ := hd.ex
  obtain ⟨W1, m1, e1, S1, m2, e2, rfl, hwv, -⟩ := hx.ex
  refine fn_rule (args := [.agg #[.string d.name, iv d.hours, iv d.cap, iv d.start, .slice A1 n1 c1, .slice A2 n2 c2, .slice A3 n3 c3, .slice A4 n4 c4, .slice A5 n5 c5, .slice A6 n6 c6], .agg #[.slice W1 m1 e1, .slice S1 m2 e2]]) Tryz.func32 (by kernel_rfl) ?_
  refine box (fun bd w1 h1 => ?_)
  refine box (fun bx w2 h2 => ?_)
  have x2 := h1.ext.trans h2.ext
  have Bd := h1.blk.ext h2.ext
  have Bx := h2.blk
  refine ldA _ (.blk Bd) rfl ?_
  refine callE (c_r19Few (hd.ext x2)) (fun w3 _ x3 => ?_) (fun w3 _ x3 => ?_)
  rotate_left
  · exact ret1 (.bool false) rfl ⟨false, rfl, x2.trans x3⟩
  have x23 := x2.trans x3
  have Bd3 := Bd.ext x3
  have Bx3 := Bx.ext x3
  have hwv3 := hwv.ext x23
  have no : ∃ b, Value.bool false = .bool b ∧ Ext w w3 := ⟨false, rfl, x23⟩
  have yes : ∃ b, Value.bool true = .bool b ∧ Ext w w3 := ⟨true, rfl, x23⟩
  all_goals
    refine fldA ?_
    refine ld (.slice A1 n1 c1) (Bd3.cell rfl) ?_
    refine len ?_
    refine cD (fun _ => ?_) (fun _ => ?_)
    refine fldA ?_
    refine ld (.slice A1 n1 c1) (Bd3.cell rfl) ?_
    refine len ?_
    refine cD (fun _ => ?_) (fun _ => ?_)
    exact ret1 (.bool false) rfl no
  all_goals
    refine fldA ?_
    refine ld (.slice A2 n2 c2) (Bd3.cell rfl) ?_
    refine len ?_
    refine cD (fun _ => ?_) (fun _ => ?_)
    refine fldA ?_
    refine ld (.slice A2 n2 c2) (Bd3.cell rfl) ?_
    refine len ?_
    refine cD (fun _ => ?_) (fun _ => ?_)
    exact ret1 (.bool false) rfl no
  all_goals
    refine fldA ?_
    refine ld (.slice W1 m1 e1) (Bx3.cell rfl) ?_
    refine len ?_
    refine cD (fun _ => ?_) (fun _ => ?_)
    refine fldA ?_
    refine ld (.slice W1 m1 e1) (Bx3.cell rfl) ?_
    refine len ?_
    refine cD (fun _ => ?_) (fun _ => ?_)
    exact ret1 (.bool false) rfl no
  all_goals
    refine fldA ?_
    refine ld (.slice W1 m1 e1) (Bx3.cell rfl) ?_
    refine len ?_
    refine cD (fun _ => ?_) (fun _ => ?_)
    exact ret1 (.bool false) rfl no
  all_goals
    refine fldA ?_
    refine ld (.slice S1 m2 e2) (Bx3.cell rfl) ?_
    refine len ?_
    refine cD (fun _ => ?_) (fun _ => ?_)
    refine fldA ?_
    refine ld (.slice S1 m2 e2) (Bx3.cell rfl) ?_
    refine len ?_
    refine cD (fun _ => ?_) (fun _ => ?_)
    exact ret1 (.bool false) rfl no
  all_goals
    refine fldA ?_
    refine ld (.slice S1 m2 e2) (Bx3.cell rfl) ?_
    refine len ?_
    refine cD (fun _ => ?_) (fun _ => ?_)
    exact ret1 (.bool false) rfl no
  all_goals
    refine loop_rule (fun k : Nat => [(6, iv (k : Int))]) (fun k u => k ≤ m1 ∧ u = w3) (fun k _ => m1 - k) 0 ⟨rfl, trivial⟩ ⟨by omega, rfl⟩ rfl ?_
    rintro G k u ⟨hk, rfl⟩
    refine fldA ?_
    refine ld (.slice W1 m1 e1) (Bx3.cell rfl) ?_
    refine len ?_
    refine cD (fun hlt => ?_) (fun hge => ?_)
    rotate_left
    exact ret1 (.bool true) rfl yes
    have hlt : k < m1 := by omega
    have hle := hwv3.le
    obtain ⟨b', o, cs, v, rfl, hv, -, -, hc, hrep⟩ := hwv3.at_ hlt
    obtain ⟨H1, h1', k1, O1, o1, k2, T1, g1, k3, rfl, -⟩ := wv_open hrep
    refine fldA ?_
    refine ld (.slice (some (ad b' o)) m1 e1) (Bx3.cell rfl) ?_
    refine idx k rfl hlt ?_
    refine fldA ?_
    refine ld (.slice H1 h1' k1) (hc 1 _ rfl) ?_
    refine len ?_
    refine cD (fun _ => ?_) (fun _ => ?_)
    exact ret1 (.bool false) rfl no
    refine fldA ?_
    refine ld (.slice (some (ad b' o)) m1 e1) (Bx3.cell rfl) ?_
    refine idx k rfl hlt ?_
    refine fldA ?_
    refine ld (.slice O1 o1 k2) (hc 2 _ rfl) ?_
    refine len ?_
    refine cD (fun _ => ?_) (fun _ => ?_)
    exact ret1 (.bool false) rfl no
    refine fldA ?_
    refine ld (.slice (some (ad b' o)) m1 e1) (Bx3.cell rfl) ?_
    refine idx k rfl hlt ?_
    refine fldA ?_
    refine ld (.slice T1 g1 k3) (hc 3 _ rfl) ?_
    refine len ?_
    refine cD (fun _ => ?_) (fun _ => ?_)
    exact ret1 (.bool false) rfl no
    refine arI (n := (k : Int) + 1) (by omega) ?_
    exact next (k + 1) ⟨rfl, trivial⟩ ⟨by omega, rfl⟩ (by omega)
end
theorem flat_fl {α : Type} {n : Nat} {c : α → List Value} {hl : ∀ x, (c x).length = n} {D : Nat → Prop} {w : World} : ∀ {xs : List α}, FlatR (tFl n c hl) D w xs (xs.flatMap c)
  | [] => rfl
  | x :: xs => ⟨c x, xs.flatMap c, rfl, rfl, flat_fl⟩
end Go.Proofs.YtcpdhclnmjfldaaGreat

/- Layer 48: the laws' sane answers true. -/
namespace Go.Proofs.YtcpdhclnmjfldaaGreat
open Go Go.RowKit

structure SaR (u : World) (csd : List Value) (b1 b3 wq sq : Nat) (H O T : Option Addr) (hn hc om oc tn tc : Nat) (x y : Int) : Prop where
  hd : DiR (fun b => b ≠ wq) u csd sD48
  bd : Blk u b1 31 csd
  bx : Blk u b3 35 [.slice (some (ad wq 0)) 1 1, .slice (some (ad sq 0)) 3 3]
  wv : Blk u wq 92 [iv 3, .slice H hn hc, .slice O om oc, .slice T tn tc]
  h1 : SlR tRg (fun b => b ≠ wq) u H hn [⟨20, 20⟩, ⟨8, 8⟩]
  h2 : SlR tRg (fun b => b ≠ wq) u O om [⟨5, 5⟩, ⟨6, 6⟩]
  h3 : SlR tRg (fun b => b ≠ wq) u T tn [⟨x, x⟩, ⟨y, y⟩]
  su : Blk u sq 112 [iv 2, iv 1, iv 9, iv 4, iv 0, iv 3, iv 4, iv 1, iv 4]
  n1 : b1 ≠ wq
  n3 : b3 ≠ wq
  ns : sq ≠ wq
  c1 : hn ≤ hc
  c2 : om ≤ oc
  c3 : tn ≤ tc
theorem smallJ {l : List Int} (h : (l.all fun x => decide (0 ≤ x) && decide (x ≤ 100)) = true) : ∀ x ∈ l, I64 x := fun x hx => by have := List.all_eq_true.1 h x hx; simp only [Bool.and_eq_true, decide_eq_true_eq] at this; unfold I64; constructor <;> omega
theorem SaR.ext {u u' : World} {csd : List Value} {b1 b3 wq sq : Nat} {H O T : Option Addr} {hn hc om oc tn tc : Nat} {x y : Int} (s : SaR u csd b1 b3 wq sq H O T hn hc om oc tn tc x y) (k : Ext u u') : SaR u' csd b1 b3 wq sq H O T hn hc om oc tn tc x y :=
  ⟨s.hd.ext k, s.bd.ext k, s.bx.ext k, s.wv.ext k, s.h1.ext k, s.h2.ext k, s.h3.ext k, s.su.ext k, s.n1, s.n3, s.ns, s.c1, s.c2, s.c3⟩
/-- The tails' list is put in its place. -/
theorem SaR.put {u u' : World} {csd : List Value} {b1 b3 wq sq : Nat} {H O T T' : Option Addr} {hn hc om oc tn tc tn' tc' : Nat} {x y x' y' : Int} (s : SaR u csd b1 b3 wq sq H O T hn hc om oc tn tc x y) (k : Kept (fun b => b ≠ wq) u u') (hw : Blk u' wq 92 [iv 3, .slice H hn hc, .slice O om oc, .slice T' tn' tc'])
    (ht : SlR tRg (fun b => b ≠ wq) u T' tn' [⟨x', x'⟩, ⟨y', y'⟩]) (hc3 : tn' ≤ tc') : SaR u' csd b1 b3 wq sq H O T' hn hc om oc tn' tc' x' y' :=
  ⟨s.hd.kept k fun _ _ h => h, s.bd.kept k s.n1, s.bx.kept k s.n3, hw, s.h1.kept k fun _ _ h => h, s.h2.kept k fun _ _ h => h, ht.kept k fun _ _ h => h, s.su.kept k s.ns, s.n1, s.n3, s.ns, s.c1, s.c2, hc3⟩
theorem SaR.ev {u : World} {csd : List Value} {b1 b3 wq sq : Nat} {H O T : Option Addr} {hn hc om oc tn tc : Nat} {x y : Int} (s : SaR u csd b1 b3 wq sq H O T hn hc om oc tn tc x y) : EvR (fun _ => True) u [.slice (some (ad wq 0)) 1 1, .slice (some (ad sq 0)) 3 3] (sX48 x y) := by
  refine EvR.of_ ⟨_, _, _, _, _, _, rfl, ?_, ?_, Nat.le_refl _, Nat.le_refl _⟩
  · exact SlR.of_cells rfl (by decide) trivial (.blk s.wv) ⟨[iv 3, .slice H hn hc, .slice O om oc, .slice T tn tc], [], rfl, ⟨[iv 3], _, rfl, ⟨rfl, show I64 3 from ⟨by decide, by decide⟩⟩, _, _, rfl, ⟨_, _, _, rfl, s.h1.more (by decide) fun _ _ _ => trivial, s.c1⟩, _, _, rfl, ⟨_, _, _, rfl, s.h2.more (by decide) fun _ _ _ => trivial, s.c2⟩, _, _, _, rfl, s.h3.more (by decide) fun _ _ _ => trivial, s.c3⟩, rfl⟩
  · exact SlR.of_cells rfl (by decide) trivial (.blk s.su) ⟨_, _, rfl, rfl, _, _, rfl, rfl, _, _, rfl, rfl, rfl⟩
theorem nD_R {w : World} : DiR (fun _ => True) w [.string ByteArray.empty, iv 0, iv 0, iv 0, .slice none 0 0, .slice none 0 0, .slice none 0 0, .slice none 0 0, .slice none 0 0, .slice none 0 0] nD48 := DiR.of_ ⟨_, _, _, _, _, _, _, _, _, _, _, _, _, _, _, _, _, _, rfl, .nil, .nil, .nil, .nil, .nil, .nil⟩
theorem nX_R {w : World} : EvR (fun _ => True) w [.slice none 0 0, .slice none 0 0] nX48 := EvR.of_ ⟨_, _, _, _, _, _, rfl, .nil, .nil, Nat.le_refl _, Nat.le_refl _⟩
theorem OwnF.bools {w0 w : World} {D : Nat → Prop} {A : Option Addr} {n c : Nat} {xs : List Bool} (h : OwnF w0 w A n c 4 1 (xs.map fun b => Value.bool b)) (hle : xs.length ≤ 140737488355328) (hD : ∀ b, w0.heap.size ≤ b → D b) : SlR tBool D w A n xs := by
  have hf : ∀ {ys : List Bool}, FlatR tBool D w ys (ys.map fun b => Value.bool b) := fun {ys} => by
    induction ys with
    | nil => rfl
    | cons y ys ih => exact ⟨[.bool y], _, rfl, rfl, ih⟩
  have hl := h.own.len
  rw [List.length_map, Nat.mul_one] at hl
  refine h.own.rd (a := tBool) hf hl.symm (by omega) ?_
  rintro g rfl
  rcases h.form with ⟨h, -⟩ | ⟨g'', hg', hg1, -⟩
  · cases h
  · injection hg' with hg'; injection hg' with hg'; exact hD _ (by omega)
theorem blk_bools {w : World} {b : Nat} {xs : List Bool} (h : Blk w b 4 (xs.map fun b => Value.bool b)) (hle : xs.length ≤ 140737488355328) : SlR tBool (fun _ => True) w (some (ad b 0)) xs.length xs := by
  have hf : ∀ {ys : List Bool}, FlatR tBool (fun _ => True) w ys (ys.map fun b => Value.bool b) := fun {ys} => by
    induction ys with
    | nil => rfl
    | cons y ys ih => exact ⟨[.bool y], _, rfl, rfl, ih⟩
  exact SlR.of_cells rfl hle trivial (.blk h) hf
section
variable {w : World}
end
end Go.Proofs.YtcpdhclnmjfldaaGreat

/- Layer 48, plainly: what is accepted is explained, what is found is accepted; sets as numbers. -/
namespace Go.Proofs.YtcpdhclnmjfldaaGreat
open Go Go.RowKit

def tT (t : Tru) : Dst → Int
  | .tail r => t.tails.getD r 0
  | .head k => t.heads.getD k 0
  | .outlet k => t.outlets.getD k 0
  | .taken i => t.taken.getD i 0
section
variable {d : Dist} {x : Ev} {bl : Int × Int → Option Int} {v : Wv} {t : Tru} {T : Dst → Int} {A : Nat → Int} {set : List Int}
theorem sumT_split (r : Nat) {f : Nat → Rg} : sumT T (partsL d x bl v f r) = T (.tail r) + (sumF (qH d r) (fun k => T (.head k)) d.reaches.length + (sumF (qO d r) (fun k => T (.outlet k)) d.farms.length + sumF (qP x r) (fun i => T (.taken i)) x.suspects.length)) := by
  unfold sumT partsL tailP headP outP pumpP sumF qH qO qP
  simp only [List.map_append, List.sum_append, List.map_map, List.map_cons, List.map_nil, List.sum_cons, List.sum_nil]
  rw [Int.add_zero]
  rfl
theorem fitsL_T (hw : WavOk d x bl v) (l1 : v.heads.length = d.reaches.length) (l2 : v.outlets.length = d.farms.length) (l3 : v.tails.length = d.reaches.length) (h : FitsL d x bl v t) : FitsT d x bl v (tT t) (fun r => t.arrived.getD r 0) := by
  obtain ⟨e1, i1⟩ := inB_iff.1 h.i1
  obtain ⟨e2, i2⟩ := inB_iff.1 h.i2
  obtain ⟨e3, i3⟩ := inB_iff.1 h.i3
  refine ⟨fun r hr => i1 r (by omega), fun k hk => i2 k (by omega), fun r hr => i3 r (by omega), fun i hi => h.tk i hi, fun r hr => ?_⟩
  obtain ⟨a1, a2, a3⟩ := h.ar r hr
  have hh := i1 r (by omega)
  have hm := rgOk_iff.1 (meter_ok hw.bl (kd := 1) (ix := r) (hw.heads r hr))
  have e : lErr (rcE d r) (t.heads.getD r 0) = 0 := lErr_ok.2 ⟨hw.loss r hr, by omega, by omega⟩
  have ew : worstV (rcE d r) (t.heads.getD r 0) = arrW (rcE d r) (t.heads.getD r 0) := by unfold worstV; rw [if_pos e]; rfl
  have eb : bestV (rcE d r) (t.heads.getD r 0) = arrB (rcE d r) (t.heads.getD r 0) := by unfold bestV; rw [if_pos e]; rfl
  rw [ew] at a2
  rw [eb] at a3
  show t.arrived.getD r 0 = _ ∧ arrW (rcE d r) (t.heads.getD r 0) ≤ t.arrived.getD r 0 ∧ t.arrived.getD r 0 ≤ arrB (rcE d r) (t.heads.getD r 0)
  refine ⟨?_, by omega, by omega⟩
  rw [sumT_split, a1]
  unfold out3 out2 out1 tT
  show _ = t.tails.getD r 0 + (sumF (qH d r) (fun k => t.heads.getD k 0) d.reaches.length + (sumF (qO d r) (fun k => t.outlets.getD k 0) d.farms.length + sumF (qP x r) (fun i => t.taken.getD i 0) x.suspects.length))
  omega
theorem getD_map {R : Nat} {f : Nat → Int} {k : Nat} (h : k < R) : ((List.range R).map f).getD k 0 = f k := by
  rw [List.getD_eq_getElem?_getD, List.getElem?_map, List.getElem?_range h]; rfl
theorem sumF_congr {q : Nat → Bool} {f g : Nat → Int} {k : Nat} (h : ∀ i, i < k → f i = g i) : sumF q f k = sumF q g k := by
  unfold sumF
  congr 1
  exact List.map_congr_left fun i hi => h i (List.mem_range.1 (List.mem_filter.1 hi).1)
theorem fitsT_L (hw : WavOk d x bl v) (l1 : v.heads.length = d.reaches.length) (l2 : v.outlets.length = d.farms.length) (l3 : v.tails.length = d.reaches.length) (h : FitsT d x bl v T A) : FitsL d x bl v (mkT d.reaches.length d.farms.length x.suspects.length T A) := by
  refine ⟨inB_iff.2 ⟨by simp [mkT, l1], fun i hi => ?_⟩, inB_iff.2 ⟨by simp [mkT, l2], fun i hi => ?_⟩, inB_iff.2 ⟨by simp [mkT, l3], fun i hi => ?_⟩, by simp [mkT], by simp [mkT], fun i hi => ?_, fun r hr => ?_⟩
  · have hi : i < d.reaches.length := by simpa [mkT] using hi
    unfold mkT; simp only; rw [getD_map hi]; exact h.heads i hi
  · have hi : i < d.farms.length := by simpa [mkT] using hi
    unfold mkT; simp only; rw [getD_map hi]; exact h.outlets i hi
  · have hi : i < d.reaches.length := by simpa [mkT] using hi
    unfold mkT; simp only; rw [getD_map hi]; exact h.tails i hi
  · unfold mkT; simp only; rw [getD_map hi]; exact h.taken i hi
  · have hh := h.heads r hr
    have hm := rgOk_iff.1 (meter_ok hw.bl (kd := 1) (ix := r) (hw.heads r hr))
    have e : lErr (rcE d r) (T (.head r)) = 0 := lErr_ok.2 ⟨hw.loss r hr, by omega, by omega⟩
    have ew : worstV (rcE d r) (T (.head r)) = arrW (rcE d r) (T (.head r)) := by unfold worstV; rw [if_pos e]; rfl
    have eb : bestV (rcE d r) (T (.head r)) = arrB (rcE d r) (T (.head r)) := by unfold bestV; rw [if_pos e]; rfl
    obtain ⟨a1, a2, a3⟩ := h.arr r hr
    rw [sumT_split] at a1
    have eo : out3 d x (mkT d.reaches.length d.farms.length x.suspects.length T A) d.farms.length r = A r := by
      unfold out3 out2 out1 mkT
      simp only
      rw [getD_map hr, sumF_congr (q := qP x r) (g := fun i => T (.taken i)) fun i hi => getD_map hi, sumF_congr (q := qH d r) (g := fun i => T (.head i)) fun i hi => getD_map hi, sumF_congr (q := qO d r) (g := fun i => T (.outlet i)) fun i hi => getD_map hi]
      omega
    rw [eo]
    unfold mkT; simp only; rw [getD_map hr, getD_map hr, ew, eb]
    exact ⟨rfl, a2, a3⟩
/-- What is accepted is explained. -/
theorem acc_expl {l : List Tru} (h : accV d x set l = true) : explV d x set = true := by
  unfold accV at h
  by_cases e : askErr d x set = 0
  · rw [if_pos e] at h
    unfold explV; rw [if_pos e]
    unfold allB at h
    rw [Bool.and_eq_true, decide_eq_true_eq] at h
    unfold explB
    rw [List.all_eq_true]
    intro v hv
    obtain ⟨k, hk, rfl⟩ := List.getElem_of_mem hv
    have hz := List.all_eq_true.1 h.2 (x.waves[k], l[k]'(by omega)) (List.mem_iff_getElem.2 ⟨k, by rw [List.length_zip]; omega, by rw [List.getElem_zip]⟩)
    obtain ⟨hw, l1, l2, l3⟩ := wavOk_of e hv
    exact fits_follow hw (fitsL_T hw l1 l2 l3 (fitsB_iff.1 hz)) _ _ (Nat.le_refl _) fun k h1 h2 => by omega
  · rw [if_neg e] at h; cases h
theorem find_acc (he : askErr d x set = 0) (h : explV d x set = true) : accV d x set (findL d x set) = true := by
  unfold accV allB findL; rw [if_pos he, Bool.and_eq_true, decide_eq_true_eq, List.length_map]
  refine ⟨rfl, List.all_eq_true.2 fun p hp => ?_⟩
  rw [List.zip_map_right, List.mem_map] at hp
  obtain ⟨⟨v, v'⟩, hv, rfl⟩ := hp
  have hvv : v = v' ∧ v ∈ x.waves := by
    obtain ⟨k, hk, e⟩ := List.getElem_of_mem hv
    rw [List.getElem_zip] at e
    injection e with e1 e2
    exact ⟨by rw [← e1, ← e2], by rw [← e1]; exact List.getElem_mem _⟩
  obtain ⟨rfl, hm⟩ := hvv
  obtain ⟨hw, l1, l2, l3⟩ := wavOk_of he hm
  unfold explV at h
  rw [if_pos he] at h
  obtain ⟨f, hf⟩ := Option.isSome_iff_exists.1 (List.all_eq_true.1 h v hm)
  obtain ⟨hfol, hfok⟩ := fol_fok hw hf
  obtain ⟨⟨r1, r0⟩, -⟩ := ev_sizes (askErr_ok.1 he).1
  have := fitsT_L hw l1 l2 l3 (filled hw r0 hfok)
  show fitsB d x (blF x set) v (truV d x (blF x set) v) = true
  unfold truV
  rw [hfol]
  exact fitsB_iff.2 this
theorem sorted_ext : ∀ {l m : List Int}, l.Pairwise (· < ·) → m.Pairwise (· < ·) → (∀ x, x ∈ l ↔ x ∈ m) → l = m
  | [], [], _, _, _ => rfl
  | [], b :: m, _, _, h => absurd ((h b).2 List.mem_cons_self) (by simp)
  | a :: l, [], _, _, h => absurd ((h a).1 List.mem_cons_self) (by simp)
  | a :: l, b :: m, hl, hm, h => by
    rw [List.pairwise_cons] at hl hm
    have e : a = b := by
      have h1 := (h a).1 List.mem_cons_self
      have h2 := (h b).2 List.mem_cons_self
      rcases List.mem_cons.1 h1 with h1 | h1
      · exact h1
      rcases List.mem_cons.1 h2 with h2 | h2
      · exact h2.symm
      have := hl.1 _ h2
      have := hm.1 _ h1
      omega
    subst e
    rw [sorted_ext hl.2 hm.2 fun y => ?_]
    constructor
    · intro hy
      rcases List.mem_cons.1 ((h y).1 (List.mem_cons_of_mem _ hy)) with e | e
      · subst e; have := hl.1 _ hy; omega
      · exact e
    · intro hy
      rcases List.mem_cons.1 ((h y).2 (List.mem_cons_of_mem _ hy)) with e | e
      · subst e; have := hm.1 _ hy; omega
      · exact e
theorem setB_ok {n : Nat} : ∀ {l : List Int} {last : Int}, setB n last l = true → l.Pairwise (· < ·) ∧ ∀ i ∈ l, last < i ∧ i < n
  | [], _, _ => ⟨.nil, fun i hi => by simp at hi⟩
  | i :: r, last, h => by
    unfold setB at h
    simp only [Bool.and_eq_true, decide_eq_true_eq] at h
    obtain ⟨h1, h2, h3⟩ := h
    obtain ⟨h4, h5⟩ := setB_ok h3
    refine ⟨List.pairwise_cons.2 ⟨fun j hj => (h5 j hj).1, h4⟩, fun j hj => ?_⟩
    rcases List.mem_cons.1 hj with rfl | hj
    · exact ⟨h1, h2⟩
    · have := h5 j hj; omega
def orL (l : List Int) : Nat := l.foldl (fun m i => m ||| 2 ^ i.toNat) 0
theorem orL_snoc (l : List Int) (i : Int) : orL (l ++ [i]) = orL l ||| 2 ^ i.toNat := by unfold orL; rw [List.foldl_append]; rfl
theorem orL_bit {j : Nat} : ∀ {l : List Int}, (∀ i ∈ l, 0 ≤ i) → ((orL l).testBit j = true ↔ (j : Int) ∈ l) := by
  have key : ∀ (l : List Int) (m : Nat), (∀ i ∈ l, 0 ≤ i) → ((l.foldl (fun m i => m ||| 2 ^ i.toNat) m).testBit j = true ↔ m.testBit j = true ∨ (j : Int) ∈ l) := by
    intro l
    induction l with
    | nil => intro m _; simp
    | cons i l ih =>
      intro m h
      rw [List.foldl_cons, ih _ fun k hk => h k (List.mem_cons_of_mem _ hk), Nat.testBit_or, Bool.or_eq_true, Nat.testBit_two_pow, decide_eq_true_eq, List.mem_cons]
      have := h i List.mem_cons_self
      have e : (i.toNat = j) ↔ (j : Int) = i := by omega
      rw [e, or_assoc]
  intro l h
  rw [show orL l = l.foldl (fun m i => m ||| 2 ^ i.toNat) 0 from rfl, key l 0 h]; simp
theorem orL_lt {S : Nat} {l : List Int} (h : ∀ i ∈ l, 0 ≤ i ∧ i < S) : orL l < 2 ^ S := by
  apply Nat.lt_pow_two_of_testBit
  intro j hj
  cases hb : (orL l).testBit j with
  | false => rfl
  | true =>
    have := (orL_bit fun i hi => (h i hi).1).1 hb
    have := h _ this
    omega
theorem members_or {S : Nat} {l : List Int} (h : setB S (-1) l = true) : membersL (orL l) S = l := by
  obtain ⟨h1, h2⟩ := setB_ok h
  refine sorted_ext ?_ h1 fun y => ?_
  · unfold membersL
    refine List.Pairwise.map _ (R := (· < ·)) (fun a b hab => by omega) ?_
    exact List.Pairwise.filter _ List.pairwise_lt_range
  · unfold membersL
    rw [List.mem_map]
    constructor
    · rintro ⟨k, hk, rfl⟩
      exact (orL_bit fun i hi => by have := h2 i hi; omega).1 (List.mem_filter.1 hk).2
    · intro hy
      have := h2 y hy
      refine ⟨y.toNat, List.mem_filter.2 ⟨List.mem_range.2 (by omega), ?_⟩, by omega⟩
      exact (orL_bit fun i hi => by have := h2 i hi; omega).2 (by rw [show ((y.toNat : Nat) : Int) = y by omega]; exact hy)
theorem table_or (he : askErr d x set = 0) : (tableV d x)[orL set]? = some (explV d x set) ∧ (tableV d x).length = 2 ^ x.suspects.length ∧ orL set < 2 ^ x.suspects.length := by
  obtain ⟨h0, hs⟩ := askErr_ok.1 he
  have hlt := orL_lt (fun i hi => by have := (setB_ok hs).2 i hi; omega : ∀ i ∈ set, 0 ≤ i ∧ i < x.suspects.length)
  unfold tableV tableL
  rw [if_pos h0]
  refine ⟨?_, by simp, hlt⟩
  rw [List.getElem?_map, List.getElem?_range hlt]
  show some (explV d x (membersL (orL set) x.suspects.length)) = _
  rw [members_or hs]
end
end Go.Proofs.YtcpdhclnmjfldaaGreat

/- Layer 48: the law EvidenceExact. -/
namespace Go.Proofs.YtcpdhclnmjfldaaGreat
open Go Go.RowKit

section
variable {D : Nat → Prop} {w : World}
theorem callSE {f : FuncId} [h : Enters Tryz.prog f] {args : Array Value} {K : VK} {X : XK} (c : CallZ Tryz.prog f args w (fun v w' => ∃ b, v = .bool b ∧ Ext w w')) (k1 : ∀ w', Ext w w' → K (.bool true) w') (k2 : ∀ w', Ext w w' → K (.bool false) w') : CallP Tryz.prog f args K X w := by
  refine call_of c ?_
  rintro _ w' ⟨b, rfl, x⟩
  cases b
  · exact k2 w' x
  · exact k1 w' x
end
end Go.Proofs.YtcpdhclnmjfldaaGreat
