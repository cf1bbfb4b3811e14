/- Parts of the proof: Sj Za. -/
import Derived.Test.YtcpdhclnmjfldaaGreatM12
import Derived.Test.YtcpdhclnmjfldaaGreatM7
import Derived.Test.YtcpdhclnmjfldaaGreatM9
import Derived.Test.YtcpdhclnmjfldaaGreatRows
import Derived.Stop.LaidErr

/- Layer 49: the law SuspectsCores. -/
namespace Go.Proofs.YtcpdhclnmjfldaaGreat
open Go Go.RowKit

abbrev notL (T : List Bool) : List Bool := T.map fun b => !b
theorem tget_not {T : List Bool} {n : Nat} (h : n < T.length) : tget (notL T) n = !(tget T n) := by
  unfold tget
  rw [List.getD_eq_getElem?_getD, List.getD_eq_getElem?_getD, List.getElem?_map, List.getElem?_eq_getElem h]; rfl
section
variable {d : Dist} {x : Ev}
theorem sub_mono (h : evErr d x = 0) {a b : Nat} (ha : a < 2 ^ x.suspects.length) (hb : b < 2 ^ x.suspects.length) (hs : ∀ j, a.testBit j = true → b.testBit j = true) (ht : tget (tableV d x) a = true) : tget (tableV d x) b = true := by
  rw [tget_expl h ha] at ht
  rw [tget_expl h hb]
  refine expl_mono (ask_members h a) (ask_members h b) (fun i hi => ?_) ht
  obtain ⟨j, hj, hb', rfl⟩ := mem_members.1 hi
  exact mem_members.2 ⟨j, hj, hs j hb', rfl⟩
theorem cores_min (h : evErr d x = 0) : coresL (notL (tableV d x)) x.suspects.length (2 ^ x.suspects.length) = (List.range (tableV d x).length).filter (minB (tableV d x) x.suspects.length) := by
  unfold coresL
  rw [table_len h]
  apply List.filter_congr
  intro n hn
  have hn := List.mem_range.1 hn
  have hl := table_len h
  rw [tget_not (by omega), Bool.not_not]
  unfold minB coreB
  congr 1
  rw [Bool.eq_iff_iff, List.all_eq_true, List.all_eq_true]
  have key : ∀ j, (!(decide (n >>> j &&& 1 = 1) && (tget (notL (tableV d x)) (n ^^^ 2 ^ j) == false))) = (!n.testBit j || !tget (tableV d x) (n - 2 ^ j)) := fun j => by
    cases hb : n.testBit j with
    | true =>
      rw [decide_eq_true (bit_one.2 hb), xor_bit hb, tget_not (show n - 2 ^ j < (tableV d x).length by rw [hl]; exact Nat.lt_of_le_of_lt (Nat.sub_le _ _) hn)]
      cases tget (tableV d x) (n - 2 ^ j) <;> rfl
    | false =>
      rw [decide_eq_false (fun e => by rw [bit_one.1 e] at hb; cases hb)]
      rfl
  exact ⟨fun hh j hj => by rw [← key]; exact hh j hj, fun hh j hj => by rw [key]; exact hh j hj⟩
theorem orL_members {n S : Nat} (h : n < 2 ^ S) : orL (membersL n S) = n := by
  refine members_inj (orL_lt fun i hi => ?_) h (members_or members_set)
  obtain ⟨j, hj, -, rfl⟩ := mem_members.1 hi
  omega
theorem keys_perm (h : evErr d x = 0) : ((minSets d x).map orL).Perm (coresL (notL (tableV d x)) x.suspects.length (2 ^ x.suspects.length)) := by
  have h1 : (minSets d x).Perm (minL (tableV d x) x.suspects.length) := (putsS_ok (minL_nodup table_le2)).1
  refine (h1.map orL).trans ?_
  rw [cores_min h]
  unfold minL
  rw [List.map_map]
  have : ((List.range (tableV d x).length).filter (minB (tableV d x) x.suspects.length)).map (orL ∘ fun n => membersL n x.suspects.length) = ((List.range (tableV d x).length).filter (minB (tableV d x) x.suspects.length)).map id := by
    apply List.map_congr_left
    intro n hn
    have := List.mem_range.1 (List.mem_filter.1 hn).1
    rw [table_len h] at this
    exact orL_members this
  rw [this, List.map_id]
theorem cores_below (h : evErr d x = 0) {s : Nat} (hs : s < 2 ^ x.suspects.length) : tget (tableV d x) s = true ↔ ∃ c ∈ coresL (notL (tableV d x)) x.suspects.length (2 ^ x.suspects.length), c &&& s = c := by
  rw [cores_min h]
  constructor
  · intro ht
    obtain ⟨m, h1, h2, h3⟩ := min_below s hs ht
    refine ⟨m, List.mem_filter.2 ⟨List.mem_range.2 (by rw [table_len h]; omega), h1⟩, ?_⟩
    apply Nat.eq_of_testBit_eq
    intro j
    rw [Nat.testBit_and]
    cases hb : m.testBit j with
    | false => rfl
    | true => rw [h3 j hb]; rfl
  · rintro ⟨c, hc, e⟩
    obtain ⟨h1, h2⟩ := List.mem_filter.1 hc
    rw [List.mem_range, table_len h] at h1
    refine sub_mono h h1 hs (fun j hj => ?_) (minB_iff.1 h2).1
    rw [← e, Nat.testBit_and, Bool.and_eq_true] at hj
    exact hj.2
theorem cores_nodup {T : List Bool} {S m : Nat} : (coresL T S m).Nodup := List.nodup_range.filter _
theorem not_mono (h : evErr d x = 0) (n k : Nat) (hn : n < 2 ^ x.suspects.length) (ht : tget (notL (tableV d x)) n = true) (hb : n.testBit k = true) : tget (notL (tableV d x)) (n - 2 ^ k) = true := by
  have hl := table_len h
  rw [tget_not (show n < (tableV d x).length by omega)] at ht
  rw [tget_not (show n - 2 ^ k < (tableV d x).length by rw [hl]; exact Nat.lt_of_le_of_lt (Nat.sub_le _ _) hn)]
  cases hv : tget (tableV d x) (n - 2 ^ k) with
  | false => rfl
  | true =>
    have := sub_mono h (Nat.lt_of_le_of_lt (Nat.sub_le _ _) hn) hn (fun j hj => by rw [bit_sub hb j, Bool.and_eq_true] at hj; exact hj.1) hv
    rw [this] at ht; cases ht
end
/-! ### the map's entries -/
def entsL (ks : List Nat) : List MapEntry := ks.mapIdx fun (i : Nat) (k : Nat) => mkE (kvI (k : Int)) (Value.bool true) i
theorem ents_snoc {ks : List Nat} {k : Nat} : entsL (ks ++ [k]) = entsL ks ++ [mkE (kvI (k : Int)) (.bool true) ks.length] := by unfold entsL; rw [List.mapIdx_concat]
theorem ents_mem {ks : List Nat} {e : MapEntry} (h : e ∈ entsL ks) : ∃ k : Nat, k ∈ ks ∧ e.key = kvI (k : Int) ∧ e.val = .bool true := by
  unfold entsL at h
  obtain ⟨i, hi, rfl⟩ := List.mem_mapIdx.1 h
  exact ⟨_, List.getElem_mem hi, rfl, rfl⟩
theorem ents_has {ks : List Nat} {k : Nat} (h : k ∈ ks) : ∃ e ∈ entsL ks, e.key = kvI (k : Int) := by
  obtain ⟨i, hi, rfl⟩ := List.getElem_of_mem h
  exact ⟨_, List.mem_mapIdx.2 ⟨i, hi, rfl⟩, rfl⟩
theorem ents_len {ks : List Nat} : (entsL ks).length = ks.length := by unfold entsL; rw [List.length_mapIdx]
theorem look_true {v k : Value} : ∀ {L : List MapEntry}, (∀ e ∈ L, e.val = v) → (∃ e ∈ L, e.key = k) → lookP k L = some v
  | [], _, ⟨e, he, _⟩ => by cases he
  | a :: L, h, ⟨e, he, hk⟩ => by
    rw [lookP_cons]
    by_cases ha : a.key = k
    · rw [if_pos ha, h a List.mem_cons_self]
    · rw [if_neg ha]
      rcases List.mem_cons.1 he with rfl | he
      · exact absurd hk ha
      · exact look_true (fun x hx => h x (List.mem_cons_of_mem _ hx)) ⟨e, he, hk⟩
theorem left_lt {L : List MapEntry} {seen : List Nat} {e : MapEntry} (he : e ∈ L) (hn : e.born ∉ seen) : (L.filter fun x => !(seen ++ [e.born]).contains x.born).length < (L.filter fun x => !seen.contains x.born).length := by
  induction L with
  | nil => cases he
  | cons a L ih =>
    have hle : (L.filter fun x => !(seen ++ [e.born]).contains x.born).length ≤ (L.filter fun x => !seen.contains x.born).length := by
      rw [← List.countP_eq_length_filter, ← List.countP_eq_length_filter]
      refine List.countP_mono_left fun x _ hx => ?_
      simp only [Bool.not_eq_true', List.contains_eq_mem, decide_eq_false_iff_not, List.mem_append] at hx ⊢
      exact fun h => hx (.inl h)
    rw [List.filter_cons, List.filter_cons]
    by_cases hae : a.born = e.born
    · have h1 : (!(seen ++ [e.born]).contains a.born) = false := by rw [hae]; simp
      have h2 : (!seen.contains a.born) = true := by rw [hae]; simpa using hn
      rw [h1, h2]
      simp only [Bool.false_eq_true, if_false, if_true, List.length_cons]
      omega
    · have he' : e ∈ L := by
        rcases List.mem_cons.1 he with rfl | h
        · exact absurd rfl hae
        · exact h
      have := ih he'
      have h3 : (!(seen ++ [e.born]).contains a.born) = (!seen.contains a.born) := by simp [hae]
      rw [h3]
      by_cases h4 : (!seen.contains a.born) = true
      · rw [if_pos h4, if_pos h4, List.length_cons, List.length_cons]; omega
      · rw [if_neg h4, if_neg h4]; exact this
instance keyInt1 : KeyL Tryz.prog 3 kvI := keyI Tryz.underlying3
section
variable {w : World}
set_option maxRecDepth 8000 in
theorem c_SuspectsCores {D : Nat → Prop} {csd csx : List Value} {d : Dist} {x : Ev} (hd : DiR D w csd d) (hx : EvR D w csx x) : CallZ Tryz.prog 6 #[.agg csd.toArray, .agg csx.toArray] w
    (fun v w' => v = .bool true ∧ Ext w w') := by
  have hd := hd.more (D' := fun _ => True) fun _ _ _ => trivial
  have hx := hx.more (D' := fun _ => True) fun _ _ _ => trivial
  obtain ⟨A1, n1, c1, A2, n2, c2, A3, n3, c3, A4, n4, c4, A5, n5, c5, A6, n6, c6, rfl, -⟩ := hd.ex
  obtain ⟨W1, m1, e1, S1, m2, e2, rfl, hwv, hsu, -⟩ := hx.ex
  have lsu := hsu.len
  refine fn_rule (args := [.agg #[.string d.name, iv d.hours, iv d.cap, iv d.start, .slice A1 n1 c1, .slice A2 n2 c2, .slice A3 n3 c3, .slice A4 n4 c4, .slice A5 n5 c5, .slice A6 n6 c6], .agg #[.slice W1 m1 e1, .slice S1 m2 e2]]) Tryz.func6 (by kernel_rfl) ?_
  refine box (fun bd w1 h1 => ?_)
  refine box (fun bx w2 h2 => ?_)
  have x2 := h1.ext.trans h2.ext
  have Bd : Blk w2 bd 31 [.string d.name, iv d.hours, iv d.cap, iv d.start, .slice A1 n1 c1, .slice A2 n2 c2, .slice A3 n3 c3, .slice A4 n4 c4, .slice A5 n5 c5, .slice A6 n6 c6] := h1.blk.ext h2.ext
  have Bx : Blk w2 bx 35 [.slice W1 m1 e1, .slice S1 m2 e2] := h2.blk
  refine call_of (c_ssane) ?_
  rintro _ w3 ⟨rfl, x3⟩
  refine ldA [.string d.name, iv d.hours, iv d.cap, iv d.start, .slice A1 n1 c1, .slice A2 n2 c2, .slice A3 n3 c3, .slice A4 n4 c4, .slice A5 n5 c5, .slice A6 n6 c6] (.blk (Bd.ext x3)) rfl ?_
  refine ldA [.slice W1 m1 e1, .slice S1 m2 e2] (.blk (Bx.ext x3)) rfl ?_
  refine callSE (c_r49Few ((hd.ext x2).ext x3) ((hx.ext x2).ext x3)) (fun w4 x4 => ?_) (fun w4 x4 => ?_)
  rotate_left
  · exact ret1 (.bool true) rfl ⟨rfl, x2.trans (x3.trans x4)⟩
  have X := x2.trans (x3.trans x4)
  have Bd := Bd.ext (x3.trans x4)
  have Bx := Bx.ext (x3.trans x4)
  have hd := hd.ext X
  have hx := hx.ext X
  obtain ⟨ee, hee⟩ : ∃ ee, ee = evErr d x := ⟨_, rfl⟩
  refine ldA [.string d.name, iv d.hours, iv d.cap, iv d.start, .slice A1 n1 c1, .slice A2 n2 c2, .slice A3 n3 c3, .slice A4 n4 c4, .slice A5 n5 c5, .slice A6 n6 c6] (.blk Bd) rfl ?_
  refine ldA [.slice W1 m1 e1, .slice S1 m2 e2] (.blk Bx) rfl ?_
  refine call_of (c_Table hd hx) ?_
  rintro _ w5 ⟨TA, tn, tc, rfl, oT⟩
  rw [← hee]
  have X := X.trans oT.ext
  have hd := hd.ext oT.ext
  have hx := hx.ext oT.ext
  have Bd := Bd.ext oT.ext
  have Bx := Bx.ext oT.ext
  refine ldA [.string d.name, iv d.hours, iv d.cap, iv d.start, .slice A1 n1 c1, .slice A2 n2 c2, .slice A3 n3 c3, .slice A4 n4 c4, .slice A5 n5 c5, .slice A6 n6 c6] (.blk Bd) rfl ?_
  refine ldA [.slice W1 m1 e1, .slice S1 m2 e2] (.blk Bx) rfl ?_
  refine call_of (c_sMinimal hd hx) ?_
  rintro _ w6 ⟨LA, ln, lc, ls, rfl, ol, hl⟩
  rw [← hee]
  have X := X.trans ol.own.ext
  have hd := hd.ext ol.own.ext
  have hx := hx.ext ol.own.ext
  have Bd := Bd.ext ol.own.ext
  have Bx := Bx.ext ol.own.ext
  have hln := ol.cnt hl
  refine cN (fun hne => ?_) (fun h00 => ?_)
  · refine cE (fun _ => ?_) (fun h => absurd rfl h)
    have : ln = 0 := by rw [hln, minSets_err (by rw [← hee]; exact hne)]; rfl
    refine len ?_
    refine cE (fun _ => ?_) (fun h => absurd (show (ln : Int) = 0 by omega) h)
    exact ret1 (.bool true) rfl ⟨rfl, X⟩
  refine cN (fun hne => absurd h00 hne) (fun _ => ?_)
  have hev : evErr d x = 0 := by rw [← hee]; exact h00
  obtain ⟨-, -, hS⟩ := ev_sizes hev
  have tl := table_len hev
  have hpow : 2 ^ x.suspects.length ≤ 4096 := Nat.le_trans (Nat.pow_le_pow_right (by omega) hS) (by decide)
  have bT := (oT.bools (D := fun _ => True) (by omega) fun _ _ => trivial).ext ol.own.ext
  have tnl : tn = 2 ^ x.suspects.length := by rw [← tl]; exact bT.len.symm
  refine fldA ?_
  refine ld (.slice S1 m2 e2) (Bx.cell rfl) ?_
  refine len ?_
  refine cD (fun h => absurd h (by omega)) (fun _ => ?_)
  refine len ?_
  refine shl1 (fun pw hpw _ => ?_)
  have hpw : pw = 2 ^ x.suspects.length := by rw [hpw, Int.toNat_natCast, lsu]
  refine cN (fun h => absurd (show (tn : Int) = (pw : Int) by rw [tnl, hpw]) h) (fun _ => ?_)
  refine len ?_
  refine loop4 (fun (k : Nat) (B : Option Addr) (m e : Nat) => [(71, iv (k : Int)), (10, .slice B m e)]) (fun k B m e u => k ≤ tn ∧ m = k ∧ OwnF w6 u B m e 4 1 (((notL (tableV d x)).take k).map fun b => Value.bool b)) (fun k _ _ _ _ => tn - k) 0 none 0 0 ⟨rfl, rfl, trivial⟩ ⟨by omega, rfl, OwnF.nil (.refl _ _)⟩ rfl ?_
  rintro G k B m e u ⟨hk, hm, q⟩
  refine cD (fun hlt => ?_) (fun hge => ?_)
  · have hlt : k < tn := by omega
    obtain ⟨b', o', cs, y, rfl, hy, -, -, hc, rfl⟩ := bT.at_ hlt
    have htk : (notL (tableV d x)).take (k + 1) = (notL (tableV d x)).take k ++ [!y] := by rw [List.take_add_one, List.getElem?_map, hy]; rfl
    refine idx k rfl hlt ?_
    refine ld (.bool y) (q.ext.cell (hc 0 _ rfl) trivial) ?_
    cases y with
    | true =>
      refine lit [.bool false] (fun gg u1 hq => ?_)
      refine appF (q.then hq.ext) (hq.src (sz := 1) rfl) (by omega) (fun B' e' u2 q2 kk hA => ?_)
      refine arI (by omega) ?_
      refine next4 (k + 1) B' (m + 1) e' ⟨by rw [Int.natCast_add]; rfl, rfl, trivial⟩ ⟨by omega, by omega, ?_⟩ (by omega)
      rw [htk, List.map_append]; exact q2
    | false =>
      refine lit [.bool true] (fun gg u1 hq => ?_)
      refine appF (q.then hq.ext) (hq.src (sz := 1) rfl) (by omega) (fun B' e' u2 q2 kk hA => ?_)
      refine arI (by omega) ?_
      refine next4 (k + 1) B' (m + 1) e' ⟨by rw [Int.natCast_add]; rfl, rfl, trivial⟩ ⟨by omega, by omega, ?_⟩ (by omega)
      rw [htk, List.map_append]; exact q2
  have hnl : (notL (tableV d x)).length = tn := by rw [List.length_map, tl, tnl]
  rw [List.take_of_length_le (by omega)] at q
  have bN := q.bools (D := fun _ => True) (by omega) fun _ _ => trivial
  have X := X.trans q.ext
  have hd := hd.ext q.ext
  have hx := hx.ext q.ext
  have Bd := Bd.ext q.ext
  have Bx := Bx.ext q.ext
  have bT := bT.ext q.ext
  have ol := ol.ext q.ext
  have cC := c_hcores (c := e) (S := x.suspects.length) bN (by rw [hm]; omega) hS (not_mono hev)
  rw [lsu] at cC
  refine call_of cC ?_
  clear cC
  rintro _ w7 ⟨CA, cn, cc, E2, en, ec, rfl, oC⟩
  have X := X.trans oC.ext
  have hd := hd.ext oC.ext
  have hx := hx.ext oC.ext
  have Bd := Bd.ext oC.ext
  have Bx := Bx.ext oC.ext
  have bT := bT.ext oC.ext
  have ol := ol.ext oC.ext
  obtain ⟨Ks, hKs⟩ : ∃ Ks, Ks = (minSets d x).map orL := ⟨_, rfl⟩
  obtain ⟨Cs, hCs⟩ : ∃ Cs, Cs = coresL (notL (tableV d x)) x.suspects.length (2 ^ x.suspects.length) := ⟨_, rfl⟩
  have hperm : Ks.Perm Cs := by rw [hKs, hCs]; exact keys_perm hev
  have hCn : Cs.Nodup := by rw [hCs]; exact cores_nodup
  have hKn : Ks.Nodup := hperm.nodup_iff.2 hCn
  have hKl : Ks.length = ln := by rw [hKs, List.length_map, hln]
  have hml := min_len (d := d) (x := x)
  have oC : OwnF u w7 CA cn cc 3 1 (Cs.map fun k : Nat => iv (k : Int)) := by
    have : m = 2 ^ x.suspects.length := by omega
    rw [this, ← lsu, ← hCs] at oC; exact oC
  have hcn : cn = ln := by
    have := oC.own.len
    rw [List.length_map, ← hperm.length_eq, hKl] at this
    omega
  refine mmap (fun gm w8 hgm hw8 => ?_)
  have E8 : Ents kvI w8 gm (entsL (Ks.take 0)) 0 := by subst hgm; subst hw8; exact Ents.new kvI w7
  have x78 : Ext w7 w8 := by subst hw8; exact Kept.alloc _ _ _
  have X7 := X
  have hd7 := hd
  have hx7 := hx
  have hgn : w7.heap.size ≤ gm := by omega
  have oC' : OwnF u w7 CA cn cc 3 1 ((Cs.map fun k : Nat => (k : Int)).map fun k => .int .i64 k) := by rw [List.map_map]; exact oC
  have hCb : ∀ k ∈ Cs, k < 4096 := fun k hk => by
    rw [hCs] at hk
    have := List.mem_range.1 (List.mem_filter.1 hk).1
    omega
  have sC := oC'.ints (D := fun _ => True) (fun v hv => by
    obtain ⟨k, hk, rfl⟩ := List.mem_map.1 hv
    have := hCb k hk
    unfold I64; omega) (by omega) fun _ _ => trivial
  refine len ?_
  refine loop_rule (fun k : Nat => [(91, iv (k : Int))]) (fun k u => k ≤ ln ∧ Kept (fun b => b ≠ gm) w8 u ∧ Ents kvI u gm (entsL (Ks.take k)) k) (fun k _ => ln - k) 0 ⟨rfl, trivial⟩ ⟨by omega, .refl _ _, E8⟩ rfl ?_
  rintro G1 k v ⟨hk1, kv, Ek⟩
  have x7v : Ext w7 v := x78.then kv fun b hb _ e => by omega
  refine cD (fun hlt => ?_) (fun hge => ?_)
  · have hlt : k < ln := by omega
    obtain ⟨g, hdd, rfl, hhd, hc, hI⟩ := (ol.ext x7v).cell hlt
    have hlk : (minSets d x)[k]? = some hdd.l := by rw [← hl, List.getElem?_map, hhd]; rfl
    have hmm := List.mem_of_getElem? hlk
    have hkk : Ks[k]? = some (orL hdd.l) := by rw [hKs, List.getElem?_map, hlk]; rfl
    have htk : Ks.take (k + 1) = Ks.take k ++ [orL hdd.l] := by rw [List.take_add_one, hkk]; rfl
    have hIb : ∀ i ∈ hdd.l, 0 ≤ i ∧ i < 12 := fun i hi => by
      obtain ⟨p, -, -, e⟩ := mem_min.1 hmm
      rw [e] at hi
      obtain ⟨jj, hj, -, rfl⟩ := mem_members.1 hi
      omega
    refine idx k rfl hlt ?_
    refine ld hdd.v hc ?_
    refine call_of (c_sbits (c := hdd.c) hI.rdT hIb) ?_
    rintro _ v' ⟨rfl, hv'⟩
    subst v'
    refine mupdN (kv := kvI) (orL hdd.l : Int) Ek (fun e he => ?_) (fun v2 E2 k2 s2 => ?_)
    · obtain ⟨q, hq, hkey, -⟩ := ents_mem he
      rw [hkey]
      intro e2
      injection e2 with _ e2
      have e2 : q = orL hdd.l := by omega
      have hn := hKn.sublist (List.take_sublist (k + 1) Ks)
      rw [htk] at hn
      exact (List.nodup_append.1 hn).2.2 q hq (orL hdd.l) (List.mem_singleton.2 rfl) e2
    · refine arI (by omega) ?_
      refine next (k + 1) ⟨by rw [Int.natCast_add]; rfl, trivial⟩ ⟨by omega, kv.trans k2, ?_⟩ (by omega)
      rw [htk, ents_snoc, List.length_take, Nat.min_eq_left (by omega)]
      exact E2
  have hkl : k = ln := by omega
  rw [List.take_of_length_le (by omega)] at Ek
  have hel : (entsL Ks).length = ln := by rw [ents_len, hKl]
  have hlook : ∀ q ∈ Ks, lookP (kvI (q : Int)) (entsL Ks) = some (.bool true) := fun q hq => look_true (fun e he => by obtain ⟨_, -, -, h⟩ := ents_mem he; exact h) (ents_has hq)
  have Xv := X.trans x7v
  refine cN (fun h => absurd rfl h) (fun _ => ?_)
  refine len ?_
  refine len ?_
  refine cN (fun h => absurd (show (cn : Int) = (ln : Int) by omega) h) (fun _ => ?_)
  refine lenM (kv := kvI) (n := ln) (fun y hy => by subst hy; exact ⟨_, _, Ek, hel⟩) ?_
  refine len ?_
  refine cN (fun h => absurd rfl h) (fun _ => ?_)
  refine len ?_
  refine loop_rule (fun j : Nat => [(117, iv (j : Int))]) (fun j y => j ≤ cn ∧ v = y) (fun j _ => cn - j) 0 ⟨rfl, trivial⟩ ⟨by omega, rfl⟩ rfl ?_
  rintro G2 j y ⟨hj, rfl⟩
  refine cD (fun hlt => ?_) (fun hge => ?_)
  · have hlt : j < cn := by omega
    obtain ⟨q, hq⟩ : ∃ q, Cs[j]? = some q := ⟨Cs[j]'(by rw [← hperm.length_eq]; omega), List.getElem?_eq_getElem (by rw [← hperm.length_eq]; omega)⟩
    have hqK : q ∈ Ks := hperm.mem_iff.2 (List.mem_of_getElem? hq)
    obtain ⟨b0, o0, rfl, -, hcc⟩ := (sC.ext x7v).one (k := j) (x := (q : Int)) (by rw [List.getElem?_map, hq]; rfl)
    refine idx j rfl hlt ?_
    refine ld (iv (q : Int)) hcc ?_
    refine lookG1 (kv := kvI) (q : Int) (.bool true) (fun y hy => by subst hy; exact ⟨_, Ek.g, by rw [hlook q hqK]; rfl⟩) ?_
    refine arI (by omega) ?_
    exact next (j + 1) ⟨by rw [Int.natCast_add]; rfl, trivial⟩ ⟨by omega, rfl⟩ (by omega)
  have bTv := bT.ext x7v
  refine len ?_
  refine loop_rule (fun s : Nat => [(128, iv (s : Int))]) (fun s y => s ≤ tn ∧ Ext v y) (fun s _ => tn - s) 0 ⟨rfl, trivial⟩ ⟨by omega, .refl _ _⟩ rfl ?_
  rintro G3 s y ⟨hs, xy⟩
  refine cD (fun hlt => ?_) (fun hge => ret1 (.bool true) rfl ⟨rfl, Xv.trans xy⟩)
  have hlt : s < tn := by omega
  obtain ⟨b', o', cs, ok, rfl, hok, -, -, hc, rfl⟩ := (bTv.ext xy).at_ hlt
  have hokt : tget (tableV d x) s = ok := by unfold tget; rw [List.getD_eq_getElem?_getD, hok]; rfl
  refine idx s rfl hlt ?_
  refine ld (.bool ok) (hc 0 _ rfl) ?_
  have Ey := Ek.kept xy trivial
  refine rngM (kv := kvI) (t := 58) rfl Ey (fun w9 E9 I9 x9 z9 => ?_)
  refine loop2 (fun (_ : List Nat) (b : Bool) => [(23, .bool b)]) (fun seen b y2 => Kept (fun b => b ≠ y.heap.size) w9 y2 ∧ Ents kvI y2 gm (entsL Ks) k ∧ IterM y2 y.heap.size gm k seen ∧ (b = true ↔ ∃ e ∈ entsL Ks, e.born ∈ seen ∧ ∃ q : Nat, e.key = kvI (q : Int) ∧ q &&& s = q)) (fun seen _ _ => ((entsL Ks).filter fun x => !seen.contains x.born).length) [] false ⟨rfl, trivial⟩ ⟨.refl _ _, E9, I9, by simp⟩ rfl ?_
  rintro G4 seen b y2 ⟨ky2, Ey2, Iy2, hb⟩
  refine nxtM (kv := kvI) rfl Ey2 Iy2 (fun hall => ?_) (fun e he hns y3 E3 I3 k3 z3 => ?_)
  · have hiff : b = true ↔ ok = true := by
      rw [hb, ← hokt, cores_below hev (by omega), ← hCs]
      constructor
      · rintro ⟨e, he, -, q, hkey, hqs⟩
        obtain ⟨q', hq', hkey', -⟩ := ents_mem he
        rw [hkey] at hkey'
        injection hkey' with _ hkey'
        have : q = q' := by omega
        subst this
        exact ⟨q, hperm.mem_iff.1 hq', hqs⟩
      · rintro ⟨q, hq, hqs⟩
        obtain ⟨e, he, hkey⟩ := ents_has (hperm.mem_iff.2 hq)
        exact ⟨e, he, hall e he, q, hkey, hqs⟩
    have hbo : ok = b := by
      rw [Bool.eq_iff_iff]; exact hiff.symm
    refine neB (fun h => absurd hbo h) (fun _ => ?_)
    refine arI (by omega) ?_
    exact next (s + 1) ⟨by rw [Int.natCast_add]; rfl, trivial⟩ ⟨by omega, xy.trans (x9.then ky2 fun b hb _ e => by omega)⟩ (by omega)
  · obtain ⟨q, hq, hkey, hval⟩ := ents_mem he
    refine entM (kv := kvI) rfl E3 he I3 ?_
    rw [hkey]
    have hql : q < 4096 := hCb q (hperm.mem_iff.1 hq)
    have hlt2 := left_lt he hns
    have hstep : (∃ e' ∈ entsL Ks, e'.born ∈ seen ++ [e.born] ∧ ∃ q : Nat, e'.key = kvI (q : Int) ∧ q &&& s = q) ↔ (b = true ∨ q &&& s = q) := by
      rw [hb]
      constructor
      · rintro ⟨e', he', hb', q', hk', hs'⟩
        rcases List.mem_append.1 hb' with h | h
        · exact .inl ⟨e', he', h, q', hk', hs'⟩
        · obtain ⟨i1, hi1⟩ := List.getElem?_of_mem he
          obtain ⟨i2, hi2⟩ := List.getElem?_of_mem he'
          have := (Ey2.born i1 e hi1).2 i2 e' hi2 (List.mem_singleton.1 h)
          subst this
          rw [hi1] at hi2
          injection hi2 with hi2
          subst hi2
          rw [hkey] at hk'
          injection hk' with _ hk'
          have : q = q' := by omega
          subst this
          exact .inr hs'
      · rintro (⟨e', he', hb', r⟩ | h)
        · exact ⟨e', he', List.mem_append.2 (.inl hb'), r⟩
        · exact ⟨e, he, List.mem_append.2 (.inr (List.mem_singleton.2 rfl)), q, hkey, h⟩
    cases b with
    | true =>
      exact next2 (seen ++ [e.born]) true ⟨rfl, trivial⟩ ⟨ky2.trans k3, E3, I3, by rw [hstep]; simp⟩ hlt2
    | false =>
      refine andV (a := q) (b := s) (fun an han => ?_)
      refine cE (fun h => ?_) (fun h => ?_)
      · exact next2 (seen ++ [e.born]) true ⟨rfl, trivial⟩ ⟨ky2.trans k3, E3, I3, by rw [hstep]; simp; omega⟩ hlt2
      · exact next2 (seen ++ [e.born]) false ⟨rfl, trivial⟩ ⟨ky2.trans k3, E3, I3, by rw [hstep]; simp; omega⟩ hlt2
end
end Go.Proofs.YtcpdhclnmjfldaaGreat

/- Closing: what evidence and Truths that are handed in read as. -/
namespace Go.Proofs.YtcpdhclnmjfldaaGreat
open Go Go.RowKit Go.ChangeShapes Go.WideShapes Go.ChangeAt

def tEvR : Ty Ev where
  sz := 2
  rep := EvR
  len h := by obtain ⟨_, _, _, _, _, _, rfl, -⟩ := h.ex; rfl
  keep hk h := h.keep hk
  more hk h := h.more hk
theorem rd_is : Rd Tryz.prog 43 (tSl tInt) := inferInstance
theorem rd_rg : Rd Tryz.prog 105 tRg := by
  refine Rd.of (fun y : Int × Int => (⟨y.1, y.2⟩ : Rg)) rd_range ?_
  rintro W cs ⟨s, u⟩ ⟨_, _, rfl, ⟨rfl, -⟩, ⟨rfl, -⟩⟩
  rfl
theorem rd_su : Rd Tryz.prog 112 tSu := by
  refine Rd.of (fun y : Int × Int × Int => (⟨y.1, y.2.1, y.2.2⟩ : Su))
    (Rd.struct Tryz.underlying112 (by kernel_rfl) fun n => .cons (rdAt Tryz.prog 3 tInt n) rfl (.cons (rdAt Tryz.prog 3 tInt n) rfl (.one (rdAt Tryz.prog 3 tInt n) rfl))) ?_
  rintro W cs ⟨s, u, d⟩ ⟨_, _, rfl, ⟨rfl, -⟩, _, _, rfl, ⟨rfl, -⟩, ⟨rfl, -⟩⟩
  rfl
instance : Rd Tryz.prog 105 tRg := rd_rg
instance : Rd Tryz.prog 112 tSu := rd_su
theorem rd_rgs : Rd Tryz.prog 90 (tSl tRg) := inferInstance
theorem rd_wave : Rd Tryz.prog 92 tWv := Rd.map (g := fun y : Int × List Rg × List Rg × List Rg => (⟨y.1, y.2.1, y.2.2.1, y.2.2.2⟩ : Wv))
    (Rd.struct Tryz.underlying92 (by kernel_rfl) fun n => .cons (rdAt Tryz.prog 3 tInt n) rfl (.cons (rd_rgs.h n) rfl (.cons (rd_rgs.h n) rfl (.one (rd_rgs.h n) rfl)))) fun _ => rfl
theorem rd_tru : Rd Tryz.prog 94 tTru := Rd.map (g := fun y : List Int × List Int × List Int × List Int × List Int => (⟨y.1, y.2.1, y.2.2.1, y.2.2.2.1, y.2.2.2.2⟩ : Tru))
    (Rd.struct Tryz.underlying94 (by kernel_rfl) fun n => .cons (rd_is.h n) rfl (.cons (rd_is.h n) rfl (.cons (rd_is.h n) rfl (.cons (rd_is.h n) rfl (.one (rd_is.h n) rfl))))) fun _ => rfl
instance : Rd Tryz.prog 92 tWv := rd_wave
instance : Rd Tryz.prog 94 tTru := rd_tru
theorem rd_waves : Rd Tryz.prog 32 (tSl tWv) := inferInstance
theorem rd_sus : Rd Tryz.prog 33 (tSl tSu) := inferInstance
theorem rd_trus : Rd Tryz.prog 60 (tSl tTru) := inferInstance
theorem rd_ev : Rd Tryz.prog 35 tEvR := by
  refine Rd.of (fun y : List Wv × List Su => (⟨y.1, y.2⟩ : Ev))
    (Rd.struct Tryz.underlying35 (by kernel_rfl) fun n => .cons (rd_waves.h n) rfl (.one (rd_sus.h n) rfl)) ?_
  rintro W cs ⟨l1, l2⟩ ⟨_, _, rfl, ⟨A1, n1, c1, rfl, h1, g1⟩, A2, n2, c2, rfl, h2, g2⟩
  exact EvR.of_ ⟨A1, n1, c1, A2, n2, c2, rfl, h1, h2, g1, g2⟩
end Go.Proofs.YtcpdhclnmjfldaaGreat
