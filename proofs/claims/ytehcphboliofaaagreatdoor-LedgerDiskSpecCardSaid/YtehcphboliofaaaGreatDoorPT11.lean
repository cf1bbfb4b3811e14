/- Parts of the proof: M7 M8 M9 M0 Mc Md Me N1. -/
import Derived.Test.YtehcphboliofaaaGreatDoorPT10
import Derived.Test.YtehcphboliofaaaGreatDoorPT8
import Derived.Test.YtehcphboliofaaaGreatDoorPT9
import Derived.Test.YtehcphboliofaaaGreatDoorPT7
import Derived.Test.YtehcphboliofaaaGreatDoorPT5
namespace Go.Proofs.YtehcphboliofaaaGreatDoor
open Go Go.RowKit
noncomputable def rdL : List (List Nat) → List Post
  | [] => []
  | b :: r => match rdT b with
    | none => []
    | some p => p :: rdL r
theorem rdL_none {b : List Nat} {r : List (List Nat)} (h : rdT b = none) : rdL (b :: r) = [] := by rw [rdL, h]
theorem rdL_some {b : List Nat} {r : List (List Nat)} {p : Post} (h : rdT b = some p) : rdL (b :: r) = p :: rdL r := by rw [rdL, h]
noncomputable def loadP (d : Dsk) : List Post × Int := if (openP d).2 ≠ 0 then ([], (openP d).2) else ((rdL (openP d).1.recs).take (vN (rdL (openP d).1.recs)), 0)
theorem recG_small : ∀ (l : List (List Nat)) (n : Nat) (cur : Option (Nat × List Nat)) (last : Nat), ∀ x ∈ recG l n cur last, x.2.length ≤ (curB cur).length + 112 * l.length
  | [], n, cur, last, x, h => by cases h
  | s :: r, n, cur, last, x, h => by
    unfold recG at h
    rw [List.length_cons]
    split at h
    · rename_i hok
      have hp : (pieceB s).length ≤ 112 := by unfold pieceB; rw [List.length_take]; have := hok.1.1; omega
      split at h
      · rcases List.mem_cons.1 h with rfl | h
        · show (curB cur ++ pieceB s).length ≤ _
          rw [List.length_append]; omega
        · have := recG_small r (n + 1) none (genS s) x h
          have e : (curB none).length = 0 := rfl
          omega
      · have := recG_small r (n + 1) (some (curG cur s, curB cur ++ pieceB s)) last x h
        have e : (curB (some (curG cur s, curB cur ++ pieceB s))).length = (curB cur).length + (pieceB s).length := List.length_append
        omega
    · cases h
theorem recsD_small {l : List (List Nat)} : ∀ b ∈ recsD l, b.length ≤ 112 * l.length := fun b hb => by
  unfold recsD at hb
  obtain ⟨x, hx, rfl⟩ := List.mem_map.1 hb
  have := recG_small l 0 none 0 x hx
  have e : (curB none).length = 0 := rfl
  omega
theorem openP_ok {d : Dsk} (h : (openP d).2 = 0) : okD d ∧ d.stop = false ∧ d.pend = [] ∧ (openP d).1 = ⟨recsD d.secs, d.secs.length, (recsD d.secs).length⟩ := by
  unfold openP at h ⊢
  by_cases h1 : okD d
  · rw [if_neg (fun q => q h1)] at h ⊢
    by_cases h2 : d.stop = true
    · rw [if_pos h2] at h; cases h
    · rw [if_neg h2] at h ⊢
      by_cases h3 : 0 < d.pend.length
      · rw [if_pos h3] at h; cases h
      · rw [if_neg h3]; exact ⟨h1, by simpa using h2, List.eq_nil_of_length_eq_zero (by omega), rfl⟩
  · rw [if_pos h1] at h; cases h
section
variable {w : World}
set_option maxRecDepth 8000 in
theorem c_lLoad {d : Dsk} {cs : List Value} (hd : DskR (fun _ => True) w cs d) : CallZ Tryz.prog 25 #[.agg cs.toArray] w (fun v w' => Ext w w' ∧ ∃ B m c', v = .tuple #[.agg #[.slice B m c'], iv (loadP d).2] ∧ SlR tPost (fun b => w.heap.size ≤ b) w' B m (loadP d).1 ∧ m ≤ c') := by
  obtain ⟨A, n, c, B, m, c2, rfl, hs, hc, hp, hc2, hId⟩ := hd.ex; refine fn_rule (args := [.agg #[.slice A n c, .slice B m c2, iv d.left, .bool d.stop]]) Tryz.func25 (by kernel_rfl) ?_; refine box (fun g1 w1 h1 => ?_); have G1 : Blk w1 g1 44 [.slice A n c, .slice B m c2, iv d.left, .bool d.stop] := h1.blk; refine alloc (fun b2 w2 h2 => ?_); have R2 : Blk w2 b2 24 [.slice none 0 0] := h2.blk; have e1 := h1.at_; have e2 := h2.at_; have x02 := h1.ext.trans h2.ext; have s1 := h1.ext.size; have lR := R2.lt; refine ldA [.slice A n c, .slice B m c2, iv d.left, .bool d.stop] (.blk (G1.ext h2.ext)) rfl ?_; refine call_of (c_jOpen (hd.ext x02)) ?_; rintro _ w3 ⟨csj, rfl, hj, x3⟩; obtain ⟨A3, n3, c3, rfl, hs3, hc3, -, -⟩ := hj.ex; have s3 := x3.size; refine alloc (fun b4 w4 h4 => ?_); refine stA (vs := [.slice A3 n3 c3, iv (openP d).1.many, iv (openP d).1.syn]) h4.blk rfl (Nat.le_of_ble_eq_true rfl) (by simp [Value.oneCell']) (fun w5 B5 k5 _ => ?_); have B5 : Blk w5 b4 108 [.slice A3 n3 c3, iv (openP d).1.many, iv (openP d).1.syn] := B5; have e4 := h4.at_
  have x35 : Ext w3 w5 := h4.ext.then k5 fun i hi _ e => by omega
  have x25 := x3.trans x35; have x05 := x02.trans x25; have R5 := R2.ext x25; have s25 := x25.size; refine cN (fun he => ?_) (fun he => ?_)
  · refine ldA [.slice none 0 0] (.blk R5) rfl ?_; refine stA (vs := [.slice none 0 0]) R5 rfl (Nat.le_of_ble_eq_true rfl) (by simp [Value.oneCell']) (fun we Be ke _ => ?_); have Be : Blk we b2 24 [.slice none 0 0] := Be; refine ret ?_; refine resL _ (holds_agg (.blk Be) rfl) ?_
    have hres : loadP d = ([], (openP d).2) := by unfold loadP; rw [if_pos he]
    exact ⟨x05.then ke fun i hi _ e => by omega, none, 0, 0, by rw [hres]; rfl, by rw [hres]; exact .nil, Nat.le_refl _⟩
  obtain ⟨hok, -, -, hop⟩ := openP_ok he; have hn3 := hs3.len; rw [hop] at hn3 hs3; obtain ⟨recs, hrecs⟩ : ∃ recs, recs = recsD d.secs := ⟨_, rfl⟩
  have hsm : ∀ b ∈ recs, b.length ≤ 1000000 := fun b hb => by rw [hrecs] at hb; have := recsD_small b hb; have := hok.2.1; omega
  have hn34 : n3 ≤ 4096 := by have := recG_len d.secs 0 none 0; have : (recsD d.secs).length = n3 := hn3; unfold recsD at this; rw [List.length_map] at this; have := hok.2.1; omega
  have hopr : (openP d).1.recs = recs := by rw [hop, hrecs]
  have hs3 : SlR (tSl tU8) (fun _ => True) w3 A3 n3 recs := by rw [hrecs]; exact hs3
  have hn3 : recs.length = n3 := hs3.len; clear hop; refine alloc (fun b5 w6 h6 => ?_); have B6 : Blk w6 b5 22 [.slice none 0 0] := h6.blk; have e6 := h6.at_; have B56 := B5.ext h6.ext; refine fldA ?_; refine ld (.slice A3 n3 c3) (B56.cell rfl) ?_; refine fldA ?_; refine ld (.slice A3 n3 c3) (B56.cell rfl) ?_; refine len ?_; refine slcR 0 n3 ((hs3.ext x35).ext h6.ext) hc3 rfl (by show min (n3 : Int) 4096 = (n3 : Int); omega) (by omega) (Nat.le_refl _) rfl (fun A10 hA10 => ?_); have s10 := hA10 _ w5 (hs3.ext x35); rw [List.drop_zero, List.take_of_length_le (by omega), Nat.sub_zero] at s10; clear hA10; refine len ?_; refine loop_rule (fun k : Nat => [(28, iv (k : Int))]) (fun k u => k ≤ n3 ∧ ∃ l, RdS w5 u b5 l ∧ l.length = k ∧ rdL recs = l ++ rdL (recs.drop k)) (fun k _ => n3 - k) 0 ⟨rfl, trivial⟩ ⟨by omega, [], ⟨⟨none, 0, 0, B6, OwnF.nil h6.ext, rfl⟩, by omega⟩, rfl, rfl⟩ rfl ?_; rintro G k u ⟨hk, l, hr, hl, hrd⟩; refine cD (fun hlt => ?_) (fun hge => ?_)
  · obtain ⟨bx, o, csx, b, rfl, hx, hdr, -, hcx, A2, n2, c2', rfl, hs2, hc2'⟩ := (s10.ext (by obtain ⟨⟨_, _, _, _, q, _⟩, _⟩ := hr; exact q.ext)).at_ (k := k) (by omega); refine idx k rfl (by omega) ?_; refine ld (.slice A2 n2 c2') (hcx 0 _ rfl) ?_; refine call_of (c_lLoad1 hr (by omega) hs2 hc2' (by have := hsm b (List.mem_of_getElem? hx); omega)) ?_; rintro _ u1 (⟨hno, rfl, x1, hr1⟩ | ⟨q, hq, rfl, hr1⟩)
    · have hll : rdL (openP d).1.recs = l := by rw [hopr, hrd, hdr, rdL_none hno, List.append_nil]
      have hr := hr1
      have hln : l.length ≤ 4096 := by omega
      clear hr1 hs2 hcx hdr x1; obtain ⟨⟨A6, m6, d6, B6', own6, hm6⟩, -⟩ := hr; have x5u := own6.ext; have s5u := x5u.size; have ha6 : SlR tPost (fun b => w5.heap.size ≤ b ∧ b < u1.heap.size) u1 A6 m6 l := (own_posts (D := fun b => w5.heap.size ≤ b) own6 (by omega) fun _ h => h).more (by decide) fun b hb h => ⟨h, hb⟩; have R6 := R5.ext x5u; refine ld (.slice A6 m6 d6) (B6'.cell rfl) ?_; refine call_of c_gvalid ?_; rintro _ w9 ⟨bb, rfl, x79, Bb, hbb⟩; have s79 := x79.size; have lbb := Bb.lt; refine range (gf := 96) (lb := #[ptr bb]) rfl (fun fn tmps w10 Rl hRR hF' hwf x10 z10 hD10 hl10 => ?_); show CallZ _ _ #[.func (.yield (w9.heap.size + 1)) #[] #[], ptr bb] w10 _; have x710 := x79.trans x10; have x010 : Ext w w10 := (x05.trans x5u).trans x710; have s10 := x710.size; have s010 := x010.size; have R10 := R6.ext x710; have hs10 : SlR tPost (fun b => b ≠ b2 ∧ b ≠ w9.heap.size + 1) w10 A6 m6 l := (ha6.ext x710).more (by decide) fun b _ h => ⟨by omega, by omega⟩; refine (c_gvalid1Y (D := fun b => b ≠ b2 ∧ b ≠ w9.heap.size + 1) (fun i y o => LoopAt y (w9.heap.size + 1) Rl ∧ ∃ A' m' d', Blk y b2 24 [.slice A' m' d'] ∧ OwnF w y A' m' d' 26 6 ((l.take i).flatMap Post.c) ∧ ∀ q, A' = some (ad q 0) → o = some q ∧ w10.heap.size + 2 ≤ q) hs10 (Bb.ext x10) (fun b hb => ⟨by omega, by omega⟩) (by omega) ?_ ?_ ⟨hl10, none, 0, 0, R10, OwnF.nil x010, fun q h => by cases h⟩).mono ?_
      · rintro o i y y' ⟨j1, A', m', d', j2, j3, j4⟩ hsz ky; exact ⟨j1.kept ky ⟨by omega, by omega⟩, A', m', d', j2.kept ky ⟨by omega, by omega⟩, j3.thenK ky (fun q hq => ⟨by have := (j4 q hq).2; omega, by have := (j4 q hq).2; omega⟩) (j3.ext.then ky fun b hb _ => ⟨by omega, by omega⟩), j4⟩
      · rintro i y p g' o hp hok ⟨ly, A', m', d', R0, own0, hA'⟩ ky Mg hg' hsz ho; have hi : i < l.length := (List.getElem?_eq_some_iff.1 hp).1
        have htk : l.take (i + 1) = l.take i ++ [p] := by rw [List.take_add_one, hp]; rfl
        have hm' : m' = i := by have := own0.own.len; rw [posts_len, List.length_take] at this; have : min i l.length * 6 = m' * 6 := this; omega
        subst hRR; refine yield_rule (args := [.agg p.c.toArray, .map (some g')]) ly rfl rfl hF' hwf ?_; refine alloc (fun b9 u1 q1 => ?_); refine stA (vs := p.c) q1.blk rfl (Nat.le_of_ble_eq_true rfl) (by simp [Value.oneCell']) (fun u2 B9 k2 zs => ?_); have e9 := q1.at_; have B9 : Blk u2 b9 26 p.c := B9
        have xy2 : Ext y u2 := q1.ext.then k2 fun b hb _ e => by omega
        have sy2 := xy2.size; have l9 := B9.lt; refine mid' (ly.kept xy2 trivial) (fun u3 k3 zk3 l3 => ?_); have R3 := (R0.ext xy2).kept k3 (by omega); have B93 := B9.kept k3 (show b9 ≠ w9.heap.size + 1 by omega); have own3 := (own0.then xy2).thenK k3 (fun q hq => by have := (hA' q hq).2; omega) ((own0.ext.trans xy2).then k3 fun b hb _ => by omega); refine fldA ?_; refine ld (.slice A' m' d') (R3.cell rfl) ?_; refine ldA p.c (.blk B93) rfl ?_; refine lit [.agg p.c.toArray] (fun q u4 hq => ?_); have eq4 := hq.at_; refine appF (own3.then hq.ext) (srcP6 hq.blk) (by omega) (fun A5 d5 u5 own5 k5 hA5 => ?_); have s34 := hq.ext.size; have R5' := (R3.ext hq.ext).kept k5 (own_tyL (own3.then hq.ext) (R3.ext hq.ext) (by decide)); have s45 := k5.size
        have hlp : A' ≠ some (ad (w9.heap.size + 1) 0) := fun e => by have := (hA' _ e).2; omega
        have l5 := (l3.kept hq.ext trivial).kept k5 hlp
        have hA5' : ∀ j, A5 = some (ad j 0) → (o = some j ∨ y.heap.size ≤ j) ∧ w10.heap.size + 2 ≤ j := fun j hj => by
          rcases hA5 with r | r | r
          · have := hA' j (by rw [← r]; exact hj); exact ⟨.inl this.1, this.2⟩
          · rw [r] at hj; cases hj
          · rw [r] at hj; injection hj with hj; injection hj with hj; exact ⟨.inr (by omega), by omega⟩
        refine fldA ?_; refine st R5' (Nat.le_of_ble_eq_true rfl) rfl (fun u6 R6' k6 _ => ?_); have R6' : Blk u6 b2 24 [.slice A5 (m' + 1) d5] := R6'; have l6 := l5.kept k6 (by omega); have own6' := own5.thenK k6 (fun j hj => by have := (hA5' j hj).2; omega) (own5.ext.then k6 fun j hj _ => by omega); refine roundN' _ l6 (fun u7 k7 l7 => ?_); have own7 := own6'.thenK k7 (fun j hj => by have := (hA5' j hj).2; omega) (own6'.ext.then k7 fun j hj _ => by omega); refine ⟨rfl, A5.map (·.block), ⟨l7, A5, m' + 1, d5, R6'.kept k7 (by omega), ?_, fun j hj => ⟨by rw [hj]; rfl, (hA5' j hj).2⟩⟩, fun j hj => ?_, ?_⟩
        · rw [htk, List.flatMap_append]; exact own7
        · rcases own7.form with ⟨e, -⟩ | ⟨j', e, -, hlt, -⟩
          · rw [e] at hj; cases hj
          · rw [e] at hj; injection hj with hj; have hj : j' = j := hj; subst hj; rcases (hA5' j' e).1 with h | h
            · exact .inl h
            · exact .inr ⟨h, hlt⟩
        · have a1 : Kept (fun b => (b ≠ b2 ∧ b ≠ w9.heap.size + 1) ∧ o ≠ some b) y u3 := (Ext.any xy2).trans (k3.weak fun j _ h => h.1.2); have a2 : Kept (fun b => (b ≠ b2 ∧ b ≠ w9.heap.size + 1) ∧ o ≠ some b) u3 u5 := (Ext.any hq.ext).trans (k5.weak fun j _ h e => h.2 (hA' j e).1); have a3 : Kept (fun b => (b ≠ b2 ∧ b ≠ w9.heap.size + 1) ∧ o ≠ some b) u5 u7 := (k6.weak fun j _ h => h.1.1).trans (k7.weak fun j _ h => h.1.2); exact a1.trans (a2.trans a3)
      · rintro _ y ⟨⟨o, ⟨ly, A', m', d', Ry, own, hA'⟩, ho⟩, ky⟩; subst hRR; refine range_end _ ly (by simp) (fun y1 k1 => ?_); have hb2 := own_tyL own Ry (by decide); have own1 := own.thenK k1 (fun q hq => by have := (hA' q hq).2; omega) (own.ext.then k1 fun j hj _ => by omega); have Ry1 := Ry.kept k1 (by omega); have hmk1 : y1.heap[w9.heap.size]? = some (.deferred (some [])) := (k1.blk _ (by have := ky.size; omega) (by omega)).trans ((ky.blk _ (by omega) ⟨by omega, by omega⟩).trans hD10); refine ldA [.slice A' m' d'] (.blk Ry1) rfl ?_; refine stA (vs := [.slice A' m' d']) Ry1 rfl (Nat.le_of_ble_eq_true rfl) (by simp [Value.oneCell']) (fun y2 Ry2 k2 _ => ?_); have Ry2 : Blk y2 b2 24 [.slice A' m' d'] := Ry2; have s1' := k1.size; have hmk2 : y2.heap[w9.heap.size]? = some (.deferred (some [])) := (k2.blk _ (by have := ky.size; omega) (by omega)).trans hmk1; refine retM hmk2 ?_; have k3 := Kept.putObj y2 w9.heap.size (.deferred none); refine resL _ (holds_agg (.blk (Ry2.kept k3 (by omega))) rfl) ?_; have own3 := (own1.thenK k2 (fun q hq e => hb2 (by rw [hq, e])) (own1.ext.then k2 fun j hj _ => by omega)).thenK k3 (fun q hq => by have := (hA' q hq).2; omega) ((own1.ext.then k2 fun j hj _ => by omega).then k3 fun j hj _ => by omega)
        have hres : loadP d = (l.take (vN l), 0) := by unfold loadP; rw [if_neg (fun q => q he), hll]
        have hm' : m' ≤ 4096 := by have := own.own.len; rw [posts_len, List.length_take] at this; have : min (vN l) l.length * 6 = m' * 6 := this; omega
        exact ⟨own3.ext, A', m', d', by rw [hres]; rfl, by rw [hres]; exact own_posts own3 (by omega) fun b hb => hb, own3.le⟩
    · refine arI (n := (k : Int) + 1) (by omega) ?_; exact next (k + 1) ⟨by rw [Int.natCast_add]; rfl, trivial⟩ ⟨by omega, l ++ [q], hr1, by simp [hl], by rw [hrd, hdr, rdL_some hq, List.append_assoc]; rfl⟩ (by omega)
  · have hll : rdL (openP d).1.recs = l := by rw [hopr, hrd, drop_end (by omega)]; simp [rdL]
    have hln : l.length ≤ 4096 := by omega
    obtain ⟨⟨A6, m6, d6, B6', own6, hm6⟩, -⟩ := hr; have x5u := own6.ext; have s5u := x5u.size; have ha6 : SlR tPost (fun b => w5.heap.size ≤ b ∧ b < u.heap.size) u A6 m6 l := (own_posts (D := fun b => w5.heap.size ≤ b) own6 (by omega) fun _ h => h).more (by decide) fun b hb h => ⟨h, hb⟩; have R6 := R5.ext x5u; refine ld (.slice A6 m6 d6) (B6'.cell rfl) ?_; refine call_of c_gvalid ?_; rintro _ w9 ⟨bb, rfl, x79, Bb, hbb⟩; have s79 := x79.size; have lbb := Bb.lt; refine range (gf := 96) (lb := #[ptr bb]) rfl (fun fn tmps w10 Rl hRR hF' hwf x10 z10 hD10 hl10 => ?_); show CallZ _ _ #[.func (.yield (w9.heap.size + 1)) #[] #[], ptr bb] w10 _; have x710 := x79.trans x10; have x010 : Ext w w10 := (x05.trans x5u).trans x710; have s10 := x710.size; have s010 := x010.size; have R10 := R6.ext x710; have hs10 : SlR tPost (fun b => b ≠ b2 ∧ b ≠ w9.heap.size + 1) w10 A6 m6 l := (ha6.ext x710).more (by decide) fun b _ h => ⟨by omega, by omega⟩; refine (c_gvalid1Y (D := fun b => b ≠ b2 ∧ b ≠ w9.heap.size + 1) (fun i y o => LoopAt y (w9.heap.size + 1) Rl ∧ ∃ A' m' d', Blk y b2 24 [.slice A' m' d'] ∧ OwnF w y A' m' d' 26 6 ((l.take i).flatMap Post.c) ∧ ∀ q, A' = some (ad q 0) → o = some q ∧ w10.heap.size + 2 ≤ q) hs10 (Bb.ext x10) (fun b hb => ⟨by omega, by omega⟩) (by omega) ?_ ?_ ⟨hl10, none, 0, 0, R10, OwnF.nil x010, fun q h => by cases h⟩).mono ?_
    · rintro o i y y' ⟨j1, A', m', d', j2, j3, j4⟩ hsz ky; exact ⟨j1.kept ky ⟨by omega, by omega⟩, A', m', d', j2.kept ky ⟨by omega, by omega⟩, j3.thenK ky (fun q hq => ⟨by have := (j4 q hq).2; omega, by have := (j4 q hq).2; omega⟩) (j3.ext.then ky fun b hb _ => ⟨by omega, by omega⟩), j4⟩
    · rintro i y p g' o hp hok ⟨ly, A', m', d', R0, own0, hA'⟩ ky Mg hg' hsz ho; have hi : i < l.length := (List.getElem?_eq_some_iff.1 hp).1
      have htk : l.take (i + 1) = l.take i ++ [p] := by rw [List.take_add_one, hp]; rfl
      have hm' : m' = i := by have := own0.own.len; rw [posts_len, List.length_take] at this; have : min i l.length * 6 = m' * 6 := this; omega
      subst hRR; refine yield_rule (args := [.agg p.c.toArray, .map (some g')]) ly rfl rfl hF' hwf ?_; refine alloc (fun b9 u1 q1 => ?_); refine stA (vs := p.c) q1.blk rfl (Nat.le_of_ble_eq_true rfl) (by simp [Value.oneCell']) (fun u2 B9 k2 zs => ?_); have e9 := q1.at_; have B9 : Blk u2 b9 26 p.c := B9
      have xy2 : Ext y u2 := q1.ext.then k2 fun b hb _ e => by omega
      have sy2 := xy2.size; have l9 := B9.lt; refine mid' (ly.kept xy2 trivial) (fun u3 k3 zk3 l3 => ?_); have R3 := (R0.ext xy2).kept k3 (by omega); have B93 := B9.kept k3 (show b9 ≠ w9.heap.size + 1 by omega); have own3 := (own0.then xy2).thenK k3 (fun q hq => by have := (hA' q hq).2; omega) ((own0.ext.trans xy2).then k3 fun b hb _ => by omega); refine fldA ?_; refine ld (.slice A' m' d') (R3.cell rfl) ?_; refine ldA p.c (.blk B93) rfl ?_; refine lit [.agg p.c.toArray] (fun q u4 hq => ?_); have eq4 := hq.at_; refine appF (own3.then hq.ext) (srcP6 hq.blk) (by omega) (fun A5 d5 u5 own5 k5 hA5 => ?_); have s34 := hq.ext.size; have R5' := (R3.ext hq.ext).kept k5 (own_tyL (own3.then hq.ext) (R3.ext hq.ext) (by decide)); have s45 := k5.size
      have hlp : A' ≠ some (ad (w9.heap.size + 1) 0) := fun e => by have := (hA' _ e).2; omega
      have l5 := (l3.kept hq.ext trivial).kept k5 hlp
      have hA5' : ∀ j, A5 = some (ad j 0) → (o = some j ∨ y.heap.size ≤ j) ∧ w10.heap.size + 2 ≤ j := fun j hj => by
        rcases hA5 with r | r | r
        · have := hA' j (by rw [← r]; exact hj); exact ⟨.inl this.1, this.2⟩
        · rw [r] at hj; cases hj
        · rw [r] at hj; injection hj with hj; injection hj with hj; exact ⟨.inr (by omega), by omega⟩
      refine fldA ?_; refine st R5' (Nat.le_of_ble_eq_true rfl) rfl (fun u6 R6' k6 _ => ?_); have R6' : Blk u6 b2 24 [.slice A5 (m' + 1) d5] := R6'; have l6 := l5.kept k6 (by omega); have own6' := own5.thenK k6 (fun j hj => by have := (hA5' j hj).2; omega) (own5.ext.then k6 fun j hj _ => by omega); refine roundN' _ l6 (fun u7 k7 l7 => ?_); have own7 := own6'.thenK k7 (fun j hj => by have := (hA5' j hj).2; omega) (own6'.ext.then k7 fun j hj _ => by omega); refine ⟨rfl, A5.map (·.block), ⟨l7, A5, m' + 1, d5, R6'.kept k7 (by omega), ?_, fun j hj => ⟨by rw [hj]; rfl, (hA5' j hj).2⟩⟩, fun j hj => ?_, ?_⟩
      · rw [htk, List.flatMap_append]; exact own7
      · rcases own7.form with ⟨e, -⟩ | ⟨j', e, -, hlt, -⟩
        · rw [e] at hj; cases hj
        · rw [e] at hj; injection hj with hj; have hj : j' = j := hj; subst hj; rcases (hA5' j' e).1 with h | h
          · exact .inl h
          · exact .inr ⟨h, hlt⟩
      · have a1 : Kept (fun b => (b ≠ b2 ∧ b ≠ w9.heap.size + 1) ∧ o ≠ some b) y u3 := (Ext.any xy2).trans (k3.weak fun j _ h => h.1.2); have a2 : Kept (fun b => (b ≠ b2 ∧ b ≠ w9.heap.size + 1) ∧ o ≠ some b) u3 u5 := (Ext.any hq.ext).trans (k5.weak fun j _ h e => h.2 (hA' j e).1); have a3 : Kept (fun b => (b ≠ b2 ∧ b ≠ w9.heap.size + 1) ∧ o ≠ some b) u5 u7 := (k6.weak fun j _ h => h.1.1).trans (k7.weak fun j _ h => h.1.2); exact a1.trans (a2.trans a3)
    · rintro _ y ⟨⟨o, ⟨ly, A', m', d', Ry, own, hA'⟩, ho⟩, ky⟩; subst hRR; refine range_end _ ly (by simp) (fun y1 k1 => ?_); have hb2 := own_tyL own Ry (by decide); have own1 := own.thenK k1 (fun q hq => by have := (hA' q hq).2; omega) (own.ext.then k1 fun j hj _ => by omega); have Ry1 := Ry.kept k1 (by omega); have hmk1 : y1.heap[w9.heap.size]? = some (.deferred (some [])) := (k1.blk _ (by have := ky.size; omega) (by omega)).trans ((ky.blk _ (by omega) ⟨by omega, by omega⟩).trans hD10); refine ldA [.slice A' m' d'] (.blk Ry1) rfl ?_; refine stA (vs := [.slice A' m' d']) Ry1 rfl (Nat.le_of_ble_eq_true rfl) (by simp [Value.oneCell']) (fun y2 Ry2 k2 _ => ?_); have Ry2 : Blk y2 b2 24 [.slice A' m' d'] := Ry2; have s1' := k1.size; have hmk2 : y2.heap[w9.heap.size]? = some (.deferred (some [])) := (k2.blk _ (by have := ky.size; omega) (by omega)).trans hmk1; refine retM hmk2 ?_; have k3 := Kept.putObj y2 w9.heap.size (.deferred none); refine resL _ (holds_agg (.blk (Ry2.kept k3 (by omega))) rfl) ?_; have own3 := (own1.thenK k2 (fun q hq e => hb2 (by rw [hq, e])) (own1.ext.then k2 fun j hj _ => by omega)).thenK k3 (fun q hq => by have := (hA' q hq).2; omega) ((own1.ext.then k2 fun j hj _ => by omega).then k3 fun j hj _ => by omega)
      have hres : loadP d = (l.take (vN l), 0) := by unfold loadP; rw [if_neg (fun q => q he), hll]
      have hm' : m' ≤ 4096 := by have := own.own.len; rw [posts_len, List.length_take] at this; have : min (vN l) l.length * 6 = m' * 6 := this; omega
      exact ⟨own3.ext, A', m', d', by rw [hres]; rfl, by rw [hres]; exact own_posts own3 (by omega) fun b hb => hb, own3.le⟩
end
noncomputable def storeP (d : Dsk) (l : List Post) : Dsk × Int :=
  if ldgErr l ≠ 0 then (zeroD, ldgErr l) else if (openP d).2 ≠ 0 then (zeroD, (openP d).2)
  else if ¬ recsD d.secs = (l.map txt).take (recsD d.secs).length then (zeroD, 560)
  else if d.secs.length < l.length then (zeroD, 2) else syncJ d (recsD d.secs) ((l.map txt).drop (recsD d.secs).length)
structure Hol (d : Dsk) (ts : List (List Nat)) (m : Nat) : Prop where
  ok : okD d
  run : d.stop = false
  pend : d.pend = []
  hd : Hd d.secs 0 0 ts
  by_ : ∀ s ∈ d.secs, ∀ x ∈ s, x < 256
  tx : TxOk ts
  gen : genP d.secs ≤ m
theorem getB_rep : ∀ n, getB (List.replicate n 0) = 0 := by
  intro n; unfold getB
  induction n with
  | zero => rfl
  | succ n ih => rw [List.replicate_succ, List.foldl_cons]; exact ih
theorem Hol.new {n : Int} (h : 1 ≤ n ∧ n ≤ 4096) : (newP n).2 = 0 ∧ Hol (newP n).1 [] 1 ∧ (newP n).1.left = -1 ∧ (newP n).1.secs.length = n.toNat := by
  have e : newP n = (⟨List.replicate n.toNat (List.replicate 128 0), [], -1, false⟩, 0) := by unfold newP; rw [if_neg (by omega)]
  rw [e]; have hs : ∀ s ∈ List.replicate n.toNat (List.replicate 128 0), s = List.replicate 128 0 := fun s hs => (List.mem_replicate.1 hs).2; refine ⟨rfl, ⟨⟨?_, ?_, Nat.zero_le _, by show (-1 : Int) ≤ -1; omega, by show (-1 : Int) ≤ 65536; omega, (fun x hx => by cases hx), fun s h => by rw [hs s h, List.length_replicate]⟩, rfl, rfl, ?_, fun s h x hx => ?_, (fun t ht => by cases ht), genP_le2 (Nat.le_refl _) fun s h => ?_⟩, rfl, by simp⟩
  · show 1 ≤ (List.replicate _ _).length; rw [List.length_replicate]; omega
  · show (List.replicate _ _).length ≤ 4096; rw [List.length_replicate]; omega
  · show recG (List.replicate n.toNat (List.replicate 128 0)) 0 none 0 = []; obtain ⟨k, hk⟩ : ∃ k, n.toNat = k + 1 := ⟨n.toNat - 1, by omega⟩; rw [hk, List.replicate_succ]; refine recG_bad fun hg => ?_; have := hg.2.2.2.2.1; rw [List.take_replicate, getB_rep] at this; omega
  · rw [hs s h] at hx; rw [(List.mem_replicate.1 hx).2]; omega
  · rw [hs s h]; unfold genS; rw [List.take_replicate, List.drop_replicate, getB_rep, getB_rep]; omega
theorem Hol.recs {d : Dsk} {ts : List (List Nat)} {m : Nat} (h : Hol d ts m) : recsD d.secs = ts := h.hd.recs h.tx
theorem Hol.open_ {d : Dsk} {ts : List (List Nat)} {m : Nat} (h : Hol d ts m) : openP d = (⟨ts, d.secs.length, ts.length⟩, 0) := by
  unfold openP; rw [if_neg (fun q => q h.ok), if_neg (by rw [h.run]; decide), if_neg (by rw [h.pend]; simp), h.recs]
theorem used_1 : ∀ {ts : List (List Nat)}, TxOk ts → usedN ts = ts.length
  | [], _ => rfl
  | t :: ts, h => by
    have h1 := (h t List.mem_cons_self).1
    have ih := used_1 fun x hx => h x (List.mem_cons_of_mem _ hx)
    have e : secN t = 1 := by unfold secN; omega
    unfold usedN at *
    rw [List.map_cons, List.sum_cons, ih, e, List.length_cons]; omega
theorem wrL_take (g : Nat) : ∀ (i : Nat) (t : List (List Nat)) (k : Nat), (wrL g i t).take k = wrL g i (t.take k)
  | i, [], k => by simp [wrL]
  | i, b :: t, 0 => by simp [wrL]
  | i, b :: t, k + 1 => by rw [wrL, List.take_succ_cons, List.take_succ_cons, wrL, wrL_take g (i + 1) t k]
theorem wrL_at (g : Nat) : ∀ (i : Nat) (t : List (List Nat)) (k : Nat) {b : List Nat}, t[k]? = some b → (wrL g i t)[k]? = some ⟨((i + k : Nat) : Int), encB g (i + k) 3 b⟩
  | i, [], k, b, h => by simp at h
  | i, x :: t, 0, b, h => by simp at h; subst h; rfl
  | i, x :: t, k + 1, b, h => by
    rw [List.getElem?_cons_succ] at h
    rw [wrL, List.getElem?_cons_succ, wrL_at g (i + 1) t k h, show i + 1 + k = i + (k + 1) by omega]
theorem encsL_mem {g : Nat} : ∀ {i : Nat} {t : List (List Nat)} {s : List Nat}, s ∈ encsL g i t → ∃ j b, b ∈ t ∧ s = encB g j 3 b
  | i, [], s, h => by cases h
  | i, x :: t, s, h => by
    rcases List.mem_cons.1 h with rfl | h
    · exact ⟨i, x, List.mem_cons_self, rfl⟩
    · obtain ⟨j, b, h1, h2⟩ := encsL_mem h
      exact ⟨j, b, List.mem_cons_of_mem _ h1, h2⟩
theorem perf_mem {g : Nat} {ts : List (List Nat)} {i : Nat} {secs : List (List Nat)} {s : List Nat} (h : i + ts.length ≤ secs.length) (hs : s ∈ perfP secs (wrL g i ts)) : s ∈ secs ∨ ∃ j b, b ∈ ts ∧ s = encB g j 3 b := by
  rw [perf_wr ts i secs h] at hs; rcases List.mem_append.1 hs with hs | hs
  · exact .inl (List.mem_of_mem_take hs)
  rcases List.mem_append.1 hs with hs | hs
  · exact .inr (encsL_mem hs)
  · exact .inl (List.mem_of_mem_drop hs)
theorem TxOk.app {a b : List (List Nat)} (h : TxOk a) (k : TxOk b) : TxOk (a ++ b) := fun t ht => (List.mem_append.1 ht).elim (h t) (k t)
theorem TxOk.take {a : List (List Nat)} (h : TxOk a) (k : Nat) : TxOk (a.take k) := fun t ht => h t (List.mem_of_mem_take ht)
theorem perf_all {g : Nat} {ts T secs : List (List Nat)} (hg : 0 < g ∧ g < 4294967296) (hT : TxOk T) (hl : ts.length + T.length ≤ secs.length) (h128 : ∀ s ∈ secs, s.length = 128) (hby : ∀ s ∈ secs, ∀ x ∈ s, x < 256) (hG : ∀ s ∈ secs, genS s < g ∧ getB (s.drop 124) < g) :
    ∀ s ∈ perfP secs (wrL g ts.length T), s.length = 128 ∧ (∀ x ∈ s, x < 256) ∧ genS s < g + 1 ∧ getB (s.drop 124) < g + 1 := fun s hs => by
  rcases perf_mem hl hs with h | ⟨j, b, hb, rfl⟩
  · have := hG s h
    exact ⟨h128 s h, hby s h, by omega, by omega⟩
  · obtain ⟨h1, h2⟩ := hT b hb
    refine ⟨encB_len h1, encB_lt h1 (by omega) h2, ?_, ?_⟩
    · rw [genS_enc hg.2]; omega
    · rw [encB_d124 h1, getB_be4 hg.2]; omega
theorem Hol.sync {d : Dsk} {ts T : List (List Nat)} {m : Nat} (h : Hol d ts m) (hm : m < 4294967296) (hT : TxOk T) (hl : ts.length + T.length ≤ d.secs.length) :
    ((syncJ d ts T).2 = 0 ∧ Hol (syncJ d ts T).1 (ts ++ T) (m + 1) ∧ (syncJ d ts T).1.secs.length = d.secs.length ∧ (d.left < 0 → (syncJ d ts T).1.left = d.left)) ∨
    (0 ≤ d.left ∧ (syncJ d ts T).2 = 40 ∧ (syncJ d ts T).1.secs.length = d.secs.length ∧ ∃ k, k < T.length ∧ Hol ⟨(syncJ d ts T).1.secs, [], -1, false⟩ (ts ++ T.take k) (m + 1)) := by
  have hgen := h.gen; obtain ⟨hG, hg0⟩ := genP_lt (l := d.secs)
  have hng : ¬ 4294967296 ≤ genP d.secs := by omega
  by_cases hT0 : T = []
  · left
    have e : syncJ d ts T = (d, 0) := by unfold syncJ; rw [if_neg hng, if_pos hT0]
    rw [e, hT0, List.append_nil]; exact ⟨rfl, ⟨h.ok, h.run, h.pend, h.hd, h.by_, h.tx, Nat.le_succ_of_le hgen⟩, rfl, fun _ => rfl⟩
  obtain ⟨g, hge⟩ : ∃ g, g = genP d.secs := ⟨_, rfl⟩
  have hgg : 0 < g ∧ g < 4294967296 := by omega
  rw [← hge] at hG
  have e : syncJ d ts T = syncP ⟨d.secs, wrL g ts.length T, d.left, d.stop⟩ := by unfold syncJ; rw [if_neg hng, if_neg hT0, used_1 h.tx, hge]
  have k1 := h.ok; have k7 := k1.2.2.2.2.2.2; have hall : ∀ k : Nat, ∀ s ∈ perfP d.secs (wrL g ts.length (T.take k)), s.length = 128 ∧ (∀ x ∈ s, x < 256) ∧ genS s < g + 1 ∧ getB (s.drop 124) < g + 1 := fun k => perf_all hgg (hT.take k) (by rw [List.length_take]; omega) k7 h.by_ hG
  have hokd : okD ⟨d.secs, wrL g ts.length T, d.left, d.stop⟩ := by
    refine ⟨k1.1, k1.2.1, by show (wrL _ _ _).length ≤ 4096; rw [wrL_len]; have := k1.2.1; omega, k1.2.2.2.1, k1.2.2.2.2.1, fun x hx => ?_, k7⟩; obtain ⟨j, b, h1, h2, rfl⟩ := wrL_mem hx; exact ⟨by show (0 : Int) ≤ ((j : Nat) : Int); omega, by show ((j : Nat) : Int) < (d.secs.length : Int); omega, encB_len (hT b h1).1⟩
  have hrun : ¬ runsB ⟨d.secs, wrL g ts.length T, d.left, d.stop⟩ = false := by unfold runsB; rw [decide_eq_true ⟨hokd, h.run⟩]; decide
  have hwl := wrL_len g ts.length T; have hpl : ∀ l, (perfP d.secs l).length = d.secs.length := fun l => perfP_len _ _; have k4 := k1.2.2.2.1; have k5 := k1.2.2.2.2.1
  by_cases hleft : 0 ≤ d.left ∧ d.left < T.length
  · right; obtain ⟨k, hk⟩ : ∃ k, k = d.left.toNat := ⟨_, rfl⟩
    have hkT : k < T.length := by omega
    have hx : T[k]? = some T[k] := List.getElem?_eq_getElem hkT; have hw := wrL_at g ts.length T k hx
    have e2 : syncP ⟨d.secs, wrL g ts.length T, d.left, d.stop⟩ = (tornP ⟨d.secs, wrL g ts.length T, d.left, d.stop⟩, 40) := by unfold syncP; rw [if_neg hrun, if_pos ⟨hleft.1, by show d.left < ((wrL g ts.length T).length : Int); rw [hwl]; exact hleft.2⟩]
    obtain ⟨S, hS⟩ : ∃ S, S = perfP d.secs (wrL g ts.length (T.take k)) := ⟨_, rfl⟩
    have hSl : S.length = d.secs.length := by rw [hS]; exact hpl _
    have hSx : S[ts.length + k]? = d.secs[ts.length + k]? := by
      rw [hS, perf_wr _ _ _ (by rw [List.length_take]; omega), List.length_take, show min k T.length = k by omega]; rw [List.getElem?_append_right (by rw [List.length_take]; omega), List.length_take, show min ts.length d.secs.length = ts.length by omega, List.getElem?_append_right (by rw [encsL_len, List.length_take]; omega), encsL_len, List.length_take, List.getElem?_drop]
      congr 1
      omega
    have hold : d.secs[ts.length + k]? = some d.secs[ts.length + k] := List.getElem?_eq_getElem (by omega); obtain ⟨old, hol⟩ : ∃ old, d.secs[ts.length + k]? = some old := ⟨_, hold⟩; have hom := List.mem_of_getElem? hol
    have e3 : tornP ⟨d.secs, wrL g ts.length T, d.left, d.stop⟩ = ⟨S.set (ts.length + k) ((encB g (ts.length + k) 3 T[k]).take 64 ++ old.drop 64), [], 0, true⟩ := by
      unfold tornP; show (match (wrL g ts.length T)[d.left.toNat]? with | some x => _ | none => _) = _; rw [← hk, hw]; show Dsk.mk ((perfP d.secs ((wrL g ts.length T).take k)).set (((ts.length + k : Nat) : Int)).toNat ((encB g (ts.length + k) 3 T[k]).take 64 ++ ((perfP d.secs ((wrL g ts.length T).take k)).getD (((ts.length + k : Nat) : Int)).toNat []).drop 64)) [] 0 true = _; rw [wrL_take, ← hS, Int.toNat_natCast, List.getD_eq_getElem?_getD, hSx, hol]
      rfl
    rw [e, e2, e3]; have ht := hT T[k] (List.getElem_mem hkT); have hbad : ∀ n, ¬ goodP ((encB g (ts.length + k) 3 T[k]).take 64 ++ old.drop 64) n := fun n => torn_bad hgg.2 ht ⟨k7 old hom, h.by_ old hom⟩ (by omega) (hG old hom).2; have hel := encB_len (g := g) (num := ts.length + k) (kind := 3) ht.1
    have htl : (T.take k).length = k := by rw [List.length_take]; omega
    have hmem : ∀ s ∈ S.set (ts.length + k) ((encB g (ts.length + k) 3 T[k]).take 64 ++ old.drop 64), s.length = 128 ∧ (∀ x ∈ s, x < 256) ∧ genS s < g + 1 ∧ getB (s.drop 124) < g + 1 := fun s hs => by
      rcases List.mem_or_eq_of_mem_set hs with hs | rfl
      · rw [hS] at hs; exact hall k s hs
      · refine ⟨by rw [List.length_append, List.length_take, List.length_drop, hel, k7 old hom]; omega, fun x hx => ?_, ?_, ?_⟩
        · rcases List.mem_append.1 hx with hx | hx
          · exact encB_lt ht.1 (by omega) ht.2 x (List.mem_of_mem_take hx)
          · exact h.by_ old hom x (List.mem_of_mem_drop hx)
        · unfold genS; rw [List.take_append_of_le_length (by rw [List.length_take, hel]; omega), List.take_take, show min 4 64 = 4 from rfl, encB_t4, getB_be4 hgg.2]; omega
        · rw [List.drop_append, List.drop_of_length_le (by rw [List.length_take]; omega), List.length_take, hel, List.nil_append, List.drop_drop]; have := (hG old hom).2; show getB (old.drop 124) < g + 1; omega
    have hsl : (S.set (ts.length + k) ((encB g (ts.length + k) 3 T[k]).take 64 ++ old.drop 64)).length = d.secs.length := by rw [List.length_set, hSl]
    refine ⟨hleft.1, rfl, hsl, k, hkT, ⟨⟨by show 1 ≤ (S.set _ _).length; rw [hsl]; exact k1.1, by show (S.set _ _).length ≤ 4096; rw [hsl]; exact k1.2.1, Nat.zero_le _, by show (-1 : Int) ≤ -1; omega, by show (-1 : Int) ≤ 65536; omega, (fun x hx => by cases hx), fun s hs => (hmem s hs).1⟩, rfl, rfl, ?_, fun s hs => (hmem s hs).2.1, h.tx.app (hT.take k), ?_⟩⟩
    · have := Hd.torn (gen := g) (ts' := T.take k) h.hd hgg (fun s hs => (hG s hs).1) (by rw [htl]; omega) hbad; rw [htl, ← hS] at this; exact this
    · exact Nat.le_trans (genP_le2 (m := g + 1) (by omega) fun s hs => (hmem s hs).2.2) (by omega)
  · left
    have e2 : syncP ⟨d.secs, wrL g ts.length T, d.left, d.stop⟩ = (⟨perfP d.secs (wrL g ts.length T), [], if 0 ≤ d.left then d.left - T.length else d.left, false⟩, 0) := by
      unfold syncP; rw [if_neg hrun, if_neg (by rintro ⟨a, b⟩; exact hleft ⟨a, by have b : d.left < ((wrL g ts.length T).length : Int) := b; rw [hwl] at b; exact b⟩), hwl]
    have hmem := hall T.length; rw [List.take_length] at hmem; rw [e, e2]; refine ⟨rfl, ⟨⟨by show 1 ≤ (perfP _ _).length; rw [hpl]; exact k1.1, by show (perfP _ _).length ≤ 4096; rw [hpl]; exact k1.2.1, Nat.zero_le _, ?_, ?_, (fun x hx => by cases hx), fun s hs => (hmem s hs).1⟩, rfl, rfl, ?_, fun s hs => (hmem s hs).2.1, h.tx.app hT, ?_⟩, hpl _, fun hn => ?_⟩
    · show (-1 : Int) ≤ if 0 ≤ d.left then d.left - T.length else d.left
      split <;> omega
    · show (if 0 ≤ d.left then d.left - T.length else d.left) ≤ (65536 : Int)
      split <;> omega
    · exact h.hd.all hgg (fun s hs => (hG s hs).1) hl
    · exact Nat.le_trans (genP_le2 (m := g + 1) (by omega) fun s hs => (hmem s hs).2.2) (by omega)
    · show (if 0 ≤ d.left then d.left - T.length else d.left) = d.left; rw [if_neg (by omega)]
theorem P1.pos {p : Post} (h : P1 p) : PosI p := fun x hx => by
  have := h.no
  have := h.hour
  have := h.sort
  have := h.n
  have := h.frm
  have := h.to
  simp only [Post.ns, List.mem_cons, List.not_mem_nil, or_false] at hx
  rcases hx with rfl | rfl | rfl | rfl | rfl | rfl <;> omega
theorem PosI.i64 {p : Post} (h : PosI p) : ∀ n ∈ p.ns, I64 n := fun n hn => by have := h n hn; unfold I64; omega
theorem txts_ok {l : List Post} (h : ∀ p ∈ l, PosI p) : TxOk (l.map txt) := fun t ht => by
  obtain ⟨p, hp, rfl⟩ := List.mem_map.1 ht
  exact ⟨by have := (txt_len p).2; omega, txt_byte (h p hp).i64⟩
theorem rdL_txt : ∀ {l : List Post}, (∀ p ∈ l, PosI p) → rdL (l.map txt) = l
  | [], _ => rfl
  | p :: l, h => by
    rw [List.map_cons, rdL_some (rdT_some.2 ⟨rfl, (h p List.mem_cons_self).i64⟩), rdL_txt fun q hq => h q (List.mem_cons_of_mem _ hq)]
theorem LOk.pos {l : List Post} (h : LOk l) : ∀ p ∈ l, PosI p := fun _ hp => (h.p1 hp).pos
theorem Hol.load {d : Dsk} {l : List Post} {m : Nat} (h : Hol d (l.map txt) m) (hl : LOk l) : loadP d = (l, 0) := by
  unfold loadP; rw [h.open_, if_neg (fun q => q rfl), rdL_txt hl.pos, vN_all.2 hl, List.take_length]
theorem Hol.store {d : Dsk} {l : List Post} {k m : Nat} (h : Hol d ((l.take k).map txt) m) (hm : m < 4294967296) (hl : LOk l) (hn : l.length ≤ 4096) (hk : k ≤ l.length) :
    (d.secs.length < l.length ∧ storeP d l = (zeroD, 2)) ∨
    ((storeP d l).2 = 0 ∧ Hol (storeP d l).1 (l.map txt) (m + 1) ∧ (storeP d l).1.secs.length = d.secs.length ∧ (d.left < 0 → (storeP d l).1.left = d.left)) ∨
    (0 ≤ d.left ∧ (storeP d l).2 = 40 ∧ (storeP d l).1.secs.length = d.secs.length ∧ ∃ j, k ≤ j ∧ j < l.length ∧ Hol ⟨(storeP d l).1.secs, [], -1, false⟩ ((l.take j).map txt) (m + 1)) := by
  have h0 : ldgErr l = 0 := ldgErr_0.2 ⟨hn, hl⟩
  have hrl : (recsD d.secs).length = k := by rw [h.recs, List.length_map, List.length_take]; omega
  have hR : recsD d.secs = (l.map txt).take k := by rw [h.recs, List.map_take]
  by_cases hlt : d.secs.length < l.length
  · left; refine ⟨hlt, ?_⟩; unfold storeP; rw [if_neg (fun q => q h0), h.open_, if_neg (fun q => q rfl), if_neg (fun q => q (by rw [hrl]; exact hR)), if_pos hlt]
  · right
    have e : storeP d l = syncJ d ((l.take k).map txt) ((l.map txt).drop k) := by
      unfold storeP; rw [if_neg (fun q => q h0), h.open_, if_neg (fun q => q rfl), if_neg (fun q => q (by rw [hrl]; exact hR)), if_neg hlt, hrl, h.recs]
    have hT : TxOk ((l.map txt).drop k) := fun t ht => txts_ok hl.pos t (List.mem_of_mem_drop ht)
    have htl : ((l.map txt).drop k).length = l.length - k := by rw [List.length_drop, List.length_map]
    have hkl : ((l.take k).map txt).length = k := by rw [List.length_map, List.length_take]; omega
    have happ : (l.take k).map txt ++ (l.map txt).drop k = l.map txt := by rw [List.map_take, List.take_append_drop]
    rw [e]; rcases h.sync hm hT (by rw [hkl, htl]; omega) with ⟨a, b, c, f⟩ | ⟨a, b, c, j, hj, f⟩
    · rw [happ] at b; exact .inl ⟨a, b, c, f⟩
    · refine .inr ⟨a, b, c, k + j, by omega, by omega, ?_⟩
      have : (l.take k).map txt ++ ((l.map txt).drop k).take j = (l.take (k + j)).map txt := by
        rw [List.map_take, List.map_take, List.take_add]
      rw [this] at f; exact f
section
variable {D : Nat → Prop} {w : World}
theorem c_textsX {A : Option Addr} {n c : Nat} {l : List Post} (hs : SlR tPost D w A n l) (hp : ∀ p ∈ l, PosI p) (hn : n ≤ 100000) : CallZ Tryz.prog 49 #[.agg #[.slice A n c]] w (fun v w' => ∃ B d, v = .slice B n d ∧ n ≤ d ∧ Ext w w' ∧ SlR (tSl tU8) (fun b => w.heap.size ≤ b) w' B n (l.map txt)) := by
  refine fn_rule (args := [.agg #[.slice A n c]]) Tryz.func49 (by kernel_rfl) ?_; have hlen := hs.len; refine box (fun g w1 h1 => ?_); have x1 := h1.ext; have s01 := x1.size; refine fldA ?_; refine ld (.slice A n c) (h1.blk.cell rfl) ?_; refine len ?_; refine loop4 (fun (k : Nat) (B : Option Addr) (m d : Nat) => [(2, .slice B m d), (8, iv (k : Int))]) (fun k B m d u => k ≤ n ∧ m = k ∧ LBx (fun b => w.heap.size ≤ b) w u B m d ((l.take k).map txt)) (fun k _ _ _ _ => n - k) 0 none 0 0 ⟨rfl, rfl, trivial⟩ ⟨by omega, rfl, LBx.nil x1⟩ rfl ?_; rintro G k B m d u ⟨hk, rfl, own⟩; have xu := own.ex; refine cD (fun hlt => ?_) (fun hge => ?_)
  · obtain ⟨bx, o, cs, p, rfl, hx, -, -, hc, hcs⟩ := (hs.ext xu).at_ (k := m) (by omega); have hcs : cs = p.c := hcs; subst hcs; refine idx m rfl (by omega) ?_; refine ldA p.c hc rfl ?_; refine alloc (fun b6 w6 h6 => ?_); refine stA (vs := p.c) h6.blk rfl (Nat.le_of_ble_eq_true rfl) (by simp [Value.oneCell']) (fun w7 B7 k7 _ => ?_); have e6 := h6.at_
    have x7 : Ext u w7 := h6.ext.then k7 fun b hb _ e => by omega
    refine ldA p.c (.blk B7) rfl ?_; refine call_of (c_text (hp p (List.mem_of_getElem? hx))) ?_; rintro _ w8 ⟨B8, m8, d8, rfl, own8⟩; refine lit [.slice B8 m8 d8] (fun q w9 hq => ?_); have x8 := x7.trans own8.ext; have s7 := x7.size; have su := xu.size; have hne : ∀ b, w7.heap.size ≤ b → B ≠ some (ad b 0) ∧ w.heap.size ≤ b := fun b hb => ⟨fun e => by have := (own.lt e).2; omega, by omega⟩; have ht := txt_len p; have hl8 := own8.own.len; rw [List.length_map] at hl8; refine appX (own.then x8) (own8.u8 (D := fun b => B ≠ some (ad b 0) ∧ w.heap.size ≤ b) (txt_byte fun n hn => by have := hp p (List.mem_of_getElem? hx) n hn; unfold I64; omega) (by omega) hne) own8.le hq (by omega) (fun A' c' w' own' _ _ => ?_); refine arI (n := (m : Int) + 1) (by omega) ?_; refine next4 (m + 1) A' (m + 1) c' ⟨rfl, by rw [Int.natCast_add]; rfl, trivial⟩ ⟨by omega, rfl, ?_⟩ (by omega); rw [List.take_add_one, hx]
    simpa using own'
  · have hm : m = n := by omega
    subst hm; rw [List.take_of_length_le (by omega)] at own; have hl := own.len; obtain ⟨cs, o, f⟩ := own; exact ret1 (.slice B m d) rfl ⟨B, d, rfl, o.le, xu, o.own.rd (a := tSl tU8) (f.more fun _ _ h => h.2) hl (by omega) fun g hg => o.new g hg⟩
set_option maxRecDepth 8000 in
set_option maxHeartbeats 4000000 in
theorem c_lStore {D2 : Nat → Prop} {d : Dsk} {csd : List Value} {A : Option Addr} {n c : Nat} {l : List Post} (hd : DskR D w csd d) (hl : SlR tPost D2 w A n l) :
    CallZ Tryz.prog 27 #[.agg csd.toArray, .agg #[.slice A n c]] w (fun v w' => RetE D w w' v (storeP d l)) := by
  obtain ⟨A1, n1, c1, B1, m1, d1, rfl, hs, hc, hp, hc2, hId⟩ := hd.ex; have hd0 := hd.more (D' := fun b => D b ∧ b < w.heap.size) fun b hb h => ⟨h, hb⟩; have hln := hl.len; refine fn_rule (args := [.agg #[.slice A1 n1 c1, .slice B1 m1 d1, iv d.left, .bool d.stop], .agg #[.slice A n c]]) Tryz.func27 (by kernel_rfl) ?_; refine box (fun b2 w1 h1 => ?_); have G1 : Blk w1 b2 44 [.slice A1 n1 c1, .slice B1 m1 d1, iv d.left, .bool d.stop] := h1.blk; refine box (fun b3 w2 h2 => ?_); have L2 : Blk w2 b3 24 [.slice A n c] := h2.blk; refine alloc (fun b4 w3 h3 => ?_); have R3 : Blk w3 b4 44 zeroDC := h3.blk; have e1 := h1.at_; have e2 := h2.at_; have e3 := h3.at_; have x13 := h2.ext.trans h3.ext; have x03 := h1.ext.trans x13; have s1 := h1.ext.size; have s2 := h2.ext.size; have lR := R3.lt; refine ldA [.slice A n c] (.blk (L2.ext h3.ext)) rfl ?_; refine call_of (c_gCheck (hl.ext x03)) ?_; rintro _ w4 ⟨rfl, x4⟩; have x04 := x03.trans x4; have R4 := R3.ext x4; have G4 := (G1.ext x13).ext x4; have L4 := (L2.ext h3.ext).ext x4; refine cN (fun he => ?_) (fun he => ?_)
  · refine ldA zeroDC (.blk R4) rfl ?_; refine stA (vs := zeroDC) R4 rfl (Nat.le_of_ble_eq_true rfl) (by simp [Value.oneCell']) (fun we Be ke _ => ?_); refine ret ?_; refine resL (.agg (zeroDC).toArray) (holds_agg (.blk Be) rfl) ?_; exact ⟨zeroDC, by unfold storeP; rw [if_pos he]; rfl, by unfold storeP; rw [if_pos he]; exact zeroD_r, x04.then ke fun i hi _ e => by omega⟩
  obtain ⟨h4096, hLok⟩ := ldgErr_0.1 he; refine ldA [.slice A1 n1 c1, .slice B1 m1 d1, iv d.left, .bool d.stop] (.blk G4) rfl ?_; refine call_of (c_jOpen ((hd.ext x04).more fun _ _ _ => trivial)) ?_; rintro _ w5 ⟨csj, rfl, hj, x5⟩; obtain ⟨A3, n3, c3, rfl, hs3, hc3, -, -⟩ := hj.ex; refine alloc (fun b6 w6 h6 => ?_); refine stA (vs := [.slice A3 n3 c3, iv (openP d).1.many, iv (openP d).1.syn]) h6.blk rfl (Nat.le_of_ble_eq_true rfl) (by simp [Value.oneCell']) (fun w7 B7 k7 _ => ?_); have B7 : Blk w7 b6 108 [.slice A3 n3 c3, iv (openP d).1.many, iv (openP d).1.syn] := B7; have e6 := h6.at_
  have x57 : Ext w5 w7 := h6.ext.then k7 fun i hi _ e => by omega
  have x47 := x5.trans x57; have x07 := x04.trans x47; have R7 := R4.ext x47; have G7 := G4.ext x47; have L7 := L4.ext x47; have s04 := x04.size; have s45 := x5.size; have s4 := x4.size; have s57 := x57.size; have lb7 := B7.lt; refine cN (fun ho => ?_) (fun ho => ?_)
  · refine ldA zeroDC (.blk R7) rfl ?_; refine stA (vs := zeroDC) R7 rfl (Nat.le_of_ble_eq_true rfl) (by simp [Value.oneCell']) (fun we Be ke _ => ?_); refine ret ?_; refine resL (.agg (zeroDC).toArray) (holds_agg (.blk Be) rfl) ?_; exact ⟨zeroDC, by unfold storeP; rw [if_neg (fun q => q he), if_pos ho]; rfl, by unfold storeP; rw [if_neg (fun q => q he), if_pos ho]; exact zeroD_r, x07.then ke fun i hi _ e => by omega⟩
  obtain ⟨hok, hst, hpe, hop⟩ := openP_ok ho; have ho : (openP d).2 = 0 := ho; have k1 := hok.1; have k2 := hok.2.1; rw [hop] at hj hs3 B7; have hn3 := hs3.len; have hn3 : (recsD d.secs).length = n3 := hn3
  have hle3 : n3 ≤ d.secs.length := by have := recG_len d.secs 0 none 0; unfold recsD at hn3; rw [List.length_map] at hn3; omega
  have B7 : Blk w7 b6 108 [.slice A3 n3 c3, iv (d.secs.length : Int), iv (n3 : Int)] := by rw [← hn3]; rw [← hn3] at B7; exact B7
  refine ldA [.slice A n c] (.blk L7) rfl ?_; refine call_of (c_textsX (hl.ext x07) hLok.pos (by omega)) ?_; rintro _ w8 ⟨T, cT, rfl, hcT, x8, ht⟩; have B8 := B7.ext x8; have R8 := R7.ext x8; have G8 := G7.ext x8; have x08 := x07.trans x8; have s8 := x8.size; have hs8 : SlR (tSl tU8) (fun _ => True) w8 A3 n3 (recsD d.secs) := (hs3.ext x57).ext x8; have htn : (l.map txt).length = n := ht.len; obtain ⟨t, het⟩ : ∃ t, t = l.map txt := ⟨_, rfl⟩
  have hok68 : TxOk t := by rw [het]; exact txts_ok hLok.pos
  have hstore : storeP d l = if ¬ recsD d.secs = t.take (recsD d.secs).length then (zeroD, 560) else if d.secs.length < l.length then (zeroD, 2) else syncJ d (recsD d.secs) (t.drop (recsD d.secs).length) := by
    unfold storeP; rw [if_neg (fun q => q he), if_neg (fun q => q ho), ← het]
  rw [← het] at ht htn; rw [hn3] at hstore; refine fldA ?_; refine ld (.slice A3 n3 c3) (B8.cell rfl) ?_; refine len ?_; refine drawP (.take 0 (.take 1 (.take 2 (.take 3 (.take 4 (.take 5 (.take 6 (.take 7 (.take 8 (.take 9 (.take 10 (.take 11 (.take 12 .done))))))))))))) [] (fun y => y = w8) mx (by kernel_rfl) rfl ?_; refine len ?_; refine cD (fun hgt => ?_) (fun hgt => ?_)
  · refine ldA zeroDC (.blk R8) rfl ?_; refine stA (vs := zeroDC) R8 rfl (Nat.le_of_ble_eq_true rfl) (by simp [Value.oneCell']) (fun we Be ke _ => ?_); refine ret ?_; refine resL (.agg (zeroDC).toArray) (holds_agg (.blk Be) rfl) ?_
    have hres : storeP d l = (zeroD, 560) := by
      rw [hstore, if_pos]; intro q; have := congrArg List.length q; rw [List.length_take] at this; omega
    exact ⟨zeroDC, by rw [hres]; rfl, by rw [hres]; exact zeroD_r, x08.then ke fun i hi _ e => by omega⟩
  refine fldA ?_; refine ld (.slice A3 n3 c3) (B8.cell rfl) ?_; refine slcR 0 n3 ht hcT rfl rfl (by omega) (by omega) rfl (fun A10 hA10 => ?_); have s10 := hA10 _ w8 ht; rw [List.drop_zero] at s10; refine callQB (b := decide (recsD d.secs = t.take n3)) (fun y hy => by subst hy; exact c_equalFB (f := 61) hs8 s10 (fun h1 h2 => c_equalB h1 h2)) (fun hq => ?_) (fun hq => ?_); rotate_left
  · refine ldA zeroDC (.blk R8) rfl ?_; refine stA (vs := zeroDC) R8 rfl (Nat.le_of_ble_eq_true rfl) (by simp [Value.oneCell']) (fun we Be ke _ => ?_); refine ret ?_; refine resL (.agg (zeroDC).toArray) (holds_agg (.blk Be) rfl) ?_
    have hres : storeP d l = (zeroD, 560) := by rw [hstore, if_pos (of_decide_eq_false hq)]
    exact ⟨zeroDC, by rw [hres]; rfl, by rw [hres]; exact zeroD_r, x08.then ke fun i hi _ e => by omega⟩
  have hR : recsD d.secs = t.take n3 := of_decide_eq_true hq; rw [if_neg (fun q => q hR)] at hstore; refine slcR n3 n ht hcT rfl rfl (by omega) (by omega) rfl (fun A12 hA12 => ?_); have s12 := hA12 _ w8 ht; rw [List.take_of_length_le (by omega)] at s12; refine len ?_
  have hj8 : JrnR (fun i => i ≠ b6) w8 [.slice A3 n3 c3, iv (d.secs.length : Int), iv (n3 : Int)] ⟨t.take (n3 + 0), d.secs.length, n3⟩ := by
    have h := ((hj.more (D' := fun i => i < w5.heap.size) fun b hb _ => hb).ext x57).ext x8; rw [Nat.add_zero, ← hR]; rw [← hn3] at h ⊢
    exact h.more fun b _ hb => by omega
  refine loop_rule (fun k : Nat => [(49, iv (k : Int))]) (fun k u => n3 + k ≤ n ∧ n3 + k ≤ d.secs.length ∧ Kept (fun i => i ≠ b6) w8 u ∧ ∃ csj, Blk u b6 108 csj ∧ JrnR (fun i => i ≠ b6) u csj ⟨t.take (n3 + k), d.secs.length, n3⟩) (fun k _ => n - k) 0 ⟨rfl, trivial⟩ ⟨by omega, by omega, .refl _ _, _, B8, hj8⟩ rfl ?_; rintro G k u ⟨hk, hks, ku, csj, Bu, ju⟩; have su := ku.size
  have x0u : Ext w u := x08.then ku fun i hi _ => by omega
  obtain ⟨A4, n4, c4, rfl, -⟩ := ju.ex; have htk : TxOk (t.take (n3 + k)) := hok68.take _
  have hlk : (t.take (n3 + k)).length = n3 + k := by rw [List.length_take]; omega
  have husk : usedN (t.take (n3 + k)) = n3 + k := by rw [used_1 htk, hlk]
  have hsmk : SmallJ (t.take (n3 + k)) := ⟨by omega, fun b hb => by have := (htk b hb).1; omega⟩; have Ru := R8.kept ku (show b4 ≠ b6 by omega)
  have hjE : jE ⟨t.take (n3 + k), d.secs.length, n3⟩ = 0 := by
    unfold jE; rw [if_neg]; simp only [hlk, husk]; omega
  refine cD (fun hlt => ?_) (fun hge => ?_)
  · obtain ⟨bx, o, csx, x, rfl, hx, -, -, hcx, A2, n2, c2', rfl, hs2, hc2'⟩ := (s12.kept ku fun i _ hi => by omega).at_ (k := k) (by omega); refine idx k rfl (by omega) ?_; refine ld (.slice A2 n2 c2') (hcx 0 _ rfl) ?_
    have hxt : t[n3 + k]? = some x := by rw [List.getElem?_drop] at hx; exact hx
    have hx112 := (hok68 x (List.mem_of_getElem? hxt)).1; have hn2 := hs2.len
    have hsec : secN x = 1 := by unfold secN; omega
    refine ldA [.slice A4 n4 c4, iv (d.secs.length : Int), iv (n3 : Int)] (.blk Bu) rfl ?_; refine call_of (c_jAppendE ju hsmk hs2 (by omega)) ?_; rintro _ u1 ⟨cs1, rfl, j1, xu1⟩; have Bu1 := Bu.ext xu1; have Ru1 := Ru.ext xu1; have lb6 := Bu.lt; obtain ⟨A5, n5, c5, rfl, -⟩ := j1.ex
    by_cases hfull : d.secs.length < n3 + k + 1
    · have hap : appendP ⟨t.take (n3 + k), d.secs.length, n3⟩ x = (zeroJ, 2) := by
        unfold appendP; rw [if_neg (fun q => q hjE), if_pos (by show (secN x : Int) > (d.secs.length : Int) - usedN (t.take (n3 + k)); rw [hsec, husk]; omega)]
      rw [hap]; refine stA (vs := [.slice A5 n5 c5, iv 0, iv 0]) Bu1 rfl (Nat.le_of_ble_eq_true rfl) (by simp [Value.oneCell']) (fun u2 B2 k2 _ => ?_); have Ru2 := Ru1.kept k2 (show b4 ≠ b6 by omega); refine cN (fun _ => ?_) (fun h => absurd h (by decide)); refine ldA zeroDC (.blk Ru2) rfl ?_; refine stA (vs := zeroDC) Ru2 rfl (Nat.le_of_ble_eq_true rfl) (by simp [Value.oneCell']) (fun we Be ke _ => ?_); refine ret ?_; refine resL (.agg (zeroDC).toArray) (holds_agg (.blk Be) rfl) ?_
      have hres : storeP d l = (zeroD, 2) := by rw [hstore, if_pos (by omega)]
      exact ⟨zeroDC, by rw [hres]; rfl, by rw [hres]; exact zeroD_r, ((x0u.trans xu1).then k2 fun i hi _ e => by omega).then ke fun i hi _ e => by omega⟩
    · have hap : appendP ⟨t.take (n3 + k), d.secs.length, n3⟩ x = (⟨t.take (n3 + (k + 1)), d.secs.length, n3⟩, 0) := by
        unfold appendP; rw [if_neg (fun q => q hjE), if_neg (by show ¬ (secN x : Int) > (d.secs.length : Int) - usedN (t.take (n3 + k)); rw [hsec, husk]; omega)]; show (Jrn.mk (t.take (n3 + k) ++ [x]) _ _, (0 : Int)) = _; rw [← Nat.add_assoc, List.take_add_one (i := n3 + k), hxt]
        rfl
      rw [hap] at j1 ⊢; refine stA (vs := [.slice A5 n5 c5, iv (d.secs.length : Int), iv (n3 : Int)]) Bu1 rfl (Nat.le_of_ble_eq_true rfl) (by simp [Value.oneCell']) (fun u2 B2 k2 _ => ?_); have B2 : Blk u2 b6 108 [.slice A5 n5 c5, iv (d.secs.length : Int), iv (n3 : Int)] := B2; refine cN (fun h => absurd rfl h) (fun _ => ?_); refine arI (n := (k : Int) + 1) (by omega) ?_; refine next (k + 1) ⟨by rw [Int.natCast_add]; rfl, trivial⟩ ⟨by omega, by omega, (ku.trans (Ext.any xu1)).trans k2, _, B2, (j1.more fun b _ h => ?_).kept k2 fun b _ h => h⟩ (by omega); rcases h with h | h
      · exact h
      · omega
  · have hkn : n3 + k = n := by omega
    have htt : t.take (n3 + k) = t := List.take_of_length_le (by omega); rw [htt] at ju hsmk husk; have Gu := G8.kept ku (show b2 ≠ b6 by omega); refine ldA [.slice A4 n4 c4, iv (d.secs.length : Int), iv (n3 : Int)] (.blk Bu) rfl ?_; refine ldA [.slice A1 n1 c1, .slice B1 m1 d1, iv d.left, .bool d.stop] (.blk Gu) rfl ?_
    have happ : recsD d.secs ++ t.drop n3 = t := by rw [hR, List.take_append_drop]
    refine call_of (c_jSync (R := recsD d.secs) (T := t.drop n3) (hd0.ext x0u) (csj := [.slice A4 n4 c4, iv (d.secs.length : Int), iv (n3 : Int)]) (by rw [happ, hn3]; exact ju.more fun _ _ _ => trivial) hok hst hpe rfl (by rw [happ]; exact hsmk) (by rw [happ, husk]; exact hks) (fun b hb => (hok68 b (List.mem_of_mem_drop hb)).1)) ?_; rintro _ u1 ⟨cj, cs1, rfl, d1', xu1⟩
    have hres : storeP d l = syncJ d (recsD d.secs) (t.drop n3) := by rw [hstore, if_neg (by omega)]
    rw [← hres] at d1' ⊢; obtain ⟨dr, hdr⟩ : ∃ dr, dr = (storeP d l).1 := ⟨_, rfl⟩; obtain ⟨er, her⟩ : ∃ er, er = (storeP d l).2 := ⟨_, rfl⟩; rw [← hdr] at d1'; rw [← her]; obtain ⟨A7, n7, c7, B7', m7, c8, rfl, -⟩ := d1'.ex; have Ru1 := Ru.ext xu1; have lR4 := Ru.lt; refine stA (vs := [.slice A7 n7 c7, .slice B7' m7 c8, iv dr.left, .bool dr.stop]) Ru1 rfl (Nat.le_of_ble_eq_true rfl) (by simp [Value.oneCell']) (fun u2 R2 k2 _ => ?_); have R2 : Blk u2 b4 44 [.slice A7 n7 c7, .slice B7' m7 c8, iv dr.left, .bool dr.stop] := R2; refine ldA [.slice A7 n7 c7, .slice B7' m7 c8, iv dr.left, .bool dr.stop] (.blk R2) rfl ?_; refine stA (vs := [.slice A7 n7 c7, .slice B7' m7 c8, iv dr.left, .bool dr.stop]) R2 rfl (Nat.le_of_ble_eq_true rfl) (by simp [Value.oneCell']) (fun u3 R3' k3 _ => ?_); have R3' : Blk u3 b4 44 [.slice A7 n7 c7, .slice B7' m7 c8, iv dr.left, .bool dr.stop] := R3'; refine ret ?_; refine resL (.agg #[.slice A7 n7 c7, .slice B7' m7 c8, iv dr.left, .bool dr.stop]) (holds_agg (.blk R3') rfl) ?_; have k23 := k2.trans k3; refine ⟨[.slice A7 n7 c7, .slice B7' m7 c8, iv dr.left, .bool dr.stop], by rw [← her]; rfl, ?_, (x0u.trans xu1).then k23 fun i hi _ e => by omega⟩; rw [← hdr]
    have hkeep : ∀ b, (D b ∧ b < w.heap.size) ∨ u.heap.size ≤ b → b ≠ b4 := fun b h => by
      rcases h with ⟨-, h⟩ | h <;> omega
    exact (d1'.kept k23 fun b _ h => hkeep b h).more fun b _ h => h.elim (fun h => .inl h.1) fun h => .inr (by have := x0u.size; omega)
end
section
variable {D : Nat → Prop} {w : World}
theorem c_lRoot0 (hN : NumW w) : CallZ Tryz.prog 23 #[.agg #[.slice none 0 0]] w (fun v w' => v = .tuple #[.agg (u8s (tagB (bl noneT) [])).toArray, iv 0] ∧ Ext w w') := by
  refine fn_rule (args := [.agg #[.slice none 0 0]]) Tryz.func23 (by kernel_rfl) ?_; refine box (fun b1 w1 h1 => ?_); have B1 : Blk w1 b1 24 [.slice none 0 0] := h1.blk; refine alloc (fun b2 w2 h2 => ?_); have x02 := h1.ext.trans h2.ext; have e1 := h1.at_; have e2 := h2.at_; have s1 := h1.ext.size; have h0 : ldgErr [] = 0 := ldgErr_0.2 ⟨by simp, LOk.nil⟩; refine ldA [.slice none 0 0] (.blk (B1.ext h2.ext)) rfl ?_; refine call_of (c_gCheck (D := fun _ => True) (l := []) .nil) ?_; rintro _ w3 ⟨rfl, x3⟩; rw [h0]; refine cN (fun h => absurd rfl h) (fun _ => ?_); refine ldA [.slice none 0 0] (.blk ((B1.ext h2.ext).ext x3)) rfl ?_; refine call_of (c_textsX (D := fun _ => True) (l := []) .nil (fun p hp => by cases hp) (by omega)) ?_; rintro _ w4 ⟨T, cT, rfl, -, x4, -⟩; have x24 := x3.trans x4; refine call_of (c_mRoot0 (hN.ext (x02.trans x24))) ?_; rintro _ w5 ⟨rfl, x5⟩; have B2 := h2.blk.ext (x24.trans x5)
  have htl : (u8s (tagB (bl noneT) [])).length = 32 := by rw [List.length_map]; exact shaB_len _
  refine stA (vs := u8s (tagB (bl noneT) [])) B2 htl (by rw [htl]; exact Nat.le_refl _) (fun v hv => List.all_eq_true.1 (u8s_one _) v hv) (fun w6 B6 k6 _ => ?_)
  have B6 : Blk w6 b2 47 (u8s (tagB (bl noneT) [])) := by
    have e : ∀ X : List Value, X.length = 32 → X.drop (0 + (u8s (tagB (bl noneT) [])).length) = [] := fun X hX => List.drop_of_length_le (by rw [htl]; omega); rw [List.take_zero, List.nil_append, e _ rfl, List.append_nil] at B6; exact B6
  refine ret ?_; refine resL _ (holds_agg (.blk B6) htl) ?_; exact ⟨rfl, ((x02.trans x24).trans x5).then k6 fun b hb _ e => by omega⟩
theorem c_bCheck0 {cs : List Value} {d : Dist} (hd : DiR D w cs d) (hc : cs.length = 10) (he : dErr d ≠ 0) : CallZ Tryz.prog 36 #[.agg cs.toArray, .agg ([.slice none 0 0, .slice none 0 0, .slice none 0 0, .slice none 0 0, .slice none 0 0, .slice none 0 0, .slice none 0 0]).toArray] w (fun v w' => v = iv (dErr d) ∧ Ext w w') := by
  refine fn_rule (args := [.agg cs.toArray, .agg ([.slice none 0 0, .slice none 0 0, .slice none 0 0, .slice none 0 0, .slice none 0 0, .slice none 0 0, .slice none 0 0]).toArray]) Tryz.func36 (by kernel_rfl) ?_; refine box (fun b2 w1 h1 => ?_); have B1 : Blk w1 b2 64 cs := h1.blk; refine box (fun b3 w2 h2 => ?_); have x02 := h1.ext.trans h2.ext; refine ldA cs (.blk (B1.ext h2.ext)) hc ?_; refine call_of (c_eCheck (hd.ext x02)) ?_; rintro _ w3 ⟨rfl, x3⟩; refine cN (fun _ => ?_) (fun h => absurd h he); exact ret1 (iv (dErr d)) rfl ⟨rfl, x02.trans x3⟩
theorem c_lOf0 {cs : List Value} {d : Dist} (hd : DiR D w cs d) (hc : cs.length = 10) (he : dErr d ≠ 0) : CallZ Tryz.prog 31 #[.agg cs.toArray, .agg ([.slice none 0 0, .slice none 0 0, .slice none 0 0, .slice none 0 0, .slice none 0 0, .slice none 0 0, .slice none 0 0]).toArray] w (fun v w' => v = .tuple #[.agg #[.slice none 0 0], iv (dErr d)] ∧ Ext w w') := by
  refine fn_rule (args := [.agg cs.toArray, .agg ([.slice none 0 0, .slice none 0 0, .slice none 0 0, .slice none 0 0, .slice none 0 0, .slice none 0 0, .slice none 0 0]).toArray]) Tryz.func31 (by kernel_rfl) ?_; refine box (fun b2 w1 h1 => ?_); have B1 : Blk w1 b2 64 cs := h1.blk; refine box (fun b3 w2 h2 => ?_); have X2 : Blk w2 b3 68 [.slice none 0 0, .slice none 0 0, .slice none 0 0, .slice none 0 0, .slice none 0 0, .slice none 0 0, .slice none 0 0] := h2.blk; refine alloc (fun b4 w3 h3 => ?_); have R3 : Blk w3 b4 24 [.slice none 0 0] := h3.blk; have e4 := h3.at_; have x13 := h2.ext.trans h3.ext; have x03 := h1.ext.trans x13; have s1 := h1.ext.size; have s2 := h2.ext.size; refine ldA cs (.blk (B1.ext x13)) hc ?_; refine ldA [.slice none 0 0, .slice none 0 0, .slice none 0 0, .slice none 0 0, .slice none 0 0, .slice none 0 0, .slice none 0 0] (.blk (X2.ext h3.ext)) rfl ?_; refine call_of (c_bCheck0 (hd.ext x03) hc he) ?_; rintro _ w4 ⟨rfl, x4⟩; refine cN (fun _ => ?_) (fun h => absurd h he); have R4 := R3.ext x4; refine ldA [.slice none 0 0] (.blk R4) rfl ?_; refine stA (vs := [.slice none 0 0]) R4 rfl (Nat.le_of_ble_eq_true rfl) (by simp [Value.oneCell']) (fun we Be ke _ => ?_); have Be : Blk we b4 24 [.slice none 0 0] := Be; refine ret ?_; refine resL (.agg #[.slice none 0 0]) (holds_agg (.blk Be) rfl) ?_; exact ⟨rfl, (x03.trans x4).then ke fun i hi _ e => by omega⟩
end
def lA : List Post := [⟨3, 1, 1, 0, 1, 5⟩, ⟨4, 2, 1, 1, 9, 2⟩]
def pA : Post := ⟨7, 2, 1, 9, 2, 2⟩
def pB : Post := ⟨7, 2, 1, 9, 2, 3⟩
def lB : List Post := lA ++ [pA]
theorem lA_ok : LOk lA := by
  refine (LOk_snoc (l := [⟨3, 1, 1, 0, 1, 5⟩])).2 ⟨(LOk_snoc (l := [])).2 ⟨LOk.nil, ?_⟩, ?_⟩
  · exact { no := by decide, hour := by decide, sort := by decide, n := by decide, frm := by decide, to := by decide, ne := by decide, aft := (fun q h => by cases h), has := fun h => absurd rfl h, fit := by decide }
  · exact { no := by decide, hour := by decide, sort := by decide, n := by decide, frm := by decide, to := by decide, ne := by decide, aft := (fun q h => by injection h with h; subst h; decide), has := fun _ => by decide, fit := by decide }
theorem lB_ok : LOk lB := LOk_snoc.2 ⟨lA_ok, { no := by decide, hour := by decide, sort := by decide, n := by decide, frm := by decide, to := by decide, ne := by decide, aft := (fun q h => by injection h with h; subst h; decide), has := fun _ => by decide, fit := by decide }⟩
theorem lC_bad : ¬ LOk (lA ++ [pB]) := fun h => absurd ((LOk_snoc.1 h).2.has (by decide)) (by decide)
theorem eA : ldgErr lA = 0 := ldgErr_0.2 ⟨by decide, lA_ok⟩
theorem eB : ldgErr lB = 0 := ldgErr_0.2 ⟨by decide, lB_ok⟩
theorem e0 : ldgErr [] = 0 := ldgErr_0.2 ⟨by decide, LOk.nil⟩
theorem post_A : postE lA pA = 0 := by unfold postE; rw [if_neg (fun h => h eA)]; exact eB
theorem post_B : postE lA pB = 560 := by unfold postE; rw [if_neg (fun h => h eA)]; unfold ldgErr; rw [if_neg (by decide), if_neg lC_bad]
theorem bal_1 : balE lA 1 1 1 = 0 := by unfold balE; rw [if_neg (fun h => h eA), if_pos (by decide)]
theorem bal_1v : balH lA (1, 1) 1 = 5 := by decide
theorem bal_2 : balE lB 1 1 4096 = 0 := by unfold balE; rw [if_neg (fun h => h eB), if_pos (by decide)]
theorem bal_2v : balH lB (1, 1) 4096 = 3 := by decide
theorem bal_3 : balE lA 3 0 0 = 1 := by unfold balE; rw [if_neg (fun h => h eA), if_neg (by decide)]
theorem bals_1 : balsE lB 1 = 0 := by unfold balsE; rw [if_neg (fun h => h eB), if_pos (by decide)]
theorem bals_2 : balsE lB 2 = 0 := by unfold balsE; rw [if_neg (fun h => h eB), if_pos (by decide)]
theorem balP_1 : balP lB 1 4096 = [(0, -5), (1, 3), (2, 2)] := by kernel_rfl
theorem balP_2 : balP lB 2 4096 = [] := by kernel_rfl
theorem sane_dsk : (newP 6).2 = 0 ∧ loadP (newP 6).1 = ([], 0) ∧ (storeP (newP 6).1 lA).2 = 0 ∧ (storeP (storeP (newP 6).1 lA).1 lB).2 = 0 ∧ loadP (storeP (storeP (newP 6).1 lA).1 lB).1 = (lB, 0) ∧ (storeP (storeP (storeP (newP 6).1 lA).1 lB).1 lA).2 = 560 := by
  obtain ⟨a1, a2, a3, a4⟩ := Hol.new (n := 6) (by omega); have a4 : (newP 6).1.secs.length = 6 := a4; refine ⟨a1, Hol.load (l := []) a2 LOk.nil, ?_⟩; rcases Hol.store (l := lA) (k := 0) (m := 1) a2 (by omega) lA_ok (by decide) (by decide) with ⟨h, -⟩ | ⟨b1, b2, b3, b4⟩ | ⟨h, -⟩
  · rw [a4] at h; exact absurd h (by decide)
  rotate_left
  · rw [a3] at h; exact absurd h (by decide)
  have b4 := b4 (by rw [a3]; decide); rw [a3] at b4; rw [a4] at b3; rcases Hol.store (l := lB) (k := 2) b2 (by omega) lB_ok (by decide) (by decide) with ⟨h, -⟩ | ⟨c1, c2, c3, c4⟩ | ⟨h, -⟩
  · rw [b3] at h; exact absurd h (by decide)
  rotate_left
  · rw [b4] at h; exact absurd h (by decide)
  refine ⟨b1, c1, Hol.load c2 lB_ok, ?_⟩; unfold storeP; have hr := c2.recs; unfold storeP at hr c2; rw [if_neg (fun q => q eA), c2.open_, if_neg (fun q => q rfl), if_pos]; rw [hr]; intro h; exact absurd (congrArg List.length h) (by decide)
def zd56 : Dist := ⟨ByteArray.empty, 0, 0, 0, [], [], [], [], [], []⟩
theorem zd_err : dErr zd56 = 191 := by kernel_rfl
theorem draw_has {P : Program} {ops : Array Oper} {K : Fr → World → Prop} {X : XK} {F : Fr} {w : World} {σ : Type} (enc : σ → List (Nat × Value)) (I : σ → World → Prop) (h : DrawH P ops (fun F' w' => ∃ s, Has F' (enc s) ∧ I s w') X F w) (k : ∀ G s w', I s w' → K (upds (enc s) (mix (wr ops.toList) F G)) w') : DrawH P ops K X F w :=
  draw_then h fun F' w' hf ⟨s, hs, hi⟩ => by
    have hm : mix (wr ops.toList) F F' = F' := funext fun j => by
      show (bif memN j (wr ops.toList) then F' j else F j) = F' j
      cases hb : memN j (wr ops.toList) with
      | true => rfl
      | false => exact (hf j hb).symm
    have := k F' s w' hi
    rwa [hm, upds_has hs] at this
instance eqDig : EqTy Tryz.prog 47 := ⟨by kernel_rfl⟩
instance eqPost : EqTy Tryz.prog 26 := ⟨by kernel_rfl⟩
theorem cells_u8 : Tryz.prog.cellsOf 5 = 1 := by kernel_rfl
theorem part_u8 {l : List Nat} {i x : Nat} (h : l[i]? = some x) : partV Tryz.prog 5 (u8s l) (i * Tryz.prog.cellsOf 5) = some (uv8 x) := by
  unfold partV; rw [Tryz.underlying5, cells_u8, Nat.mul_one]; show (u8s l)[i]? = _; rw [List.getElem?_map, h]
  rfl
theorem eqV_u8 (x : Nat) (d : Nat) : eqV Tryz.prog (d + 1) 5 (uv8 x) (uv8 x) = some true := by
  unfold eqV; rw [Tryz.underlying5]; show some ((x : Int) == (x : Int)) = _; rw [beq_self_eq_true]
theorem eqI_self {l : List Nat} : ∀ {is : List Nat}, (∀ i ∈ is, i < l.length) → eqI Tryz.prog (eqV Tryz.prog 7) 5 (u8s l) (u8s l) is = some true
  | [], _ => rfl
  | i :: is, h => by
    obtain ⟨x, hx⟩ : ∃ x, l[i]? = some x := ⟨_, List.getElem?_eq_getElem (h i List.mem_cons_self)⟩
    unfold eqI
    rw [part_u8 hx, eqI_self fun j hj => h j (List.mem_cons_of_mem _ hj)]
    dsimp only
    rw [eqV_u8]
    rfl
theorem eqV_dig {l : List Nat} (h : l.length = 32) : eqV Tryz.prog 8 47 (.agg (u8s l).toArray) (.agg (u8s l).toArray) = some true := by
  unfold eqV; rw [Tryz.underlying47]; show (if (Tryz.prog.info? 5).isSome then eqI Tryz.prog (eqV Tryz.prog 7) 5 (u8s l) (u8s l) (List.range 32) else none) = some true; rw [if_pos (by kernel_rfl)]
  exact eqI_self fun i hi => by rw [h]; exact List.mem_range.1 hi
section
variable {w : World}
theorem c_lposting {no hour f t n : Int} : CallZ Tryz.prog 39 #[iv no, iv hour, iv f, iv t, iv n] w (fun v w' => v = .agg #[iv no, iv hour, iv 1, iv f, iv t, iv n] ∧ Ext w w') := by
  refine fn_rule (args := [iv no, iv hour, iv f, iv t, iv n]) Tryz.func39 (by kernel_rfl) ?_; refine alloc (fun b w1 h1 => ?_); refine bld [iv no, iv hour, iv 1, iv f, iv t, iv n] (by kernel_rfl) ?_; refine stA (vs := [iv no, iv hour, iv 1, iv f, iv t, iv n]) h1.blk rfl (Nat.le_of_ble_eq_true rfl) (by simp [Value.oneCell']) (fun w2 B2 k2 _ => ?_); have B2 : Blk w2 b 26 [iv no, iv hour, iv 1, iv f, iv t, iv n] := B2; have e1 := h1.at_; refine ret ?_; refine resL _ (holds_agg (.blk B2) rfl) ?_; exact ⟨rfl, h1.ext.then k2 fun i hi _ e => by omega⟩
theorem zd_r : DiR (fun _ => True) w [.string ByteArray.empty, iv 0, iv 0, iv 0, .slice none 0 0, .slice none 0 0, .slice none 0 0, .slice none 0 0, .slice none 0 0, .slice none 0 0] zd56 := DiR.of_ ⟨_, _, _, _, _, _, _, _, _, _, _, _, _, _, _, _, _, _, rfl, .nil, .nil, .nil, .nil, .nil, .nil⟩
set_option maxRecDepth 10000 in
set_option maxHeartbeats 8000000 in
theorem c_lsane (hN : NumW w) : CallZ Tryz.prog 10 #[] w (fun v w' => v = .bool true ∧ Ext w w') := by
  obtain ⟨d0, hd0⟩ : ∃ d0, d0 = (newP 6).1 := ⟨_, rfl⟩; obtain ⟨s1, s2, s3, s4, s5, s6⟩ := sane_dsk; rw [← hd0] at s2 s3 s4 s5 s6; obtain ⟨d1, hd1⟩ : ∃ d1, d1 = (storeP d0 lA).1 := ⟨_, rfl⟩; rw [← hd1] at s4 s5 s6; obtain ⟨d2, hd2⟩ : ∃ d2, d2 = (storeP d1 lB).1 := ⟨_, rfl⟩; rw [← hd2] at s5 s6; obtain ⟨d3, hd3⟩ : ∃ d3, d3 = (storeP d2 lA).1 := ⟨_, rfl⟩; obtain ⟨rt, hrt⟩ : ∃ rt : List Nat, rt = tagB (bl noneT) [] := ⟨_, rfl⟩
  have hrl : rt.length = 32 := by rw [hrt]; exact shaB_len _
  refine fn_rule (args := []) Tryz.func10 (by kernel_rfl) ?_; refine call_of c_lposting ?_; rintro _ w1 ⟨rfl, x1⟩; refine call_of c_lposting ?_; rintro _ w2 ⟨rfl, x2⟩; refine lit [.agg #[iv 3, iv 1, iv 1, iv 0, iv 1, iv 5], .agg #[iv 4, iv 2, iv 1, iv 1, iv 9, iv 2]] (fun g w3 h3 => ?_); refine bld [.slice (some (ad g 0)) 2 2] (by kernel_rfl) ?_; refine alloc (fun b1' wa1' ha1' => ?_); refine stA (vs := [.slice (some (ad g 0)) 2 2]) ha1'.blk rfl (Nat.le_of_ble_eq_true rfl) (by simp [Value.oneCell']) (fun w1' L1' k1' _ => ?_); have L1' : Blk w1' b1' 24 [.slice (some (ad g 0)) 2 2] := L1'; have at1' := ha1'.at_
  have xs : Ext w3 w1' := ha1'.ext.then k1' fun i hi _ e => by omega
  have sA : SlR tPost (fun _ => True) w1' (some (ad g 0)) 2 lA := (SlR.of_cells rfl (by decide) trivial (.blk h3.blk) ⟨_, _, rfl, rfl, _, _, rfl, rfl, rfl⟩ : SlR tPost (fun _ => True) w3 (some (ad g 0)) 2 lA).ext xs; have x0 : Ext w w1' := (x1.trans x2).trans (h3.ext.trans xs); refine draw_has (fun s : Nat × Option Addr × Nat × Nat => [(2, ptr s.1), (3, iv 0)]) (fun s u => Ext w1' u ∧ Blk u s.1 24 [.slice s.2.1 s.2.2.1 s.2.2.2] ∧ SlR tPost (fun _ => True) u s.2.1 s.2.2.1 lB) ?_ ?_
  · have xc : Ext w1' w1' := .refl _ _; refine drawP (.take 0 (.alt 1 (.alt 2 (.take 3 (.take 4 (.take 5 (.eff 6 (.eff 7 (.take 8 .done)))))) (.eff 6 (.eff 2 (.take 3 (.take 4 (.take 5 (.eff 7 (.take 8 .done)))))))) (.eff 6 (.eff 1 (.eff 2 (.take 3 (.take 4 (.take 5 (.eff 7 (.take 8 .done)))))))))) [] (fun y => Ext w1' y) mx (by kernel_rfl) (.refl _ _) ?_; refine ldAX [.slice (some (ad g 0)) 2 2] (.blk L1') rfl (.refl _ _) ?_; refine ⟨?q1, ?q6⟩
    case' q1 =>
      refine call_of c_lposting ?_; rintro _ wp ⟨rfl, xp⟩; have xc := xc.trans xp
      try (have B6 := Blk.ext B6 xp)
      refine strS xc ?_; refine ⟨?q12, ?q16⟩
    case' q12 =>
      refine call_of (c_gPost (p := pA) (sA.ext xc)) ?_; rintro _ wq ⟨xq, F, m, c', rfl, ⟨h, -⟩ | ⟨-, sF, -⟩⟩
      · exact absurd post_A h
      have xc := xc.trans xq; have sF : SlR tPost (fun b => wp.heap.size ≤ b ∧ b < wq.heap.size) wq F m lB := sF.more (by decide) fun _ hb h => ⟨h, hb⟩
      try (have lb6 := Blk.lt B6)
      try (have B6 := Blk.ext B6 xq)
      rw [post_A]; refine strS xc ?_; refine alloc (fun b6 wa h6 => ?_); have e6 := h6.at_; have B6 : Blk wa b6 24 [.slice none 0 0] := h6.blk
      have m6 : w1'.heap.size ≤ b6 := by have := xc.size; omega
      have xc := xc.trans h6.ext
      try (have sF := SlR.ext sF h6.ext)
      refine strS xc ?_
    case' q16 =>
      refine alloc (fun b6 wa h6 => ?_); have e6 := h6.at_; have B6 : Blk wa b6 24 [.slice none 0 0] := h6.blk
      have m6 : w1'.heap.size ≤ b6 := by have := xc.size; omega
      have xc := xc.trans h6.ext
      try (have sF := SlR.ext sF h6.ext)
      refine strS xc ?_; refine call_of (c_gPost (p := pA) (sA.ext xc)) ?_; rintro _ wq ⟨xq, F, m, c', rfl, ⟨h, -⟩ | ⟨-, sF, -⟩⟩
      · exact absurd post_A h
      have xc := xc.trans xq; have sF : SlR tPost (fun b => wa.heap.size ≤ b ∧ b < wq.heap.size) wq F m lB := sF.more (by decide) fun _ hb h => ⟨h, hb⟩
      try (have lb6 := Blk.lt B6)
      try (have B6 := Blk.ext B6 xq)
      rw [post_A]; refine strS xc ?_
    case' q6 =>
      refine alloc (fun b6 wa h6 => ?_); have e6 := h6.at_; have B6 : Blk wa b6 24 [.slice none 0 0] := h6.blk
      have m6 : w1'.heap.size ≤ b6 := by have := xc.size; omega
      have xc := xc.trans h6.ext
      try (have sF := SlR.ext sF h6.ext)
      refine strS xc ?_; refine call_of c_lposting ?_; rintro _ wp ⟨rfl, xp⟩; have xc := xc.trans xp
      try (have B6 := Blk.ext B6 xp)
      refine strS xc ?_; refine call_of (c_gPost (p := pA) (sA.ext xc)) ?_; rintro _ wq ⟨xq, F, m, c', rfl, ⟨h, -⟩ | ⟨-, sF, -⟩⟩
      · exact absurd post_A h
      have xc := xc.trans xq; have sF : SlR tPost (fun b => wp.heap.size ≤ b ∧ b < wq.heap.size) wq F m lB := sF.more (by decide) fun _ hb h => ⟨h, hb⟩
      try (have lb6 := Blk.lt B6)
      try (have B6 := Blk.ext B6 xq)
      rw [post_A]; refine strS xc ?_
    all_goals
      refine stA (vs := [.slice F m c']) B6 rfl (Nat.le_of_ble_eq_true rfl) (by simp [Value.oneCell']) (fun wz C6 k6 _ => ?_); have C6 : Blk wz b6 24 [.slice F m c'] := C6
      have xz : Ext w1' wz := xc.then k6 fun i hi _ e => by omega
      have sz : SlR tPost (fun _ => True) wz F m lB := (sF.kept k6 fun b _ h => by omega).more (by decide) fun _ _ _ => trivial; refine strS xz ?_; exact ⟨(b6, F, m, c'), ⟨rfl, rfl, trivial⟩, xz, C6, sz⟩
  rintro G2 ⟨b2, F, m, c⟩ w5 ⟨x15, L2, sB⟩; have hm3 : 3 = m := sB.len; subst hm3; have L1 := L1'.ext x15; have sA := sA.ext x15; have x0 := x0.trans x15; refine draw_has (fun b4 : Nat => [(4, ptr b4), (5, iv 560)]) (fun _ u => Ext w5 u) ?_ ?_
  · have xc : Ext w5 w5 := .refl _ _; refine drawP (.take 0 (.alt 1 (.alt 2 (.take 3 (.take 4 (.take 5 (.eff 6 (.eff 7 (.take 8 .done)))))) (.eff 6 (.eff 2 (.take 3 (.take 4 (.take 5 (.eff 7 (.take 8 .done)))))))) (.eff 6 (.eff 1 (.eff 2 (.take 3 (.take 4 (.take 5 (.eff 7 (.take 8 .done)))))))))) [] (fun y => Ext w5 y) mx (by kernel_rfl) (.refl _ _) ?_; refine ldAX [.slice (some (ad g 0)) 2 2] (.blk L1) rfl (.refl _ _) ?_; refine ⟨?r1, ?r6⟩
    case' r1 =>
      refine call_of c_lposting ?_; rintro _ wp ⟨rfl, xp⟩; have xc := xc.trans xp
      try (have B6 := Blk.ext B6 xp)
      refine strS xc ?_; refine ⟨?r12, ?r16⟩
    case' r12 =>
      refine call_of (c_gPost (p := pB) (sA.ext xc)) ?_; rintro _ wq ⟨xq, F, m, c', rfl, ⟨-, rfl, rfl, rfl⟩ | ⟨h, -⟩⟩; rotate_left
      · exact absurd h (by rw [post_B]; decide)
      have xc := xc.trans xq
      try (have B6 := Blk.ext B6 xq)
      rw [post_B]; refine strS xc ?_; refine alloc (fun b6 wa h6 => ?_); have e6 := h6.at_; have B6 : Blk wa b6 24 [.slice none 0 0] := h6.blk
      have m6 : w5.heap.size ≤ b6 := by have := xc.size; omega
      have xc := xc.trans h6.ext
      try (have sF := SlR.ext sF h6.ext)
      refine strS xc ?_
    case' r16 =>
      refine alloc (fun b6 wa h6 => ?_); have e6 := h6.at_; have B6 : Blk wa b6 24 [.slice none 0 0] := h6.blk
      have m6 : w5.heap.size ≤ b6 := by have := xc.size; omega
      have xc := xc.trans h6.ext
      try (have sF := SlR.ext sF h6.ext)
      refine strS xc ?_; refine call_of (c_gPost (p := pB) (sA.ext xc)) ?_; rintro _ wq ⟨xq, F, m, c', rfl, ⟨-, rfl, rfl, rfl⟩ | ⟨h, -⟩⟩; rotate_left
      · exact absurd h (by rw [post_B]; decide)
      have xc := xc.trans xq
      try (have B6 := Blk.ext B6 xq)
      rw [post_B]; refine strS xc ?_
    case' r6 =>
      refine alloc (fun b6 wa h6 => ?_); have e6 := h6.at_; have B6 : Blk wa b6 24 [.slice none 0 0] := h6.blk
      have m6 : w5.heap.size ≤ b6 := by have := xc.size; omega
      have xc := xc.trans h6.ext
      try (have sF := SlR.ext sF h6.ext)
      refine strS xc ?_; refine call_of c_lposting ?_; rintro _ wp ⟨rfl, xp⟩; have xc := xc.trans xp
      try (have B6 := Blk.ext B6 xp)
      refine strS xc ?_; refine call_of (c_gPost (p := pB) (sA.ext xc)) ?_; rintro _ wq ⟨xq, F, m, c', rfl, ⟨-, rfl, rfl, rfl⟩ | ⟨h, -⟩⟩; rotate_left
      · exact absurd h (by rw [post_B]; decide)
      have xc := xc.trans xq
      try (have B6 := Blk.ext B6 xq)
      rw [post_B]; refine strS xc ?_
    all_goals
      refine stA (vs := [.slice none 0 0]) B6 rfl (Nat.le_of_ble_eq_true rfl) (by simp [Value.oneCell']) (fun wz C6 k6 _ => ?_)
      have xz : Ext w5 wz := xc.then k6 fun i hi _ e => by omega
      refine strS xz ?_; exact ⟨b6, ⟨rfl, rfl, trivial⟩, xz⟩
  intro G4 b4 w6 x56; have L1 := L1.ext x56; have L2 := L2.ext x56; have sA := sA.ext x56; have sB := sB.ext x56; have x0 := x0.trans x56; refine ldA [.slice (some (ad g 0)) 2 2] (.blk L1) rfl ?_; refine call_of (c_gBalance sA) ?_; rintro _ w7 ⟨rfl, x7⟩; rw [bal_1, if_pos rfl, bal_1v]; refine ldA [.slice F 3 c] (.blk (L2.ext x7)) rfl ?_; refine call_of (c_gBalance (sB.ext x7)) ?_; rintro _ w8 ⟨rfl, x8⟩; have x68 := x7.trans x8; rw [bal_2, if_pos rfl, bal_2v]; refine ldA [.slice F 3 c] (.blk (L2.ext x68)) rfl ?_; refine call_of (c_gBalances (so := 1) (sB.ext x68)) ?_; rintro _ w9 ⟨x9, C1, m1, k1, rfl, sC1⟩; have x69 := x68.trans x9; rw [bals_1, if_pos rfl, balP_1] at sC1; rw [bals_1]; have hm1 : 3 = m1 := sC1.len; subst hm1; refine ldA [.slice F 3 c] (.blk (L2.ext x69)) rfl ?_; refine call_of (c_gBalances (so := 2) (sB.ext x69)) ?_; rintro _ w10 ⟨x10, C2, m2, k2, rfl, sC2⟩; rw [bals_2, if_pos rfl, balP_2] at sC2; rw [bals_2]; have hm2 : 0 = m2 := sC2.len; subst hm2; have x6a := x69.trans x10; refine ldA [.slice (some (ad g 0)) 2 2] (.blk (L1.ext x6a)) rfl ?_; refine call_of (c_gBalance (sA.ext x6a)) ?_; rintro _ w11 ⟨rfl, x11⟩; rw [bal_3, if_neg (by decide)]; have x6b := x6a.trans x11; have sC1 := sC1.ext (x10.trans x11); have L1 := L1.ext x6b; have L2 := L2.ext x6b; have sA := sA.ext x6b; have sB := sB.ext x6b; have x0 := x0.trans x6b; refine call_of (c_dNew (n := 6) (by unfold I64; omega)) ?_; rintro _ w12 ⟨cs0, rfl, D0, x12⟩; rw [← hd0] at D0; rw [s1]; obtain ⟨A0, n0, c0, B0, m0, e0', rfl, -⟩ := D0.ex; refine alloc (fun b16 wa16 ha16 => ?_); refine stA (vs := [.slice A0 n0 c0, .slice B0 m0 e0', iv d0.left, .bool d0.stop]) ha16.blk rfl (Nat.le_of_ble_eq_true rfl) (by simp [Value.oneCell']) (fun w16 L16 k16 _ => ?_); have L16 : Blk w16 b16 44 [.slice A0 n0 c0, .slice B0 m0 e0', iv d0.left, .bool d0.stop] := L16; have at16 := ha16.at_
  have xs : Ext w12 w16 := ha16.ext.then k16 fun i hi _ e => by omega
  have D0 := D0.ext xs; have xb := x12.trans xs; refine ldA [.slice A0 n0 c0, .slice B0 m0 e0', iv d0.left, .bool d0.stop] (.blk L16) rfl ?_; refine call_of (c_lLoad D0) ?_; rintro _ w13 ⟨x13, E1, q1, f1, rfl, sE1, -⟩; rw [s2] at sE1 ⊢; have hq1 : 0 = q1 := sE1.len; subst hq1; refine alloc (fun b18 wa18 ha18 => ?_); refine stA (vs := [.slice E1 0 f1]) ha18.blk rfl (Nat.le_of_ble_eq_true rfl) (by simp [Value.oneCell']) (fun w18 L18 k18 _ => ?_); have L18 : Blk w18 b18 24 [.slice E1 0 f1] := L18; have at18 := ha18.at_
  have xs : Ext w13 w18 := ha18.ext.then k18 fun i hi _ e => by omega
  have L16 := (L16.ext x13).ext xs; have D0 := (D0.ext x13).ext xs; have xb := xb.trans (x13.trans xs); refine ldA [.slice A0 n0 c0, .slice B0 m0 e0', iv d0.left, .bool d0.stop] (.blk L16) rfl ?_; refine ldA [.slice (some (ad g 0)) 2 2] (.blk (L1.ext xb)) rfl ?_; refine call_of (c_lStore D0 (sA.ext xb)) ?_; rintro _ w14 ⟨cs1, rfl, D1, x14⟩; rw [← hd1] at D1; rw [s3]; obtain ⟨A1, n1, c1, B1, m1', e1', rfl, -⟩ := D1.ex; refine alloc (fun b20 wa20 ha20 => ?_); refine stA (vs := [.slice A1 n1 c1, .slice B1 m1' e1', iv d1.left, .bool d1.stop]) ha20.blk rfl (Nat.le_of_ble_eq_true rfl) (by simp [Value.oneCell']) (fun w20 L20 k20 _ => ?_); have L20 : Blk w20 b20 44 [.slice A1 n1 c1, .slice B1 m1' e1', iv d1.left, .bool d1.stop] := L20; have at20 := ha20.at_
  have xs : Ext w14 w20 := ha20.ext.then k20 fun i hi _ e => by omega
  have D1 := D1.ext xs; have xb := xb.trans (x14.trans xs); have L18 := L18.ext (x14.trans xs); refine ldA [.slice A1 n1 c1, .slice B1 m1' e1', iv d1.left, .bool d1.stop] (.blk L20) rfl ?_; refine ldA [.slice F 3 c] (.blk (L2.ext xb)) rfl ?_; refine call_of (c_lStore D1 (sB.ext xb)) ?_; rintro _ w15 ⟨cs2, rfl, D2, x15'⟩; rw [← hd2] at D2; rw [s4]; obtain ⟨A2, n2, c2, B2, m2', e2', rfl, -⟩ := D2.ex; refine alloc (fun b22 wa22 ha22 => ?_); refine stA (vs := [.slice A2 n2 c2, .slice B2 m2' e2', iv d2.left, .bool d2.stop]) ha22.blk rfl (Nat.le_of_ble_eq_true rfl) (by simp [Value.oneCell']) (fun w22 L22 k22 _ => ?_); have L22 : Blk w22 b22 44 [.slice A2 n2 c2, .slice B2 m2' e2', iv d2.left, .bool d2.stop] := L22; have at22 := ha22.at_
  have xs : Ext w15 w22 := ha22.ext.then k22 fun i hi _ e => by omega
  have D2 : DskR (fun _ => True) w22 _ d2 := (D2.ext xs).more fun _ _ _ => trivial; have xb := xb.trans (x15'.trans xs); have L18 := L18.ext (x15'.trans xs); refine ldA [.slice A2 n2 c2, .slice B2 m2' e2', iv d2.left, .bool d2.stop] (.blk L22) rfl ?_; refine call_of (c_lLoad D2) ?_; rintro _ w16' ⟨x16, E2, q2, f2, rfl, sE2, -⟩; rw [s5] at sE2 ⊢; have hq2 : 3 = q2 := sE2.len; subst hq2; refine alloc (fun b24 wa24 ha24 => ?_); refine stA (vs := [.slice E2 3 f2]) ha24.blk rfl (Nat.le_of_ble_eq_true rfl) (by simp [Value.oneCell']) (fun w24 L24 k24 _ => ?_); have L24 : Blk w24 b24 24 [.slice E2 3 f2] := L24; have at24 := ha24.at_
  have xs : Ext w16' w24 := ha24.ext.then k24 fun i hi _ e => by omega
  have L22 := (L22.ext x16).ext xs; have D2 := (D2.ext x16).ext xs; have sE2 := sE2.ext xs; have xb := xb.trans (x16.trans xs); have L18 := L18.ext (x16.trans xs); refine ldA [.slice A2 n2 c2, .slice B2 m2' e2', iv d2.left, .bool d2.stop] (.blk L22) rfl ?_; refine ldA [.slice (some (ad g 0)) 2 2] (.blk (L1.ext xb)) rfl ?_; refine call_of (c_lStore D2 (sA.ext xb)) ?_; rintro _ w17 ⟨cs3, rfl, D3, x17⟩; rw [← hd3] at D3; rw [s6]; obtain ⟨A3, n3, c3, B3, m3', e3', rfl, -⟩ := D3.ex; refine alloc (fun b26 wa26 ha26 => ?_); refine stA (vs := [.slice A3 n3 c3, .slice B3 m3' e3', iv d3.left, .bool d3.stop]) ha26.blk rfl (Nat.le_of_ble_eq_true rfl) (by simp [Value.oneCell']) (fun w26 L26 k26 _ => ?_); have L26 : Blk w26 b26 44 [.slice A3 n3 c3, .slice B3 m3' e3', iv d3.left, .bool d3.stop] := L26; have at26 := ha26.at_
  have xs : Ext w17 w26 := ha26.ext.then k26 fun i hi _ e => by omega
  have sE2 := sE2.ext (x17.trans xs); have L24 := L24.ext (x17.trans xs); have xb := xb.trans (x17.trans xs); have L18 := L18.ext (x17.trans xs); refine bld [.slice none 0 0] (by kernel_rfl) ?_; refine call_of (c_lRoot0 (hN.ext (x0.trans xb))) ?_; rintro _ w18' ⟨rfl, x18⟩; rw [← hrt]
  have hul : (u8s rt).length = 32 := by rw [List.length_map]; exact hrl
  refine alloc (fun b28 wa28 ha28 => ?_); refine stA (vs := u8s rt) ha28.blk hul (by rw [hul]; exact Nat.le_refl _) (fun v hv => List.all_eq_true.1 (u8s_one _) v hv) (fun w28 L28 k28 _ => ?_)
  have L28 : Blk w28 b28 47 (u8s rt) := by
    have e : ∀ X : List Value, X.length = 32 → X.drop (0 + (u8s rt).length) = [] := fun X hX => List.drop_of_length_le (by rw [hul]; omega); rw [List.take_zero, List.nil_append, e _ rfl, List.append_nil] at L28; exact L28
  have at28 := ha28.at_
  have xs : Ext w18' w28 := ha28.ext.then k28 fun i hi _ e => by omega
  have sE2 := sE2.ext (x18.trans xs); have L24 := L24.ext (x18.trans xs); have xb := xb.trans (x18.trans xs); have L18 := L18.ext (x18.trans xs); refine bld [.string ByteArray.empty, iv 0, iv 0, iv 0, .slice none 0 0, .slice none 0 0, .slice none 0 0, .slice none 0 0, .slice none 0 0, .slice none 0 0] (by kernel_rfl) ?_; refine bld [.slice none 0 0, .slice none 0 0, .slice none 0 0, .slice none 0 0, .slice none 0 0, .slice none 0 0, .slice none 0 0] (by kernel_rfl) ?_; refine call_of (c_lOf0 (zd_r (w := w28)) rfl (by rw [zd_err]; decide)) ?_; rintro _ w19 ⟨rfl, x19⟩; rw [zd_err]; refine alloc (fun b30 wa30 ha30 => ?_); refine stA (vs := [.slice none 0 0]) ha30.blk rfl (Nat.le_of_ble_eq_true rfl) (by simp [Value.oneCell']) (fun w30 L30 k30 _ => ?_); have L30 : Blk w30 b30 24 [.slice none 0 0] := L30; have at30 := ha30.at_
  have xs : Ext w19 w30 := ha30.ext.then k30 fun i hi _ e => by omega
  have sE2 := sE2.ext (x19.trans xs); have L24 := L24.ext (x19.trans xs); have L28 := L28.ext (x19.trans xs); have xb := xb.trans (x19.trans xs); have L18 := L18.ext (x19.trans xs)
  iterate 15 refine cN (fun h => absurd rfl h) (fun _ => ?_)
  refine bld [.slice none 0 0] (by kernel_rfl) ?_; refine call_of (c_gCheck (D := fun _ => True) (l := []) .nil) ?_; rintro _ w31 ⟨rfl, x31⟩; rw [e0]; refine cN (fun h => absurd rfl h) (fun _ => ?_); have xb := xb.trans x31; refine ldA [.slice (some (ad g 0)) 2 2] (.blk (L1.ext xb)) rfl ?_; refine call_of (c_gCheck (sA.ext xb)) ?_; rintro _ w32 ⟨rfl, x32⟩; rw [eA]; refine cN (fun h => absurd rfl h) (fun _ => ?_); have xb := xb.trans x32; have x3' := x31.trans x32; have L2 := L2.ext xb; have sB := sB.ext xb; have sC1 := sC1.ext xb; have sE2 := sE2.ext x3'; have L24 := L24.ext x3'; have L28 := L28.ext x3'; have L18 := L18.ext x3'; have x0 := x0.trans xb; refine drawP (.take 0 (.take 1 (.take 2 (.take 3 (.take 4 (.take 5 (.take 6 (.take 7 (.take 8 (.take 9 (.take 10 (.take 11 (.take 12 (.take 13 (.take 14 (.take 15 (.take 16 (.eff 17 (.eff 18 (.take 19 (.take 20 (.take 21 (.take 22 (.take 23 (.take 24 (.take 25 (.take 26 (.take 27 (.take 28 (.take 29 (.take 30 (.take 31 (.eff 32 (.take 33 (.take 34 .done))))))))))))))))))))))))))))))))))) [] (fun y => Ext w32 y) mx (by kernel_rfl) (.refl _ _) ?_; refine fldA ?_; refine ldX (.slice F 3 c) (L2.cell rfl) (.refl _ _) ?_; refine len ?_
  iterate 3 refine cN (fun h => absurd rfl h) (fun _ => ?_)
  refine bld [iv 0, iv (-5)] (by kernel_rfl) ?_; refine bld [iv 1, iv 3] (by kernel_rfl) ?_; refine bld [iv 2, iv 2] (by kernel_rfl) ?_; refine lit [.agg #[iv 0, iv (-5)], .agg #[iv 1, iv 3], .agg #[iv 2, iv 2]] (fun g3 w33 h33 => ?_); refine strS h33.ext ?_; have sL : SlR tAB (fun _ => True) w33 (some (ad g3 0)) 3 [(0, -5), (1, 3), (2, 2)] := SlR.of_cells rfl (by decide) trivial (.blk h33.blk) ⟨_, _, rfl, rfl, _, _, rfl, rfl, _, _, rfl, rfl, rfl⟩; refine call_of (c_r56SamePairs ((sC1.more (D' := fun _ => True) (by decide) fun _ _ _ => trivial).ext h33.ext) sL) ?_; rintro _ wr ⟨rfl, hwr⟩; rw [hwr, decide_eq_true rfl]; clear hwr wr; refine strS h33.ext ?_; refine len ?_; refine fldA ?_; refine ldX (.slice E1 0 f1) (L18.cell rfl) (.refl _ _) ?_; refine len ?_; refine arI (by decide) ?_; refine cD (fun h => absurd h (by omega)) (fun _ => ?_); refine ldAX (u8s rt) (.blk L28) hul (.refl _ _) ?_; refine call_of (c_mRoot0 (hN.ext (x0.trans h33.ext))) ?_; rintro _ w34 ⟨rfl, x34⟩; rw [← hrt]; refine strS (h33.ext.trans x34) ?_; refine neS true (eqV_dig hrl) (fun h => by cases h) (fun _ => ?_); have x3'' := h33.ext.trans x34; have L2 := L2.ext x3''; have sB := sB.ext x3''; have sE2 := (sE2.more (D' := fun _ => True) (by decide) fun _ _ _ => trivial).ext x3''; have L24 := L24.ext x3''; have x0 := x0.trans x3''; obtain ⟨bF, oF, csF, pF, rfl, hx, -, -, hcF, hcs⟩ := sB.at_ (k := 2) (show 2 < 3 by decide); have hp : some pA = some pF := hx; injection hp with hp; subst hp; have hcs : csF = pA.c := hcs; subst hcs; refine drawP (.take 0 (.take 1 (.take 2 (.take 3 (.eff 4 (.take 5 (.take 6 (.take 7 (.take 8 (.eff 9 (.take 10 (.take 11 .done)))))))))))) [] (fun y => Ext w34 y) mx (by kernel_rfl) (.refl _ _) ?_; refine fldA ?_; refine ldX (.slice (some (ad bF oF)) 3 c) (L2.cell rfl) (.refl _ _) ?_; refine idx 2 rfl (by omega) ?_; refine ldAX pA.c hcF rfl (.refl _ _) ?_; refine call_of c_lposting ?_; rintro _ w35 ⟨rfl, x35⟩; refine strS x35 ?_; refine eqS true (by kernel_rfl) (fun _ => ?_) (fun h => by cases h); refine ldAX [.slice E2 3 f2] (.blk L24) rfl (.refl _ _) ?_; refine ldAX [.slice (some (ad bF oF)) 3 c] (.blk L2) rfl (.refl _ _) ?_; refine call_of (c_r56Same (sE2.ext x35) (sB.ext x35)) ?_; rintro _ w36 ⟨rfl, x36⟩; rw [decide_eq_true rfl]; refine strS (x35.trans x36) ?_; exact ret1 (.bool true) rfl ⟨rfl, (x0.trans x35).trans x36⟩
end
end Go.Proofs.YtehcphboliofaaaGreatDoor
namespace Go.Proofs.YtehcphboliofaaaGreatDoor
open Go Go.RowKit Classical
def LedR (D : Nat → Prop) (w : World) (cs : List Value) (l : List Post) : Prop := ∃ A n c, cs = [.slice A n c] ∧ SlR tPost D w A n l ∧ n ≤ c
end Go.Proofs.YtehcphboliofaaaGreatDoor
namespace Go.Proofs.YtehcphboliofaaaGreatDoor
open Go Go.RowKit
theorem crcS_1 {n : Nat} (h : n % 2 = 1) : crcS n = n >>> 1 ^^^ 3988292384 := by
  unfold crcS; rw [Nat.and_one_is_mod, h]
theorem crcS_0 {n : Nat} (h : n % 2 = 0) : crcS n = n >>> 1 := by
  unfold crcS; rw [Nat.and_one_is_mod, h]; simp
theorem crcF_snoc (n : Nat) (b : List Nat) (x : Nat) : crcF n (b ++ [x]) = crc8 8 (crcF n b ^^^ x) := by unfold crcF; rw [List.foldl_append]; rfl
@[irreducible] def crcT (b : List Nat) : Nat := crcF 4294967295 b
theorem crcT_nil : crcT [] = 4294967295 := by unfold crcT; rfl
theorem crcT_snoc (b : List Nat) (x : Nat) : crcT (b ++ [x]) = crc8 8 (crcT b ^^^ x) := by unfold crcT; exact crcF_snoc _ _ _
theorem crcT_lt {b : List Nat} (h : ∀ x ∈ b, x < 256) : crcT b < 4294967296 := by unfold crcT; exact crcF_lt b h (by omega)
theorem crcT_L (b : List Nat) : crcL b = crcT b ^^^ 4294967295 := by unfold crcT crcL; exact Nat.xor_comm _ _
theorem ar64 {n : Int} {K : Value → Prop} (h : 0 ≤ n ∧ n < 18446744073709551616) (k : K (.int .u64 n)) : ArP .u64 n K := by
  rw [ArP_eq, u64_wrap, Int.emod_eq_of_lt h.1 h.2]; exact k
theorem getB_snoc {b : List Nat} {x : Nat} (h : getB b < 72057594037927936) (hx : x < 256) : getB (b ++ [x]) = getB b * 256 + x := by
  have : getB (b ++ [x]) = ((getB b <<< 8) % 18446744073709551616) ||| x := by unfold getB; rw [List.foldl_append]; rfl
  rw [this, get_step h hx]
theorem getB_7 {b : List Nat} (h : ∀ x ∈ b, x < 256) (hl : b.length ≤ 7) : getB b < 72057594037927936 := by
  have := get_lt4 b 0 0 (by omega) (by omega) h; unfold getB; refine Nat.lt_of_lt_of_le this ?_; rw [Nat.zero_add]; exact Nat.le_trans (Nat.pow_le_pow_right (by omega) hl) (by decide)
section
variable {D : Nat → Prop} {w : World}
theorem c_r05checksum {A : Option Addr} {n c : Nat} {b : List Nat} (hs : SlR tU8 D w A n b) : CallZ Tryz.prog 178 #[.slice A n c] w (fun v w' => v = uv32 (crcL b) ∧ w' = w) := by
  have hlen := hs.len; have hle := hs.le; have hb := hs.u8b; refine fn_rule (args := [.slice A n c]) Tryz.func178 (by kernel_rfl) ?_; refine loop_rule (fun k : Nat => [(3, uv32 (crcT (b.take k))), (4, iv (k : Int))]) (fun k u => k ≤ n ∧ w = u) (fun k _ => n - k) 0 ⟨by rw [List.take_zero, crcT_nil]; rfl, rfl, trivial⟩ ⟨by omega, rfl⟩ rfl ?_; rintro G k u ⟨hk, rfl⟩; have hlt0 : crcT (b.take k) < 4294967296 := crcT_lt fun x hx => hb x (List.mem_of_mem_take hx); refine len ?_; refine cD (fun hlt => ?_) (fun hge => ?_)
  · obtain ⟨bx, o, cs, x, rfl, hx, -, -, hc, rfl, hx8⟩ := hs.at_ (k := k) (by omega); refine idx k rfl (by omega) ?_; refine ld (uv8 x) (hc 0 _ rfl) ?_; refine cv32 x rfl ?_; rw [Nat.mod_eq_of_lt (show x < 4294967296 by omega)]; refine xor32 hlt0 (by omega) ?_; obtain ⟨m, hm⟩ : ∃ m, m = crcT (b.take k) ^^^ x := ⟨_, rfl⟩
    have hml : m < 4294967296 := by rw [hm]; exact xor_lt hlt0 (by omega)
    rw [← hm]; refine loop_rule (fun j : Nat => [(3, uv32 (crc8 j m)), (5, iv (j : Int))]) (fun j u => j ≤ 8 ∧ w = u) (fun j _ => 8 - j) 0 ⟨rfl, rfl, trivial⟩ ⟨by omega, rfl⟩ rfl ?_; rintro G2 j u ⟨hj, rfl⟩; have hjl := crc8_lt hml j; refine cD (fun hlt2 => ?_) (fun hge2 => ?_)
    · refine remI (by omega) (by omega) ?_; refine cE (fun h1 => ?_) (fun h0 => ?_)
      · refine shr32 1 rfl (by omega) ?_; refine xor32 (b := 3988292384) (shr_lt hjl) (by omega) ?_; refine arI (n := (j : Int) + 1) (by omega) ?_; refine next (j + 1) ⟨?_, by rw [Int.natCast_add]; rfl, trivial⟩ ⟨by omega, rfl⟩ (by omega); show uv32 (crc8 j m >>> 1 ^^^ 3988292384) = uv32 (crcS (crc8 j m)); rw [crcS_1 (by omega)]
      · refine shr32 1 rfl (by omega) ?_; refine arI (n := (j : Int) + 1) (by omega) ?_; refine next (j + 1) ⟨?_, by rw [Int.natCast_add]; rfl, trivial⟩ ⟨by omega, rfl⟩ (by omega); show uv32 (crc8 j m >>> 1) = uv32 (crcS (crc8 j m)); rw [crcS_0 (by omega)]
    · obtain rfl : j = 8 := by omega
      refine arI (n := (k : Int) + 1) (by omega) ?_; refine next (k + 1) ⟨?_, by rw [Int.natCast_add]; rfl, trivial⟩ ⟨by omega, rfl⟩ (by omega); show uv32 (crc8 8 m) = uv32 (crcT (b.take (k + 1)))
      have e : crcT (b.take (k + 1)) = crc8 8 m := by
        rw [List.take_add_one, hx, hm]; exact crcT_snoc _ _
      rw [e]
  · have e : b.take k = b := List.take_of_length_le (by omega); refine xor32 (b := 4294967295) hlt0 (by omega) ?_; refine ret1 (uv32 (crcT (b.take k) ^^^ 4294967295)) rfl ⟨?_, rfl⟩; rw [e, crcT_L]
theorem c_r05number {A : Option Addr} {n c : Nat} {b : List Nat} (hs : SlR tU8 D w A n b) (hn : n ≤ 8) : CallZ Tryz.prog 167 #[.slice A n c] w (fun v w' => v = uv64 (getB b) ∧ w' = w) := by
  have hlen := hs.len; have hle := hs.le; have hb := hs.u8b; refine fn_rule (args := [.slice A n c]) Tryz.func167 (by kernel_rfl) ?_; refine loop_rule (fun k : Nat => [(3, uv64 (getB (b.take k))), (4, iv (k : Int))]) (fun k u => k ≤ n ∧ w = u) (fun k _ => n - k) 0 ⟨rfl, rfl, trivial⟩ ⟨by omega, rfl⟩ rfl ?_; rintro G k u ⟨hk, rfl⟩; refine len ?_; refine cD (fun hlt => ?_) (fun hge => ?_)
  · obtain ⟨bx, o, cs, x, rfl, hx, -, -, hc, rfl, hx8⟩ := hs.at_ (k := k) (by omega); have h7 := getB_7 (b := b.take k) (fun x hx => hb x (List.mem_of_mem_take hx)) (by rw [List.length_take]; omega); refine ar64 (n := 256 * (getB (b.take k) : Int)) (by omega) ?_; refine idx k rfl (by omega) ?_; refine ld (uv8 x) (hc 0 _ rfl) ?_; refine cv64 x rfl ?_; rw [Nat.mod_eq_of_lt (show x < 18446744073709551616 by omega)]; refine ar64 (n := 256 * (getB (b.take k) : Int) + (x : Int)) (by omega) ?_; refine arI (n := (k : Int) + 1) (by omega) ?_; refine next (k + 1) ⟨?_, by rw [Int.natCast_add]; rfl, trivial⟩ ⟨by omega, rfl⟩ (by omega)
    have e : getB (b.take (k + 1)) = getB (b.take k) * 256 + x := by
      rw [List.take_add_one, hx]; exact getB_snoc h7 hx8
    rw [e]; show Value.int .u64 (256 * (getB (b.take k) : Int) + (x : Int)) = Value.int .u64 (((getB (b.take k) * 256 + x : Nat)) : Int)
    congr 1
    omega
  · rw [List.take_of_length_le (by omega)]; exact ret1 (uv64 _) rfl ⟨rfl, rfl⟩
end
end Go.Proofs.YtehcphboliofaaaGreatDoor
