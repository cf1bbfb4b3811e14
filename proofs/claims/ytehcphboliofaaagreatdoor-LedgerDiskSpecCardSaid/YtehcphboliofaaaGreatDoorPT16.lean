/- Parts of the proof: Nw Nx Ny Nz Zg Zd. -/
import Derived.Test.YtehcphboliofaaaGreatDoorPT15
import Derived.Test.YtehcphboliofaaaGreatDoorPT11
import Derived.Test.YtehcphboliofaaaGreatDoorPT12
import Derived.Test.YtehcphboliofaaaGreatDoorPT13
import Derived.Test.YtehcphboliofaaaGreatDoorPT5
import Derived.Test.YtehcphboliofaaaGreatDoorCards
import Derived.Test.YtehcphboliofaaaGreatDoorTie
import Derived.Lib.LaidTab
import Derived.Stop.LaidErr
import Derived.Test.YtehcphboliofaaaGreatDoorPT9
namespace Go.Proofs.YtehcphboliofaaaGreatDoor
open Go Go.RowKit
theorem SlR.vx {g : Nat} {D : Nat → Prop} {w : World} {A : Option Addr} {n : Nat} {xs : List VX} (hs : SlR (tVX g) D w A n xs) (h0 : 0 < n) : ∃ bx o, A = some (ad bx o) ∧ ∀ (k : Nat) y, xs[k]? = some y → w.cell? (ad bx (o + k * 4 + 0)) = some (iv y.k) ∧ w.cell? (ad bx (o + k * 4 + 1)) = some (iv y.n) := by
  obtain ⟨bx, o, _, _, rfl, -⟩ := hs.at_ (k := 0) h0; refine ⟨bx, o, rfl, fun k y hy => ?_⟩
  have hk : k < n := by have := (List.getElem?_eq_some_iff.1 hy).1; have := hs.len; omega
  obtain ⟨b2, o2, cs, y2, hA, hy2, -, -, hc, hrep⟩ := hs.at_ (k := k) hk; injection hA with hA; injection hA with a1 a2; subst a1; subst a2; rw [hy] at hy2; injection hy2 with hy2; subst hy2; rw [tVX_sz] at hc; obtain ⟨s, A', n', c', rfl, -, -⟩ := tVX_cells hrep; exact ⟨hc 0 _ rfl, hc 1 _ rfl⟩
theorem rdT_vx {b : List Nat} {x : VX} {xs : List VX} (hb : Bys b) (h : prsV 16 b = some (x.vs, [])) (hk : x.k = 3) (hl : x.l = xs.map kn) :
    ((∀ y ∈ xs, y.k = 1) → xs.length = 6 → ∃ p, rdT b = some p ∧ xs.map VX.n = p.ns) ∧ ((xs.length ≠ 6 ∨ ∃ y ∈ xs, y.k ≠ 1) → rdT b = none) := by
  have hrd : ∀ p, rdT b = some p → x.vs = ⟨3, 0, p.ns.map (fun n => (1, n))⟩ := fun p hp => by
    obtain ⟨h1, h2⟩ := rdT_some.1 hp; have := ((prsV_iff hb).2 ⟨p.ns, h1, rfl, h2, by show 6 < _; omega⟩).1; rw [h] at this; simp only [Option.some.injEq, Prod.mk.injEq, and_true] at this; exact this
  refine ⟨fun ha h6 => ?_, fun hno => ?_⟩
  · have hall : AllI x.vs.l := fun z hz => by
      have hz : z ∈ xs.map kn := by rw [← hl]; exact hz
      obtain ⟨y, hy, rfl⟩ := List.mem_map.1 hz; exact ha y hy
    obtain ⟨ns, h1, h2, h3, h4⟩ := (prsV_iff hb).1 ⟨h, hk, hall⟩
    have h5 : xs.map kn = ns.map (fun n => (1, n)) := by
      rw [← hl]; exact congrArg VS.l h2
    have h6' : xs.map VX.n = ns := by
      have e1 : xs.map VX.n = (xs.map kn).map Prod.snd := by rw [List.map_map]; rfl
      rw [e1, h5, List.map_map]; exact List.map_id _
    have hln : ns.length = 6 := by rw [← h6', List.length_map, h6]
    match ns, hln with
    | [n0, n1, n2, n3, n4, n5], _ => exact ⟨⟨n0, n1, n2, n3, n4, n5⟩, rdT_some.2 ⟨h1, h3⟩, h6'⟩
  · cases he : rdT b with
    | none => rfl
    | some p =>
      exfalso; have h1 := hrd p he
      have h2 : xs.map kn = p.ns.map (fun n => (1, n)) := by
        rw [← hl]; exact congrArg VS.l h1
      rcases hno with hno | ⟨y, hy, hyk⟩
      · have := congrArg List.length h2; rw [List.length_map, List.length_map] at this; exact hno this
      · have : kn y ∈ p.ns.map (fun n => ((1 : Int), n)) := by rw [← h2]; exact List.mem_map.2 ⟨y, hy, rfl⟩
        obtain ⟨n, -, hn⟩ := List.mem_map.1 this; exact hyk (congrArg Prod.fst hn).symm
theorem rdT_leaf {b : List Nat} {x : VX} (hb : Bys b) (h : prsV 16 b = some (x.vs, [])) (hk : x.k ≠ 3) : rdT b = none := by
  cases he : rdT b with
  | none => rfl
  | some p =>
    exfalso; obtain ⟨h1, h2⟩ := rdT_some.1 he; have := ((prsV_iff hb).2 ⟨p.ns, h1, rfl, h2, by show 6 < _; omega⟩).1; rw [h] at this; simp only [Option.some.injEq, Prod.mk.injEq, and_true] at this; exact hk (congrArg VS.k this)
theorem rdT_bad {b : List Nat} (hb : Bys b) (h : ∀ x, prsV 16 b ≠ some (x, [])) : rdT b = none := by
  cases he : rdT b with
  | none => rfl
  | some p =>
    exfalso; obtain ⟨h1, h2⟩ := rdT_some.1 he; exact h _ ((prsV_iff hb).2 ⟨p.ns, h1, rfl, h2, by show 6 < _; omega⟩).1
abbrev zeroPC : List Value := [iv 0, iv 0, iv 0, iv 0, iv 0, iv 0]
def ReadA (w w' : World) (b : List Nat) (v : Value) : Prop := Ext w w' ∧ ((rdT b = none ∧ v = .tuple #[.agg zeroPC.toArray, .bool false]) ∨ ∃ p, rdT b = some p ∧ v = .tuple #[.agg p.c.toArray, .bool true])
section
variable {D : Nat → Prop} {w : World}
set_option maxRecDepth 8000 in
set_option maxHeartbeats 4000000 in
theorem c_r56read {A : Option Addr} {n c : Nat} {b : List Nat} (hs : SlR tU8 D w A n b) (hc : n ≤ c) (hbl : b.length ≤ 1000000000) : CallZ Tryz.prog 59 #[.slice A n c] w (fun v w' => ReadA w w' b v) := by
  have hb : Bys b := hs.u8b; refine fn_rule (args := [.slice A n c]) Tryz.func59 (by kernel_rfl) ?_; refine alloc (fun b2 w1 h1 => ?_); have R1 : Blk w1 b2 26 zeroPC := h1.blk; have e1 := h1.at_; refine call_of (c_r01Decode (hs.ext h1.ext) hc hbl) ?_; rintro _ w2 ⟨cs, e, rfl, hcel, x12, hdec⟩; have hcl := hcel.len; refine alloc (fun b4 w3 h3 => ?_); refine stA (vs := cs) h3.blk hcl (by rw [hcl]; exact Nat.le_refl _) hcel.one (fun w4 V4 k4 _ => ?_)
  have V4 : Blk w4 b4 113 cs := by
    have e : ∀ X : List Value, X.length = 4 → X.drop (0 + cs.length) = [] := fun X hX => List.drop_of_length_le (by rw [hcl]; omega); rw [List.take_zero, List.nil_append, e _ rfl, List.append_nil] at V4; exact V4
  have e4 := h3.at_
  have x24 : Ext w2 w4 := h3.ext.then k4 fun i hi _ e => by omega
  have x14 := x12.trans x24; have x04 := h1.ext.trans x14; have R4 := R1.ext x14; have s1 := h1.ext.size; rcases hdec with ⟨rfl, x, hx, hrep⟩ | ⟨rfl, hno⟩; rotate_left
  · have hnone := rdT_bad hb hno; refine cN (fun _ => ?_) (fun h => absurd h (by omega)); refine bld zeroPC (by kernel_rfl) ?_; refine stA (vs := zeroPC) R4 rfl (Nat.le_of_ble_eq_true rfl) (by simp [Value.oneCell']) (fun we Be ke _ => ?_); refine ret ?_; refine resL (.agg (zeroPC).toArray) (holds_agg (.blk Be) rfl) ?_; exact ⟨(x04).then ke fun i hi _ e => by omega, .inl ⟨hnone, rfl⟩⟩
  refine cN (fun h => absurd rfl h) (fun _ => ?_); have hrep4 := (tVX 16).ext hrep x24; rcases tVX_ex hrep4 with (⟨rfl, hk, -⟩ | ⟨s, -, rfl, hk, -⟩) | ⟨g, A5, n5, c5, xs, -, rfl, hk, h0, hsl, hc5, hn9, hl, -⟩
  · have hnone := rdT_leaf hb hx (by rw [hk]; omega); refine fldA ?_; refine ld (iv 1) (V4.cell rfl) ?_; refine cN (fun _ => ?_) (fun h => absurd h (by omega)); refine bld zeroPC (by kernel_rfl) ?_; refine stA (vs := zeroPC) R4 rfl (Nat.le_of_ble_eq_true rfl) (by simp [Value.oneCell']) (fun we Be ke _ => ?_); refine ret ?_; refine resL (.agg (zeroPC).toArray) (holds_agg (.blk Be) rfl) ?_; exact ⟨(x04).then ke fun i hi _ e => by omega, .inl ⟨hnone, rfl⟩⟩
  · have hnone := rdT_leaf hb hx (by rw [hk]; omega); refine fldA ?_; refine ld (iv 2) (V4.cell rfl) ?_; refine cN (fun _ => ?_) (fun h => absurd h (by omega)); refine bld zeroPC (by kernel_rfl) ?_; refine stA (vs := zeroPC) R4 rfl (Nat.le_of_ble_eq_true rfl) (by simp [Value.oneCell']) (fun we Be ke _ => ?_); refine ret ?_; refine resL (.agg (zeroPC).toArray) (holds_agg (.blk Be) rfl) ?_; exact ⟨(x04).then ke fun i hi _ e => by omega, .inl ⟨hnone, rfl⟩⟩
  obtain ⟨hyes, hno⟩ := rdT_vx hb hx hk hl; have hln := hsl.len; refine fldA ?_; refine ld (iv 3) (V4.cell rfl) ?_; refine cN (fun h => absurd rfl h) (fun _ => ?_); refine fldA ?_; refine ld (.slice A5 n5 c5) (V4.cell rfl) ?_; refine len ?_; refine cN (fun h6 => ?_) (fun h6 => ?_)
  · have hnone := hno (.inl (by omega)); refine bld zeroPC (by kernel_rfl) ?_; refine stA (vs := zeroPC) R4 rfl (Nat.le_of_ble_eq_true rfl) (by simp [Value.oneCell']) (fun we Be ke _ => ?_); refine ret ?_; refine resL (.agg (zeroPC).toArray) (holds_agg (.blk Be) rfl) ?_; exact ⟨(x04).then ke fun i hi _ e => by omega, .inl ⟨hnone, rfl⟩⟩
  have h6 : n5 = 6 := by omega
  subst h6; obtain ⟨bx, o, rfl, hcells⟩ := hsl.vx (by omega); refine loop_rule (fun k : Nat => [(6, iv (k : Int))]) (fun k u => k ≤ 6 ∧ u = w4 ∧ ∀ y ∈ xs.take k, y.k = 1) (fun k _ => 6 - k) 0 ⟨rfl, trivial⟩ ⟨by omega, rfl, fun y hy => by simp at hy⟩ rfl ?_; rintro G k u ⟨hk6, hu, hall⟩; subst hu; refine fldA ?_; refine ld (.slice (some (ad bx o)) 6 c5) (V4.cell rfl) ?_; refine len ?_; refine cD (fun hlt => ?_) (fun hge => ?_)
  · obtain ⟨y, hy⟩ : ∃ y, xs[k]? = some y := ⟨_, List.getElem?_eq_getElem (by omega)⟩; refine fldA ?_; refine ld (.slice (some (ad bx o)) 6 c5) (V4.cell rfl) ?_; refine idx k rfl (by omega) ?_; refine fldA ?_; refine ld (iv y.k) (hcells k y hy).1 ?_; refine cN (fun hyk => ?_) (fun hyk => ?_)
    · have hnone := hno (.inr ⟨y, List.mem_of_getElem? hy, hyk⟩); refine bld zeroPC (by kernel_rfl) ?_; refine stA (vs := zeroPC) R4 rfl (Nat.le_of_ble_eq_true rfl) (by simp [Value.oneCell']) (fun we Be ke _ => ?_); refine ret ?_; refine resL (.agg (zeroPC).toArray) (holds_agg (.blk Be) rfl) ?_; exact ⟨(x04).then ke fun i hi _ e => by omega, .inl ⟨hnone, rfl⟩⟩
    · refine arI (n := (k : Int) + 1) (by omega) ?_; refine next (k + 1) ⟨by rw [Int.natCast_add]; rfl, trivial⟩ ⟨by omega, rfl, fun z hz => ?_⟩ (by omega); rw [List.take_add_one, hy] at hz; rcases List.mem_append.1 hz with hz | hz
      · exact hall z hz
      · have : z = y := by simpa using hz
        subst this; exact hyk
  rw [List.take_of_length_le (by omega)] at hall; obtain ⟨p, hp, hns⟩ := hyes hall hln
  match xs, hln with
  | [y0, y1, y2, y3, y4, y5], _ =>
  have hns : [y0.n, y1.n, y2.n, y3.n, y4.n, y5.n] = [p.no, p.hour, p.sort, p.frm, p.to, p.n] := hns; simp only [List.cons.injEq, and_true] at hns; obtain ⟨q0, q1, q2, q3, q4, q5⟩ := hns; refine drawP (.take 0 (.take 1 (.take 2 (.take 3 (.take 4 (.take 5 (.take 6 (.take 7 (.take 8 (.take 9 (.take 10 (.take 11 (.take 12 (.take 13 (.take 14 (.take 15 (.take 16 (.take 17 (.take 18 (.take 19 (.take 20 (.take 21 (.take 22 (.take 23 (.take 24 (.take 25 (.take 26 (.take 27 (.take 28 (.take 29 (.take 30 (.bar (.eff 31 (.take 32 .done)))))))))))))))))))))))))))))))))) [31, 32] (fun y => y = u) mx (by kernel_rfl) rfl ?_; refine fldA ?_; refine ld (.slice (some (ad bx o)) 6 c5) (V4.cell rfl) ?_; refine idx 0 rfl (by omega) ?_; refine fldA ?_; refine ld (iv p.no) (by rw [← q0]; exact (hcells 0 y0 rfl).2) ?_; refine fldA ?_; refine ld (.slice (some (ad bx o)) 6 c5) (V4.cell rfl) ?_; refine idx 1 rfl (by omega) ?_; refine fldA ?_; refine ld (iv p.hour) (by rw [← q1]; exact (hcells 1 y1 rfl).2) ?_; refine fldA ?_; refine ld (.slice (some (ad bx o)) 6 c5) (V4.cell rfl) ?_; refine idx 2 rfl (by omega) ?_; refine fldA ?_; refine ld (iv p.sort) (by rw [← q2]; exact (hcells 2 y2 rfl).2) ?_; refine fldA ?_; refine ld (.slice (some (ad bx o)) 6 c5) (V4.cell rfl) ?_; refine idx 3 rfl (by omega) ?_; refine fldA ?_; refine ld (iv p.frm) (by rw [← q3]; exact (hcells 3 y3 rfl).2) ?_; refine fldA ?_; refine ld (.slice (some (ad bx o)) 6 c5) (V4.cell rfl) ?_; refine idx 4 rfl (by omega) ?_; refine fldA ?_; refine ld (iv p.to) (by rw [← q4]; exact (hcells 4 y4 rfl).2) ?_; refine fldA ?_; refine ld (.slice (some (ad bx o)) 6 c5) (V4.cell rfl) ?_; refine idx 5 rfl (by omega) ?_; refine fldA ?_; refine ld (iv p.n) (by rw [← q5]; exact (hcells 5 y5 rfl).2) ?_; refine bld p.c (by kernel_rfl) ?_; refine barS (fun _ => True) trivial ?_; refine stA (vs := p.c) R4 rfl (Nat.le_of_ble_eq_true rfl) (by simp [Value.oneCell', Post.c]) (fun we Be ke _ => ?_); have Be : Blk we b2 26 p.c := Be; refine strS trivial ?_; refine ret ?_; refine resL (.agg p.c.toArray) (holds_agg (.blk Be) rfl) ?_; exact ⟨x04.then ke fun i hi _ e => by omega, .inr ⟨p, hp, rfl⟩⟩
end
section
variable {D : Nat → Prop} {w : World}
set_option maxRecDepth 8000 in
set_option maxHeartbeats 4000000 in
theorem c_r56Load {d : Dsk} {cs : List Value} (hd : DskR D w cs d) : CallZ Tryz.prog 26 #[.agg cs.toArray] w (fun v w' => Ext w w' ∧ ∃ B m c', v = .tuple #[.agg #[.slice B m c'], iv (loadP d).2] ∧ SlR tPost (fun b => w.heap.size ≤ b) w' B m (loadP d).1 ∧ m ≤ c') := by
  obtain ⟨A, n, c, B, m, c2, rfl, hs, hc, hp, hc2, hId⟩ := hd.ex; refine fn_rule (args := [.agg #[.slice A n c, .slice B m c2, iv d.left, .bool d.stop]]) Tryz.func26 (by kernel_rfl) ?_; refine box (fun g1 w1 h1 => ?_); have G1 : Blk w1 g1 44 [.slice A n c, .slice B m c2, iv d.left, .bool d.stop] := h1.blk; refine alloc (fun b2 w2 h2 => ?_); have R2 : Blk w2 b2 24 [.slice none 0 0] := h2.blk; have e1 := h1.at_; have e2 := h2.at_; have x02 := h1.ext.trans h2.ext; have s1 := h1.ext.size; have lR := R2.lt; refine ldA [.slice A n c, .slice B m c2, iv d.left, .bool d.stop] (.blk (G1.ext h2.ext)) rfl ?_; refine call_of (c_r05Open (hd.ext x02)) ?_; rintro _ w3 ⟨csj, rfl, hj, x3⟩; obtain ⟨A3, n3, c3, rfl, hs3, hc3, -, -⟩ := hj.ex; have s3 := x3.size; refine alloc (fun b4 w4 h4 => ?_); refine stA (vs := [.slice A3 n3 c3, iv (openP d).1.many, iv (openP d).1.syn]) h4.blk rfl (Nat.le_of_ble_eq_true rfl) (by simp [Value.oneCell']) (fun w5 B5 k5 _ => ?_); have B5 : Blk w5 b4 108 [.slice A3 n3 c3, iv (openP d).1.many, iv (openP d).1.syn] := B5; have e4 := h4.at_
  have x35 : Ext w3 w5 := h4.ext.then k5 fun i hi _ e => by omega
  have x25 := x3.trans x35; have x05 := x02.trans x25; have R5 := R2.ext x25; have s25 := x25.size; have s35 := x35.size; have lB5 := B5.lt; refine cN (fun ho => ?_) (fun ho => ?_)
  · refine bld [.slice none 0 0] (by kernel_rfl) ?_; refine stA (vs := [.slice none 0 0]) R5 rfl (Nat.le_of_ble_eq_true rfl) (by simp [Value.oneCell']) (fun we Be ke _ => ?_); have Be : Blk we b2 24 [.slice none 0 0] := Be; refine ret ?_; refine resL _ (holds_agg (.blk Be) rfl) ?_
    have hres : loadP d = ([], (openP d).2) := by unfold loadP; rw [if_pos ho]
    exact ⟨x05.then ke fun i hi _ e => by omega, none, 0, 0, by rw [hres]; rfl, by rw [hres]; exact .nil, Nat.le_refl _⟩
  obtain ⟨hok, -, -, hop⟩ := openP_ok ho; have hn3 := hs3.len; have hs5 := hs3.ext x35; obtain ⟨recs, hrecs⟩ : ∃ recs, recs = (openP d).1.recs := ⟨_, rfl⟩; rw [← hrecs] at hs5 hn3
  have hrd : recs = recsD d.secs := by rw [hrecs, hop]
  have hsm : ∀ b ∈ recs, b.length ≤ 1000000 := fun b hb => by rw [hrd] at hb; have := recsD_small b hb; have := hok.2.1; omega
  have hn34 : n3 ≤ 4096 := by
    have := recG_len d.secs 0 none 0
    have h2 : (recsD d.secs).length = n3 := by rw [← hrd]; exact hn3
    unfold recsD at h2; rw [List.length_map] at h2; have := hok.2.1; omega
  refine loop4 (fun (i : Nat) (B : Option Addr) (m e : Nat) => [(7, iv (i : Int)), (6, .slice B m e)]) (fun i B m e u => i ≤ n3 ∧ m = i ∧ ∃ l, l.length = i ∧ LOk l ∧ OwnF w5 u B m e 26 6 (l.flatMap Post.c) ∧ rdL recs = l ++ rdL (recs.drop i)) (fun i _ _ _ _ => n3 - i) 0 none 0 0 ⟨rfl, rfl, trivial⟩ ⟨by omega, rfl, [], rfl, LOk.nil, OwnF.nil (.refl _ _), rfl⟩ rfl ?_; rintro G i B m e u ⟨hi, hm, l, hl, hLok, own, hrl⟩; have hm : m = i := hm; subst hm; have own : OwnF w5 u B m e 26 6 (l.flatMap Post.c) := own; have xu := own.ext; have Bu := B5.ext xu; have Ru := R5.ext xu; have su := xu.size; refine fldA ?_; refine ld (.slice A3 n3 c3) (Bu.cell rfl) ?_; refine len ?_; refine cD (fun hlt => ?_) (fun hge => ?_); rotate_left
  · have hmn : m = n3 := by omega
    have h0 : recs.drop m = [] := List.drop_of_length_le (by omega); rw [h0] at hrl
    have hrl : rdL recs = l := by rw [hrl]; show l ++ [] = l; rw [List.append_nil]
    have hv : vN l = l.length := vN_uniq (Nat.le_refl _) (by rw [List.take_length]; exact hLok) fun p hp => by simp at hp
    refine bld [.slice B m e] (by kernel_rfl) ?_; refine stA (vs := [.slice B m e]) Ru rfl (Nat.le_of_ble_eq_true rfl) (by simp [Value.oneCell']) (fun we Be ke _ => ?_); have Be : Blk we b2 24 [.slice B m e] := Be; refine ret ?_; refine resL (.agg #[.slice B m e]) (holds_agg (.blk Be) rfl) ?_; have sp := (own_posts (D := fun b => w5.heap.size ≤ b) own (by omega) fun _ h => h).more (D' := fun b => w5.heap.size ≤ b ∧ b < u.heap.size) (by decide) fun b hb h => ⟨h, hb⟩
    have sp := sp.kept (D' := fun b => b ≠ b2) ke fun b _ h => by omega
    have hres : loadP d = (l, 0) := by unfold loadP; rw [if_neg (fun q => q ho), ← hrecs, (show (rdL recs).take (vN (rdL recs)) = l by rw [hrl, hv, List.take_length])]
    exact ⟨(x05.then (own.ext.any (D := fun b => b ≠ b2)) fun b hb _ => by omega).then ke fun b hb _ => by omega, B, m, e, by rw [hres]; rfl, by rw [hres]; exact sp.more (by decide) fun b _ h => by omega, own.le⟩
  refine cD (fun _ => ?_) (fun h => absurd h (by omega)); obtain ⟨bx, o, csx, x, rfl, hx, hdx, -, hcx, A6, n6, c6, rfl, hs6, hc6⟩ := (hs5.ext xu).at_ (k := m) (by omega); have hxs := hsm x (List.mem_of_getElem? hx); rw [hdx] at hrl; refine fldA ?_; refine ld (.slice (some (ad bx o)) n3 c3) (Bu.cell rfl) ?_; refine idx m rfl (by omega) ?_; refine ld (.slice A6 n6 c6) (hcx 0 _ rfl) ?_; refine call_of (c_r56read hs6 hc6 (by omega)) ?_; rintro _ u1 ⟨x1, ⟨hnone, rfl⟩ | ⟨p, hp, rfl⟩⟩
  · rw [rdL_none hnone, List.append_nil] at hrl; refine alloc (fun b8 u2 h8 => ?_); refine stA (vs := zeroPC) h8.blk rfl (Nat.le_of_ble_eq_true rfl) (by simp [Value.oneCell']) (fun u3 B8 k8 _ => ?_); have e8 := h8.at_
    have x13 : Ext u u3 := (x1.trans h8.ext).then k8 fun i hi _ e => by have := x1.size; omega
    have hv : vN l = l.length := vN_uniq (Nat.le_refl _) (by rw [List.take_length]; exact hLok) fun p hp => by simp at hp
    have own := own.then x13; have sv := x13.size; have Ru := Ru.ext x13; refine bld [.slice B m e] (by kernel_rfl) ?_; refine stA (vs := [.slice B m e]) Ru rfl (Nat.le_of_ble_eq_true rfl) (by simp [Value.oneCell']) (fun we Be ke _ => ?_); have Be : Blk we b2 24 [.slice B m e] := Be; refine ret ?_; refine resL (.agg #[.slice B m e]) (holds_agg (.blk Be) rfl) ?_; have sp := (own_posts (D := fun b => w5.heap.size ≤ b) own (by omega) fun _ h => h).more (D' := fun b => w5.heap.size ≤ b ∧ b < u3.heap.size) (by decide) fun b hb h => ⟨h, hb⟩
    have sp := sp.kept (D' := fun b => b ≠ b2) ke fun b _ h => by omega
    have hres : loadP d = (l, 0) := by unfold loadP; rw [if_neg (fun q => q ho), ← hrecs, (show (rdL recs).take (vN (rdL recs)) = l by rw [hrl, hv, List.take_length])]
    exact ⟨(x05.then (own.ext.any (D := fun b => b ≠ b2)) fun b hb _ => by omega).then ke fun b hb _ => by omega, B, m, e, by rw [hres]; rfl, by rw [hres]; exact sp.more (by decide) fun b _ h => by omega, own.le⟩
  rw [rdL_some hp] at hrl; refine alloc (fun b8 u2 h8 => ?_); refine stA (vs := p.c) h8.blk rfl (Nat.le_of_ble_eq_true rfl) (by simp [Value.oneCell', Post.c]) (fun u3 B8 k8 _ => ?_); have B8 : Blk u3 b8 26 p.c := B8; have e8 := h8.at_
  have x13 : Ext u u3 := (x1.trans h8.ext).then k8 fun i hi _ e => by have := x1.size; omega
  have own3 := own.then x13; have sl : SlR tPost (fun _ => True) u3 B m l := own_posts own3 (by omega) fun _ _ => trivial; refine ldA p.c (.blk B8) rfl ?_; refine callE (c_r56valid sl hLok (by omega)) (fun u4 hq x34 => ?_) (fun u4 hq x34 => ?_)
  · have hok2 : OkP l p := by simpa using hq
    refine ldA p.c (.blk (B8.ext x34)) rfl ?_; refine lit [.agg p.c.toArray] (fun q u5 h9 => ?_); refine appF ((own3.then x34).then h9.ext) (srcP6 h9.blk) (by omega) (fun A' e' u6 o6 _ _ => ?_); refine arI (n := (m : Int) + 1) (by omega) ?_; refine next4 (m + 1) A' (m + 1) e' ⟨by rw [Int.natCast_add]; rfl, rfl, trivial⟩ ⟨by omega, rfl, l ++ [p], by rw [List.length_append, hl]; rfl, LOk_snoc.2 ⟨hLok, hok2⟩, ?_, ?_⟩ (by omega)
    · rw [List.flatMap_append]
      have e : [p].flatMap Post.c = p.c := by simp
      rw [e]; exact o6
    · rw [hrl, List.append_assoc]
      rfl
  · have hno : ¬ OkP l p := by simpa using hq
    have hv : vN (rdL recs) = m := vN_uniq (by rw [hrl, List.length_append]; omega) (by rw [hrl, List.take_left' hl]; exact hLok) fun p' hp' => by
      rw [hrl, List.getElem?_append_right (by omega), hl, Nat.sub_self] at hp'
      have : p = p' := by simpa using hp'
      rw [← this, hrl, List.take_left' hl]; exact hno
    have own := own3.then x34; have x14 := x13.trans x34; have sv := x14.size; have Ru := Ru.ext x14; refine bld [.slice B m e] (by kernel_rfl) ?_; refine stA (vs := [.slice B m e]) Ru rfl (Nat.le_of_ble_eq_true rfl) (by simp [Value.oneCell']) (fun we Be ke _ => ?_); have Be : Blk we b2 24 [.slice B m e] := Be; refine ret ?_; refine resL (.agg #[.slice B m e]) (holds_agg (.blk Be) rfl) ?_; have sp := (own_posts (D := fun b => w5.heap.size ≤ b) own (by omega) fun _ h => h).more (D' := fun b => w5.heap.size ≤ b ∧ b < u4.heap.size) (by decide) fun b hb h => ⟨h, hb⟩
    have sp := sp.kept (D' := fun b => b ≠ b2) ke fun b _ h => by omega
    have hres : loadP d = (l, 0) := by unfold loadP; rw [if_neg (fun q => q ho), ← hrecs, (show (rdL recs).take (vN (rdL recs)) = l by rw [hv, hrl]; exact List.take_left' hl)]
    exact ⟨(x05.then (own.ext.any (D := fun b => b ≠ b2)) fun b hb _ => by omega).then ke fun b hb _ => by omega, B, m, e, by rw [hres]; rfl, by rw [hres]; exact sp.more (by decide) fun b _ h => by omega, own.le⟩
end
section
variable {D : Nat → Prop} {w : World}
set_option maxRecDepth 8000 in
set_option maxHeartbeats 4000000 in
theorem c_r56Store {D2 : Nat → Prop} {d : Dsk} {csd : List Value} {A : Option Addr} {n c : Nat} {l : List Post} (hd : DskR D w csd d) (hl : SlR tPost D2 w A n l) (hnc : n ≤ c) :
    CallZ Tryz.prog 28 #[.agg csd.toArray, .agg #[.slice A n c]] w (fun v w' => RetE D w w' v (storeP d l)) := by
  obtain ⟨A1, n1, c1, B1, m1, d1, rfl, hs, hc, hp, hc2, hId⟩ := hd.ex; have hd0 := hd.more (D' := fun b => D b ∧ b < w.heap.size) fun b hb h => ⟨h, hb⟩; have hln := hl.len; refine fn_rule (args := [.agg #[.slice A1 n1 c1, .slice B1 m1 d1, iv d.left, .bool d.stop], .agg #[.slice A n c]]) Tryz.func28 (by kernel_rfl) ?_; refine box (fun b2 w1 h1 => ?_); have G1 : Blk w1 b2 44 [.slice A1 n1 c1, .slice B1 m1 d1, iv d.left, .bool d.stop] := h1.blk; refine box (fun b3 w2 h2 => ?_); have L2 : Blk w2 b3 24 [.slice A n c] := h2.blk; refine alloc (fun b4 w3 h3 => ?_); have R3 : Blk w3 b4 44 zeroDC := h3.blk; have e1 := h1.at_; have e2 := h2.at_; have e3 := h3.at_; have x13 := h2.ext.trans h3.ext; have x03 := h1.ext.trans x13; have s1 := h1.ext.size; have s2 := h2.ext.size; have lR := R3.lt; refine ldA [.slice A n c] (.blk (L2.ext h3.ext)) rfl ?_; refine call_of (c_r56Check (hl.ext x03) hnc) ?_; rintro _ w4 ⟨rfl, x4⟩; have x04 := x03.trans x4; have R4 := R3.ext x4; have G4 := (G1.ext x13).ext x4; have L4 := (L2.ext h3.ext).ext x4; refine cN (fun he => ?_) (fun he => ?_)
  · refine bld zeroDC (by kernel_rfl) ?_; refine stA (vs := zeroDC) R4 rfl (Nat.le_of_ble_eq_true rfl) (by simp [Value.oneCell']) (fun we Be ke _ => ?_); refine ret ?_; refine resL (.agg (zeroDC).toArray) (holds_agg (.blk Be) rfl) ?_; exact ⟨zeroDC, by unfold storeP; rw [if_pos he]; rfl, by unfold storeP; rw [if_pos he]; exact zeroD_r, x04.then ke fun i hi _ e => by omega⟩
  obtain ⟨h4096, hLok⟩ := ldgErr_0.1 he; refine ldA [.slice A1 n1 c1, .slice B1 m1 d1, iv d.left, .bool d.stop] (.blk G4) rfl ?_; refine call_of (c_r05Open (hd.ext x04)) ?_; rintro _ w5 ⟨csj, rfl, hj, x5⟩; obtain ⟨A3, n3, c3, rfl, hs3, hc3, -, -⟩ := hj.ex; refine alloc (fun b6 w6 h6 => ?_); refine stA (vs := [.slice A3 n3 c3, iv (openP d).1.many, iv (openP d).1.syn]) h6.blk rfl (Nat.le_of_ble_eq_true rfl) (by simp [Value.oneCell']) (fun w7 B7 k7 _ => ?_); have B7 : Blk w7 b6 108 [.slice A3 n3 c3, iv (openP d).1.many, iv (openP d).1.syn] := B7; have e6 := h6.at_
  have x57 : Ext w5 w7 := h6.ext.then k7 fun i hi _ e => by omega
  have x47 := x5.trans x57; have x07 := x04.trans x47; have R7 := R4.ext x47; have G7 := G4.ext x47; have L7 := L4.ext x47; have s04 := x04.size; have s45 := x5.size; have s4 := x4.size; have s57 := x57.size; have lb7 := B7.lt; refine cN (fun ho => ?_) (fun ho => ?_)
  · refine bld zeroDC (by kernel_rfl) ?_; refine stA (vs := zeroDC) R7 rfl (Nat.le_of_ble_eq_true rfl) (by simp [Value.oneCell']) (fun we Be ke _ => ?_); refine ret ?_; refine resL (.agg (zeroDC).toArray) (holds_agg (.blk Be) rfl) ?_; exact ⟨zeroDC, by unfold storeP; rw [if_neg (fun q => q he), if_pos ho]; rfl, by unfold storeP; rw [if_neg (fun q => q he), if_pos ho]; exact zeroD_r, x07.then ke fun i hi _ e => by omega⟩
  obtain ⟨hok, hst, hpe, hop⟩ := openP_ok ho; have ho : (openP d).2 = 0 := ho; have k1 := hok.1; have k2 := hok.2.1; rw [hop] at hj hs3 B7; have hn3 := hs3.len; have hn3 : (recsD d.secs).length = n3 := hn3
  have hle3 : n3 ≤ d.secs.length := by have := recG_len d.secs 0 none 0; unfold recsD at hn3; rw [List.length_map] at hn3; omega
  have B7 : Blk w7 b6 108 [.slice A3 n3 c3, iv (d.secs.length : Int), iv (n3 : Int)] := by rw [← hn3]; rw [← hn3] at B7; exact B7
  refine fldA ?_; refine ld (.slice A n c) (L7.cell rfl) ?_; refine call_of (c_r56Texts (hl.ext x07) hLok.pos (by omega)) ?_; rintro _ w8 ⟨T, cT, rfl, hcT, x8, ht⟩; have B8 := B7.ext x8; have R8 := R7.ext x8; have G8 := G7.ext x8; have x08 := x07.trans x8; have s8 := x8.size; have hs8 : SlR (tSl tU8) (fun _ => True) w8 A3 n3 (recsD d.secs) := (hs3.ext x57).ext x8; have htn : (l.map txt).length = n := ht.len; obtain ⟨t, het⟩ : ∃ t, t = l.map txt := ⟨_, rfl⟩
  have hok68 : TxOk t := by rw [het]; exact txts_ok hLok.pos
  have hsml : ∀ b ∈ t, b.length < 112 := fun b hb => by
    rw [het] at hb; obtain ⟨q, -, rfl⟩ := List.mem_map.1 hb; have := txt_len q; omega
  have hstore : storeP d l = if ¬ recsD d.secs = t.take (recsD d.secs).length then (zeroD, 560) else if d.secs.length < l.length then (zeroD, 2) else syncJ d (recsD d.secs) (t.drop (recsD d.secs).length) := by
    unfold storeP; rw [if_neg (fun q => q he), if_neg (fun q => q ho), ← het]
  rw [← het] at ht htn; rw [hn3] at hstore; refine drawP (.take 0 (.take 1 (.take 2 (.take 3 (.take 4 (.take 5 (.take 6 (.take 7 (.take 8 (.take 9 (.take 10 (.take 11 (.take 12 (.take 13 (.take 14 (.take 15 (.take 16 .done))))))))))))))))) [] (fun y => y = w8) mx (by kernel_rfl) rfl ?_; refine fldA ?_; refine ld (.slice A3 n3 c3) (B8.cell rfl) ?_; refine len ?_; refine len ?_; refine cD (fun hgt => ?_) (fun hgt => ?_)
  · refine bld zeroDC (by kernel_rfl) ?_; refine stA (vs := zeroDC) R8 rfl (Nat.le_of_ble_eq_true rfl) (by simp [Value.oneCell']) (fun we Be ke _ => ?_); refine ret ?_; refine resL (.agg (zeroDC).toArray) (holds_agg (.blk Be) rfl) ?_
    have hres : storeP d l = (zeroD, 560) := by
      rw [hstore, if_pos]; intro q; have := congrArg List.length q; rw [List.length_take] at this; omega
    exact ⟨zeroDC, by rw [hres]; rfl, by rw [hres]; exact zeroD_r, x08.then ke fun i hi _ e => by omega⟩
  refine fldA ?_; refine ld (.slice A3 n3 c3) (B8.cell rfl) ?_; refine fldA ?_; refine ld (.slice A3 n3 c3) (B8.cell rfl) ?_; refine len ?_; refine slcR 0 n3 ht hcT rfl rfl (by omega) (by omega) rfl (fun A10 hA10 => ?_); have s10 := hA10 _ w8 ht; rw [List.drop_zero] at s10; refine callQB (b := decide (recsD d.secs = t.take n3)) (fun y hy => by subst hy; exact c_r05Same hs8 s10) (fun hq => ?_) (fun hq => ?_); rotate_left
  · refine bld zeroDC (by kernel_rfl) ?_; refine stA (vs := zeroDC) R8 rfl (Nat.le_of_ble_eq_true rfl) (by simp [Value.oneCell']) (fun we Be ke _ => ?_); refine ret ?_; refine resL (.agg (zeroDC).toArray) (holds_agg (.blk Be) rfl) ?_
    have hres : storeP d l = (zeroD, 560) := by rw [hstore, if_pos (of_decide_eq_false hq)]
    exact ⟨zeroDC, by rw [hres]; rfl, by rw [hres]; exact zeroD_r, x08.then ke fun i hi _ e => by omega⟩
  have hR : recsD d.secs = t.take n3 := of_decide_eq_true hq; rw [if_neg (fun q => q hR)] at hstore; refine fldA ?_; refine ld (.slice A3 n3 c3) (B8.cell rfl) ?_; refine len ?_
  have hj8 : JrnR (fun i => i ≠ b6) w8 [.slice A3 n3 c3, iv (d.secs.length : Int), iv (n3 : Int)] ⟨t.take (n3 + 0), d.secs.length, n3⟩ := by
    have h := ((hj.more (D' := fun i => i < w5.heap.size) fun b hb _ => hb).ext x57).ext x8; rw [Nat.add_zero, ← hR]; rw [← hn3] at h ⊢
    exact h.more fun b _ hb => by omega
  refine loop_rule (fun k : Nat => [(10, iv ((n3 + k : Nat) : Int))]) (fun k u => n3 + k ≤ n ∧ n3 + k ≤ d.secs.length ∧ Kept (fun i => i ≠ b6) w8 u ∧ ∃ csj, Blk u b6 108 csj ∧ JrnR (fun i => i ≠ b6) u csj ⟨t.take (n3 + k), d.secs.length, n3⟩) (fun k _ => n - k) 0 ⟨rfl, trivial⟩ ⟨by omega, by omega, .refl _ _, _, B8, hj8⟩ rfl ?_; rintro G k u ⟨hk, hks, ku, csj, Bu, ju⟩; have su := ku.size
  have x0u : Ext w u := x08.then ku fun i hi _ => by omega
  obtain ⟨A4, n4, c4, rfl, -⟩ := ju.ex; have htk : TxOk (t.take (n3 + k)) := hok68.take _
  have hlk : (t.take (n3 + k)).length = n3 + k := by rw [List.length_take]; omega
  have husk : usedN (t.take (n3 + k)) = n3 + k := by rw [used_1 htk, hlk]
  have hsmk : SmallJ (t.take (n3 + k)) := ⟨by omega, fun b hb => by have := (htk b hb).1; omega⟩; have Ru := R8.kept ku (show b4 ≠ b6 by omega)
  have hjE : jE ⟨t.take (n3 + k), d.secs.length, n3⟩ = 0 := by
    unfold jE; rw [if_neg]; simp only [hlk, husk]; omega
  refine len ?_; refine cD (fun hlt => ?_) (fun hge => ?_)
  · have htu : SlR (tSl tU8) (fun i => i ≠ b6) u T n t := (ht.more (D' := fun i => i ≠ b6) (by decide) fun b _ hb => by omega).kept ku fun b _ hb => hb; obtain ⟨bx, o, csx, x, hTx, hxt, -, -, hcx, A2, n2, c2', rfl, hs2, hc2'⟩ := htu.at_ (k := n3 + k) (by omega); subst hTx; have hx112 := (hok68 x (List.mem_of_getElem? hxt)).1; have hn2 := hs2.len
    have hsec : secN x = 1 := by unfold secN; omega
    refine drawP (.take 0 (.take 1 (.take 2 (.take 3 (.take 4 (.eff 5 (.take 6 (.take 7 (.take 8 (.bar (.eff 9 (.take 10 .done)))))))))))) [9, 10] (fun y => Ext u y) mx (by kernel_rfl) (.refl _ _) ?_; refine ldAX [.slice A4 n4 c4, iv (d.secs.length : Int), iv (n3 : Int)] (.blk Bu) rfl (.refl _ _) ?_; refine idx (n3 + k) rfl (by omega) ?_; refine ldX (.slice A2 n2 c2') (hcx 0 _ rfl) (.refl _ _) ?_; refine call_of (c_r05Append ju hsmk hs2 (by omega) hc2') ?_; rintro _ u1 ⟨cs1, rfl, j1, xu1⟩; refine strS xu1 ?_; refine barS (fun _ => True) trivial ?_; have Bu1 := Bu.ext xu1; have Ru1 := Ru.ext xu1; have lb6 := Bu.lt; obtain ⟨A5, n5, c5, rfl, -⟩ := j1.ex
    by_cases hfull : d.secs.length < n3 + k + 1
    · have hap : appendP ⟨t.take (n3 + k), d.secs.length, n3⟩ x = (zeroJ, 2) := by
        unfold appendP; rw [if_neg (fun q => q hjE), if_pos (by show (secN x : Int) > (d.secs.length : Int) - usedN (t.take (n3 + k)); rw [hsec, husk]; omega)]
      rw [hap]; refine stA (vs := [.slice A5 n5 c5, iv 0, iv 0]) Bu1 rfl (Nat.le_of_ble_eq_true rfl) (by simp [Value.oneCell']) (fun u2 B2 k2 _ => ?_); refine strS trivial ?_; have Ru2 := Ru1.kept k2 (show b4 ≠ b6 by omega); refine cN (fun _ => ?_) (fun h => absurd h (by decide)); refine bld zeroDC (by kernel_rfl) ?_; refine stA (vs := zeroDC) Ru2 rfl (Nat.le_of_ble_eq_true rfl) (by simp [Value.oneCell']) (fun we Be ke _ => ?_); refine ret ?_; refine resL (.agg (zeroDC).toArray) (holds_agg (.blk Be) rfl) ?_
      have hres : storeP d l = (zeroD, 2) := by rw [hstore, if_pos (by omega)]
      exact ⟨zeroDC, by rw [hres]; rfl, by rw [hres]; exact zeroD_r, ((x0u.trans xu1).then k2 fun i hi _ e => by omega).then ke fun i hi _ e => by omega⟩
    · have hap : appendP ⟨t.take (n3 + k), d.secs.length, n3⟩ x = (⟨t.take (n3 + (k + 1)), d.secs.length, n3⟩, 0) := by
        unfold appendP; rw [if_neg (fun q => q hjE), if_neg (by show ¬ (secN x : Int) > (d.secs.length : Int) - usedN (t.take (n3 + k)); rw [hsec, husk]; omega)]; show (Jrn.mk (t.take (n3 + k) ++ [x]) _ _, (0 : Int)) = _; rw [← Nat.add_assoc, List.take_add_one (i := n3 + k), hxt]
        rfl
      rw [hap] at j1 ⊢; refine stA (vs := [.slice A5 n5 c5, iv (d.secs.length : Int), iv (n3 : Int)]) Bu1 rfl (Nat.le_of_ble_eq_true rfl) (by simp [Value.oneCell']) (fun u2 B2 k2 _ => ?_); have B2 : Blk u2 b6 108 [.slice A5 n5 c5, iv (d.secs.length : Int), iv (n3 : Int)] := B2; refine strS trivial ?_; refine cN (fun h => absurd rfl h) (fun _ => ?_); refine arI (n := ((n3 + k : Nat) : Int) + 1) (by omega) ?_; refine next (k + 1) ⟨by show iv (((n3 + k : Nat) : Int) + 1) = iv ((n3 + (k + 1) : Nat) : Int); rw [show n3 + (k + 1) = n3 + k + 1 by omega, Int.natCast_add (n3 + k) 1]; rfl, trivial⟩ ⟨by omega, by omega, (ku.trans (Ext.any xu1)).trans k2, _, B2, (j1.more fun b _ h => ?_).kept k2 fun b _ h => h⟩ (by omega); rcases h with h | h
      · exact h
      · omega
  · have hkn : n3 + k = n := by omega
    have htt : t.take (n3 + k) = t := List.take_of_length_le (by omega); rw [htt] at ju hsmk husk; have Gu := G8.kept ku (show b2 ≠ b6 by omega); refine ldA [.slice A4 n4 c4, iv (d.secs.length : Int), iv (n3 : Int)] (.blk Bu) rfl ?_; refine ldA [.slice A1 n1 c1, .slice B1 m1 d1, iv d.left, .bool d.stop] (.blk Gu) rfl ?_
    have happ : recsD d.secs ++ t.drop n3 = t := by rw [hR, List.take_append_drop]
    refine call_of (c_r05Sync (R := recsD d.secs) (T := t.drop n3) (hd0.ext x0u) (csj := [.slice A4 n4 c4, iv (d.secs.length : Int), iv (n3 : Int)]) (by rw [happ, hn3]; exact ju.more fun _ _ _ => trivial) hok hst hpe rfl (by rw [happ]; exact hsmk) (by rw [happ, husk]; exact hks) (fun b hb => hsml b (List.mem_of_mem_drop hb))) ?_; rintro _ u1 ⟨cj, cs1, rfl, ⟨hcj3, hcj1⟩, d1', xu1⟩
    have hres : storeP d l = syncJ d (recsD d.secs) (t.drop n3) := by rw [hstore, if_neg (by omega)]
    rw [← hres] at d1' ⊢; obtain ⟨dr, hdr⟩ : ∃ dr, dr = (storeP d l).1 := ⟨_, rfl⟩; obtain ⟨er, her⟩ : ∃ er, er = (storeP d l).2 := ⟨_, rfl⟩; rw [← hdr] at d1'; rw [← her]; obtain ⟨A7, n7, c7, B7', m7, c8, rfl, -⟩ := d1'.ex; have lR4 := Ru.lt; refine alloc (fun b11 v1 q1 => ?_); refine alloc (fun b12 v2 q2 => ?_); have E11 : Blk v2 b11 108 zeroJC := Blk.ext (q1.blk : Blk v1 b11 108 zeroJC) q2.ext; have E12 : Blk v2 b12 44 zeroDC := q2.blk; have e11 := q1.at_; have e12 := q2.at_; have sv1 := q1.ext.size; have sxu1 := xu1.size; have lE11 := q1.blk.lt; refine stA (vs := cj) E11 hcj3 (by rw [hcj3]; exact Nat.le_refl _) hcj1 (fun v3 _ k3' _ => ?_); have E12 := E12.kept k3' (show b12 ≠ b11 by omega); refine stA (vs := [.slice A7 n7 c7, .slice B7' m7 c8, iv dr.left, .bool dr.stop]) E12 rfl (Nat.le_of_ble_eq_true rfl) (by simp [Value.oneCell']) (fun v4 F12 k4' _ => ?_); have F12 : Blk v4 b12 44 [.slice A7 n7 c7, .slice B7' m7 c8, iv dr.left, .bool dr.stop] := F12
    have x14 : Ext u1 v4 := ((q1.ext.trans q2.ext).then k3' fun i hi _ e => by omega).then k4' fun i hi _ e => by omega
    have Rv := (Ru.ext xu1).ext x14; refine ldA [.slice A7 n7 c7, .slice B7' m7 c8, iv dr.left, .bool dr.stop] (.blk F12) rfl ?_; refine stA (vs := [.slice A7 n7 c7, .slice B7' m7 c8, iv dr.left, .bool dr.stop]) Rv rfl (Nat.le_of_ble_eq_true rfl) (by simp [Value.oneCell']) (fun u3 R3' k23 _ => ?_); have R3' : Blk u3 b4 44 [.slice A7 n7 c7, .slice B7' m7 c8, iv dr.left, .bool dr.stop] := R3'; have xu1 := xu1.trans x14; have d1' := d1'.ext x14; refine ret ?_; refine resL (.agg #[.slice A7 n7 c7, .slice B7' m7 c8, iv dr.left, .bool dr.stop]) (holds_agg (.blk R3') rfl) ?_; refine ⟨[.slice A7 n7 c7, .slice B7' m7 c8, iv dr.left, .bool dr.stop], by rw [← her]; rfl, ?_, (x0u.trans xu1).then k23 fun i hi _ e => by omega⟩; rw [← hdr]
    have hkeep : ∀ b, (D b ∧ b < w.heap.size) ∨ u.heap.size ≤ b → b ≠ b4 := fun b h => by
      rcases h with ⟨-, h⟩ | h <;> omega
    exact (d1'.kept k23 fun b _ h => hkeep b h).more fun b _ h => h.elim (fun h => .inl h.1) fun h => .inr (by have := x0u.size; omega)
end
instance eqTyDg : EqTy Tryz.prog 47 := ⟨by kernel_rfl⟩
theorem dig_eq {R : List Nat} (h : R.length = 32) : eqV Tryz.prog 8 47 (.agg (u8s R).toArray) (.agg (u8s R).toArray) = some true := by
  match R, h with
  | [r0, r1, r2, r3, r4, r5, r6, r7, r8, r9, r10, r11, r12, r13, r14, r15, r16, r17, r18, r19, r20, r21, r22, r23, r24, r25, r26, r27, r28, r29, r30, r31], _ =>
    have e : eqV Tryz.prog 8 47 (.agg (u8s [r0, r1, r2, r3, r4, r5, r6, r7, r8, r9, r10, r11, r12, r13, r14, r15, r16, r17, r18, r19, r20, r21, r22, r23, r24, r25, r26, r27, r28, r29, r30, r31]).toArray) (.agg (u8s [r0, r1, r2, r3, r4, r5, r6, r7, r8, r9, r10, r11, r12, r13, r14, r15, r16, r17, r18, r19, r20, r21, r22, r23, r24, r25, r26, r27, r28, r29, r30, r31]).toArray) = some (((r0 : Int) == (r0 : Int)) && (((r1 : Int) == (r1 : Int)) && (((r2 : Int) == (r2 : Int)) && (((r3 : Int) == (r3 : Int)) && (((r4 : Int) == (r4 : Int)) && (((r5 : Int) == (r5 : Int)) && (((r6 : Int) == (r6 : Int)) && (((r7 : Int) == (r7 : Int)) && (((r8 : Int) == (r8 : Int)) && (((r9 : Int) == (r9 : Int)) && (((r10 : Int) == (r10 : Int)) && (((r11 : Int) == (r11 : Int)) && (((r12 : Int) == (r12 : Int)) && (((r13 : Int) == (r13 : Int)) && (((r14 : Int) == (r14 : Int)) && (((r15 : Int) == (r15 : Int)) && (((r16 : Int) == (r16 : Int)) && (((r17 : Int) == (r17 : Int)) && (((r18 : Int) == (r18 : Int)) && (((r19 : Int) == (r19 : Int)) && (((r20 : Int) == (r20 : Int)) && (((r21 : Int) == (r21 : Int)) && (((r22 : Int) == (r22 : Int)) && (((r23 : Int) == (r23 : Int)) && (((r24 : Int) == (r24 : Int)) && (((r25 : Int) == (r25 : Int)) && (((r26 : Int) == (r26 : Int)) && (((r27 : Int) == (r27 : Int)) && (((r28 : Int) == (r28 : Int)) && (((r29 : Int) == (r29 : Int)) && (((r30 : Int) == (r30 : Int)) && (((r31 : Int) == (r31 : Int)) && (true))))))))))))))))))))))))))))))))) := by kernel_rfl
    rw [e]; simp
section
variable {D : Nat → Prop} {w : World} {l : List Post} {d : Dsk} {csl csd : List Value}
set_option maxRecDepth 8000 in
set_option maxHeartbeats 4000000 in
theorem c_LedgerDiskSpec (hN : NumW w) (hd : DskR D w csd d) (hl : LedR D w csl l) : CallZ Tryz.prog 4 #[.agg csd.toArray, .agg csl.toArray] w (fun v w' => v = .bool true ∧ Ext w w') := by
  obtain ⟨A, n, c, rfl, hs, hnc⟩ := hl; obtain ⟨qA, qn, qc, qB, qm, qe, rfl, -⟩ := hd.ex; have hd := hd.more (D' := fun _ => True) fun _ _ _ => trivial; have hs := hs.more (D' := fun _ => True) (by decide) fun _ _ _ => trivial; refine fn_rule (args := [.agg #[.slice qA qn qc, .slice qB qm qe, iv d.left, .bool d.stop], .agg #[.slice A n c]]) Tryz.func4 (by kernel_rfl) ?_; refine box (fun b2 w1 h1 => ?_); refine box (fun b3 w2 h2 => ?_); have G2 : Blk w2 b2 44 [.slice qA qn qc, .slice qB qm qe, iv d.left, .bool d.stop] := h1.blk.ext h2.ext; have L2 : Blk w2 b3 24 [.slice A n c] := h2.blk; have x2 := h1.ext.trans h2.ext; refine call_of (c_lsane (hN.ext x2)) ?_; rintro _ w3 ⟨rfl, x3⟩; have x03 := x2.trans x3; refine ldA [.slice A n c] (.blk (L2.ext x3)) rfl ?_; refine callE (c_r56Few (hs.ext x03)) (fun w4 _ x4 => ?_) (fun w4 _ x4 => ?_); rotate_left
  · exact ret1 (.bool true) rfl ⟨rfl, x03.trans x4⟩
  have x24 := x3.trans x4; refine ldA [.slice qA qn qc, .slice qB qm qe, iv d.left, .bool d.stop] (.blk (G2.ext x24)) rfl ?_; refine call_of (c_r04Few (hd.ext (x2.trans x24))) ?_; rintro _ w5 ⟨few, rfl, x5⟩; have x25 := x24.trans x5; have x05 := x2.trans x25
  cases few with
  | false => exact ret1 (.bool true) rfl ⟨rfl, x05⟩
  | true =>
  have L5 := L2.ext x25; have G5 := G2.ext x25; have hs5 := hs.ext x05; have hd5 := hd.ext x05; have hN5 := hN.ext x05; obtain ⟨R, hR⟩ : ∃ R, R = (rootP l).1 := ⟨_, rfl⟩; obtain ⟨e1, he1⟩ : ∃ e, e = (rootP l).2 := ⟨_, rfl⟩
  have hRl : R.length = 32 := by
    rw [hR]; unfold rootP
    split
    · exact rootL_len _
    · exact List.length_replicate
  have hRl2 : (u8s R).length = 32 := by rw [List.length_map]; exact hRl
  refine ldA [.slice A n c] (.blk L5) rfl ?_; refine call_of (c_lRoot hN5 hs5) ?_; rintro _ w6 ⟨rfl, x6⟩; rw [← hR, ← he1]; refine alloc (fun a1 v1 p1 => ?_); refine stA (vs := u8s R) p1.blk hRl2 (by rw [hRl2]; exact Nat.le_refl _) (fun v hv => List.all_eq_true.1 (u8s_one _) v hv) (fun w7 K1 j1 _ => ?_)
  have K1 : Blk w7 a1 47 (u8s R) := by
    have e : ∀ X : List Value, X.length = 32 → X.drop (0 + (u8s R).length) = [] := fun X hX => List.drop_of_length_le (by rw [hRl2]; omega); rw [List.take_zero, List.nil_append, e _ rfl, List.append_nil] at K1; exact K1
  have q1 := p1.at_
  have x57 : Ext w5 w7 := (x6.trans p1.ext).then j1 fun i hi _ e => by have := x6.size; omega
  have L7 := L5.ext x57; refine ldA [.slice A n c] (.blk L7) rfl ?_; refine call_of (c_r56Root (hs5.ext x57) hnc) ?_; rintro _ w8 ⟨rfl, x8⟩; rw [← hR, ← he1]; refine alloc (fun a2 v2 p2 => ?_); refine stA (vs := u8s R) p2.blk hRl2 (by rw [hRl2]; exact Nat.le_refl _) (fun v hv => List.all_eq_true.1 (u8s_one _) v hv) (fun w9 K2 j2 _ => ?_)
  have K2 : Blk w9 a2 47 (u8s R) := by
    have e : ∀ X : List Value, X.length = 32 → X.drop (0 + (u8s R).length) = [] := fun X hX => List.drop_of_length_le (by rw [hRl2]; omega); rw [List.take_zero, List.nil_append, e _ rfl, List.append_nil] at K2; exact K2
  have q2 := p2.at_
  have x79 : Ext w7 w9 := (x8.trans p2.ext).then j2 fun i hi _ e => by have := x8.size; omega
  have x59 := x57.trans x79; have K1 := K1.ext x79; have G9 := G5.ext x59; have L9 := L5.ext x59; have hs9 := hs5.ext x59; have hd9 := hd5.ext x59; refine ldA [.slice qA qn qc, .slice qB qm qe, iv d.left, .bool d.stop] (.blk G9) rfl ?_; refine call_of (c_lLoad hd9) ?_; rintro _ w10 ⟨x10, C1, m1, f1, rfl, sC1, hf1⟩; refine alloc (fun a3 v3 p3 => ?_); refine stA (vs := [.slice C1 m1 f1]) p3.blk rfl (Nat.le_of_ble_eq_true rfl) (by simp [Value.oneCell']) (fun w11 K3 j3 _ => ?_); have K3 : Blk w11 a3 24 [.slice C1 m1 f1] := K3; have q3 := p3.at_
  have x101 : Ext w10 w11 := p3.ext.then j3 fun i hi _ e => by omega
  have x911 := x10.trans x101; refine ldA [.slice qA qn qc, .slice qB qm qe, iv d.left, .bool d.stop] (.blk (G9.ext x911)) rfl ?_; refine call_of (c_r56Load (hd9.ext x911)) ?_; rintro _ w12 ⟨x12, C2, m2, f2, rfl, sC2, hf2⟩; refine alloc (fun a4 v4 p4 => ?_); refine stA (vs := [.slice C2 m2 f2]) p4.blk rfl (Nat.le_of_ble_eq_true rfl) (by simp [Value.oneCell']) (fun w13 K4 j4 _ => ?_); have K4 : Blk w13 a4 24 [.slice C2 m2 f2] := K4; have q4 := p4.at_
  have x123 : Ext w12 w13 := p4.ext.then j4 fun i hi _ e => by omega
  have x113 := x12.trans x123; have x913 := x911.trans x113; have G13 := G9.ext x913; have L13 := L9.ext x913; refine ldA [.slice qA qn qc, .slice qB qm qe, iv d.left, .bool d.stop] (.blk G13) rfl ?_; refine ldA [.slice A n c] (.blk L13) rfl ?_; refine call_of (c_lStore (hd9.ext x913) (hs9.ext x913)) ?_; rintro _ w14 ⟨cu, rfl, du, x14⟩; obtain ⟨sd, hsd⟩ : ∃ sd, sd = (storeP d l).1 := ⟨_, rfl⟩; obtain ⟨e3, he3⟩ : ∃ e, e = (storeP d l).2 := ⟨_, rfl⟩; rw [← hsd] at du; rw [← he3]; obtain ⟨uA, un, uc, uB, um, ue, rfl, -⟩ := du.ex; refine alloc (fun a5 v5 p5 => ?_); refine stA (vs := [.slice uA un uc, .slice uB um ue, iv sd.left, .bool sd.stop]) p5.blk rfl (Nat.le_of_ble_eq_true rfl) (by simp [Value.oneCell']) (fun w15 K5 j5 _ => ?_); have K5 : Blk w15 a5 44 [.slice uA un uc, .slice uB um ue, iv sd.left, .bool sd.stop] := K5; have q5 := p5.at_
  have x145 : Ext w14 w15 := p5.ext.then j5 fun i hi _ e => by omega
  have x135 := x14.trans x145; have x915 := x913.trans x135; have du := du.ext x145; refine ldA [.slice qA qn qc, .slice qB qm qe, iv d.left, .bool d.stop] (.blk (G13.ext x135)) rfl ?_; refine ldA [.slice A n c] (.blk (L13.ext x135)) rfl ?_; refine call_of (c_r56Store (hd9.ext x915) (hs9.ext x915) hnc) ?_; rintro _ w16 ⟨cv, rfl, dv, x16⟩; rw [← hsd] at dv; rw [← he3]; obtain ⟨vA, vn, vc, vB, vm, ve, rfl, -⟩ := dv.ex; refine alloc (fun a6 v6 p6 => ?_); refine stA (vs := [.slice vA vn vc, .slice vB vm ve, iv sd.left, .bool sd.stop]) p6.blk rfl (Nat.le_of_ble_eq_true rfl) (by simp [Value.oneCell']) (fun w17 K6 j6 _ => ?_); have K6 : Blk w17 a6 44 [.slice vA vn vc, .slice vB vm ve, iv sd.left, .bool sd.stop] := K6; have q6 := p6.at_
  have x167 : Ext w16 w17 := p6.ext.then j6 fun i hi _ e => by omega
  have x157 := x16.trans x167; have x917 := x915.trans x157; have x137 := x135.trans x157; have x117 := x113.trans x137; have du := du.ext x157; have dv := dv.ext x167; refine ldA (u8s R) (.blk (K1.ext x917)) hRl2 ?_; refine ldA (u8s R) (.blk (K2.ext x917)) hRl2 ?_; refine eqS true (dig_eq hRl) (fun _ => ?_) (fun h => by cases h); refine cE (fun _ => ?_) (fun h => absurd rfl h); refine ldA [.slice C1 m1 f1] (.blk (K3.ext x117)) rfl ?_; refine ldA [.slice C2 m2 f2] (.blk (K4.ext x137)) rfl ?_; have sa := (sC1.more (D' := fun _ => True) (by decide) fun _ _ _ => trivial).ext (x101.trans x117); have sb := (sC2.more (D' := fun _ => True) (by decide) fun _ _ _ => trivial).ext (x123.trans x137); refine call_of (c_r56Same sa sb) ?_; rintro _ w18 ⟨rfl, x18⟩; rw [decide_eq_true rfl]; refine cE (fun _ => ?_) (fun h => absurd rfl h); refine ldA [.slice uA un uc, .slice uB um ue, iv sd.left, .bool sd.stop] (.blk ((K5.ext x157).ext x18)) rfl ?_; refine ldA [.slice vA vn vc, .slice vB vm ve, iv sd.left, .bool sd.stop] (.blk (K6.ext x18)) rfl ?_; refine call_of (c_r04Same (du.ext x18) (dv.ext x18)) ?_; rintro _ w19 ⟨rfl, x19⟩; refine cE (fun _ => ?_) (fun h => absurd rfl h); exact ret1 (.bool true) rfl ⟨rfl, (((x05.trans x59).trans x917).trans x18).trans x19⟩
end
end Go.Proofs.YtehcphboliofaaaGreatDoor
namespace Go.Proofs.YtehcphboliofaaaGreatDoor
open Go Go.RowKit Go.ChangeShapes Go.WideShapes Go.ChangeAt
theorem rd_posting : Rd Tryz.prog 26 tPost := by
  refine Rd.of (fun y : Int × Int × Int × Int × Int × Int => (⟨y.1, y.2.1, y.2.2.1, y.2.2.2.1, y.2.2.2.2.1, y.2.2.2.2.2⟩ : Post))
    (Rd.struct Tryz.underlying26 (by kernel_rfl) fun n => .cons (rdAt Tryz.prog 3 tInt n) rfl (.cons (rdAt Tryz.prog 3 tInt n) rfl (.cons (rdAt Tryz.prog 3 tInt n) rfl (.cons (rdAt Tryz.prog 3 tInt n) rfl (.cons (rdAt Tryz.prog 3 tInt n) rfl (.one (rdAt Tryz.prog 3 tInt n) rfl)))))) ?_
  rintro W cs ⟨a, b, c, d, e, f⟩ ⟨_, _, rfl, ⟨rfl, -⟩, _, _, rfl, ⟨rfl, -⟩, _, _, rfl, ⟨rfl, -⟩, _, _, rfl, ⟨rfl, -⟩, _, _, rfl, ⟨rfl, -⟩, ⟨rfl, -⟩⟩
  rfl
instance : Rd Tryz.prog 26 tPost := rd_posting
theorem rd_posts : Rd Tryz.prog 22 (tSl tPost) := inferInstance
theorem rd_led : Rd Tryz.prog 24 (tSl tPost) := Rd.struct Tryz.underlying24 (by kernel_rfl) fun n => .one (rd_posts.h n) rfl
theorem LedR.of {D : Nat → Prop} {w : World} {cs : List Value} {l : List Post} (h : (tSl tPost).rep D w cs l) : LedR D w cs l := by
  obtain ⟨A, n, c, h1, h2, h3⟩ := h; exact ⟨A, n, c, h1, h2, h3⟩
theorem gStart : Tryz.prog.globalNamed "acequia/digest.start" = some 0 := by kernel_rfl
theorem gNums : Tryz.prog.globalNamed "acequia/digest.numbers" = some 1 := by kernel_rfl
theorem gStartT : (Tryz.prog.globals[0]?).map (·.type) = some 277 := by kernel_rfl
theorem gNumsT : (Tryz.prog.globals[1]?).map (·.type) = some 308 := by kernel_rfl
theorem tab_cells {W : World} {name : String} {l : List Nat} {g : Nat} (ht : Lib.TabIs Tryz.prog W name .u32 (l.map fun n : Nat => (n : Int))) (hg : Tryz.prog.globalNamed name = some g) : CellsAt (z W) g 0 (u32s l) := fun j v hv => by
  rw [List.getElem?_map] at hv
  cases hj : l[j]? with
  | none => rw [hj] at hv; cases hv
  | some x =>
    rw [hj] at hv
    obtain rfl : Value.int .u32 (x : Int) = v := Option.some.inj hv
    have hlt := (List.getElem?_eq_some_iff.1 hj).1
    have := ht.cell hg j (by rw [List.length_map]; exact hlt)
    rw [Nat.zero_add]
    rw [List.getD_eq_getElem?_getD, List.getElem?_map, hj] at this
    exact this
theorem numW {W : World} (h : laidMetH Tryz.prog [("acequia/digest.start", Rows.laid_acequia_digest_start), ("acequia/digest.numbers", Rows.laid_acequia_digest_numbers)] W) : NumW (z W) := by
  have h : laidMet Tryz.prog [("acequia/digest.start", Rows.laid_acequia_digest_start), ("acequia/digest.numbers", Rows.laid_acequia_digest_numbers)] W := h; have h1 := Lib.tabIs_of_head (k := .u32) (zs := startL.map fun n : Nat => (n : Int)) (rest := [("acequia/digest.numbers", Rows.laid_acequia_digest_numbers)]) gStart gStartT Tryz.underlying277 Tryz.underlying222 (by kernel_rfl) (by kernel_rfl) h; have h2 := Lib.tabIs_of_head (k := .u32) (zs := numsL.map fun n : Nat => (n : Int)) (rest := []) gNums gNumsT Tryz.underlying308 Tryz.underlying222 (by kernel_rfl) (by kernel_rfl) h.tail; exact ⟨tab_cells h1 gStart, tab_cells h2 gNums⟩
theorem rd_u8 : Rd Tryz.prog 5 tU8 := by
  refine Rd.of (fun z : Int => z.toNat) (inferInstance : Rd Tryz.prog 5 (tK .u8)) ?_; rintro W cs z ⟨rfl, hw⟩; simp [Lit.wf, IntKind.min, IntKind.max, IntKind.signed, IntKind.bits] at hw; refine ⟨?_, by omega⟩; show [Value.int .u8 z] = [Value.int .u8 ((z.toNat : Nat) : Int)]; rw [Int.toNat_of_nonneg (by omega)]
instance : Rd Tryz.prog 5 tU8 := rd_u8
theorem rd_bytes : Rd Tryz.prog 102 (tSl tU8) := inferInstance
theorem rd_bytess : Rd Tryz.prog 41 (tSl (tSl tU8)) := inferInstance
theorem rd_write : Rd Tryz.prog 104 tWr := Rd.map (g := fun y : Int × List Nat => ⟨y.1, y.2⟩) (Rd.struct Tryz.underlying104 (by kernel_rfl) fun n => .cons (rdAt Tryz.prog 3 tInt n) rfl (.one (rd_bytes.h n) rfl)) (fun _ => rfl)
instance : Rd Tryz.prog 104 tWr := rd_write
theorem tWr_pos : 0 < tWr.sz := by decide
theorem rd_writes : Rd Tryz.prog 42 (tSl tWr tWr_pos) := inferInstance
def tDk : Ty (List (List Nat) × List Wr × Int × Bool) := tPair (tSl (tSl tU8)) (tPair (tSl tWr tWr_pos) (tPair tInt tBool))
theorem rd_disk : Rd Tryz.prog 44 tDk := Rd.struct Tryz.underlying44 (by kernel_rfl) fun n => .cons (rd_bytess.h n) rfl (.cons (rd_writes.h n) rfl (.cons (rdAt Tryz.prog 3 tInt n) rfl (.one (rdAt Tryz.prog 4 tBool n) rfl)))
theorem DskR.rd {D : Nat → Prop} {w : World} {cs : List Value} {y : List (List Nat) × List Wr × Int × Bool} (h : tDk.rep D w cs y) : DskR D w cs ⟨y.1, y.2.1, y.2.2.1, y.2.2.2⟩ := by
  obtain ⟨_, _, rfl, ⟨A, n, c, rfl, h1, h2⟩, _, _, rfl, ⟨B, m, e, rfl, h3, h4⟩, _, _, rfl, ⟨rfl, h5⟩, h6⟩ := h; have h6 : _ = [Value.bool _] := h6; subst h6; exact ⟨⟨A, n, c, B, m, e, rfl, h1, h2, h3, h4, h5⟩⟩
end Go.Proofs.YtehcphboliofaaaGreatDoor
