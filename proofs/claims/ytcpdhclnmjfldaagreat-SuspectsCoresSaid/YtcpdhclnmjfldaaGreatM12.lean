/- Parts of the proof: S8 S9 Sb Sc Sd Sf Sg Sh Si. -/
import Derived.Test.YtcpdhclnmjfldaaGreatM11
import Derived.Test.YtcpdhclnmjfldaaGreatM10
import Derived.Test.YtcpdhclnmjfldaaGreatM4

/- Layer 49: the laws' examples. -/
namespace Go.Proofs.YtcpdhclnmjfldaaGreat
open Go Go.RowKit

def cD49 : Dist := ⟨ByteArray.empty, 4, 0, 0, [⟨ByteArray.empty, -1, 1, 50, 50, 0, ⟨0, 0⟩, ⟨0, 1⟩, ⟨0, 1⟩⟩], [⟨ByteArray.empty, 0, 0, -1⟩], [], [], [], []⟩
def mX49 : Ev := ⟨[⟨0, [⟨10, 10⟩], [⟨4, 4⟩], [⟨3, 3⟩]⟩], [⟨1, 0, 20⟩, ⟨2, 0, 6⟩, ⟨4, 0, 2⟩]⟩
def nX49 : Ev := ⟨[], []⟩
theorem sv0 : evErr cD49 mX49 = 0 := by kernel_rfl
theorem sv1 : minSets cD49 mX49 = [[0], [1, 2]] := by kernel_rfl
theorem sv2 : smallV 3 (minSets cD49 mX49) = [[0]] := by kernel_rfl
theorem sv3 : namedV cD49 mX49 = [0, 1, 2] := by kernel_rfl
theorem sv4 : neededV cD49 mX49 = [] := by kernel_rfl
theorem sv5 : blameV cD49 mX49 2 = some [1, 2] := by kernel_rfl
theorem sv6 : minSets cD49 nX49 = [[]] := by kernel_rfl
theorem sv7 : evErr cD49 nX49 = 0 := by kernel_rfl
section
variable {w : World}
set_option maxRecDepth 4000 in
theorem c_scanal : CallZ Tryz.prog 30 #[] w (fun v w' => Ext w w' ∧ ∃ csd, v = .agg csd.toArray ∧ DiR (fun b => w.heap.size ≤ b) w' csd cD49) := by
  refine fn_rule (args := []) Tryz.func30 (by kernel_rfl) ?_
  refine alloc (fun q1 w1 h1 => ?_)
  refine bld [iv 0, iv 1] (by kernel_rfl) ?_
  refine bld [iv 0, iv 1] (by kernel_rfl) ?_
  refine bld [iv 0, iv 1, iv 0, iv 1] (by kernel_rfl) ?_
  refine bld [.string ByteArray.empty, iv (-1), iv 1, iv 50, iv 50, iv 0, iv 0, iv 0, iv 0, iv 1, iv 0, iv 1] (by kernel_rfl) ?_
  refine alloc (fun q2 w2 h2 => ?_)
  refine stA (vs := [.string ByteArray.empty, iv (-1), iv 1, iv 50, iv 50, iv 0, iv 0, iv 0, iv 0, iv 1, iv 0, iv 1]) h2.blk rfl (Nat.le_of_ble_eq_true rfl) (by simp [Value.oneCell']) (fun w3 b3 k3 s3 => ?_)
  have y1 := h1.at_
  have y2 := h2.at_
  have z1 := h1.size
  have z2 := h2.size
  have m3 : Blk w3 q2 _ [.string ByteArray.empty, iv (-1), iv 1, iv 50, iv 50, iv 0, iv 0, iv 0, iv 0, iv 1, iv 0, iv 1] := b3
  refine ldA [.string ByteArray.empty, iv (-1), iv 1, iv 50, iv 50, iv 0, iv 0, iv 0, iv 0, iv 1, iv 0, iv 1] (CellsAt.blk m3) rfl ?_
  refine lit [.agg #[.string ByteArray.empty, iv (-1), iv 1, iv 50, iv 50, iv 0, iv 0, iv 0, iv 0, iv 1, iv 0, iv 1]] (fun q4 w4 h4 => ?_)
  refine bld [.string ByteArray.empty, iv 0, iv 0, iv (-1)] (by kernel_rfl) ?_
  refine lit [.agg #[.string ByteArray.empty, iv 0, iv 0, iv (-1)]] (fun q5 w5 h5 => ?_)
  refine bld [.string ByteArray.empty, iv 4, iv 0, iv 0, .slice (some (ad q4 0)) 1 1, .slice (some (ad q5 0)) 1 1, .slice none 0 0, .slice none 0 0, .slice none 0 0, .slice none 0 0] (by kernel_rfl) ?_
  have y4 := h4.at_
  have z4 := h4.size
  have y5 := h5.at_
  have z5 := h5.size
  have e15 : Kept (fun b => b ≠ q2) w1 w5 := (((Ext.any h2.ext).then k3 fun b _ h => h).then h4.ext fun _ _ _ => trivial).then h5.ext fun _ _ _ => trivial
  refine stA (vs := [.string ByteArray.empty, iv 4, iv 0, iv 0, .slice (some (ad q4 0)) 1 1, .slice (some (ad q5 0)) 1 1, .slice none 0 0, .slice none 0 0, .slice none 0 0, .slice none 0 0]) (h1.blk.kept e15 (by omega)) rfl (Nat.le_of_ble_eq_true rfl) (by simp [Value.oneCell']) (fun w6 b6 k6 s6 => ?_)
  have m1 : Blk w6 q1 _ [.string ByteArray.empty, iv 4, iv 0, iv 0, .slice (some (ad q4 0)) 1 1, .slice (some (ad q5 0)) 1 1, .slice none 0 0, .slice none 0 0, .slice none 0 0, .slice none 0 0] := b6
  refine ret ?_
  refine resL _ (holds_agg (CellsAt.blk m1) rfl) ?_
  refine ⟨(h1.ext.then e15 fun b hb _ => by omega).then k6 fun b hb _ => by omega, _, rfl, DiR.of_ ⟨_, _, _, _, _, _, _, _, _, _, _, _, _, _, _, _, _, _, rfl, ?_, ?_, SlR.nil, SlR.nil, SlR.nil, SlR.nil⟩⟩
  · exact SlR.of_cells rfl (by decide) (by omega) (.blk ((h4.blk.ext h5.ext).kept k6 (by omega))) ⟨_, _, rfl, rfl, rfl⟩
  · exact SlR.of_cells rfl (by decide) (by omega) (.blk (h5.blk.kept k6 (by omega))) ⟨_, _, rfl, rfl, rfl⟩
theorem c_sexactly {n : Int} : CallZ Tryz.prog 58 #[iv n] w (fun v w' => ∃ g, v = .slice (some (ad g 0)) 1 1 ∧ Ext w w' ∧ w.heap.size ≤ g ∧ SlR tRg (fun b => w.heap.size ≤ b) w' (some (ad g 0)) 1 [⟨n, n⟩]) := by
  refine fn_rule (args := [iv n]) Tryz.func58 (by kernel_rfl) ?_
  refine bld [iv n, iv n] (by kernel_rfl) ?_
  refine lit [.agg #[iv n, iv n]] (fun g w1 h1 => ?_)
  have a1 := h1.at_
  exact ret1 (.slice (some (ad g 0)) 1 1) rfl ⟨g, rfl, h1.ext, by omega, SlR.of_cells rfl (by decide) (by omega) (.blk h1.blk) ⟨_, _, rfl, rfl, rfl⟩⟩
set_option maxRecDepth 4000 in
theorem c_smissing : CallZ Tryz.prog 31 #[] w (fun v w' => Ext w w' ∧ ∃ csx, v = .agg csx.toArray ∧ EvR (fun b => w.heap.size ≤ b) w' csx mX49) := by
  refine fn_rule (args := []) Tryz.func31 (by kernel_rfl) ?_
  refine alloc (fun q1 w1 h1 => ?_)
  refine call_of c_sexactly ?_
  rintro _ w2 ⟨g2, rfl, x2, hg2, s2⟩
  refine call_of c_sexactly ?_
  rintro _ w3 ⟨g3, rfl, x3, hg3, s3⟩
  refine call_of c_sexactly ?_
  rintro _ w4 ⟨g4, rfl, x4, hg4, s4⟩
  have y1 := h1.at_
  have z1 := h1.size
  have z2 := x2.size
  have z3 := x3.size
  have z4 := x4.size
  refine bld [iv 0, .slice (some (ad g2 0)) 1 1, .slice (some (ad g3 0)) 1 1, .slice (some (ad g4 0)) 1 1] (by kernel_rfl) ?_
  refine alloc (fun q5 w5 h5 => ?_)
  refine stA (vs := [iv 0, .slice (some (ad g2 0)) 1 1, .slice (some (ad g3 0)) 1 1, .slice (some (ad g4 0)) 1 1]) h5.blk rfl (Nat.le_of_ble_eq_true rfl) (by simp [Value.oneCell']) (fun w6 b6 k6 s6 => ?_)
  have y5 := h5.at_
  have z5 := h5.size
  have m6 : Blk w6 q5 _ [iv 0, .slice (some (ad g2 0)) 1 1, .slice (some (ad g3 0)) 1 1, .slice (some (ad g4 0)) 1 1] := b6
  refine ldA [iv 0, .slice (some (ad g2 0)) 1 1, .slice (some (ad g3 0)) 1 1, .slice (some (ad g4 0)) 1 1] (CellsAt.blk m6) rfl ?_
  refine lit [.agg #[iv 0, .slice (some (ad g2 0)) 1 1, .slice (some (ad g3 0)) 1 1, .slice (some (ad g4 0)) 1 1]] (fun q7 w7 h7 => ?_)
  refine bld [iv 1, iv 0, iv 20] (by kernel_rfl) ?_
  refine bld [iv 2, iv 0, iv 6] (by kernel_rfl) ?_
  refine bld [iv 4, iv 0, iv 2] (by kernel_rfl) ?_
  refine lit [.agg #[iv 1, iv 0, iv 20], .agg #[iv 2, iv 0, iv 6], .agg #[iv 4, iv 0, iv 2]] (fun q8 w8 h8 => ?_)
  refine bld [.slice (some (ad q7 0)) 1 1, .slice (some (ad q8 0)) 3 3] (by kernel_rfl) ?_
  have y7 := h7.at_
  have z7 := h7.size
  have y8 := h8.at_
  have z8 := h8.size
  have x46 : Ext w4 w6 := h5.ext.then k6 fun b hb _ => by omega
  have x48 : Ext w4 w8 := x46.trans (h7.ext.trans h8.ext)
  have x18 : Ext w1 w8 := ((x2.trans x3).trans x4).trans x48
  refine stA (vs := [.slice (some (ad q7 0)) 1 1, .slice (some (ad q8 0)) 3 3]) (h1.blk.ext x18) rfl (Nat.le_of_ble_eq_true rfl) (by simp [Value.oneCell']) (fun w9 b9 k9 s9 => ?_)
  have m1 : Blk w9 q1 _ [.slice (some (ad q7 0)) 1 1, .slice (some (ad q8 0)) 3 3] := b9
  refine ret ?_
  refine resL _ (holds_agg (CellsAt.blk m1) rfl) ?_
  have D' : ∀ {g : Nat} {l : List Rg} {u : World} (_ : w1.heap.size ≤ u.heap.size), SlR tRg (fun b => u.heap.size ≤ b) w8 (some (ad g 0)) 1 l → SlR tRg (fun b => w.heap.size ≤ b) w9 (some (ad g 0)) 1 l := fun hu h =>
    ((h.more (D' := fun b => w.heap.size ≤ b ∧ b ≠ q1) (by decide) fun b hb hD => ⟨by omega, by omega⟩).kept k9 fun b _ h => h.2).more (by decide) fun b _ h => h.1
  refine ⟨(h1.ext.trans x18).then k9 fun b hb _ => by omega, _, rfl, EvR.of_ ⟨_, _, _, _, _, _, rfl, ?_, ?_, Nat.le_refl _, Nat.le_refl _⟩⟩
  · exact SlR.of_cells rfl (by decide) (by omega) (.blk ((h7.blk.ext h8.ext).kept k9 (by omega))) ⟨[iv 0, .slice (some (ad g2 0)) 1 1, .slice (some (ad g3 0)) 1 1, .slice (some (ad g4 0)) 1 1], [], rfl, ⟨[iv 0], _, rfl, ⟨rfl, by unfold I64; decide⟩, _, _, rfl, ⟨_, _, _, rfl, D' (Nat.le_refl _) (((s2.ext x3).ext x4).ext x48), Nat.le_refl _⟩, _, _, rfl, ⟨_, _, _, rfl, D' (by omega) ((s3.ext x4).ext x48), Nat.le_refl _⟩, _, _, _, rfl, D' (by omega) (s4.ext x48), Nat.le_refl _⟩, rfl⟩
  · exact SlR.of_cells rfl (by decide) (by omega) (.blk (h8.blk.kept k9 (by omega))) ⟨_, _, rfl, rfl, _, _, rfl, rfl, _, _, rfl, rfl, rfl⟩
theorem c_r49Few {D : Nat → Prop} {csd csx : List Value} {d : Dist} {x : Ev} (hd : DiR D w csd d) (hx : EvR D w csx x) : CallZ Tryz.prog 9 #[.agg csd.toArray, .agg csx.toArray] w (fun v w' => ∃ b, v = .bool b ∧ Ext w w') := by
  obtain ⟨A1, n1, c1, A2, n2, c2, A3, n3, c3, A4, n4, c4, A5, n5, c5, A6, n6, c6, rfl, -⟩ := hd.ex
  obtain ⟨W1, m1, e1, S1, m2, e2, rfl, -⟩ := hx.ex
  refine fn_rule (args := [.agg #[.string d.name, iv d.hours, iv d.cap, iv d.start, .slice A1 n1 c1, .slice A2 n2 c2, .slice A3 n3 c3, .slice A4 n4 c4, .slice A5 n5 c5, .slice A6 n6 c6], .agg #[.slice W1 m1 e1, .slice S1 m2 e2]]) Tryz.func9 (by kernel_rfl) ?_
  refine box (fun bd w1 h1 => ?_)
  refine box (fun bx w2 h2 => ?_)
  have x2 := h1.ext.trans h2.ext
  refine ldA [.string d.name, iv d.hours, iv d.cap, iv d.start, .slice A1 n1 c1, .slice A2 n2 c2, .slice A3 n3 c3, .slice A4 n4 c4, .slice A5 n5 c5, .slice A6 n6 c6] (.blk (h1.blk.ext h2.ext)) rfl ?_
  refine ldA [.slice W1 m1 e1, .slice S1 m2 e2] (.blk h2.blk) rfl ?_
  refine call_of (c_r48Few (hd.ext x2) (hx.ext x2)) ?_
  rintro _ w3 ⟨b, rfl, x3⟩
  exact ret1 (.bool b) rfl ⟨b, rfl, x2.trans x3⟩
end
end Go.Proofs.YtcpdhclnmjfldaaGreat

/- Layer 49: the laws' sanity check. -/
namespace Go.Proofs.YtcpdhclnmjfldaaGreat
open Go Go.RowKit

section
variable {w : World}
theorem OwnL.at_ {w0 u : World} {A : Option Addr} {n c : Nat} {s : List Hd} {ls : List (List Int)} (h : OwnL w0 u A n c s) (hs : s.map (·.l) = ls) {k : Nat} {l : List Int} (hl : ls[k]? = some l) : ∃ g B m e, A = some (ad g 0) ∧ k < n ∧ u.cell? (ad g (0 + k * 1)) = some (.slice B m e) ∧ SlR tInt (fun _ => True) u B m l := by
  have hn := h.len
  have hk : k < ls.length := (List.getElem?_eq_some_iff.1 hl).1
  rw [← hs, List.length_map] at hk
  obtain ⟨g, hd, hA, hhd, hc, hI⟩ := h.cell (show k < n by omega)
  have : hd.l = l := by
    rw [← hs, List.getElem?_map, hhd] at hl
    injection hl
  exact ⟨g, hd.A, hd.n, hd.c, hA, by omega, hc, this ▸ hI.rdT⟩
theorem OwnL.cnt {w0 u : World} {A : Option Addr} {n c : Nat} {s : List Hd} {ls : List (List Int)} (h : OwnL w0 u A n c s) (hs : s.map (·.l) = ls) : n = ls.length := by rw [← hs, List.length_map]; exact h.len
theorem SlR.one {D : Nat → Prop} {u : World} {B : Option Addr} {m : Nat} {l : List Int} (h : SlR tInt D u B m l) {k : Nat} {x : Int} (hx : l[k]? = some x) : ∃ b o, B = some (ad b o) ∧ k < m ∧ u.cell? (ad b (o + k * 1)) = some (iv x) := by
  obtain ⟨b, o, cs, h1, -, h3, rfl, -⟩ := h.2.2 k x hx
  have := (List.getElem?_eq_some_iff.1 hx).1
  exact ⟨b, o, h1, by rw [h.1]; exact this, h3 0 _ rfl⟩
set_option maxRecDepth 8000 in
theorem c_ssane : CallZ Tryz.prog 8 #[] w (fun v w' => v = .bool true ∧ Ext w w') := by
  refine fn_rule (args := []) Tryz.func8 (by kernel_rfl) ?_
  refine call_of c_scanal ?_
  rintro _ w1 ⟨x1, csd, rfl, hd⟩
  refine call_of c_smissing ?_
  rintro _ w2 ⟨x2, csx, rfl, hx⟩
  have hd := (hd.ext x2).more (D' := fun _ => True) fun _ _ _ => trivial
  have hx := hx.more (D' := fun _ => True) fun _ _ _ => trivial
  obtain ⟨A1, n1, c1, A2, n2, c2, A3, n3, c3, A4, n4, c4, A5, n5, c5, A6, n6, c6, rfl, -⟩ := hd.ex
  obtain ⟨W1, m1, e1, S1, m2, e2, rfl, -⟩ := hx.ex
  refine alloc (fun b1 w3 h3 => ?_)
  refine alloc (fun b2 w4 h4 => ?_)
  have a3 := h3.at_
  have a4 := h4.at_
  have z3 := h3.size
  have z4 := h4.size
  refine stA (vs := [.string cD49.name, iv cD49.hours, iv cD49.cap, iv cD49.start, .slice A1 n1 c1, .slice A2 n2 c2, .slice A3 n3 c3, .slice A4 n4 c4, .slice A5 n5 c5, .slice A6 n6 c6]) (h3.blk.ext h4.ext) rfl (Nat.le_of_ble_eq_true rfl) (by simp [Value.oneCell']) (fun w5 Bd k5 s5 => ?_)
  refine stA (vs := [.slice W1 m1 e1, .slice S1 m2 e2]) (h4.blk.kept k5 (by omega)) rfl (Nat.le_of_ble_eq_true rfl) (by simp [Value.oneCell']) (fun w6 Bx k6 s6 => ?_)
  have Bd : Blk w6 b1 31 [.string cD49.name, iv cD49.hours, iv cD49.cap, iv cD49.start, .slice A1 n1 c1, .slice A2 n2 c2, .slice A3 n3 c3, .slice A4 n4 c4, .slice A5 n5 c5, .slice A6 n6 c6] := Blk.kept Bd k6 (by omega)
  have Bx : Blk w6 b2 35 [.slice W1 m1 e1, .slice S1 m2 e2] := Bx
  have x26 : Ext w2 w6 := ((h3.ext.trans h4.ext).then k5 fun b hb _ => by omega).then k6 fun b hb _ => by omega
  have X := (x1.trans x2).trans x26
  have hd := hd.ext x26
  have hx := hx.ext x26
  clear x1 x2 h3 h4 a3 a4 z3 z4 k5 k6 s5 s6 x26
  refine ldA [.string cD49.name, iv cD49.hours, iv cD49.cap, iv cD49.start, .slice A1 n1 c1, .slice A2 n2 c2, .slice A3 n3 c3, .slice A4 n4 c4, .slice A5 n5 c5, .slice A6 n6 c6] (.blk Bd) rfl ?_
  refine ldA [.slice W1 m1 e1, .slice S1 m2 e2] (.blk Bx) rfl ?_
  refine call_of (c_sMinimal hd hx) ?_
  rintro _ u1 ⟨LA, ln, lc, ls, rfl, ol, hl⟩
  rw [sv0]
  rw [sv1] at hl
  have y := ol.own.ext
  have X := X.trans y
  have hd := hd.ext y
  have hx := hx.ext y
  have Bd := Bd.ext y
  have Bx := Bx.ext y
  refine ldA [.string cD49.name, iv cD49.hours, iv cD49.cap, iv cD49.start, .slice A1 n1 c1, .slice A2 n2 c2, .slice A3 n3 c3, .slice A4 n4 c4, .slice A5 n5 c5, .slice A6 n6 c6] (.blk Bd) rfl ?_
  refine ldA [.slice W1 m1 e1, .slice S1 m2 e2] (.blk Bx) rfl ?_
  refine call_of (c_sSmallest hd hx) ?_
  rintro _ u2 ⟨FA, fn, fc, fs, rfl, of_, hf⟩
  rw [sv0]
  rw [show mX49.suspects.length = 3 from rfl, sv2] at hf
  have y := of_.own.ext
  have X := X.trans y
  have hd := hd.ext y
  have hx := hx.ext y
  have Bd := Bd.ext y
  have Bx := Bx.ext y
  have ol := ol.ext y
  refine ldA [.string cD49.name, iv cD49.hours, iv cD49.cap, iv cD49.start, .slice A1 n1 c1, .slice A2 n2 c2, .slice A3 n3 c3, .slice A4 n4 c4, .slice A5 n5 c5, .slice A6 n6 c6] (.blk Bd) rfl ?_
  refine ldA [.slice W1 m1 e1, .slice S1 m2 e2] (.blk Bx) rfl ?_
  refine call_of (c_sNamed hd hx) ?_
  rintro _ u3 ⟨NA, nn, nc, rfl, on⟩
  rw [sv0]
  rw [sv3] at on
  have y := on.ext
  have X := X.trans y
  have hd := hd.ext y
  have hx := hx.ext y
  have Bd := Bd.ext y
  have Bx := Bx.ext y
  have ol := ol.ext y
  have of_ := of_.ext y
  refine ldA [.string cD49.name, iv cD49.hours, iv cD49.cap, iv cD49.start, .slice A1 n1 c1, .slice A2 n2 c2, .slice A3 n3 c3, .slice A4 n4 c4, .slice A5 n5 c5, .slice A6 n6 c6] (.blk Bd) rfl ?_
  refine ldA [.slice W1 m1 e1, .slice S1 m2 e2] (.blk Bx) rfl ?_
  refine call_of (c_sNeeded hd hx) ?_
  rintro _ u4 ⟨MA, mn, mc, rfl, om⟩
  rw [sv0]
  rw [sv4] at om
  have y := om.ext
  have X := X.trans y
  have hd := hd.ext y
  have hx := hx.ext y
  have Bd := Bd.ext y
  have Bx := Bx.ext y
  have ol := ol.ext y
  have of_ := of_.ext y
  refine ldA [.string cD49.name, iv cD49.hours, iv cD49.cap, iv cD49.start, .slice A1 n1 c1, .slice A2 n2 c2, .slice A3 n3 c3, .slice A4 n4 c4, .slice A5 n5 c5, .slice A6 n6 c6] (.blk Bd) rfl ?_
  refine ldA [.slice W1 m1 e1, .slice S1 m2 e2] (.blk Bx) rfl ?_
  refine call_of (c_sBlame (k := 2) hd hx) ?_
  rintro _ u5 ⟨BA, bn, bc, rfl, y, ob⟩
  rw [show mX49.suspects.length = 3 from rfl, if_pos (by decide), sv5] at ob
  rw [sv0, show mX49.suspects.length = 3 from rfl, if_pos (by decide), if_neg (by simp), if_pos (by decide), sv5]
  have ob : SlR tInt (fun _ => True) u5 BA bn [1, 2] := ob.more (by decide) fun _ _ _ => trivial
  have X := X.trans y
  have hd := hd.ext y
  have hx := hx.ext y
  have Bd := Bd.ext y
  have Bx := Bx.ext y
  have ol := ol.ext y
  have of_ := of_.ext y
  refine ldA [.string cD49.name, iv cD49.hours, iv cD49.cap, iv cD49.start, .slice A1 n1 c1, .slice A2 n2 c2, .slice A3 n3 c3, .slice A4 n4 c4, .slice A5 n5 c5, .slice A6 n6 c6] (.blk Bd) rfl ?_
  refine ldA [.slice W1 m1 e1, .slice S1 m2 e2] (.blk Bx) rfl ?_
  refine call_of (c_sBlame (k := 3) hd hx) ?_
  rintro _ u6 ⟨BA', bn', bc', rfl, y, -⟩
  rw [sv0, show mX49.suspects.length = 3 from rfl, if_neg (by decide), if_neg (by simp), if_neg (by decide)]
  have X := X.trans y
  have hd := hd.ext y
  have Bd := Bd.ext y
  have ol := ol.ext y
  have of_ := of_.ext y
  have ob := ob.ext y
  refine ldA [.string cD49.name, iv cD49.hours, iv cD49.cap, iv cD49.start, .slice A1 n1 c1, .slice A2 n2 c2, .slice A3 n3 c3, .slice A4 n4 c4, .slice A5 n5 c5, .slice A6 n6 c6] (.blk Bd) rfl ?_
  refine bld [.slice none 0 0, .slice none 0 0] (by kernel_rfl) ?_
  refine call_of (c_sMinimal (x := nX49) (D := fun _ => True) (csx := [.slice none 0 0, .slice none 0 0]) hd (EvR.of_ ⟨_, _, _, _, _, _, rfl, .nil, .nil, Nat.le_refl _, Nat.le_refl _⟩)) ?_
  rintro _ u7 ⟨OA, on', oc, os, rfl, oo, ho⟩
  rw [sv7]
  rw [sv6] at ho
  have y := oo.own.ext
  have X := X.trans y
  have ol := ol.ext y
  have of_ := of_.ext y
  have ob := ob.ext y
  have hln := ol.cnt hl
  have hfn := of_.cnt hf
  have hon := oo.cnt ho
  have hnn := on.own.len
  have hmn := om.own.len
  have hbn := ob.len
  refine cN (fun h => absurd rfl h) (fun _ => ?_)
  refine cN (fun h => absurd rfl h) (fun _ => ?_)
  refine cN (fun h => absurd rfl h) (fun _ => ?_)
  refine cN (fun h => absurd rfl h) (fun _ => ?_)
  refine cN (fun h => absurd rfl h) (fun _ => ?_)
  refine cN (fun h => absurd rfl h) (fun _ => ?_)
  refine cN (fun h => absurd rfl h) (fun _ => ?_)
  have hnn : 3 = nn * 1 := hnn
  have hmn : 0 = mn * 1 := hmn
  have hln : ln = 2 := hln
  have hfn : fn = 1 := hfn
  have hon : on' = 1 := hon
  have hbn : 2 = bn := hbn
  obtain ⟨g0, B0, m0, e0, rfl, -, hc0, r0⟩ := ol.at_ hl (k := 0) (l := [0]) rfl
  obtain ⟨g0', B1, m1', e1', hg, -, hc1, r1⟩ := ol.at_ hl (k := 1) (l := [1, 2]) rfl
  obtain rfl : g0 = g0' := by injection hg with hg; injection hg
  obtain ⟨gf, Bf, mf, ef, rfl, -, hcf, rf⟩ := of_.at_ hf (k := 0) (l := [0]) rfl
  obtain ⟨go, Bo, mo, eo, rfl, -, hco, ro⟩ := oo.at_ ho (k := 0) (l := []) rfl
  have l0 := r0.len
  have l1 := r1.len
  have lo := ro.len
  have l0 : 1 = m0 := l0
  have l1 : 2 = m1' := l1
  have lo : 0 = mo := lo
  obtain ⟨_, _, rfl, -, v0⟩ := r0.one (k := 0) (x := 0) rfl
  obtain ⟨p1, q1, rfl, -, v1⟩ := r1.one (k := 0) (x := 1) rfl
  obtain ⟨p1', q1', hg, -, v2⟩ := r1.one (k := 1) (x := 2) rfl
  obtain ⟨rfl, rfl⟩ : p1 = p1' ∧ q1 = q1' := by injection hg with hg; injection hg with h1 h2; exact ⟨h1, h2⟩
  obtain ⟨_, _, rfl, -, v3⟩ := rf.one (k := 0) (x := 0) rfl
  obtain ⟨pb, qb, rfl, -, v4⟩ := ob.one (k := 0) (x := 1) rfl
  obtain ⟨pb', qb', hg, -, v5⟩ := ob.one (k := 1) (x := 2) rfl
  obtain ⟨rfl, rfl⟩ : pb = pb' ∧ qb = qb' := by injection hg with hg; injection hg with h1 h2; exact ⟨h1, h2⟩
  have lf : 1 = mf := rf.len
  refine len ?_
  refine cN (fun h => absurd (by omega) h) (fun _ => ?_)
  refine len ?_
  refine cN (fun h => absurd (by omega) h) (fun _ => ?_)
  refine len ?_
  refine cN (fun h => absurd (by omega) h) (fun _ => ?_)
  refine len ?_
  refine cN (fun h => absurd (by omega) h) (fun _ => ?_)
  refine len ?_
  refine cN (fun h => absurd (by omega) h) (fun _ => ?_)
  refine len ?_
  refine cN (fun h => absurd (by omega) h) (fun _ => ?_)
  refine idx 0 rfl (by omega) ?_
  refine ld _ hco ?_
  refine len ?_
  refine cN (fun h => absurd (by omega) h) (fun _ => ?_)
  refine idx 0 rfl (by omega) ?_
  refine ld _ hc0 ?_
  refine len ?_
  refine cE (fun _ => ?_) (fun h => absurd (by omega) h)
  refine idx 0 rfl (by omega) ?_
  refine ld _ hc0 ?_
  refine idx 0 rfl (by omega) ?_
  refine ld _ v0 ?_
  refine cE (fun _ => ?_) (fun h => absurd rfl h)
  refine idx 1 rfl (by omega) ?_
  refine ld _ hc1 ?_
  refine len ?_
  refine cE (fun _ => ?_) (fun h => absurd (by omega) h)
  refine idx 1 rfl (by omega) ?_
  refine ld _ hc1 ?_
  refine idx 0 rfl (by omega) ?_
  refine ld _ v1 ?_
  refine cE (fun _ => ?_) (fun h => absurd rfl h)
  refine idx 1 rfl (by omega) ?_
  refine ld _ hc1 ?_
  refine idx 1 rfl (by omega) ?_
  refine ld _ v2 ?_
  refine cE (fun _ => ?_) (fun h => absurd rfl h)
  refine idx 0 rfl (by omega) ?_
  refine ld _ hcf ?_
  refine idx 0 rfl (by omega) ?_
  refine ld _ v3 ?_
  refine cE (fun _ => ?_) (fun h => absurd rfl h)
  refine idx 0 rfl (by omega) ?_
  refine ld _ v4 ?_
  refine cE (fun _ => ?_) (fun h => absurd rfl h)
  refine idx 1 rfl (by omega) ?_
  refine ld _ v5 ?_
  refine cE (fun _ => ?_) (fun h => absurd rfl h)
  exact ret1 (.bool true) rfl ⟨rfl, X⟩
end
end Go.Proofs.YtcpdhclnmjfldaaGreat

/- Layer 49's reference: before, put, least, Minimal. -/
namespace Go.Proofs.YtcpdhclnmjfldaaGreat
open Go Go.RowKit

/-! ### raw cells of a slice -/
def tRaw : Ty Value where
  sz := 1
  rep _ _ cs x := cs = [x]
  len h := by rw [h]; rfl
  keep _ h := h
  more _ h := h
theorem flat_raw {D : Nat → Prop} {w : World} : ∀ {xs : List Value}, FlatR tRaw D w xs xs
  | [] => rfl
  | x :: xs => ⟨[x], xs, rfl, rfl, flat_raw⟩
theorem flat_raw_eq {D : Nat → Prop} {w : World} : ∀ {xs cs : List Value}, FlatR tRaw D w xs cs → cs = xs
  | [], _, h => h
  | x :: xs, _, ⟨c, r, h, h1, h2⟩ => by
    have h1 : c = [x] := h1
    rw [h, h1, flat_raw_eq h2]; rfl
theorem raw_src {D : Nat → Prop} {w : World} {A : Option Addr} {n : Nat} {xs : List Value} (h : SlR tRaw D w A n xs) : Src w A n 1 xs := by
  refine ⟨by rw [h.len]; simp, fun hpos => ?_⟩
  obtain ⟨b, o, cs, x, rfl, -⟩ := h.at_ hpos
  obtain ⟨cs, hf, hc⟩ := SlR.cells h
  rw [flat_raw_eq hf] at hc
  exact ⟨b, o, rfl, hc⟩
theorem OwnF.raw {D : Nat → Prop} {w0 u : World} {A : Option Addr} {n c : Nat} {e : TypeId} {xs : List Value} (h : OwnF w0 u A n c e 1 xs) (hle : n ≤ 140737488355328) (hD : ∀ b, w0.heap.size ≤ b → D b) : SlR tRaw D u A n xs :=
  Own.rd (a := tRaw) (e := e) h.own flat_raw (by have := h.own.len; simpa using this.symm) hle fun g hg => hD g (h.new g hg)
section
variable {w : World}
theorem c_r49before {D : Nat → Prop} {l k : List Int} {A B : Option Addr} {n c m e : Nat} (hl : SlR tInt D w A n l) (hk : SlR tInt D w B m k) : CallZ Tryz.prog 66 #[.slice A n c, .slice B m e] w (fun v w' => v = .bool (decide (cmpL l k < 0)) ∧ w' = w) := by
  have l1 := hl.len
  have l2 := hk.len
  have hle := hl.le
  refine fn_rule (args := [.slice A n c, .slice B m e]) Tryz.func66 (by kernel_rfl) ?_
  refine loop_rule (fun j : Nat => [(5, iv (j : Int))]) (fun j u => j ≤ n ∧ j ≤ m ∧ w = u ∧ cmpL (l.drop j) (k.drop j) = cmpL l k) (fun j _ => n - j) 0 ⟨rfl, trivial⟩ ⟨by omega, by omega, rfl, by rw [List.drop_zero, List.drop_zero]⟩ rfl ?_
  rintro G j u ⟨hj, hjm, rfl, hc⟩
  have fin : (n ≤ j ∨ m ≤ j) → (cmpL l k < 0 ↔ n < m) := fun h => by
    rw [← hc]
    rcases Nat.lt_or_ge j n with h1 | h1
    · have h2 : m ≤ j := by omega
      rw [List.drop_eq_getElem_cons (by omega : j < l.length), List.drop_eq_nil_of_le (by omega : k.length ≤ j)]
      unfold cmpL
      constructor
      · intro h; exact absurd h (by decide)
      · intro h; omega
    · rw [List.drop_eq_nil_of_le (by omega : l.length ≤ j)]
      rcases Nat.lt_or_ge j m with h2 | h2
      · rw [List.drop_eq_getElem_cons (by omega : j < k.length)]
        unfold cmpL
        exact ⟨fun _ => by omega, fun _ => by decide⟩
      · rw [List.drop_eq_nil_of_le (by omega : k.length ≤ j)]
        unfold cmpL
        constructor
        · intro h; exact absurd h (by decide)
        · intro h; omega
  have done : (n ≤ j ∨ m ≤ j) → (n < m ∧ decide (cmpL l k < 0) = true) ∨ (¬ n < m ∧ decide (cmpL l k < 0) = false) := fun h => by
    have := fin h
    by_cases hnm : n < m
    · exact .inl ⟨hnm, decide_eq_true (this.2 hnm)⟩
    · exact .inr ⟨hnm, decide_eq_false fun h => hnm (this.1 h)⟩
  refine len ?_
  refine cD (fun hlt => ?_) (fun hge => ?_)
  · have hlt : j < n := by omega
    refine len ?_
    refine cD (fun hltm => ?_) (fun hgem => ?_)
    · have hltm : j < m := by omega
      obtain ⟨b1, o1, cs, x, rfl, hx, hdx, -, hc1, rfl, -⟩ := hl.at_ hlt
      obtain ⟨b2, o2, cs, y, rfl, hy, hdy, -, hc2, rfl, -⟩ := hk.at_ hltm
      rw [hdx, hdy, show cmpL (x :: l.drop (j + 1)) (y :: k.drop (j + 1)) = if cmpK x y ≠ 0 then cmpK x y else cmpL (l.drop (j + 1)) (k.drop (j + 1)) from cmpL_cons _ _ _ _] at hc
      refine drawQ mx (by kernel_rfl) ?_
      refine idx j rfl hlt ?_
      refine ld (iv x) (hc1 0 _ rfl) ?_
      refine idx j rfl hltm ?_
      refine ld (iv y) (hc2 0 _ rfl) ?_
      refine cN (fun hne => ?_) (fun heq => ?_)
      · refine drawQ mx (by kernel_rfl) ?_
        refine idx j rfl hlt ?_
        refine ld (iv x) (hc1 0 _ rfl) ?_
        refine idx j rfl hltm ?_
        refine ld (iv y) (hc2 0 _ rfl) ?_
        refine cD (fun h => ?_) (fun h => ?_)
        · refine ret1 (.bool true) rfl ⟨?_, rfl⟩
          rw [decide_eq_true]
          rw [← hc, if_pos (by unfold cmpK; rw [if_pos h]; decide)]
          unfold cmpK; rw [if_pos h]; decide
        · refine ret1 (.bool false) rfl ⟨?_, rfl⟩
          rw [decide_eq_false]
          have h2 : y < x := by omega
          rw [← hc, if_pos (by unfold cmpK; rw [if_neg h, if_pos h2]; decide)]
          unfold cmpK; rw [if_neg h, if_pos h2]; decide
      · refine arI (by omega) ?_
        refine next (j + 1) ⟨by rw [Int.natCast_add]; rfl, trivial⟩ ⟨by omega, by omega, rfl, ?_⟩ (by omega)
        rw [← hc, if_neg]
        unfold cmpK; rw [if_neg (by omega), if_neg (by omega)]; simp
    · refine len ?_
      refine len ?_
      rcases done (.inr (by omega)) with ⟨h1, h2⟩ | ⟨h1, h2⟩
      · refine cD (fun _ => ?_) (fun h => absurd (by omega) h)
        exact ret1 (.bool true) rfl ⟨by rw [h2], rfl⟩
      · refine cD (fun h => absurd (by omega) h1) (fun _ => ?_)
        exact ret1 (.bool false) rfl ⟨by rw [h2], rfl⟩
  · refine len ?_
    refine len ?_
    rcases done (.inl (by omega)) with ⟨h1, h2⟩ | ⟨h1, h2⟩
    · refine cD (fun _ => ?_) (fun h => absurd (by omega) h)
      exact ret1 (.bool true) rfl ⟨by rw [h2], rfl⟩
    · refine cD (fun h => absurd (by omega) h1) (fun _ => ?_)
      exact ret1 (.bool false) rfl ⟨by rw [h2], rfl⟩
set_option maxRecDepth 4000 in
theorem c_r49put {w0 : World} {A : Option Addr} {n c : Nat} {s : List Hd} {hx : Hd} (o : OwnL w0 w A n c s) (hn : n ≤ 100000) (hX : HdI w0 w hx) : CallZ Tryz.prog 39 #[.slice A n c, hx.v] w
    (fun v w' => ∃ A' n' c', ∃ s' : List Hd, v = .slice A' n' c' ∧ OwnF w w' A' n' c' 43 1 (s'.map Hd.v) ∧ s'.map (·.l) = putS (s.map (·.l)) hx.l ∧ ∀ h ∈ s', h ∈ s ∨ h = hx) := by
  have hln := o.len
  obtain ⟨AX, nX, cX, lX⟩ := hx
  refine fn_rule (args := [.slice A n c, .slice AX nX cX]) Tryz.func39 (by kernel_rfl) ?_
  refine loop4 (fun (k : Nat) (B : Option Addr) (m e : Nat) => [(6, iv (k : Int)), (5, .slice B m e)]) (fun k B m e u => k ≤ n ∧ m ≤ k ∧ OwnF w u B m e 43 1 ((s.take k).map Hd.v) ∧ putS (s.map (·.l)) lX = (s.take k).map (·.l) ++ putS ((s.drop k).map (·.l)) lX) (fun k _ _ _ _ => n - k) 0 none 0 0 ⟨rfl, rfl, trivial⟩ ⟨by omega, Nat.le_refl _, OwnF.nil (.refl _ _), by rw [List.take_zero, List.drop_zero]; rfl⟩ rfl ?_
  rintro G k B m e u ⟨hk, hm, q, hp⟩
  have tail : putS ((s.drop k).map (·.l)) lX = lX :: (s.drop k).map (·.l) → ∀ u1 (_ : Ext u u1) gg (_ : NewB u 43 [.slice AX nX cX] gg u1), True := fun _ _ _ _ _ => trivial
  clear tail
  refine len ?_
  refine cD (fun hlt => ?goon) (fun hge => ?last)
  case' goon =>
    have hlt : k < n := by omega
    obtain ⟨g, ⟨Ah, nh, ch, lh⟩, rfl, hhd, hc, hI⟩ := o.cell hlt
    have hc : u.cell? (ad g (0 + k * 1)) = some (.slice Ah nh ch) := q.ext.cell hc trivial
    have hdr : s.drop k = ⟨Ah, nh, ch, lh⟩ :: s.drop (k + 1) := by
      have h1 : k < s.length := by omega
      rw [List.getElem?_eq_getElem h1] at hhd
      injection hhd with hhd
      rw [← hhd]; exact List.drop_eq_getElem_cons h1
    have htk : s.take (k + 1) = s.take k ++ [⟨Ah, nh, ch, lh⟩] := by rw [List.take_add_one, hhd]; rfl
    have hps : putS ((s.drop k).map (·.l)) lX = if cmpL lh lX < 0 then lh :: putS ((s.drop (k + 1)).map (·.l)) lX else lX :: (s.drop k).map (·.l) := by rw [hdr]; rfl
    refine idx k rfl hlt ?_
    refine ld (.slice Ah nh ch) hc ?_
    refine callB (c_r49before (D := fun _ => True) (show SlR tInt (fun _ => True) u Ah nh lh from (hI.ext q.ext).rdT) (show SlR tInt (fun _ => True) u AX nX lX from (hX.ext q.ext).rdT)) (fun hb => ?_) (fun hb => ?_)
    · have hb := of_decide_eq_true hb
      refine idx k rfl hlt ?_
      refine ld (.slice Ah nh ch) hc ?_
      refine lit [.slice Ah nh ch] (fun gg u1 hq => ?_)
      refine appF (q.then hq.ext) (hq.src (sz := 1) rfl) (by omega) (fun B' e' u2 q2 kk hA => ?_)
      refine arI (by omega) ?_
      refine next4 (k + 1) B' (m + 1) e' ⟨by rw [Int.natCast_add]; rfl, rfl, trivial⟩ ⟨by omega, by omega, ?_, ?_⟩ (by omega)
      · rw [htk, List.map_append]; exact q2
      · rw [hp, hps, if_pos hb, htk, List.map_append, List.append_assoc]; rfl
  case' goon =>
    have hb := of_decide_eq_false hb
    have hfin : putS ((s.drop k).map (·.l)) lX = lX :: (s.drop k).map (·.l) := by rw [hps, if_neg hb]
  case' last =>
    have hfin : putS ((s.drop k).map (·.l)) lX = lX :: (s.drop k).map (·.l) := by rw [List.drop_eq_nil_of_le (by omega : s.length ≤ k)]; rfl
  all_goals
    refine lit [.slice AX nX cX] (fun gg u1 hq => ?_)
    refine appF (q.then hq.ext) (hq.src (sz := 1) rfl) (by omega) (fun B' e' u2 q2 kk hA => ?_)
    have hr := o.own.raw (D := fun _ => True) (by omega) fun _ _ => trivial
    refine slcR k n hr o.own.le rfl rfl hk (Nat.le_refl _) rfl (fun A8 hA8 => ?_)
    have hr8 := hA8 _ u2 (hr.ext q2.ext)
    refine appF q2 (raw_src hr8) (by omega) (fun B3 e3 u3 q3 kk3 hA3 => ?_) (h1 := List.all_eq_true.2 fun v hv => by
      obtain ⟨z, -, rfl⟩ := List.mem_map.1 (List.mem_of_mem_take (List.mem_of_mem_drop hv)); rfl)
    refine ret1 (.slice B3 (m + 1 + (n - k)) e3) rfl ⟨B3, _, e3, s.take k ++ [⟨AX, nX, cX, lX⟩] ++ s.drop k, rfl, ?_, ?_, fun h hh => ?_⟩
    · rw [List.map_append, List.map_append]
      have e1 : (List.take n (s.map Hd.v)).drop k = (s.drop k).map Hd.v := by rw [List.take_of_length_le (by rw [List.length_map]; omega), List.map_drop]
      rw [e1] at q3
      exact q3
    · rw [hp, hfin, List.map_append, List.map_append, List.append_assoc]; rfl
    · rcases List.mem_append.1 hh with hh | hh
      · rcases List.mem_append.1 hh with hh | hh
        · exact .inl (List.mem_of_mem_take hh)
        · exact .inr (List.mem_singleton.1 hh)
      · exact .inl (List.mem_of_mem_drop hh)
end
end Go.Proofs.YtcpdhclnmjfldaaGreat

/- Layer 49's reference: least, Minimal, Smallest, count, Named, Needed, Blame, Same. -/
namespace Go.Proofs.YtcpdhclnmjfldaaGreat
open Go Go.RowKit

theorem arE49 {n : Int} {K : Value → Prop} (m : Int) (e : n = m) (h : -9223372036854775808 ≤ m ∧ m ≤ 9223372036854775807) (k : K (.int .i64 m)) : ArP .i64 n K := by subst e; exact arI h k
section
variable {w : World}
set_option maxRecDepth 4000 in
theorem c_r49least {D : Nat → Prop} {t : List Bool} {S k n c : Nat} {A : Option Addr} (h : SlR tBool D w A n t) (hS : S ≤ 12) (hlen : t.length ≤ 2 ^ S) (hk : k < n) : CallZ Tryz.prog 38 #[.slice A n c, iv (k : Int)] w (fun v w' => v = .bool (minB t S k) ∧ w' = w) := by
  have hl := h.len
  have hpow : 2 ^ S ≤ 4096 := Nat.le_trans (Nat.pow_le_pow_right (by omega) hS) (by decide)
  obtain ⟨b, o, cs, y, rfl, hy, -, -, hc, rfl⟩ := h.at_ hk
  have hyt : y = tget t k := by unfold tget; rw [List.getD_eq_getElem?_getD, hy]; rfl
  have cellAt : ∀ j, j < n → w.cell? (ad b (o + j * 1)) = some (.bool (tget t j)) := fun j hj => by
    obtain ⟨b', o', cs', y', e, hy', -, -, hc', rfl⟩ := h.at_ hj
    simp only [Option.some.injEq, Addr.mk.injEq] at e
    obtain ⟨rfl, rfl, -⟩ := e
    have : y' = tget t j := by unfold tget; rw [List.getD_eq_getElem?_getD, hy']; rfl
    rw [← this]; exact hc' 0 _ rfl
  refine fn_rule (args := [.slice (some (ad b o)) n c, iv (k : Int)]) Tryz.func38 (by kernel_rfl) ?_
  refine idx k rfl hk ?_
  refine ld (.bool y) (hc 0 _ rfl) ?_
  cases hyv : y with
  | false => exact ret1 (.bool false) rfl ⟨by unfold minB; rw [← hyt, hyv]; rfl, rfl⟩
  | true =>
  have htk : tget t k = true := by rw [← hyt, hyv]
  refine loop_rule (fun p : Nat => [(5, iv (p : Int))]) (fun p u => w = u ∧ ∃ i, i ≤ S ∧ p = 2 ^ i ∧ true = (tget t k && (List.range i).all fun j => !k.testBit j || !tget t (k - 2 ^ j))) (fun p _ => k + 1 - p) 1 ⟨rfl, trivial⟩ ⟨rfl, 0, by omega, rfl, by rw [htk]; rfl⟩ rfl ?_
  rintro G p u ⟨rfl, i, hi, hp, hall⟩
  have hp0 : 0 < p := by rw [hp]; exact Nat.two_pow_pos i
  refine cD (fun hle => ?_) (fun hgt => ?_)
  · have hle : p ≤ k := by omega
    have hiS : i < S := by
      rcases Nat.lt_or_ge i S with h | h
      · exact h
      · have : i = S := by omega
        rw [this] at hp; omega
    have hbit : k.testBit i = true ↔ (k / p) % 2 = 1 := by rw [Nat.testBit_eq_decide_div_mod_eq, decide_eq_true_eq, hp]
    have ediv : (k : Int) / (p : Int) = ((k / p : Nat) : Int) := by norm_cast
    have hdl : k / p ≤ k := Nat.div_le_self _ _
    have hp2 : 2 * p = 2 ^ (i + 1) := by rw [hp, Nat.pow_succ]; omega
    have hst := min_step hall
    obtain ⟨q, hq⟩ : ∃ q, q = k / p := ⟨_, rfl⟩
    rw [← hq] at hbit hdl ediv
    refine quoI (by omega) (by omega) (by omega) ?_
    rw [ediv]
    refine remI (by omega) (by omega) ?_
    refine cD (fun g => ?_) (fun g => ?_)
    · have hb := hbit.2 (by omega)
      have hcell := cellAt (k - p) (by omega)
      rw [hb, ← hp] at hst
      have ekp : (k : Int) - (p : Int) = ((k - p : Nat) : Int) := by omega
      cases hv : tget t (k - p) with
      | true =>
        rw [hv] at hcell hst
        refine arE49 ((k - p : Nat) : Int) ekp (by omega) ?_
        refine idx (k - p) rfl (by omega) ?_
        refine ld (.bool true) hcell ?_
        exact ret1 (.bool false) rfl ⟨by rw [min_false (show i + 1 ≤ S by omega) hst.symm], rfl⟩
      | false =>
        rw [hv] at hcell hst
        refine arE49 ((k - p : Nat) : Int) ekp (by omega) ?_
        refine idx (k - p) rfl (by omega) ?_
        refine ld (.bool false) hcell ?_
        refine arE49 ((2 * p : Nat) : Int) (by omega) (by omega) ?_
        exact next (2 * p) ⟨rfl, trivial⟩ ⟨rfl, i + 1, by omega, hp2, hst⟩ (by omega)
    · have hb : k.testBit i = false := by
        cases hb : k.testBit i with
        | false => rfl
        | true => exact absurd (hbit.1 hb) (by omega)
      rw [hb] at hst
      refine arE49 ((2 * p : Nat) : Int) (by omega) (by omega) ?_
      exact next (2 * p) ⟨rfl, trivial⟩ ⟨rfl, i + 1, by omega, hp2, hst⟩ (by omega)
  · refine ret1 (.bool true) rfl ⟨?_, rfl⟩
    rw [← min_done hi (show k >>> i = 0 by rw [Nat.shiftRight_eq_div_pow, ← hp]; exact Nat.div_eq_of_lt (by omega)), ← hall]
set_option maxRecDepth 8000 in
theorem c_r49Minimal {D : Nat → Prop} {csd csx : List Value} {d : Dist} {x : Ev} (hd : DiR D w csd d) (hx : EvR D w csx x) : CallZ Tryz.prog 11 #[.agg csd.toArray, .agg csx.toArray] w
    (fun v w' => ∃ A n c s, v = .tuple #[.slice A n c, iv (evErr d x)] ∧ OwnL w w' A n c s ∧ s.map (·.l) = minSets d x) := by
  have hd := hd.more (D' := fun _ => True) fun _ _ _ => trivial
  have hx := hx.more (D' := fun _ => True) fun _ _ _ => trivial
  obtain ⟨A1, n1, c1, A2, n2, c2, A3, n3, c3, A4, n4, c4, A5, n5, c5, A6, n6, c6, rfl, -⟩ := hd.ex
  obtain ⟨W1, m1, e1, S1, m2, e2, rfl, hwv, hsu, -⟩ := hx.ex
  have lsu := hsu.len
  refine fn_rule (args := [.agg #[.string d.name, iv d.hours, iv d.cap, iv d.start, .slice A1 n1 c1, .slice A2 n2 c2, .slice A3 n3 c3, .slice A4 n4 c4, .slice A5 n5 c5, .slice A6 n6 c6], .agg #[.slice W1 m1 e1, .slice S1 m2 e2]]) Tryz.func11 (by kernel_rfl) ?_
  refine box (fun bd w1 h1 => ?_)
  refine box (fun bx w2 h2 => ?_)
  have x2 := h1.ext.trans h2.ext
  have Bd : Blk w2 bd 31 [.string d.name, iv d.hours, iv d.cap, iv d.start, .slice A1 n1 c1, .slice A2 n2 c2, .slice A3 n3 c3, .slice A4 n4 c4, .slice A5 n5 c5, .slice A6 n6 c6] := h1.blk.ext h2.ext
  have Bx : Blk w2 bx 35 [.slice W1 m1 e1, .slice S1 m2 e2] := h2.blk
  refine ldA [.string d.name, iv d.hours, iv d.cap, iv d.start, .slice A1 n1 c1, .slice A2 n2 c2, .slice A3 n3 c3, .slice A4 n4 c4, .slice A5 n5 c5, .slice A6 n6 c6] (.blk Bd) rfl ?_
  refine ldA [.slice W1 m1 e1, .slice S1 m2 e2] (.blk Bx) rfl ?_
  refine call_of (c_r48Table (hd.ext x2) (hx.ext x2)) ?_
  rintro _ w4 ⟨TA, tn, tc, rfl, oT⟩
  have x04 := x2.trans oT.ext
  have Bx := Bx.ext oT.ext
  obtain ⟨e, he⟩ : ∃ e, e = evErr d x := ⟨_, rfl⟩
  rw [← he]
  refine cN (fun g => ?_) (fun g => ?_)
  · exact ret2 (.slice none 0 0) (iv e) rfl rfl ⟨none, 0, 0, [], rfl, OwnL.nil x04, (minSets_err (by rw [← he]; exact g)).symm⟩
  have hev : evErr d x = 0 := by rw [← he]; exact g
  obtain ⟨-, -, hS⟩ := ev_sizes hev
  have tl := table_len hev
  have hpow : 2 ^ x.suspects.length ≤ 4096 := Nat.le_trans (Nat.pow_le_pow_right (by omega) hS) (by decide)
  have sT := oT.bools (D := fun _ => True) (by rw [tl]; omega) fun _ _ => trivial
  have hms : minSets d x = putsS (minPre (tableV d x) x.suspects.length tn) := by unfold minSets minV minL minPre; rw [sT.len]
  rw [hms]
  have htl : (tableV d x).length ≤ 2 ^ x.suspects.length := by rw [tl]; exact Nat.le_refl _
  generalize tableV d x = t at sT htl ⊢
  generalize hSx : x.suspects.length = S at hS hpow htl lsu ⊢
  have htn := sT.len
  refine loop4 (fun (k : Nat) (B : Option Addr) (m e : Nat) => [(9, iv (k : Int)), (8, .slice B m e)]) (fun k B m e u => k ≤ tn ∧ m ≤ k ∧ Ext w4 u ∧ ∃ s, OwnL w u B m e s ∧ s.map (·.l) = putsS (minPre t S k)) (fun k _ _ _ _ => tn - k) 0 none 0 0 ⟨rfl, rfl, trivial⟩ ⟨by omega, Nat.le_refl _, .refl _ _, [], OwnL.nil x04, rfl⟩ rfl ?_
  rintro G k B m e' u ⟨hk, hm, xu, s, o, hs⟩
  refine len ?_
  refine cD (fun hlt => ?_) (fun hge => ?_)
  · have hlt : k < tn := by omega
    refine callB (c_r49least (S := S) (sT.ext xu) hS htl hlt) (fun hb => ?_) (fun hb => ?_)
    · refine fldA ?_
      refine ld (.slice S1 m2 e2) ((Bx.ext xu).cell rfl) ?_
      refine len ?_
      rw [← lsu]
      refine call_of (c_r48Members (m := k) (many := S) (by omega) hS) ?_
      rintro _ u1 ⟨A', n', c', rfl, o'⟩
      have hn' : n' ≤ 12 := by
        have h1 := o'.own.len
        rw [List.length_map] at h1
        have h2 := members_len k S
        omega
      have hsz := (x04.trans xu).size
      have hH : HdI w u1 ⟨A', n', c', membersL k S⟩ := HdI.own o' hsz (fun v hv => by have := members_bound k S v hv; unfold I64; omega) (by omega)
      refine call_of (c_r49put (o.ext o'.ext) (by omega) hH) ?_
      rintro _ u2 ⟨A2, n2', c2', s', rfl, q, hs', hmem⟩
      have xw1 := (x04.trans xu).trans o'.ext
      have hlen2 : n2' = m + 1 := by
        have h1 := q.own.len
        rw [List.length_map, Nat.mul_one] at h1
        have h2 := congrArg List.length hs'
        rw [List.length_map, (putS_perm _ _).length_eq, List.length_cons, List.length_map] at h2
        have := o.len
        omega
      refine arI (by omega) ?_
      refine next4 (k + 1) A2 n2' c2' ⟨by rw [Int.natCast_add]; rfl, rfl, trivial⟩ ⟨by omega, by omega, (xu.trans o'.ext).trans q.ext, s', ⟨q.base xw1, fun h hh => ?_⟩, ?_⟩ (by omega)
      · rcases hmem h hh with hh | rfl
        · exact ((o.ext o'.ext).hds h hh).ext q.ext
        · exact hH.ext q.ext
      · rw [hs', hs, minPre_yes hb, putsS_snoc]
    · refine arI (by omega) ?_
      exact next4 (k + 1) B m e' ⟨by rw [Int.natCast_add]; rfl, rfl, trivial⟩ ⟨by omega, by omega, xu, s, o, by rw [hs, minPre_no hb]⟩ (by omega)
  · obtain rfl : k = tn := by omega
    exact ret2 (.slice B m e') (iv 0) rfl rfl ⟨B, m, e', s, by rw [g], o, hs⟩
set_option maxRecDepth 8000 in
theorem c_r49Smallest {D : Nat → Prop} {csd csx : List Value} {d : Dist} {x : Ev} (hd : DiR D w csd d) (hx : EvR D w csx x) : CallZ Tryz.prog 13 #[.agg csd.toArray, .agg csx.toArray] w
    (fun v w' => ∃ A n c s, v = .tuple #[.slice A n c, iv (evErr d x)] ∧ OwnL w w' A n c s ∧ s.map (·.l) = smallV x.suspects.length (minSets d x)) := by
  have hd := hd.more (D' := fun _ => True) fun _ _ _ => trivial
  have hx := hx.more (D' := fun _ => True) fun _ _ _ => trivial
  obtain ⟨A1, n1, c1, A2, n2, c2, A3, n3, c3, A4, n4, c4, A5, n5, c5, A6, n6, c6, rfl, -⟩ := hd.ex
  obtain ⟨W1, m1, e1, S1, m2, e2, rfl, hwv, hsu, -⟩ := hx.ex
  have lsu := hsu.len
  refine fn_rule (args := [.agg #[.string d.name, iv d.hours, iv d.cap, iv d.start, .slice A1 n1 c1, .slice A2 n2 c2, .slice A3 n3 c3, .slice A4 n4 c4, .slice A5 n5 c5, .slice A6 n6 c6], .agg #[.slice W1 m1 e1, .slice S1 m2 e2]]) Tryz.func13 (by kernel_rfl) ?_
  refine box (fun bd w1 h1 => ?_)
  refine box (fun bx w2 h2 => ?_)
  have x2 := h1.ext.trans h2.ext
  have Bd : Blk w2 bd 31 [.string d.name, iv d.hours, iv d.cap, iv d.start, .slice A1 n1 c1, .slice A2 n2 c2, .slice A3 n3 c3, .slice A4 n4 c4, .slice A5 n5 c5, .slice A6 n6 c6] := h1.blk.ext h2.ext
  have Bx : Blk w2 bx 35 [.slice W1 m1 e1, .slice S1 m2 e2] := h2.blk
  refine ldA [.string d.name, iv d.hours, iv d.cap, iv d.start, .slice A1 n1 c1, .slice A2 n2 c2, .slice A3 n3 c3, .slice A4 n4 c4, .slice A5 n5 c5, .slice A6 n6 c6] (.blk Bd) rfl ?_
  refine ldA [.slice W1 m1 e1, .slice S1 m2 e2] (.blk Bx) rfl ?_
  refine call_of (c_r49Minimal (hd.ext x2) (hx.ext x2)) ?_
  rintro _ w3 ⟨A, n, c, s, rfl, o, hs⟩
  have x3 := x2.trans o.own.ext
  have Bx := Bx.ext o.own.ext
  obtain ⟨e, he⟩ : ∃ e, e = evErr d x := ⟨_, rfl⟩
  rw [← he]
  refine cN (fun g => ?_) (fun g => ?_)
  · exact ret2 (.slice none 0 0) (iv e) rfl rfl ⟨none, 0, 0, [], rfl, OwnL.nil x3, by rw [minSets_err (by rw [← he]; exact g)]; rfl⟩
  have hln := o.len
  have hml := min_len (d := d) (x := x)
  have hml2 : n = (minSets d x).length := by rw [← hs, List.length_map]; exact hln
  have hev : evErr d x = 0 := by rw [← he]; exact g
  obtain ⟨-, -, hS⟩ := ev_sizes hev
  refine fldA ?_
  refine ld (.slice S1 m2 e2) (Bx.cell rfl) ?_
  refine len ?_
  refine loop2 (fun (k m : Nat) => [(9, iv (k : Int)), (8, iv (m : Int))]) (fun k m u => k ≤ n ∧ w3 = u ∧ m ≤ 12 ∧ m = ((minSets d x).take k).foldl (fun m l => min m l.length) x.suspects.length) (fun k _ _ => n - k) 0 m2 ⟨rfl, rfl, trivial⟩ ⟨by omega, rfl, by omega, by rw [List.take_zero]; exact lsu.symm⟩ rfl ?_
  rintro G k m u ⟨hk, rfl, hm12, hm⟩
  refine len ?_
  refine cD (fun hlt => ?_) (fun hge => ?_)
  · have hlt : k < n := by omega
    obtain ⟨g', hh, rfl, hhd, hc, hI⟩ := o.cell hlt
    have hmk : (minSets d x)[k]? = some hh.l := by rw [← hs, List.getElem?_map, hhd]; rfl
    have hhl := (min_mem_len (List.mem_of_getElem? hmk)).1
    have hll := hI.rd.len
    refine idx k rfl hlt ?_
    refine ld hh.v hc ?_
    refine len ?_
    refine arI (by omega) ?_
    refine next2 (k + 1) (min m hh.l.length) ⟨by rw [Int.natCast_add]; rfl, ?_, trivial⟩ ⟨by omega, rfl, by omega, ?_⟩ (by omega)
    · show iv (min (m : Int) (hh.n : Int)) = _
      have : min (m : Int) (hh.n : Int) = ((min m hh.l.length : Nat) : Int) := by rw [hll]; omega
      rw [this]
    · rw [List.take_add_one, hmk, List.foldl_append, ← hm]; rfl
  rw [List.take_of_length_le (by omega)] at hm
  refine loop4 (fun (k : Nat) (B : Option Addr) (m' e : Nat) => [(11, iv (k : Int)), (10, .slice B m' e)]) (fun k B m' e z => k ≤ n ∧ m' ≤ k ∧ OwnF w3 z B m' e 43 1 (((s.take k).filter fun h => decide (h.l.length = m)).map Hd.v)) (fun k _ _ _ _ => n - k) 0 none 0 0 ⟨rfl, rfl, trivial⟩ ⟨by omega, Nat.le_refl _, OwnF.nil (.refl _ _)⟩ rfl ?_
  rintro G2 j B m' e' z ⟨hj, hm', q⟩
  refine len ?_
  refine cD (fun hlt => ?_) (fun hge => ?_)
  · have hlt : j < n := by omega
    obtain ⟨g', ⟨Ah, nh, ch, lh⟩, rfl, hhd, hc, hI⟩ := o.cell hlt
    have hc : z.cell? (ad g' (0 + j * 1)) = some (.slice Ah nh ch) := q.ext.cell hc trivial
    have hll : lh.length = nh := hI.rd.len
    have htk : s.take (j + 1) = s.take j ++ [⟨Ah, nh, ch, lh⟩] := by rw [List.take_add_one, hhd]; rfl
    refine idx j rfl hlt ?_
    refine ld (.slice Ah nh ch) hc ?_
    refine len ?_
    refine cE (fun hh => ?_) (fun hh => ?_)
    · refine idx j rfl hlt ?_
      refine ld (.slice Ah nh ch) hc ?_
      refine lit [.slice Ah nh ch] (fun gg u1 hq => ?_)
      refine appF (q.then hq.ext) (hq.src (sz := 1) rfl) (by omega) (fun B' e2' u2 q2 kk hA => ?_)
      refine arI (by omega) ?_
      refine next4 (j + 1) B' (m' + 1) e2' ⟨by rw [Int.natCast_add]; rfl, rfl, trivial⟩ ⟨by omega, by omega, ?_⟩ (by omega)
      rw [htk, List.filter_append, List.map_append, show [(⟨Ah, nh, ch, lh⟩ : Hd)].filter (fun h => decide (h.l.length = m)) = [⟨Ah, nh, ch, lh⟩] by rw [List.filter_cons_of_pos (by simp only [decide_eq_true_eq]; omega)]; rfl]
      exact q2
    · refine arI (by omega) ?_
      refine next4 (j + 1) B m' e' ⟨by rw [Int.natCast_add]; rfl, rfl, trivial⟩ ⟨by omega, by omega, ?_⟩ (by omega)
      rw [htk, List.filter_append, List.map_append, show [(⟨Ah, nh, ch, lh⟩ : Hd)].filter (fun h => decide (h.l.length = m)) = [] by rw [List.filter_cons_of_neg (by simp only [decide_eq_true_eq]; omega)]; rfl]
      simpa using q
  · rw [List.take_of_length_le (by omega)] at q
    refine ret2 (.slice B m' e') (iv 0) rfl rfl ⟨B, m', e', _, by rw [g], ⟨q.base x3, fun h hh => ((o.hds h (List.mem_filter.1 hh).1).base x2.size).ext q.ext⟩, ?_⟩
    unfold smallV
    rw [← hm, ← hs, List.filter_map]
    rfl
theorem c_r49count {w0 : World} {A : Option Addr} {n c : Nat} {s : List Hd} {i : Int} (o : OwnL w0 w A n c s) (hn : n ≤ 100000) : CallZ Tryz.prog 45 #[.slice A n c, iv i] w (fun v w' => v = iv ((cntS (s.map (·.l)) i : Nat) : Int) ∧ w' = w) := by
  have hln := o.len
  refine fn_rule (args := [.slice A n c, iv i]) Tryz.func45 (by kernel_rfl) ?_
  refine loop2 (fun (k m : Nat) => [(6, iv (k : Int)), (5, iv (m : Int))]) (fun k m u => k ≤ n ∧ w = u ∧ m ≤ k ∧ m = cntS ((s.map (·.l)).take k) i) (fun k _ _ => n - k) 0 0 ⟨rfl, rfl, trivial⟩ ⟨by omega, rfl, Nat.le_refl _, rfl⟩ rfl ?_
  rintro G k m u ⟨hk, rfl, hmk, hm⟩
  refine len ?_
  refine cD (fun hlt => ?_) (fun hge => ?_)
  · have hlt : k < n := by omega
    obtain ⟨g', ⟨Ah, nh, ch, lh⟩, rfl, hhd, hc, hI⟩ := o.cell hlt
    have hml : (s.map (·.l))[k]? = some lh := by rw [List.getElem?_map, hhd]; rfl
    have htk : cntS ((s.map (·.l)).take (k + 1)) i = m + if i ∈ lh then 1 else 0 := by
      rw [List.take_add_one, hml, hm]
      unfold cntS
      rw [List.filter_append, List.length_append]
      by_cases hi : i ∈ lh
      · rw [if_pos hi]; simp [hi]
      · rw [if_neg hi]; simp [hi]
    refine idx k rfl hlt ?_
    refine ld (.slice Ah nh ch) hc ?_
    refine callB (c_r49Has (show SlR tInt (fun _ => True) w Ah nh lh from hI.rdT)) (fun hh => ?_) (fun hh => ?_)
    · refine arI (by omega) ?_
      refine arI (by omega) ?_
      exact next2 (k + 1) (m + 1) ⟨by rw [Int.natCast_add]; rfl, by rw [Int.natCast_add]; rfl, trivial⟩ ⟨by omega, rfl, by omega, by rw [htk, if_pos (of_decide_eq_true hh)]⟩ (by omega)
    · refine arI (by omega) ?_
      exact next2 (k + 1) m ⟨by rw [Int.natCast_add]; rfl, rfl, trivial⟩ ⟨by omega, rfl, by omega, by rw [htk, if_neg (of_decide_eq_false hh), Nat.add_zero]⟩ (by omega)
  · rw [List.take_of_length_le (by rw [List.length_map]; omega)] at hm
    exact ret1 (iv (m : Int)) rfl ⟨by rw [hm], rfl⟩
end
end Go.Proofs.YtcpdhclnmjfldaaGreat

/- Layer 49's reference: Named, Needed, Blame, Same; the laws SuspectsSpec and SuspectsNamedSpec. -/
namespace Go.Proofs.YtcpdhclnmjfldaaGreat
open Go Go.RowKit

section
variable {w : World}
set_option maxRecDepth 8000 in
theorem c_r49Named {D : Nat → Prop} {csd csx : List Value} {d : Dist} {x : Ev} (hd : DiR D w csd d) (hx : EvR D w csx x) : CallZ Tryz.prog 16 #[.agg csd.toArray, .agg csx.toArray] w
    (fun v w' => ∃ A n c, v = .tuple #[.slice A n c, iv (evErr d x)] ∧ OwnF w w' A n c 3 1 ((namedV d x).map fun k => .int .i64 k)) := by
  have hd := hd.more (D' := fun _ => True) fun _ _ _ => trivial
  have hx := hx.more (D' := fun _ => True) fun _ _ _ => trivial
  obtain ⟨A1, n1, c1, A2, n2, c2, A3, n3, c3, A4, n4, c4, A5, n5, c5, A6, n6, c6, rfl, -⟩ := hd.ex
  obtain ⟨W1, m1, e1, S1, m2, e2, rfl, hwv, hsu, -⟩ := hx.ex
  have lsu := hsu.len
  refine fn_rule (args := [.agg #[.string d.name, iv d.hours, iv d.cap, iv d.start, .slice A1 n1 c1, .slice A2 n2 c2, .slice A3 n3 c3, .slice A4 n4 c4, .slice A5 n5 c5, .slice A6 n6 c6], .agg #[.slice W1 m1 e1, .slice S1 m2 e2]]) Tryz.func16 (by kernel_rfl) ?_
  refine box (fun bd w1 h1 => ?_)
  refine box (fun bx w2 h2 => ?_)
  have x2 := h1.ext.trans h2.ext
  have Bd : Blk w2 bd 31 [.string d.name, iv d.hours, iv d.cap, iv d.start, .slice A1 n1 c1, .slice A2 n2 c2, .slice A3 n3 c3, .slice A4 n4 c4, .slice A5 n5 c5, .slice A6 n6 c6] := h1.blk.ext h2.ext
  have Bx : Blk w2 bx 35 [.slice W1 m1 e1, .slice S1 m2 e2] := h2.blk
  refine ldA [.string d.name, iv d.hours, iv d.cap, iv d.start, .slice A1 n1 c1, .slice A2 n2 c2, .slice A3 n3 c3, .slice A4 n4 c4, .slice A5 n5 c5, .slice A6 n6 c6] (.blk Bd) rfl ?_
  refine ldA [.slice W1 m1 e1, .slice S1 m2 e2] (.blk Bx) rfl ?_
  refine call_of (c_r49Minimal (hd.ext x2) (hx.ext x2)) ?_
  rintro _ w3 ⟨A, n, c, s, rfl, o, hs⟩
  have x3 := x2.trans o.own.ext
  have Bx := Bx.ext o.own.ext
  obtain ⟨e, he⟩ : ∃ e, e = evErr d x := ⟨_, rfl⟩
  rw [← he]
  refine cN (fun g => ?_) (fun g => ?_)
  · refine ret2 (.slice none 0 0) (iv e) rfl rfl ⟨none, 0, 0, rfl, ?_⟩
    have e0 : namedV d x = [] := by
      unfold namedV
      rw [minSets_err (by rw [← he]; exact g)]
      rw [List.filter_eq_nil_iff.2 fun i _ => by simp [cntS]]; rfl
    rw [e0]; exact OwnF.nil x3
  have hln := o.len
  have hml := min_len (d := d) (x := x)
  have hml2 : n = (minSets d x).length := by rw [← hs, List.length_map]; exact hln
  have hev : evErr d x = 0 := by rw [← he]; exact g
  obtain ⟨-, -, hS⟩ := ev_sizes hev
  refine loop4 (fun (k : Nat) (B : Option Addr) (m e : Nat) => [(9, iv (k : Int)), (8, .slice B m e)]) (fun k B m e z => k ≤ m2 ∧ m ≤ k ∧ OwnF w3 z B m e 3 1 ((((List.range k).filter fun i : Nat => decide (0 < cntS (minSets d x) i)).map fun i : Nat => (i : Int)).map fun k => .int .i64 k)) (fun k _ _ _ _ => m2 - k) 0 none 0 0 ⟨rfl, rfl, trivial⟩ ⟨by omega, Nat.le_refl _, OwnF.nil (.refl _ _)⟩ rfl ?_
  rintro G k B m e' z ⟨hk, hm, q⟩
  have o := o.ext q.ext
  refine fldA ?_
  refine ld (.slice S1 m2 e2) ((Bx.ext q.ext).cell rfl) ?_
  refine len ?_
  refine cD (fun hlt => ?_) (fun hge => ?_)
  · have hlt : k < m2 := by omega
    have yes : (decide (0 < cntS (minSets d x) k)) = true → ∀ {z' : World} {B' : Option Addr} {e3 : Nat}, OwnF w3 z' B' (m + 1) e3 3 1 (((((List.range k).filter fun i : Nat => decide (0 < cntS (minSets d x) i)).map fun i : Nat => (i : Int)).map fun k => .int .i64 k) ++ [iv (k : Int)]) → OwnF w3 z' B' (m + 1) e3 3 1 ((((List.range (k + 1)).filter fun i : Nat => decide (0 < cntS (minSets d x) i)).map fun i : Nat => (i : Int)).map fun k => .int .i64 k) := fun h z' B' e3 q => by
      rw [List.range_succ, List.filter_append, List.map_append, List.map_append, show [k].filter (fun i : Nat => decide (0 < cntS (minSets d x) i)) = [k] by simp only [List.filter_cons, h, List.filter_nil]; rfl]
      exact q
    have no : (decide (0 < cntS (minSets d x) k)) = false → OwnF w3 z B m e' 3 1 ((((List.range (k + 1)).filter fun i : Nat => decide (0 < cntS (minSets d x) i)).map fun i : Nat => (i : Int)).map fun k => .int .i64 k) := fun h => by
      rw [List.range_succ, List.filter_append, List.map_append, List.map_append, show [k].filter (fun i : Nat => decide (0 < cntS (minSets d x) i)) = [] by simp only [List.filter_cons, h, List.filter_nil]; rfl]
      simpa using q
    refine call_of (c_r49count (i := (k : Int)) o (by omega)) ?_
    rintro _ _ ⟨rfl, rfl⟩
    rw [hs]
    refine cD (fun h => ?_) (fun h => ?_)
    · refine lit [iv (k : Int)] (fun gg u1 hq => ?_)
      refine appF (q.then hq.ext) (hq.src (sz := 1) rfl) (by omega) (fun B' e2' u2 q2 kk hA => ?_)
      refine arI (by omega) ?_
      exact next4 (k + 1) B' (m + 1) e2' ⟨by rw [Int.natCast_add]; rfl, rfl, trivial⟩ ⟨by omega, by omega, yes (decide_eq_true (by omega)) q2⟩ (by omega)
    · refine arI (by omega) ?_
      exact next4 (k + 1) B m e' ⟨by rw [Int.natCast_add]; rfl, rfl, trivial⟩ ⟨by omega, by omega, no (decide_eq_false (by omega))⟩ (by omega)
  · obtain rfl : k = m2 := by omega
    refine ret2 (.slice B m e') (iv 0) rfl rfl ⟨B, m, e', by rw [g], ?_⟩
    unfold namedV
    rw [lsu]
    exact q.base x3
set_option maxRecDepth 8000 in
theorem c_r49Needed {D : Nat → Prop} {csd csx : List Value} {d : Dist} {x : Ev} (hd : DiR D w csd d) (hx : EvR D w csx x) : CallZ Tryz.prog 19 #[.agg csd.toArray, .agg csx.toArray] w
    (fun v w' => ∃ A n c, v = .tuple #[.slice A n c, iv (evErr d x)] ∧ OwnF w w' A n c 3 1 ((neededV d x).map fun k => .int .i64 k)) := by
  have hd := hd.more (D' := fun _ => True) fun _ _ _ => trivial
  have hx := hx.more (D' := fun _ => True) fun _ _ _ => trivial
  obtain ⟨A1, n1, c1, A2, n2, c2, A3, n3, c3, A4, n4, c4, A5, n5, c5, A6, n6, c6, rfl, -⟩ := hd.ex
  obtain ⟨W1, m1, e1, S1, m2, e2, rfl, hwv, hsu, -⟩ := hx.ex
  have lsu := hsu.len
  refine fn_rule (args := [.agg #[.string d.name, iv d.hours, iv d.cap, iv d.start, .slice A1 n1 c1, .slice A2 n2 c2, .slice A3 n3 c3, .slice A4 n4 c4, .slice A5 n5 c5, .slice A6 n6 c6], .agg #[.slice W1 m1 e1, .slice S1 m2 e2]]) Tryz.func19 (by kernel_rfl) ?_
  refine box (fun bd w1 h1 => ?_)
  refine box (fun bx w2 h2 => ?_)
  have x2 := h1.ext.trans h2.ext
  have Bd : Blk w2 bd 31 [.string d.name, iv d.hours, iv d.cap, iv d.start, .slice A1 n1 c1, .slice A2 n2 c2, .slice A3 n3 c3, .slice A4 n4 c4, .slice A5 n5 c5, .slice A6 n6 c6] := h1.blk.ext h2.ext
  have Bx : Blk w2 bx 35 [.slice W1 m1 e1, .slice S1 m2 e2] := h2.blk
  refine ldA [.string d.name, iv d.hours, iv d.cap, iv d.start, .slice A1 n1 c1, .slice A2 n2 c2, .slice A3 n3 c3, .slice A4 n4 c4, .slice A5 n5 c5, .slice A6 n6 c6] (.blk Bd) rfl ?_
  refine ldA [.slice W1 m1 e1, .slice S1 m2 e2] (.blk Bx) rfl ?_
  refine call_of (c_r49Minimal (hd.ext x2) (hx.ext x2)) ?_
  rintro _ w3 ⟨A, n, c, s, rfl, o, hs⟩
  have x3 := x2.trans o.own.ext
  have Bx := Bx.ext o.own.ext
  obtain ⟨e, he⟩ : ∃ e, e = evErr d x := ⟨_, rfl⟩
  rw [← he]
  refine cN (fun g => ?_) (fun g => ?_)
  · refine ret2 (.slice none 0 0) (iv e) rfl rfl ⟨none, 0, 0, rfl, ?_⟩
    have e0 : neededV d x = [] := by
      unfold neededV
      rw [minSets_err (by rw [← he]; exact g)]
      rw [List.filter_eq_nil_iff.2 fun i _ => by simp [cntS]]; rfl
    rw [e0]; exact OwnF.nil x3
  have hln := o.len
  have hml := min_len (d := d) (x := x)
  have hml2 : n = (minSets d x).length := by rw [← hs, List.length_map]; exact hln
  have hev : evErr d x = 0 := by rw [← he]; exact g
  obtain ⟨-, -, hS⟩ := ev_sizes hev
  refine loop4 (fun (k : Nat) (B : Option Addr) (m e : Nat) => [(9, iv (k : Int)), (8, .slice B m e)]) (fun k B m e z => k ≤ m2 ∧ m ≤ k ∧ OwnF w3 z B m e 3 1 ((((List.range k).filter fun i : Nat => decide (0 < cntS (minSets d x) i) && decide (cntS (minSets d x) i = (minSets d x).length)).map fun i : Nat => (i : Int)).map fun k => .int .i64 k)) (fun k _ _ _ _ => m2 - k) 0 none 0 0 ⟨rfl, rfl, trivial⟩ ⟨by omega, Nat.le_refl _, OwnF.nil (.refl _ _)⟩ rfl ?_
  rintro G k B m e' z ⟨hk, hm, q⟩
  have o := o.ext q.ext
  refine fldA ?_
  refine ld (.slice S1 m2 e2) ((Bx.ext q.ext).cell rfl) ?_
  refine len ?_
  refine cD (fun hlt => ?_) (fun hge => ?_)
  · have hlt : k < m2 := by omega
    have yes : (decide (0 < cntS (minSets d x) k) && decide (cntS (minSets d x) k = (minSets d x).length)) = true → ∀ {z' : World} {B' : Option Addr} {e3 : Nat}, OwnF w3 z' B' (m + 1) e3 3 1 (((((List.range k).filter fun i : Nat => decide (0 < cntS (minSets d x) i) && decide (cntS (minSets d x) i = (minSets d x).length)).map fun i : Nat => (i : Int)).map fun k => .int .i64 k) ++ [iv (k : Int)]) → OwnF w3 z' B' (m + 1) e3 3 1 ((((List.range (k + 1)).filter fun i : Nat => decide (0 < cntS (minSets d x) i) && decide (cntS (minSets d x) i = (minSets d x).length)).map fun i : Nat => (i : Int)).map fun k => .int .i64 k) := fun h z' B' e3 q => by
      rw [List.range_succ, List.filter_append, List.map_append, List.map_append, show [k].filter (fun i : Nat => decide (0 < cntS (minSets d x) i) && decide (cntS (minSets d x) i = (minSets d x).length)) = [k] by simp only [List.filter_cons, h, List.filter_nil]; rfl]
      exact q
    have no : (decide (0 < cntS (minSets d x) k) && decide (cntS (minSets d x) k = (minSets d x).length)) = false → OwnF w3 z B m e' 3 1 ((((List.range (k + 1)).filter fun i : Nat => decide (0 < cntS (minSets d x) i) && decide (cntS (minSets d x) i = (minSets d x).length)).map fun i : Nat => (i : Int)).map fun k => .int .i64 k) := fun h => by
      rw [List.range_succ, List.filter_append, List.map_append, List.map_append, show [k].filter (fun i : Nat => decide (0 < cntS (minSets d x) i) && decide (cntS (minSets d x) i = (minSets d x).length)) = [] by simp only [List.filter_cons, h, List.filter_nil]; rfl]
      simpa using q
    refine len ?_
    refine cD (fun h0 => ?_) (fun h0 => ?_)
    · refine call_of (c_r49count (i := (k : Int)) o (by omega)) ?_
      rintro _ _ ⟨rfl, rfl⟩
      rw [hs]
      refine len ?_
      refine cE (fun h => ?_) (fun h => ?_)
      · refine lit [iv (k : Int)] (fun gg u1 hq => ?_)
        refine appF (q.then hq.ext) (hq.src (sz := 1) rfl) (by omega) (fun B' e2' u2 q2 kk hA => ?_)
        refine arI (by omega) ?_
        exact next4 (k + 1) B' (m + 1) e2' ⟨by rw [Int.natCast_add]; rfl, rfl, trivial⟩ ⟨by omega, by omega, yes (by rw [decide_eq_true (by omega), decide_eq_true (by omega)]; rfl) q2⟩ (by omega)
      · refine arI (by omega) ?_
        exact next4 (k + 1) B m e' ⟨by rw [Int.natCast_add]; rfl, rfl, trivial⟩ ⟨by omega, by omega, no (by rw [Bool.and_eq_false_iff]; exact .inr (decide_eq_false (by omega)))⟩ (by omega)
    · have hc0 : cntS (minSets d x) k ≤ (minSets d x).length := by unfold cntS; exact List.length_filter_le _ _
      refine arI (by omega) ?_
      exact next4 (k + 1) B m e' ⟨by rw [Int.natCast_add]; rfl, rfl, trivial⟩ ⟨by omega, by omega, no (by rw [Bool.and_eq_false_iff]; exact .inl (decide_eq_false (by omega)))⟩ (by omega)
  · obtain rfl : k = m2 := by omega
    refine ret2 (.slice B m e') (iv 0) rfl rfl ⟨B, m, e', by rw [g], ?_⟩
    unfold neededV
    rw [lsu]
    exact q.base x3
set_option maxRecDepth 8000 in
theorem c_r49Blame {D : Nat → Prop} {csd csx : List Value} {d : Dist} {x : Ev} {k : Int} (hd : DiR D w csd d) (hx : EvR D w csx x) : CallZ Tryz.prog 21 #[.agg csd.toArray, .agg csx.toArray, iv k] w
    (fun v w' => ∃ A n c, v = .tuple #[.slice A n c, .bool (if 0 ≤ k ∧ k < x.suspects.length then (blameV d x k).isSome else false), iv (if evErr d x ≠ 0 then evErr d x else if 0 ≤ k ∧ k < x.suspects.length then 0 else 1)] ∧ Ext w w' ∧
      SlR tInt (fun b => w.heap.size ≤ b) w' A n (if 0 ≤ k ∧ k < x.suspects.length then (blameV d x k).getD [] else [])) := by
  have hd := hd.more (D' := fun _ => True) fun _ _ _ => trivial
  have hx := hx.more (D' := fun _ => True) fun _ _ _ => trivial
  obtain ⟨A1, n1, c1, A2, n2, c2, A3, n3, c3, A4, n4, c4, A5, n5, c5, A6, n6, c6, rfl, -⟩ := hd.ex
  obtain ⟨W1, m1, e1, S1, m2, e2, rfl, hwv, hsu, -⟩ := hx.ex
  have lsu := hsu.len
  refine fn_rule (args := [.agg #[.string d.name, iv d.hours, iv d.cap, iv d.start, .slice A1 n1 c1, .slice A2 n2 c2, .slice A3 n3 c3, .slice A4 n4 c4, .slice A5 n5 c5, .slice A6 n6 c6], .agg #[.slice W1 m1 e1, .slice S1 m2 e2], iv k]) Tryz.func21 (by kernel_rfl) ?_
  refine box (fun bd w1 h1 => ?_)
  refine box (fun bx w2 h2 => ?_)
  have x2 := h1.ext.trans h2.ext
  have Bd : Blk w2 bd 31 [.string d.name, iv d.hours, iv d.cap, iv d.start, .slice A1 n1 c1, .slice A2 n2 c2, .slice A3 n3 c3, .slice A4 n4 c4, .slice A5 n5 c5, .slice A6 n6 c6] := h1.blk.ext h2.ext
  have Bx : Blk w2 bx 35 [.slice W1 m1 e1, .slice S1 m2 e2] := h2.blk
  refine ldA [.string d.name, iv d.hours, iv d.cap, iv d.start, .slice A1 n1 c1, .slice A2 n2 c2, .slice A3 n3 c3, .slice A4 n4 c4, .slice A5 n5 c5, .slice A6 n6 c6] (.blk Bd) rfl ?_
  refine ldA [.slice W1 m1 e1, .slice S1 m2 e2] (.blk Bx) rfl ?_
  refine call_of (c_r49Minimal (hd.ext x2) (hx.ext x2)) ?_
  rintro _ w3 ⟨A, n, c, s, rfl, o, hs⟩
  have x3 := x2.trans o.own.ext
  have Bx := Bx.ext o.own.ext
  obtain ⟨e, he⟩ : ∃ e, e = evErr d x := ⟨_, rfl⟩
  rw [← he]
  refine cN (fun g => ?_) (fun g => ?_)
  · have hb : blameV d x k = none := by unfold blameV; rw [minSets_err (by rw [← he]; exact g)]; rfl
    exact ret3 (.slice none 0 0) (.bool false) (iv e) rfl rfl rfl ⟨none, 0, 0, by rw [if_pos g, hb]; simp, x3, by rw [hb]; simp; exact .nil⟩
  have e0 : ¬ e ≠ 0 := fun h => h g
  have no : ¬ (0 ≤ k ∧ k < x.suspects.length) → ∃ A n c, Value.tuple #[.slice none 0 0, .bool false, iv 1] = .tuple #[.slice A n c, .bool (if 0 ≤ k ∧ k < x.suspects.length then (blameV d x k).isSome else false), iv (if e ≠ 0 then e else if 0 ≤ k ∧ k < x.suspects.length then 0 else 1)] ∧ Ext w w3 ∧
      SlR tInt (fun b => w.heap.size ≤ b) w3 A n (if 0 ≤ k ∧ k < x.suspects.length then (blameV d x k).getD [] else []) := fun h => ⟨none, 0, 0, by rw [if_neg e0, if_neg h, if_neg h], x3, by rw [if_neg h]; exact .nil⟩
  refine cD (fun g1 => ?_) (fun g1 => ?_)
  · exact ret3 (.slice none 0 0) (.bool false) (iv 1) rfl rfl rfl (no (by omega))
  refine fldA ?_
  refine ld (.slice S1 m2 e2) (Bx.cell rfl) ?_
  refine len ?_
  refine cD (fun g2 => ?_) (fun g2 => ?_)
  · exact ret3 (.slice none 0 0) (.bool false) (iv 1) rfl rfl rfl (no (by omega))
  have hk : 0 ≤ k ∧ k < x.suspects.length := by omega
  rw [if_neg e0, if_pos hk, if_pos hk, if_pos hk]
  have hml := min_len (d := d) (x := x)
  have hln := o.len
  have hml2 : n = (minSets d x).length := by rw [← hs, List.length_map]; exact o.len
  refine loop_rule (fun j : Nat => [(11, iv (j : Int))]) (fun j u => j ≤ n ∧ w3 = u ∧ blameV d x k = ((minSets d x).drop j).find? fun l => decide (k ∈ l)) (fun j _ => n - j) 0 ⟨rfl, trivial⟩ ⟨by omega, rfl, by rw [List.drop_zero]; rfl⟩ rfl ?_
  rintro G j u ⟨hj, rfl, hb⟩
  refine len ?_
  refine cD (fun hlt => ?_) (fun hge => ?_)
  · have hlt : j < n := by omega
    obtain ⟨g', ⟨Ah, nh, ch, lh⟩, rfl, hhd, hc, hI⟩ := o.cell hlt
    have hmk : (minSets d x)[j]? = some lh := by rw [← hs, List.getElem?_map, hhd]; rfl
    have hdr : (minSets d x).drop j = lh :: (minSets d x).drop (j + 1) := by
      have h1 : j < (minSets d x).length := by omega
      rw [List.getElem?_eq_getElem h1] at hmk
      injection hmk with hmk
      rw [← hmk]; exact List.drop_eq_getElem_cons h1
    rw [hdr] at hb
    refine idx j rfl hlt ?_
    refine ld (.slice Ah nh ch) hc ?_
    refine callB (c_r49Has (show SlR tInt (fun _ => True) w3 Ah nh lh from hI.rdT)) (fun hh => ?_) (fun hh => ?_)
    · have hb : blameV d x k = some lh := by rw [hb]; simp only [List.find?_cons, hh]
      refine idx j rfl hlt ?_
      refine ld (.slice Ah nh ch) hc ?_
      exact ret3 (.slice Ah nh ch) (.bool true) (iv 0) rfl rfl rfl ⟨Ah, nh, ch, by rw [hb]; rfl, x3, by rw [hb]; exact (hI.base x2.size).rdN⟩
    · have hb : blameV d x k = ((minSets d x).drop (j + 1)).find? fun l => decide (k ∈ l) := by rw [hb]; simp only [List.find?_cons, hh]
      refine arI (by omega) ?_
      exact next (j + 1) ⟨by rw [Int.natCast_add]; rfl, trivial⟩ ⟨by omega, rfl, hb⟩ (by omega)
  · rw [List.drop_eq_nil_of_le (by omega)] at hb
    exact ret3 (.slice none 0 0) (.bool false) (iv 0) rfl rfl rfl ⟨none, 0, 0, by rw [hb]; rfl, x3, by rw [hb]; exact .nil⟩
theorem c_r48sameN' {D : Nat → Prop} {A B : Option Addr} {n m c c' : Nat} {xs ys : List Int} (h1 : SlR tInt D w A n xs) (h2 : SlR tInt D w B m ys) : CallZ Tryz.prog 17 #[.slice A n c, .slice B m c'] w (fun v w' => v = .bool (decide (xs = ys)) ∧ w' = w) := by
  have l1 := h1.len
  have l2 := h2.len
  have le := h1.le
  refine fn_rule (args := [.slice A n c, .slice B m c']) Tryz.func17 (by kernel_rfl) ?_
  refine len ?_
  refine len ?_
  refine cN (fun h => ?_) (fun h => ?_)
  · exact ret1 (.bool false) rfl ⟨by rw [decide_eq_false fun e => by subst e; omega], rfl⟩
  refine loop_rule (fun k : Nat => [(5, iv (k : Int))]) (fun k u => k ≤ n ∧ w = u ∧ xs.take k = ys.take k) (fun k _ => n - k) 0 ⟨rfl, trivial⟩ ⟨by omega, rfl, rfl⟩ rfl ?_
  rintro G k u ⟨hk, rfl, ht⟩
  refine len ?_
  refine cD (fun hlt => ?_) (fun hge => ?_)
  · have hlt : k < n := by omega
    obtain ⟨b, o, cs, y, rfl, hy, -, -, hc, rfl, -⟩ := h1.at_ hlt
    obtain ⟨b', o', cs', y', rfl, hy', -, -, hc', rfl, -⟩ := h2.at_ (show k < m by omega)
    refine drawQ mx (by kernel_rfl) ?_
    refine idx k rfl hlt ?_
    refine ld (iv y) (hc 0 _ rfl) ?_
    refine idx k rfl (by omega) ?_
    refine ld (iv y') (hc' 0 _ rfl) ?_
    refine cN (fun hne => ?_) (fun heq => ?_)
    · exact ret1 (.bool false) rfl ⟨by rw [decide_eq_false fun e => by subst e; rw [hy] at hy'; injection hy' with e; exact hne e], rfl⟩
    refine arI (by omega) ?_
    refine next (k + 1) ⟨by rw [Int.natCast_add]; rfl, trivial⟩ ⟨by omega, rfl, ?_⟩ (by omega)
    rw [List.take_add_one, List.take_add_one, ht, hy, hy', heq]
  · rw [List.take_of_length_le (by omega), List.take_of_length_le (by omega)] at ht
    exact ret1 (.bool true) rfl ⟨by rw [decide_eq_true ht], rfl⟩
theorem c_r49Same {v0 w0 : World} {A B : Option Addr} {n m c c' : Nat} {s s' : List Hd} (h1 : OwnL w0 w A n c s) (h2 : OwnL v0 w B m c' s') (he : s.map (·.l) = s'.map (·.l)) (hn : n ≤ 100000) : CallZ Tryz.prog 14 #[.slice A n c, .slice B m c'] w (fun v w' => v = .bool true ∧ w' = w) := by
  have l1 := h1.len
  have l2 := h2.len
  have l3 := congrArg List.length he
  rw [List.length_map, List.length_map] at l3
  refine fn_rule (args := [.slice A n c, .slice B m c']) Tryz.func14 (by kernel_rfl) ?_
  refine len ?_
  refine len ?_
  refine cN (fun h => absurd (by omega) h) (fun h => ?_)
  refine loop_rule (fun k : Nat => [(5, iv (k : Int))]) (fun k u => k ≤ n ∧ w = u) (fun k _ => n - k) 0 ⟨rfl, trivial⟩ ⟨by omega, rfl⟩ rfl ?_
  rintro G k u ⟨hk, rfl⟩
  refine len ?_
  refine cD (fun hlt => ?_) (fun hge => ?_)
  · have hlt : k < n := by omega
    obtain ⟨g, ⟨Ah, nh, ch, lh⟩, rfl, hhd, hc, hI⟩ := h1.cell hlt
    obtain ⟨g', ⟨Ah', nh', ch', lh'⟩, rfl, hhd', hc', hI'⟩ := h2.cell (show k < m by omega)
    have e1 : (s.map (·.l))[k]? = some lh := by rw [List.getElem?_map, hhd]; rfl
    have e2 : (s'.map (·.l))[k]? = some lh' := by rw [List.getElem?_map, hhd']; rfl
    obtain rfl : lh = lh' := by rw [he, e2] at e1; injection e1 with e; exact e.symm
    have cc := c_r48sameN' (c := ch) (c' := ch') (show SlR tInt (fun _ => True) w Ah nh lh from hI.rdT) (show SlR tInt (fun _ => True) w Ah' nh' lh from hI'.rdT)
    rw [decide_eq_true (show lh = lh from rfl)] at cc
    refine drawP (.take 0 (.take 1 (.take 2 (.take 3 (.take 4 (.take 5 (.take 6 (.take 7 (.eff 8 (.take 9 .done)))))))))) [] (fun z => w = z) mx (by kernel_rfl) rfl ?_
    refine idx k rfl hlt ?_
    refine ldS (.slice Ah nh ch) (fun _ hu => by subst hu; exact hc) ?_
    refine idx k rfl (by omega) ?_
    refine ldS (.slice Ah' nh' ch') (fun _ hu => by subst hu; exact hc') ?_
    refine call_of cc ?_
    rintro _ _ ⟨rfl, rfl⟩
    refine strS rfl ?_
    refine arI (by omega) ?_
    exact next (k + 1) ⟨by rw [Int.natCast_add]; rfl, trivial⟩ ⟨by omega, rfl⟩ (by omega)
  · exact ret1 (.bool true) rfl ⟨rfl, rfl⟩
set_option maxRecDepth 8000 in
theorem c_SuspectsSpec {D : Nat → Prop} {csd csx : List Value} {d : Dist} {x : Ev} (hd : DiR D w csd d) (hx : EvR D w csx x) : CallZ Tryz.prog 3 #[.agg csd.toArray, .agg csx.toArray] w (fun v w' => v = .bool true ∧ Ext w w') := by
  have hd := hd.more (D' := fun _ => True) fun _ _ _ => trivial
  have hx := hx.more (D' := fun _ => True) fun _ _ _ => trivial
  obtain ⟨A1, n1, c1, A2, n2, c2, A3, n3, c3, A4, n4, c4, A5, n5, c5, A6, n6, c6, rfl, -⟩ := hd.ex
  obtain ⟨W1, m1, e1, S1, m2, e2, rfl, hwv, hsu, -⟩ := hx.ex
  have lsu := hsu.len
  refine fn_rule (args := [.agg #[.string d.name, iv d.hours, iv d.cap, iv d.start, .slice A1 n1 c1, .slice A2 n2 c2, .slice A3 n3 c3, .slice A4 n4 c4, .slice A5 n5 c5, .slice A6 n6 c6], .agg #[.slice W1 m1 e1, .slice S1 m2 e2]]) Tryz.func3 (by kernel_rfl) ?_
  refine box (fun bd w1 h1 => ?_)
  refine box (fun bx w2 h2 => ?_)
  have x2 := h1.ext.trans h2.ext
  have Bd : Blk w2 bd 31 [.string d.name, iv d.hours, iv d.cap, iv d.start, .slice A1 n1 c1, .slice A2 n2 c2, .slice A3 n3 c3, .slice A4 n4 c4, .slice A5 n5 c5, .slice A6 n6 c6] := h1.blk.ext h2.ext
  have Bx : Blk w2 bx 35 [.slice W1 m1 e1, .slice S1 m2 e2] := h2.blk
  refine call_of (c_ssane) ?_
  rintro _ w3 ⟨rfl, x3⟩
  refine ldA [.string d.name, iv d.hours, iv d.cap, iv d.start, .slice A1 n1 c1, .slice A2 n2 c2, .slice A3 n3 c3, .slice A4 n4 c4, .slice A5 n5 c5, .slice A6 n6 c6] (.blk (Bd.ext x3)) rfl ?_
  refine ldA [.slice W1 m1 e1, .slice S1 m2 e2] (.blk (Bx.ext x3)) rfl ?_
  refine callSE (c_r49Few ((hd.ext x2).ext x3) ((hx.ext x2).ext x3)) (fun w4 x4 => ?_) (fun w4 x4 => ?_)
  rotate_left
  · exact ret1 (.bool true) rfl ⟨rfl, x2.trans (x3.trans x4)⟩
  have X := x2.trans (x3.trans x4)
  have Bd := Bd.ext (x3.trans x4)
  have Bx := Bx.ext (x3.trans x4)
  have hd := hd.ext X
  have hx := hx.ext X
  obtain ⟨ee, hee⟩ : ∃ ee, ee = evErr d x := ⟨_, rfl⟩
  refine ldA [.string d.name, iv d.hours, iv d.cap, iv d.start, .slice A1 n1 c1, .slice A2 n2 c2, .slice A3 n3 c3, .slice A4 n4 c4, .slice A5 n5 c5, .slice A6 n6 c6] (.blk Bd) rfl ?_
  refine ldA [.slice W1 m1 e1, .slice S1 m2 e2] (.blk Bx) rfl ?_
  refine call_of (c_sMinimal hd hx) ?_
  rintro _ u1 ⟨LA, ln, lc, ls, rfl, ol, hl⟩
  rw [← hee]
  have X := X.trans ol.own.ext
  have hd := hd.ext ol.own.ext
  have hx := hx.ext ol.own.ext
  have Bd := Bd.ext ol.own.ext
  have Bx := Bx.ext ol.own.ext
  refine ldA [.string d.name, iv d.hours, iv d.cap, iv d.start, .slice A1 n1 c1, .slice A2 n2 c2, .slice A3 n3 c3, .slice A4 n4 c4, .slice A5 n5 c5, .slice A6 n6 c6] (.blk Bd) rfl ?_
  refine ldA [.slice W1 m1 e1, .slice S1 m2 e2] (.blk Bx) rfl ?_
  refine call_of (c_r49Minimal hd hx) ?_
  rintro _ u2 ⟨MA, mn, mc, ms, rfl, om, hm⟩
  rw [← hee]
  have X := X.trans om.own.ext
  have hd := hd.ext om.own.ext
  have hx := hx.ext om.own.ext
  have Bd := Bd.ext om.own.ext
  have Bx := Bx.ext om.own.ext
  have ol := ol.ext om.own.ext
  refine ldA [.string d.name, iv d.hours, iv d.cap, iv d.start, .slice A1 n1 c1, .slice A2 n2 c2, .slice A3 n3 c3, .slice A4 n4 c4, .slice A5 n5 c5, .slice A6 n6 c6] (.blk Bd) rfl ?_
  refine ldA [.slice W1 m1 e1, .slice S1 m2 e2] (.blk Bx) rfl ?_
  refine call_of (c_sSmallest hd hx) ?_
  rintro _ u3 ⟨FA, fn, fc, fs, rfl, of_, hf⟩
  rw [← hee]
  have X := X.trans of_.own.ext
  have hd := hd.ext of_.own.ext
  have hx := hx.ext of_.own.ext
  have Bd := Bd.ext of_.own.ext
  have Bx := Bx.ext of_.own.ext
  have ol := ol.ext of_.own.ext
  have om := om.ext of_.own.ext
  refine ldA [.string d.name, iv d.hours, iv d.cap, iv d.start, .slice A1 n1 c1, .slice A2 n2 c2, .slice A3 n3 c3, .slice A4 n4 c4, .slice A5 n5 c5, .slice A6 n6 c6] (.blk Bd) rfl ?_
  refine ldA [.slice W1 m1 e1, .slice S1 m2 e2] (.blk Bx) rfl ?_
  refine call_of (c_r49Smallest hd hx) ?_
  rintro _ u4 ⟨GA, gn, gc, gs, rfl, og, hg⟩
  rw [← hee]
  have X := X.trans og.own.ext
  have hd := hd.ext og.own.ext
  have hx := hx.ext og.own.ext
  have Bd := Bd.ext og.own.ext
  have Bx := Bx.ext og.own.ext
  have ol := ol.ext og.own.ext
  have om := om.ext og.own.ext
  have of_ := of_.ext og.own.ext
  have hml := min_len (d := d) (x := x)
  have hln : ln ≤ 4096 := by rw [ol.len, ← List.length_map (f := (·.l)), hl]; exact hml
  have hfn : fn ≤ 4096 := by
    rw [of_.len, ← List.length_map (f := (·.l)), hf]
    unfold smallV
    exact Nat.le_trans (List.length_filter_le _ _) hml
  refine call_of (c_r49Same ol om (hl.trans hm.symm) (by omega)) ?_
  rintro _ _ ⟨rfl, rfl⟩
  refine cE (fun _ => ?_) (fun h => absurd rfl h)
  refine call_of (c_r49Same of_ og (hf.trans hg.symm) (by omega)) ?_
  rintro _ _ ⟨rfl, rfl⟩
  refine cE (fun _ => ?_) (fun h => absurd rfl h)
  exact ret1 (.bool true) rfl ⟨rfl, X⟩
end
end Go.Proofs.YtcpdhclnmjfldaaGreat

/- Layer 49: the law SuspectsTrue. -/
namespace Go.Proofs.YtcpdhclnmjfldaaGreat
open Go Go.RowKit

theorem andnot_zero {a b : Nat} : a - (a &&& b) = 0 ↔ ∀ j, a.testBit j = true → b.testBit j = true := by
  have hle : a &&& b ≤ a := Nat.and_le_left
  constructor
  · intro h j hj
    have e : a &&& b = a := by omega
    rw [← e, Nat.testBit_and, Bool.and_eq_true] at hj
    exact hj.2
  · intro h
    have e : a &&& b = a := by
      apply Nat.eq_of_testBit_eq
      intro j
      rw [Nat.testBit_and]
      cases hb : a.testBit j with
      | false => rfl
      | true => rw [h j hb]; rfl
    omega
theorem inside_iff {m l : List Int} (hm : ∀ i ∈ m, 0 ≤ i) (hl : ∀ i ∈ l, 0 ≤ i) : orL m - (orL m &&& orL l) = 0 ↔ ∀ i ∈ m, i ∈ l := by
  rw [andnot_zero]
  constructor
  · intro h i hi
    have h0 := hm i hi
    have e : ((i.toNat : Nat) : Int) = i := by omega
    rw [← e]
    exact (orL_bit hl).1 (h _ ((orL_bit hm).2 (by rw [e]; exact hi)))
  · intro h j hj
    exact (orL_bit hl).2 (h _ ((orL_bit hm).1 hj))
section
variable {w : World}
theorem c_sbits {l : List Int} {A : Option Addr} {n c : Nat} (h : SlR tInt (fun _ => True) w A n l) (hb : ∀ i ∈ l, 0 ≤ i ∧ i < 12) : CallZ Tryz.prog 26 #[.slice A n c] w (fun v w' => v = iv (orL l : Int) ∧ w' = w) := by
  have hl := h.len
  have hle := h.le
  have hlt12 : ∀ k, orL (l.take k) < 2 ^ 12 := fun k => orL_lt fun i hi => by have := hb i (List.mem_of_mem_take hi); omega
  refine fn_rule (args := [.slice A n c]) Tryz.func26 (by kernel_rfl) ?_
  refine len ?_
  refine loop_rule (fun k : Nat => [(7, iv (k : Int)), (2, iv (orL (l.take k) : Int))]) (fun k u => k ≤ n ∧ w = u) (fun k _ => n - k) 0 ⟨rfl, rfl, trivial⟩ ⟨by omega, rfl⟩ rfl ?_
  rintro G k u ⟨hk, rfl⟩
  refine cD (fun hlt => ?_) (fun hge => ?_)
  · have hlt : k < n := by omega
    obtain ⟨g, ofs, cs, i, rfl, hi, -, -, hc, rfl, -⟩ := h.at_ hlt
    have htk : l.take (k + 1) = l.take k ++ [i] := by rw [List.take_add_one, hi]; rfl
    have hbi := hb i (List.mem_of_getElem? hi)
    have h1 := hlt12 k
    have h2 := hlt12 (k + 1)
    refine idx k rfl hlt ?_
    refine ld (iv i) (hc 0 _ rfl) ?_
    refine cD (fun _ => ?_) (fun h => absurd hbi.1 h)
    refine cD (fun _ => ?_) (fun h => absurd hbi.2 h)
    refine shl1 (fun q hq hql => ?_) (by omega)
    refine orV (fun q' hq' => ?_)
    refine arI (by omega) ?_
    have e : orL (l.take (k + 1)) = q' := by rw [htk, orL_snoc, hq', hq]
    exact next (k + 1) ⟨by rw [Int.natCast_add]; rfl, by rw [e]; rfl, trivial⟩ ⟨by omega, rfl⟩ (by omega)
  · rw [List.take_of_length_le (by omega)] at *
    exact ret1 (iv (orL l : Int)) rfl ⟨rfl, rfl⟩
theorem c_sinside {l m : List Int} {A B : Option Addr} {n c n2 c2 : Nat} (h : SlR tInt (fun _ => True) w A n l) (hb : ∀ i ∈ l, 0 ≤ i ∧ i < 12) (h' : SlR tInt (fun _ => True) w B n2 m) (hb' : ∀ i ∈ m, 0 ≤ i ∧ i < 12) :
    CallZ Tryz.prog 28 #[.slice A n c, .slice B n2 c2] w (fun v w' => v = .bool (decide (∀ i ∈ l, i ∈ m)) ∧ w' = w) := by
  refine fn_rule (args := [.slice A n c, .slice B n2 c2]) Tryz.func28 (by kernel_rfl) ?_
  have b1 : orL l < 2 ^ 12 := orL_lt fun i hi => by have := hb i hi; omega
  have b2 : orL m < 2 ^ 12 := orL_lt fun i hi => by have := hb' i hi; omega
  refine call_of (c_sbits h hb) ?_
  rintro _ _ ⟨rfl, rfl⟩
  refine call_of (c_sbits h' hb') ?_
  rintro _ _ ⟨rfl, rfl⟩
  refine andNotV (fun q hq => ?_)
  have hi := inside_iff (fun i hi => (hb i hi).1) (fun i hi => (hb' i hi).1)
  rw [← hq] at hi
  refine cE (fun e => ?_) (fun e => ?_)
  · exact ret1 (.bool true) rfl ⟨by rw [decide_eq_true (hi.1 (by omega))], rfl⟩
  · exact ret1 (.bool false) rfl ⟨by rw [decide_eq_false (fun k => e (by have := hi.2 k; omega))], rfl⟩
theorem ints_src {D : Nat → Prop} {A : Option Addr} {n : Nat} {xs : List Int} (h : SlR tInt D w A n xs) : Src w A n 1 (xs.map fun v => Value.int .i64 v) := by
  have hl := h.len
  refine ⟨by rw [List.length_map]; omega, fun hn0 => ?_⟩
  obtain ⟨b, o, cs, x, rfl, _⟩ := h.at_ hn0
  obtain ⟨cs2, hf, hc⟩ := h.cells
  refine ⟨b, o, rfl, ?_⟩
  rw [← flatI_eq hf]; exact hc
set_option maxRecDepth 8000 in
theorem c_SuspectsTrue {D : Nat → Prop} {csd csx : List Value} {d : Dist} {x : Ev} {set : List Int} {tl : List Tru} {AS AL : Option Addr} {nS cS nL cL : Nat} (hd : DiR D w csd d) (hx : EvR D w csx x) (hset : SlR tInt D w AS nS set) (hcS : nS ≤ cS) (htl : SlR tTru D w AL nL tl) : CallZ Tryz.prog 7 #[.agg csd.toArray, .agg csx.toArray, .slice AS nS cS, .slice AL nL cL] w
    (fun v w' => v = .bool true ∧ Ext w w') := by
  have hd := hd.more (D' := fun _ => True) fun _ _ _ => trivial
  have hx := hx.more (D' := fun _ => True) fun _ _ _ => trivial
  obtain ⟨A1, n1, c1, A2, n2, c2, A3, n3, c3, A4, n4, c4, A5, n5, c5, A6, n6, c6, rfl, -⟩ := hd.ex
  obtain ⟨W1, m1, e1, S1, m2, e2, rfl, hwv, hsu, -⟩ := hx.ex
  have lsu := hsu.len
  have hset := hset.more (D' := fun _ => True) (by decide) fun _ _ _ => trivial
  have htl := htl.more (D' := fun _ => True) (by decide) fun _ _ _ => trivial
  have hsl := hset.len
  refine fn_rule (args := [.agg #[.string d.name, iv d.hours, iv d.cap, iv d.start, .slice A1 n1 c1, .slice A2 n2 c2, .slice A3 n3 c3, .slice A4 n4 c4, .slice A5 n5 c5, .slice A6 n6 c6], .agg #[.slice W1 m1 e1, .slice S1 m2 e2], .slice AS nS cS, .slice AL nL cL]) Tryz.func7 (by kernel_rfl) ?_
  refine box (fun bd w1 h1 => ?_)
  refine box (fun bx w2 h2 => ?_)
  have x2 := h1.ext.trans h2.ext
  have Bd : Blk w2 bd 31 [.string d.name, iv d.hours, iv d.cap, iv d.start, .slice A1 n1 c1, .slice A2 n2 c2, .slice A3 n3 c3, .slice A4 n4 c4, .slice A5 n5 c5, .slice A6 n6 c6] := h1.blk.ext h2.ext
  have Bx : Blk w2 bx 35 [.slice W1 m1 e1, .slice S1 m2 e2] := h2.blk
  refine call_of (c_ssane) ?_
  rintro _ w3 ⟨rfl, x3⟩
  refine ldA [.string d.name, iv d.hours, iv d.cap, iv d.start, .slice A1 n1 c1, .slice A2 n2 c2, .slice A3 n3 c3, .slice A4 n4 c4, .slice A5 n5 c5, .slice A6 n6 c6] (.blk (Bd.ext x3)) rfl ?_
  refine ldA [.slice W1 m1 e1, .slice S1 m2 e2] (.blk (Bx.ext x3)) rfl ?_
  refine callSE (c_r49Few ((hd.ext x2).ext x3) ((hx.ext x2).ext x3)) (fun w4 x4 => ?_) (fun w4 x4 => ?_)
  rotate_left
  · exact ret1 (.bool true) rfl ⟨rfl, x2.trans (x3.trans x4)⟩
  have X := x2.trans (x3.trans x4)
  have Bd := Bd.ext (x3.trans x4)
  have Bx := Bx.ext (x3.trans x4)
  have hd := hd.ext X
  have hx := hx.ext X
  refine len ?_
  refine cD (fun _ => ?_) (fun _ => ?_)
  · exact ret1 (.bool true) rfl ⟨rfl, X⟩
  refine len ?_
  refine cD (fun _ => ?_) (fun h12 => ?_)
  · exact ret1 (.bool true) rfl ⟨rfl, X⟩
  have h12 : nS ≤ 12 := by omega
  obtain ⟨b, hb⟩ : ∃ b, b = accV d x set tl := ⟨_, rfl⟩
  refine ldA [.string d.name, iv d.hours, iv d.cap, iv d.start, .slice A1 n1 c1, .slice A2 n2 c2, .slice A3 n3 c3, .slice A4 n4 c4, .slice A5 n5 c5, .slice A6 n6 c6] (.blk Bd) rfl ?_
  refine ldA [.slice W1 m1 e1, .slice S1 m2 e2] (.blk Bx) rfl ?_
  have cc := c_Accepts (c := cS) (c' := cL) hd hx (hset.ext X) (htl.ext X)
  rw [← hb] at cc
  refine call_of cc ?_
  clear cc
  rintro _ w5 ⟨rfl, x5⟩
  have X := X.trans x5
  have hd := hd.ext x5
  have hx := hx.ext x5
  have Bd := Bd.ext x5
  have Bx := Bx.ext x5
  refine cN (fun _ => ?_) (fun q0 => ?_)
  · exact ret1 (.bool true) rfl ⟨rfl, X⟩
  have q0 : askErr d x set = 0 := q0
  cases b with
  | false => exact ret1 (.bool true) rfl ⟨rfl, X⟩
  | true =>
  have hex := acc_expl hb.symm
  obtain ⟨hq1, hq2⟩ := askErr_ok.1 q0
  have hq1 : evErr d x = 0 := hq1
  obtain ⟨-, -, hS⟩ := ev_sizes hq1
  have hsb : ∀ i ∈ set, 0 ≤ i ∧ i < 12 := fun i hi => by have := (setB_iff49.1 hq2).1 i hi; omega
  refine ldA [.string d.name, iv d.hours, iv d.cap, iv d.start, .slice A1 n1 c1, .slice A2 n2 c2, .slice A3 n3 c3, .slice A4 n4 c4, .slice A5 n5 c5, .slice A6 n6 c6] (.blk Bd) rfl ?_
  refine ldA [.slice W1 m1 e1, .slice S1 m2 e2] (.blk Bx) rfl ?_
  refine call_of (c_sMinimal hd hx) ?_
  rintro _ w6 ⟨LA, ln, lc, ls, rfl, ol, hl⟩
  have X := X.trans ol.own.ext
  have hd := hd.ext ol.own.ext
  have hx := hx.ext ol.own.ext
  have Bd := Bd.ext ol.own.ext
  have Bx := Bx.ext ol.own.ext
  refine ldA [.string d.name, iv d.hours, iv d.cap, iv d.start, .slice A1 n1 c1, .slice A2 n2 c2, .slice A3 n3 c3, .slice A4 n4 c4, .slice A5 n5 c5, .slice A6 n6 c6] (.blk Bd) rfl ?_
  refine ldA [.slice W1 m1 e1, .slice S1 m2 e2] (.blk Bx) rfl ?_
  refine call_of (c_sNamed hd hx) ?_
  rintro _ w7 ⟨NA, nn, nc, rfl, on⟩
  have X := X.trans on.ext
  have hd := hd.ext on.ext
  have hx := hx.ext on.ext
  have Bd := Bd.ext on.ext
  have Bx := Bx.ext on.ext
  have ol := ol.ext on.ext
  have x57 := ol.own.ext
  have hnl : nn ≤ 12 := by
    have h1 := on.own.len
    rw [List.length_map] at h1
    unfold namedV at h1
    rw [List.length_map] at h1
    have h2 := List.length_filter_le (fun i : Nat => decide (0 < cntS (minSets d x) i)) (List.range x.suspects.length)
    rw [List.length_range] at h2
    omega
  have sN := on.ints (D := fun _ => True) (fun v hv => by
    unfold namedV at hv
    obtain ⟨i, hi, rfl⟩ := List.mem_map.1 hv
    have := List.mem_range.1 (List.mem_filter.1 hi).1
    unfold I64; omega) (by omega) fun _ _ => trivial
  refine cN (fun h => absurd hq1 h) (fun _ => ?_)
  refine cN (fun h => absurd hq1 h) (fun _ => ?_)
  have hml := min_len (d := d) (x := x)
  have hln := ol.cnt hl
  have hls := ol.len
  have hset7 := hset.ext X
  have hmem : ∀ h ∈ ls, h.l ∈ minSets d x := fun h hh => by rw [← hl]; exact List.mem_map.2 ⟨h, hh, rfl⟩
  refine len ?_
  refine loop4 (fun (k : Nat) (B : Option Addr) (m e : Nat) => [(75, iv (k : Int)), (15, .slice B m e)]) (fun k B m e u => k ≤ ln ∧ m ≤ k ∧ OwnF w7 u B m e 43 1 (((ls.take k).filter fun h => decide (∀ i ∈ h.l, i ∈ set)).map Hd.v)) (fun k _ _ _ _ => ln - k) 0 none 0 0 ⟨rfl, rfl, trivial⟩ ⟨by omega, Nat.le_refl _, OwnF.nil (.refl _ _)⟩ rfl ?_
  rintro G k B m e u ⟨hk, hm, q⟩
  refine cD (fun hlt => ?_) (fun hge => ?_)
  · have hlt : k < ln := by omega
    obtain ⟨g, hdd, rfl, hhd, hc, hI⟩ := ol.cell hlt
    have htk : ls.take (k + 1) = ls.take k ++ [hdd] := by rw [List.take_add_one, hhd]; rfl
    have hmm := hmem hdd (List.mem_of_getElem? hhd)
    have hIb : ∀ i ∈ hdd.l, 0 ≤ i ∧ i < 12 := fun i hi => by
      obtain ⟨p, -, -, e⟩ := mem_min.1 hmm
      rw [e] at hi
      obtain ⟨jj, hj, -, rfl⟩ := mem_members.1 hi
      omega
    refine idx k rfl hlt ?_
    refine ld hdd.v (q.ext.cell hc trivial) ?_
    refine callB (c_sinside (c := hdd.c) (c2 := cS) (hI.ext q.ext).rdT hIb (hset7.ext q.ext) hsb) (fun hh => ?_) (fun hh => ?_)
    · refine lit [hdd.v] (fun gg u1 hq => ?_)
      refine appF (q.then hq.ext) (hq.src (sz := 1) rfl) (by omega) (fun B' e' u2 q2 kk hA => ?_)
      refine arI (by omega) ?_
      refine next4 (k + 1) B' (m + 1) e' ⟨by rw [Int.natCast_add]; rfl, rfl, trivial⟩ ⟨by omega, by omega, ?_⟩ (by omega)
      rw [htk, List.filter_append, List.map_append, show [hdd].filter (fun h => decide (∀ i ∈ h.l, i ∈ set)) = [hdd] by simp only [List.filter_cons, hh, List.filter_nil]; rfl]
      exact q2
    · refine arI (by omega) ?_
      refine next4 (k + 1) B m e ⟨by rw [Int.natCast_add]; rfl, rfl, trivial⟩ ⟨by omega, by omega, ?_⟩ (by omega)
      rw [htk, List.filter_append, List.map_append, show [hdd].filter (fun h => decide (∀ i ∈ h.l, i ∈ set)) = [] by simp only [List.filter_cons, hh, List.filter_nil]; rfl]
      simpa using q
  rw [List.take_of_length_le (by omega)] at q
  obtain ⟨own, hown⟩ : ∃ own, own = ls.filter fun h => decide (∀ i ∈ h.l, i ∈ set) := ⟨_, rfl⟩
  rw [← hown] at q
  have ho : ∀ h ∈ own, h.l ∈ minSets d x ∧ ∀ i ∈ h.l, i ∈ set := fun h hh => by
    rw [hown, List.mem_filter, decide_eq_true_eq] at hh
    exact ⟨hmem h hh.1, hh.2⟩
  have ol := ol.ext q.ext
  have oo : OwnL w5 u B m e own := ⟨q.base x57, fun h hh => ol.hds h (by rw [hown] at hh; exact (List.mem_filter.1 hh).1)⟩
  have hmo := oo.len
  obtain ⟨l0, hl0, hs0⟩ := expl_below q0 hex
  have hpos : 0 < m := by
    rw [← hl] at hl0
    obtain ⟨h, hh, rfl⟩ := List.mem_map.1 hl0
    rw [hmo]
    exact List.length_pos_of_mem (by rw [hown, List.mem_filter, decide_eq_true_eq]; exact ⟨hh, hs0⟩)
  have X := X.trans q.ext
  have hd := hd.ext q.ext
  have hx := hx.ext q.ext
  have Bd := Bd.ext q.ext
  have Bx := Bx.ext q.ext
  have hset8 := hset.ext X
  have sN := sN.ext q.ext
  refine len ?_
  refine cE (fun h => absurd h (by omega)) (fun _ => ?_)
  refine len ?_
  refine loop_rule (fun i : Nat => [(92, iv (i : Int))]) (fun i u' => i ≤ nS ∧ Ext u u') (fun i _ => nS - i) 0 ⟨rfl, trivial⟩ ⟨by omega, .refl _ _⟩ rfl ?_
  rintro G2 i u' ⟨hi, k'⟩
  refine cD (fun hlt => ?_) (fun hge => ret1 (.bool true) rfl ⟨rfl, X.trans k'⟩)
  have hlt : i < nS := by omega
  obtain ⟨t, ht⟩ : ∃ t, set[i]? = some t := ⟨set[i]'(by omega), List.getElem?_eq_getElem (by omega)⟩
  have hset9 := hset8.ext k'
  obtain ⟨sb, so, rfl, -, hct⟩ := hset9.one ht
  refine idx i rfl hlt ?_
  refine ld (iv t) hct ?_
  refine drawX [1, 2, 3, 5, 6, 7, 8, 0, 4, 9, 10] [0, 4, 9] mx (by kernel_rfl) ?_
  refine slcR 0 i hset9 hcS rfl rfl (by omega) (by omega) rfl (fun P1 hP1 => ?_)
  refine arI (by omega) ?_
  refine slcR (i + 1) nS hset9 hcS (show (i : Int) + 1 = ((i + 1 : Nat) : Int) by omega) rfl (by omega) (by omega) rfl (fun P2 hP2 => ?_)
  refine lit [] (fun ga v1 h1 => ?_)
  refine strS h1.ext ?_
  have o1 : OwnF u' v1 (some (ad ga 0)) 0 0 3 1 [] := OwnF.lit (cs := []) (.refl _ _) h1 rfl
  refine appF o1 (ints_src ((hP1 _ _ hset9).ext h1.ext)) (by omega) (fun R1 r1 v2 o2 k2 hR1 => ?_) (h1 := by rw [List.all_map]; exact List.all_eq_true.2 fun _ _ => rfl)
  refine strS o2.ext ?_
  refine appF o2 (ints_src ((hP2 _ _ hset9).ext o2.ext)) (by omega) (fun R2 r2 v3 o3 k3 hR2 => ?_) (h1 := by rw [List.all_map]; exact List.all_eq_true.2 fun _ _ => rfl)
  refine strS o3.ext ?_
  have eL : [] ++ ((set.take i).drop 0).map (fun v => Value.int .i64 v) ++ ((set.take nS).drop (i + 1)).map (fun v => Value.int .i64 v) = (set.take i ++ set.drop (i + 1)).map fun v => Value.int .i64 v := by
    rw [List.take_of_length_le (by omega : set.length ≤ nS), List.drop_zero, List.nil_append, List.map_append]
  rw [eL] at o3
  have sR := o3.ints (D := fun _ => True) (fun v hv => by
    have : v ∈ set := by
      rcases List.mem_append.1 hv with hv | hv
      · exact List.mem_of_mem_take hv
      · exact List.mem_of_mem_drop hv
    have := hsb v this
    unfold I64; omega) (by omega) fun _ _ => trivial
  have k3' := k'.trans o3.ext
  obtain ⟨bb, hbb⟩ : ∃ bb, bb = explV d x (set.take i ++ set.drop (i + 1)) := ⟨_, rfl⟩
  refine ldA [.string d.name, iv d.hours, iv d.cap, iv d.start, .slice A1 n1 c1, .slice A2 n2 c2, .slice A3 n3 c3, .slice A4 n4 c4, .slice A5 n5 c5, .slice A6 n6 c6] (.blk (Bd.ext k3')) rfl ?_
  refine ldA [.slice W1 m1 e1, .slice S1 m2 e2] (.blk (Bx.ext k3')) rfl ?_
  have cc := c_Explains (c := r2) (hd.ext k3') (hx.ext k3') sR
  rw [ask_rest q0 i, ← hbb] at cc
  refine call_of cc ?_
  clear cc
  rintro _ v4 ⟨rfl, x4⟩
  have k4 := k3'.trans x4
  refine cN (fun h => absurd rfl h) (fun _ => ?_)
  cases bb with
  | true =>
    refine arI (by omega) ?_
    exact next (i + 1) ⟨by rw [Int.natCast_add]; rfl, trivial⟩ ⟨by omega, k4⟩ (by omega)
  | false =>
    refine callB (c_r49Has (sN.ext k4)) (fun _ => ?_) (fun hh => absurd (mem_named.2 ⟨l0, hl0, needed_in q0 ht hbb.symm hl0 hs0⟩) (of_decide_eq_false hh))
    refine len ?_
    refine loop_rule (fun j : Nat => [(123, iv (j : Int))]) (fun j u3 => j ≤ m ∧ v4 = u3) (fun j _ => m - j) 0 ⟨rfl, trivial⟩ ⟨by omega, rfl⟩ rfl ?_
    rintro G3 j u3 ⟨hj, rfl⟩
    refine cD (fun hltj => ?_) (fun hgej => ?_)
    · have hltj : j < m := by omega
      obtain ⟨g, hdd, rfl, hhd, hc, hI⟩ := (oo.ext k4).cell hltj
      obtain ⟨e1, e2⟩ := ho hdd (List.mem_of_getElem? hhd)
      refine idx j rfl hltj ?_
      refine ld hdd.v hc ?_
      refine callB (c_r49Has (c := hdd.c) hI.rdT) (fun _ => ?_) (fun hh => absurd (needed_in q0 ht hbb.symm e1 e2) (of_decide_eq_false hh))
      refine arI (by omega) ?_
      exact next (j + 1) ⟨by rw [Int.natCast_add]; rfl, trivial⟩ ⟨by omega, rfl⟩ (by omega)
    · refine arI (by omega) ?_
      exact next (i + 1) ⟨by rw [Int.natCast_add]; rfl, trivial⟩ ⟨by omega, k4⟩ (by omega)
end
end Go.Proofs.YtcpdhclnmjfldaaGreat

/- Layer 49 over layer 15: contracts of hitting's Cores$1, elements. -/
namespace Go.Proofs.YtcpdhclnmjfldaaGreat
open Go Go.RowKit

theorem xorW {K : Value → Prop} {a b : Nat} (k : ∀ c : Nat, c = a ^^^ b → K (.int .i64 (c : Int))) (ha : a < 9223372036854775808 := by omega) (hb : b < 9223372036854775808 := by omega) : BitP .xor .i64 (a : Int) (b : Int) K := bitR _ (i64_xor_nat a b ha hb) (k _ rfl)
/-- No neighbour of n whose differing bit was inn says 'same'. -/
def coreB (t : List Bool) (S inn : Nat) (same : Bool) (n : Nat) : Bool := (List.range S).all fun j => !(decide (n >>> j &&& 1 = inn) && (tget t (n ^^^ 2 ^ j) == same))
theorem xor_bit {n j : Nat} (h : n.testBit j = true) : n ^^^ 2 ^ j = n - 2 ^ j := by
  apply Nat.eq_of_testBit_eq
  intro i
  rw [bit_sub h i, Nat.testBit_xor, Nat.testBit_two_pow]
  by_cases hij : i = j
  · subst hij; rw [h]; simp
  · have h1 : decide (i = j) = false := decide_eq_false hij
    have h2 : decide (j = i) = false := decide_eq_false fun e => hij e.symm
    rw [h1, h2]; simp
section
variable {w : World}
set_option maxRecDepth 4000 in
theorem c_hcores1 {t : List Bool} {n S inn m c bn bi bt : Nat} {A : Option Addr} {same : Bool} (h : SlR tBool (fun _ => True) w A m t) (hm : m = 2 ^ S) (hS : S ≤ 12) (hn : n < 2 ^ S) (B1 : Blk w bn 3 [iv (S : Int)]) (B2 : Blk w bi 3 [iv (n : Int)]) (B3 : Blk w bt 53 [.slice A m c]) :
    CallZ Tryz.prog 51 #[iv (inn : Int), .bool same, ptr bn, ptr bi, ptr bt] w (fun v w' => v = .bool (coreB t S inn same n) ∧ w' = w) := by
  have hpow : 2 ^ S ≤ 4096 := Nat.le_trans (Nat.pow_le_pow_right (by omega) hS) (by decide)
  refine fn_rule (args := [iv (inn : Int), .bool same, ptr bn, ptr bi, ptr bt]) Tryz.func51 (by kernel_rfl) ?_
  refine ld (iv (S : Int)) (B1.cell rfl) ?_
  refine loop_rule (fun j : Nat => [(10, iv (j : Int))]) (fun j u => j ≤ S ∧ w = u ∧ ∀ i, i < j → (decide (n >>> i &&& 1 = inn) && (tget t (n ^^^ 2 ^ i) == same)) = false) (fun j _ => S - j) 0 ⟨rfl, trivial⟩ ⟨by omega, rfl, fun i hi => absurd hi (Nat.not_lt_zero _)⟩ rfl ?_
  rintro G j u ⟨hj, rfl, hall⟩
  refine cD (fun hlt => ?_) (fun hge => ?_)
  · have hlt : j < S := by omega
    have hxl : n ^^^ 2 ^ j < 2 ^ S := Nat.xor_lt_two_pow hn (Nat.pow_lt_pow_right (by omega) hlt)
    obtain ⟨b, o, cs, y, rfl, hy, -, -, hc, rfl⟩ := h.at_ (k := n ^^^ 2 ^ j) (by omega)
    have hy' : tget t (n ^^^ 2 ^ j) = y := by unfold tget; rw [List.getD_eq_getElem?_getD, hy]; rfl
    refine drawQ mx (by kernel_rfl) ?_
    refine ld (iv (n : Int)) (B2.cell rfl) ?_
    refine shrV (fun sh hsh => ?_)
    have hsh : sh = n >>> j := by rw [hsh, Int.toNat_natCast]
    have hshl : sh ≤ n := by rw [hsh, Nat.shiftRight_eq_div_pow]; exact Nat.div_le_self _ _
    refine andV (a := sh) (b := 1) (fun an han => ?_)
    have hno : ∀ x, (decide (n >>> j &&& 1 = inn) && (tget t (n ^^^ 2 ^ j) == same)) = x → x = false → ∀ i, i < j + 1 → (decide (n >>> i &&& 1 = inn) && (tget t (n ^^^ 2 ^ i) == same)) = false := fun x e ex i hi => by
      by_cases hij : i = j
      · rw [hij, e, ex]
      · exact hall i (by omega)
    refine cE (fun g => ?_) (fun g => ?_)
    · have g : n >>> j &&& 1 = inn := by rw [← hsh, ← han]; omega
      refine ld (.slice (some (ad b o)) m c) (B3.cell rfl) ?_
      refine ld (iv (n : Int)) (B2.cell rfl) ?_
      refine shl1 (fun pw hpw _ => ?_)
      have hpw : pw = 2 ^ j := by rw [hpw, Int.toNat_natCast]
      refine xorW (a := n) (b := pw) (fun xx hxx => ?_)
      have hxx : xx = n ^^^ 2 ^ j := by rw [hxx, hpw]
      refine idx xx rfl (by omega) ?_
      refine ld (.bool y) (by rw [hxx]; exact hc 0 _ rfl) ?_
      refine eqB (fun e => ?_) (fun e => ?_)
      · refine ret1 (.bool false) rfl ⟨?_, rfl⟩
        have : coreB t S inn same n = false := by
          unfold coreB
          rw [Bool.eq_false_iff]
          intro hh
          have := List.all_eq_true.1 hh j (List.mem_range.2 hlt)
          rw [hy', g, e] at this
          simp at this
        rw [this]
      · refine arI (by omega) ?_
        refine next (j + 1) ⟨by rw [Int.natCast_add]; rfl, trivial⟩ ⟨by omega, rfl, hno _ rfl ?_⟩ (by omega)
        rw [hy']
        have : (y == same) = false := beq_eq_false_iff_ne.2 e
        rw [this, Bool.and_false]
    · refine arI (by omega) ?_
      refine next (j + 1) ⟨by rw [Int.natCast_add]; rfl, trivial⟩ ⟨by omega, rfl, hno _ rfl ?_⟩ (by omega)
      have : decide (n >>> j &&& 1 = inn) = false := decide_eq_false fun e => g (by rw [← e, ← hsh, ← han])
      rw [this, Bool.false_and]
  · refine ret1 (.bool true) rfl ⟨?_, rfl⟩
    have : coreB t S inn same n = true := by
      unfold coreB
      rw [List.all_eq_true]
      intro i hi
      have := hall i (by have := List.mem_range.1 hi; omega)
      rw [this]; rfl
    rw [this]
theorem c_helements1 {s b1 l : Nat} (J : World → Prop) (hs : s < 2 ^ 12) (hJ : ∀ u, J u → u.cell? (ad b1 0) = some (iv (s : Int)))
    (hstep : ∀ (k : Nat) u, s.testBit k = true → k < 12 → J u → YieldP Tryz.prog l [iv (k : Int)].toArray (fun v w' => v = .bool true ∧ J w') u) (h0 : J w) :
    CallZ Tryz.prog 104 #[.func (.yield l) #[] #[], ptr b1] w (fun _ w' => J w') := by
  have hs' : s < 4096 := hs
  refine fn_rule (args := [.func (.yield l) #[] #[], ptr b1]) Tryz.func104 (by kernel_rfl) ?_
  refine loop_rule (fun k : Nat => [(3, iv (k : Int))]) (fun k u => k ≤ 12 ∧ J u) (fun k _ => 13 - k) 0 ⟨rfl, trivial⟩ ⟨by omega, h0⟩ rfl ?_
  rintro G k u ⟨hk, hj⟩
  refine ld (iv (s : Int)) (hJ u hj) ?_
  refine shrV (fun sh hsh => ?_)
  have hsh : sh = s >>> k := by rw [hsh, Int.toNat_natCast]
  have hshl : sh ≤ s := by rw [hsh, Nat.shiftRight_eq_div_pow]; exact Nat.div_le_self _ _
  refine cD (fun hlt => ?_) (fun hge => ret0 hj)
  have hk12 : k < 12 := by
    rcases Nat.lt_or_ge k 12 with h | h
    · exact h
    · have : k = 12 := by omega
      rw [this, shr_zero hs] at hsh
      omega
  refine ld (iv (s : Int)) (hJ u hj) ?_
  refine shrV (fun sh2 hsh2 => ?_)
  have hsh2 : sh2 = s >>> k := by rw [hsh2, Int.toNat_natCast]
  refine andV (a := sh2) (b := 1) (fun an han => ?_)
  have hb : an = 1 ↔ s.testBit k = true := by rw [han, hsh2]; exact bit_one
  refine cE (fun g => ?_) (fun g => ?_)
  · refine yield_of (hstep k u (hb.1 (by omega)) hk12 hj) ?_
    rintro _ u2 ⟨rfl, hj2⟩
    refine arI (by omega) ?_
    exact next (k + 1) ⟨by rw [Int.natCast_add]; rfl, trivial⟩ ⟨by omega, hj2⟩ (by omega)
  · refine arI (by omega) ?_
    exact next (k + 1) ⟨by rw [Int.natCast_add]; rfl, trivial⟩ ⟨by omega, hj⟩ (by omega)
theorem c_helements {s : Int} : CallZ Tryz.prog 72 #[iv s] w (fun v w' => ∃ b1, v = .func (.func 104) #[] #[ptr b1] ∧ NewB w 3 [iv s] b1 w') := by
  refine fn_rule (args := [iv s]) Tryz.func72 (by kernel_rfl) ?_
  refine box (fun b1 w1 h1 => ?_)
  refine ret1 (.func (.func 104) #[] #[ptr b1]) rfl ⟨b1, rfl, h1⟩
end
end Go.Proofs.YtcpdhclnmjfldaaGreat

/- Layer 49 over layer 15: contract of hitting.table. -/
namespace Go.Proofs.YtcpdhclnmjfldaaGreat
open Go Go.RowKit

section
variable {w : World}
set_option maxRecDepth 8000 in
theorem c_htable {t : List Bool} {S m c : Nat} {A : Option Addr} (h : SlR tBool (fun _ => True) w A m t) (hm : m = 2 ^ S) (hS : S ≤ 12) (hmon : ∀ n k, n < 2 ^ S → tget t n = true → n.testBit k = true → tget t (n - 2 ^ k) = true) :
    CallZ Tryz.prog 50 #[iv (S : Int), .slice A m c] w (fun v w' => v = iv 0 ∧ Ext w w') := by
  have hpow : 2 ^ S ≤ 4096 := Nat.le_trans (Nat.pow_le_pow_right (by omega) hS) (by decide)
  have h := h.more (D' := fun b => b < w.heap.size) (by decide) fun b hb _ => hb
  refine fn_rule (args := [iv (S : Int), .slice A m c]) Tryz.func50 (by kernel_rfl) ?_
  refine box (fun bt w1 h1 => ?_)
  refine alloc (fun be w2 h2 => ?_)
  have x2 := h1.ext.trans h2.ext
  have Bt : Blk w2 bt 53 [.slice A m c] := h1.blk.ext h2.ext
  have a1 := h1.at_
  have a2 := h2.at_
  have z1 := h1.size
  have z2 := h2.size
  refine cD (fun h => absurd h (by omega)) (fun _ => ?_)
  refine drawQ mx (by kernel_rfl) ?_
  refine cD (fun h => absurd h (by omega)) (fun _ => ?_)
  refine ld (.slice A m c) (Bt.cell rfl) ?_
  refine len ?_
  refine shl1 (fun pw hpw _ => ?_)
  have hpw : pw = 2 ^ S := by rw [hpw, Int.toNat_natCast]
  refine cN (fun hne => absurd (show (m : Int) = (pw : Int) by omega) hne) (fun _ => ?_)
  refine ld (.slice A m c) (Bt.cell rfl) ?_
  refine len ?_
  refine loopD (fun (k : Nat) (_ : Unit) => [(21, iv (k : Int))]) (fun k _ ds u => k ≤ m ∧ Ext w2 u ∧ Marks w2.heap.size ds u) (fun k _ _ => m - k) 0 () ⟨rfl, trivial⟩ ⟨by omega, .refl _ _, trivial⟩ ?_
  rintro G k _ ds u ⟨hk, xu, hmk⟩
  refine cD (fun hlt => ?_) (fun hge => ?_)
  · have hlt : k < m := by omega
    have hu := (h.ext x2).ext xu
    obtain ⟨b, o, cs, yb, rfl, hy, -, -, hc, rfl⟩ := hu.at_ hlt
    have hy' : tget t k = yb := by unfold tget; rw [List.getD_eq_getElem?_getD, hy]; rfl
    refine idx k rfl hlt ?_
    refine ld (.bool yb) (hc 0 _ rfl) ?_
    refine alloc (fun g5 u1 i1 => ?_)
    refine alloc (fun g6 u2 i2 => ?_)
    have c1 := i1.at_
    have c2 := i2.at_
    have d1 := i1.size
    have d2 := i2.size
    have zu := xu.size
    refine st1 (i1.blk.ext i2.ext) rfl (fun u3 p3 k3 => ?_)
    refine st1 (i2.blk.kept k3 (by omega)) rfl (fun u4 p4 k4 => ?_)
    have P5 : Blk u4 g5 3 [iv (k : Int)] := p3.kept k4 (by omega)
    have P6 : Blk u4 g6 4 [.bool yb] := p4
    have xu4 : Ext u u4 := ((i1.ext.trans i2.ext).then k3 fun b hb _ e => by omega).then k4 fun b hb _ e => by omega
    have zu4 := xu4.size
    refine ld (iv (k : Int)) (P5.cell rfl) ?_
    refine call_of c_helements ?_
    rintro _ u5 ⟨b1, rfl, h5⟩
    have c5 := h5.at_
    have d5 := h5.size
    refine range (gf := 104) (lb := #[ptr b1]) rfl (fun fn tmps u6 R hR hF' hwf x6 z6 hD6 hl6 => ?_)
    show CallZ _ _ #[.func (.yield (u5.heap.size + 1)) #[] #[], ptr b1] u6 _
    have x46 := h5.ext.trans x6
    have P5' := P5.ext x46
    have P6' := P6.ext x46
    have l5 := P5.lt
    have l6 := P6.lt
    have hu6 := (hu.ext xu4).ext x46
    have Bt6 := (Bt.ext xu).ext (xu4.trans x46)
    have lt6 := (Bt.ext xu).lt
    refine (c_helements1 (s := k) (b1 := b1) (fun y => Kept (fun b => b ≠ u5.heap.size + 1) u6 y ∧ LoopAt y (u5.heap.size + 1) R) (by show k < 4096; omega)
      (fun y hj => ((h5.blk.ext x6).kept hj.1 (by omega)).cell rfl) ?_ ⟨.refl _ _, hl6⟩).mono ?_
    · rintro kk y hbit hk12 ⟨ky, ly⟩
      subst hR
      refine yield_rule (args := [iv (kk : Int)]) ly rfl rfl hF' hwf ?_
      refine mid' ly (fun y3 s3 zs3 ly3 => ?_)
      have ky3 : Kept (fun b => b ≠ u5.heap.size + 1) u6 y3 := ky.then s3 fun b _ h => h
      refine drawQ mx (by kernel_rfl) ?_
      cases yb with
      | false =>
        refine ld (.bool false) ((P6'.kept ky3 (by omega)).cell rfl) ?_
        refine roundN' _ ly3 (fun y4 s4 l4 => ?_)
        exact ⟨rfl, ky3.then s4 (fun b _ h => h), l4⟩
      | true =>
        have hb2 := and_bit hbit
        have hb1 : 2 ^ kk ≤ k := by rw [← hb2]; exact Nat.and_le_left
        have hv := hmon k kk (by omega) hy' hbit
        have hu3 := hu6.keep (w' := y3) fun b hb hD => ky3.blk b hb (show b ≠ u5.heap.size + 1 from by have hD : b < w.heap.size := hD; omega)
        obtain ⟨b', o', cs', v, e, hv', -, -, hc', rfl⟩ := hu3.at_ (k := k - 2 ^ kk) (by omega)
        simp only [Option.some.injEq, Addr.mk.injEq] at e
        obtain ⟨rfl, rfl, -⟩ := e
        have hvv : v = true := by rw [← hv]; unfold tget; rw [List.getD_eq_getElem?_getD, hv']; rfl
        subst hvv
        refine ld (.bool true) ((P6'.kept ky3 (by omega)).cell rfl) ?_
        refine ld (.slice (some (ad b o)) m c) ((Bt6.kept ky3 (by omega)).cell rfl) ?_
        refine ld (iv (k : Int)) ((P5'.kept ky3 (by omega)).cell rfl) ?_
        refine shl1 (fun q hq hql => ?_) (by omega)
        have hq : q = 2 ^ kk := by rw [hq, Int.toNat_natCast]
        refine andNotV (a := k) (b := q) (fun c' hc'' => ?_)
        have hcc : c' = k - 2 ^ kk := by rw [hc'', hq, hb2]
        refine idx c' rfl (by omega) ?_
        refine ld (.bool true) (by rw [hcc]; exact hc' 0 _ rfl) ?_
        refine roundN' _ ly3 (fun y4 s4 l4 => ?_)
        exact ⟨rfl, ky3.then s4 (fun b _ h => h), l4⟩
    · rintro _ y ⟨ky, ly⟩
      subst hR
      refine range_end _ ly (by simp) (fun y1 s1 => ?_)
      have ky1 : Kept (fun b => b ≠ u5.heap.size + 1) u6 y1 := ky.then s1 fun b _ h => h
      have xn : Ext u y1 := (xu4.trans x46).then ky1 fun b hb _ e => by omega
      have hD1 : y1.heap[u5.heap.size]? = some (.deferred (some [])) := (ky1.blk _ (by omega) (by omega)).trans hD6
      refine arI (by omega) ?_
      exact nextD (k + 1) () ⟨by rw [Int.natCast_add]; rfl, trivial⟩ ⟨by omega, xu.trans xn, hmk.add xn (by omega) (by omega) hD1⟩ (by omega)
  · refine st1 (h2.blk.ext xu) rfl (fun u' q' k' => ?_)
    refine retMs (lo := w2.heap.size) (hmk.kept k' (fun b h1 _ _ e => by omega)) (fun u'' k'' => ?_)
    refine resL _ (holds_cell ((q'.kept k'' (by omega)).cell rfl)) ?_
    exact ⟨rfl, ((x2.trans xu).then k' fun b hb _ e => by omega).then k'' fun b hb _ => by omega⟩
end
end Go.Proofs.YtcpdhclnmjfldaaGreat

/- Layer 49 over layer 15: contract of hitting.Cores. -/
namespace Go.Proofs.YtcpdhclnmjfldaaGreat
open Go Go.RowKit

def coresL (t : List Bool) (S m : Nat) : List Nat := (List.range m).filter fun n => !tget t n && coreB t S 1 false n
/-- A slice of one's own stands while another grows. -/
theorem OwnF.other {w0 u v : World} {A C : Option Addr} {n c sz : Nat} {e : TypeId} {cs : List Value} (h : OwnF w0 u C n c e sz cs) (k : Kept (fun b => A ≠ some (ad b 0)) u v) (x : Ext w0 v) (hd : dj A C) : OwnF w0 v C n c e sz cs := by
  refine ⟨h.own.kept k fun g hg e2 => ?_, x, h.new⟩
  rcases h.form with ⟨rfl, -⟩ | ⟨g', rfl, -⟩
  · cases hg
  · have hg : some g' = some g := hg
    injection hg with hg
    subst hg
    exact hd g' e2 rfl
section
variable {w : World}
theorem cores_succ {t : List Bool} {S k : Nat} : coresL t S (k + 1) = coresL t S k ++ if (!tget t k && coreB t S 1 false k) = true then [k] else [] := by
  unfold coresL
  rw [List.range_succ, List.filter_append]
  cases h : (!tget t k && coreB t S 1 false k) <;> simp [h]
set_option maxRecDepth 8000 in
theorem c_hcores {t : List Bool} {S m c : Nat} {A : Option Addr} (h : SlR tBool (fun _ => True) w A m t) (hm : m = 2 ^ S) (hS : S ≤ 12) (hmon : ∀ n k, n < 2 ^ S → tget t n = true → n.testBit k = true → tget t (n - 2 ^ k) = true) :
    CallZ Tryz.prog 25 #[iv (S : Int), .slice A m c] w (fun v w' => ∃ B n' c' B2 n2 c2, v = .tuple #[.slice B n' c', .slice B2 n2 c2, iv 0] ∧ OwnF w w' B n' c' 3 1 ((coresL t S m).map fun k : Nat => iv (k : Int))) := by
  have hpow : 2 ^ S ≤ 4096 := Nat.le_trans (Nat.pow_le_pow_right (by omega) hS) (by decide)
  refine fn_rule (args := [iv (S : Int), .slice A m c]) Tryz.func25 (by kernel_rfl) ?_
  refine box (fun bn w1 h1 => ?_)
  refine box (fun bt w2 h2 => ?_)
  have x2 := h1.ext.trans h2.ext
  have Bn : Blk w2 bn 3 [iv (S : Int)] := h1.blk.ext h2.ext
  have Bt : Blk w2 bt 53 [.slice A m c] := h2.blk
  refine ld (iv (S : Int)) (Bn.cell rfl) ?_
  refine ld (.slice A m c) (Bt.cell rfl) ?_
  refine call_of (c_htable (c := c) (h.ext x2) hm hS hmon) ?_
  rintro _ w3 ⟨rfl, x3⟩
  have h3 := (h.ext x2).ext x3
  have Bn := Bn.ext x3
  have Bt := Bt.ext x3
  refine cN (fun h => absurd rfl h) (fun _ => ?_)
  refine ld (.slice A m c) (Bt.cell rfl) ?_
  refine len ?_
  refine loop3 (fun (k : Nat) (B C : Option Addr × Nat × Nat) => [(18, iv (k : Int)), (4, .slice B.1 B.2.1 B.2.2), (5, .slice C.1 C.2.1 C.2.2)]) (fun k B C u => k ≤ m ∧ B.2.1 ≤ k ∧ C.2.1 ≤ k ∧ OwnF w3 u B.1 B.2.1 B.2.2 3 1 ((coresL t S k).map fun k : Nat => iv (k : Int)) ∧ ∃ l2, OwnF w3 u C.1 C.2.1 C.2.2 3 1 l2 ∧ dj B.1 C.1) (fun k _ _ _ => m - k) 0 (none, 0, 0) (none, 0, 0) ⟨rfl, rfl, rfl, trivial⟩ ⟨by omega, Nat.le_refl _, Nat.le_refl _, OwnF.nil (.refl _ _), [], OwnF.nil (.refl _ _), dj_none⟩ rfl ?_
  rintro G k ⟨B, n1, c1⟩ ⟨C, n2, c2⟩ u ⟨hk, hn1, hn2, q1, l2, q2, hd⟩
  have hn1 : n1 ≤ k := hn1
  have hn2 : n2 ≤ k := hn2
  have q1 : OwnF w3 u B n1 c1 3 1 ((coresL t S k).map fun k : Nat => iv (k : Int)) := q1
  have q2 : OwnF w3 u C n2 c2 3 1 l2 := q2
  have hd : dj B C := hd
  refine cD (fun hlt => ?_) (fun hge => ?_)
  · have hlt : k < m := by omega
    have hu := h3.ext q1.ext
    obtain ⟨b, o, cs, yb, rfl, hy, -, -, hc, rfl⟩ := hu.at_ hlt
    have hy' : tget t k = yb := by unfold tget; rw [List.getD_eq_getElem?_getD, hy]; rfl
    refine idx k rfl hlt ?_
    refine ld (.bool yb) (hc 0 _ rfl) ?_
    refine alloc (fun g5 u1 i1 => ?_)
    have c1' := i1.at_
    have d1 := i1.size
    refine st1 i1.blk rfl (fun u3 p3 k3 => ?_)
    have xu3 : Ext u u3 := i1.ext.then k3 fun b hb _ e => by omega
    have P : Blk u3 g5 3 [iv (k : Int)] := p3
    have q1 := q1.then xu3
    have q2 := q2.then xu3
    have hu := hu.ext xu3
    have Bn := Bn.ext q1.ext
    have Bt := Bt.ext q1.ext
    have cs1 := cores_succ (t := t) (S := S) (k := k)
    rw [hy'] at cs1
    cases yb with
    | false =>
      refine callB (c_hcores1 (inn := 1) (same := false) hu hm hS (by omega) Bn P Bt) (fun e => ?_) (fun e => ?_)
      · rw [e] at cs1
        refine ld (iv (k : Int)) (P.cell rfl) ?_
        refine lit [iv (k : Int)] (fun gg u4 hq => ?_)
        refine appF (q1.then hq.ext) (hq.src (sz := 1) rfl) (by omega) (fun B' e' u5 o5 k5 hA => ?_)
        refine arI (by omega) ?_
        refine next3 (k + 1) (B', n1 + 1, e') (C, n2, c2) ⟨by rw [Int.natCast_add]; rfl, rfl, rfl, trivial⟩ ⟨by omega, by show n1 + 1 ≤ k + 1; omega, by show n2 ≤ k + 1; omega, ?_, l2, ?_, ?_⟩ (by omega)
        · rw [cs1, List.map_append]; exact o5
        · exact (q2.then hq.ext).other k5 o5.ext hd
        · exact hd.app hA (q2.then hq.ext)
      · rw [e] at cs1
        refine arI (by omega) ?_
        refine next3 (k + 1) (B, n1, c1) (C, n2, c2) ⟨by rw [Int.natCast_add]; rfl, rfl, rfl, trivial⟩ ⟨by omega, by show n1 ≤ k + 1; omega, by show n2 ≤ k + 1; omega, ?_, l2, q2, hd⟩ (by omega)
        rw [cs1]; simpa using q1
    | true =>
      refine callB (c_hcores1 (inn := 0) (same := true) hu hm hS (by omega) Bn P Bt) (fun e => ?_) (fun e => ?_)
      · refine ld (iv (k : Int)) (P.cell rfl) ?_
        refine lit [iv (k : Int)] (fun gg u4 hq => ?_)
        refine appF (q2.then hq.ext) (hq.src (sz := 1) rfl) (by omega) (fun B' e' u5 o5 k5 hA => ?_)
        refine arI (by omega) ?_
        refine next3 (k + 1) (B, n1, c1) (B', n2 + 1, e') ⟨by rw [Int.natCast_add]; rfl, rfl, rfl, trivial⟩ ⟨by omega, by show n1 ≤ k + 1; omega, by show n2 + 1 ≤ k + 1; omega, ?_, _, o5, ?_⟩ (by omega)
        · rw [cs1]; simpa using (q1.then hq.ext).other k5 o5.ext hd.symm
        · exact (hd.symm.app hA (q1.then hq.ext)).symm
      · refine arI (by omega) ?_
        refine next3 (k + 1) (B, n1, c1) (C, n2, c2) ⟨by rw [Int.natCast_add]; rfl, rfl, rfl, trivial⟩ ⟨by omega, by show n1 ≤ k + 1; omega, by show n2 ≤ k + 1; omega, ?_, l2, q2, hd⟩ (by omega)
        rw [cs1]; simpa using q1
  · have hkm : k = m := by omega
    rw [hkm] at q1
    refine ret3 (.slice B n1 c1) (.slice C n2 c2) (iv 0) rfl rfl rfl ⟨B, n1, c1, C, n2, c2, rfl, q1.base (x2.trans x3)⟩
end
end Go.Proofs.YtcpdhclnmjfldaaGreat
