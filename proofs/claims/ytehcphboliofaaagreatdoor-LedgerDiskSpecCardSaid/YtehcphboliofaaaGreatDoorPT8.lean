/- Parts of the proof: Lh Li Lj Ll Lm Ln Lo. -/
import Derived.Test.YtehcphboliofaaaGreatDoorPT4
import Derived.Test.YtehcphboliofaaaGreatDoorPT5
import Derived.Test.YtehcphboliofaaaGreatDoorPT6
import Derived.Test.YtehcphboliofaaaGreatDoorPT7
namespace Go.Proofs.YtehcphboliofaaaGreatDoor
open Go Go.RowKit
set_option maxRecDepth 4000 in
theorem or128 : ∀ x, x < 256 → x ||| 128 = x % 128 + 128 := by decide
theorem numF_end {f u : Nat} (h : u < 128) : numF f u = [u] := by
  cases f with
  | zero => rfl
  | succ f => unfold numF; rw [if_pos h]
section
variable {D : Nat → Prop} {w0 w : World}
theorem c_numeral {A : Option Addr} {n c u : Nat} {xs : List Nat} (own : OwnF w0 w A n c 5 1 (u8s xs)) (hu : u < 18446744073709551616) (hn : n ≤ 1000000) :
    CallZ Tryz.prog 243 #[.slice A n c, uv64 u] w (fun v w' => ∃ B m d, v = .slice B m d ∧ OwnF w0 w' B m d 5 1 (u8s (xs ++ num u)) ∧ Kept (fun b => A ≠ some (ad b 0)) w w') := by
  refine fn_rule (args := [.slice A n c, uv64 u]) Tryz.func243 (by kernel_rfl) ?_; refine loop4 (fun (u : Nat) (B : Option Addr) (m d : Nat) => [(0, .slice B m d), (1, uv64 u)]) (fun u' B m d y => u' < 18446744073709551616 ∧ ∃ f ys, f ≤ 9 ∧ m ≤ n + (9 - f) ∧ u' < 2 * 128 ^ f ∧ ys ++ numF f u' = xs ++ num u ∧ OwnF w0 y B m d 5 1 (u8s ys) ∧ (A ≠ B → ∀ b, B = some (ad b 0) → w.heap.size ≤ b) ∧ Kept (fun b => A ≠ some (ad b 0)) w y) (fun u' _ _ _ _ => u') u A n c ⟨rfl, rfl, trivial⟩ ⟨hu, 9, xs, Nat.le_refl _, by omega, by omega, rfl, own, fun h => absurd rfl h, .refl _ _⟩ rfl ?_; rintro G u' B m d y ⟨hu', f, ys, hf, hm, hlt, he, own, hB, k⟩; refine cD (fun h128 => ?_) (fun h128 => ?_)
  · have h128 : 128 ≤ u' := by omega
    obtain ⟨f, rfl⟩ : ∃ g, f = g + 1 := by
      cases f with
      | zero => simp at hlt; omega
      | succ g => exact ⟨g, rfl⟩
    refine cv8 u' rfl ?_; refine or8 (a := u' % 256) (b := 128) (Nat.mod_lt _ (by omega)) (by omega) ?_; rw [or128 _ (Nat.mod_lt _ (by omega))]; refine lit [uv8 (u' % 256 % 128 + 128)] (fun g v hq => ?_); refine appF (own.then hq.ext) (hq.src (n := 1) rfl) (by omega) (fun B' d' v2 own2 k2 hB' => ?_); refine shr64 7 rfl (by omega) ?_; have e7 : u' >>> 7 = u' / 128 := Nat.shiftRight_eq_div_pow u' 7; rw [e7]; refine next4 (u' / 128) B' (m + 1) d' ⟨rfl, rfl, trivial⟩ ⟨by omega, f, ys ++ [u' % 128 + 128], by omega, by omega, ?_, ?_, ?_, ?_, ?_⟩ (by omega)
    · rw [Nat.pow_succ] at hlt; rw [Nat.div_lt_iff_lt_mul (by omega)]; omega
    · rw [← he]
      conv => rhs; unfold numF
      rw [if_neg (by omega)]; simp
    · rw [u8s_app, show u' % 128 + 128 = u' % 256 % 128 + 128 by omega]; exact own2
    · intro hne b hb; rcases hB' with rfl | rfl | rfl
      · exact hB hne b hb
      · cases hb
      · injection hb with hb; injection hb with hb; have s1 := k.size; have s2 := hq.ext.size; omega
    · exact (k.ext hq.ext).then k2 fun i hi hA hB2 => by have := hB (fun e => hA (e.trans hB2)) i hB2; omega
  · have h128 : u' < 128 := by omega
    rw [numF_end h128] at he; refine cv8 u' rfl ?_; rw [Nat.mod_eq_of_lt (show u' < 256 by omega)]; refine lit [uv8 u'] (fun g v hq => ?_); refine appF (own.then hq.ext) (hq.src (n := 1) rfl) (by omega) (fun B' d' v2 own2 k2 hB' => ?_); refine ret1 (.slice B' (m + 1) d') rfl ⟨B', m + 1, d', rfl, ?_, ?_⟩
    · rw [← he, u8s_app]; exact own2
    · exact (k.ext hq.ext).then k2 fun i hi hA hB2 => by have := hB (fun e => hA (e.trans hB2)) i hB2; omega
theorem c_unsigned {n : Int} (h : 0 ≤ n ∧ n ≤ 9223372036854775807) : CallZ Tryz.prog 244 #[iv n] w (fun v w' => v = uv64 (uns n) ∧ w' = w) := by
  refine fn_rule (args := [iv n]) Tryz.func244 (by kernel_rfl) ?_; refine cv64 n.toNat (by omega) ?_; rw [Nat.mod_eq_of_lt (by omega)]; refine shl64 1 rfl (by omega) ?_; obtain ⟨m, rfl⟩ : ∃ m : Nat, n = (m : Int) := ⟨n.toNat, by omega⟩; refine shrV (fun c hc => ?_) (by omega)
  have hc : c = 0 := by
    rw [hc, show ((63 : Int)).toNat = 63 from rfl, Nat.shiftRight_eq_div_pow]; omega
  subst hc; refine cv64 0 rfl ?_; refine xor64 (Nat.mod_lt _ (by omega)) (by omega) ?_; refine ret1 (uv64 (uns (m : Int))) ?_ ⟨rfl, rfl⟩
  have e : ((m : Int).toNat <<< 1) % 18446744073709551616 ^^^ 0 % 18446744073709551616 = uns (m : Int) := by
    unfold uns; rw [if_pos (by omega), Nat.shiftLeft_eq, Nat.zero_mod, Nat.xor_zero]; omega
  rw [e]; rfl
abbrev emp : ByteArray := { data := #[] }
abbrev intC (n : Int) : List Value := [iv 1, iv n, .string emp, .slice none 0 0]
def tIV : Ty Int := tFl 4 intC fun _ => rfl
theorem c_formedI {n : Int} : CallZ Tryz.prog 241 #[.agg #[iv 1, iv n, .string emp, .slice none 0 0]] w (fun v w' => v = .tuple #[iv 0, .bool true] ∧ Ext w w') := by
  refine fn_rule (args := [.agg #[iv 1, iv n, .string emp, .slice none 0 0]]) Tryz.func241 (by kernel_rfl) ?_; refine box (fun g w1 h1 => ?_); have B := h1.blk; have x1 := h1.ext; refine fldA ?_; refine ld (.string emp) (B.cell rfl) ?_; refine eqStr (fun _ => ?_) (fun h => absurd rfl h); refine fldA ?_; refine ld (.slice none 0 0) (B.cell rfl) ?_; refine len ?_; refine cE (fun _ => ?_) (fun h => absurd rfl h); refine fldA ?_; refine ld (iv n) (B.cell rfl) ?_; refine cE (fun h0 => ?_) (fun h0 => ?_)
  · refine fldA ?_; refine ld (.slice none 0 0) (B.cell rfl) ?_; refine len ?_; refine cE (fun _ => ?_) (fun h => absurd rfl h); refine fldA ?_; refine ld (iv n) (B.cell rfl) ?_; refine cE (fun _ => ?_) (fun h => absurd h0 h); refine fldA ?_; refine ld (.string emp) (B.cell rfl) ?_; refine eqStr (fun _ => ?_) (fun h => absurd rfl h); refine bld [.bool false, .bool true, .bool true, .bool true] (by kernel_rfl) ?_; refine alloc (fun b4 w2 h2 => ?_); refine stA (vs := [.bool false, .bool true, .bool true, .bool true]) h2.blk rfl (Nat.le_of_ble_eq_true rfl) (by simp [Value.oneCell']) (fun w3 B3 k3 z3 => ?_); have e2 := h2.at_
    have x3 : Ext w1 w3 := h2.ext.then k3 fun b hb _ e => by omega
    have B := B.ext x3; refine fldA ?_; refine ld (iv 1) (B.cell rfl) ?_; refine cD (fun h => absurd h (by omega)) (fun _ => ?_); refine fldA ?_; refine ld (iv 1) (B.cell rfl) ?_; refine cD (fun h => absurd h (by omega)) (fun _ => ?_); refine fldA ?_; refine ld (iv 1) (B.cell rfl) ?_; refine idxR 1 rfl (by omega) ?_; refine ld (.bool true) (B3.cell rfl) ?_; refine fldA ?_; refine ld (iv 1) (B.cell rfl) ?_; refine cD (fun _ => ?_) (fun h => absurd h (by omega)); exact ret2 (iv 0) (.bool true) rfl rfl ⟨rfl, x1.trans x3⟩
  · refine fldA ?_; refine ld (iv n) (B.cell rfl) ?_; refine cE (fun h => absurd h h0) (fun _ => ?_); refine bld [.bool false, .bool true, .bool false, .bool false] (by kernel_rfl) ?_; refine alloc (fun b4 w2 h2 => ?_); refine stA (vs := [.bool false, .bool true, .bool false, .bool false]) h2.blk rfl (Nat.le_of_ble_eq_true rfl) (by simp [Value.oneCell']) (fun w3 B3 k3 z3 => ?_); have e2 := h2.at_
    have x3 : Ext w1 w3 := h2.ext.then k3 fun b hb _ e => by omega
    have B := B.ext x3; refine fldA ?_; refine ld (iv 1) (B.cell rfl) ?_; refine cD (fun h => absurd h (by omega)) (fun _ => ?_); refine fldA ?_; refine ld (iv 1) (B.cell rfl) ?_; refine cD (fun h => absurd h (by omega)) (fun _ => ?_); refine fldA ?_; refine ld (iv 1) (B.cell rfl) ?_; refine idxR 1 rfl (by omega) ?_; refine ld (.bool true) (B3.cell rfl) ?_; refine fldA ?_; refine ld (iv 1) (B.cell rfl) ?_; refine cD (fun _ => ?_) (fun h => absurd h (by omega)); exact ret2 (iv 0) (.bool true) rfl rfl ⟨rfl, x1.trans x3⟩
theorem c_write1 {A : Option Addr} {m c : Nat} {n : Int} {xs : List Nat} (own : OwnF w0 w A m c 5 1 (u8s xs)) (hn : 0 ≤ n ∧ n ≤ 9223372036854775807) (hm : m ≤ 900000) :
    CallZ Tryz.prog 242 #[.slice A m c, .agg #[iv 1, iv n, .string emp, .slice none 0 0]] w (fun v w' => ∃ B m d, v = .slice B m d ∧ OwnF w0 w' B m d 5 1 (u8s (xs ++ encI n)) ∧ Kept (fun b => A ≠ some (ad b 0)) w w') := by
  refine fn_rule (args := [.slice A m c, .agg #[iv 1, iv n, .string emp, .slice none 0 0]]) Tryz.func242 (by kernel_rfl) ?_; refine box (fun g w1 h1 => ?_); have B := h1.blk; have x1 := h1.ext
  have hne : A ≠ some (ad g 0) := fun e => by
    rcases own.form with ⟨q, -⟩ | ⟨q, h2, -, h3, -⟩
    · rw [q] at e; cases e
    · rw [h2] at e; injection e with e; injection e with e; have := h1.at_; omega
  refine drawP (.take 0 (.take 3 (.take 4 (.eff 1 (.eff 2 (.take 5 (.eff 6 (.take 7 .done)))))))) [] (fun y => Kept (fun b => b = g) w1 y) mx (by kernel_rfl) (.refl _ _) ?_; refine fldA ?_; refine ldK (iv n) (B.cell rfl) rfl (.refl _ _) ?_; refine lit [uv8 1] (fun g2 w2 hq => ?_); refine strS hq.ext.any ?_; refine appF ((own.then x1).then hq.ext) (hq.src (n := 1) rfl) (by omega) (fun A3 d3 w3 own3 k3 hA3 => ?_); refine strS (hq.ext.any.then k3 fun b _ e => by subst e; exact hne) ?_; refine callQ (fun y _ => c_unsigned hn) ?_; refine call_of (c_numeral (xs := xs ++ [1]) (by rw [u8s_app]; exact own3) (uns_lt (by unfold I64; omega)) (by omega)) ?_; rintro _ w4 ⟨B4, m4, d4, rfl, own4, k4⟩; have hs1 := x1.size; have hs2 := hq.ext.size; have hB := B.lt
  have ho : ∀ g, A = some (ad g 0) → g < w.heap.size := fun q e => by
    rcases own.form with ⟨q, -⟩ | ⟨q, h2, -, h3, -⟩
    · rw [q] at e; cases e
    · rw [h2] at e; injection e with e; injection e with e; omega
  have h3 : ∀ i, i < w2.heap.size → A ≠ some (ad i 0) → A3 ≠ some (ad i 0) := fun i hi h e => by
    rcases hA3 with q | q | q
    · exact h (q.symm.trans e)
    · rw [q] at e; cases e
    · rw [q] at e; injection e with e; injection e with e; omega
  have k04 : Kept (fun b => A ≠ some (ad b 0)) w w4 := ((Ext.any (x1.trans hq.ext)).trans k3).then k4 fun i hi h => h3 i (by omega) h; refine strS ((hq.ext.any.then k3 fun b _ e => by subst e; exact hne).then k4 fun b hb e => by subst e; exact h3 _ (by omega) hne) ?_; refine ret1 (.slice B4 m4 d4) rfl ⟨B4, m4, d4, rfl, ?_, k04⟩; rw [List.append_assoc] at own4; exact own4
end
section
variable {D : Nat → Prop} {w0 w : World}
theorem c_formedL {A : Option Addr} {n c : Nat} {ns : List Int} (hs : SlR tIV D w A n ns) (hn : 0 < n) : CallZ Tryz.prog 241 #[.agg #[iv 3, iv 0, .string emp, .slice A n c]] w (fun v w' => v = .tuple #[iv 1, .bool true] ∧ Ext w w') := by
  refine fn_rule (args := [.agg #[iv 3, iv 0, .string emp, .slice A n c]]) Tryz.func241 (by kernel_rfl) ?_; have hle := hs.le; refine box (fun g w1 h1 => ?_); have B := h1.blk; have x1 := h1.ext; refine fldA ?_; refine ld (.string emp) (B.cell rfl) ?_; refine eqStr (fun _ => ?_) (fun h => absurd rfl h); refine fldA ?_; refine ld (.slice A n c) (B.cell rfl) ?_; refine len ?_; refine cE (fun h => absurd h (by omega)) (fun _ => ?_); refine fldA ?_; refine ld (iv 0) (B.cell rfl) ?_; refine cE (fun _ => ?_) (fun h => absurd rfl h); refine fldA ?_; refine ld (.slice A n c) (B.cell rfl) ?_; refine len ?_; refine cE (fun h => absurd h (by omega)) (fun _ => ?_); refine fldA ?_; refine ld (iv 0) (B.cell rfl) ?_; refine cE (fun _ => ?_) (fun h => absurd rfl h); refine fldA ?_; refine ld (.string emp) (B.cell rfl) ?_; refine eqStr (fun _ => ?_) (fun h => absurd rfl h); refine bld [.bool false, .bool false, .bool false, .bool true] (by kernel_rfl) ?_; refine alloc (fun b4 w2 h2 => ?_); refine stA (vs := [.bool false, .bool false, .bool false, .bool true]) h2.blk rfl (Nat.le_of_ble_eq_true rfl) (by simp [Value.oneCell']) (fun w3 B3 k3 z3 => ?_); have e2 := h2.at_
  have x3 : Ext w1 w3 := h2.ext.then k3 fun b hb _ e => by omega
  have B := B.ext x3; refine fldA ?_; refine ld (iv 3) (B.cell rfl) ?_; refine cD (fun h => absurd h (by omega)) (fun _ => ?_); refine fldA ?_; refine ld (iv 3) (B.cell rfl) ?_; refine cD (fun h => absurd h (by omega)) (fun _ => ?_); refine fldA ?_; refine ld (iv 3) (B.cell rfl) ?_; refine idxR 3 rfl (by omega) ?_; refine ld (.bool true) (B3.cell rfl) ?_; refine fldA ?_; refine ld (iv 3) (B.cell rfl) ?_; refine cD (fun h => absurd h (by omega)) (fun _ => ?_); refine fldA ?_; refine ld (.slice A n c) (B.cell rfl) ?_; refine len ?_; refine loop_rule (fun k : Nat => [(2, iv 0), (57, iv (k : Int))]) (fun k u => k ≤ n ∧ Ext w u) (fun k _ => n - k) 0 ⟨rfl, rfl, trivial⟩ ⟨by omega, x1.trans x3⟩ rfl ?_; rintro G k u ⟨hk, xu⟩; refine cD (fun hlt => ?_) (fun hge => ?_)
  · obtain ⟨b, o, cs, x, rfl, hx, -, -, hc, hcs⟩ := (hs.ext xu).at_ (k := k) (by omega); have hcs : cs = intC x := hcs; subst hcs; refine idx k rfl (by omega) ?_; refine ldA (intC x) hc rfl ?_; refine alloc (fun b6 w6 h6 => ?_); refine stA (vs := intC x) h6.blk rfl (Nat.le_of_ble_eq_true rfl) (by simp [Value.oneCell']) (fun w7 B7 k7 z7 => ?_); have e6 := h6.at_
    have x7 : Ext w w7 := (xu.trans h6.ext).then k7 fun b hb _ e => by have := xu.size; omega
    refine ldA (intC x) (.blk B7) rfl ?_; refine call_of (c_formedI (n := x)) ?_; rintro _ w8 ⟨rfl, x8⟩; refine arI (n := (k : Int) + 1) (by omega) ?_; exact next (k + 1) ⟨rfl, by rw [Int.natCast_add]; rfl, trivial⟩ ⟨by omega, x7.trans x8⟩ (by omega)
  · refine arI (n := 1) (by omega) ?_; exact ret2 (iv 1) (.bool true) rfl rfl ⟨rfl, xu⟩
theorem c_vCheck {A : Option Addr} {n c : Nat} {ns : List Int} (hs : SlR tIV D w A n ns) (hn : 0 < n) : CallZ Tryz.prog 208 #[.agg #[iv 3, iv 0, .string emp, .slice A n c]] w (fun v w' => v = iv 0 ∧ Ext w w') := by
  refine fn_rule (args := [.agg #[iv 3, iv 0, .string emp, .slice A n c]]) Tryz.func208 (by kernel_rfl) ?_; refine box (fun g w1 h1 => ?_); refine ldA [iv 3, iv 0, .string emp, .slice A n c] (.blk h1.blk) rfl ?_; refine call_of (c_formedL (hs.ext h1.ext) hn) ?_; rintro _ w2 ⟨rfl, x2⟩; refine cD (fun h => absurd h (by omega)) (fun _ => ?_); exact ret1 (iv 0) rfl ⟨rfl, h1.ext.trans x2⟩
structure Wrt (w : World) (b g : Nat) : Prop where
  p : Blk w b 290 [ptr g]
  a : Blk w g 318 [.nilFunc, .func (.func 242) #[] #[], .func (.func 245) #[] #[], .func (.func 246) #[] #[ptr b]]
theorem Wrt.ext {w w' : World} {b g : Nat} (h : Wrt w b g) (k : Ext w w') : Wrt w' b g := ⟨h.p.ext k, h.a.ext k⟩
theorem c_newWriter : CallZ Tryz.prog 209 #[] w (fun v w' => ∃ b g, v = ptr g ∧ Wrt w' b g ∧ Ext w w') := by
  refine fn_rule (args := []) Tryz.func209 (by kernel_rfl) ?_; refine bld [.nilFunc, .nilFunc, .nilFunc, .nilFunc] (by kernel_rfl) ?_; refine box (fun g w1 h1 => ?_); refine alloc (fun b w2 h2 => ?_); have B0 : Blk w1 g 318 [.nilFunc, .nilFunc, .nilFunc, .nilFunc] := h1.blk; refine st1 (v := ptr g) h2.blk rfl (fun w3 B3 k3 => ?_); have e1 := h1.at_; have e2 := h2.at_; have l0 := B0.lt; have B3 : Blk w3 b 290 [ptr g] := B3
  have x3 : Ext w1 w3 := h2.ext.then k3 fun b hb _ e => by omega
  have B0 := B0.ext x3; have lb := B3.lt; have s1 := h1.ext.size; have sz3 := x3.size; refine ld (ptr g) (B3.cell rfl) ?_; refine idxR 1 rfl (by omega) ?_; refine fldA ?_; refine st B0 (Nat.le_of_ble_eq_true rfl) rfl (fun w4 B4 k4 _ => ?_); have P4 := B3.kept k4 (show b ≠ g by omega); refine ld (ptr g) (P4.cell rfl) ?_; refine idxR 2 rfl (by omega) ?_; refine fldA ?_; refine st B4 (Nat.le_of_ble_eq_true rfl) rfl (fun w5 B5 k5 _ => ?_); have P5 := P4.kept k5 (show b ≠ g by omega); refine ld (ptr g) (P5.cell rfl) ?_; refine idxR 3 rfl (by omega) ?_; refine fldA ?_; refine st B5 (Nat.le_of_ble_eq_true rfl) rfl (fun w6 B6 k6 _ => ?_); have P6 := P5.kept k6 (show b ≠ g by omega); refine ld (ptr g) (P6.cell rfl) ?_; exact ret1 (ptr g) rfl ⟨b, g, rfl, ⟨P6, B6⟩, (h1.ext.trans x3).then ((k4.trans k5).trans k6) fun i hi _ e => by omega⟩
theorem flat_snoc {ns : List Int} {k : Nat} {x : Int} (h : ns[k]? = some x) : (ns.take (k + 1)).flatMap encI = (ns.take k).flatMap encI ++ encI x := by
  rw [List.take_add_one, h, List.flatMap_append]; simp
theorem flatEnc_len (l : List Int) : (l.flatMap encI).length ≤ 11 * l.length := by
  induction l with
  | nil => simp
  | cons a l ih =>
    have := numF_len 9 (uns a); have h2 : (encI a).length = (numF 9 (uns a)).length + 1 := rfl; rw [List.flatMap_cons, List.length_append, List.length_cons]; omega
theorem c_write3 {A : Option Addr} {n c b gw : Nat} {ns : List Int} (hW : Wrt w b gw) (hs : SlR tIV D w A n ns) (hn : n ≤ 1000) (hp : ∀ x ∈ ns, 0 ≤ x ∧ x ≤ 9223372036854775807) : CallZ Tryz.prog 246 #[.slice none 0 0, .agg #[iv 3, iv 0, .string emp, .slice A n c], ptr b] w (fun v w' => ∃ B m d, v = .slice B m d ∧ OwnF w w' B m d 5 1 (u8s (encIs ns))) := by
  refine fn_rule (args := [.slice none 0 0, .agg #[iv 3, iv 0, .string emp, .slice A n c], ptr b]) Tryz.func246 (by kernel_rfl) ?_; have hlen := hs.len; refine box (fun g w1 h1 => ?_); have B : Blk w1 g 113 [iv 3, iv 0, .string emp, .slice A n c] := h1.blk; have x1 := h1.ext; have hW1 := hW.ext x1; have hs1 := hs.ext x1; refine drawP (.take 0 (.take 3 (.take 4 (.take 5 (.take 6 (.eff 1 (.eff 2 (.eff 7 (.take 8 .done))))))))) [] (fun y => Ext w1 y) mx (by kernel_rfl) (.refl _ _) ?_; refine fldA ?_; refine ldX (.slice A n c) (B.cell rfl) (.refl _ _) ?_; refine len ?_; refine cv64 n rfl ?_; rw [Nat.mod_eq_of_lt (show n < 18446744073709551616 by omega)]; refine lit [uv8 3] (fun g2 w2 hq => ?_); refine strS hq.ext ?_; refine appF (OwnF.nil hq.ext) (hq.src (n := 1) rfl) (by omega) (fun A3 d3 w3 own3 k3 hA3 => ?_); refine strS own3.ext ?_; refine call_of (c_numeral (xs := [3]) own3 (show n < 18446744073709551616 by omega) (by omega)) ?_; rintro _ w4 ⟨B4, m4, d4, rfl, own4, k4⟩; refine strS own4.ext ?_; have hnl := numF_len 9 n; refine fldA ?_; refine ld (.slice A n c) ((B.ext own4.ext).cell rfl) ?_; refine len ?_; refine loop4 (fun (k : Nat) (B : Option Addr) (m d : Nat) => [(0, .slice B m d), (19, iv (k : Int))]) (fun k B m d u => k ≤ n ∧ OwnF w1 u B m d 5 1 (u8s ([3] ++ num n ++ (ns.take k).flatMap encI))) (fun k _ _ _ _ => n - k) 0 B4 m4 d4 ⟨rfl, rfl, trivial⟩ ⟨by omega, by simpa using own4⟩ rfl ?_; rintro G k B2 m d u ⟨hk, own⟩; have own : OwnF w1 u B2 m d 5 1 (u8s ([3] ++ num n ++ (ns.take k).flatMap encI)) := own
  have hm : m ≤ 900000 := by
    have h1 := own.own.len; have h2 := flatEnc_len (ns.take k); rw [List.length_take] at h2; simp only [List.length_map, List.length_append, List.length_cons, List.length_nil, num, Nat.mul_one] at h1; omega
  refine cD (fun hlt => ?_) (fun hge => ?_)
  · obtain ⟨bx, o, cs, x, rfl, hx, -, -, hc, hcs⟩ := (hs1.ext own.ext).at_ (k := k) (by omega); have hcs : cs = intC x := hcs; subst hcs; refine idx k rfl (by omega) ?_; refine ldA (intC x) hc rfl ?_; refine alloc (fun b6 w6 h6 => ?_); refine stA (vs := intC x) h6.blk rfl (Nat.le_of_ble_eq_true rfl) (by simp [Value.oneCell']) (fun w7 B7 k7 z7 => ?_); have e6 := h6.at_
    have x7 : Ext u w7 := h6.ext.then k7 fun b hb _ e => by omega
    have hW7 := (hW1.ext own.ext).ext x7; have own7 := own.then x7; have lW := hW.p.lt; have lA := hW.a.lt; have su := own.ext.size; have s1 := x1.size
    have hB2 : ∀ i, i < w1.heap.size ∨ i = b6 → B2 ≠ some (ad i 0) := fun i hi e => by
      have h1 := own.new i e; rcases own.form with ⟨q, -⟩ | ⟨q, h2, -, h3, -⟩
      · rw [q] at e; cases e
      · rw [h2] at e; injection e with e; injection e with e; omega
    refine drawP (.take 0 (.take 1 (.take 2 (.take 3 (.take 4 (.take 5 (.take 6 (.take 7 (.take 8 (.eff 9 (.take 10 .done))))))))))) [] (fun y => Kept (fun b => B2 ≠ some (ad b 0)) w7 y) mx (by kernel_rfl) (.refl _ _) ?_; refine ldK (ptr gw) (hW7.p.cell rfl) (hB2 b (by omega)) (.refl _ _) ?_; refine fldA ?_; refine ldK (iv 1) (B7.cell rfl) (hB2 b6 (by omega)) (.refl _ _) ?_; refine idxR 1 rfl (by omega) ?_; refine fldA ?_; refine ldK (.func (.func 242) #[] #[]) (hW7.a.cell rfl) (hB2 gw (by omega)) (.refl _ _) ?_; refine ldAK (intC x) (.blk B7) rfl (hB2 b6 (by omega)) (.refl _ _) ?_; refine call_of (c_write1 (own.then x7) (hp x (List.mem_of_getElem? hx)) hm) ?_; rintro _ w8 ⟨B8, m8, d8, rfl, own8, k8⟩; refine strS k8 ?_; refine arI (n := (k : Int) + 1) (by omega) ?_; refine next4 (k + 1) B8 m8 d8 ⟨rfl, by rw [Int.natCast_add]; rfl, trivial⟩ ⟨by omega, ?_⟩ (by omega); rw [flat_snoc hx, ← List.append_assoc]; exact own8
  · rw [List.take_of_length_le (by omega)] at own; refine ret1 (.slice B2 m d) rfl ⟨B2, m, d, rfl, ?_⟩
    have e : [3] ++ num n ++ ns.flatMap encI = encIs ns := by unfold encIs; rw [hlen]; simp
    rw [e] at own; exact own.base x1
theorem c_vEncode {A : Option Addr} {n c : Nat} {ns : List Int} (hs : SlR tIV D w A n ns) (h0 : 0 < n) (hn : n ≤ 1000) (hp : ∀ x ∈ ns, 0 ≤ x ∧ x ≤ 9223372036854775807) : CallZ Tryz.prog 149 #[.agg #[iv 3, iv 0, .string emp, .slice A n c]] w (fun v w' => ∃ B m d, v = .tuple #[.slice B m d, iv 0] ∧ OwnF w w' B m d 5 1 (u8s (encIs ns))) := by
  refine fn_rule (args := [.agg #[iv 3, iv 0, .string emp, .slice A n c]]) Tryz.func149 (by kernel_rfl) ?_; refine box (fun g w1 h1 => ?_); have B : Blk w1 g 113 [iv 3, iv 0, .string emp, .slice A n c] := h1.blk; have x1 := h1.ext; refine ldA [iv 3, iv 0, .string emp, .slice A n c] (.blk B) rfl ?_; refine call_of (c_vCheck (hs.ext x1) h0) ?_; rintro _ w2 ⟨rfl, x2⟩; have B := B.ext x2; refine cN (fun h => absurd rfl h) (fun _ => ?_); refine drawP (.take 1 (.take 2 (.take 7 (.eff 0 (.take 3 (.take 4 (.take 5 (.take 6 (.eff 8 (.take 9 (.take 10 .done))))))))))) [] (fun y => Ext w2 y) mx (by kernel_rfl) (.refl _ _) ?_; refine fldA ?_; refine ldX (iv 3) (B.cell rfl) (.refl _ _) ?_; refine ldAX [iv 3, iv 0, .string emp, .slice A n c] (.blk B) rfl (.refl _ _) ?_; refine call_of c_newWriter ?_; rintro _ w3 ⟨bw, gw, rfl, hW, x3⟩; refine strT (fun y => Ext w3 y) (.refl _ _) (fun u hu => x3.trans hu) ?_; refine idxR 3 rfl (by omega) ?_; refine fldA ?_; refine ldX (.func (.func 246) #[] #[ptr bw]) (hW.a.cell rfl) (.refl _ _) ?_; refine call_of (c_write3 hW ((hs.ext x1).ext (Kept.trans x2 x3)) hn hp) ?_; rintro _ w4 ⟨B4, m4, d4, rfl, own4⟩; refine strS own4.ext ?_; exact ret2 (.slice B4 m4 d4) (iv 0) rfl rfl ⟨B4, m4, d4, rfl, own4.base (x1.trans (x2.trans x3))⟩
theorem flat_ints4 {D : Nat → Prop} {w : World} : ∀ {s : List Int}, FlatR tIV D w s (s.flatMap intC)
  | [] => rfl
  | p :: s => ⟨intC p, s.flatMap intC, rfl, rfl, flat_ints4⟩
def PosI (p : Post) : Prop := ∀ x ∈ p.ns, 0 ≤ x ∧ x ≤ 9223372036854775807
theorem c_text {p : Post} (hp : PosI p) : CallZ Tryz.prog 85 #[.agg p.c.toArray] w (fun v w' => ∃ B m d, v = .slice B m d ∧ OwnF w w' B m d 5 1 (u8s (txt p))) := by
  refine fn_rule (args := [.agg p.c.toArray]) Tryz.func85 (by kernel_rfl) ?_; refine box (fun g w1 h1 => ?_); have B : Blk w1 g 26 p.c := h1.blk; have x1 := h1.ext; have e1 := h1.at_; refine bld [iv 3, iv 0, .string emp, .slice none 0 0] (by kernel_rfl) ?_; refine alloc (fun b3 w2 h2 => ?_); refine stA (vs := [iv 3, iv 0, .string emp, .slice none 0 0]) h2.blk rfl (Nat.le_of_ble_eq_true rfl) (by simp [Value.oneCell']) (fun w3 B3 k3 z3 => ?_); have e2 := h2.at_; have B3 : Blk w3 b3 113 [iv 3, iv 0, .string emp, .slice none 0 0] := B3
  have x13 : Ext w1 w3 := h2.ext.then k3 fun b hb _ e => by omega
  have B := B.ext x13; refine fldA ?_; refine ld (iv p.no) (B.cell rfl) ?_; refine fldA ?_; refine ld (iv p.hour) (B.cell rfl) ?_; refine fldA ?_; refine ld (iv p.sort) (B.cell rfl) ?_; refine fldA ?_; refine ld (iv p.frm) (B.cell rfl) ?_; refine fldA ?_; refine ld (iv p.to) (B.cell rfl) ?_; refine fldA ?_; refine ld (iv p.n) (B.cell rfl) ?_; refine lit (p.ns.map iv) (fun g4 w4 h4 => ?_); have B4 : Blk w4 g4 3 (p.ns.map iv) := h4.blk; have e4 := h4.at_; have lB3 := B3.lt; have B34 := B3.ext h4.ext; refine len ?_; have x4 : Ext w1 w4 := x13.trans h4.ext; have l3 := B34.lt; refine loop4 (fun (k : Nat) (A : Option Addr) (m d : Nat) => [(23, iv (k : Int))]) (fun k A m d u => k ≤ 6 ∧ Blk u b3 113 [iv 3, iv 0, .string emp, .slice A m d] ∧ OwnF w1 u A m d 113 4 ((p.ns.take k).flatMap intC) ∧ m = k ∧ Kept (fun b => b ≠ b3) w4 u ∧ ∀ b, A = some (ad b 0) → w4.heap.size ≤ b) (fun k _ _ _ _ => 6 - k) 0 none 0 0 ⟨rfl, trivial⟩ ⟨by omega, B34, OwnF.nil x4, rfl, .refl _ _, fun b h => by cases h⟩ rfl ?_; rintro G k A m d u ⟨hk, Bu, own, rfl, ku, hA⟩; refine cD (fun hlt => ?_) (fun hge => ?_)
  · obtain ⟨x, hx⟩ : ∃ x, p.ns[m]? = some x := ⟨_, List.getElem?_eq_getElem (show m < p.ns.length by show m < 6; omega)⟩; have B4u := B4.kept ku (show g4 ≠ b3 by omega); have su := ku.size
    have hcell : u.cell? (ad g4 (0 + m * 1)) = some (iv x) := by
      rw [Nat.zero_add, Nat.mul_one]; exact B4u.cell (by rw [List.getElem?_map, hx]; rfl)
    refine idx m rfl (by show m < 6; omega) ?_; refine ld (iv x) hcell ?_; refine fldA ?_; refine ld (.slice A m d) (Bu.cell rfl) ?_; refine bld (intC x) (by kernel_rfl) ?_; refine lit [.agg (intC x).toArray] (fun g5 w5 h5 => ?_); have B5 : Blk w5 g5 113 (intC x) := h5.blk; refine appF (own.then h5.ext) (⟨rfl, fun _ => ⟨g5, 0, rfl, .blk B5⟩⟩ : Src w5 (some (ad g5 0)) 1 4 (intC x)) (by omega) (fun A' d' w6 own6 k6 hA' => ?_); have s5 := h5.ext.size
    have hA6 : ∀ b, A' = some (ad b 0) → w4.heap.size ≤ b := fun b e => by
      rcases hA' with q | q | q
      · exact hA b (q.symm.trans e)
      · rw [q] at e; cases e
      · rw [q] at e; injection e with e; injection e with e; omega
    have Bu6 := (Bu.ext h5.ext).kept k6 (fun e => by have := hA b3 e; omega); refine fldA ?_; refine st Bu6 (Nat.le_of_ble_eq_true rfl) rfl (fun w7 B7 k7 _ => ?_); have k47 : Kept (fun b => b ≠ b3) w4 w7 := ((ku.ext h5.ext).then k6 fun i hi _ e => by have := hA i e; omega).trans k7; refine arI (n := (m : Int) + 1) (by omega) ?_; refine next4 (m + 1) A' (m + 1) d' ⟨by rw [Int.natCast_add]; rfl, trivial⟩ ⟨by omega, B7, ?_, rfl, k47, hA6⟩ (by omega); rw [List.take_add_one, hx, List.flatMap_append]; refine OwnF.thenK (by simpa using own6) k7 (fun q e => by have := hA6 q e; omega) (own6.ext.then k7 fun i hi _ e => by have := h2.at_; omega)
  · have hm : m = 6 := by omega
    subst hm; rw [List.take_of_length_le (by show 6 ≤ 6; omega)] at own; refine ldA [iv 3, iv 0, .string emp, .slice A 6 d] (.blk Bu) rfl ?_
    have hs : SlR tIV (fun b => b ≠ b3) u A 6 p.ns := own.own.rd (a := tIV) flat_ints4 rfl (by omega) fun g hg e => by have := hA g hg; omega
    refine call_of (c_vEncode hs (by omega) (by omega) hp) ?_; rintro _ w8 ⟨B8, m8, d8, rfl, own8⟩; exact ret1 (.slice B8 m8 d8) rfl ⟨B8, m8, d8, rfl, own8.base (x1.trans own.ext)⟩
def LBy (w0 u : World) (A : Option Addr) (n c : Nat) (l : List (List Nat)) : Prop := ∃ cs, OwnF w0 u A n c 102 1 cs ∧ FlatR (tSl tU8) (fun b => A ≠ some (ad b 0)) u l cs
theorem LBy.len {w0 u : World} {A : Option Addr} {n c : Nat} {l : List (List Nat)} (h : LBy w0 u A n c l) : n = l.length := by
  obtain ⟨cs, o, f⟩ := h; have h1 := o.own.len; have h2 := f.len; have : (tSl tU8).sz = 1 := rfl; rw [this] at h2; omega
theorem LBy.rd {w0 u : World} {A : Option Addr} {n c : Nat} {l : List (List Nat)} (h : LBy w0 u A n c l) (hn : n ≤ 140737488355328) : SlR (tSl tU8) (fun _ => True) u A n l := by
  have hl := h.len; obtain ⟨cs, o, f⟩ := h; exact o.own.rd (a := tSl tU8) (f.more fun _ _ _ => trivial) hl hn fun _ _ => trivial
end
def prsN (i acc : Nat) : List Nat → Option (Nat × List Nat)
  | [] => none
  | c :: r => if (i = 0 ∨ c ≠ 0) ∧ (i < 9 ∨ c ≤ 1) then (if c < 128 then some (acc + c % 128 * 128 ^ i, r) else prsN (i + 1) (acc + c % 128 * 128 ^ i) r) else none
theorem numF_lt {f u : Nat} (h : u < 128) : numF f u = [u] := by
  cases f with
  | zero => rfl
  | succ f => unfold numF; rw [if_pos h]
theorem prsN_iff : ∀ (b : List Nat) (i acc u : Nat) (r : List Nat), (∀ x ∈ b, x < 256) → i ≤ 9 →
    (prsN i acc b = some (u, r) ↔ ∃ d, (i = 0 ∨ 0 < d) ∧ d < 2 * 128 ^ (9 - i) ∧ u = acc + d * 128 ^ i ∧ b = numF (9 - i) d ++ r)
  | [], i, acc, u, r, _, hi => by
    constructor
    · intro h; cases h
    · rintro ⟨d, -, -, -, h⟩
      have := (numF_len (9 - i) d).1
      have h := congrArg List.length h
      rw [List.length_append] at h
      simp at h
      omega
  | c :: t, i, acc, u, r, hb, hi => by
    have hc := hb c List.mem_cons_self
    unfold prsN
    by_cases hlt : c < 128
    · have hm : c % 128 = c := Nat.mod_eq_of_lt hlt
      rw [if_pos hlt, hm]
      constructor
      · intro h
        split at h
        · rename_i hq
          simp only [Option.some.injEq, Prod.mk.injEq] at h
          refine ⟨c, by omega, ?_, h.1.symm, by rw [numF_lt hlt, ← h.2]; rfl⟩
          rcases hq.2 with h9 | h9
          · obtain ⟨j, hj⟩ : ∃ j, 9 - i = j + 1 := ⟨8 - i, by omega⟩
            rw [hj, Nat.pow_succ]
            have := Nat.one_le_two_pow (n := 7 * j)
            have : 1 ≤ 128 ^ j := Nat.one_le_pow _ _ (by omega)
            omega
          · have : 1 ≤ 128 ^ (9 - i) := Nat.one_le_pow _ _ (by omega)
            omega
        · cases h
      · rintro ⟨d, h1, h2, h3, h4⟩
        have hd : d < 128 := by
          by_cases hd : d < 128
          · exact hd
          · exfalso
            obtain ⟨j, hj⟩ : ∃ j, 9 - i = j + 1 := ⟨8 - i, by
              have : i ≠ 9 := fun e => by subst e; simp at h2; omega
              omega⟩
            rw [hj] at h4
            unfold numF at h4
            rw [if_neg hd, List.cons_append] at h4
            injection h4 with h4
            omega
        rw [numF_lt hd] at h4
        simp only [List.cons_append, List.nil_append, List.cons.injEq] at h4
        obtain ⟨rfl, rfl⟩ := h4
        have hq : i < 9 ∨ c ≤ 1 := by
          by_cases h9 : i < 9
          · exact .inl h9
          · have : i = 9 := by omega
            subst this
            simp at h2
            exact .inr (by omega)
        rw [if_pos ⟨by omega, hq⟩, h3]
    · rw [if_neg hlt]
      by_cases h9 : i < 9
      · rw [if_pos ⟨.inr (by omega), .inl h9⟩, prsN_iff t (i + 1) _ u r (fun x hx => hb x (List.mem_cons_of_mem _ hx)) (by omega)]
        obtain ⟨j, hj⟩ : ∃ j, 9 - i = j + 1 := ⟨8 - i, by omega⟩
        have hj' : 9 - (i + 1) = j := by omega
        rw [hj, hj']
        constructor
        · rintro ⟨d, h1, h2, h3, h4⟩
          refine ⟨c % 128 + 128 * d, by omega, ?_, ?_, ?_⟩
          · rw [Nat.pow_succ]; omega
          · rw [h3, Nat.add_mul, Nat.pow_succ, Nat.mul_comm 128 d, Nat.mul_assoc d, Nat.mul_comm 128 (128 ^ i)]; omega
          · unfold numF
            rw [if_neg (by omega), h4, show (c % 128 + 128 * d) % 128 + 128 = c by omega, show (c % 128 + 128 * d) / 128 = d by omega]
            rfl
        · rintro ⟨d, h1, h2, h3, h4⟩
          have hd : ¬ d < 128 := fun hd => by
            rw [numF_lt hd] at h4
            simp only [List.cons_append, List.nil_append, List.cons.injEq] at h4
            omega
          unfold numF at h4
          rw [if_neg hd, List.cons_append] at h4
          injection h4 with h5 h6
          refine ⟨d / 128, .inr (by omega), ?_, ?_, h6⟩
          · rw [Nat.pow_succ] at h2; omega
          · have e : d = c % 128 + 128 * (d / 128) := by omega
            rw [h3]
            conv => lhs; rw [e]
            rw [Nat.add_mul, Nat.pow_succ, Nat.mul_comm 128 (d / 128), Nat.mul_assoc (d / 128), Nat.mul_comm 128 (128 ^ i)]; omega
      · have : i = 9 := by omega
        subst this
        rw [if_neg (by omega)]
        constructor
        · intro h; cases h
        · rintro ⟨d, h1, h2, h3, h4⟩
          simp at h2
          rw [numF_lt (by omega)] at h4
          simp only [List.cons_append, List.nil_append, List.cons.injEq] at h4
          omega
theorem prsN_num {b : List Nat} {u : Nat} {r : List Nat} (hb : ∀ x ∈ b, x < 256) : prsN 0 0 b = some (u, r) ↔ u < 18446744073709551616 ∧ b = num u ++ r := by
  rw [prsN_iff b 0 0 u r hb (by omega)]; constructor
  · rintro ⟨d, -, h2, h3, h4⟩
    have : u = d := by omega
    subst this; exact ⟨by omega, h4⟩
  · rintro ⟨h1, h2⟩; exact ⟨u, .inl rfl, by omega, by omega, h2⟩
def sgn (u : Nat) : Int := if u % 2 = 0 then ((u / 2 : Nat) : Int) else -((u / 2 : Nat) : Int) - 1
theorem uns_sgn (u : Nat) : uns (sgn u) = u := by unfold uns sgn; split <;> split <;> omega
theorem sgn_I64 {u : Nat} (h : u < 18446744073709551616) : I64 (sgn u) := by unfold I64 sgn; split <;> omega
theorem sgn_uns (n : Int) : sgn (uns n) = n := uns_inj (uns_sgn _)
def prsL (b : List Nat) : Option (Nat × List Nat) := match prsN 0 0 b with
  | some (n, r) => if n ≤ r.length then some (n, r) else none
  | none => none
structure VS where
  k : Int
  n : Int
  l : List (Int × Int)
def prsM (f : List Nat → Option (VS × List Nat)) : Nat → List Nat → Option (List (Int × Int) × List Nat)
  | 0, b => some ([], b)
  | n + 1, b => match f b with
    | some (x, r) => (match prsM f n r with | some (l, r') => some ((x.k, x.n) :: l, r') | none => none)
    | none => none
def prsV : Nat → List Nat → Option (VS × List Nat)
  | _, [] => none
  | f, c :: r => if c = 1 then (match prsN 0 0 r with | some (u, r') => some (⟨1, sgn u, []⟩, r') | none => none)
    else if c = 2 then (match prsL r with | some (n, r') => some (⟨2, 0, []⟩, r'.drop n) | none => none)
    else if c = 3 then (match f with
      | 0 => none
      | f + 1 => (match prsL r with | some (n, r') => (match prsM (prsV f) n r' with | some (l, r'') => some (⟨3, 0, l⟩, r'') | none => none) | none => none))
    else none
def AllI (l : List (Int × Int)) : Prop := ∀ x ∈ l, x.1 = 1
def Bys (b : List Nat) : Prop := ∀ x ∈ b, x < 256
theorem Bys.app {a b : List Nat} : Bys (a ++ b) ↔ Bys a ∧ Bys b := by unfold Bys; simp [or_imp, forall_and]
theorem prsV_int {f : Nat} {b : List Nat} {x : VS} {r : List Nat} (hb : Bys b) (hk : x.k = 1) (h : prsV f b = some (x, r)) : b = encI x.n ++ r ∧ I64 x.n := by
  cases b with
  | nil => unfold prsV at h; cases h
  | cons c t =>
    unfold prsV at h; have ht : Bys t := fun y hy => hb y (List.mem_cons_of_mem _ hy)
    split at h
    · rename_i hc
      split at h
      · rename_i u r' hu; simp only [Option.some.injEq, Prod.mk.injEq] at h; obtain ⟨rfl, rfl⟩ := h; obtain ⟨h1, h2⟩ := (prsN_num ht).1 hu; refine ⟨?_, sgn_I64 h1⟩; unfold encI; rw [uns_sgn, h2, hc]; rfl
      · cases h
    · exfalso
      split at h
      · split at h
        · simp only [Option.some.injEq, Prod.mk.injEq] at h; rw [← h.1] at hk; simp at hk
        · cases h
      · split at h
        · split at h
          · cases h
          · split at h
            · split at h
              · simp only [Option.some.injEq, Prod.mk.injEq] at h; rw [← h.1] at hk; simp at hk
              · cases h
            · cases h
        · cases h
theorem prsV_enc {f : Nat} {n : Int} {r : List Nat} (hb : Bys r) (h : I64 n) : prsV f (encI n ++ r) = some (⟨1, n, []⟩, r) := by
  unfold encI; rw [List.cons_append]; unfold prsV; rw [if_pos rfl, (prsN_num (r := r) (Bys.app.2 ⟨num_byte (uns_lt h), hb⟩)).2 ⟨uns_lt h, rfl⟩]; simp only [sgn_uns]
theorem prsM_ints {f : Nat} : ∀ (n : Nat) (b : List Nat) (l : List (Int × Int)) (r : List Nat), Bys b → AllI l → prsM (prsV f) n b = some (l, r) →
    ∃ ns : List Int, ns.length = n ∧ l = ns.map (fun n => (1, n)) ∧ b = ns.flatMap encI ++ r ∧ ∀ x ∈ ns, I64 x
  | 0, b, l, r, _, _, h => by
    simp only [prsM, Option.some.injEq, Prod.mk.injEq] at h
    obtain ⟨rfl, rfl⟩ := h
    exact ⟨[], rfl, rfl, rfl, fun x hx => by cases hx⟩
  | n + 1, b, l, r, hb, hl, h => by
    unfold prsM at h
    split at h
    · rename_i x r1 h1
      split at h
      · rename_i l2 r2 h2
        simp only [Option.some.injEq, Prod.mk.injEq] at h
        obtain ⟨rfl, rfl⟩ := h
        obtain ⟨e1, e2⟩ := prsV_int hb (hl _ List.mem_cons_self) h1
        obtain ⟨ns, a1, a2, a3, a4⟩ := prsM_ints n r1 l2 r2 (Bys.app.1 (e1 ▸ hb)).2 (fun y hy => hl y (List.mem_cons_of_mem _ hy)) h2
        refine ⟨x.n :: ns, by rw [List.length_cons, a1], ?_, ?_, ?_⟩
        · rw [List.map_cons, ← a2]
          have := hl _ List.mem_cons_self
          simp only at this
          rw [this]
        · rw [e1, a3, List.flatMap_cons, List.append_assoc]
        · intro y hy
          rcases List.mem_cons.1 hy with rfl | hy
          · exact e2
          · exact a4 y hy
      · cases h
    · cases h
theorem flat_bys {ns : List Int} (h : ∀ x ∈ ns, I64 x) : Bys (ns.flatMap encI) := by
  intro x hx; obtain ⟨n, hn, hx⟩ := List.mem_flatMap.1 hx; unfold encI at hx; rcases List.mem_cons.1 hx with rfl | hx
  · omega
  · exact num_byte (uns_lt (h n hn)) x hx
theorem prsM_enc {f : Nat} : ∀ (ns : List Int) (r : List Nat), Bys r → (∀ x ∈ ns, I64 x) → prsM (prsV f) ns.length (ns.flatMap encI ++ r) = some (ns.map (fun n => (1, n)), r)
  | [], r, _, _ => rfl
  | n :: ns, r, hb, h => by
    have h2 : ∀ x ∈ ns, I64 x := fun x hx => h x (List.mem_cons_of_mem _ hx)
    rw [List.length_cons, List.flatMap_cons, List.append_assoc]
    unfold prsM
    rw [prsV_enc (Bys.app.2 ⟨flat_bys h2, hb⟩) (h n List.mem_cons_self)]
    simp only
    rw [prsM_enc ns r hb h2]
    rfl
theorem prsV_iff {b : List Nat} {x : VS} (hb : Bys b) : (prsV 16 b = some (x, []) ∧ x.k = 3 ∧ AllI x.l) ↔ ∃ ns : List Int, b = encIs ns ∧ x = ⟨3, 0, ns.map (fun n => (1, n))⟩ ∧ (∀ y ∈ ns, I64 y) ∧ ns.length < 18446744073709551616 := by
  constructor
  · rintro ⟨h, hk, ha⟩
    cases b with
    | nil => unfold prsV at h; cases h
    | cons c t =>
      have ht : Bys t := fun y hy => hb y (List.mem_cons_of_mem _ hy); unfold prsV at h
      split at h
      · exfalso
        split at h
        · simp only [Option.some.injEq, Prod.mk.injEq] at h; rw [← h.1] at hk; simp at hk
        · cases h
      · split at h
        · exfalso
          split at h
          · simp only [Option.some.injEq, Prod.mk.injEq] at h; rw [← h.1] at hk; simp at hk
          · cases h
        · split at h
          · rename_i hc; simp only at h
            split at h
            · rename_i n r1 h1
              split at h
              · rename_i l r2 h2; simp only [Option.some.injEq, Prod.mk.injEq] at h; obtain ⟨rfl, rfl⟩ := h; unfold prsL at h1
                split at h1
                · rename_i n' r' h3
                  split at h1
                  · simp only [Option.some.injEq, Prod.mk.injEq] at h1; obtain ⟨rfl, rfl⟩ := h1; obtain ⟨q1, q2⟩ := (prsN_num ht).1 h3; obtain ⟨ns, a1, a2, a3, a4⟩ := prsM_ints _ _ _ _ (Bys.app.1 (q2 ▸ ht)).2 ha h2; refine ⟨ns, ?_, congrArg (VS.mk 3 0) a2, a4, by omega⟩; unfold encIs; rw [hc, q2, a3, a1, List.append_nil]
                  · cases h1
                · cases h1
              · cases h
            · cases h
          · cases h
  · rintro ⟨ns, rfl, rfl, h, hlen⟩; refine ⟨?_, rfl, fun x hx => ?_⟩
    · unfold encIs prsV; rw [if_neg (by omega), if_neg (by omega), if_pos rfl]; simp only
      have hl : prsL (num ns.length ++ ns.flatMap encI) = some (ns.length, ns.flatMap encI) := by
        unfold prsL; rw [(prsN_num (Bys.app.2 ⟨num_byte hlen, flat_bys h⟩)).2 ⟨hlen, rfl⟩]; simp only; rw [if_pos]; clear h hlen hb
        induction ns with
        | nil => simp
        | cons a l ih => rw [List.flatMap_cons, List.length_append, List.length_cons]; unfold encI at *; simp only [List.length_cons]; omega
      rw [hl]; simp only; have := prsM_enc (f := 15) ns [] (fun x hx => by cases hx) h; rw [List.append_nil] at this; rw [this]
    · obtain ⟨n, -, rfl⟩ := List.mem_map.1 hx
      rfl
theorem prsN_len : ∀ (b : List Nat) {i acc u : Nat} {r : List Nat}, prsN i acc b = some (u, r) → r.length < b.length
  | [], _, _, _, _, h => by cases h
  | c :: t, i, acc, u, r, h => by
    unfold prsN at h
    split at h
    · split at h
      · simp only [Option.some.injEq, Prod.mk.injEq] at h
        rw [← h.2, List.length_cons]; omega
      · have := prsN_len t h
        rw [List.length_cons]; omega
    · cases h
theorem prsL_len {b : List Nat} {n : Nat} {r : List Nat} (h : prsL b = some (n, r)) : r.length < b.length := by
  unfold prsL at h
  split at h
  · rename_i h1
    split at h
    · simp only [Option.some.injEq, Prod.mk.injEq] at h; rw [← h.2]; exact prsN_len _ h1
    · cases h
  · cases h
theorem prsM_len {F : List Nat → Option (VS × List Nat)} (hF : ∀ b x r, F b = some (x, r) → r.length ≤ b.length) : ∀ (n : Nat) (b : List Nat) (l : List (Int × Int)) (r : List Nat), prsM F n b = some (l, r) → r.length ≤ b.length
  | 0, b, l, r, h => by
    simp only [prsM, Option.some.injEq, Prod.mk.injEq] at h
    rw [h.2]; exact Nat.le_refl _
  | n + 1, b, l, r, h => by
    unfold prsM at h
    split at h
    · rename_i x r1 h1
      split at h
      · rename_i l2 r2 h2
        simp only [Option.some.injEq, Prod.mk.injEq] at h
        rw [← h.2]
        exact Nat.le_trans (prsM_len hF n _ _ _ h2) (hF _ _ _ h1)
      · cases h
    · cases h
theorem prsV_len : ∀ (f : Nat) (b : List Nat) (x : VS) (r : List Nat), prsV f b = some (x, r) → r.length ≤ b.length := by
  intro f
  induction f with
  | zero =>
    intro b x r h
    cases b with
    | nil => unfold prsV at h; cases h
    | cons c t =>
      unfold prsV at h; rw [List.length_cons]
      split at h
      · split at h
        · rename_i h1; simp only [Option.some.injEq, Prod.mk.injEq] at h; have := prsN_len _ h1; rw [← h.2]; omega
        · cases h
      · split at h
        · split at h
          · rename_i h1; simp only [Option.some.injEq, Prod.mk.injEq] at h; have := prsL_len h1; rw [← h.2, List.length_drop]; omega
          · cases h
        · split at h
          · cases h
          · cases h
  | succ f ih =>
    intro b x r h
    cases b with
    | nil => unfold prsV at h; cases h
    | cons c t =>
      unfold prsV at h; rw [List.length_cons]
      split at h
      · split at h
        · rename_i h1; simp only [Option.some.injEq, Prod.mk.injEq] at h; have := prsN_len _ h1; rw [← h.2]; omega
        · cases h
      · split at h
        · split at h
          · rename_i h1; simp only [Option.some.injEq, Prod.mk.injEq] at h; have := prsL_len h1; rw [← h.2, List.length_drop]; omega
          · cases h
        · split at h
          · simp only at h
            split at h
            · rename_i h1
              split at h
              · rename_i h2; simp only [Option.some.injEq, Prod.mk.injEq] at h; have := prsL_len h1; have := prsM_len ih _ _ _ _ h2; rw [← h.2]; omega
              · cases h
            · cases h
          · cases h
abbrev cErr : List PanicEntry := [{ v := .iface 29 (iv 10), recovered := false }]
section
variable {D : Nat → Prop} {w : World}
theorem c_want {ok : Bool} {r : Value} : CallX Tryz.prog 94 #[r, .bool ok] w (fun v w' => v = .tuple #[] ∧ ok = true ∧ w' = w) (fun ch w' => ok = false ∧ w' = w ∧ ch = cErr) := by
  refine fn_ruleX (args := [r, .bool ok]) Tryz.func94 (by kernel_rfl) ?_
  cases ok with
  | true => exact ret0 ⟨rfl, rfl, rfl⟩
  | false =>
    refine mkI rfl (by kernel_rfl) ?_; refine panicI rfl ?_; exact fun _ _ => ⟨rfl, rfl, rfl, rfl⟩
theorem wnt {ok : Bool} {r : Value} {K : VK} {X : XK} (k1 : ok = true → K (.tuple #[]) w) (k2 : ok = false → X cErr w) : CallP Tryz.prog 94 #[r, .bool ok] K X w := by
  refine call_ofX c_want ?_ ?_
  · rintro _ _ ⟨rfl, h, rfl⟩; exact k1 h
  · rintro _ _ ⟨h, rfl, rfl⟩; exact k2 h
structure RdA (D : Nat → Prop) (w : World) (r : Nat) (b : List Nat) : Prop where
  of_ ::
  ex : ∃ A n c, Blk w r 163 [.slice A n c] ∧ SlR tU8 D w A n b ∧ n ≤ c
  ne : ∀ g, D g → g ≠ r
theorem c_rtake {r k : Nat} {b : List Nat} (h : RdA D w r b) (hk : k ≤ 140737488355328) : CallX Tryz.prog 162 #[ptr r, iv (k : Int)] w
    (fun v w' => k ≤ b.length ∧ ∃ A, v = .slice A k k ∧ SlR tU8 D w' A k (b.take k) ∧ RdA D w' r (b.drop k) ∧ Kept (fun g => g ≠ r) w w')
    (fun ch w' => b.length < k ∧ w' = w ∧ ch = cErr) := by
  obtain ⟨⟨A, n, c, B, hs, hc⟩, hne⟩ := h; have hlen := hs.len; refine fn_ruleX (args := [ptr r, iv (k : Int)]) Tryz.func162 (by kernel_rfl) ?_; refine fldA ?_; refine ld (.slice A n c) (B.cell rfl) ?_; refine len ?_; refine cD (fun hle => ?_) (fun hgt => ?_); rotate_left
  · refine wnt (fun h => Bool.noConfusion h) (fun _ => ?_); exact fun _ _ => ⟨rfl, by omega, rfl, rfl⟩
  refine wnt (fun _ => ?_) (fun h => Bool.noConfusion h)
  have hle : k ≤ n := by omega
  refine fldA ?_; refine ld (.slice A n c) (B.cell rfl) ?_; refine slcM 0 k k hs rfl rfl rfl (by omega) hle (Nat.le_refl _) (by omega) rfl (fun A2 hA2 => ?_); refine fldA ?_; refine ld (.slice A n c) (B.cell rfl) ?_; refine slcR k n hs hc rfl rfl hle (Nat.le_refl _) rfl (fun A3 hA3 => ?_); refine fldA ?_; refine st1 B rfl (fun w2 B2 k2 => ?_); have s2 := hA2 D w2 (hs.kept k2 fun b _ h => hne b h); have s3 := hA3 D w2 (hs.kept k2 fun b _ h => hne b h); rw [List.drop_zero, Nat.sub_zero] at s2; rw [List.take_of_length_le (by omega)] at s3; refine ret1 (.slice A2 k k) rfl ⟨by omega, A2, rfl, s2, ⟨⟨A3, n - k, c - k, B2, s3, by omega⟩, hne⟩, k2⟩
theorem or_acc {acc c i : Nat} (h : acc < 128 ^ i) : acc ||| (c <<< (7 * i)) = acc + c * 128 ^ i := by
  have e : (128 : Nat) ^ i = 2 ^ (7 * i) := by rw [Nat.pow_mul]
  rw [e] at h ⊢; rw [Nat.or_comm, ← Nat.shiftLeft_add_eq_or_of_lt h, Nat.shiftLeft_eq, Nat.add_comm]
set_option maxRecDepth 4000 in
theorem and127 : ∀ x, x < 256 → x &&& 127 = x % 128 := by decide
theorem acc_bound {acc c i : Nat} (h : acc < 128 ^ i) (hi : i ≤ 9) (hq : i < 9 ∨ c ≤ 1) (hc : c < 256) : (c % 128) <<< (7 * i) < 18446744073709551616 ∧ True ∧ acc < 18446744073709551616 := by
  have e : (c % 128) <<< (7 * i) = c % 128 * 128 ^ i := by rw [Nat.shiftLeft_eq, Nat.pow_mul]
  rw [e]; have h9 : 128 ^ i ≤ 128 ^ 9 := Nat.pow_le_pow_right (by omega) hi; refine ⟨?_, trivial, by omega⟩; rcases hq with hq | hq
  · have h8 : 128 ^ i ≤ 128 ^ 8 := Nat.pow_le_pow_right (by omega) (by omega); have : c % 128 * 128 ^ i ≤ 127 * 128 ^ 8 := Nat.mul_le_mul (by omega) h8; omega
  · have : c % 128 * 128 ^ i ≤ 1 * 128 ^ 9 := Nat.mul_le_mul (by omega) h9; omega
theorem c_rnumber {r : Nat} {b : List Nat} (h : RdA D w r b) : CallX Tryz.prog 164 #[ptr r] w
    (fun v w' => ∃ u b', prsN 0 0 b = some (u, b') ∧ v = uv64 u ∧ RdA D w' r b' ∧ Kept (fun g => g ≠ r) w w')
    (fun ch w' => prsN 0 0 b = none ∧ Kept (fun g => g ≠ r) w w' ∧ ch = cErr) := by
  refine fn_ruleX (args := [ptr r]) Tryz.func164 (by kernel_rfl) ?_; refine loop2 (fun (i acc : Nat) => [(2, uv64 acc), (3, iv (i : Int))]) (fun i acc y => i ≤ 9 ∧ acc < 128 ^ i ∧ Kept (fun g => g ≠ r) w y ∧ ∃ b', prsN 0 0 b = prsN i acc b' ∧ RdA D y r b') (fun i _ _ => 10 - i) 0 0 ⟨rfl, rfl, trivial⟩ ⟨by omega, by omega, .refl _ _, b, rfl, h⟩ rfl ?_; rintro G i acc y ⟨hi, hacc, ky, b', he, hb'⟩; refine call_ofX (c_rtake (k := 1) hb' (by omega)) ?_ ?_; rotate_left
  · rintro _ _ ⟨hlt, rfl, rfl⟩; have : b' = [] := List.eq_nil_of_length_eq_zero (by omega); subst this; exact fun _ _ => ⟨rfl, he, ky, rfl⟩
  rintro _ y2 ⟨hle, A, rfl, hs, hb2, k2⟩
  cases b' with
  | nil => simp at hle
  | cons c t =>
  have hs : SlR tU8 D y2 A 1 [c] := hs; have hb2 : RdA D y2 r t := hb2; have ky2 := ky.trans k2; obtain ⟨bx, o, cs, x, rfl, hx, -, -, hc, hcs⟩ := hs.at_ (k := 0) (by omega); obtain ⟨rfl, hc256⟩ := hcs
  have hxc : c = x := by simpa using hx
  subst hxc; refine idx 0 rfl (by omega) ?_; refine ld (uv8 c) (hc 0 _ rfl) ?_; refine cE (fun h0 => ?_) (fun h0 => ?_)
  · refine cD (fun h9 => ?_) (fun h9 => absurd h9 (by omega)); refine wnt (fun _ => ?_) (fun h => Bool.noConfusion h)
    have hq : (i = 0 ∨ c ≠ 0) ∧ (i < 9 ∨ c ≤ 1) := by omega
    have hb := acc_bound hacc hi hq.2 hc256; refine and8 (a := c) (b := 127) hc256 (by omega) ?_; refine cv64 (c &&& 127) rfl ?_; rw [and127 c hc256, Nat.mod_eq_of_lt (show c % 128 < 18446744073709551616 by omega)]; refine arI (n := 7 * (i : Int)) (by omega) ?_; refine shl64 (7 * i) (by show (7 : Int) * (i : Int) = ((7 * i : Nat) : Int); omega) (by omega) ?_; rw [Nat.mod_eq_of_lt hb.1]; refine or64 hb.2.2 hb.1 ?_; rw [or_acc hacc]; refine cD (fun h1 => ?_) (fun h1 => ?_)
    · refine ret1 (uv64 (acc + c % 128 * 128 ^ i)) rfl ⟨acc + c % 128 * 128 ^ i, t, ?_, rfl, hb2, ky2⟩; rw [he]; unfold prsN; rw [if_pos hq, if_pos (by omega)]
    · have h9 : i < 9 := by
        rcases hq.2 with h | h
        · exact h
        · omega
      refine arI (n := (i : Int) + 1) (by omega) ?_; refine next2 (i + 1) (acc + c % 128 * 128 ^ i) ⟨rfl, by rw [Int.natCast_add]; rfl, trivial⟩ ⟨by omega, ?_, ky2, t, ?_, hb2⟩ (by omega)
      · rw [Nat.pow_succ]; have : c % 128 < 128 := Nat.mod_lt _ (by omega); have h2 : c % 128 * 128 ^ i ≤ 127 * 128 ^ i := Nat.mul_le_mul_right _ (by omega); omega
      · rw [he]
        conv => lhs; unfold prsN
        rw [if_pos hq, if_neg (by omega)]
  · refine cN (fun hc0 => ?_) (fun hc0 => ?_)
    · refine cD (fun h9 => ?_) (fun h9 => ?_)
      · refine wnt (fun _ => ?_) (fun h => Bool.noConfusion h)
        have hq : (i = 0 ∨ c ≠ 0) ∧ (i < 9 ∨ c ≤ 1) := by omega
        have hb := acc_bound hacc hi hq.2 hc256; refine and8 (a := c) (b := 127) hc256 (by omega) ?_; refine cv64 (c &&& 127) rfl ?_; rw [and127 c hc256, Nat.mod_eq_of_lt (show c % 128 < 18446744073709551616 by omega)]; refine arI (n := 7 * (i : Int)) (by omega) ?_; refine shl64 (7 * i) (by show (7 : Int) * (i : Int) = ((7 * i : Nat) : Int); omega) (by omega) ?_; rw [Nat.mod_eq_of_lt hb.1]; refine or64 hb.2.2 hb.1 ?_; rw [or_acc hacc]; refine cD (fun h1 => ?_) (fun h1 => ?_)
        · refine ret1 (uv64 (acc + c % 128 * 128 ^ i)) rfl ⟨acc + c % 128 * 128 ^ i, t, ?_, rfl, hb2, ky2⟩; rw [he]; unfold prsN; rw [if_pos hq, if_pos (by omega)]
        · have h9 : i < 9 := by
            rcases hq.2 with h | h
            · exact h
            · omega
          refine arI (n := (i : Int) + 1) (by omega) ?_; refine next2 (i + 1) (acc + c % 128 * 128 ^ i) ⟨rfl, by rw [Int.natCast_add]; rfl, trivial⟩ ⟨by omega, ?_, ky2, t, ?_, hb2⟩ (by omega)
          · rw [Nat.pow_succ]; have : c % 128 < 128 := Nat.mod_lt _ (by omega); have h2 : c % 128 * 128 ^ i ≤ 127 * 128 ^ i := Nat.mul_le_mul_right _ (by omega); omega
          · rw [he]
            conv => lhs; unfold prsN
            rw [if_pos hq, if_neg (by omega)]
      · refine cD (fun h1 => ?_) (fun h1 => ?_)
        · refine wnt (fun _ => ?_) (fun h => Bool.noConfusion h)
          have hq : (i = 0 ∨ c ≠ 0) ∧ (i < 9 ∨ c ≤ 1) := by omega
          have hb := acc_bound hacc hi hq.2 hc256; refine and8 (a := c) (b := 127) hc256 (by omega) ?_; refine cv64 (c &&& 127) rfl ?_; rw [and127 c hc256, Nat.mod_eq_of_lt (show c % 128 < 18446744073709551616 by omega)]; refine arI (n := 7 * (i : Int)) (by omega) ?_; refine shl64 (7 * i) (by show (7 : Int) * (i : Int) = ((7 * i : Nat) : Int); omega) (by omega) ?_; rw [Nat.mod_eq_of_lt hb.1]; refine or64 hb.2.2 hb.1 ?_; rw [or_acc hacc]; refine cD (fun h1 => ?_) (fun h1 => ?_)
          · refine ret1 (uv64 (acc + c % 128 * 128 ^ i)) rfl ⟨acc + c % 128 * 128 ^ i, t, ?_, rfl, hb2, ky2⟩; rw [he]; unfold prsN; rw [if_pos hq, if_pos (by omega)]
          · have h9 : i < 9 := by
              rcases hq.2 with h | h
              · exact h
              · omega
            refine arI (n := (i : Int) + 1) (by omega) ?_; refine next2 (i + 1) (acc + c % 128 * 128 ^ i) ⟨rfl, by rw [Int.natCast_add]; rfl, trivial⟩ ⟨by omega, ?_, ky2, t, ?_, hb2⟩ (by omega)
            · rw [Nat.pow_succ]; have : c % 128 < 128 := Nat.mod_lt _ (by omega); have h2 : c % 128 * 128 ^ i ≤ 127 * 128 ^ i := Nat.mul_le_mul_right _ (by omega); omega
            · rw [he]
              conv => lhs; unfold prsN
              rw [if_pos hq, if_neg (by omega)]
        · refine wnt (fun h => Bool.noConfusion h) (fun _ => ?_); refine fun _ _ => ⟨rfl, ?_, ky2, rfl⟩; rw [he]; unfold prsN; exact if_neg (by omega)
    · refine wnt (fun h => Bool.noConfusion h) (fun _ => ?_); refine fun _ _ => ⟨rfl, ?_, ky2, rfl⟩; rw [he]; unfold prsN; exact if_neg (by omega)
theorem c_rlength {r : Nat} {b : List Nat} (h : RdA D w r b) (hb : Bys b) : CallX Tryz.prog 165 #[ptr r] w
    (fun v w' => ∃ n b', prsL b = some (n, b') ∧ v = iv (n : Int) ∧ n ≤ b'.length ∧ RdA D w' r b' ∧ Kept (fun g => g ≠ r) w w')
    (fun ch w' => prsL b = none ∧ Kept (fun g => g ≠ r) w w' ∧ ch = cErr) := by
  refine fn_ruleX (args := [ptr r]) Tryz.func165 (by kernel_rfl) ?_; refine call_ofX (c_rnumber h) ?_ ?_; rotate_left
  · rintro _ _ ⟨hn, k, rfl⟩; exact fun _ _ => ⟨rfl, by unfold prsL; rw [hn], k, rfl⟩
  rintro _ w2 ⟨u, b', hp, rfl, h2, k2⟩; obtain ⟨⟨A, n, c, B, hs, hc⟩, hne⟩ := h2; have hlen := hs.len; have hle := hs.le; have hu := ((prsN_num hb).1 hp).1; refine fldA ?_; refine ld (.slice A n c) (B.cell rfl) ?_; refine len ?_; refine cv64 n rfl ?_; rw [Nat.mod_eq_of_lt (show n < 18446744073709551616 by omega)]; refine cD (fun hl => ?_) (fun hl => ?_); rotate_left
  · refine wnt (fun h => Bool.noConfusion h) (fun _ => ?_); exact fun _ _ => ⟨rfl, by unfold prsL; rw [hp]; exact if_neg (by omega), k2, rfl⟩
  refine wnt (fun _ => ?_) (fun h => Bool.noConfusion h); refine cvI (by omega) ?_; exact ret1 (iv (u : Int)) rfl ⟨u, b', by unfold prsL; rw [hp]; exact if_pos (by omega), rfl, by omega, ⟨⟨A, n, c, B, hs, hc⟩, hne⟩, k2⟩
theorem i64_xor_neg (a : Nat) (ha : a < 9223372036854775808) : bits .xor .i64 (a : Int) (-1) = -(a : Int) - 1 := by
  show IntKind.i64.wrap ((BitVec.ofInt 64 (a : Int) ^^^ BitVec.ofInt 64 (-1)).toNat : Int) = _
  have e : BitVec.ofInt 64 (-1) = BitVec.allOnes 64 := by decide
  rw [e, BitVec.xor_allOnes, BitVec.toNat_not, ofInt_i64 a ha, IntKind.wrap_i64]; omega
theorem c_vsigned {u : Nat} (hu : u < 18446744073709551616) : CallZ Tryz.prog 163 #[uv64 u] w (fun v w' => v = iv (sgn u) ∧ w' = w) := by
  refine fn_rule (args := [uv64 u]) Tryz.func163 (by kernel_rfl) ?_; refine shr64 1 rfl (by omega) ?_; have e1 : u >>> 1 = u / 2 := Nat.shiftRight_eq_div_pow u 1; rw [e1]; refine cvI (by omega) ?_; refine and64 (a := u) (b := 1) hu (by omega) ?_; have e2 : u &&& 1 = u % 2 := Nat.and_one_is_mod u; rw [e2]; refine cvI (by omega) ?_; rcases Nat.mod_two_eq_zero_or_one u with h | h
  · rw [h]; refine arI (n := 0) (by omega) ?_; refine bitR ((u / 2 : Nat) : Int) ((i64_xor_nat (u / 2) 0 (by omega) (by omega)).trans (by rw [Nat.xor_zero])) ?_; exact ret1 (iv (sgn u)) (by unfold sgn; rw [if_pos h]; rfl) ⟨rfl, rfl⟩
  · rw [h]; refine arI (n := -1) (by omega) ?_; refine bitR (-((u / 2 : Nat) : Int) - 1) (i64_xor_neg (u / 2) (by omega)) ?_; exact ret1 (iv (sgn u)) (by unfold sgn; rw [if_neg (by omega)]; rfl) ⟨rfl, rfl⟩
end
def tVK : Ty (Int × Int) where
  sz := 4
  rep _ _ cs x := (∃ s A n c, cs = [iv x.1, iv x.2, .string s, .slice A n c]) ∧ I64 x.2
  len := fun ⟨⟨_, _, _, _, h⟩, _⟩ => by rw [h]; rfl
  keep _ h := h
  more _ h := h
theorem flatVK {D D' : Nat → Prop} {w w' : World} : ∀ {l : List (Int × Int)} {cs : List Value}, FlatR tVK D w l cs → FlatR tVK D' w' l cs
  | [], _, h => h
  | _ :: _, _, ⟨c, r, h, h1, h2⟩ => ⟨c, r, h, h1, flatVK h2⟩
def RepV (w0 w : World) (v : Value) (x : VS) : Prop := ∃ s A n c, v = .agg #[iv x.k, iv x.n, .string s, .slice A n c] ∧ SlR tVK (fun b => w0.heap.size ≤ b) w A n x.l ∧ n ≤ c ∧ I64 x.n
section
variable {D : Nat → Prop} {w : World}
theorem RdA.kept {D' : Nat → Prop} {w' : World} {r : Nat} {b : List Nat} (h : RdA D w r b) (k : Kept D' w w') (h1 : ∀ g, g < w.heap.size → D g → D' g) (h2 : D' r) : RdA D w' r b := by
  obtain ⟨⟨A, n, c, B, hs, hc⟩, hne⟩ := h; exact ⟨⟨A, n, c, B.kept k h2, hs.kept k h1, hc⟩, hne⟩
theorem RdA.more {D' : Nat → Prop} {r : Nat} {b : List Nat} (h : RdA D w r b) (h1 : ∀ g, g < w.heap.size → D g → D' g) (hne : ∀ g, D' g → g ≠ r) : RdA D' w r b := by
  obtain ⟨⟨A, n, c, B, hs, hc⟩, _⟩ := h; exact ⟨⟨A, n, c, B, hs.more (by decide) h1, hc⟩, hne⟩
theorem RdA.bys {r : Nat} {b : List Nat} (h : RdA D w r b) : Bys b := let ⟨⟨_, _, _, _, hs, _⟩, _⟩ := h; hs.u8b
theorem RdA.len {r : Nat} {b : List Nat} (h : RdA D w r b) : b.length ≤ 140737488355328 := let ⟨⟨_, _, _, _, hs, _⟩, _⟩ := h; by rw [hs.len]; exact hs.le
theorem RdA.lt {r : Nat} {b : List Nat} (h : RdA D w r b) : r < w.heap.size := let ⟨⟨_, _, _, B, _, _⟩, _⟩ := h; B.lt
theorem own_at {w : World} {A : Option Addr} {n c g sz : Nat} {e : TypeId} {xs : List Value} (h : Own w (.slice A n c) e sz n xs) (hg : (Value.slice A n c).ownBlock = some g) : A = some (ad g 0) := by
  rcases h.form with ⟨e1, _⟩ | ⟨g', cap, e1, _⟩
  · rw [e1] at hg; cases hg
  · injection e1 with e1; subst e1; injection hg with hg; rw [← hg]
def RVal (f : Nat) : Prop := ∀ {D : Nat → Prop} {w : World} {r : Nat} {b : List Nat}, f ≤ 16 → RdA D w r b → b.length ≤ 1000000000 → CallX Tryz.prog 93 #[ptr r, iv (((16 - f : Nat) : Nat) : Int)] w
    (fun v w' => ∃ x b', prsV f b = some (x, b') ∧ RepV w w' v x ∧ RdA D w' r b' ∧ Kept (fun g => g ≠ r) w w')
    (fun ch w' => prsV f b = none ∧ Kept (fun g => g ≠ r) w w' ∧ ch = cErr)
theorem u_step {F : List Nat → Option (VS × List Nat)} {n : Nat} {b bk r1 : List Nat} {l : List (Int × Int)} {x : VS} {N k : Nat} (hk : N - k = n + 1) (he : prsM F N b = (match prsM F (N - k) bk with | some (l', r') => some (l ++ l', r') | none => none)) (hx : F bk = some (x, r1)) :
    prsM F N b = (match prsM F (N - (k + 1)) r1 with | some (l', r') => some ((l ++ [(x.k, x.n)]) ++ l', r') | none => none) := by
  rw [he, hk, show N - (k + 1) = n by omega]
  conv => lhs; unfold prsM
  rw [hx]; simp only
  cases prsM F n r1 with
  | none => rfl
  | some p => simp
theorem rvalue_step (f : Nat) (ih : ∀ g, f = g + 1 → RVal g) : RVal f := by
    intro D w r b hf h hbl; refine fn_ruleX (args := [ptr r, iv (((16 - f : Nat) : Nat) : Int)]) Tryz.func93 (by kernel_rfl) ?_; have h0 : RdA (fun g => D g ∧ g < w.heap.size) w r b := h.more (fun g hg hd => ⟨hd, hg⟩) fun g hd => h.ne g hd.1; have back : ∀ {w' : World} {b' : List Nat}, RdA (fun g => D g ∧ g < w.heap.size) w' r b' → RdA D w' r b' := fun h' => h'.more (fun _ _ hd => hd.1) h.ne; have hlr := h.lt; refine alloc (fun b4 w1 h1 => ?_); have e1 := h1.at_; have B1 : Blk w1 b4 113 [iv 0, iv 0, .string emp, .slice none 0 0] := h1.blk; have x1 := h1.ext; have s1 := x1.size; refine call_ofX (c_rtake (k := 1) (h0.kept x1 (fun _ _ _ => trivial) trivial) (by omega)) ?_ ?_; rotate_left
    · rintro _ _ ⟨hlt, rfl, rfl⟩; have : b = [] := List.eq_nil_of_length_eq_zero (by omega); subst this; exact fun _ _ => ⟨rfl, by unfold prsV; rfl, x1.any, rfl⟩
    rintro _ w2 ⟨hle, A, rfl, hs, h2, k2⟩
    cases b with
    | nil => simp at hle
    | cons c t =>
    have hs : SlR tU8 (fun g => D g ∧ g < w.heap.size) w2 A 1 [c] := hs; have h2 : RdA (fun g => D g ∧ g < w.heap.size) w2 r t := h2; obtain ⟨bx, o, cs, x, rfl, hx, -, -, hc, hcs⟩ := hs.at_ (k := 0) (by omega); obtain ⟨rfl, hc256⟩ := hcs
    have hxc : c = x := by simpa using hx
    subst hxc; have B2 := B1.kept k2 (show b4 ≠ r by omega); refine idx 0 rfl (by omega) ?_; refine ld (uv8 c) (hc 0 _ rfl) ?_; refine cvI (by omega) ?_; refine fldA ?_; refine st B2 (Nat.le_of_ble_eq_true rfl) rfl (fun w3 B3 k3 _ => ?_); have B3 : Blk w3 b4 113 [iv (c : Int), iv 0, .string emp, .slice none 0 0] := B3; have h3 : RdA (fun g => D g ∧ g < w.heap.size) w3 r t := h2.kept k3 (fun g _ hd => by omega) (by omega)
    have k03 : Kept (fun g => g ≠ r) w w3 := (x1.any.trans k2).then k3 fun i hi _ => by omega
    rw [List.length_cons] at hbl; refine fldA ?_; refine ld (iv (c : Int)) (B3.cell rfl) ?_; refine cE (fun hc1 => ?_) (fun hc1 => ?_)
    · have hc1 : c = 1 := by omega
      subst hc1; refine call_ofX (c_rnumber h3) ?_ ?_; rotate_left
      · rintro _ w4 ⟨hn, k4, rfl⟩; exact fun _ _ => ⟨rfl, by unfold prsV; rw [if_pos rfl, hn], k03.trans k4, rfl⟩
      rintro _ w4 ⟨u, b', hp, rfl, h4, k4⟩; have hu := ((prsN_num h3.bys).1 hp).1; refine call_of (c_vsigned hu) ?_; rintro _ _ ⟨rfl, rfl⟩; have B4 := B3.kept k4 (show b4 ≠ r by omega); refine fldA ?_; refine st B4 (Nat.le_of_ble_eq_true rfl) rfl (fun w5 B5 k5 _ => ?_); have B5 : Blk w5 b4 113 [iv 1, iv (sgn u), .string emp, .slice none 0 0] := B5; refine ldA [iv 1, iv (sgn u), .string emp, .slice none 0 0] (.blk B5) rfl ?_; refine stA (vs := [iv 1, iv (sgn u), .string emp, .slice none 0 0]) B5 rfl (Nat.le_of_ble_eq_true rfl) (by simp [Value.oneCell']) (fun we Be ke ze => ?_); refine ret ?_; refine resL (.agg ([iv 1, iv (sgn u), .string emp, .slice none 0 0]).toArray) (holds_agg (.blk Be) rfl) ?_; have k5e := k5.trans ke; exact ⟨⟨1, sgn u, []⟩, b', by unfold prsV; rw [if_pos rfl, hp], ⟨emp, none, 0, 0, rfl, .nil, Nat.le_refl _, sgn_I64 hu⟩, back (h4.kept k5e (fun g _ hd => by omega) (by omega)), (k03.trans k4).then k5e fun i hi _ => by omega⟩
    have hc1 : c ≠ 1 := by omega
    refine cE (fun hc2 => ?_) (fun hc2 => ?_)
    · have hc2 : c = 2 := by omega
      subst hc2; refine call_ofX (c_rlength h3 h3.bys) ?_ ?_; rotate_left
      · rintro _ w4 ⟨hn, k4, rfl⟩; exact fun _ _ => ⟨rfl, by unfold prsV; rw [if_neg hc1, if_pos rfl, hn], k03.trans k4, rfl⟩
      rintro _ w4 ⟨n, b', hp, rfl, hn, h4, k4⟩; have h4l := h4.len; refine call_ofX (c_rtake (k := n) h4 (by omega)) ?_ ?_; rotate_left
      · rintro _ _ ⟨hlt, rfl, rfl⟩; omega
      rintro _ w5 ⟨_, A5, rfl, hs5, h5, k5⟩; refine cvBS rfl hs5 ?_; have B5 := B3.kept (k4.trans k5) (show b4 ≠ r by omega); refine fldA ?_; refine st B5 (Nat.le_of_ble_eq_true rfl) rfl (fun w6 B6 k6 _ => ?_); have B6 : Blk w6 b4 113 [iv 2, iv 0, .string (strB (b'.take n)), .slice none 0 0] := B6; refine ldA [iv 2, iv 0, .string (strB (b'.take n)), .slice none 0 0] (.blk B6) rfl ?_; refine stA (vs := [iv 2, iv 0, .string (strB (b'.take n)), .slice none 0 0]) B6 rfl (Nat.le_of_ble_eq_true rfl) (by simp [Value.oneCell']) (fun we Be ke ze => ?_); refine ret ?_; refine resL (.agg ([iv 2, iv 0, .string (strB (b'.take n)), .slice none 0 0]).toArray) (holds_agg (.blk Be) rfl) ?_; have k6e := k6.trans ke; exact ⟨⟨2, 0, []⟩, b'.drop n, by unfold prsV; rw [if_neg hc1, if_pos rfl, hp], ⟨_, none, 0, 0, rfl, .nil, Nat.le_refl _, (show I64 0 by unfold I64; omega)⟩, back (h5.kept k6e (fun g _ hd => by omega) (by omega)), (k03.trans (k4.trans k5)).then k6e fun i hi _ => by omega⟩
    have hc2 : c ≠ 2 := by omega
    refine cE (fun hc3 => ?_) (fun hc3 => ?_); rotate_left
    · refine call_ofX c_want ?_ ?_
      · rintro _ _ ⟨_, h, _⟩
        cases h
      · rintro _ _ ⟨_, rfl, rfl⟩; exact fun _ _ => ⟨rfl, by unfold prsV; rw [if_neg hc1, if_neg hc2, if_neg (by omega)], k03, rfl⟩
    have hc3 : c = 3 := by omega
    subst hc3
    cases f with
    | zero =>
      refine cD (fun h => absurd h (by omega)) (fun _ => ?_); refine wnt (fun h => Bool.noConfusion h) (fun _ => ?_); exact fun _ _ => ⟨rfl, by unfold prsV; rw [if_neg hc1, if_neg hc2, if_pos rfl], k03, rfl⟩
    | succ f =>
    refine cD (fun _ => ?_) (fun h => absurd (show ((16 - (f + 1) : Nat) : Int) < 16 by omega) h); refine wnt (fun _ => ?_) (fun h => Bool.noConfusion h); refine call_ofX (c_rlength h3 h3.bys) ?_ ?_; rotate_left
    · rintro _ w4 ⟨hn, k4, rfl⟩; exact fun _ _ => ⟨rfl, by unfold prsV; rw [if_neg hc1, if_neg hc2, if_pos rfl]; simp only; rw [hn], k03.trans k4, rfl⟩
    rintro _ w4 ⟨N, b', hp, rfl, hN, h4, k4⟩; have hpl := prsL_len hp; have B4 := B3.kept k4 (show b4 ≠ r by omega); have B4 : Blk w4 b4 113 [iv 3, iv 0, .string emp, .slice none 0 0] := B4; have l4 := B4.lt; have s4 := (k03.trans k4).size
    have pv : prsV (f + 1) (3 :: t) = (match prsM (prsV f) N b' with | some (l, r'') => some (⟨3, 0, l⟩, r'') | none => none) := by
      conv => lhs; unfold prsV
      rw [if_neg hc1, if_neg hc2, if_pos rfl]; simp only; rw [hp]
      try rfl
    refine loop4 (fun (k : Nat) (A : Option Addr) (m d : Nat) => [(37, iv (k : Int))]) (fun k A m d u => k ≤ N ∧ Blk u b4 113 [iv 3, iv 0, .string emp, .slice A m d] ∧ m = k ∧ ∃ l cs bk, Own u (.slice A m d) 113 4 m cs ∧ FlatR tVK D u l cs ∧ l.length = m ∧ (∀ g, A = some (ad g 0) → w4.heap.size ≤ g) ∧ RdA (fun g => D g ∧ g < w.heap.size) u r bk ∧ bk.length ≤ 1000000000 ∧ Kept (fun g => g ≠ r ∧ g ≠ b4) w4 u ∧ prsM (prsV f) N b' = (match prsM (prsV f) (N - k) bk with | some (l', r') => some (l ++ l', r') | none => none)) (fun k _ _ _ _ => N - k) 0 none 0 0 ⟨rfl, trivial⟩
      ⟨by omega, B4, rfl, [], [], b', Own.nil _ _ _, rfl, rfl, (fun g hg => by cases hg), h4, by omega, .refl _ _, by rw [Nat.sub_zero]; cases prsM (prsV f) N b' <;> rfl⟩ rfl ?_
    rintro G k A m d u ⟨hk, Bu, rfl, l, cs, bk, own, hfl, hl, hA, hu, hbk, ku, he⟩; have su := ku.size; refine cD (fun hlt => ?_) (fun hge => ?_)
    · refine drawP (.take 0 (.take 1 (.take 2 (.take 3 (.take 4 (.eff 5 (.eff 6 (.eff 7 (.take 8 (.bar (.eff 9 .done))))))))))) [9] (fun y => Kept (fun g => g ≠ r ∧ A ≠ some (ad g 0)) u y) mx (by kernel_rfl) (.refl _ _) ?_; have hb4 : b4 ≠ r ∧ A ≠ some (ad b4 0) := ⟨by omega, fun e => by have := hA b4 e; omega⟩; refine fldA ?_; refine ldK (.slice A m d) (Bu.cell rfl) hb4 (.refl _ _) ?_; refine arI (by omega) ?_
      have hd : ((16 - (f + 1) : Nat) : Int) + 1 = ((16 - f : Nat) : Int) := by omega
      have hc := ih f rfl (by omega) hu hbk; rw [← hd] at hc; obtain ⟨n', hn'⟩ : ∃ n', N - m = n' + 1 := ⟨N - m - 1, by omega⟩; refine call_ofX hc ?_ ?_; rotate_left
      · rintro _ w5 ⟨hn, k5, rfl⟩; refine fun _ _ => ⟨rfl, ?_, (k03.trans k4).then (ku.then k5 fun i hi h => h.1) fun i hi h => ⟨h, by omega⟩, rfl⟩; rw [pv, he, hn']
        have : prsM (prsV f) (n' + 1) bk = none := by unfold prsM; rw [hn]
        rw [this]
      rintro _ w5 ⟨x, r1, hx, ⟨s5, A5, n5, c5, rfl, hs5, hc5, hI5⟩, h5, k5⟩
      have hAr : ∀ g, A = some (ad g 0) → g ≠ r := fun g e => by have := hA g e; omega
      have own5 := own.kept k5 (fun g hg => hAr g (own_at own hg)); refine strS (k5.weak fun i _ h => h.1) ?_; refine lit [.agg #[iv x.k, iv x.n, .string s5, .slice A5 n5 c5]] (fun q w6 h6 => ?_); have B6 : Blk w6 q 113 [iv x.k, iv x.n, .string s5, .slice A5 n5 c5] := h6.blk; have own6 := own5.ext h6.ext; have s6 := (k5.ext h6.ext).size; have Bu6 := (Bu.kept k5 (show b4 ≠ r by omega)).ext h6.ext; have ku6 : Kept (fun g => g ≠ r ∧ g ≠ b4) w4 w6 := (ku.then k5 fun i _ h => h.1).ext h6.ext; refine strS ((k5.ext h6.ext).weak fun i _ h => h.1) ?_; refine app own6 (⟨rfl, fun _ => ⟨q, 0, rfl, .blk B6⟩⟩ : Src w6 (some (ad q 0)) 1 4 [iv x.k, iv x.n, .string s5, .slice A5 n5 c5]) (by simp [Value.oneCell']) rfl (by omega) (by omega) (by omega) (fun v' w7 ha => ?_); have hown7 := ha.own; rcases hown7.form with ⟨_, e0⟩ | ⟨g7, c7, rfl, hc7⟩
      · omega
      have k7 := ha.kept
      have hg7 : w4.heap.size ≤ g7 := by
        rcases ha.at_ with e | e
        · exact hA g7 (own_at own6 (e.symm.trans rfl))
        · have e : g7 = w6.heap.size := Option.some.inj e; omega
      have k7u : Kept (fun g => g ≠ r ∧ A ≠ some (ad g 0)) u w7 := ((k5.ext h6.ext).weak fun i _ h => h.1).then k7 fun i _ h e => h.2 (own_at own6 e); refine strS k7u ?_; refine fldA ?_; refine barS (fun _ => True) trivial ?_; have Bu7 := Bu6.kept k7 (fun e => by have := hA b4 (own_at own6 e); omega); refine st Bu7 (Nat.le_of_ble_eq_true rfl) rfl (fun w8 B8 k8 _ => ?_); have k78 : Kept (fun g => g ≠ b4 ∧ A ≠ some (ad g 0)) w6 w8 := (k7.weak fun i _ h e => h.2 (own_at own6 e)).then k8 fun i _ h => h.1; refine strS trivial ?_; refine arI (n := (m : Int) + 1) (by omega) ?_; refine next4 (m + 1) (some (ad g7 0)) (m + 1) c7 ⟨by rw [Int.natCast_add]; rfl, trivial⟩ ⟨by omega, B8, rfl, l ++ [(x.k, x.n)], cs ++ [iv x.k, iv x.n, .string s5, .slice A5 n5 c5], r1, hown7.kept k8 (fun g hg => by have e := own_at hown7 hg; injection e with e; injection e with e; show g ≠ b4; omega), (flatVK hfl).app (FlatR.one ⟨⟨_, _, _, _, rfl⟩, hI5⟩), by simp [hl], fun g hg => by injection hg with hg; injection hg with hg; omega, ?_, ?_, ?_, u_step hn' he hx⟩ (by omega)
      · exact (h5.kept h6.ext (fun _ _ _ => trivial) trivial).kept k78 (fun g _ hd => ⟨by omega, fun e => by have := hA g e; omega⟩) ⟨by omega, fun e => by have := hA r e; omega⟩
      · have := prsV_len _ _ _ _ hx; omega
      · exact ku6.then k78 fun i hi h => ⟨h.2, fun e => by have := hA i e; omega⟩
    · have hkN : m = N := by omega
      subst hkN; rw [Nat.sub_self] at he
      have he : prsM (prsV f) m b' = some (l, bk) := by rw [he]; unfold prsM; simp
      refine ldA [iv 3, iv 0, .string emp, .slice A m d] (.blk Bu) rfl ?_; refine stA (vs := [iv 3, iv 0, .string emp, .slice A m d]) Bu rfl (Nat.le_of_ble_eq_true rfl) (by simp [Value.oneCell']) (fun we Be ke ze => ?_); refine ret ?_; refine resL (.agg ([iv 3, iv 0, .string emp, .slice A m d]).toArray) (holds_agg (.blk Be) rfl) ?_; have hown7 := own.kept ke (fun g hg => by have := hA g (own_at own hg); omega); refine ⟨⟨3, 0, l⟩, bk, by rw [pv, he], ⟨emp, A, m, d, rfl, ?_, ?_, (show I64 0 by unfold I64; omega)⟩, ?_, ?_⟩
      · have hs1 := hown7.rd (a := tVK) (D := fun b => w.heap.size ≤ b) (flatVK hfl) hl.symm (by omega) fun g hg => by have := hA g hg; omega
        exact hs1
      · exact own.form.elim (fun h => by injection h.1 with _ h1 h2; omega) fun ⟨_, _, h, h2⟩ => by injection h with _ _ h3; omega
      · exact back (hu.kept ke (fun g _ hd => by omega) (by omega))
      · exact (k03.trans k4).then (ku.then ke fun i hi h => h.2) fun i hi h => ⟨h, by omega⟩
theorem c_rvalue (f : Nat) : RVal f := by
  induction f with
  | zero => exact rvalue_step 0 fun g h => by omega
  | succ f ih =>
    refine rvalue_step (f + 1) fun g h => ?_
    have : f = g := by omega
    subst this; exact @ih
end
abbrev zeroV : List Value := [iv 0, iv 0, .string emp, .slice none 0 0]
section
variable {D : Nat → Prop} {w : World}
theorem c_drec {p q : Nat} {x : Int} {cs : List Value} {w0 : World} (hp : Blk (z w0) p 113 cs) (hcs : cs.length = 4) (hq : Blk (z w0) q 29 [iv x]) (hpq : p ≠ q) :
    CallsDIn Fence.wide 0 Tryz.prog 92 #[ptr p, ptr q] (.panicking cErr) w0 (fun e' u' w' => e' = .returned (.tuple #[]) ∧ u' = .panicking [{ v := .iface 29 (iv 10), recovered := true }] ∧ Blk (z w') p 113 zeroV ∧ Blk (z w') q 29 [iv 10] ∧ Kept (fun b => b ≠ p ∧ b ≠ q) (z w0) (z w')) := by
  refine rec_rule (args := [ptr p, ptr q]) (d0 := 3) (d1 := 2) (v := .iface 29 (iv 10)) (u' := .panicking [{ v := .iface 29 (iv 10), recovered := true }]) Tryz.func92 rfl (by kernel_rfl) ?_ w0 ?_
  · intro c₀ cs h; simp [recoverD, h]
  · refine neNil u20 ?_; refine drawP (.take 0 (.take 1 (.alt 2 (.eff 3 (.eff 4 .done)) (.eff 3 (.eff 2 (.eff 4 .done)))))) [] (fun _ => True) mx (by kernel_rfl) trivial ?_; refine bld zeroV (by kernel_rfl) ?_
    have hz : cs.take 0 ++ zeroV ++ cs.drop (0 + zeroV.length) = zeroV := by
      rw [List.drop_of_length_le (by rw [hcs]; exact Nat.le_refl _), List.append_nil]; rfl
    constructor
    · refine tAs0 rfl (by kernel_rfl) ?_; refine strS trivial ?_; refine stA (vs := zeroV) hp rfl (by rw [hcs]; exact Nat.le_refl _) (by simp [Value.oneCell']) (fun w2 B2 k2 _ => ?_); refine strS trivial ?_; rw [hz] at B2; refine st1 (hq.kept k2 (show q ≠ p from fun e => hpq e.symm)) rfl (fun w3 B3 k3 => ?_); refine strS trivial ?_; refine ⟨rfl, fun tmps w4 _ hw4 => ⟨.tuple #[], results_none rfl _ _ _, rfl, rfl, ?_⟩⟩; subst hw4; exact ⟨B2.kept k3 hpq, B3, (k2.weak fun i _ h => h.1).then k3 fun i _ h => h.2⟩
    · refine stA (vs := zeroV) hp rfl (by rw [hcs]; exact Nat.le_refl _) (by simp [Value.oneCell']) (fun w2 B2 k2 _ => ?_); refine strS trivial ?_; refine tAs0 rfl (by kernel_rfl) ?_; refine strS trivial ?_; rw [hz] at B2; refine st1 (hq.kept k2 (show q ≠ p from fun e => hpq e.symm)) rfl (fun w3 B3 k3 => ?_); refine strS trivial ?_; refine ⟨rfl, fun tmps w4 _ hw4 => ⟨.tuple #[], results_none rfl _ _ _, rfl, rfl, ?_⟩⟩; subst hw4; exact ⟨B2.kept k3 hpq, B3, (k2.weak fun i _ h => h.1).then k3 fun i _ h => h.2⟩
theorem c_didle {p q : Nat} {w0 : World} :
    CallsDIn Fence.wide 0 Tryz.prog 92 #[ptr p, ptr q] .returning w0 (fun e' u' w' => e' = .returned (.tuple #[]) ∧ u' = .returning ∧ z w' = z w0) := by
  refine rec_rule (args := [ptr p, ptr q]) (d0 := 3) (d1 := 2) (v := .nilIface) (u' := .returning) Tryz.func92 rfl (by kernel_rfl) ?_ w0 ?_
  · intro c₀ cs h; simp [recoverD, h]
  · refine neNil0 u20 ?_; exact ⟨rfl, fun tmps w3 _ hw3 => ⟨.tuple #[], results_none rfl _ _ _, rfl, rfl, hw3⟩⟩
theorem invD {p q : Nat} (w0 : World) : (invoke (.fn (.func 92) #[ptr p, ptr q]) #[]).run Tryz.prog w0 = .ok (.enter 92 #[ptr p, ptr q]) w0 := (inferInstance : Enters Tryz.prog 92).h #[ptr p, ptr q] w0
theorem dEnd {p q : Nat} {x : Int} {cs : List Value} {F : Fr} {R : VK} {tmps : Array Value} {w0 : World} (hF : ∀ t, tmps.getD t undef = F t) (h2 : F 2 = ptr p) (h3 : F 3 = ptr q) (hp : Blk (z w0) p 113 cs) (hcs : cs.length = 4) (hb : Blk (z w0) q 29 [iv x]) (k : R (.tuple #[.agg cs.toArray, iv x]) (z w0)) :
    LeavesInM Fence.wide 0 Tryz.prog Tryz.f54 tmps (R2 R) [] .returning w0 :=
  leaves_soundG (a := { tmps := tmps, defers := [] }) (R := R) (fun v _ h => ⟨v, rfl, h⟩) hF [] w0 (z w0) rfl (by
    show ResLP _ _ (F 2) _ _
    rw [h2]
    refine resL _ (holds_agg (.blk hp) hcs) ?_
    show ResLP _ _ (F 3) _ _
    rw [h3]
    exact resL _ (holds_cell (hb.cell rfl)) k)
theorem ddoor_idle {p q : Nat} {x : Int} {cs : List Value} {F : Fr} {R : VK} {w : World} (h2 : F 2 = ptr p) (h3 : F 3 = ptr q) (hp : Blk w p 113 cs) (hcs : cs.length = 4) (hb : Blk w q 29 [iv x]) (k : R (.tuple #[.agg cs.toArray, iv x]) w) :
    KendL Tryz.prog Tryz.f54 (R2 R) .normal F [{ target := .fn (.func 92) #[ptr p, ptr q], args := #[] }] w := by
  intro tmps w0 hF hw; subst hw; refine ⟨by simp, .inr ⟨(fun h => Bool.noConfusion h), _, _, 92, #[ptr p, ptr q], rfl, invD w0, fun _ _ => trivial, c_didle.mono ?_⟩⟩; rintro e u w1 ⟨rfl, rfl, hz⟩; show LeavesInM _ _ _ _ _ _ [] .returning w1; exact dEnd hF h2 h3 (by rw [hz]; exact hp) hcs (by rw [hz]; exact hb) (by rw [hz]; exact k)
theorem ddoor_pan {p q : Nat} {x : Int} {cs : List Value} {F : Fr} {R : VK} {w : World} (h2 : F 2 = ptr p) (h3 : F 3 = ptr q) (hp : Blk w p 113 cs) (hcs : cs.length = 4) (hb : Blk w q 29 [iv x]) (hpq : p ≠ q) (k : ∀ w', Kept (fun b => b ≠ p ∧ b ≠ q) w w' → R (.tuple #[.agg zeroV.toArray, iv 10]) w') :
    KendL Tryz.prog Tryz.f54 (R2 R) (.panic cErr) F [{ target := .fn (.func 92) #[ptr p, ptr q], args := #[] }] w := by
  intro tmps w0 hF hw; subst hw; refine ⟨by simp, .inr ⟨(fun h => Bool.noConfusion h), _, _, 92, #[ptr p, ptr q], rfl, invD w0, fun _ _ => trivial, (c_drec hp hcs hb hpq).mono ?_⟩⟩; rintro e' u w1 ⟨rfl, rfl, hp1, hb1, hk⟩; show LeavesInM _ _ _ _ _ _ [] .returning w1; exact dEnd hF h2 h3 hp1 rfl hb1 (k _ hk)
def DecR (w w' : World) (b : List Nat) (v : Value) : Prop := ∃ V e, v = .tuple #[V, iv e] ∧ ((∃ x, prsV 16 b = some (x, []) ∧ e = 0 ∧ RepV w w' V x) ∨ ((∀ x, prsV 16 b ≠ some (x, [])) ∧ e = 10 ∧ V = .agg zeroV.toArray))
theorem RepV.base {v0 w0 u : World} {v : Value} {x : VS} (h : RepV w0 u v x) (k : v0.heap.size ≤ w0.heap.size) : RepV v0 u v x := let ⟨s, A, n, c, h1, h2, h3, h4⟩ := h; ⟨s, A, n, c, h1, h2.more (by decide) fun _ _ h => Nat.le_trans k h, h3, h4⟩
theorem RepV.kept {D' : Nat → Prop} {w0 u u' : World} {v : Value} {x : VS} (h : RepV w0 u v x) (k : Kept D' u u') (hd : ∀ b, w0.heap.size ≤ b → D' b) : RepV w0 u' v x := let ⟨s, A, n, c, h1, h2, h3, h4⟩ := h; ⟨s, A, n, c, h1, h2.kept k fun b _ h => hd b h, h3, h4⟩
theorem c_vDecode {A : Option Addr} {n c : Nat} {b : List Nat} (hs : SlR tU8 D w A n b) (hc : n ≤ c) (hbl : b.length ≤ 1000000000) : CallZ Tryz.prog 54 #[.slice A n c] w (fun v w' => DecR w w' b v ∧ Ext w w') := by
  have hs := hs.more (D' := fun b => b < w.heap.size) (by decide) fun b hb _ => hb; intro w00 hw00; refine fn_ruleD2 (args := [.slice A n c]) (d0 := 5) (c0 := 2) (c1 := 3) (w := w) Tryz.func54 rfl (by kernel_rfl) ?_ w00 hw00; refine alloc (fun p w1 h1 => ?_); refine alloc (fun q w2 h2 => ?_); refine ⟨rfl, ?_⟩; have ep := h1.at_; have eq := h2.at_; have s1 := h1.ext.size; have x2 := h1.ext.trans h2.ext; have s2 := x2.size; have P2 : Blk w2 p 113 zeroV := h1.blk.ext h2.ext; have Q2 : Blk w2 q 29 [iv 0] := h2.blk; have hpl := h1.blk.lt; have hql := Q2.lt; refine bld [.slice A n c] (by kernel_rfl) ?_; refine box (fun r w3 h3 => ?_); have er := h3.at_; have B3 : Blk w3 r 163 [.slice A n c] := h3.blk; have x3 := h3.ext; have s3 := x3.size; have P3 := P2.ext x3; have Q3 := Q2.ext x3
  have fin : ∀ {w5 : World}, Kept (fun g => g ≠ r) w3 w5 → ∀ w', Kept (fun b => b ≠ p ∧ b ≠ q) w5 w' → Ext w w' := fun k5 w' k => ((x2.trans x3).then k5 fun b hb _ => by omega).then k fun b hb _ => by omega
  have hrd : RdA (fun b => b < w.heap.size) w3 r b := ⟨⟨A, n, c, B3, hs.ext (x2.trans x3), hc⟩, fun g hg => by omega⟩; refine call_ofX (c_rvalue 16 (Nat.le_refl _) hrd hbl) ?_ ?_; rotate_left
  · rintro _ w4 ⟨hn, k4, rfl⟩; exact fun F' hF' => ddoor_pan (R := fun v w' => DecR w w' b v ∧ Ext w w') (hF' 2 rfl) (hF' 3 rfl) (P3.kept k4 (show p ≠ r by omega)) rfl (Q3.kept k4 (show q ≠ r by omega)) (by omega) fun w' k => ⟨⟨_, _, rfl, .inr ⟨(fun x h => by rw [hn] at h; cases h), rfl, rfl⟩⟩, fin k4 w' k⟩
  rintro _ w4 ⟨x, b', hx, ⟨s, A4, n4, c4, rfl, hs4, hc4, hI⟩, h4, k4⟩; have P4 := P3.kept k4 (show p ≠ r by omega); have Q4 := Q3.kept k4 (show q ≠ r by omega); refine stA (vs := [iv x.k, iv x.n, .string s, .slice A4 n4 c4]) P4 rfl (Nat.le_of_ble_eq_true rfl) (by simp [Value.oneCell']) (fun w5 P5 k5 _ => ?_); have P5 : Blk w5 p 113 [iv x.k, iv x.n, .string s, .slice A4 n4 c4] := P5; have Q5 := Q4.kept k5 (show q ≠ p by omega); obtain ⟨⟨A5, n5, c5, B5, hs5, hc5⟩, hne⟩ := h4.kept k5 (fun g _ hg => by omega) (show r ≠ p by omega); have hl5 := hs5.len; refine fldA ?_; refine ld (.slice A5 n5 c5) (B5.cell rfl) ?_; refine len ?_; refine cE (fun h0 => ?_) (fun h0 => ?_); rotate_left
  · refine wnt (fun h => Bool.noConfusion h) (fun _ => ?_); have k35 : Kept (fun g => g ≠ r ∧ g ≠ p) w3 w5 := (k4.weak fun i _ h => h.1).then k5 fun i _ h => h.2; refine fun F' hF' => ddoor_pan (R := fun v w' => DecR w w' b v ∧ Ext w w') (hF' 2 rfl) (hF' 3 rfl) P5 rfl Q5 (by omega) fun w' k => ⟨⟨_, _, rfl, .inr ⟨(fun y h => ?_), rfl, rfl⟩⟩, ?_⟩
    · rw [hx] at h; simp only [Option.some.injEq, Prod.mk.injEq] at h; rw [h.2, List.length_nil] at hl5; omega
    · exact ((x2.trans x3).then k35 fun b hb _ => by omega).then k fun b hb _ => by omega
  refine wnt (fun _ => ?_) (fun h => Bool.noConfusion h)
  have hn5 : n5 = 0 := by omega
  have hb' : b' = [] := List.eq_nil_of_length_eq_zero (by omega); subst hb'; refine ldA [iv x.k, iv x.n, .string s, .slice A4 n4 c4] (.blk P5) rfl ?_; refine stA (vs := [iv x.k, iv x.n, .string s, .slice A4 n4 c4]) P5 rfl (Nat.le_of_ble_eq_true rfl) (by simp [Value.oneCell']) (fun w6 P6 k6 _ => ?_); have P6 : Blk w6 p 113 [iv x.k, iv x.n, .string s, .slice A4 n4 c4] := P6; refine st1 (Q5.kept k6 (show q ≠ p by omega)) rfl (fun w7 Q7 k7 => ?_); have k47 : Kept (fun g => g ≠ p ∧ g ≠ q) w4 w7 := ((k5.trans k6).weak fun i _ h => h.1).then k7 fun i _ h => h.2; refine ddoor_idle (R := fun v w' => DecR w w' b v ∧ Ext w w') rfl rfl (P6.kept k7 (show p ≠ q by omega)) rfl Q7 ⟨⟨_, _, rfl, .inl ⟨x, hx, rfl, ?_⟩⟩, ?_⟩
  · have h := (show RepV w3 w4 (.agg #[iv x.k, iv x.n, .string s, .slice A4 n4 c4]) x from ⟨s, A4, n4, c4, rfl, hs4, hc4, hI⟩); exact (h.kept k47 fun g hg => by omega).base (by omega)
  · exact ((x2.trans x3).then k4 fun b hb _ => by omega).then k47 fun b hb _ => by omega
end
end Go.Proofs.YtehcphboliofaaaGreatDoor
namespace Go.Proofs.YtehcphboliofaaaGreatDoor
open Go Go.RowKit Classical
noncomputable def rdT (b : List Nat) : Option Post := if h : ∃ p : Post, b = txt p ∧ ∀ n ∈ p.ns, I64 n then some h.choose else none
theorem rdT_some {b : List Nat} {p : Post} : rdT b = some p ↔ b = txt p ∧ ∀ n ∈ p.ns, I64 n := by
  unfold rdT; constructor
  · intro h
    split at h
    · rename_i hp; have := hp.choose_spec; injection h with h; rw [h] at this; exact this
    · cases h
  · intro h; have hp : ∃ p : Post, b = txt p ∧ ∀ n ∈ p.ns, I64 n := ⟨p, h⟩; rw [dif_pos hp]; have := hp.choose_spec; exact congrArg some (txt_inj (this.1.symm.trans h.1))
section
variable {D : Nat → Prop} {w : World}
theorem c_idxV {A : Option Addr} {n c : Nat} {l : List (Int × Int)} (hs : SlR tVK D w A n l) : CallZ Tryz.prog 95 #[.slice A n c, .func (.func 56) #[] #[]] w (fun v w' => ∃ i : Int, v = iv i ∧ (0 ≤ i ↔ ¬ AllI l) ∧ Ext w w') := by
  refine fn_rule (args := [.slice A n c, .func (.func 56) #[] #[]]) Tryz.func95 (by kernel_rfl) ?_; have hlen := hs.len; have hle := hs.le; refine len ?_; refine loop_rule (fun k : Nat => [(8, iv (k : Int))]) (fun k u => k ≤ n ∧ Ext w u ∧ AllI (l.take k)) (fun k _ => n - k) 0 ⟨rfl, trivial⟩ ⟨by omega, .refl _ _, fun x hx => by simp at hx⟩ rfl ?_; rintro G k u ⟨hk, xu, ha⟩; refine cD (fun hlt => ?_) (fun hge => ?_)
  · obtain ⟨bx, o, cs, x, rfl, hx, -, -, hc, ⟨⟨s, A2, n2, c2, rfl⟩, hI⟩⟩ := (hs.ext xu).at_ (k := k) (by omega); refine idx k rfl (by omega) ?_; refine ldA [iv x.1, iv x.2, .string s, .slice A2 n2 c2] hc rfl ?_
    have hcl : CallZ Tryz.prog 56 #[.agg #[iv x.1, iv x.2, .string s, .slice A2 n2 c2]] u (fun v w' => v = .bool (decide (x.1 ≠ 1)) ∧ Ext u w') := by
      refine fn_rule (args := [.agg #[iv x.1, iv x.2, .string s, .slice A2 n2 c2]]) Tryz.func56 (by kernel_rfl) ?_; refine box (fun g w1 h1 => ?_); have B : Blk w1 g 113 [iv x.1, iv x.2, .string s, .slice A2 n2 c2] := h1.blk; refine fldA ?_; refine ld (iv x.1) (B.cell rfl) ?_; refine cN (fun h => ?_) (fun h => ?_)
      · exact ret1 (.bool true) rfl ⟨by rw [decide_eq_true h], h1.ext⟩
      · exact ret1 (.bool false) rfl ⟨by rw [decide_eq_false (by omega)], h1.ext⟩
    refine callE hcl (fun w2 hq x2 => ?_) (fun w2 hq x2 => ?_)
    · refine ret1 (iv (k : Int)) rfl ⟨k, rfl, ⟨fun _ h => ?_, fun _ => by omega⟩, xu.trans x2⟩; exact (of_decide_eq_true hq) (h x (List.mem_of_getElem? hx))
    · refine arI (n := (k : Int) + 1) (by omega) ?_; refine next (k + 1) ⟨by rw [Int.natCast_add]; rfl, trivial⟩ ⟨by omega, xu.trans x2, fun y hy => ?_⟩ (by omega); rw [List.take_add_one, hx] at hy; rcases List.mem_append.1 hy with hy | hy
      · exact ha y hy
      · have e : y = x := by simpa using hy
        subst e; have := of_decide_eq_false hq; omega
  · rw [List.take_of_length_le (by omega)] at ha; exact ret1 (iv (-1)) rfl ⟨-1, rfl, ⟨fun h => by omega, fun h => absurd ha h⟩, xu⟩
theorem c_contV {A : Option Addr} {n c : Nat} {l : List (Int × Int)} (hs : SlR tVK D w A n l) : CallZ Tryz.prog 55 #[.slice A n c, .func (.func 56) #[] #[]] w (fun v w' => v = .bool (decide (¬ AllI l)) ∧ Ext w w') := by
  refine fn_rule (args := [.slice A n c, .func (.func 56) #[] #[]]) Tryz.func55 (by kernel_rfl) ?_; refine call_of (c_idxV hs) ?_; rintro _ w2 ⟨i, rfl, hi, x2⟩; refine cD (fun h => ?_) (fun h => ?_)
  · exact ret1 (.bool true) rfl ⟨by rw [decide_eq_true (hi.1 h)], x2⟩
  · exact ret1 (.bool false) rfl ⟨by rw [decide_eq_false (fun q => h (hi.2 q))], x2⟩
theorem vk_cell {b o n k : Nat} {l : List (Int × Int)} {x : Int × Int} (h : SlR tVK D w (some (ad b o)) n l) (hx : l[k]? = some x) : w.cell? (ad b (o + k * 4 + 1)) = some (iv x.2) ∧ D b := by
  have hk : k < n := by have := (List.getElem?_eq_some_iff.1 hx).1; have := h.len; omega
  obtain ⟨b', o', cs, x', e, hx', -, hD, hc, ⟨⟨s, A2, n2, c2, rfl⟩, hI⟩⟩ := h.at_ (k := k) hk; injection e with e; injection e with e1 e2; subst e1; subst e2; rw [hx] at hx'; injection hx' with hx'; subst hx'; exact ⟨hc 1 _ rfl, hD⟩
structure RdS (w0 w : World) (p : Nat) (l : List Post) : Prop where
  of_ ::
  ex : ∃ A m d, Blk w p 22 [.slice A m d] ∧ OwnF w0 w A m d 26 6 (l.flatMap Post.c) ∧ m = l.length
  new : w0.heap.size ≤ p
theorem c_lLoad1 {w0 : World} {p : Nat} {l : List Post} {A : Option Addr} {n c : Nat} {b : List Nat} (hp : RdS w0 w p l) (hl : l.length ≤ 100000) (hs : SlR tU8 D w A n b) (hc : n ≤ c) (hbl : b.length ≤ 1000000000) :
    CallZ Tryz.prog 53 #[.slice A n c, ptr p] w (fun v w' => (rdT b = none ∧ v = .bool false ∧ Ext w w' ∧ RdS w0 w' p l) ∨ ∃ q, rdT b = some q ∧ v = .bool true ∧ RdS w0 w' p (l ++ [q])) := by
  obtain ⟨⟨A1, m, d, Bp, own, hm⟩, hnew⟩ := hp; have hb := hs.u8b
  have hfm : A1 = none ∨ ∃ g, A1 = some (ad g 0) ∧ g < w.heap.size := by
    rcases own.form with ⟨h, -⟩ | ⟨g, h, -, hl, -⟩
    · exact .inl h
    · exact .inr ⟨g, h, hl⟩
  refine fn_rule (args := [.slice A n c, ptr p]) Tryz.func53 (by kernel_rfl) ?_; refine call_of (c_vDecode hs hc hbl) ?_; rintro _ w1 ⟨⟨V, e, rfl, hdec⟩, x1⟩; have hno : rdT b = none → ∀ w', Ext w w' → (rdT b = none ∧ Value.bool false = .bool false ∧ Ext w w' ∧ RdS w0 w' p l) := fun h w' x => ⟨h, rfl, x, ⟨A1, m, d, Bp.ext x, own.then x, hm⟩, hnew⟩
  have hrd : ∀ p, rdT b = some p → prsV 16 b = some (⟨3, 0, p.ns.map (fun n => (1, n))⟩, []) := fun p h => by
    obtain ⟨h1, h2⟩ := rdT_some.1 h; exact ((prsV_iff hb).2 ⟨p.ns, h1, rfl, h2, by show 6 < _; omega⟩).1
  rcases hdec with ⟨x, hx, rfl, ⟨s, A4, n4, c4, rfl, hs4, hc4, hI⟩⟩ | ⟨hx, rfl, rfl⟩; rotate_left
  · have hn : rdT b = none := by
      cases he : rdT b with
      | none => rfl
      | some p => exact absurd (hrd p he) (hx _)
    refine alloc (fun b4 w2 h2 => ?_); refine stA (vs := zeroV) h2.blk rfl (Nat.le_of_ble_eq_true rfl) (by simp [Value.oneCell']) (fun w3 B3 k3 _ => ?_); have e2 := h2.at_; refine cN (fun _ => ?_) (fun h => absurd h (by omega)); exact ret1 (.bool false) rfl (.inl (hno hn w3 (x1.trans (h2.ext.then k3 fun i hi _ e => by omega))))
  have hno2 : (x.k = 3 → n4 = 6 → AllI x.l → False) → rdT b = none := fun h => by
    cases he : rdT b with
    | none => rfl
    | some q =>
      have h1 := hrd q he; rw [hx] at h1; simp only [Option.some.injEq, Prod.mk.injEq, and_true] at h1; refine (h (by rw [h1]) ?_ (fun y hy => ?_)).elim
      · rw [← hs4.len, h1]; rfl
      · rw [h1] at hy; obtain ⟨n, -, rfl⟩ := List.mem_map.1 hy
        rfl
  refine alloc (fun b4 w2 h2 => ?_); refine stA (vs := [iv x.k, iv x.n, .string s, .slice A4 n4 c4]) h2.blk rfl (Nat.le_of_ble_eq_true rfl) (by simp [Value.oneCell']) (fun w3 B3 k3 _ => ?_); have e2 := h2.at_; have B3 : Blk w3 b4 113 [iv x.k, iv x.n, .string s, .slice A4 n4 c4] := B3
  have x13 : Ext w1 w3 := h2.ext.then k3 fun i hi _ e => by omega
  have x03 := x1.trans x13; refine cN (fun h => absurd h (by omega)) (fun _ => ?_); refine fldA ?_; refine ld (iv x.k) (B3.cell rfl) ?_; refine cN (fun hk => ?_) (fun hk => ?_)
  · exact ret1 (.bool false) rfl (.inl (hno (hno2 fun h _ _ => hk h) w3 x03))
  refine fldA ?_; refine ld (.slice A4 n4 c4) (B3.cell rfl) ?_; refine len ?_; refine cN (fun hn => ?_) (fun hn => ?_)
  · exact ret1 (.bool false) rfl (.inl (hno (hno2 fun _ h _ => by omega) w3 x03))
  refine fldA ?_; refine ld (.slice A4 n4 c4) (B3.cell rfl) ?_; refine callE (c_contV (hs4.ext x13)) (fun w4 hq x4 => ?_) (fun w4 hq x4 => ?_)
  · have := of_decide_eq_true hq; exact ret1 (.bool false) rfl (.inl (hno (hno2 fun _ _ h => this h) w4 (x03.trans x4)))
  have ha : AllI x.l := by
    have := of_decide_eq_false hq; exact Classical.byContradiction this
  obtain ⟨ns, h1, h2', h3, -⟩ := (prsV_iff hb).1 ⟨hx, hk, ha⟩
  have hn4 : n4 = 6 := by omega
  have hnl : ns.length = 6 := by have := hs4.len; rw [h2', List.length_map] at this; omega
  obtain ⟨n0, n1, n2, n3, n4', n5, rfl⟩ : ∃ a b c d e f, ns = [a, b, c, d, e, f] := by
    match ns, hnl with
    | [a, b, c, d, e, f], _ => exact ⟨a, b, c, d, e, f, rfl⟩
  subst hn4; have hs5 := hs4.ext (x13.trans x4); rw [h2'] at hs5; obtain ⟨b5, o5, cs5, y5, rfl, -⟩ := hs5.at_ (k := 0) (by omega); have hb5 := (vk_cell hs5 (k := 0) rfl).2; have x04 := x03.trans x4; have Bp := Bp.ext x04; have own := own.then x04; have B4 := B3.ext x4; have s1 := x1.size; have s2 := h2.ext.size; have hfm : A1 = none ∨ ∃ g, A1 = some (ad g 0) ∧ g < w.heap.size := hfm
  have hA1 : ∀ g, g = b4 ∨ g = p ∨ w.heap.size ≤ g → A1 ≠ some (ad g 0) := fun g hg e => by
    by_cases hgp : g = p
    · subst hgp; exact own_tyL own Bp (by decide) e
    · rcases hfm with h | ⟨g', h, hl⟩
      · rw [h] at e; cases e
      · rw [h] at e; injection e with e; injection e with e; omega
  refine drawP (.take 0 (.take 1 (.take 2 (.take 3 (.take 4 (.take 5 (.take 6 (.take 7 (.take 8 (.take 9 (.take 10 (.take 11 (.take 12 (.take 13 (.take 14 (.take 15 (.take 16 (.take 17 (.take 18 (.take 19 (.take 20 (.take 21 (.take 22 (.take 23 (.take 24 (.take 25 (.take 26 (.take 27 (.take 28 (.take 29 (.take 30 (.take 31 (.eff 32 (.eff 33 (.bar (.eff 34 .done)))))))))))))))))))))))))))))))))))) [34] (fun y => Kept (fun g => A1 ≠ some (ad g 0)) w4 y) mx (by kernel_rfl) (.refl _ _) ?_; refine ldK (.slice A1 m d) (Bp.cell rfl) (hA1 p (by omega)) (.refl _ _) ?_; refine fldA ?_; refine ldK (.slice (some (ad b5 o5)) 6 c4) (B4.cell rfl) (hA1 b4 (by omega)) (.refl _ _) ?_; refine idx 0 rfl (by omega) ?_; refine fldA ?_; refine ldK (iv n0) (vk_cell hs5 (k := 0) rfl).1 (hA1 b5 (.inr (.inr hb5))) (.refl _ _) ?_; refine fldA ?_; refine ldK (.slice (some (ad b5 o5)) 6 c4) (B4.cell rfl) (hA1 b4 (by omega)) (.refl _ _) ?_; refine idx 1 rfl (by omega) ?_; refine fldA ?_; refine ldK (iv n1) (vk_cell hs5 (k := 1) rfl).1 (hA1 b5 (.inr (.inr hb5))) (.refl _ _) ?_; refine fldA ?_; refine ldK (.slice (some (ad b5 o5)) 6 c4) (B4.cell rfl) (hA1 b4 (by omega)) (.refl _ _) ?_; refine idx 2 rfl (by omega) ?_; refine fldA ?_; refine ldK (iv n2) (vk_cell hs5 (k := 2) rfl).1 (hA1 b5 (.inr (.inr hb5))) (.refl _ _) ?_; refine fldA ?_; refine ldK (.slice (some (ad b5 o5)) 6 c4) (B4.cell rfl) (hA1 b4 (by omega)) (.refl _ _) ?_; refine idx 3 rfl (by omega) ?_; refine fldA ?_; refine ldK (iv n3) (vk_cell hs5 (k := 3) rfl).1 (hA1 b5 (.inr (.inr hb5))) (.refl _ _) ?_; refine fldA ?_; refine ldK (.slice (some (ad b5 o5)) 6 c4) (B4.cell rfl) (hA1 b4 (by omega)) (.refl _ _) ?_; refine idx 4 rfl (by omega) ?_; refine fldA ?_; refine ldK (iv n4') (vk_cell hs5 (k := 4) rfl).1 (hA1 b5 (.inr (.inr hb5))) (.refl _ _) ?_; refine fldA ?_; refine ldK (.slice (some (ad b5 o5)) 6 c4) (B4.cell rfl) (hA1 b4 (by omega)) (.refl _ _) ?_; refine idx 5 rfl (by omega) ?_; refine fldA ?_; refine ldK (iv n5) (vk_cell hs5 (k := 5) rfl).1 (hA1 b5 (.inr (.inr hb5))) (.refl _ _) ?_; have hq : rdT b = some ⟨n0, n1, n2, n3, n4', n5⟩ := rdT_some.2 ⟨h1, h3⟩; refine bld (Post.c ⟨n0, n1, n2, n3, n4', n5⟩) (by kernel_rfl) ?_; refine lit [.agg (Post.c ⟨n0, n1, n2, n3, n4', n5⟩).toArray] (fun g5 w5 h5 => ?_); have B5 : Blk w5 g5 26 (Post.c ⟨n0, n1, n2, n3, n4', n5⟩) := h5.blk; refine strS h5.ext.any ?_; refine appF (own.then h5.ext) (srcP6 B5) (by omega) (fun A' d' w6 own6 k6 hA' => ?_); have k46 : Kept (fun g => A1 ≠ some (ad g 0)) w4 w6 := h5.ext.any.trans k6; refine strS k46 ?_; refine barS (fun _ => True) trivial ?_; refine st1 (Bp.kept k46 (hA1 p (by omega))) rfl (fun w7 B7 k7 => ?_); refine strS trivial ?_; refine ret1 (.bool true) rfl (.inr ⟨_, hq, rfl, ⟨⟨A', m + 1, d', B7, ?_, by simp [hm]⟩, hnew⟩⟩); rw [List.flatMap_append]; exact OwnF.thenK (by simpa using own6) k7 (fun g e h => own_tyL own6 (Bp.kept k46 (hA1 p (by omega))) (by decide) (by rw [← h]; exact e)) (own6.ext.then k7 fun i hi _ e => by omega)
end
end Go.Proofs.YtehcphboliofaaaGreatDoor
