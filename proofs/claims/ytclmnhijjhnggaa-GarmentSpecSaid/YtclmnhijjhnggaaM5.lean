/- Parts of the proof: Gu Gv Gw Gx Gy Gz H1. -/
import Derived.Test.YtclmnhijjhnggaaM4
import Derived.Test.YtclmnhijjhnggaaM3

/- Layer 40: contracts of Reverse, DeleteFunc, IndexFunc over claimants. -/
namespace Go.Proofs.Ytclmnhijjhnggaa
open Go Go.RowKit

def tCl : Ty (Int × Int) := tFl 2 encC fun _ => rfl
abbrev cls (s : List (Int × Int)) : List Value := s.flatMap encC
theorem cls_len (s : List (Int × Int)) : (cls s).length = s.length * 2 := encC_len s
theorem cls_app (a b : List (Int × Int)) : cls (a ++ b) = cls a ++ cls b := List.flatMap_append ..
theorem flat_cls {D : Nat → Prop} {w : World} : ∀ {s : List (Int × Int)}, FlatR tCl D w s (cls s)
  | [] => rfl
  | x :: s => ⟨encC x, cls s, rfl, rfl, flat_cls⟩
theorem cls_take (l : List (Int × Int)) (i : Nat) (rest : List Value) (h : i ≤ l.length) : (cls l ++ rest).take (i * 2) = cls (l.take i) := by
  have e : cls l ++ rest = cls (l.take i) ++ (cls (l.drop i) ++ rest) := by rw [← List.append_assoc, ← cls_app, List.take_append_drop]
  rw [e, List.take_append_of_le_length (by rw [cls_len, List.length_take]; omega), List.take_of_length_le (by rw [cls_len, List.length_take]; omega)]
theorem cls_drop (l : List (Int × Int)) (i : Nat) (rest : List Value) (h : i ≤ l.length) : (cls l ++ rest).drop (i * 2) = cls (l.drop i) ++ rest := by
  have e : cls l ++ rest = cls (l.take i) ++ (cls (l.drop i) ++ rest) := by rw [← List.append_assoc, ← cls_app, List.take_append_drop]
  have hl : (cls (l.take i)).length = i * 2 := by rw [cls_len, List.length_take]; omega
  rw [e, ← hl, List.drop_left]
theorem cls_set {l : List (Int × Int)} {i : Nat} {m : Int × Int} {rest : List Value} (h : i < l.length) : (cls l ++ rest).take (i * 2) ++ encC m ++ (cls l ++ rest).drop (i * 2 + 2) = cls (l.set i m) ++ rest := by
  rw [cls_take _ _ _ (by omega), show i * 2 + 2 = (i + 1) * 2 by omega, cls_drop _ _ _ (by omega), List.set_eq_take_append_cons_drop, if_pos h, cls_app, show cls (m :: l.drop (i + 1)) = encC m ++ cls (l.drop (i + 1)) from rfl]
  simp only [List.append_assoc]
theorem cls_cells {w : World} {g : Nat} {t : TypeId} {l : List (Int × Int)} {rest : List Value} {j : Nat} {m : Int × Int} (hb : Blk w g t (cls l ++ rest)) (hm : l[j]? = some m) : CellsAt w g (0 + j * 2) (encC m) := fun k v hv => by
  have hk : k < 2 := (List.getElem?_eq_some_iff.1 hv).1
  have hj := (List.getElem?_eq_some_iff.1 hm).1
  rw [Nat.zero_add]
  refine hb.cell ?_
  rw [List.getElem?_append_left (by rw [cls_len]; omega), encC_at k hm hk]
  exact hv
theorem slr_cls {w : World} {g n : Nat} {l : List (Int × Int)} {cs : List Value} {t : TypeId} {D : Nat → Prop} (hb : Blk w g t cs) (h : cs.take (n * 2) = cls l) (hn : n = l.length) (hle : n ≤ 140737488355328) (hD : D g) : SlR tCl D w (some (ad g 0)) n l :=
  SlR.of_cells hn hle hD (fun j v hv => by
    rw [Nat.zero_add]
    rw [← h, List.getElem?_take] at hv
    split at hv
    · exact hb.cell hv
    · cases hv) flat_cls
/-- Who stays: whoever loses so much. -/
def stayC (L : Int) (x : Int × Int) : Bool := decide (L ≤ x.1 - x.1 / 2)
section
variable {D : Nat → Prop} {w : World}
theorem c_gThr5 {m : Int × Int} {bl : Nat} {t : TypeId} {L : Int} (hm : 0 ≤ m.1 ∧ m.1 ≤ 1073741824) (hb : Blk w bl t [iv L]) : CallZ Try.prog 34 #[.agg (encC m).toArray, ptr bl] w (fun v w' => v = .bool (!stayC L m) ∧ Ext w w') := by
  refine fn_rule (args := [.agg #[iv m.1, iv m.2], ptr bl]) Try.func34 (by kernel_rfl) ?_
  refine box (fun g w1 h1 => ?_)
  refine fldA ?_
  refine ld (iv m.1) (h1.blk.cell rfl) ?_
  refine fldA ?_
  refine ld (iv m.1) (h1.blk.cell rfl) ?_
  refine quoI (by omega) (by omega) (by omega) ?_
  refine arI (by omega) ?_
  refine ld (iv L) ((hb.ext h1.ext).cell rfl) ?_
  refine cD (fun q => ?_) (fun q => ?_)
  · exact ret1 (.bool true) rfl ⟨by unfold stayC; rw [decide_eq_false (by omega)]; rfl, h1.ext⟩
  · exact ret1 (.bool false) rfl ⟨by unfold stayC; rw [decide_eq_true (by omega)]; rfl, h1.ext⟩
theorem c_indC {ms : List (Int × Int)} {A : Option Addr} {n c bl : Nat} {t : TypeId} {L : Int} (h : SlR tCl D w A n ms) (hms : ∀ m ∈ ms, 0 ≤ m.1 ∧ m.1 ≤ 1073741824) (hb : Blk w bl t [iv L]) : CallZ Try.prog 51 #[.slice A n c, .func (.func 34) #[] #[ptr bl]] w
    (fun v w' => ((v = iv (-1) ∧ ms.filter (stayC L) = ms) ∨ ∃ k : Nat, v = iv (k : Int) ∧ k < n ∧ (ms.take (k + 1)).filter (stayC L) = ms.take k) ∧ Ext w w') := by
  refine fn_rule (args := [.slice A n c, .func (.func 34) #[] #[ptr bl]]) Try.func51 (by kernel_rfl) ?_
  refine len ?_
  refine loop_rule (fun k : Nat => [(8, iv (k : Int))]) (fun k w' => k ≤ n ∧ Ext w w' ∧ (ms.take k).filter (stayC L) = ms.take k) (fun k _ => n - k) 0 ⟨rfl, trivial⟩ ⟨by omega, .refl _ _, rfl⟩ rfl ?_
  rintro G k w' ⟨hk, xw, he⟩
  refine cD (fun hlt => ?_) (fun hge => ?_)
  · obtain ⟨b, o, cs, m, rfl, hx, -, -, hc, rfl⟩ := (h.ext xw).at_ (show k < n by omega)
    refine idx k rfl (by omega) ?_
    refine ldA (encC m) hc rfl ?_
    have htk : ms.take (k + 1) = ms.take k ++ [m] := by rw [List.take_add_one, hx]; rfl
    refine callE (c_gThr5 (m := m) (hms m (List.mem_of_getElem? hx)) (hb.ext xw)) (fun w2 g x2 => ?_) (fun w2 g x2 => ?_)
    · refine ret1 (iv (k : Int)) rfl ⟨.inr ⟨k, rfl, by omega, ?_⟩, xw.trans x2⟩
      simp only [Bool.not_eq_true'] at g
      rw [htk, List.filter_append, he, List.filter_cons_of_neg (by simp [g])]; simp
    · simp only [Bool.not_eq_false'] at g
      refine arI (by have := h.le; omega) ?_
      refine next (k + 1) ⟨by rw [Int.natCast_add]; rfl, trivial⟩ ⟨by omega, xw.trans x2, ?_⟩ (by omega)
      rw [htk, List.filter_append, he, List.filter_cons_of_pos g]; rfl
  · refine ret1 (iv (-1)) rfl ⟨.inl ⟨rfl, ?_⟩, xw⟩
    rw [List.take_of_length_le (by have := h.len; omega)] at he; exact he
theorem c_delC {ms : List (Int × Int)} {rest : List Value} {g n c bl : Nat} {t : TypeId} {L : Int} (hb0 : Blk w g 54 (cls ms ++ rest)) (hbl : (cls ms ++ rest).length = c * 2) (hn : n = ms.length) (hle : n ≤ 1000000) (hms : ∀ m ∈ ms, 0 ≤ m.1 ∧ m.1 ≤ 1073741824) (hB : Blk w bl t [iv L]) (hne : bl ≠ g) :
    CallZ Try.prog 33 #[.slice (some (ad g 0)) n c, .func (.func 34) #[] #[ptr bl]] w
    (fun v w' => Kept (fun b => b ≠ g) w w' ∧ ∃ A' n' c', v = .slice A' n' c' ∧ SlR tCl (fun b => b = g) w' A' n' (ms.filter (stayC L)) ∧ n' ≤ c') := by
  have hnc : n ≤ c := by rw [List.length_append, cls_len] at hbl; omega
  have hs : SlR tCl (fun b => b = g) w (some (ad g 0)) n ms := slr_cls hb0 (by rw [hn, cls_take _ _ _ (Nat.le_refl _), List.take_length]) hn (by omega) rfl
  refine fn_rule (args := [.slice (some (ad g 0)) n c, .func (.func 34) #[] #[ptr bl]]) Try.func33 (by kernel_rfl) ?_
  refine call_of (c_indC hs hms hB) ?_
  rintro _ w1 ⟨⟨rfl, hno⟩ | ⟨k, rfl, hkn, hk⟩, x1⟩
  · refine cE (fun _ => ?_) (fun e => absurd rfl e)
    refine ret1 (.slice (some (ad g 0)) n c) rfl ⟨x1.any, some (ad g 0), n, c, rfl, ?_, hnc⟩
    rw [hno]; exact hs.ext x1
  refine cE (fun e => by omega) (fun _ => ?_)
  refine arI (by omega) ?_
  have hgl := hb0.lt
  refine loop3 (fun (j i : Nat) (_ : Unit) => [(6, iv (j : Int)), (5, iv (i : Int))]) (fun j i _ w' => i < j ∧ j ≤ n ∧ Kept (fun b => b ≠ g) w1 w' ∧ ∃ cur : List (Int × Int), cur.length = n ∧ Blk w' g 54 (cls cur ++ rest) ∧ cur.take i = (ms.take j).filter (stayC L) ∧ cur.drop j = ms.drop j) (fun j _ _ _ => n - j) (k + 1) k () ⟨by rw [Int.natCast_add]; rfl, rfl, trivial⟩
    ⟨by omega, by omega, .refl _ _, ms, by omega, hb0.ext x1, hk.symm, rfl⟩ rfl ?_
  rintro G j i _ w2 ⟨hij, hjn, k2, cur, hcl, hb2, hc1, hc2⟩
  have hcsl : (cls cur ++ rest).length = c * 2 := by
    rw [List.length_append, cls_len, hcl, ← hbl, List.length_append, cls_len, hn]
  refine len ?_
  refine cD (fun hlt => ?_) (fun hge => ?_)
  · have hlt : j < n := by omega
    obtain ⟨m, hm⟩ : ∃ m, ms[j]? = some m := ⟨ms[j]'(by omega), List.getElem?_eq_getElem (by omega)⟩
    have hcm : cur[j]? = some m := by
      have h1 : (cur.drop j)[0]? = cur[j]? := by rw [List.getElem?_drop]; rfl
      have h2 : (ms.drop j)[0]? = ms[j]? := by rw [List.getElem?_drop]; rfl
      rw [← h1, hc2, h2, hm]
    have htk : ms.take (j + 1) = ms.take j ++ [m] := by rw [List.take_add_one, hm]; rfl
    refine idx j rfl hlt ?_
    refine ldA (encC m) (cls_cells hb2 hcm) rfl ?_
    refine alloc (fun t v1' h1'' => ?_)
    refine stA (vs := encC m) h1''.blk rfl (Nat.le_of_ble_eq_true rfl) (by simp [Value.oneCell']) (fun w3 tb s2 zs => ?_)
    have t1 := h1''.at_
    have hgl2 := hb2.lt
    have x23 : Ext w2 w3 := h1''.ext.then s2 fun b hb _ e => by omega
    have htg : t ≠ g := by omega
    have hB3 := ((hB.ext x1).kept k2 hne).ext x23
    refine ldA (encC m) (.blk tb) rfl ?_
    refine callE (c_gThr5 (m := m) (hms m (List.mem_of_getElem? hm)) hB3) (fun w4 q x4 => ?_) (fun w4 q x4 => ?_)
    · simp only [Bool.not_eq_true'] at q
      refine arI (by omega) ?_
      refine next3 (j + 1) i () ⟨by rw [Int.natCast_add]; rfl, rfl, trivial⟩ ⟨by omega, by omega, (k2.ext x23).ext x4, cur, hcl, (hb2.ext x23).ext x4, ?_, ?_⟩ (by omega)
      · rw [htk, List.filter_append, ← hc1, List.filter_cons_of_neg (by simp [q])]; simp
      · rw [← List.drop_drop, ← List.drop_drop, hc2]
    · simp only [Bool.not_eq_false'] at q
      refine ldA (encC m) (.blk (tb.ext x4)) rfl ?_
      refine idx i rfl (by omega) ?_
      refine stA (vs := encC m) ((hb2.ext x23).ext x4) rfl (by rw [hcsl]; show _ + 2 ≤ _; omega) (by simp [Value.oneCell']) (fun w5 b5 s5 zs5 => ?_)
      refine arI (by omega) ?_
      refine arI (by omega) ?_
      have b5 : Blk w5 g 54 (cls (cur.set i m) ++ rest) := by
        rw [← cls_set (by omega)]
        have : 0 + i * 2 = i * 2 := by omega
        rw [this] at b5
        exact b5
      refine next3 (j + 1) (i + 1) () ⟨by rw [Int.natCast_add]; rfl, by rw [Int.natCast_add]; rfl, trivial⟩ ⟨by omega, by omega, ((k2.ext x23).ext x4).trans s5, cur.set i m, ?_, b5, ?_, ?_⟩ (by omega)
      · rw [List.length_set]; exact hcl
      · rw [htk, List.filter_append, ← hc1, List.filter_cons_of_pos q, List.take_add_one, List.getElem?_set_self (by omega), List.take_set_of_le (Nat.le_refl _)]; rfl
      · rw [List.drop_set_of_lt (by omega), ← List.drop_drop, hc2, List.drop_drop]
  · have hjn' : j = n := by omega
    have hfin : cur.take i = ms.filter (stayC L) := by rw [hc1, hjn', List.take_of_length_le (by omega)]
    refine slcA i n rfl rfl (by omega) (by omega) (by omega) ?_
    refine clr (cs := cls cur ++ rest) hb2 (by omega) (by rw [hcsl]; omega) (fun w3 cs' hb3 ht hl k3 => ?_)
    have hfl : (ms.filter (stayC L)).length = i := by rw [← hfin, List.length_take]; omega
    have hss : SlR tCl (fun b => b = g) w3 (some (ad g 0)) i (ms.filter (stayC L)) := slr_cls hb3 (by
      have : cs'.take (i * 2) = (cls cur ++ rest).take (i * 2) := by rw [show i * 2 = 0 + i * 2 by omega]; exact ht
      rw [this, cls_take _ _ _ (by omega), hfin]) hfl.symm (by omega) rfl
    refine slcA 0 i rfl rfl (by omega) (by omega) (by omega) ?_
    exact ret1 (.slice (some (ad g (0 + 0 * 2))) (i - 0) (c - 0)) rfl ⟨((x1.any : Kept (fun b => b ≠ g) w w1).trans k2).trans k3, _, _, _, rfl, hss, by omega⟩
theorem c_revC {ms : List (Int × Int)} {rest : List Value} {g n c : Nat} (hb0 : Blk w g 54 (cls ms ++ rest)) (hn : n = ms.length) (hle : n ≤ 1000000) :
    CallZ Try.prog 32 #[.slice (some (ad g 0)) n c] w (fun v w' => v = .tuple #[] ∧ Blk w' g 54 (cls ms.reverse ++ rest) ∧ Kept (fun b => b ≠ g) w w') := by
  refine fn_rule (args := [.slice (some (ad g 0)) n c]) Try.func32 (by kernel_rfl) ?_
  refine len ?_
  refine arI (by omega) ?_
  refine loop_rule (fun i : Nat => [(2, iv (i : Int)), (3, iv ((n : Int) - 1 - i))]) (fun i u => i ≤ n ∧ Kept (fun b => b ≠ g) w u ∧ ∃ cur : List (Int × Int), cur.length = n ∧ Blk u g 54 (cls cur ++ rest) ∧ ∀ k, k < n → cur[k]? = if k < i ∨ n ≤ k + i then ms[n - 1 - k]? else ms[k]?) (fun i _ => n - i) 0 ⟨rfl, congrArg (Value.int .i64) (by omega), trivial⟩ ⟨by omega, .refl _ _, ms, hn.symm, hb0, fun k hk => by rw [if_neg (by omega)]⟩ rfl ?_
  rintro G i u ⟨hi, ku, cur, hcl, hbu, hcur⟩
  refine cD (fun hlt => ?_) (fun hge => ?_)
  · obtain ⟨j, hj⟩ : ∃ j : Nat, (n : Int) - 1 - i = j := ⟨((n : Int) - 1 - i).toNat, by omega⟩
    rw [hj] at hlt ⊢
    obtain ⟨a, ha⟩ : ∃ a, cur[i]? = some a := ⟨cur[i]'(by omega), List.getElem?_eq_getElem (by omega)⟩
    obtain ⟨b, hb⟩ : ∃ b, cur[j]? = some b := ⟨cur[j]'(by omega), List.getElem?_eq_getElem (by omega)⟩
    have hcsl : (cls cur ++ rest).length = n * 2 + rest.length := by rw [List.length_append, cls_len, hcl]
    refine drawP (.take 0 (.take 1 (.take 2 (.take 3 (.take 4 (.take 5 (.take 6 (.take 7 (.take 8 (.take 9 (.take 10 (.take 11 (.take 12 (.bar (.eff 13 (.take 14 (.eff 15 .done))))))))))))))))) [13, 14, 15] (fun z => z = u) mx (by kernel_rfl) rfl ?_
    refine idx j rfl (by omega) ?_
    refine ldA (encC b) (cls_cells hbu hb) rfl ?_
    refine idx i rfl (by omega) ?_
    refine ldA (encC a) (cls_cells hbu ha) rfl ?_
    refine idx i rfl (by omega) ?_
    refine barS (fun _ => True) trivial ?_
    refine stA (vs := encC b) hbu rfl (by rw [hcsl]; show _ + 2 ≤ _; omega) (by simp [Value.oneCell']) (fun u1 b1 k1 s1 => ?_)
    have b1 : Blk u1 g 54 (cls (cur.set i b) ++ rest) := by
      rw [← cls_set (by omega)]
      have : 0 + i * 2 = i * 2 := by omega
      rw [this] at b1
      exact b1
    refine strS trivial ?_
    refine idx j rfl (by omega) ?_
    refine stA (vs := encC a) b1 rfl (by rw [List.length_append, cls_len, List.length_set, hcl]; show _ + 2 ≤ _; omega) (by simp [Value.oneCell']) (fun u2 b2 k2 s2 => ?_)
    have b2 : Blk u2 g 54 (cls ((cur.set i b).set j a) ++ rest) := by
      rw [← cls_set (by rw [List.length_set]; omega)]
      have : 0 + j * 2 = j * 2 := by omega
      rw [this] at b2
      exact b2
    refine strS trivial ?_
    refine arI (by omega) ?_
    refine arI (by omega) ?_
    refine next (i + 1) ⟨by rw [Int.natCast_add]; rfl, congrArg (Value.int .i64) (by omega), trivial⟩ ⟨by omega, (ku.trans k1).trans k2, (cur.set i b).set j a, by rw [List.length_set, List.length_set]; exact hcl, b2, fun k hk => ?_⟩ (by omega)
    have h1 := hcur i (by omega)
    have h2 := hcur j (by omega)
    rw [if_neg (by omega), ha] at h1
    rw [if_neg (by omega), hb] at h2
    rw [List.getElem?_set, List.getElem?_set, List.length_set]
    by_cases e1 : j = k
    · subst e1
      rw [if_pos rfl, if_pos (by omega), if_pos (by omega), show n - 1 - j = i by omega, ← h1]
    · rw [if_neg e1]
      by_cases e2 : i = k
      · subst e2
        rw [if_pos rfl, if_pos (by omega), if_pos (by omega), show n - 1 - i = j by omega, ← h2]
      · rw [if_neg e2, hcur k hk]
        by_cases e3 : k < i ∨ n ≤ k + i
        · rw [if_pos e3, if_pos (by omega)]
        · rw [if_neg e3, if_neg (by omega)]
  · have hrev : cur = ms.reverse := by
      apply List.ext_getElem?
      intro k
      by_cases hk : k < n
      · rw [hcur k hk, List.getElem?_reverse (by omega), ← hn]
        by_cases e : k < i ∨ n ≤ k + i
        · rw [if_pos e]
        · rw [if_neg e, show n - 1 - k = k by omega]
      · rw [List.getElem?_eq_none (by omega), List.getElem?_eq_none (by rw [List.length_reverse]; omega)]
    rw [hrev] at hbu
    exact ret ⟨rfl, hbu, ku⟩
end
end Go.Proofs.Ytclmnhijjhnggaa

/- Layer 40: read, the counts, the search. -/
namespace Go.Proofs.Ytclmnhijjhnggaa
open Go Go.RowKit

/-! ### the least one of a range -/
structure First (p : Int → Bool) (lo hi res : Int) : Prop where
  le : lo ≤ res
  ge : res ≤ hi
  no : ∀ v, lo ≤ v → v < res → p v = false
  yes : res < hi → p res = true
structure Half (p : Int → Bool) (a b lo hi : Int) : Prop where
  a_lo : a ≤ lo
  lo_hi : lo ≤ hi
  hi_b : hi ≤ b
  no : ∀ v, a ≤ v → v < lo → p v = false
  yes : hi < b → p hi = true
theorem Half.start {p : Int → Bool} {a b : Int} (h : a ≤ b) : Half p a b a b := ⟨Int.le_refl _, h, Int.le_refl _, fun v h1 h2 => by omega, fun h => by omega⟩
theorem Half.left {p : Int → Bool} {a b lo hi m : Int} (h : Half p a b lo hi) (h1 : lo ≤ m) (h2 : m < hi) (hp : p m = true) : Half p a b lo m := ⟨h.a_lo, h1, by have := h.hi_b; omega, h.no, fun _ => hp⟩
theorem Half.right {p : Int → Bool} {a b lo hi m : Int} (hm : ∀ v v', a ≤ v → v ≤ v' → v' ≤ b → p v = true → p v' = true) (h : Half p a b lo hi) (h1 : lo ≤ m) (h2 : m < hi) (hp : p m = false) : Half p a b (m + 1) hi :=
  ⟨by have := h.a_lo; omega, by omega, h.hi_b, fun v hv hv2 => (by
    cases hpv : p v with
    | false => rfl
    | true => rw [hm v m hv (by omega) (by have := h.hi_b; omega) hpv] at hp; cases hp), h.yes⟩
theorem Half.done {p : Int → Bool} {a b lo hi : Int} (h : Half p a b lo hi) (e : hi ≤ lo) : First p a b lo := by
  have := h.lo_hi
  obtain rfl : lo = hi := by omega
  exact ⟨h.a_lo, h.hi_b, h.no, h.yes⟩
/-! ### what read says -/
def okC (c : Int) : Bool := decide (0 ≤ c ∧ c ≤ 1073741824)
def tErr (E : Int) (l : List Int) : Int := if 664 < l.length then 2 else if l.all okC && decide (0 ≤ E ∧ E ≤ l.sum) then 0 else 400
theorem tErr_no {E : Int} {l : List Int} (h : tErr E l = 0) : l.length ≤ 664 ∧ (∀ c ∈ l, 0 ≤ c ∧ c ≤ 1073741824) ∧ 0 ≤ E ∧ E ≤ l.sum := by
  unfold tErr at h
  by_cases h1 : 664 < l.length
  · rw [if_pos h1] at h; cases h
  · rw [if_neg h1] at h
    by_cases h2 : (l.all okC && decide (0 ≤ E ∧ E ≤ l.sum)) = true
    · rw [Bool.and_eq_true, decide_eq_true_eq, List.all_eq_true] at h2
      exact ⟨by omega, fun c hc => of_decide_eq_true (h2.1 c hc), h2.2⟩
    · rw [if_neg h2] at h; cases h
def isum (l : List Int) : Int := l.sum
theorem isum_snoc {l : List Int} {c : Int} : isum (l ++ [c]) = isum l + c := by unfold isum; rw [List.sum_append]; simp
theorem isum_b : ∀ {l : List Int}, (∀ c ∈ l, 0 ≤ c ∧ c ≤ 1073741824) → 0 ≤ isum l ∧ isum l ≤ l.length * 1073741824
  | [], _ => by unfold isum; simp
  | c :: l, h => by
    have h1 := isum_b (l := l) fun x hx => h x (List.mem_cons_of_mem _ hx)
    have h2 := h c List.mem_cons_self
    have : isum (c :: l) = c + isum l := by unfold isum; rw [List.sum_cons]
    rw [this, List.length_cons]
    omega
theorem clm_snoc {l : List Int} {k : Nat} {c : Int} (h : l[k]? = some c) : clm (l.take (k + 1)) = clm (l.take k) ++ [(c, (k : Int))] := by
  have hk := (List.getElem?_eq_some_iff.1 h).1
  unfold clm
  rw [List.length_take, List.length_take, Nat.min_eq_left (by omega), Nat.min_eq_left (by omega), List.range_succ, List.map_append]
  congr 1
  · refine List.map_congr_left fun i hi => ?_
    have := List.mem_range.1 hi
    unfold clA
    rw [List.getD_eq_getElem?_getD, List.getD_eq_getElem?_getD, List.getElem?_take, List.getElem?_take, if_pos (by omega), if_pos (by omega)]
  · unfold clA
    rw [List.map_cons, List.map_nil, List.getD_eq_getElem?_getD, List.getElem?_take, if_pos (by omega), h]; rfl
theorem clm_len {l : List Int} : (clm l).length = l.length := by unfold clm; rw [List.length_map, List.length_range]
theorem ceS_snoc {s : List (Int × Int)} {x : Int × Int} {L : Int} : ceS (s ++ [x]) L = ceS s L + min (x.1 / 2) L := by unfold ceS; rw [List.map_append, List.sum_append]; simp
theorem clS_snoc {s : List (Int × Int)} {x : Int × Int} {L : Int} : clS (s ++ [x]) L = clS s L + max 0 (x.1 - x.1 / 2 - L) := by unfold clS; rw [List.map_append, List.sum_append]; simp
theorem halfS_snoc {s : List (Int × Int)} {x : Int × Int} : halfS (s ++ [x]) = halfS s + x.1 / 2 := by unfold halfS; rw [List.map_append, List.sum_append]; simp
def topS (s : List (Int × Int)) : Int := s.foldl (fun a x => max a x.1) 0
theorem topS_snoc {s : List (Int × Int)} {x : Int × Int} : topS (s ++ [x]) = max (topS s) x.1 := by unfold topS; rw [List.foldl_append]; rfl
abbrev Cl0 (s : List (Int × Int)) : Prop := ∀ m ∈ s, 0 ≤ m.1 ∧ m.1 ≤ 1073741824
theorem sum_b {f : Int × Int → Int} : ∀ {s : List (Int × Int)}, (∀ m ∈ s, 0 ≤ f m ∧ f m ≤ 1073741824) → 0 ≤ (s.map f).sum ∧ (s.map f).sum ≤ s.length * 1073741824
  | [], _ => by simp
  | c :: l, h => by
    have h1 := sum_b (s := l) fun x hx => h x (List.mem_cons_of_mem _ hx)
    have h2 := h c List.mem_cons_self
    rw [List.map_cons, List.sum_cons, List.length_cons]
    omega
theorem ceS_b {s : List (Int × Int)} {L : Int} (h : Cl0 s) (hL : 0 ≤ L) : 0 ≤ ceS s L ∧ ceS s L ≤ s.length * 1073741824 := sum_b fun m hm => by have := h m hm; omega
theorem clS_b {s : List (Int × Int)} {L : Int} (h : Cl0 s) (hL : 0 ≤ L) : 0 ≤ clS s L ∧ clS s L ≤ s.length * 1073741824 := sum_b fun m hm => by have := h m hm; omega
theorem halfS_b {s : List (Int × Int)} (h : Cl0 s) : 0 ≤ halfS s ∧ halfS s ≤ s.length * 1073741824 := sum_b fun m hm => by have := h m hm; omega
theorem Cl0.take {s : List (Int × Int)} (h : Cl0 s) (k : Nat) : Cl0 (s.take k) := fun m hm => h m (List.mem_of_mem_take hm)
section
variable {D : Nat → Prop} {w : World}
theorem c_gread {E : Int} {l : List Int} {A : Option Addr} {n c : Nat} (hl : SlR tInt D w A n l) (hE : I64 E) : CallZ Try.prog 24 #[iv E, .slice A n c] w (fun v w' =>
    (tErr E l ≠ 0 ∧ v = .tuple #[.slice none 0 0, iv (tErr E l)] ∧ Ext w w') ∨ (tErr E l = 0 ∧ ∃ A' n' c', v = .tuple #[.slice A' n' c', iv 0] ∧ OwnF w w' A' n' c' 54 2 (cls (clm l)) ∧ n' = l.length)) := by
  have l1 := hl.len
  unfold I64 at hE
  refine fn_rule (args := [iv E, .slice A n c]) Try.func24 (by kernel_rfl) ?_
  refine len ?_
  refine cD (fun g0 => ?_) (fun g0 => ?_)
  · have e : tErr E l = 2 := by unfold tErr; rw [if_pos (by omega)]
    exact ret2 (.slice none 0 0) (iv 2) rfl rfl (.inl ⟨by rw [e]; decide, by rw [e], .refl _ _⟩)
  have bad : (l.all okC && decide (0 ≤ E ∧ E ≤ l.sum)) = false → tErr E l = 400 := fun h => by unfold tErr; rw [if_neg (by omega), h]; rfl
  refine len ?_
  refine loop_rule (fun s : Nat × Option Addr × Nat => [(14, iv (s.1 : Int)), (6, iv (isum (l.take s.1))), (4, .slice s.2.1 s.1 s.2.2)]) (fun s u => s.1 ≤ n ∧ OwnF w u s.2.1 s.1 s.2.2 54 2 (cls (clm (l.take s.1))) ∧ ∀ c ∈ l.take s.1, 0 ≤ c ∧ c ≤ 1073741824) (fun s _ => n - s.1) (0, none, 0) ⟨rfl, rfl, rfl, trivial⟩ ⟨by omega, .nil (.refl _ _), fun c hc => by simp at hc⟩ rfl ?_
  rintro G ⟨k, B, cb⟩ u ⟨hk, own, hall⟩
  have hsb := isum_b hall
  rw [List.length_take] at hsb
  refine cD (fun hlt => ?_) (fun hge => ?_)
  · have hlt : k < n := by omega
    obtain ⟨b, o, cs, a, rfl, ha, -, -, hc, rfl, hi⟩ := (hl.ext own.ext).at_ hlt
    unfold I64 at hi
    have htk : l.take (k + 1) = l.take k ++ [a] := by rw [List.take_add_one, ha]; rfl
    have no : ¬ (0 ≤ a ∧ a ≤ 1073741824) → ∀ K : Value → World → Prop, True → tErr E l = 400 := fun h K _ => bad (by
      rw [Bool.and_eq_false_iff]; left
      rw [Bool.eq_false_iff]
      intro h2
      exact h (of_decide_eq_true (List.all_eq_true.1 h2 a (List.mem_of_getElem? ha))))
    refine idx k rfl hlt ?_
    refine ld (iv a) (hc 0 _ rfl) ?_
    refine cD (fun g1 => ?_) (fun g1 => ?_)
    · have e := no (by omega) (fun _ _ => True) trivial
      exact ret2 (.slice none 0 0) (iv 400) rfl rfl (.inl ⟨by rw [e]; decide, by rw [e], own.ext⟩)
    refine cD (fun g2 => ?_) (fun g2 => ?_)
    · have e := no (by omega) (fun _ _ => True) trivial
      exact ret2 (.slice none 0 0) (iv 400) rfl rfl (.inl ⟨by rw [e]; decide, by rw [e], own.ext⟩)
    refine arI (by omega) ?_
    refine bld [iv a, iv (k : Int)] (by kernel_rfl) ?_
    refine lit [.agg #[iv a, iv (k : Int)]] (fun g u1 hq => ?_)
    refine appF (own.then hq.ext) (hq.src (sz := 2) rfl) (by omega) (fun A' c' u2 o2 _ _ => ?_)
    refine arI (by omega) ?_
    refine next (k + 1, A', c') ⟨by rw [Int.natCast_add]; rfl, by rw [htk, isum_snoc]; rfl, rfl, trivial⟩ ⟨by omega, ?_, fun c hc => ?_⟩ (by simp only; omega)
    · rw [clm_snoc ha, cls_app]; exact o2
    · rw [htk, List.mem_append, List.mem_singleton] at hc
      rcases hc with hc | rfl
      · exact hall c hc
      · omega
  · have hkn : k = n := by omega
    subst hkn
    rw [List.take_of_length_le (by omega)] at own hall hsb ⊢
    have hall' : l.all okC = true := List.all_eq_true.2 fun c hc => decide_eq_true (hall c hc)
    have no : ¬ (0 ≤ E ∧ E ≤ isum l) → tErr E l = 400 := fun h => bad (by rw [hall', Bool.true_and]; exact decide_eq_false h)
    refine cD (fun g1 => ?_) (fun g1 => ?_)
    · have e := no (by omega)
      exact ret2 (.slice none 0 0) (iv 400) rfl rfl (.inl ⟨by rw [e]; decide, by rw [e], own.ext⟩)
    refine cD (fun g2 => ?_) (fun g2 => ?_)
    · have e := no (by omega)
      exact ret2 (.slice none 0 0) (iv 400) rfl rfl (.inl ⟨by rw [e]; decide, by rw [e], own.ext⟩)
    refine ret2 (.slice B k cb) (iv 0) rfl rfl (.inr ⟨?_, B, k, cb, rfl, own, by omega⟩)
    unfold tErr
    rw [if_neg (by omega), hall', Bool.true_and, if_pos (decide_eq_true ⟨by omega, show E ≤ isum l by omega⟩)]
theorem c_gfirst {lo hi : Int} {p : Int → Bool} {fn : FuncId} {cap : Array Value} [he : Enters Try.prog fn] (h0 : 0 ≤ lo ∧ lo ≤ hi ∧ hi ≤ 1073741824) (hm : ∀ v v' : Int, lo ≤ v → v ≤ v' → v' ≤ hi → p v = true → p v' = true)
    (hc : ∀ (v : Int) (w' : World), lo ≤ v → v < hi → Ext w w' → CallZ Try.prog fn ([iv v] ++ cap.toList).toArray w' (fun u w'' => u = .bool (p v) ∧ Ext w' w'')) :
    CallZ Try.prog 28 #[iv lo, iv hi, .func (.func fn) #[] cap] w (fun v w' => ∃ k : Int, v = iv k ∧ First p lo hi k ∧ Ext w w') := by
  refine fn_rule (args := [iv lo, iv hi, .func (.func fn) #[] cap]) Try.func28 (by kernel_rfl) ?_
  refine loop2 (fun (a b : Int) => [(0, iv a), (1, iv b)]) (fun a b w' => Half p lo hi a b ∧ Ext w w') (fun a b _ => (b - a).toNat) lo hi ⟨rfl, rfl, trivial⟩ ⟨Half.start h0.2.1, .refl _ _⟩ rfl ?_
  rintro G a b w' ⟨h, xw⟩
  have h1 := h.a_lo
  have h2 := h.lo_hi
  have h3 := h.hi_b
  refine cD (fun hlt => ?_) (fun hge => ?_)
  · refine arI (by omega) ?_
    refine quoI (by omega) (by omega) (by omega) ?_
    refine arI (by omega) ?_
    obtain ⟨m, hmm⟩ : ∃ m, m = a + (b - a) / 2 := ⟨_, rfl⟩
    rw [← hmm]
    refine callE (hc m w' (by omega) (by omega) xw) (fun w2 hp x2 => ?_) (fun w2 hp x2 => ?_)
    · exact next2 a m ⟨rfl, rfl, trivial⟩ ⟨h.left (by omega) (by omega) hp, xw.trans x2⟩ (by omega)
    · refine arI (by omega) ?_
      exact next2 (m + 1) b ⟨rfl, rfl, trivial⟩ ⟨h.right hm (by omega) (by omega) hp, xw.trans x2⟩ (by omega)
  · exact ret1 (iv a) rfl ⟨a, rfl, h.done (by omega), xw⟩
section
variable {s : List (Int × Int)} {A : Option Addr} {n c bl : Nat} {t : TypeId} {L : Int}
theorem c_gThr1 (hs : SlR tCl D w A n s) (hn : n ≤ 664) (h0 : Cl0 s) (hb : Blk w bl t [.slice A n c]) (hL : 0 ≤ L ∧ L ≤ 1073741824) : CallZ Try.prog 27 #[iv L, ptr bl] w (fun v w' => v = iv (ceS s L) ∧ Ext w w') := by
  refine fn_rule (args := [iv L, ptr bl]) Try.func27 (by kernel_rfl) ?_
  refine ld (.slice A n c) (hb.cell rfl) ?_
  refine len ?_
  refine loop_rule (fun k : Nat => [(3, iv (ceS (s.take k) L)), (8, iv (k : Int))]) (fun k u => k ≤ n ∧ Ext w u) (fun k _ => n - k) 0 ⟨rfl, rfl, trivial⟩ ⟨by omega, .refl _ _⟩ rfl ?_
  rintro G k u ⟨hk, xu⟩
  have hsb := ceS_b (h0.take k) hL.1
  rw [List.length_take] at hsb
  refine cD (fun hlt => ?_) (fun hge => ?_)
  · have hlt : k < n := by omega
    obtain ⟨b, o, cs, m, rfl, hm, -, -, hc, rfl⟩ := (hs.ext xu).at_ hlt
    have htk : s.take (k + 1) = s.take k ++ [m] := by rw [List.take_add_one, hm]; rfl
    have hm0 := h0 m (List.mem_of_getElem? hm)
    refine idx k rfl hlt ?_
    refine ldA (encC m) hc rfl ?_
    refine alloc (fun q u1 a1 => ?_)
    refine stA (vs := encC m) a1.blk rfl (Nat.le_of_ble_eq_true rfl) (by simp [Value.oneCell']) (fun u2 b2 k2 z2 => ?_)
    have b2 : Blk u2 q 54 (encC m) := b2
    have ea := a1.at_
    have x2 : Ext u u2 := a1.ext.then k2 fun b hb _ e => by omega
    refine fldA ?_
    refine ld (iv m.1) (b2.cell rfl) ?_
    refine quoI (by omega) (by omega) (by omega) ?_
    refine arI (by omega) ?_
    refine arI (by omega) ?_
    exact next (k + 1) ⟨by rw [htk, ceS_snoc]; rfl, by rw [Int.natCast_add]; rfl, trivial⟩ ⟨by omega, xu.trans x2⟩ (by omega)
  · have := hs.len
    exact ret1 (iv (ceS (s.take k) L)) rfl ⟨by rw [List.take_of_length_le (by omega)], xu⟩
theorem c_gThr3 (hs : SlR tCl D w A n s) (hn : n ≤ 664) (h0 : Cl0 s) (hb : Blk w bl t [.slice A n c]) (hL : 0 ≤ L ∧ L ≤ 1073741824) : CallZ Try.prog 30 #[iv L, ptr bl] w (fun v w' => v = iv (clS s L) ∧ Ext w w') := by
  refine fn_rule (args := [iv L, ptr bl]) Try.func30 (by kernel_rfl) ?_
  refine ld (.slice A n c) (hb.cell rfl) ?_
  refine len ?_
  refine loop_rule (fun k : Nat => [(3, iv (clS (s.take k) L)), (8, iv (k : Int))]) (fun k u => k ≤ n ∧ Ext w u) (fun k _ => n - k) 0 ⟨rfl, rfl, trivial⟩ ⟨by omega, .refl _ _⟩ rfl ?_
  rintro G k u ⟨hk, xu⟩
  have hsb := clS_b (h0.take k) hL.1
  rw [List.length_take] at hsb
  refine cD (fun hlt => ?_) (fun hge => ?_)
  · have hlt : k < n := by omega
    obtain ⟨b, o, cs, m, rfl, hm, -, -, hc, rfl⟩ := (hs.ext xu).at_ hlt
    have htk : s.take (k + 1) = s.take k ++ [m] := by rw [List.take_add_one, hm]; rfl
    have hm0 := h0 m (List.mem_of_getElem? hm)
    refine idx k rfl hlt ?_
    refine ldA (encC m) hc rfl ?_
    refine alloc (fun q u1 a1 => ?_)
    refine stA (vs := encC m) a1.blk rfl (Nat.le_of_ble_eq_true rfl) (by simp [Value.oneCell']) (fun u2 b2 k2 z2 => ?_)
    have b2 : Blk u2 q 54 (encC m) := b2
    have ea := a1.at_
    have x2 : Ext u u2 := a1.ext.then k2 fun b hb _ e => by omega
    refine fldA ?_
    refine ld (iv m.1) (b2.cell rfl) ?_
    refine fldA ?_
    refine ld (iv m.1) (b2.cell rfl) ?_
    refine quoI (by omega) (by omega) (by omega) ?_
    refine arI (by omega) ?_
    refine arI (by omega) ?_
    refine arI (by omega) ?_
    refine arI (by omega) ?_
    exact next (k + 1) ⟨by rw [htk, clS_snoc]; rfl, by rw [Int.natCast_add]; rfl, trivial⟩ ⟨by omega, xu.trans x2⟩ (by omega)
  · have := hs.len
    exact ret1 (iv (clS (s.take k) L)) rfl ⟨by rw [List.take_of_length_le (by omega)], xu⟩
theorem c_gThr2 {ba bE : Nat} {tE ta : TypeId} {E : Int} (hs : SlR tCl D w A n s) (hn : n ≤ 664) (h0 : Cl0 s) (hb : Blk w bl t [.slice A n c]) (hL : 0 ≤ L ∧ L ≤ 1073741824) (ha : Blk w ba ta [.func (.func 27) #[] #[ptr bl]]) (hE : Blk w bE tE [iv E]) :
    CallZ Try.prog 29 #[iv L, ptr ba, ptr bE] w (fun v w' => v = .bool (decide (E ≤ ceS s L)) ∧ Ext w w') := by
  refine fn_rule (args := [iv L, ptr ba, ptr bE]) Try.func29 (by kernel_rfl) ?_
  refine drawK (fun _ => True) [0, 1, 3, 2, 4, 5] [2] mx (by kernel_rfl) ?_
  refine ldK (.func (.func 27) #[] #[ptr bl]) (ha.cell rfl) trivial (.refl _ _) ?_
  refine ldK (iv E) (hE.cell rfl) trivial (.refl _ _) ?_
  refine call_of (c_gThr1 hs hn h0 hb hL) ?_
  rintro _ w2 ⟨rfl, x2⟩
  refine strK x2 ?_
  refine cD (fun q => ?_) (fun q => ?_)
  · exact ret1 (.bool true) rfl ⟨by rw [decide_eq_true (by omega)], x2⟩
  · exact ret1 (.bool false) rfl ⟨by rw [decide_eq_false (by omega)], x2⟩
theorem c_gThr4 {ba bE : Nat} {tE ta : TypeId} {E : Int} (hs : SlR tCl D w A n s) (hn : n ≤ 664) (h0 : Cl0 s) (hb : Blk w bl t [.slice A n c]) (hL : 0 ≤ L ∧ L ≤ 1073741824) (ha : Blk w ba ta [.func (.func 30) #[] #[ptr bl]]) (hE : Blk w bE tE [iv E]) :
    CallZ Try.prog 31 #[iv L, ptr ba, ptr bE] w (fun v w' => v = .bool (decide (clS s L < E)) ∧ Ext w w') := by
  refine fn_rule (args := [iv L, ptr ba, ptr bE]) Try.func31 (by kernel_rfl) ?_
  refine drawK (fun _ => True) [0, 1, 3, 2, 4, 5] [2] mx (by kernel_rfl) ?_
  refine ldK (.func (.func 30) #[] #[ptr bl]) (ha.cell rfl) trivial (.refl _ _) ?_
  refine ldK (iv E) (hE.cell rfl) trivial (.refl _ _) ?_
  refine call_of (c_gThr3 hs hn h0 hb hL) ?_
  rintro _ w2 ⟨rfl, x2⟩
  refine strK x2 ?_
  refine cD (fun q => ?_) (fun q => ?_)
  · exact ret1 (.bool true) rfl ⟨by rw [decide_eq_true (by omega)], x2⟩
  · exact ret1 (.bool false) rfl ⟨by rw [decide_eq_false (by omega)], x2⟩
end
end
end Go.Proofs.Ytclmnhijjhnggaa

/- Layer 40: Threshold. -/
namespace Go.Proofs.Ytclmnhijjhnggaa
open Go Go.RowKit

abbrev encM (m : Mk) : List Value := [.bool m.late, iv m.level, iv m.claim, iv m.index]
/-- What the mark of an estate is. -/
def MarkOf (E : Int) (l : List Int) (m : Mk) : Prop := if tErr E l = 0 ∧ E ≠ 0 then m.Of l ∧ ownS m l = E else m = Mk.none
theorem clm_fst {l : List Int} : (clm l).map (·.1) = l := by
  apply List.ext_getElem
  · rw [List.length_map, clm_len]
  · intro i h1 h2
    unfold clm clA
    simp [List.getD_eq_getElem?_getD, List.getElem?_eq_getElem h2]
theorem clm_nodup {l : List Int} : ((clm l).map (·.2)).Nodup := by
  unfold clm
  rw [List.map_map]
  show List.Pairwise _ _
  rw [List.pairwise_map]
  exact List.nodup_range.imp fun h e => h (Int.ofNat.inj e)
section
variable {l : List Int} {s : List (Int × Int)} {E L : Int}
theorem sumS_perm (h : s.Perm (clm l)) : sumS s = isum l := by
  unfold sumS isum
  rw [perm_sum h, clm_fst]
theorem Cl0.perm (h : s.Perm (clm l)) (hl : ∀ c ∈ l, 0 ≤ c ∧ c ≤ 1073741824) : Cl0 s := fun x hx => by
  refine hl x.1 ?_
  have : x.1 ∈ (clm l).map (·.1) := List.mem_map_of_mem (h.mem_iff.1 hx)
  rwa [clm_fst] at this
theorem topS_le : ∀ {s : List (Int × Int)} {a : Int}, a ≤ s.foldl (fun a x => max a x.1) a ∧ ∀ x ∈ s, x.1 ≤ s.foldl (fun a x => max a x.1) a
  | [], a => ⟨Int.le_refl _, fun x hx => by cases hx⟩
  | y :: s, a => by
    have := topS_le (s := s) (a := max a y.1)
    refine ⟨by rw [List.foldl_cons]; omega, fun x hx => ?_⟩
    rw [List.foldl_cons]
    rcases List.mem_cons.1 hx with rfl | h
    · omega
    · exact this.2 x h
theorem topS_b : ∀ {s : List (Int × Int)} {a : Int}, (∀ x ∈ s, x.1 ≤ 1073741824) → a ≤ 1073741824 → s.foldl (fun a x => max a x.1) a ≤ 1073741824
  | [], a, _, h => h
  | y :: s, a, h, ha => by
    have := h y List.mem_cons_self
    rw [List.foldl_cons]
    exact topS_b (fun x hx => h x (List.mem_cons_of_mem _ hx)) (by omega)
theorem top_bounds (h : Cl0 s) : 0 ≤ topS s ∧ topS s ≤ 1073741824 ∧ ∀ x ∈ s, x.1 ≤ topS s := ⟨topS_le.1, topS_b (fun x hx => (h x hx).2) (by omega), topS_le.2⟩
theorem ceS_top (h : Cl0 s) : ceS s (topS s) = halfS s := map_sum_congr fun x hx => by
  have := h x hx
  have := (top_bounds h).2.2 x hx
  omega
theorem clS_top (h : Cl0 s) : clS s (topS s) = 0 := by
  refine Eq.trans (map_sum_congr (g := fun _ => (0 : Int)) fun x hx => ?_) (map_sum_zero (s := s))
  have := h x hx
  have := (top_bounds h).2.2 x hx
  omega
theorem ceS_zero (h : Cl0 s) : ceS s 0 = 0 := by
  refine Eq.trans (map_sum_congr (g := fun _ => (0 : Int)) fun x hx => ?_) (map_sum_zero (s := s))
  have := h x hx
  omega
theorem clS_zero (h : Cl0 s) : halfS s + clS s 0 = sumS s := by
  unfold halfS clS sumS
  rw [← map_sum_add]
  exact map_sum_congr fun x hx => by
    have := h x hx
    omega
theorem clS_stay : clS (s.reverse.filter (stayC L)) L = clS s L := by
  have := map_sum_filter (p := stayC L) (f := fun x : Int × Int => max 0 (x.1 - x.1 / 2 - L)) (fun x hx => by unfold stayC at hx; rw [decide_eq_false_iff_not] at hx; omega) (s := s.reverse)
  unfold clS
  rw [← this]
  exact perm_sum (List.reverse_perm s)
end
theorem Cl0.mono {s t : List (Int × Int)} (h : Cl0 s) (hs : ∀ x ∈ t, x ∈ s) : Cl0 t := fun x hx => h x (hs x hx)
section
variable {D : Nat → Prop} {w : World}
set_option maxRecDepth 4000 in
theorem c_gThr {E : Int} {l : List Int} {A : Option Addr} {n c : Nat} (hl : SlR tInt D w A n l) (hE : I64 E) : CallZ Try.prog 14 #[iv E, .slice A n c] w (fun v w' => Ext w w' ∧ ∃ m : Mk, v = .tuple #[.agg (encM m).toArray, iv (tErr E l)] ∧ MarkOf E l m) := by
  refine fn_rule (args := [iv E, .slice A n c]) Try.func14 (by kernel_rfl) ?_
  refine box (fun b2 w1 h1 => ?_)
  refine alloc (fun b4 w2 h2 => ?_)
  have x2 := h1.ext.trans h2.ext
  have e1 := h1.at_
  have e2 := h2.at_
  have s1 := h1.ext.size
  have s2 := h2.ext.size
  have B2 : Blk w2 b2 3 [iv E] := h1.blk.ext h2.ext
  have l1 := h1.blk.lt
  have l2 := h2.blk.lt
  have B4 : Blk w2 b4 29 (encM Mk.none) := h2.blk
  refine ld (iv E) (B2.cell rfl) ?_
  refine call_of (c_gread (hl.ext x2) hE) ?_
  rintro _ w3 (⟨he, rfl, x3⟩ | ⟨he, A1, n1, c1, rfl, own, hn1⟩)
  · refine alloc (fun b6 w4 h4 => ?_)
    refine st1 h4.blk rfl (fun w5 B6 k6 => ?_)
    have e4 := h4.at_
    have x5 : Ext w2 w5 := (x3.trans h4.ext).then k6 fun b hb _ e => by have := x3.size; omega
    refine cN (fun _ => ?_) (fun e => absurd e he)
    refine ldA (encM Mk.none) (.blk (B4.ext x5)) rfl ?_
    refine stA (vs := encM Mk.none) (B4.ext x5) rfl (Nat.le_of_ble_eq_true rfl) (by simp [Value.oneCell']) (fun w6 b6' k7 z7 => ?_)
    have B4' : Blk w6 b4 29 (encM Mk.none) := b6'
    refine ret ?_
    refine resL _ (holds_agg (CellsAt.blk B4') rfl) ?_
    exact ⟨(x2.trans x5).then k7 fun b hb _ e => by omega, Mk.none, rfl, by unfold MarkOf; rw [if_neg fun h => he h.1]⟩
  obtain ⟨hlen, hcl, hE0, hEs⟩ := tErr_no he
  have hEb : E ≤ 9223372036854775807 := hE.2
  refine alloc (fun b6 w4 h4 => ?_)
  refine st1 h4.blk rfl (fun w5 B6 k6 => ?_)
  have B6 : Blk w5 b6 56 [.slice A1 n1 c1] := B6
  have e4 := h4.at_
  have x3 := own.ext
  have s3 := x3.size
  have x35 : Ext w3 w5 := h4.ext.then k6 fun b hb _ e => by omega
  have x5 : Ext w2 w5 := x3.trans x35
  refine cN (fun h => absurd rfl h) (fun _ => ?_)
  refine ld (iv E) ((B2.ext x5).cell rfl) ?_
  refine cE (fun hz => ?_) (fun hz => ?_)
  · refine ldA (encM Mk.none) (.blk (B4.ext x5)) rfl ?_
    refine stA (vs := encM Mk.none) (B4.ext x5) rfl (Nat.le_of_ble_eq_true rfl) (by simp [Value.oneCell']) (fun w6 b6' k7 z7 => ?_)
    have B4' : Blk w6 b4 29 (encM Mk.none) := b6'
    refine ret ?_
    refine resL _ (holds_agg (CellsAt.blk B4') rfl) ?_
    exact ⟨(x2.trans x5).then k7 fun b hb _ e => by omega, Mk.none, by rw [he]; rfl, by unfold MarkOf; rw [if_neg fun h => h.2 hz]⟩
  have own5 := own.then x35
  rcases own5.form with ⟨rfl, h0, -⟩ | ⟨g, rfl, hg1, hg2, hc1⟩
  · exfalso
    have : l = [] := List.eq_nil_of_length_eq_zero (by omega)
    subst this
    have : (0 : Int) = ([] : List Int).sum := rfl
    omega
  have hg3 : g < w3.heap.size := by
    rcases own.form with ⟨h, -⟩ | ⟨g', h, -, hh, -⟩
    · cases h
    · injection h with h; injection h with h; omega
  obtain ⟨rest, Bg, hBl, -⟩ := own5.own.blk
  refine ld (.slice (some (ad g 0)) n1 c1) (B6.cell rfl) ?_
  refine call_of (c_sortC (s := clm l) Bg (by rw [clm_len]; exact hn1) (by rw [clm_len]; omega) clm_nodup) ?_
  rintro _ w6 ⟨rfl, s, hp, hpw, Bs, ks⟩
  have hsl : s.length = n1 := by rw [hp.length_eq, clm_len]; omega
  have h0 : Cl0 s := Cl0.perm hp hcl
  have htop := top_bounds h0
  have hhb := halfS_b h0
  have hbl : (cls s ++ rest).length = c1 * 2 := by rw [← hBl, List.length_append, List.length_append, cls_len, cls_len, hsl, clm_len, hn1]
  have Bs : Blk w6 g 54 (cls s ++ rest) := Bs
  have x6 : Ext w2 w6 := x5.then ks fun b hb _ e => by omega
  have B26 : Blk w6 b2 3 [iv E] := B2.ext x6
  have B46 : Blk w6 b4 29 (encM Mk.none) := B4.ext x6
  have B66 : Blk w6 b6 56 [.slice (some (ad g 0)) n1 c1] := B6.kept ks (by omega)
  have l6 := B66.lt
  have hs6 : SlR tCl (fun _ => True) w6 (some (ad g 0)) n1 s := slr_cls Bs (by rw [cls_take _ _ _ (by omega), List.take_of_length_le (by omega)]) hsl.symm (by omega) trivial
  clear ks Bg own5 own B6 k6 hl h1 h2 h4
  refine ld (.slice (some (ad g 0)) n1 c1) (B66.cell rfl) ?_
  refine len ?_
  refine loop_rule (fun k : Nat => [(38, iv (k : Int)), (8, iv (halfS (s.take k))), (9, iv (topS (s.take k)))]) (fun k u => k ≤ n1 ∧ Ext w6 u) (fun k _ => n1 - k) 0 ⟨rfl, rfl, rfl, trivial⟩ ⟨by omega, .refl _ _⟩ rfl ?_
  rintro G k u ⟨hk, xu⟩
  have hsb := halfS_b (h0.take k)
  rw [List.length_take] at hsb
  refine cD (fun hlt => ?_) (fun hge => ?_)
  · have hlt : k < n1 := by omega
    obtain ⟨b, o, cs, m, hA, hm, -, -, hc, rfl⟩ := (hs6.ext xu).at_ hlt
    injection hA with hA
    injection hA with hA1 hA2
    subst hA1; subst hA2
    have htk : s.take (k + 1) = s.take k ++ [m] := by rw [List.take_add_one, hm]; rfl
    have hm0 := h0 m (List.mem_of_getElem? hm)
    refine idx k rfl hlt ?_
    refine ldA (encC m) hc rfl ?_
    refine alloc (fun q u1 a1 => ?_)
    refine stA (vs := encC m) a1.blk rfl (Nat.le_of_ble_eq_true rfl) (by simp [Value.oneCell']) (fun u2 b2' k2 z2 => ?_)
    have b2' : Blk u2 q 54 (encC m) := b2'
    have ea := a1.at_
    have xu2 : Ext u u2 := a1.ext.then k2 fun b hb _ e => by omega
    refine drawX [0, 1, 2, 3, 4, 5, 6, 7, 8, 9, 10] [] mx (by kernel_rfl) ?_
    refine fldA ?_
    refine ldX (iv m.1) (b2'.cell rfl) (.refl _ _) ?_
    refine quoI (by omega) (by omega) (by omega) ?_
    refine arI (by omega) ?_
    refine fldA ?_
    refine ldX (iv m.1) (b2'.cell rfl) (.refl _ _) ?_
    refine arI (by omega) ?_
    exact next (k + 1) ⟨by rw [Int.natCast_add]; rfl, by rw [htk, halfS_snoc]; rfl, by rw [htk, topS_snoc]; rfl, trivial⟩ ⟨by omega, xu.trans xu2⟩ (by omega)
  have hks : s.take k = s := List.take_of_length_le (by omega)
  rw [hks]
  obtain ⟨H, hH⟩ : ∃ H, H = halfS s := ⟨_, rfl⟩
  obtain ⟨T, hT⟩ : ∃ T, T = topS s := ⟨_, rfl⟩
  rw [← hH, ← hT]
  rw [← hH] at hhb
  rw [← hT] at htop
  refine ld (iv E) ((B26.ext xu).cell rfl) ?_
  refine cD (fun hEH => ?_) (fun hEH => ?_)
  · have hT1 : 1 ≤ T := by
      by_cases q : 1 ≤ T
      · exact q
      exfalso
      have := ceS_top h0
      rw [← hT, show T = 0 by omega, ceS_zero h0, ← hH] at this
      omega
    have su := xu.size
    refine alloc (fun b12 w7 h7 => ?_)
    refine st1 (v := .func (.func 27) #[] #[ptr b6]) h7.blk rfl (fun w8 B12 k8 => ?_)
    have B12 : Blk w8 b12 62 [.func (.func 27) #[] #[ptr b6]] := B12
    have e7 := h7.at_
    have x68 : Ext w6 w8 := (xu.trans h7.ext).then k8 fun b hb _ e => by omega
    refine call_of (c_gfirst (fn := 29) (cap := #[ptr b12, ptr b2]) (p := fun v => decide (E ≤ ceS s v)) (lo := 1) (hi := T) ⟨by omega, by omega, by omega⟩
      (fun v v' h1 h2 h3 h => by rw [decide_eq_true_eq] at h ⊢; have := ceS_mono (s := s) h2; omega)
      (fun v w' hv1 hv2 xw => c_gThr2 (hs6.ext (x68.trans xw)) (by omega) h0 (B66.ext (x68.trans xw)) ⟨by omega, by omega⟩ (B12.ext xw) (B26.ext (x68.trans xw)))) ?_
    rintro _ w9 ⟨L, rfl, hL, x9⟩
    have hL1 := hL.le
    have hL2 := hL.ge
    have hcount : E ≤ ceS s L := by
      by_cases q : L < T
      · exact of_decide_eq_true (hL.yes q)
      · have := ceS_top h0
        rw [← hT, ← hH] at this
        rw [show L = T by omega, this]; exact hEH
    have hprev : ceS s (L - 1) < E := by
      by_cases q : L = 1
      · rw [q, show (1 : Int) - 1 = 0 from rfl, ceS_zero h0]; omega
      · have := of_decide_eq_false (hL.no (L - 1) (by omega) (by omega)); omega
    have hcb := ceS_b (L := L - 1) h0 (by omega)
    rw [hsl] at hcb
    obtain ⟨p, hpe⟩ : ∃ p : Nat, (p : Int) = E - ceS s (L - 1) - 1 := ⟨(E - ceS s (L - 1) - 1).toNat, by omega⟩
    obtain ⟨x, hx, hof, hown⟩ := early_mark hp hpw (fun x hx => (h0 x hx).1) hL1 hcount hpe
    have hpl := (List.getElem?_eq_some_iff.1 hx).1
    have x69 := x68.trans x9
    refine drawP (.take 0 (.take 1 (.take 2 (.take 3 (.take 4 (.alt 5 (.take 6 (.take 7 (.take 8 (.take 9 (.eff 10 (.eff 11 .done)))))) (.eff 10 (.eff 5 (.take 6 (.take 7 (.take 8 (.take 9 (.eff 11 .done))))))))))))) [] (fun z => Ext w9 z) mx (by kernel_rfl) (.refl _ _) ?_
    refine ldX (.slice (some (ad g 0)) n1 c1) (B66.cell rfl) x69 ?_
    refine ldX (iv E) (B26.cell rfl) x69 ?_
    refine ldX (.func (.func 27) #[] #[ptr b6]) (B12.cell rfl) x9 ?_
    refine arI (by omega) ?_
    refine ⟨?xl, ?xr⟩
    case' xl =>
      refine call_of (c_gThr1 (hs6.ext x69) (by omega) h0 (B66.ext x69) (L := L - 1) ⟨by omega, by omega⟩) ?_
      rintro _ w10 ⟨rfl, x10⟩
      refine strS x10 ?_
      refine arI (by omega) ?_
      refine arI (by omega) ?_
      refine idx p (by omega) (by omega) ?_
      refine ldAX (encC x) (cls_cells Bs hx) rfl x69 ?_
      refine alloc (fun q u1 a1 => ?_)
      have xe : Ext w9 u1 := x10.trans a1.ext
      have hq : w9.heap.size ≤ q := by have := a1.at_; have := x10.size; omega
      have bq : Blk u1 q 54 [iv 0, iv 0] := a1.blk
      refine strS xe ?_
      clear a1 x10
    case' xr =>
      refine alloc (fun q u0 a1 => ?_)
      refine strS a1.ext ?_
      refine call_of (c_gThr1 (hs6.ext (x69.trans a1.ext)) (by omega) h0 (B66.ext (x69.trans a1.ext)) (L := L - 1) ⟨by omega, by omega⟩) ?_
      rintro _ u1 ⟨rfl, x10⟩
      have xe : Ext w9 u1 := a1.ext.trans x10
      have hq : w9.heap.size ≤ q := by have := a1.at_; omega
      have bq : Blk u1 q 54 [iv 0, iv 0] := a1.blk.ext x10
      refine strS xe ?_
      refine arI (by omega) ?_
      refine arI (by omega) ?_
      refine idx p (by omega) (by omega) ?_
      refine ldAX (encC x) (cls_cells Bs hx) rfl x69 ?_
      clear a1 x10
    all_goals
      refine stA (vs := encC x) bq rfl (Nat.le_of_ble_eq_true rfl) (by simp [Value.oneCell']) (fun u2 bq kq zq => ?_)
      have bq : Blk u2 q 54 (encC x) := bq
      have xq : Ext w9 u2 := xe.then kq fun b hb _ e => by omega
      refine strS xq ?_
      refine fldA ?_
      refine ld (iv x.1) (bq.cell rfl) ?_
      refine fldA ?_
      refine ld (iv x.2) (bq.cell rfl) ?_
      refine bld (encM ⟨false, L, x.1, x.2⟩) (by kernel_rfl) ?_
      refine stA (vs := encM ⟨false, L, x.1, x.2⟩) (B46.ext (x69.trans xq)) rfl (Nat.le_of_ble_eq_true rfl) (by simp [Value.oneCell']) (fun w12 b4' k12 z12 => ?_)
      have B4' : Blk w12 b4 29 (encM ⟨false, L, x.1, x.2⟩) := b4'
      refine ret ?_
      refine resL _ (holds_agg (CellsAt.blk B4') rfl) ?_
      exact ⟨(x2.trans (x6.trans (x69.trans xq))).then k12 fun b hb _ e => by omega, ⟨false, L, x.1, x.2⟩, by rw [he]; rfl, by unfold MarkOf; rw [if_pos ⟨he, hz⟩]; exact ⟨hof, hown⟩⟩
  · have su := xu.size
    refine ld (iv E) ((B26.ext xu).cell rfl) ?_
    refine arI (by omega) ?_
    obtain ⟨R, hR⟩ : ∃ R, R = E - H := ⟨_, rfl⟩
    rw [← hR]
    refine alloc (fun b15 w7 h7 => ?_)
    refine st1 (v := iv R) h7.blk rfl (fun w8 B15 k8 => ?_)
    have B15 : Blk w8 b15 3 [iv R] := B15
    have e7 := h7.at_
    have x68 : Ext w6 w8 := (xu.trans h7.ext).then k8 fun b hb _ e => by omega
    have s68 := x68.size
    refine alloc (fun b16 w9 h9 => ?_)
    refine st1 (v := .func (.func 30) #[] #[ptr b6]) h9.blk rfl (fun w10 B16 k10 => ?_)
    have B16 : Blk w10 b16 62 [.func (.func 30) #[] #[ptr b6]] := B16
    have e9 := h9.at_
    have x810 : Ext w8 w10 := h9.ext.then k10 fun b hb _ e => by omega
    have x610 := x68.trans x810
    have l15 := B15.lt
    have l16 := B16.lt
    have s810 := x810.size
    refine call_of (c_gfirst (fn := 31) (cap := #[ptr b16, ptr b15]) (p := fun v => decide (clS s v < R)) (lo := 0) (hi := T) ⟨by omega, by omega, by omega⟩
      (fun v v' h1 h2 h3 h => by rw [decide_eq_true_eq] at h ⊢; have := clS_mono (s := s) h2; omega)
      (fun v w' hv1 hv2 xw => c_gThr4 (hs6.ext (x610.trans xw)) (by omega) h0 (B66.ext (x610.trans xw)) ⟨by omega, by omega⟩ (B16.ext xw) (B15.ext (x810.trans xw)))) ?_
    rintro _ w11 ⟨L, rfl, hL, x11⟩
    have hL1 := hL.le
    have hL2 := hL.ge
    have hcount : clS s L < R := by
      by_cases q : L < T
      · exact of_decide_eq_true (hL.yes q)
      · have := clS_top h0
        rw [← hT] at this
        rw [show L = T by omega, this]; omega
    have hsum : E ≤ sumS s := by rw [sumS_perm hp]; exact hEs
    have hzero := clS_zero h0
    rw [← hH] at hzero
    have hL0 : 1 ≤ L := by
      by_cases q : L = 0
      · rw [q] at hcount; omega
      · omega
    have hprev : E ≤ halfS s + clS s (L - 1) := by
      have := of_decide_eq_false (hL.no (L - 1) (by omega) (by omega))
      rw [← hH]; omega
    refine alloc (fun b17 w12 h12 => ?_)
    refine st1 (v := iv L) h12.blk rfl (fun w13 B17 k13 => ?_)
    have B17 : Blk w13 b17 3 [iv L] := B17
    have e12 := h12.at_
    have x1113 : Ext w11 w13 := h12.ext.then k13 fun b hb _ e => by omega
    have x613 := x610.trans (x11.trans x1113)
    have x1013 := x11.trans x1113
    have s1113 := x1113.size
    have s1011 := x11.size
    have s610 := x610.size
    have lg := Bs.lt
    have l17 := B17.lt
    refine ld (.slice (some (ad g 0)) n1 c1) ((B66.ext x613).cell rfl) ?_
    refine call_of (c_revC (ms := s) (Bs.ext x613) hsl.symm (by omega)) ?_
    rintro _ w14 ⟨rfl, Br, kr⟩
    have B6e : Blk w14 b6 56 [.slice (some (ad g 0)) n1 c1] := (B66.ext x613).kept kr (by omega)
    refine ld (.slice (some (ad g 0)) n1 c1) (B6e.cell rfl) ?_
    refine call_of (c_delC (ms := s.reverse) (L := L) Br (by rw [← hbl, List.length_append, List.length_append, cls_len, cls_len, List.length_reverse]) (by rw [List.length_reverse]; exact hsl.symm) (by omega) (fun m hm => h0 m (List.mem_reverse.1 hm)) (B17.kept kr (by omega)) (by omega)) ?_
    rintro _ w15 ⟨kd, A2, n2, c2, rfl, hf, hn2⟩
    have krd := kr.trans kd
    refine st1 (v := .slice A2 n2 c2) (B6e.kept kd (by omega)) rfl (fun w16 B6f k16 => ?_)
    have B6f : Blk w16 b6 56 [.slice A2 n2 c2] := B6f
    have hf : SlR tCl (fun b => b = g) w16 A2 n2 (s.reverse.filter (stayC L)) := hf.kept k16 (fun b _ hb e => by omega)
    have B15f : Blk w16 b15 3 [iv R] := ((B15.ext (x810.trans x1013)).kept krd (by omega)).kept k16 (by omega)
    have B16f : Blk w16 b16 62 [.func (.func 30) #[] #[ptr b6]] := ((B16.ext x1013).kept krd (by omega)).kept k16 (by omega)
    have B17f : Blk w16 b17 3 [iv L] := (B17.kept krd (by omega)).kept k16 (by omega)
    have B4f : Blk w16 b4 29 (encM Mk.none) := ((B46.ext x613).kept krd (by omega)).kept k16 (by omega)
    have x216 : Ext w2 w16 := ((x6.trans x613).then krd fun b hb _ e => by omega).then k16 fun b hb _ e => by omega
    have hcb := clS_b (L := L) h0 (by omega)
    rw [hsl] at hcb
    rw [← hsl] at hcb
    obtain ⟨p, hpe⟩ : ∃ p : Nat, (p : Int) = E - halfS s - clS s L - 1 := ⟨(E - halfS s - clS s L - 1).toNat, by rw [← hH]; omega⟩
    obtain ⟨x, hx, hof, hown⟩ := late_mark hp hpw (fun x hx => (h0 x hx).1) hL0 hprev hpe
    rw [← hH] at hpe
    have hx : (s.reverse.filter (stayC L))[p]? = some x := hx
    have hpl := (List.getElem?_eq_some_iff.1 hx).1
    have hfl := hf.len
    have hf0 : Cl0 (s.reverse.filter (stayC L)) := h0.mono fun y hy => List.mem_reverse.1 (List.mem_filter.1 hy).1
    have hfl2 : (s.reverse.filter (stayC L)).length ≤ s.reverse.length := List.length_filter_le _ _
    rw [List.length_reverse] at hfl2
    obtain ⟨b, o, cs, y, rfl, hy, -, -, hc, rfl⟩ := hf.at_ (k := p) (by omega)
    obtain rfl : x = y := by rw [hx] at hy; injection hy
    refine drawP (.take 0 (.take 1 (.take 2 (.take 3 (.alt 4 (.take 5 (.take 6 (.take 7 (.take 8 (.eff 9 (.eff 10 .done)))))) (.eff 9 (.eff 4 (.take 5 (.take 6 (.take 7 (.take 8 (.eff 10 .done)))))))))))) [] (fun z => Ext w16 z) mx (by kernel_rfl) (.refl _ _) ?_
    refine ldX (.slice (some (ad b o)) n2 c2) (B6f.cell rfl) (.refl _ _) ?_
    refine ldX (iv R) (B15f.cell rfl) (.refl _ _) ?_
    refine ldX (.func (.func 30) #[] #[ptr b6]) (B16f.cell rfl) (.refl _ _) ?_
    refine ldX (iv L) (B17f.cell rfl) (.refl _ _) ?_
    refine ⟨?yl, ?yr⟩
    case' yl =>
      refine call_of (c_gThr3 hf (by omega) hf0 B6f (L := L) ⟨by omega, by omega⟩) ?_
      rintro _ w17 ⟨rfl, x17⟩
      rw [clS_stay]
      refine strS x17 ?_
      refine arI (by omega) ?_
      refine arI (by omega) ?_
      refine idx p (by omega) (by omega) ?_
      refine ldAX (encC x) hc rfl (.refl _ _) ?_
      refine alloc (fun q u1 a1 => ?_)
      have xe : Ext w16 u1 := x17.trans a1.ext
      have hq : w16.heap.size ≤ q := by have := a1.at_; have := x17.size; omega
      have bq : Blk u1 q 54 [iv 0, iv 0] := a1.blk
      refine strS xe ?_
      clear a1 x17
    case' yr =>
      refine alloc (fun q u0 a1 => ?_)
      refine strS a1.ext ?_
      refine call_of (c_gThr3 (hf.ext a1.ext) (by omega) hf0 (B6f.ext a1.ext) (L := L) ⟨by omega, by omega⟩) ?_
      rintro _ u1 ⟨rfl, x17⟩
      rw [clS_stay]
      have xe : Ext w16 u1 := a1.ext.trans x17
      have hq : w16.heap.size ≤ q := by have := a1.at_; omega
      have bq : Blk u1 q 54 [iv 0, iv 0] := a1.blk.ext x17
      refine strS xe ?_
      refine arI (by omega) ?_
      refine arI (by omega) ?_
      refine idx p (by omega) (by omega) ?_
      refine ldAX (encC x) hc rfl (.refl _ _) ?_
      clear a1 x17
    all_goals
      refine stA (vs := encC x) bq rfl (Nat.le_of_ble_eq_true rfl) (by simp [Value.oneCell']) (fun u2 bq kq zq => ?_)
      have bq : Blk u2 q 54 (encC x) := bq
      have xq : Ext w16 u2 := xe.then kq fun b hb _ e => by omega
      refine strS xq ?_
      refine ld (iv L) ((B17f.ext xq).cell rfl) ?_
      refine fldA ?_
      refine ld (iv x.1) (bq.cell rfl) ?_
      refine fldA ?_
      refine ld (iv x.2) (bq.cell rfl) ?_
      refine bld (encM ⟨true, L, x.1, x.2⟩) (by kernel_rfl) ?_
      refine stA (vs := encM ⟨true, L, x.1, x.2⟩) (B4f.ext xq) rfl (Nat.le_of_ble_eq_true rfl) (by simp [Value.oneCell']) (fun w18 b4' k18 z18 => ?_)
      have B4' : Blk w18 b4 29 (encM ⟨true, L, x.1, x.2⟩) := b4'
      refine ret ?_
      refine resL _ (holds_agg (CellsAt.blk B4') rfl) ?_
      exact ⟨(x2.trans (x216.trans xq)).then k18 fun b hb _ e => by omega, ⟨true, L, x.1, x.2⟩, by rw [he]; rfl, by unfold MarkOf; rw [if_pos ⟨he, hz⟩]; exact ⟨hof, hown⟩⟩
end
end Go.Proofs.Ytclmnhijjhnggaa

/- Layer 40: own, valid, Own, Award, Pair. -/
namespace Go.Proofs.Ytclmnhijjhnggaa
open Go Go.RowKit Go.Sort

instance : EqTy Try.prog 29 := ⟨by kernel_rfl⟩
section
variable {D : Nat → Prop} {w : World}
theorem c_comp {x y : Int × Int} : CallZ Try.prog 25 #[.agg (encC x).toArray, .agg (encC y).toArray] w (fun v w' => v = iv (cmpC x y) ∧ Ext w w') := by
  intro w0 hw
  subst hw
  rw [callsIn_wide]
  refine (k_cmp x y w0).mono ?_
  rintro e w' ⟨rfl, q, os, rfl⟩
  refine ⟨_, rfl, rfl, rfl, rfl, rfl, ?_, fun i hi _ => ?_⟩
  · show w0.heap.size ≤ (w0.heap ++ os).size
    rw [Array.size_append]; omega
  · show (w0.heap ++ os)[i]? = w0.heap[i]?
    exact Array.getElem?_append_left hi
theorem cmpC_le {x y : Int × Int} : cmpC x y ≤ 0 ↔ y.1 < x.1 ∨ (x.1 = y.1 ∧ x.2 ≤ y.2) := by unfold cmpC cmpK; repeat' split <;> omega
theorem cmpC_ge {x y : Int × Int} : 0 ≤ cmpC x y ↔ x.1 < y.1 ∨ (x.1 = y.1 ∧ y.2 ≤ x.2) := by unfold cmpC cmpK; repeat' split <;> omega
theorem ne_none {m : Mk} : ((m.late == false) && ((m.level == 0) && ((m.claim == 0) && ((m.index == 0) && true)))) = decide (m = Mk.none) := by
  obtain ⟨l, L, c, i⟩ := m
  rw [Bool.eq_iff_iff]
  simp [Mk.none]
theorem c_gown {m : Mk} {x : Int × Int} (hx : 0 ≤ x.1 ∧ x.1 ≤ 1073741824) (hm : 0 ≤ m.level ∧ m.level ≤ 1073741824) : CallZ Try.prog 22 #[.agg (encM m).toArray, .agg (encC x).toArray] w (fun v w' => v = iv (ownV m x.1 x.2) ∧ Ext w w') := by
  obtain ⟨l, L, c0, i0⟩ := m
  have hm : 0 ≤ L ∧ L ≤ 1073741824 := hm
  refine fn_rule (args := [.agg #[.bool l, iv L, iv c0, iv i0], .agg #[iv x.1, iv x.2]]) Try.func22 (by kernel_rfl) ?_
  refine box (fun b2 w1 h1 => ?_)
  refine box (fun b3 w2 h2 => ?_)
  have x2 := h1.ext.trans h2.ext
  have B2 : Blk w2 b2 29 [.bool l, iv L, iv c0, iv i0] := h1.blk.ext h2.ext
  have B3 : Blk w2 b3 54 (encC x) := h2.blk
  refine ldA (encC x) (.blk B3) rfl ?_
  refine fldA ?_
  refine ld (iv c0) (B2.cell rfl) ?_
  refine fldA ?_
  refine ld (iv i0) (B2.cell rfl) ?_
  refine bld (encC (c0, i0)) (by kernel_rfl) ?_
  refine call_of (c_comp (x := x) (y := (c0, i0))) ?_
  rintro _ w3 ⟨rfl, x3⟩
  have B2 := B2.ext x3
  have B3 := B3.ext x3
  have x3 := x2.trans x3
  have hle := cmpC_le (x := x) (y := (c0, i0))
  have hge := cmpC_ge (x := x) (y := (c0, i0))
  obtain ⟨o, ho⟩ : ∃ o, o = cmpC x (c0, i0) := ⟨_, rfl⟩
  rw [← ho] at hle hge ⊢
  have hle : o ≤ 0 ↔ c0 < x.1 ∨ (x.1 = c0 ∧ x.2 ≤ i0) := hle
  have hge : 0 ≤ o ↔ x.1 < c0 ∨ (x.1 = c0 ∧ i0 ≤ x.2) := hge
  clear ho
  refine ldA [.bool l, iv L, iv c0, iv i0] (.blk B2) rfl ?_
  refine bld [.bool false, iv 0, iv 0, iv 0] (by kernel_rfl) ?_
  refine eqS ((l == false) && ((L == 0) && ((c0 == 0) && ((i0 == 0) && true)))) (by kernel_rfl) (fun q => ?_) (fun q => ?_)
  · rw [show ((l == false) && ((L == 0) && ((c0 == 0) && ((i0 == 0) && true)))) = decide ((⟨l, L, c0, i0⟩ : Mk) = Mk.none) from @ne_none ⟨l, L, c0, i0⟩, decide_eq_true_eq] at q
    exact ret1 (iv 0) rfl ⟨by unfold ownV; rw [if_pos q], x3⟩
  rw [show ((l == false) && ((L == 0) && ((c0 == 0) && ((i0 == 0) && true)))) = decide ((⟨l, L, c0, i0⟩ : Mk) = Mk.none) from @ne_none ⟨l, L, c0, i0⟩, decide_eq_false_iff_not] at q
  cases l with
  | false =>
    refine fldA ?_
    refine ld (.bool false) (B2.cell rfl) ?_
    refine cD (fun g => ?_) (fun g => ?_)
    · refine fldA ?_
      refine ld (iv x.1) (B3.cell rfl) ?_
      refine quoI (by omega) (by omega) (by omega) ?_
      refine fldA ?_
      refine ld (iv L) (B2.cell rfl) ?_
      refine ret1 (iv (min (x.1 / 2) L)) rfl ⟨?_, x3⟩
      unfold ownV
      rw [if_neg q, if_neg (by simp), if_pos (show upTo ⟨false, L, c0, i0⟩ x.1 x.2 from hle.1 g)]
    · refine fldA ?_
      refine ld (.bool false) (B2.cell rfl) ?_
      refine fldA ?_
      refine ld (iv x.1) (B3.cell rfl) ?_
      refine quoI (by omega) (by omega) (by omega) ?_
      refine fldA ?_
      refine ld (iv L) (B2.cell rfl) ?_
      refine arI (by omega) ?_
      refine ret1 (iv (min (x.1 / 2) (L - 1))) rfl ⟨?_, x3⟩
      unfold ownV
      rw [if_neg q, if_neg (by simp), if_neg (show ¬ upTo ⟨false, L, c0, i0⟩ x.1 x.2 from fun h => g (hle.2 h))]
  | true =>
    refine fldA ?_
    refine ld (.bool true) (B2.cell rfl) ?_
    refine fldA ?_
    refine ld (.bool true) (B2.cell rfl) ?_
    refine cD (fun g => ?_) (fun g => ?_)
    · refine fldA ?_
      refine ld (iv x.1) (B3.cell rfl) ?_
      refine fldA ?_
      refine ld (iv x.1) (B3.cell rfl) ?_
      refine fldA ?_
      refine ld (iv x.1) (B3.cell rfl) ?_
      refine quoI (by omega) (by omega) (by omega) ?_
      refine arI (by omega) ?_
      refine fldA ?_
      refine ld (iv L) (B2.cell rfl) ?_
      refine arI (by omega) ?_
      refine arI (by omega) ?_
      refine ret1 (iv (x.1 - min (x.1 - x.1 / 2) (L - 1))) rfl ⟨?_, x3⟩
      unfold ownV
      rw [if_neg q, if_pos rfl, if_pos (show upTo ⟨true, L, c0, i0⟩ x.1 x.2 from hge.1 g)]
    · refine fldA ?_
      refine ld (iv x.1) (B3.cell rfl) ?_
      refine fldA ?_
      refine ld (iv x.1) (B3.cell rfl) ?_
      refine fldA ?_
      refine ld (iv x.1) (B3.cell rfl) ?_
      refine quoI (by omega) (by omega) (by omega) ?_
      refine arI (by omega) ?_
      refine fldA ?_
      refine ld (iv L) (B2.cell rfl) ?_
      refine arI (by omega) ?_
      refine ret1 (iv (x.1 - min (x.1 - x.1 / 2) L)) rfl ⟨?_, x3⟩
      unfold ownV
      rw [if_neg q, if_pos rfl, if_neg (show ¬ upTo ⟨true, L, c0, i0⟩ x.1 x.2 from fun h => g (hge.2 h))]
/-- Which marks are valid. -/
def VM (m : Mk) : Prop := m = Mk.none ∨ (m.Lit ∧ m.claim ≤ 1073741824 ∧ 0 ≤ m.index ∧ m.index < 664)
theorem VM.b {m : Mk} (h : VM m) : 0 ≤ m.level ∧ m.level ≤ 1073741824 := by
  rcases h with rfl | ⟨h, h1, -⟩
  · exact ⟨by decide, by decide⟩
  · have := h.lo
    have := h.hi
    have := h.c0
    split at * <;> omega
noncomputable instance (m : Mk) : Decidable (VM m) := Classical.propDecidable _
noncomputable def validB (m : Mk) : Bool := decide (VM m)
theorem c_gvalid {m : Mk} : CallZ Try.prog 40 #[.agg (encM m).toArray] w (fun v w' => v = .bool (validB m) ∧ Ext w w') := by
  have key : ∀ {b : Bool}, (b = true ↔ VM m) → b = validB m := fun {b} h => by
    unfold validB
    cases b with
    | true => exact (decide_eq_true (h.1 rfl)).symm
    | false => exact (decide_eq_false fun k => by cases h.2 k).symm
  obtain ⟨l, L, c0, i0⟩ := m
  refine fn_rule (args := [.agg #[.bool l, iv L, iv c0, iv i0]]) Try.func40 (by kernel_rfl) ?_
  refine box (fun b1 w1 h1 => ?_)
  have B : Blk w1 b1 29 [.bool l, iv L, iv c0, iv i0] := h1.blk
  refine ldA [.bool l, iv L, iv c0, iv i0] (.blk B) rfl ?_
  refine bld [.bool false, iv 0, iv 0, iv 0] (by kernel_rfl) ?_
  refine eqS ((l == false) && ((L == 0) && ((c0 == 0) && ((i0 == 0) && true)))) (by kernel_rfl) (fun q => ?_) (fun q => ?_)
  · rw [show ((l == false) && ((L == 0) && ((c0 == 0) && ((i0 == 0) && true)))) = decide ((⟨l, L, c0, i0⟩ : Mk) = Mk.none) from @ne_none ⟨l, L, c0, i0⟩, decide_eq_true_eq] at q
    exact ret1 (.bool true) rfl ⟨by rw [← key (b := true) ⟨fun _ => .inl q, fun _ => rfl⟩], h1.ext⟩
  rw [show ((l == false) && ((L == 0) && ((c0 == 0) && ((i0 == 0) && true)))) = decide ((⟨l, L, c0, i0⟩ : Mk) = Mk.none) from @ne_none ⟨l, L, c0, i0⟩, decide_eq_false_iff_not] at q
  have fal : ¬ ((⟨l, L, c0, i0⟩ : Mk).Lit ∧ c0 ≤ 1073741824 ∧ 0 ≤ i0 ∧ i0 < 664) → false = validB ⟨l, L, c0, i0⟩ := fun h => key ⟨fun h => (by cases h), fun k => (k.elim q h).elim⟩
  have tru : ((⟨l, L, c0, i0⟩ : Mk).Lit ∧ c0 ≤ 1073741824 ∧ 0 ≤ i0 ∧ i0 < 664) → true = validB ⟨l, L, c0, i0⟩ := fun h => key ⟨fun _ => .inr h, fun _ => rfl⟩
  have lhi : (⟨l, L, c0, i0⟩ : Mk).Lit → 1 ≤ L ∧ 0 ≤ c0 ∧ L ≤ c0 := fun h => by
    have h1 : 1 ≤ L := h.lo
    have h2 : L ≤ if l = true then c0 - c0 / 2 else c0 / 2 := h.hi
    have h3 : 0 ≤ c0 := h.c0
    split at h2 <;> omega
  refine fldA ?_
  refine ld (iv c0) (B.cell rfl) ?_
  refine cD (fun g1 => ?_) (fun g1 => ?_)
  · exact ret1 (.bool false) rfl ⟨by rw [← fal fun h => by have := lhi h.1; omega], h1.ext⟩
  refine fldA ?_
  refine ld (iv c0) (B.cell rfl) ?_
  refine cD (fun g2 => ?_) (fun g2 => ?_)
  · exact ret1 (.bool false) rfl ⟨by rw [← fal fun h => by omega], h1.ext⟩
  refine fldA ?_
  refine ld (iv i0) (B.cell rfl) ?_
  refine cD (fun g3 => ?_) (fun g3 => ?_)
  · exact ret1 (.bool false) rfl ⟨by rw [← fal fun h => by omega], h1.ext⟩
  refine fldA ?_
  refine ld (iv i0) (B.cell rfl) ?_
  refine cD (fun g4 => ?_) (fun g4 => ?_)
  · exact ret1 (.bool false) rfl ⟨by rw [← fal fun h => by omega], h1.ext⟩
  refine fldA ?_
  refine ld (iv L) (B.cell rfl) ?_
  refine cD (fun g5 => ?_) (fun g5 => ?_)
  · exact ret1 (.bool false) rfl ⟨by rw [← fal fun h => by have := lhi h.1; omega], h1.ext⟩
  refine fldA ?_
  refine ld (iv L) (B.cell rfl) ?_
  refine fldA ?_
  refine ld (iv c0) (B.cell rfl) ?_
  refine cD (fun g6 => ?_) (fun g6 => ?_)
  · exact ret1 (.bool false) rfl ⟨by rw [← fal fun h => by have := lhi h.1; omega], h1.ext⟩
  cases l with
  | false =>
    refine fldA ?_
    refine ld (.bool false) (B.cell rfl) ?_
    refine fldA ?_
    refine ld (iv L) (B.cell rfl) ?_
    refine fldA ?_
    refine ld (iv c0) (B.cell rfl) ?_
    refine quoI (by omega) (by omega) (by omega) ?_
    refine cD (fun g => ?_) (fun g => ?_)
    · exact ret1 (.bool true) rfl ⟨by rw [← tru ⟨⟨by show 1 ≤ L; omega, g, by show 0 ≤ c0; omega⟩, by omega, by omega, by omega⟩], h1.ext⟩
    · exact ret1 (.bool false) rfl ⟨by rw [← fal fun h => g h.1.hi], h1.ext⟩
  | true =>
    refine fldA ?_
    refine ld (.bool true) (B.cell rfl) ?_
    refine fldA ?_
    refine ld (iv L) (B.cell rfl) ?_
    refine fldA ?_
    refine ld (iv c0) (B.cell rfl) ?_
    refine fldA ?_
    refine ld (iv c0) (B.cell rfl) ?_
    refine quoI (by omega) (by omega) (by omega) ?_
    refine arI (by omega) ?_
    refine cD (fun g => ?_) (fun g => ?_)
    · exact ret1 (.bool true) rfl ⟨by rw [← tru ⟨⟨by show 1 ≤ L; omega, g, by show 0 ≤ c0; omega⟩, by omega, by omega, by omega⟩], h1.ext⟩
    · exact ret1 (.bool false) rfl ⟨by rw [← fal fun h => g h.1.hi], h1.ext⟩
noncomputable def ownE (m : Mk) (i c : Int) : Int := if VM m then (if 0 ≤ i ∧ i < 664 ∧ 0 ≤ c ∧ c ≤ 1073741824 then 0 else 1) else 400
theorem c_gOwn {m : Mk} {i c : Int} : CallZ Try.prog 17 #[.agg (encM m).toArray, iv i, iv c] w (fun v w' => v = .tuple #[iv (if ownE m i c = 0 then ownV m c i else 0), iv (ownE m i c)] ∧ Ext w w') := by
  have bad : VM m → ¬ (0 ≤ i ∧ i < 664 ∧ 0 ≤ c ∧ c ≤ 1073741824) → ownE m i c = 1 := fun h k => by unfold ownE; rw [if_pos h, if_neg k]
  refine fn_rule (args := [.agg (encM m).toArray, iv i, iv c]) Try.func17 (by kernel_rfl) ?_
  refine box (fun b w1 h1 => ?_)
  have B : Blk w1 b 29 (encM m) := h1.blk
  refine ldA (encM m) (.blk B) rfl ?_
  refine callE (c_gvalid (m := m)) (fun w2 q x2 => ?_) (fun w2 q x2 => ?_)
  · have hv : VM m := of_decide_eq_true q
    have x12 := h1.ext.trans x2
    refine cD (fun g1 => ?_) (fun g1 => ?_)
    · exact ret2 (iv 0) (iv 1) rfl rfl ⟨by rw [bad hv (by omega)]; rfl, x12⟩
    refine cD (fun g2 => ?_) (fun g2 => ?_)
    · exact ret2 (iv 0) (iv 1) rfl rfl ⟨by rw [bad hv (by omega)]; rfl, x12⟩
    refine cD (fun g3 => ?_) (fun g3 => ?_)
    · exact ret2 (iv 0) (iv 1) rfl rfl ⟨by rw [bad hv (by omega)]; rfl, x12⟩
    refine cD (fun g4 => ?_) (fun g4 => ?_)
    · exact ret2 (iv 0) (iv 1) rfl rfl ⟨by rw [bad hv (by omega)]; rfl, x12⟩
    refine ldA (encM m) (.blk (B.ext x2)) rfl ?_
    refine bld (encC (c, i)) (by kernel_rfl) ?_
    refine call_of (c_gown (m := m) (x := (c, i)) ⟨by show 0 ≤ c; omega, by show c ≤ _; omega⟩ hv.b) ?_
    rintro _ w3 ⟨rfl, x3⟩
    have e : ownE m i c = 0 := by unfold ownE; rw [if_pos hv, if_pos ⟨by omega, by omega, by omega, by omega⟩]
    exact ret2 (iv (ownV m c i)) (iv 0) rfl rfl ⟨by rw [e]; rfl, x12.trans x3⟩
  · have hv : ¬ VM m := of_decide_eq_false q
    have e : ownE m i c = 400 := by unfold ownE; rw [if_neg hv]
    exact ret2 (iv 0) (iv 400) rfl rfl ⟨by rw [e]; rfl, h1.ext.trans x2⟩
/-- The awards by a mark. -/
def awL (m : Mk) (l : List Int) : List Int := (List.range l.length).map fun i => ownV m (clA l i) i
theorem awL_snoc {m : Mk} {l : List Int} {k : Nat} {c : Int} (h : l[k]? = some c) : awL m (l.take (k + 1)) = awL m (l.take k) ++ [ownV m c k] := by
  have hk := (List.getElem?_eq_some_iff.1 h).1
  unfold awL
  rw [List.length_take, List.length_take, Nat.min_eq_left (by omega), Nat.min_eq_left (by omega), List.range_succ, List.map_append]
  congr 1
  · refine List.map_congr_left fun i hi => ?_
    have := List.mem_range.1 hi
    unfold clA
    rw [List.getD_eq_getElem?_getD, List.getD_eq_getElem?_getD, List.getElem?_take, List.getElem?_take, if_pos (by omega), if_pos (by omega)]
  · unfold clA
    rw [List.map_cons, List.map_nil, List.getD_eq_getElem?_getD, List.getElem?_take, if_pos (by omega), h]; rfl
theorem MarkOf.vm {E : Int} {l : List Int} {m : Mk} (h : MarkOf E l m) (he : tErr E l = 0) : VM m := by
  unfold MarkOf at h
  by_cases hE : E = 0
  · rw [if_neg fun k => k.2 hE] at h; exact .inl h
  · rw [if_pos ⟨he, hE⟩] at h
    obtain ⟨hlen, hcl, -⟩ := tErr_no he
    have hix := h.1.ix
    refine .inr ⟨h.1.lit, ?_, by omega, by omega⟩
    rw [h.1.cl]
    refine (hcl _ ?_).2
    unfold clA
    rw [List.getD_eq_getElem?_getD, List.getElem?_eq_getElem (by omega : m.index.toNat < l.length)]
    exact List.getElem_mem _
set_option maxRecDepth 4000 in
theorem c_gAward {E : Int} {l : List Int} {A : Option Addr} {n c : Nat} (hl : SlR tInt D w A n l) (hE : I64 E) : CallZ Try.prog 12 #[iv E, .slice A n c] w (fun v w' => (tErr E l ≠ 0 ∧ v = .tuple #[.slice none 0 0, iv (tErr E l)] ∧ Ext w w') ∨
    (tErr E l = 0 ∧ ∃ m A' n' c', MarkOf E l m ∧ v = .tuple #[.slice A' n' c', iv 0] ∧ OwnF w w' A' n' c' 3 1 ((awL m l).map fun k => .int .i64 k) ∧ n' = l.length)) := by
  have l1 := hl.len
  refine fn_rule (args := [iv E, .slice A n c]) Try.func12 (by kernel_rfl) ?_
  refine call_of (c_gThr hl hE) ?_
  rintro _ w1 ⟨x1, m, rfl, hm⟩
  obtain ⟨e, hee⟩ : ∃ e, e = tErr E l := ⟨_, rfl⟩
  rw [← hee]
  refine alloc (fun b w2 h2 => ?_)
  refine stA (vs := encM m) h2.blk rfl (Nat.le_of_ble_eq_true rfl) (by simp [Value.oneCell']) (fun w3 B k3 z3 => ?_)
  have B : Blk w3 b 29 (encM m) := B
  have e2 := h2.at_
  have x3 : Ext w w3 := (x1.trans h2.ext).then k3 fun b hb _ e => by have := x1.size; omega
  refine cN (fun g => ?_) (fun g => ?_)
  · exact ret2 (.slice none 0 0) (iv e) rfl rfl (.inl ⟨g, rfl, x3⟩)
  have he : tErr E l = 0 := by rw [← hee]; exact g
  obtain ⟨hlen, hcl, -⟩ := tErr_no he
  have hvm := (hm.vm he).b
  refine len ?_
  refine loop_rule (fun s : Nat × Option Addr × Nat => [(20, iv (s.1 : Int)), (4, .slice s.2.1 s.1 s.2.2)]) (fun s u => s.1 ≤ n ∧ OwnF w3 u s.2.1 s.1 s.2.2 3 1 ((awL m (l.take s.1)).map fun k => .int .i64 k)) (fun s _ => n - s.1) (0, none, 0) ⟨rfl, rfl, trivial⟩ ⟨by omega, .nil (.refl _ _)⟩ rfl ?_
  rintro G ⟨k, C, cb⟩ u ⟨hk, own⟩
  refine cD (fun hlt => ?_) (fun hge => ?_)
  · have hlt : k < n := by omega
    obtain ⟨b, o, cs, a, rfl, ha, -, -, hc, rfl, hi⟩ := (hl.ext (x3.trans own.ext)).at_ hlt
    have hac := hcl a (List.mem_of_getElem? ha)
    refine idx k rfl hlt ?_
    refine ld (iv a) (hc 0 _ rfl) ?_
    refine ldA (encM m) (.blk (B.ext own.ext)) rfl ?_
    refine bld (encC (a, (k : Int))) (by kernel_rfl) ?_
    refine call_of (c_gown (m := m) (x := (a, (k : Int))) hac hvm) ?_
    rintro _ u1 ⟨rfl, y1⟩
    refine lit [iv (ownV m a k)] (fun g u2 hq => ?_)
    refine appF (own.then (y1.trans hq.ext)) (hq.src (sz := 1) rfl) (by omega) (fun A' c' u3 o3 _ _ => ?_)
    refine arI (by omega) ?_
    refine next (k + 1, A', c') ⟨by rw [Int.natCast_add]; rfl, rfl, trivial⟩ ⟨by omega, ?_⟩ (by simp only; omega)
    rw [awL_snoc ha, List.map_append]; exact o3
  · have hkn : k = n := by omega
    subst hkn
    rw [List.take_of_length_le (by omega)] at own
    exact ret2 (.slice C k cb) (iv 0) rfl rfl (.inr ⟨g, m, C, k, cb, hm, rfl, own.base x3, by omega⟩)
end
end Go.Proofs.Ytclmnhijjhnggaa

/- Layer 40: Pair; what the laws use of their own; the awards of a mark. -/
namespace Go.Proofs.Ytclmnhijjhnggaa
open Go Go.RowKit

theorem clA_b {l : List Int} (h : ∀ c ∈ l, 0 ≤ c ∧ c ≤ 1073741824) {i : Nat} (hi : i < l.length) : 0 ≤ clA l i ∧ clA l i ≤ 1073741824 := by
  refine h _ ?_
  unfold clA
  rw [List.getD_eq_getElem?_getD, List.getElem?_eq_getElem hi]
  exact List.getElem_mem _
theorem clA_at {l : List Int} {i : Nat} {c : Int} (h : l[i]? = some c) : clA l i = c := by unfold clA; rw [List.getD_eq_getElem?_getD, h]; rfl
theorem MarkOf.awd {E : Int} {l : List Int} {m : Mk} (h : MarkOf E l m) (he : tErr E l = 0) : Awd l E (fun i => ownV m (clA l i) i) := by
  obtain ⟨hlen, hcl, -⟩ := tErr_no he
  unfold MarkOf at h
  by_cases hE : E = 0
  · rw [if_neg fun k => k.2 hE] at h
    subst h
    have z : ∀ c i, ownV Mk.none c i = 0 := fun c i => by unfold ownV; rw [if_pos rfl]
    refine ⟨fun i hi => ?_, ?_, fun i k hi hk h1 => ?_⟩
    · have := clA_b hcl hi
      rw [z]; omega
    · rw [sumN_congr (g := fun _ => 0) fun i _ => z _ _, sumN_zero, hE]
    · rw [z] at h1; omega
  · rw [if_pos ⟨he, hE⟩] at h
    exact h.1.awd (fun i hi => (clA_b hcl hi).1) h.2
theorem MarkOf.uniq {E : Int} {l : List Int} {m m' : Mk} (h : MarkOf E l m) (k : MarkOf E l m') : m = m' := by
  unfold MarkOf at h k
  by_cases hh : tErr E l = 0 ∧ E ≠ 0
  · rw [if_pos hh] at h k
    obtain ⟨hlen, hcl, -⟩ := tErr_no hh.1
    exact h.1.uniq k.1 (fun i hi => (clA_b hcl hi).1) (by rw [h.2, k.2])
  · rw [if_neg hh] at h k; rw [h, k]
theorem awL_len {m : Mk} {l : List Int} : (awL m l).length = l.length := by unfold awL; rw [List.length_map, List.length_range]
theorem awL_at {m : Mk} {l : List Int} {i : Nat} (h : i < l.length) : (awL m l)[i]? = some (ownV m (clA l i) i) := by
  unfold awL
  rw [List.getElem?_map, List.getElem?_range h]; rfl
theorem own_small {m : Mk} {l : List Int} {E : Int} (h : Awd l E (fun i => ownV m (clA l i) i)) (hcl : ∀ c ∈ l, 0 ≤ c ∧ c ≤ 1073741824) {i : Nat} (hi : i < l.length) : 0 ≤ ownV m (clA l i) i ∧ ownV m (clA l i) i ≤ 1073741824 := by
  have h1 := h.b i hi
  have h1 : 0 ≤ ownV m (clA l i) i ∧ ownV m (clA l i) i ≤ clA l i := h1
  have h2 := clA_b hcl hi
  omega
theorem awL_small {m : Mk} {l : List Int} {E : Int} (h : Awd l E (fun i => ownV m (clA l i) i)) (hcl : ∀ c ∈ l, 0 ≤ c ∧ c ≤ 1073741824) : ∀ x ∈ awL m l, I64 x := fun x hx => by
  unfold awL at hx
  obtain ⟨i, hi, rfl⟩ := List.mem_map.1 hx
  have := own_small h hcl (List.mem_range.1 hi)
  unfold I64; omega
/-- What Pair says. -/
def pairV (E c d : Int) : Int × Int × Int :=
  if 0 ≤ c ∧ c ≤ 1073741824 ∧ 0 ≤ d ∧ d ≤ 1073741824 ∧ 0 ≤ E ∧ E ≤ c + d then
    (max 0 (E - d) + (E - max 0 (E - d) - max 0 (E - c)) / 2, max 0 (E - d) + (E - max 0 (E - d) - max 0 (E - c)) - (E - max 0 (E - d) - max 0 (E - c)) / 2, 0)
  else (0, 0, 400)
section
variable {D : Nat → Prop} {w : World}
theorem c_gPair {E c d : Int} : CallZ Try.prog 19 #[iv E, iv c, iv d] w (fun v w' => v = .tuple #[.agg #[iv (pairV E c d).1, iv (pairV E c d).2.1], iv (pairV E c d).2.2] ∧ Ext w w') := by
  refine fn_rule (args := [iv E, iv c, iv d]) Try.func19 (by kernel_rfl) ?_
  refine alloc (fun b w1 h1 => ?_)
  have B : Blk w1 b 37 [iv 0, iv 0] := h1.blk
  have e1 := h1.at_
  have bad : ¬ (0 ≤ c ∧ c ≤ 1073741824 ∧ 0 ≤ d ∧ d ≤ 1073741824 ∧ 0 ≤ E ∧ E ≤ c + d) → pairV E c d = (0, 0, 400) := fun h => by unfold pairV; rw [if_neg h]
  refine cD (fun g1 => ?_) (fun g1 => ?_)
  · have e := bad (by omega)
    rw [e]
    refine ldA [iv 0, iv 0] (.blk B) rfl ?_
    refine stA (vs := [iv 0, iv 0]) B rfl (Nat.le_of_ble_eq_true rfl) (by simp [Value.oneCell']) (fun w2 B2 k2 z2 => ?_)
    have B2 : Blk w2 b 37 [iv 0, iv 0] := B2
    refine ret ?_
    refine resL _ (holds_agg (CellsAt.blk B2) rfl) ?_
    exact ⟨rfl, h1.ext.then k2 fun b hb _ e => by omega⟩
  refine cD (fun g2 => ?_) (fun g2 => ?_)
  · have e := bad (by omega)
    rw [e]
    refine ldA [iv 0, iv 0] (.blk B) rfl ?_
    refine stA (vs := [iv 0, iv 0]) B rfl (Nat.le_of_ble_eq_true rfl) (by simp [Value.oneCell']) (fun w2 B2 k2 z2 => ?_)
    have B2 : Blk w2 b 37 [iv 0, iv 0] := B2
    refine ret ?_
    refine resL _ (holds_agg (CellsAt.blk B2) rfl) ?_
    exact ⟨rfl, h1.ext.then k2 fun b hb _ e => by omega⟩
  refine cD (fun g3 => ?_) (fun g3 => ?_)
  · have e := bad (by omega)
    rw [e]
    refine ldA [iv 0, iv 0] (.blk B) rfl ?_
    refine stA (vs := [iv 0, iv 0]) B rfl (Nat.le_of_ble_eq_true rfl) (by simp [Value.oneCell']) (fun w2 B2 k2 z2 => ?_)
    have B2 : Blk w2 b 37 [iv 0, iv 0] := B2
    refine ret ?_
    refine resL _ (holds_agg (CellsAt.blk B2) rfl) ?_
    exact ⟨rfl, h1.ext.then k2 fun b hb _ e => by omega⟩
  refine cD (fun g4 => ?_) (fun g4 => ?_)
  · have e := bad (by omega)
    rw [e]
    refine ldA [iv 0, iv 0] (.blk B) rfl ?_
    refine stA (vs := [iv 0, iv 0]) B rfl (Nat.le_of_ble_eq_true rfl) (by simp [Value.oneCell']) (fun w2 B2 k2 z2 => ?_)
    have B2 : Blk w2 b 37 [iv 0, iv 0] := B2
    refine ret ?_
    refine resL _ (holds_agg (CellsAt.blk B2) rfl) ?_
    exact ⟨rfl, h1.ext.then k2 fun b hb _ e => by omega⟩
  refine cD (fun g5 => ?_) (fun g5 => ?_)
  · have e := bad (by omega)
    rw [e]
    refine ldA [iv 0, iv 0] (.blk B) rfl ?_
    refine stA (vs := [iv 0, iv 0]) B rfl (Nat.le_of_ble_eq_true rfl) (by simp [Value.oneCell']) (fun w2 B2 k2 z2 => ?_)
    have B2 : Blk w2 b 37 [iv 0, iv 0] := B2
    refine ret ?_
    refine resL _ (holds_agg (CellsAt.blk B2) rfl) ?_
    exact ⟨rfl, h1.ext.then k2 fun b hb _ e => by omega⟩
  refine arI (by omega) ?_
  refine cD (fun g6 => ?_) (fun g6 => ?_)
  · have e := bad (by omega)
    rw [e]
    refine ldA [iv 0, iv 0] (.blk B) rfl ?_
    refine stA (vs := [iv 0, iv 0]) B rfl (Nat.le_of_ble_eq_true rfl) (by simp [Value.oneCell']) (fun w2 B2 k2 z2 => ?_)
    have B2 : Blk w2 b 37 [iv 0, iv 0] := B2
    refine ret ?_
    refine resL _ (holds_agg (CellsAt.blk B2) rfl) ?_
    exact ⟨rfl, h1.ext.then k2 fun b hb _ e => by omega⟩
  have e : pairV E c d = (max 0 (E - d) + (E - max 0 (E - d) - max 0 (E - c)) / 2, max 0 (E - d) + (E - max 0 (E - d) - max 0 (E - c)) - (E - max 0 (E - d) - max 0 (E - c)) / 2, 0) := by unfold pairV; rw [if_pos (by omega)]
  rw [e]
  refine arI (by omega) ?_
  refine arI (by omega) ?_
  refine arI (by omega) ?_
  refine arI (by omega) ?_
  refine quoI (by omega) (by omega) (by omega) ?_
  refine arI (by omega) ?_
  refine arI (by omega) ?_
  refine quoI (by omega) (by omega) (by omega) ?_
  refine arI (by omega) ?_
  refine bld [iv (max 0 (E - d) + (E - max 0 (E - d) - max 0 (E - c)) / 2), iv (max 0 (E - d) + (E - max 0 (E - d) - max 0 (E - c)) - (E - max 0 (E - d) - max 0 (E - c)) / 2)] (by kernel_rfl) ?_
  refine stA (vs := [iv (max 0 (E - d) + (E - max 0 (E - d) - max 0 (E - c)) / 2), iv (max 0 (E - d) + (E - max 0 (E - d) - max 0 (E - c)) - (E - max 0 (E - d) - max 0 (E - c)) / 2)]) B rfl (Nat.le_of_ble_eq_true rfl) (by simp [Value.oneCell']) (fun w2 B2 k2 z2 => ?_)
  have B2 : Blk w2 b 37 [iv (max 0 (E - d) + (E - max 0 (E - d) - max 0 (E - c)) / 2), iv (max 0 (E - d) + (E - max 0 (E - d) - max 0 (E - c)) - (E - max 0 (E - d) - max 0 (E - c)) / 2)] := B2
  refine ret ?_
  refine resL _ (holds_agg (CellsAt.blk B2) rfl) ?_
  exact ⟨rfl, h1.ext.then k2 fun b hb _ e => by omega⟩
abbrev OkL (l : List Int) : Prop := ∀ c ∈ l, 0 ≤ c ∧ c ≤ 1073741824
theorem c_gestate {l : List Int} {sh : Int} {A : Option Addr} {n c : Nat} (hl : SlR tInt D w A n l) (hsh : 0 ≤ sh ∧ sh ≤ 65535) : CallZ Try.prog 43 #[.slice A n c, .int .u16 sh] w (fun v w' => w' = w ∧ ∃ E ok, v = .tuple #[iv E, .bool ok] ∧
    (ok = true → l.length ≤ 60 ∧ OkL l ∧ 0 ≤ E ∧ E ≤ isum l) ∧ (l.length ≤ 60 → OkL l → ok = true)) := by
  have l1 := hl.len
  have hle := hl.le
  refine fn_rule (args := [.slice A n c, .int .u16 sh]) Try.func43 (by kernel_rfl) ?_
  refine len ?_
  refine loop_rule (fun s : Nat × Int => [(11, iv (s.1 : Int)), (6, iv s.2)]) (fun s u => s.1 ≤ n ∧ w = u ∧ (∀ c ∈ l.take s.1, 0 ≤ c ∧ c ≤ 1073741824) ∧ (n ≤ 60 → s.2 = isum (l.take s.1))) (fun s _ => n - s.1) (0, 0) ⟨rfl, rfl, trivial⟩ ⟨by omega, rfl, fun c hc => by simp at hc, fun _ => rfl⟩ rfl ?_
  rintro G ⟨k, S⟩ u ⟨hk, rfl, hall, hS⟩
  have hk : k ≤ n := hk
  have hS : n ≤ 60 → S = isum (l.take k) := hS
  have hsb := isum_b hall
  rw [List.length_take] at hsb
  simp only at hsb hall ⊢
  refine cD (fun hlt => ?_) (fun hge => ?_)
  · have hlt : k < n := by omega
    obtain ⟨b, o, cs, a, rfl, ha, -, -, hc, rfl, hi⟩ := hl.at_ hlt
    have htk : l.take (k + 1) = l.take k ++ [a] := by rw [List.take_add_one, ha]; rfl
    refine idx k rfl hlt ?_
    refine ld (iv a) (hc 0 _ rfl) ?_
    have no : ¬ (0 ≤ a ∧ a ≤ 1073741824) → ¬ OkL l := fun h k => h (k a (List.mem_of_getElem? ha))
    refine cD (fun g1 => ?_) (fun g1 => ?_)
    · exact ret2 (iv 0) (.bool false) rfl rfl ⟨rfl, 0, false, rfl, fun h => (by cases h), fun _ h => absurd h (no (by omega))⟩
    refine cD (fun g2 => ?_) (fun g2 => ?_)
    · exact ret2 (iv 0) (.bool false) rfl rfl ⟨rfl, 0, false, rfl, fun h => (by cases h), fun _ h => absurd h (no (by omega))⟩
    refine arW ?_
    refine arI (by omega) ?_
    refine next (k + 1, IntKind.i64.wrap (S + a)) ⟨by rw [Int.natCast_add]; rfl, rfl, trivial⟩ ⟨by omega, rfl, fun c hc => ?_, fun h => ?_⟩ (by simp only; omega)
    · simp only [htk, List.mem_append, List.mem_singleton] at hc
      rcases hc with hc | rfl
      · exact hall c hc
      · omega
    · have := hS h
      simp only
      rw [htk, isum_snoc, i64_wrap_id (by omega), this]
  · have hkn : k = n := by omega
    subst hkn
    rw [List.take_of_length_le (by omega)] at hS hsb hall
    refine convI (by omega) ?_
    refine shrR (by decide) ?_
    refine arW ?_
    refine len ?_
    have e2 : (2 : Int) ^ (min (16 : Int).toNat IntKind.i64.bits) = 65536 := by decide
    rw [e2]
    obtain ⟨E, hE⟩ : ∃ E, E = IntKind.i64.wrap (sh * S.fdiv 65536) := ⟨_, rfl⟩
    rw [← hE]
    refine cD (fun g => ?_) (fun g => ?_)
    · refine ret2 (iv E) (.bool true) rfl rfl ⟨rfl, E, true, rfl, fun _ => ⟨by omega, hall, ?_⟩, fun _ _ => rfl⟩
      have hSS := hS (by omega)
      rw [Int.fdiv_eq_ediv_of_nonneg _ (by omega)] at hE
      obtain ⟨q, hq⟩ : ∃ q, q = S / 65536 := ⟨_, rfl⟩
      rw [← hq] at hE
      have hq0 : 0 ≤ q := by omega
      have p1 : 0 ≤ sh * q := Int.mul_nonneg hsh.1 hq0
      have p2 : sh * q ≤ 65535 * q := Int.mul_le_mul_of_nonneg_right hsh.2 hq0
      rw [i64_wrap_id (by omega)] at hE
      omega
    · exact ret2 (iv E) (.bool false) rfl rfl ⟨rfl, E, false, rfl, fun h => (by cases h), fun h => by omega⟩
theorem c_gnear {l : List Int} {sh mo : Int} {A : Option Addr} {n c : Nat} (hl : SlR tInt D w A n l) (hsh : 0 ≤ sh ∧ sh ≤ 65535) (hmo : -32768 ≤ mo ∧ mo ≤ 32767) : CallZ Try.prog 21 #[.slice A n c, .int .u16 sh, .int .i16 mo] w (fun v w' => w' = w ∧ ∃ E ok, v = .tuple #[iv E, .bool ok] ∧
    (ok = true → l.length ≤ 60 ∧ OkL l ∧ 0 ≤ E ∧ E ≤ isum l) ∧ (l.length ≤ 60 → OkL l → ok = true)) := by
  have l1 := hl.len
  have hle := hl.le
  refine fn_rule (args := [.slice A n c, .int .u16 sh, .int .i16 mo]) Try.func21 (by kernel_rfl) ?_
  refine call_of (c_gestate hl hsh) ?_
  rintro _ w1 ⟨rfl, N, ok, rfl, hok, hko⟩
  refine len ?_
  refine loop_rule (fun s : Nat × Int => [(19, iv (s.1 : Int)), (8, iv s.2)]) (fun s u => s.1 ≤ n ∧ w1 = u ∧ (ok = true → s.2 = isum (l.take s.1))) (fun s _ => n - s.1) (0, 0) ⟨rfl, rfl, trivial⟩ ⟨by omega, rfl, fun _ => rfl⟩ rfl ?_
  rintro G ⟨k, S⟩ u ⟨hk, rfl, hS⟩
  have hk : k ≤ n := hk
  have hS : ok = true → S = isum (l.take k) := hS
  simp only
  refine cD (fun hlt => ?_) (fun hge => ?_)
  · have hlt : k < n := by omega
    obtain ⟨b, o, cs, a, rfl, ha, -, -, hc, rfl, hi⟩ := hl.at_ hlt
    have htk : l.take (k + 1) = l.take k ++ [a] := by rw [List.take_add_one, ha]; rfl
    refine idx k rfl hlt ?_
    refine ld (iv a) (hc 0 _ rfl) ?_
    refine arW ?_
    refine arI (by omega) ?_
    refine next (k + 1, IntKind.i64.wrap (S + max 0 (min a 1073741824))) ⟨by rw [Int.natCast_add]; rfl, rfl, trivial⟩ ⟨by omega, rfl, fun h => ?_⟩ (by simp only; omega)
    have hs := hS h
    obtain ⟨o1, o2, -⟩ := hok h
    have ob := o2 a (List.mem_of_getElem? ha)
    have hsb := isum_b (l := l.take k) fun c hc => o2 c (List.mem_of_mem_take hc)
    rw [List.length_take] at hsb
    simp only
    rw [htk, isum_snoc, i64_wrap_id (by omega), hs]
    omega
  · have hkn : k = n := by omega
    subst hkn
    rw [List.take_of_length_le (by omega)] at hS
    refine convI (by omega) ?_
    refine arW ?_
    refine ret2 (iv (max 0 (min S (IntKind.i64.wrap (N + mo))))) (.bool ok) rfl rfl ⟨rfl, _, ok, rfl, fun h => ?_, hko⟩
    obtain ⟨o1, o2, o3, o4⟩ := hok h
    have hs := hS h
    have hsb := isum_b o2
    refine ⟨o1, o2, by omega, by omega⟩
theorem c_r40Same {xs ys : List Int} {A B : Option Addr} {n c n' c' : Nat} (hl : SlR tInt D w A n xs) (hm : SlR tInt D w B n' ys) : CallZ Try.prog 16 #[.slice A n c, .slice B n' c'] w (fun v w' => v = .bool (decide (xs = ys)) ∧ w' = w) := by
  have l1 := hl.len
  have l2 := hm.len
  have e1 := hl.le
  refine fn_rule (args := [.slice A n c, .slice B n' c']) Try.func16 (by kernel_rfl) ?_
  refine len ?_
  refine len ?_
  refine cN (fun q => ?_) (fun q => ?_)
  · exact ret1 (.bool false) rfl ⟨by rw [decide_eq_false fun h => q (by subst h; omega)], rfl⟩
  have q : n = n' := by omega
  refine loop_rule (fun k : Nat => [(5, iv (k : Int))]) (fun k u => k ≤ n ∧ w = u ∧ ∀ i, i < k → xs[i]? = ys[i]?) (fun k _ => n - k) 0 ⟨rfl, trivial⟩ ⟨by omega, rfl, fun i hi => by omega⟩ rfl ?_
  rintro G k u ⟨hk, rfl, hs⟩
  refine len ?_
  refine cD (fun hlt => ?_) (fun hge => ?_)
  · have hlt : k < n := by omega
    obtain ⟨b, o, cs, a, rfl, ha, -, -, hc, rfl, -⟩ := hl.at_ hlt
    obtain ⟨b', o', cs', a', rfl, ha', -, -, hc', rfl, -⟩ := hm.at_ (k := k) (by omega)
    refine drawX [0, 1, 2, 3, 4, 5, 6, 7, 8] [] mx (by kernel_rfl) ?_
    refine idx k rfl hlt ?_
    refine ldX (iv a) (hc 0 _ rfl) (.refl _ _) ?_
    refine idx k rfl (by omega) ?_
    refine ldX (iv a') (hc' 0 _ rfl) (.refl _ _) ?_
    refine cN (fun g => ?_) (fun g => ?_)
    · refine ret1 (.bool false) rfl ⟨?_, rfl⟩
      rw [decide_eq_false]
      rintro rfl
      rw [ha] at ha'; injection ha' with ha'; exact g ha'
    · refine arI (by omega) ?_
      refine next (k + 1) ⟨by rw [Int.natCast_add]; rfl, trivial⟩ ⟨by omega, rfl, fun i hi => ?_⟩ (by omega)
      by_cases e : i = k
      · subst e; rw [ha, ha', g]
      · exact hs i (by omega)
  · refine ret1 (.bool true) rfl ⟨?_, rfl⟩
    rw [decide_eq_true]
    apply List.ext_getElem?
    intro i
    by_cases hi : i < n
    · exact hs i (by omega)
    · rw [List.getElem?_eq_none (by omega), List.getElem?_eq_none (by omega)]
end
end Go.Proofs.Ytclmnhijjhnggaa

/- Layer 40: the laws' sane answers true. -/
namespace Go.Proofs.Ytclmnhijjhnggaa
open Go Go.RowKit
instance : EqTy Try.prog 37 := ⟨by kernel_rfl⟩

theorem m40 : MarkOf 3 [2, 4] ⟨false, 2, 4, 1⟩ := by
  unfold MarkOf
  rw [if_pos (by decide)]
  exact ⟨⟨⟨by decide, by decide, by decide⟩, ⟨by decide, by decide⟩, rfl⟩, by decide⟩
theorem m41 : MarkOf 1 [1, 1] ⟨true, 1, 1, 1⟩ := by
  unfold MarkOf
  rw [if_pos (by decide)]
  exact ⟨⟨⟨by decide, by decide, by decide⟩, ⟨by decide, by decide⟩, rfl⟩, by decide⟩
theorem v40 : VM ⟨false, 2, 4, 1⟩ := .inr ⟨⟨by decide, by decide, by decide⟩, by decide, by decide, by decide⟩
theorem own_ok {m : Mk} {i c : Int} (h : VM m) (k : 0 ≤ i ∧ i < 664 ∧ 0 ≤ c ∧ c ≤ 1073741824) : ownE m i c = 0 := by unfold ownE; rw [if_pos h, if_pos k]
theorem OwnF.is {w0 w : World} {A : Option Addr} {n c : Nat} {e : TypeId} {xs : List Int} (h : OwnF w0 w A n c e 1 (xs.map fun k => .int .i64 k)) (hx : ∀ x ∈ xs, I64 x) (hle : n ≤ 140737488355328) : SlR tInt (fun b => w0.heap.size ≤ b) w A n xs := h.ints hx hle fun _ h => h
theorem smallG {l : List Int} (h : (l.all fun x => decide (0 ≤ x) && decide (x ≤ 100)) = true) : ∀ x ∈ l, I64 x := fun x hx => by have := List.all_eq_true.1 h x hx; simp only [Bool.and_eq_true, decide_eq_true_eq] at this; unfold I64; constructor <;> omega
section
variable {w : World}
theorem c_gAward' {D : Nat → Prop} {E : Int} {l : List Int} {A : Option Addr} {n c : Nat} (hl : SlR tInt D w A n l) (he : tErr E l = 0) : CallZ Try.prog 12 #[iv E, .slice A n c] w (fun v w' => ∃ m A' n' c', MarkOf E l m ∧ v = .tuple #[.slice A' n' c', iv 0] ∧ SlR tInt (fun b => w.heap.size ≤ b) w' A' n' (awL m l) ∧ n' ≤ c' ∧ Ext w w' ∧ n' = l.length) := by
  obtain ⟨hlen, hcl, h0, hs⟩ := tErr_no he
  have hb := isum_b hcl
  unfold isum at hb
  have c1 := c_gAward (c := c) hl (show I64 E by unfold I64; omega)
  intro w0 hw
  refine (c1 w0 hw).mono ?_
  rintro e w' ⟨v, hv, hR⟩
  refine ⟨v, hv, ?_⟩
  rcases hR with ⟨h, -⟩ | ⟨-, m, A', n', c', hm, hv2, own, hn⟩
  · exact absurd he h
  · exact ⟨m, A', n', c', hm, hv2, own.is (awL_small (hm.awd he) hcl) (by omega), own.le, own.ext, hn⟩
set_option maxRecDepth 8000 in
theorem c_gsane : CallZ Try.prog 10 #[] w (fun v w' => v = .bool true ∧ Ext w w') := by
  refine fn_rule (args := []) Try.func10 (by kernel_rfl) ?_
  refine lit [iv 2, iv 4] (fun g1 w1 h1 => ?_)
  refine call_of (c_gAward' (D := fun _ => True) (E := 3) (l := [2, 4]) (SlR.of_cells rfl (by decide) trivial (.blk h1.blk) (flat_ints (smallG (by decide)))) (by decide)) ?_
  rintro _ w2 ⟨m, A1, n1, c1, hm, rfl, s1, l1, x2, hn1⟩
  obtain rfl := hm.uniq m40
  refine lit [iv 2, iv 4] (fun g3 w3 h3 => ?_)
  refine call_of (c_gThr (D := fun _ => True) (E := 3) (l := [2, 4]) (SlR.of_cells rfl (by decide) trivial (.blk h3.blk) (flat_ints (smallG (by decide)))) ⟨by decide, by decide⟩) ?_
  rintro _ w4 ⟨x4, m, rfl, hm⟩
  obtain rfl := hm.uniq m40
  refine alloc (fun b5 w5 h5 => ?_)
  refine stA (vs := [.bool false, iv 2, iv 4, iv 1]) h5.blk rfl (Nat.le_of_ble_eq_true rfl) (by simp [Value.oneCell']) (fun w6 B6 k6 z6 => ?_)
  have B6 : Blk w6 b5 29 [.bool false, iv 2, iv 4, iv 1] := B6
  have e5 := h5.at_
  have x46 : Ext w4 w6 := h5.ext.then k6 fun b hb _ e => by omega
  have x26 := (h3.ext.trans x4).trans x46
  refine call_of (c_gAward' (w := w6) (D := fun _ => True) (A := none) (n := 0) (c := 0) (E := 0) (l := []) .nil (by decide)) ?_
  rintro _ w7 ⟨m, A7, n7, c7, hm7, rfl, s7, l7, x7, hn7⟩
  obtain rfl : n7 = 0 := hn7
  refine call_of (c_gAward (w := w7) (D := fun _ => True) (A := none) (n := 0) (c := 0) (E := 1) (l := []) .nil ⟨by decide, by decide⟩) ?_
  rintro _ w8 (⟨-, rfl, x8⟩ | ⟨h, -⟩)
  rotate_left
  · exact absurd h (by decide)
  rw [show tErr 1 [] = 400 by decide]
  refine lit [iv 1, iv 1] (fun g9 w9 h9 => ?_)
  refine call_of (c_gAward' (D := fun _ => True) (E := 1) (l := [1, 1]) (SlR.of_cells rfl (by decide) trivial (.blk h9.blk) (flat_ints (smallG (by decide)))) (by decide)) ?_
  rintro _ w10 ⟨m, A10, n10, c10, hm10, rfl, s10, l10, x10, hn10⟩
  obtain rfl := hm10.uniq m41
  refine call_of (c_gPair (w := w10) (E := 3) (c := 2) (d := 4)) ?_
  rw [show pairV 3 2 4 = (1, 1, 0) by decide]
  rintro _ w11 ⟨rfl, x11⟩
  refine alloc (fun b12 w12 h12 => ?_)
  refine stA (vs := [iv 1, iv 1]) h12.blk rfl (Nat.le_of_ble_eq_true rfl) (by simp [Value.oneCell']) (fun w13 B13 k13 z13 => ?_)
  have B13 : Blk w13 b12 37 [iv 1, iv 1] := B13
  have e12 := h12.at_
  have x1113 : Ext w11 w13 := h12.ext.then k13 fun b hb _ e => by omega
  refine call_of (c_gPair (w := w13) (E := 5) (c := 2) (d := 2)) ?_
  rw [show pairV 5 2 2 = (0, 0, 400) by decide]
  rintro _ w14 ⟨rfl, x14⟩
  refine alloc (fun b15 w15 h15 => ?_)
  refine stA (vs := [iv 0, iv 0]) h15.blk rfl (Nat.le_of_ble_eq_true rfl) (by simp [Value.oneCell']) (fun w16 B16 k16 z16 => ?_)
  have e15 := h15.at_
  have x1416 : Ext w14 w16 := h15.ext.then k16 fun b hb _ e => by omega
  refine bld [.bool false, iv 0, iv 0, iv 0] (by kernel_rfl) ?_
  refine call_of (c_gOwn (m := Mk.none) (i := 0) (c := 5)) ?_
  rw [own_ok (m := Mk.none) (.inl rfl) (by decide)]
  rintro _ w17 ⟨rfl, x17⟩
  refine bld [.bool false, iv 2, iv 4, iv 1] (by kernel_rfl) ?_
  refine alloc (fun b18 w18 h18 => ?_)
  refine stA (vs := [.bool false, iv 2, iv 4, iv 1]) h18.blk rfl (Nat.le_of_ble_eq_true rfl) (by simp [Value.oneCell']) (fun w19 B19 k19 z19 => ?_)
  have B19 : Blk w19 b18 29 [.bool false, iv 2, iv 4, iv 1] := B19
  have e18 := h18.at_
  have x1719 : Ext w17 w19 := h18.ext.then k19 fun b hb _ e => by omega
  refine ldA [.bool false, iv 2, iv 4, iv 1] (.blk B19) rfl ?_
  refine call_of (c_gOwn (m := ⟨false, 2, 4, 1⟩) (i := 0) (c := 100)) ?_
  rw [own_ok v40 (by decide), show (if (0 : Int) = 0 then ownV ⟨false, 2, 4, 1⟩ 100 0 else 0) = 2 by decide]
  rintro _ w20 ⟨rfl, x20⟩
  refine ldA [.bool false, iv 2, iv 4, iv 1] (.blk (B19.ext x20)) rfl ?_
  refine call_of (c_gOwn (m := ⟨false, 2, 4, 1⟩) (i := 5) (c := 100)) ?_
  rw [own_ok v40 (by decide), show (if (0 : Int) = 0 then ownV ⟨false, 2, 4, 1⟩ 100 5 else 0) = 2 by decide]
  rintro _ w21 ⟨rfl, x21⟩
  refine ldA [.bool false, iv 2, iv 4, iv 1] (.blk ((B19.ext x20).ext x21)) rfl ?_
  refine call_of (c_gOwn (m := ⟨false, 2, 4, 1⟩) (i := 5) (c := 4)) ?_
  rw [own_ok v40 (by decide), show (if (0 : Int) = 0 then ownV ⟨false, 2, 4, 1⟩ 4 5 else 0) = 1 by decide]
  rintro _ w22 ⟨rfl, x22⟩
  have X1922 := (x20.trans x21).trans x22
  have X1322 := (x14.trans x1416).trans (x17.trans (x1719.trans X1922))
  have X1022 := (x11.trans x1113).trans X1322
  have X622 := (x7.trans x8).trans ((h9.ext.trans x10).trans X1022)
  have X := ((h1.ext.trans x2).trans x26).trans X622
  have s1 := (s1.ext (x26.trans X622)).more (D' := fun _ => True) (by decide) fun _ _ _ => trivial
  have s10 := (s10.ext X1022).more (D' := fun _ => True) (by decide) fun _ _ _ => trivial
  have B6 := B6.ext X622
  have B13 := B13.ext X1322
  have B19 := B19.ext X1922
  clear x22 x21 x20 x1719 x17 x1416 x14 x1113 x11 x10 x8 x7 x26 x46 x4 x2 h1 h3 h5 h9 h12 h15 h18 X1922 X1322 X1022 X622 k6 k13 k16 k19
  iterate 11 refine cN (fun h => absurd rfl h) (fun _ => ?_)
  refine lit [iv 1, iv 2] (fun g23 w23 h23 => ?_)
  refine callB (c_r40Same (s1.ext h23.ext) (SlR.of_cells (D := fun _ => True) (xs := [1, 2]) rfl (by decide) trivial (.blk h23.blk) (flat_ints (smallG (by decide))))) (fun _ => ?_) (fun h => ?_)
  rotate_left
  · exact absurd (of_decide_eq_false h) (by decide)
  refine ldA [.bool false, iv 2, iv 4, iv 1] (.blk (B6.ext h23.ext)) rfl ?_
  refine ldA [.bool false, iv 2, iv 4, iv 1] (.blk (B19.ext h23.ext)) rfl ?_
  refine eqS true (by kernel_rfl) (fun _ => ?_) (fun h => by cases h)
  refine len ?_
  refine cE (fun _ => ?_) (fun h => absurd rfl h)
  refine lit [iv 0, iv 1] (fun g24 w24 h24 => ?_)
  refine callB (c_r40Same ((s10.ext h23.ext).ext h24.ext) (SlR.of_cells (D := fun _ => True) (xs := [0, 1]) rfl (by decide) trivial (.blk h24.blk) (flat_ints (smallG (by decide))))) (fun _ => ?_) (fun h => ?_)
  rotate_left
  · exact absurd (of_decide_eq_false h) (by decide)
  refine ldA [iv 1, iv 1] (.blk ((B13.ext h23.ext).ext h24.ext)) rfl ?_
  refine bld [iv 1, iv 1] (by kernel_rfl) ?_
  refine eqS true (by kernel_rfl) (fun _ => ?_) (fun h => by cases h)
  iterate 4 refine cE (fun _ => ?_) (fun h => absurd rfl h)
  exact ret1 (.bool true) rfl ⟨rfl, (X.trans h23.ext).trans h24.ext⟩
end
end Go.Proofs.Ytclmnhijjhnggaa

/- The laws GarmentPublic, GarmentOrder, GarmentDual. -/
namespace Go.Proofs.Ytclmnhijjhnggaa
open Go Go.RowKit

theorem tErr_ok {E : Int} {l : List Int} (h : l.length ≤ 60 ∧ OkL l ∧ 0 ≤ E ∧ E ≤ isum l) : tErr E l = 0 := by
  unfold tErr
  rw [if_neg (by omega), show l.all okC = true from List.all_eq_true.2 (fun c hc => decide_eq_true (h.2.1 c hc)), Bool.true_and, if_pos (decide_eq_true ⟨h.2.2.1, h.2.2.2⟩)]
theorem awL_b {m : Mk} {l : List Int} {E : Int} (h : Awd l E (fun i => ownV m (clA l i) i)) (hcl : OkL l) : OkL (awL m l) := fun x hx => by
  unfold awL at hx
  obtain ⟨i, hi, rfl⟩ := List.mem_map.1 hx
  exact own_small h hcl (List.mem_range.1 hi)
theorem awL_sum {m : Mk} {l : List Int} {E : Int} (h : Awd l E (fun i => ownV m (clA l i) i)) : isum (awL m l) = E := by
  rw [← h.s, sumN_map]; rfl
theorem clA_sum {l : List Int} : sumN (clA l) l.length = isum l := by
  have := clm_sum (l := l) (f := fun c _ => c)
  rw [clm_fst] at this
  exact this
/-- What a slice of awards has at an index. -/
theorem awL_get {m : Mk} {l : List Int} {k : Nat} {a : Int} (h : (awL m l)[k]? = some a) (hk : k < l.length) : a = ownV m (clA l k) k := by
  rw [awL_at hk] at h; injection h with h; exact h.symm
section
variable {D : Nat → Prop} {w : World} {l : List Int} {sh mo : Int} {A : Option Addr} {n c : Nat}
set_option maxRecDepth 4000 in
theorem c_GarmentPublic (hl : SlR tInt D w A n l) (hsh : 0 ≤ sh ∧ sh ≤ 65535) (hmo : -32768 ≤ mo ∧ mo ≤ 32767) : CallZ Try.prog 5 #[.slice A n c, .int .u16 sh, .int .i16 mo] w (fun v w' => v = .bool true ∧ Ext w w') := by
  have hle := hl.le
  refine fn_rule (args := [.slice A n c, .int .u16 sh, .int .i16 mo]) Try.func5 (by kernel_rfl) ?_
  refine call_of (c_gsane) ?_
  rintro _ w1 ⟨rfl, x1⟩
  refine call_of (c_gnear (hl.ext x1) hsh hmo) ?_
  rintro _ w2 ⟨rfl, E, ok, rfl, hok, -⟩
  cases ok with
  | false => exact ret1 (.bool true) rfl ⟨rfl, x1⟩
  | true =>
  have ho := hok rfl
  have he := tErr_ok ho
  obtain ⟨o1, o2, o3, o4⟩ := ho
  have lb := isum_b o2
  refine call_of (c_gAward' (hl.ext x1) he) ?_
  rintro _ w3 ⟨m, A', n', c', hm, rfl, sa, -, x3, hn'⟩
  have ct := c_gThr (c := c) (hl.ext (x1.trans x3)) (E := E) ⟨by omega, by omega⟩
  rw [he] at ct
  refine call_of ct ?_
  rintro _ w4 ⟨x4, m', rfl, hm'⟩
  obtain rfl := hm.uniq hm'
  clear ct
  refine alloc (fun b w5 h5 => ?_)
  refine stA (vs := encM m) h5.blk rfl (Nat.le_of_ble_eq_true rfl) (by simp [Value.oneCell']) (fun w6 B k6 z6 => ?_)
  have B : Blk w6 b 29 (encM m) := B
  have e5 := h5.at_
  have x46 : Ext w4 w6 := h5.ext.then k6 fun b hb _ e => by omega
  have x36 := x4.trans x46
  have X := (x1.trans x3).trans x36
  have aw := hm.awd he
  have ab := awL_b aw o2
  have sa := sa.ext x36
  have sl := hl.ext X
  have l1 := hl.len
  have hvm := hm.vm he
  clear h5 k6 x4 x46 x36 x3 x1
  refine cN (fun h => absurd rfl h) (fun _ => ?_)
  refine cN (fun h => absurd rfl h) (fun _ => ?_)
  refine len ?_
  refine len ?_
  refine cN (fun h => by omega) (fun _ => ?_)
  refine len ?_
  refine loop_rule (fun k : Nat => [(56, iv (k : Int)), (13, iv (isum ((awL m l).take k)))]) (fun k u => k ≤ n' ∧ Ext w6 u) (fun k _ => n' - k) 0 ⟨rfl, rfl, trivial⟩ ⟨by omega, .refl _ _⟩ rfl ?_
  rintro G k u ⟨hk, xu⟩
  have hsb := isum_b (l := (awL m l).take k) fun c hc => ab c (List.mem_of_mem_take hc)
  rw [List.length_take] at hsb
  refine cD (fun hlt => ?_) (fun hge => ?_)
  · have hlt : k < n' := by omega
    obtain ⟨ba, oa, csa, a, rfl, ha, -, -, hca, rfl, -⟩ := (sa.ext xu).at_ hlt
    obtain ⟨bl, ol, csl, q, rfl, hq, -, -, hcq, rfl, -⟩ := (sl.ext xu).at_ (k := k) (by omega)
    have eq := clA_at hq
    have ea := awL_get ha (by omega)
    rw [eq] at ea
    have hb := aw.b k (by omega)
    have hb : 0 ≤ ownV m (clA l k) k ∧ ownV m (clA l k) k ≤ clA l k := hb
    rw [eq, ← ea] at hb
    have hqb := o2 q (List.mem_of_getElem? hq)
    have htk : (awL m l).take (k + 1) = (awL m l).take k ++ [a] := by rw [List.take_add_one, ha]; rfl
    refine idx k rfl hlt ?_
    refine ld (iv a) (hca 0 _ rfl) ?_
    refine drawX [0, 1, 2, 3, 4, 5, 6, 7, 8, 9, 10, 11] [6] mx (by kernel_rfl) ?_
    refine ldAX (encM m) (.blk (B.ext xu)) rfl (.refl _ _) ?_
    refine idx k rfl (by omega) ?_
    refine ldX (iv q) (hcq 0 _ rfl) (.refl _ _) ?_
    have co := fun w => c_gOwn (w := w) (m := m) (i := (k : Int)) (c := q)
    rw [own_ok hvm (by omega), if_pos rfl, ← ea] at co
    refine call_of (co _) ?_
    clear co
    rintro _ u2 ⟨rfl, y2⟩
    refine strS y2 ?_
    refine cN (fun h => absurd rfl h) (fun _ => ?_)
    refine cN (fun h => absurd rfl h) (fun _ => ?_)
    refine cD (fun h => by omega) (fun _ => ?_)
    refine idx k rfl (by omega) ?_
    refine ld (iv q) ((hcq.kept y2 trivial) 0 _ rfl) ?_
    refine cD (fun h => by omega) (fun _ => ?_)
    refine arI (by omega) ?_
    refine arI (by omega) ?_
    exact next (k + 1) ⟨by rw [Int.natCast_add]; rfl, by rw [htk, isum_snoc]; rfl, trivial⟩ ⟨by omega, xu.trans y2⟩ (by omega)
  · rw [List.take_of_length_le (by rw [awL_len]; omega)]
    rw [awL_sum aw]
    refine cE (fun _ => ?_) (fun h => absurd rfl h)
    exact ret1 (.bool true) rfl ⟨rfl, X.trans xu⟩
set_option maxRecDepth 4000 in
theorem c_GarmentOrder {fu : Int} (hl : SlR tInt D w A n l) (hsh : 0 ≤ sh ∧ sh ≤ 65535) (hmo : -32768 ≤ mo ∧ mo ≤ 32767) (hfu : 0 ≤ fu ∧ fu ≤ 65535) : CallZ Try.prog 8 #[.slice A n c, .int .u16 sh, .int .i16 mo, .int .u16 fu] w (fun v w' => v = .bool true ∧ Ext w w') := by
  have hle := hl.le
  have l1 := hl.len
  refine fn_rule (args := [.slice A n c, .int .u16 sh, .int .i16 mo, .int .u16 fu]) Try.func8 (by kernel_rfl) ?_
  refine call_of (c_gsane) ?_
  rintro _ w1 ⟨rfl, x1⟩
  refine call_of (c_gnear (hl.ext x1) hsh hmo) ?_
  rintro _ w2 ⟨rfl, E, ok, rfl, hok, -⟩
  cases ok with
  | false => exact ret1 (.bool true) rfl ⟨rfl, x1⟩
  | true =>
  have ho := hok rfl
  have he := tErr_ok ho
  obtain ⟨o1, o2, o3, o4⟩ := ho
  have lb := isum_b o2
  have sl := hl.ext x1
  refine len ?_
  refine loop_rule (fun k : Nat => [(35, iv (k : Int)), (11, iv (isum (l.take k)))]) (fun k u => k ≤ n ∧ w2 = u) (fun k _ => n - k) 0 ⟨rfl, rfl, trivial⟩ ⟨by omega, rfl⟩ rfl ?_
  rintro G k u ⟨hk, rfl⟩
  refine cD (fun hlt => ?_) (fun hge => ?_)
  · have hlt : k < n := by omega
    obtain ⟨bl, ol, csl, q, rfl, hq, -, -, hcq, rfl, -⟩ := sl.at_ hlt
    have hqb := o2 q (List.mem_of_getElem? hq)
    have htk : l.take (k + 1) = l.take k ++ [q] := by rw [List.take_add_one, hq]; rfl
    have hsb := isum_b (l := l.take k) fun c hc => o2 c (List.mem_of_mem_take hc)
    rw [List.length_take] at hsb
    refine idx k rfl hlt ?_
    refine ld (iv q) (hcq 0 _ rfl) ?_
    refine arI (by omega) ?_
    refine arI (by omega) ?_
    exact next (k + 1) ⟨by rw [Int.natCast_add]; rfl, by rw [htk, isum_snoc]; rfl, trivial⟩ ⟨by omega, rfl⟩ (by omega)
  rw [List.take_of_length_le (by omega)]
  refine call_of (c_gAward' sl he) ?_
  rintro _ w3 ⟨m, A', n', c', hm, rfl, sa, -, x3, hn'⟩
  refine convI (by omega) ?_
  refine arI (by omega) ?_
  have he2 : tErr (min (isum l) (E + fu)) l = 0 := tErr_ok ⟨o1, o2, by omega, by omega⟩
  refine call_of (c_gAward' (sl.ext x3) he2) ?_
  rintro _ w4 ⟨m2, A2, n2, c2, hm2, rfl, sb, -, x4, hn2⟩
  have X := (x1.trans x3).trans x4
  have sa := sa.ext x4
  have sl := (sl.ext x3).ext x4
  have aw := hm.awd he
  have bw := hm2.awd he2
  have mono := aw.mono bw (by omega)
  have ord := fun i k (hi : i < l.length) (hk : k < l.length) (h : clA l k < clA l i) => aw.order hi hk h
  refine cN (fun h => absurd rfl h) (fun _ => ?_)
  refine cN (fun h => absurd rfl h) (fun _ => ?_)
  refine len ?_
  refine len ?_
  refine cN (fun h => by omega) (fun _ => ?_)
  refine len ?_
  refine len ?_
  refine cN (fun h => by omega) (fun _ => ?_)
  refine len ?_
  refine loop_rule (fun i : Nat => [(82, iv (i : Int))]) (fun i u => i ≤ n ∧ w4 = u) (fun i _ => n - i) 0 ⟨rfl, trivial⟩ ⟨by omega, rfl⟩ rfl ?_
  rintro G2 i u ⟨hi, rfl⟩
  refine cD (fun hlt => ?_) (fun hge => ?_)
  · have hlt : i < n := by omega
    obtain ⟨bl, ol, csl, q, rfl, hq, -, -, hcq, rfl, -⟩ := sl.at_ hlt
    obtain ⟨ba, oa, csa, a, rfl, ha, -, -, hca, rfl, -⟩ := sa.at_ (k := i) (by omega)
    obtain ⟨bb, ob, csb, b, rfl, hb, -, -, hcb, rfl, -⟩ := sb.at_ (k := i) (by omega)
    have eq := clA_at hq
    have ea := awL_get ha (by omega)
    have eb := awL_get hb (by omega)
    have hm1 := mono i (by omega)
    have hb1 : 0 ≤ ownV m (clA l i) i ∧ ownV m (clA l i) i ≤ clA l i := aw.b i (by omega)
    have hqb := o2 q (List.mem_of_getElem? hq)
    rw [← ea, ← eb] at hm1
    rw [← ea, eq] at hb1
    refine idx i rfl hlt ?_
    refine ld (iv q) (hcq 0 _ rfl) ?_
    refine drawX [0, 1, 2, 3, 4, 5, 6, 7, 8] [] mx (by kernel_rfl) ?_
    refine idx i rfl (by omega) ?_
    refine ldX (iv b) (hcb 0 _ rfl) (.refl _ _) ?_
    refine idx i rfl (by omega) ?_
    refine ldX (iv a) (hca 0 _ rfl) (.refl _ _) ?_
    refine cD (fun h => by omega) (fun _ => ?_)
    refine len ?_
    refine loop_rule (fun k : Nat => [(98, iv (k : Int))]) (fun k u => k ≤ n ∧ w4 = u) (fun k _ => n - k) 0 ⟨rfl, trivial⟩ ⟨by omega, rfl⟩ rfl ?_
    rintro G3 k u ⟨hk, rfl⟩
    refine cD (fun hlt2 => ?_) (fun hge2 => ?_)
    · have hlt2 : k < n := by omega
      obtain ⟨bl', ol', csl', q', hA1, hq', -, -, hcq', rfl, -⟩ := sl.at_ hlt2
      obtain ⟨ba', oa', csa', a', hA2, ha', -, -, hca', rfl, -⟩ := sa.at_ (k := k) (by omega)
      injection hA1 with hA1
      injection hA1 with hA1 hA1'
      subst hA1; subst hA1'
      injection hA2 with hA2
      injection hA2 with hA2 hA2'
      subst hA2; subst hA2'
      have eq' := clA_at hq'
      have ea' := awL_get ha' (by omega)
      have hb2 : 0 ≤ ownV m (clA l k) k ∧ ownV m (clA l k) k ≤ clA l k := aw.b k (by omega)
      have hqb' := o2 q' (List.mem_of_getElem? hq')
      have hor := ord i k (by omega) (by omega)
      rw [← ea, ← ea', eq, eq'] at hor
      rw [← ea', eq'] at hb2
      refine idx k rfl hlt2 ?_
      refine ld (iv q') (hcq' 0 _ rfl) ?_
      refine drawX [0, 1, 2, 3, 4, 5, 6, 7, 8, 9, 10, 11, 12, 13, 14, 15, 16, 17, 18, 19, 20, 21, 22, 23, 24, 25, 26, 27, 28] [] mx (by kernel_rfl) ?_
      refine cD (fun g => ?_) (fun g => ?_)
      · refine idx i rfl (by omega) ?_
        refine ldX (iv a) (hca 0 _ rfl) (.refl _ _) ?_
        refine idx k rfl (by omega) ?_
        refine ldX (iv a') (hca' 0 _ rfl) (.refl _ _) ?_
        have hor := hor g
        refine cD (fun h => by omega) (fun _ => ?_)
        refine idx i rfl (by omega) ?_
        refine ldX (iv a) (hca 0 _ rfl) (.refl _ _) ?_
        refine arI (by omega) ?_
        refine idx k rfl (by omega) ?_
        refine ldX (iv a') (hca' 0 _ rfl) (.refl _ _) ?_
        refine arI (by omega) ?_
        refine cD (fun h => by omega) (fun _ => ?_)
        refine arI (by omega) ?_
        exact next (k + 1) ⟨by rw [Int.natCast_add]; rfl, trivial⟩ ⟨by omega, rfl⟩ (by omega)
      · refine arI (by omega) ?_
        exact next (k + 1) ⟨by rw [Int.natCast_add]; rfl, trivial⟩ ⟨by omega, rfl⟩ (by omega)
    · refine arI (by omega) ?_
      exact next (i + 1) ⟨by rw [Int.natCast_add]; rfl, trivial⟩ ⟨by omega, rfl⟩ (by omega)
  · exact ret1 (.bool true) rfl ⟨rfl, X⟩
set_option maxRecDepth 4000 in
theorem c_GarmentDual (hl : SlR tInt D w A n l) (hsh : 0 ≤ sh ∧ sh ≤ 65535) (hmo : -32768 ≤ mo ∧ mo ≤ 32767) : CallZ Try.prog 9 #[.slice A n c, .int .u16 sh, .int .i16 mo] w (fun v w' => v = .bool true ∧ Ext w w') := by
  have hle := hl.le
  have l1 := hl.len
  refine fn_rule (args := [.slice A n c, .int .u16 sh, .int .i16 mo]) Try.func9 (by kernel_rfl) ?_
  refine call_of (c_gsane) ?_
  rintro _ w1 ⟨rfl, x1⟩
  refine call_of (c_gnear (hl.ext x1) hsh hmo) ?_
  rintro _ w2 ⟨rfl, E, ok, rfl, hok, -⟩
  cases ok with
  | false => exact ret1 (.bool true) rfl ⟨rfl, x1⟩
  | true =>
  have ho := hok rfl
  have he := tErr_ok ho
  obtain ⟨o1, o2, o3, o4⟩ := ho
  have lb := isum_b o2
  have sl := hl.ext x1
  refine len ?_
  refine loop_rule (fun k : Nat => [(31, iv (k : Int)), (9, iv (isum (l.take k)))]) (fun k u => k ≤ n ∧ w2 = u ∧ ∀ i, i < k → clA l i % 2 = 0) (fun k _ => n - k) 0 ⟨rfl, rfl, trivial⟩ ⟨by omega, rfl, fun i hi => by omega⟩ rfl ?_
  rintro G k u ⟨hk, rfl, hev⟩
  refine cD (fun hlt => ?_) (fun hge => ?_)
  · have hlt : k < n := by omega
    obtain ⟨bl, ol, csl, q, rfl, hq, -, -, hcq, rfl, -⟩ := sl.at_ hlt
    have hqb := o2 q (List.mem_of_getElem? hq)
    have htk : l.take (k + 1) = l.take k ++ [q] := by rw [List.take_add_one, hq]; rfl
    have hsb := isum_b (l := l.take k) fun c hc => o2 c (List.mem_of_mem_take hc)
    rw [List.length_take] at hsb
    refine idx k rfl hlt ?_
    refine ld (iv q) (hcq 0 _ rfl) ?_
    refine remI (by omega) (by omega) ?_
    refine cN (fun _ => ?_) (fun g => ?_)
    · exact ret1 (.bool true) rfl ⟨rfl, x1⟩
    refine arI (by omega) ?_
    refine arI (by omega) ?_
    refine next (k + 1) ⟨by rw [Int.natCast_add]; rfl, by rw [htk, isum_snoc]; rfl, trivial⟩ ⟨by omega, rfl, fun i hi => ?_⟩ (by omega)
    by_cases e : i = k
    · subst e; rw [clA_at hq]; exact g
    · exact hev i (by omega)
  rw [List.take_of_length_le (by omega)]
  refine call_of (c_gAward' sl he) ?_
  rintro _ w3 ⟨m, A', n', c', hm, rfl, sa, -, x3, hn'⟩
  refine arI (by omega) ?_
  have he2 : tErr (isum l - E) l = 0 := tErr_ok ⟨o1, o2, by omega, by omega⟩
  refine call_of (c_gAward' (sl.ext x3) he2) ?_
  rintro _ w4 ⟨m2, A2, n2, c2, hm2, rfl, sb, -, x4, hn2⟩
  have X := (x1.trans x3).trans x4
  have sa := sa.ext x4
  have sl := (sl.ext x3).ext x4
  have aw := hm.awd he
  have bw := hm2.awd he2
  have du := aw.dual fun i hi => hev i (by omega)
  rw [clA_sum] at du
  have un := du.uniq bw
  refine cN (fun h => absurd rfl h) (fun _ => ?_)
  refine cN (fun h => absurd rfl h) (fun _ => ?_)
  refine len ?_
  refine len ?_
  refine cN (fun h => by omega) (fun _ => ?_)
  refine len ?_
  refine len ?_
  refine cN (fun h => by omega) (fun _ => ?_)
  refine len ?_
  refine loop_rule (fun i : Nat => [(78, iv (i : Int))]) (fun i u => i ≤ n ∧ w4 = u) (fun i _ => n - i) 0 ⟨rfl, trivial⟩ ⟨by omega, rfl⟩ rfl ?_
  rintro G2 i u ⟨hi, rfl⟩
  refine cD (fun hlt => ?_) (fun hge => ?_)
  · have hlt : i < n := by omega
    obtain ⟨bl, ol, csl, q, rfl, hq, -, -, hcq, rfl, -⟩ := sl.at_ hlt
    obtain ⟨ba, oa, csa, a, rfl, ha, -, -, hca, rfl, -⟩ := sa.at_ (k := i) (by omega)
    obtain ⟨bb, ob, csb, b, rfl, hb, -, -, hcb, rfl, -⟩ := sb.at_ (k := i) (by omega)
    have eq := clA_at hq
    have ea := awL_get ha (by omega)
    have eb := awL_get hb (by omega)
    have hu := un i (by omega)
    have hb1 : 0 ≤ ownV m (clA l i) i ∧ ownV m (clA l i) i ≤ clA l i := aw.b i (by omega)
    have hqb := o2 q (List.mem_of_getElem? hq)
    rw [← ea, ← eb, eq] at hu
    rw [← ea, eq] at hb1
    refine idx i rfl hlt ?_
    refine ld (iv q) (hcq 0 _ rfl) ?_
    refine drawX [0, 1, 2, 3, 4, 5, 6, 7, 8, 9, 10] [] mx (by kernel_rfl) ?_
    refine idx i rfl (by omega) ?_
    refine ldX (iv a) (hca 0 _ rfl) (.refl _ _) ?_
    refine idx i rfl (by omega) ?_
    refine ldX (iv b) (hcb 0 _ rfl) (.refl _ _) ?_
    refine arI (by omega) ?_
    refine cN (fun h => absurd (by omega) h) (fun _ => ?_)
    refine arI (by omega) ?_
    exact next (i + 1) ⟨by rw [Int.natCast_add]; rfl, trivial⟩ ⟨by omega, rfl⟩ (by omega)
  · exact ret1 (.bool true) rfl ⟨rfl, X⟩
end
end Go.Proofs.Ytclmnhijjhnggaa
