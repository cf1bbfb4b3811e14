/- Parts of the proof: Jn Jo Jp Jq Jt Jy K1. -/
import Derived.Test.YtcpogcdadlcdaaaM8
import Derived.Test.YtcpogcdadlcdaaaM7

/- Layer 46: Retitle, plainly; the contracts of Backward over claims. -/
namespace Go.Proofs.Ytcpogcdadlcdaaa
open Go Go.RowKit Classical

def tCm : Ty Cm := tFl 5 (fun c => encJ c) fun _ => rfl
theorem flat_cms {D : Nat → Prop} {w : World} : ∀ {s : List Cm}, FlatR tCm D w s (s.flatMap encJ)
  | [] => rfl
  | p :: s => ⟨encJ p, s.flatMap encJ, rfl, rfl, flat_cms⟩
def claimB (c : Cm) : Bool := inI c.right 0 255 && (inI c.farm 0 599 && (inI c.hour 0 4095 && (inI c.litres 1 1073741824 && inI c.rank 0 1048576)))
/-- Claims that are valid and in their order. -/
def ClaimsOk (l : List Cm) : Prop := (∀ c ∈ l, claimB c = true) ∧ l.Pairwise fun a b => ltT a.ti b.ti
theorem claimB_iff {c : Cm} : claimB c = true ↔ (0 ≤ c.right ∧ c.right ≤ 255) ∧ (0 ≤ c.farm ∧ c.farm ≤ 599) ∧ (0 ≤ c.hour ∧ c.hour ≤ 4095) ∧ (1 ≤ c.litres ∧ c.litres ≤ 1073741824) ∧ (0 ≤ c.rank ∧ c.rank ≤ 1048576) := by
  unfold claimB
  simp only [Bool.and_eq_true, inI_iff]
theorem claims_snoc {s : List Cm} {c : Cm} : ClaimsOk (s ++ [c]) ↔ ClaimsOk s ∧ claimB c = true ∧ ∀ b, s.getLast? = some b → ltT b.ti c.ti := by
  unfold ClaimsOk
  rw [List.pairwise_append]
  constructor
  · rintro ⟨h1, h2, -, h3⟩
    exact ⟨⟨fun x hx => h1 x (List.mem_append_left _ hx), h2⟩, h1 c (by simp), fun b hb => h3 b (List.mem_of_getLast? hb) c (by simp)⟩
  · rintro ⟨⟨h1, h2⟩, h3, h4⟩
    refine ⟨fun x hx => ?_, h2, List.pairwise_singleton _ _, fun a ha b hb => ?_⟩
    · rw [List.mem_append, List.mem_singleton] at hx
      rcases hx with hx | rfl
      · exact h1 x hx
      · exact h3
    · rw [List.mem_singleton] at hb
      subst hb
      rcases List.eq_nil_or_concat s with rfl | ⟨t, y, rfl⟩
      · cases ha
      rw [List.concat_eq_append] at ha h2 h4
      have hy := h4 y (by simp)
      rw [List.mem_append, List.mem_singleton] at ha
      rcases ha with ha | rfl
      · exact ltT_trans ((List.pairwise_append.1 h2).2.2 a ha y (by simp)) hy
      · exact hy
theorem ClaimsOk.take {l : List Cm} (h : ClaimsOk l) (k : Nat) : ClaimsOk (l.take k) := ⟨fun c hc => h.1 c (List.mem_of_mem_take hc), h.2.sublist (List.take_sublist k l)⟩
theorem ClaimsOk.nodup {l : List Cm} (h : ClaimsOk l) : (l.map Cm.ti).Nodup := by
  have := h.2
  rw [List.Nodup, List.pairwise_map]
  exact this.imp fun {a b} q => fun e : a.ti = b.ti => ltT_irrefl (x := b.ti) (by rw [e] at q; exact q)
/-- What of a claim is asked for. -/
def ofF (fr hr : Int) (c : Cm) : Int := if c.farm = fr ∧ c.hour = hr then c.litres else 0
def hasF (fr hr : Int) (l : List Cm) : Int := (l.map (ofF fr hr)).sum
theorem hasF_snoc {fr hr : Int} {l : List Cm} {c : Cm} : hasF fr hr (l ++ [c]) = hasF fr hr l + ofF fr hr c := by unfold hasF; simp
theorem hasF_b {fr hr : Int} : ∀ {l : List Cm}, (∀ c ∈ l, claimB c = true) → 0 ≤ hasF fr hr l ∧ hasF fr hr l ≤ 1073741824 * l.length
  | [], _ => ⟨Int.le_refl _, Int.le_refl _⟩
  | c :: l, h => by
    have ih := hasF_b (fr := fr) (hr := hr) fun x hx => h x (List.mem_cons_of_mem _ hx)
    have hc := claimB_iff.1 (h c List.mem_cons_self)
    show 0 ≤ ofF fr hr c + hasF fr hr l ∧ ofF fr hr c + hasF fr hr l ≤ _
    rw [List.length_cons]
    unfold ofF
    split <;> omega
abbrev GM := Ti → Option Int
noncomputable def iset (g : GM) (t : Ti) (n : Int) : GM := fun b => if b = t then some n else g b
noncomputable def allG (l : List Cm) : GM := l.foldl (fun g c => iset g c.ti c.litres) fun _ => none
theorem allG_snoc {l : List Cm} {c : Cm} : allG (l ++ [c]) = iset (allG l) c.ti c.litres := by unfold allG; rw [List.foldl_append]; rfl
/-- A map of titles. -/
def MapT (w : World) (g : Nat) (f : GM) : Prop := MapU kv4 w g fun t => (f t).map iv
theorem MapT.lt {w : World} {g : Nat} {f : GM} (h : MapT w g f) : g < w.heap.size := MapG.lt (MapU.g h)
theorem MapT.kept {D : Nat → Prop} {w w' : World} {g : Nat} {f : GM} (h : MapT w g f) (k : Kept D w w') (hD : D g) : MapT w' g f := MapU.kept h k hD
theorem MapT.g {w : World} {g : Nat} {f : GM} (h : MapT w g f) : MapG kv4 w g fun t => (f t).map iv := MapU.g h
theorem iset_pset {g : GM} {t : Ti} {n : Int} : (pset (fun t => (g t).map iv) t (iv n)) = fun b => ((iset g t n) b).map iv := by
  funext b
  unfold pset iset
  split <;> rfl
/-- One claim is taken. -/
noncomputable def bstep (fr to hr litres got : Int) (s : Int × GM) (c : Cm) : Int × GM :=
  if c.farm = fr ∧ c.hour = hr then
    (s.1 + min c.litres (litres - s.1), iset (iset s.2 c.ti ((s.2 c.ti).getD 0 - min c.litres (litres - s.1))) (c.hour, c.rank, c.right, to)
      (((iset s.2 c.ti ((s.2 c.ti).getD 0 - min c.litres (litres - s.1))) (c.hour, c.rank, c.right, to)).getD 0 + ((s.1 + min c.litres (litres - s.1)) * got / litres - s.1 * got / litres)))
  else s
noncomputable def backG (fr to hr litres got : Int) (l : List Cm) (i : Nat) : Int × GM := (l.drop i).reverse.foldl (bstep fr to hr litres got) (0, allG l)
theorem backG_step {fr to hr litres got : Int} {l : List Cm} {i : Nat} {c : Cm} (h : l[i]? = some c) : backG fr to hr litres got l i = bstep fr to hr litres got (backG fr to hr litres got l (i + 1)) c := by
  unfold backG
  have : l.drop i = c :: l.drop (i + 1) := by
    obtain ⟨hi, e⟩ := List.getElem?_eq_some_iff.1 h
    rw [List.drop_eq_getElem_cons hi, e]
  rw [this, List.reverse_cons, List.foldl_append]
  rfl
/-- What the numbers are, k claims later. -/
def BdG (litres : Int) (k : Nat) (s : Int × GM) : Prop := (0 ≤ s.1 ∧ s.1 ≤ litres) ∧ ∀ t n, s.2 t = some n → -(1073741824 * (2 * k + 1)) ≤ n ∧ n ≤ 1073741824 * (2 * k + 1)
theorem BdG.up {litres : Int} {k j : Nat} {s : Int × GM} (h : BdG litres k s) (hj : k ≤ j) : BdG litres j s := ⟨h.1, fun t n e => by have := h.2 t n e; omega⟩
theorem gain_b {a n got litres : Int} (ha : 0 ≤ a) (hn : 0 ≤ n) (hl : a + n ≤ litres) (hl1 : 1 ≤ litres) (hg : 0 ≤ got) (hg2 : got ≤ 1073741824) : 0 ≤ (a + n) * got / litres - a * got / litres ∧ (a + n) * got / litres - a * got / litres ≤ 1073741824 ∧ 0 ≤ a * got / litres ∧ a * got / litres ≤ 1073741824 ∧ (a + n) * got / litres ≤ 1073741824 ∧ 0 ≤ (a + n) * got / litres := by
  have h1 : 0 ≤ a * got := Int.mul_nonneg ha hg
  have h2 : 0 ≤ (a + n) * got := Int.mul_nonneg (by omega) hg
  have h3 : a * got / litres ≤ (a + n) * got / litres := Int.ediv_le_ediv (by omega) (by rw [Int.add_mul]; have := Int.mul_nonneg hn hg; omega)
  have h4 : (a + n) * got / litres ≤ got := by
    have : (a + n) * got ≤ litres * got := Int.mul_le_mul_of_nonneg_right hl hg
    exact Int.le_trans (Int.ediv_le_ediv (by omega) this) (by rw [Int.mul_ediv_cancel_left _ (by omega)]; exact Int.le_refl _)
  have h5 : 0 ≤ a * got / litres := Int.ediv_nonneg h1 (by omega)
  omega
theorem BdG.step {fr to hr litres got : Int} {k : Nat} {s : Int × GM} {c : Cm} (h : BdG litres k s) (hc : claimB c = true) (hl1 : 1 ≤ litres) (hl2 : litres ≤ 1073741824) (hg : 0 ≤ got) (hg2 : got ≤ 1073741824) : BdG litres (k + 1) (bstep fr to hr litres got s c) := by
  have hc := claimB_iff.1 hc
  obtain ⟨⟨h1, h2⟩, h3⟩ := h
  unfold bstep
  by_cases q : c.farm = fr ∧ c.hour = hr
  · rw [if_pos q]
    obtain ⟨n, hn⟩ : ∃ n, n = min c.litres (litres - s.1) := ⟨_, rfl⟩
    rw [← hn]
    have hgb := gain_b (a := s.1) (n := n) (got := got) (litres := litres) (by omega) (by omega) (by omega) hl1 hg hg2
    refine ⟨⟨by show 0 ≤ s.1 + n; omega, by show s.1 + n ≤ litres; omega⟩, fun t m e => ?_⟩
    have b1 : ∀ t m, (iset s.2 c.ti ((s.2 c.ti).getD 0 - n)) t = some m → -(1073741824 * (2 * k + 2)) ≤ m ∧ m ≤ 1073741824 * (2 * k + 2) := fun t m e => by
      unfold iset at e
      by_cases q1 : t = c.ti
      · rw [if_pos q1] at e
        injection e with e
        cases hs : s.2 c.ti with
        | none => rw [hs] at e; simp only [Option.getD_none] at e; omega
        | some v => rw [hs] at e; simp only [Option.getD_some] at e; have := h3 _ _ hs; omega
      · rw [if_neg q1] at e
        have := h3 _ _ e
        omega
    obtain ⟨g, hg'⟩ : ∃ g, g = iset s.2 c.ti ((s.2 c.ti).getD 0 - n) := ⟨_, rfl⟩
    rw [← hg'] at b1
    change (iset (iset s.2 c.ti ((s.2 c.ti).getD 0 - n)) (c.hour, c.rank, c.right, to) (((iset s.2 c.ti ((s.2 c.ti).getD 0 - n)) (c.hour, c.rank, c.right, to)).getD 0 + ((s.1 + n) * got / litres - s.1 * got / litres))) t = some m at e
    rw [← hg'] at e
    unfold iset at e
    by_cases q1 : t = (c.hour, c.rank, c.right, to)
    · rw [if_pos q1] at e
      injection e with e
      cases hs : g (c.hour, c.rank, c.right, to) with
      | none => rw [hs] at e; simp only [Option.getD_none] at e; omega
      | some v => rw [hs] at e; simp only [Option.getD_some] at e; have := b1 _ _ hs; omega
    · rw [if_neg q1] at e
      have := b1 _ _ e
      omega
  · rw [if_neg q]
    exact BdG.up ⟨⟨h1, h2⟩, h3⟩ (by omega)
theorem allG_b : ∀ {l : List Cm} {g : GM}, (∀ c ∈ l, claimB c = true) → (∀ t n, g t = some n → -1073741824 ≤ n ∧ n ≤ 1073741824) → ∀ t n, (l.foldl (fun g c => iset g c.ti c.litres) g) t = some n → -1073741824 ≤ n ∧ n ≤ 1073741824
  | [], _, _, h => h
  | c :: l, g, hc, h => by
    refine allG_b (l := l) (fun x hx => hc x (List.mem_cons_of_mem _ hx)) fun t n e => ?_
    have q := claimB_iff.1 (hc c List.mem_cons_self)
    change (if t = c.ti then some c.litres else g t) = some n at e
    by_cases q1 : t = c.ti
    · rw [if_pos q1] at e; injection e with e; omega
    · rw [if_neg q1] at e; exact h t n e
theorem back_b {fr to hr litres got : Int} {l : List Cm} (hl : ∀ c ∈ l, claimB c = true) (hl1 : 1 ≤ litres) (hl2 : litres ≤ 1073741824) (hg : 0 ≤ got) (hg2 : got ≤ 1073741824) : ∀ {k : Nat}, k ≤ l.length → BdG litres k (backG fr to hr litres got l (l.length - k)) := by
  intro k
  induction k with
  | zero =>
    intro _
    unfold backG
    rw [Nat.sub_zero, List.drop_length]
    exact ⟨⟨Int.le_refl _, by show (0 : Int) ≤ litres; omega⟩, fun t n e => by have := allG_b hl (fun t n e => by cases e) t n e; omega⟩
  | succ k ih =>
    intro hk
    have ih := ih (by omega)
    have hi : l.length - (k + 1) < l.length := by omega
    have he : l[l.length - (k + 1)]? = some l[l.length - (k + 1)] := List.getElem?_eq_getElem hi
    rw [backG_step he, show l.length - (k + 1) + 1 = l.length - k by omega]
    exact ih.step (hl _ (List.getElem_mem hi)) hl1 hl2 hg hg2
def argB (fr to hr litres got : Int) : Bool := inI fr 0 599 && (inI to 0 599 && (!decide (fr = to) && (inI hr 0 4095 && (inI litres 1 1073741824 && inI got 0 1073741824))))
theorem argB_iff {fr to hr litres got : Int} : argB fr to hr litres got = true ↔ (0 ≤ fr ∧ fr ≤ 599) ∧ (0 ≤ to ∧ to ≤ 599) ∧ ¬ fr = to ∧ (0 ≤ hr ∧ hr ≤ 4095) ∧ (1 ≤ litres ∧ litres ≤ 1073741824) ∧ (0 ≤ got ∧ got ≤ 1073741824) := by
  unfold argB
  simp [Bool.and_eq_true, inI_iff]
/-- The error that is known before anything is moved. -/
noncomputable def preErr (fr to hr litres got : Int) (l : List Cm) : Int :=
  if 4096 < l.length then 2 else if ¬ ClaimsOk l then 460 else if argB fr to hr litres got = false then 1 else if hasF fr hr l < litres then 460 else 0
/-- What is left of the titles. -/
noncomputable def endG (fr to hr litres got : Int) (l : List Cm) : GM := (backG fr to hr litres got l 0).2
/-- What Retitle answers. -/
def RetR (fr to hr litres got : Int) (l x : List Cm) (e : Int) : Prop :=
  (preErr fr to hr litres got l ≠ 0 ∧ e = preErr fr to hr litres got l ∧ x = []) ∨
  (preErr fr to hr litres got l = 0 ∧ ((e = 460 ∧ x = [] ∧ ∃ t n, endG fr to hr litres got l t = some n ∧ 1073741824 < n) ∨
    ((∀ t n, endG fr to hr litres got l t = some n → n ≤ 1073741824) ∧ ∃ y : List Cm, (y.map Cm.ti).Nodup ∧ (∀ c, c ∈ y ↔ endG fr to hr litres got l c.ti = some c.litres ∧ 0 < c.litres) ∧
      ((4096 < y.length ∧ e = 2 ∧ x = []) ∨ (y.length ≤ 4096 ∧ e = 0 ∧ x = y ∧ y.Pairwise fun a b => ltT a.ti b.ti)))))
theorem left_ltJ {L : List MapEntry} {seen : List Nat} {e : MapEntry} (he : e ∈ L) (hn : e.born ∉ seen) : (L.filter fun x => !(seen ++ [e.born]).contains x.born).length < (L.filter fun x => !seen.contains x.born).length := by
  induction L with
  | nil => cases he
  | cons a L ih =>
    have hle : (L.filter fun x => !(seen ++ [e.born]).contains x.born).length ≤ (L.filter fun x => !seen.contains x.born).length := by
      rw [← List.countP_eq_length_filter, ← List.countP_eq_length_filter]
      refine List.countP_mono_left fun x _ hx => ?_
      simp only [Bool.not_eq_true', List.contains_eq_mem, decide_eq_false_iff_not, List.mem_append] at hx ⊢
      exact fun h => hx (.inl h)
    rw [List.filter_cons, List.filter_cons]
    by_cases hae : a.born = e.born
    · have h1 : (!(seen ++ [e.born]).contains a.born) = false := by rw [hae]; simp
      have h2 : (!seen.contains a.born) = true := by rw [hae]; simpa using hn
      rw [h1, h2]
      simp only [Bool.false_eq_true, if_false, if_true, List.length_cons]
      omega
    · have he' : e ∈ L := by
        rcases List.mem_cons.1 he with rfl | h
        · exact absurd rfl hae
        · exact h
      have := ih he'
      have h3 : (!(seen ++ [e.born]).contains a.born) = (!seen.contains a.born) := by simp [hae]
      rw [h3]
      by_cases h4 : (!seen.contains a.born) = true
      · rw [if_pos h4, if_pos h4, List.length_cons, List.length_cons]; omega
      · rw [if_neg h4, if_neg h4]; exact this
theorem getD_b {g : GM} {B : Int} (h : ∀ t n, g t = some n → -B ≤ n ∧ n ≤ B) (h0 : 0 ≤ B) (t : Ti) : -B ≤ (g t).getD 0 ∧ (g t).getD 0 ≤ B := by
  cases e : g t with
  | none => simp only [Option.getD_none]; omega
  | some n => exact h t n e
theorem iset_b {g : GM} {B C n : Int} {a : Ti} (h : ∀ t n, g t = some n → -B ≤ n ∧ n ≤ B) (hn : -C ≤ n ∧ n ≤ C) (hBC : B ≤ C) : ∀ t m, iset g a n t = some m → -C ≤ m ∧ m ≤ C := by
  intro t m e
  unfold iset at e
  by_cases q : t = a
  · rw [if_pos q] at e; injection e with e; omega
  · rw [if_neg q] at e; have := h t m e; omega
theorem getD_iv (g : GM) (t : Ti) : ((g t).map iv).getD (iv 0) = iv ((g t).getD 0) := by cases g t <;> rfl
theorem pset_pset {κ : Type} (f : κ → Option Value) (a : κ) (u v : Value) : pset (pset f a u) a v = pset f a v := by
  funext b
  unfold pset
  split <;> rfl
theorem preErr_bad {fr to hr litres got : Int} {l : List Cm} (h : l.length ≤ 4096) (hb : ¬ ClaimsOk l) : preErr fr to hr litres got l = 460 := by
  unfold preErr; rw [if_neg (by omega), if_pos hb]
theorem preErr_arg {fr to hr litres got : Int} {l : List Cm} (h : l.length ≤ 4096) (hb : ClaimsOk l) (ha : ¬ argB fr to hr litres got = true) : preErr fr to hr litres got l = 1 := by
  unfold preErr; rw [if_neg (by omega), if_neg (by simpa using hb), if_pos (by simpa using ha)]
theorem preErr_has {fr to hr litres got : Int} {l : List Cm} (h : l.length ≤ 4096) (hb : ClaimsOk l) (ha : argB fr to hr litres got = true) : preErr fr to hr litres got l = if hasF fr hr l < litres then 460 else 0 := by
  unfold preErr; rw [if_neg (by omega), if_neg (by simpa using hb), if_neg (by simp [ha])]
theorem RetR.pre {fr to hr litres got : Int} {l : List Cm} {e : Int} (h : preErr fr to hr litres got l = e) (he : e ≠ 0) : RetR fr to hr litres got l [] e := .inl ⟨by rw [h]; exact he, h.symm, rfl⟩
theorem nodup_le {α : Type} [DecidableEq α] : ∀ {a b : List α}, a.Nodup → (∀ x ∈ a, x ∈ b) → a.length ≤ b.length
  | [], _, _, _ => Nat.zero_le _
  | x :: a, b, hn, hs => by
    rw [List.nodup_cons] at hn
    have hx := hs x List.mem_cons_self
    have ih := nodup_le (b := b.erase x) hn.2 fun y hy => (List.mem_erase_of_ne fun e => hn.1 (by rw [← e]; exact hy)).2 (hs y (List.mem_cons_of_mem _ hy))
    rw [List.length_erase_of_mem hx] at ih
    have := List.length_pos_of_mem hx
    rw [List.length_cons]
    omega
theorem key_inj {L : List MapEntry} (h : (L.map (·.key)).Nodup) : ∀ {e e' : MapEntry}, e ∈ L → e' ∈ L → e.key = e'.key → e = e' := by
  induction L with
  | nil => intro e e' he; cases he
  | cons a L ih =>
    intro e e' he he' hk
    rw [List.map_cons, List.nodup_cons] at h
    rcases List.mem_cons.1 he with h1 | he <;> rcases List.mem_cons.1 he' with h2 | he'
    · rw [h1, h2]
    · exact absurd (show a.key ∈ L.map (·.key) from by rw [← h1, hk]; exact List.mem_map_of_mem he') h.1
    · exact absurd (show a.key ∈ L.map (·.key) from by rw [← h2, ← hk]; exact List.mem_map_of_mem he) h.1
    · exact ih h.2 he he' hk
theorem born_inj {L : List MapEntry} {c : Nat} (h : BornL L c) {e e' : MapEntry} (he : e ∈ L) (he' : e' ∈ L) (hb : e'.born = e.born) : e' = e := by
  obtain ⟨i, hi⟩ := List.getElem?_of_mem he
  obtain ⟨j, hj⟩ := List.getElem?_of_mem he'
  have := (h i e hi).2 j e' hj hb
  subst this
  rw [hi] at hj
  injection hj with hj
  exact hj.symm
theorem kv4_inj {a b : Ti} (h : kv4 a = kv4 b) : a = b := KeyL.inj (P := Try.prog) (k := 73) (kv := kv4) a b h
/-- What has been read of the map. -/
def RI (L : List MapEntry) (seen : List Nat) (xs : List Cm) : Prop := (xs.map Cm.ti).Nodup ∧ (∀ c, c ∈ xs ↔ ∃ e ∈ L, e.born ∈ seen ∧ e.key = kv4 c.ti ∧ e.val = iv c.litres ∧ 0 < c.litres) ∧ ∀ e ∈ L, e.born ∈ seen → ∀ n, e.val = iv n → n ≤ 1073741824
theorem RI.nil {L : List MapEntry} : RI L [] [] := ⟨.nil, fun c => ⟨fun h => (by cases h), fun ⟨_, _, h, _⟩ => (by cases h)⟩, fun _ _ h => (by cases h)⟩
theorem RI.old {L : List MapEntry} {seen : List Nat} {c : Nat} {e e' : MapEntry} (hb : BornL L c) (he : e ∈ L) (he' : e' ∈ L) : e'.born ∈ seen ++ [e.born] ↔ e'.born ∈ seen ∨ e' = e := by
  rw [List.mem_append, List.mem_singleton]
  exact or_congr Iff.rfl ⟨fun h => born_inj hb he he' h, fun h => by rw [h]⟩
theorem RI.skip {L : List MapEntry} {seen : List Nat} {xs : List Cm} {c : Nat} {e : MapEntry} {n : Int} (h : RI L seen xs) (hb : BornL L c) (he : e ∈ L) (hv : e.val = iv n) (hn : n ≤ 0) : RI L (seen ++ [e.born]) xs := by
  refine ⟨h.1, fun d => (h.2.1 d).trans ?_, fun e' he' hs m hm => ?_⟩
  · constructor
    · rintro ⟨e', he', h1, h2⟩
      exact ⟨e', he', (RI.old hb he he').2 (.inl h1), h2⟩
    · rintro ⟨e', he', h1, h2, h3, h4⟩
      rcases (RI.old hb he he').1 h1 with h1 | rfl
      · exact ⟨e', he', h1, h2, h3, h4⟩
      · rw [hv] at h3; injection h3 with _ h3; omega
  · rcases (RI.old hb he he').1 hs with h1 | rfl
    · exact h.2.2 e' he' h1 m hm
    · rw [hv] at hm; injection hm with _ hm; omega
theorem RI.snoc {L : List MapEntry} {seen : List Nat} {xs : List Cm} {c : Nat} {e : MapEntry} {d : Cm} (h : RI L seen xs) (hb : BornL L c) (hu : (L.map (·.key)).Nodup) (he : e ∈ L) (hns : e.born ∉ seen) (hk : e.key = kv4 d.ti) (hv : e.val = iv d.litres) (hn : 0 < d.litres) (hle : d.litres ≤ 1073741824) : RI L (seen ++ [e.born]) (xs ++ [d]) := by
  refine ⟨?_, fun d' => ?_, fun e' he' hs m hm => ?_⟩
  · rw [List.map_append, List.nodup_append]
    refine ⟨h.1, by simp, fun x hx y hy => ?_⟩
    simp only [List.map_cons, List.map_nil, List.mem_singleton] at hy
    subst hy
    rintro rfl
    obtain ⟨d1, hd1, hd2⟩ := List.mem_map.1 hx
    obtain ⟨e1, he1, hs1, hk1, -⟩ := (h.2.1 d1).1 hd1
    have := key_inj hu he1 he (by rw [hk1, hk, hd2])
    rw [this] at hs1
    exact hns hs1
  · rw [List.mem_append, List.mem_singleton]
    constructor
    · rintro (h1 | rfl)
      · obtain ⟨e1, he1, hs1, r⟩ := (h.2.1 d').1 h1
        exact ⟨e1, he1, (RI.old hb he he1).2 (.inl hs1), r⟩
      · exact ⟨e, he, (RI.old hb he he).2 (.inr rfl), hk, hv, hn⟩
    · rintro ⟨e1, he1, hs1, hk1, hv1, hn1⟩
      rcases (RI.old hb he he1).1 hs1 with hs1 | rfl
      · exact .inl ((h.2.1 d').2 ⟨e1, he1, hs1, hk1, hv1, hn1⟩)
      · refine .inr ?_
        rw [hk] at hk1
        rw [hv] at hv1
        injection hv1 with _ hv1
        have ht := kv4_inj hk1
        obtain ⟨r1, f1, o1, n1, k1⟩ := d
        obtain ⟨r2, f2, o2, n2, k2⟩ := d'
        simp only [Cm.ti, Prod.mk.injEq] at ht
        simp only at hv1
        obtain ⟨h1, h2, h3, h4⟩ := ht
        subst h1; subst h2; subst h3; subst h4; subst hv1
        rfl
  · rcases (RI.old hb he he').1 hs with h1 | rfl
    · exact h.2.2 e' he' h1 m hm
    · rw [hv] at hm; injection hm with _ hm; omega
/-- The titles that may be there. -/
theorem endG_in {fr to hr litres got : Int} {l : List Cm} {t : Ti} {n : Int} (h : endG fr to hr litres got l t = some n) : t ∈ l.map Cm.ti ++ l.map fun c => ((c.hour, c.rank, c.right, to) : Ti) := by
  have a : ∀ (l : List Cm) (g : GM) (T : List Ti), (∀ t n, g t = some n → t ∈ T) → (∀ c ∈ l, c.ti ∈ T) → ∀ t n, (l.foldl (fun g c => iset g c.ti c.litres) g) t = some n → t ∈ T := by
    intro l
    induction l with
    | nil => intro g T h _; exact h
    | cons c l ih =>
      intro g T h hc
      refine ih _ T (fun t n e => ?_) fun x hx => hc x (List.mem_cons_of_mem _ hx)
      change (if t = c.ti then some c.litres else g t) = some n at e
      by_cases q : t = c.ti
      · rw [q]; exact hc c List.mem_cons_self
      · rw [if_neg q] at e; exact h t n e
  have b : ∀ (l : List Cm) (s : Int × GM) (T : List Ti), (∀ t n, s.2 t = some n → t ∈ T) → (∀ c ∈ l, c.ti ∈ T ∧ ((c.hour, c.rank, c.right, to) : Ti) ∈ T) → ∀ t n, (l.foldl (bstep fr to hr litres got) s).2 t = some n → t ∈ T := by
    intro l
    induction l with
    | nil => intro g T h _; exact h
    | cons c l ih =>
      intro s T h hc
      refine ih _ T (fun t n e => ?_) fun x hx => hc x (List.mem_cons_of_mem _ hx)
      have hc0 := hc c List.mem_cons_self
      unfold bstep at e
      by_cases q : c.farm = fr ∧ c.hour = hr
      · rw [if_pos q] at e
        simp only [iset] at e
        by_cases q1 : t = ((c.hour, c.rank, c.right, to) : Ti)
        · rw [q1]; exact hc0.2
        · rw [if_neg q1] at e
          by_cases q2 : t = c.ti
          · rw [q2]; exact hc0.1
          · rw [if_neg q2] at e; exact h t n e
      · rw [if_neg q] at e; exact h t n e
  refine b _ _ _ (fun t n e => ?_) (fun c hc => ?_) t n h
  · exact a l _ _ (fun t n e => by cases e) (fun c hc => List.mem_append_left _ (List.mem_map_of_mem hc)) t n e
  · have hc : c ∈ l := by rw [List.mem_reverse, List.drop_zero] at hc; exact hc
    exact ⟨List.mem_append_left _ (List.mem_map_of_mem hc), List.mem_append_right _ (List.mem_map_of_mem (f := fun c : Cm => ((c.hour, c.rank, c.right, to) : Ti)) hc)⟩
section
variable {w : World}
theorem c_sort0 : CallZ Try.prog 22 #[.slice none 0 0, .func (.func 23) #[] #[]] w (fun v w' => v = .tuple #[] ∧ w' = w) := by
  intro w0 hw
  subst hw
  rw [callsIn_wide]
  refine (k_sort0 _ w0).mono ?_
  rintro e w' ⟨rfl, rfl⟩
  exact ⟨_, rfl, rfl, rfl⟩
theorem c_backC {A : Option Addr} {n c : Nat} : CallZ Try.prog 21 #[.slice A n c] w (fun u w' => ∃ b, u = .func (.func 37) #[] #[ptr b] ∧ Ext w w' ∧ Blk w' b 22 [.slice A n c] ∧ w.heap.size ≤ b) := by
  refine fn_rule (args := [.slice A n c]) Try.func21 (by kernel_rfl) ?_
  refine box (fun b w1 h1 => ?_)
  have e1 := h1.at_
  exact ret1 (.func (.func 37) #[] #[ptr b]) rfl ⟨b, rfl, h1.ext, h1.blk, by omega⟩
theorem c_backC1 {D : Nat → Prop} {l bs : Nat} {rs : List Cm} {A : Option Addr} {n c : Nat} (J : Nat → World → Prop) (hs : SlR tCm D w A n rs) (hb : Blk w bs 22 [.slice A n c]) (hDb : D bs)
    (hstep : ∀ i u r, rs[i]? = some r → J (i + 1) u → Kept D w u → YieldP Try.prog l [iv (i : Int), .agg (encJ r).toArray].toArray (fun y w' => y = .bool true ∧ J i w' ∧ Kept D u w') u) (h0 : J n w) :
    CallZ Try.prog 37 #[.func (.yield l) #[] #[], ptr bs] w (fun _ w' => J 0 w' ∧ Kept D w w') := by
  refine fn_rule (args := [.func (.yield l) #[] #[], ptr bs]) Try.func37 (by kernel_rfl) ?_
  have hl := hs.len
  have hle := hs.le
  refine ld _ (hb.cell rfl) ?_
  refine len ?_
  refine arI (by omega) ?_
  refine loop_rule (fun k : Nat => [(3, iv ((k : Int) - 1))]) (fun k u => k ≤ n ∧ J k u ∧ Kept D w u) (fun k _ => k) n ⟨rfl, trivial⟩ ⟨by omega, h0, .refl _ _⟩ rfl ?_
  rintro G k u ⟨hk, hj, ku⟩
  refine cD (fun hge => ?_) (fun hlt => ?_)
  · obtain ⟨k, rfl⟩ : ∃ m, k = m + 1 := ⟨k - 1, by omega⟩
    have e : ((k + 1 : Nat) : Int) - 1 = (k : Int) := by omega
    rw [e]
    obtain ⟨b, o, cs, r, rfl, hr, -, -, hc, rfl⟩ := (hs.kept ku fun b _ h => h).at_ (k := k) (by omega)
    refine ld _ ((hb.kept ku hDb).cell rfl) ?_
    refine idx k rfl (by omega) ?_
    refine ldA _ hc rfl ?_
    refine yield_of (hstep k u r hr hj ku) ?_
    rintro _ u2 ⟨rfl, hj2, k2⟩
    refine arI (by omega) ?_
    exact next k ⟨rfl, trivial⟩ ⟨by omega, hj2, ku.trans k2⟩ (by omega)
  · obtain rfl : k = 0 := by omega
    exact ret0 ⟨hj, ku⟩
end
end Go.Proofs.Ytcpogcdadlcdaaa

/- Layer 46: the contract of Retitle. -/
namespace Go.Proofs.Ytcpogcdadlcdaaa
open Go Go.RowKit Classical

section
variable {w : World}
set_option maxRecDepth 8000 in
set_option maxHeartbeats 4000000 in
theorem c_hRet {D : Nat → Prop} {A : Option Addr} {n c : Nat} {l : List Cm} {fr to hr litres got : Int} (hs : SlR tCm D w A n l) : CallZ Try.prog 8 #[.slice A n c, iv fr, iv to, iv hr, iv litres, iv got] w
    (fun v w' => Ext w w' ∧ ∃ B m cm x e, v = .tuple #[.slice B m cm, iv e] ∧ SlR tCm (fun b => w.heap.size ≤ b) w' B m x ∧ m ≤ cm ∧ RetR fr to hr litres got l x e) := by
  have hs := hs.more (D' := fun b => b < w.heap.size) (by decide) fun b hb _ => hb
  have hlen := hs.len
  refine fn_rule (args := [.slice A n c, iv fr, iv to, iv hr, iv litres, iv got]) Try.func8 (by kernel_rfl) ?_
  refine box (fun b7 w1 h1 => ?_)
  refine box (fun b8 w2 h2 => ?_)
  refine box (fun b9 w3 h3 => ?_)
  refine box (fun b10 w4 h4 => ?_)
  refine box (fun b11 w5 h5 => ?_)
  have x5 := (((h1.ext.trans h2.ext).trans h3.ext).trans h4.ext).trans h5.ext
  have B7 : Blk w5 b7 3 [iv fr] := (((h1.blk.ext h2.ext).ext h3.ext).ext h4.ext).ext h5.ext
  have B8 : Blk w5 b8 3 [iv to] := ((h2.blk.ext h3.ext).ext h4.ext).ext h5.ext
  have B9 : Blk w5 b9 3 [iv hr] := (h3.blk.ext h4.ext).ext h5.ext
  have B10 : Blk w5 b10 3 [iv litres] := h4.blk.ext h5.ext
  have B11 : Blk w5 b11 3 [iv got] := h5.blk
  have l7 := B7.lt
  have l8 := B8.lt
  have l9 := B9.lt
  have l10 := B10.lt
  have l11 := B11.lt
  have y7 := h1.at_
  have y8 := h2.at_
  have y9 := h3.at_
  have y10 := h4.at_
  have y11 := h5.at_
  have y1 := h1.ext.size
  have y2 := h2.ext.size
  have y3 := h3.ext.size
  have y4 := h4.ext.size
  refine len ?_
  refine cD (fun g1 => ?_) (fun g1 => ?_)
  · exact ret2 (.slice none 0 0) (iv 2) rfl rfl ⟨x5, none, 0, 0, [], 2, rfl, .nil, Nat.le_refl _, .pre (by unfold preErr; rw [if_pos (by omega)]) (by decide)⟩
  have g1 : n ≤ 4096 := by omega
  refine mmap (fun gm w6 hgm hw6 => ?_)
  have x56 : Ext w5 w6 := by rw [hw6]; exact Kept.alloc _ _ _
  have M6 : MapT w6 gm (allG (l.take 0)) := by rw [hw6, hgm]; exact MapU.new kv4 w5
  have gl := M6.lt
  refine alloc (fun b14 w7 h7 => ?_)
  have M7 := M6.kept h7.ext trivial
  refine st1 h7.blk rfl (fun w8 B14 k8 => ?_)
  have e7 := h7.at_
  have B14 : Blk w8 b14 69 [.map (some gm)] := B14
  have M8 := M7.kept k8 (show gm ≠ b14 by omega)
  have x58 : Ext w5 w8 := (x56.trans h7.ext).then k8 fun b hb _ e => by have := x56.size; omega
  have x8 := x5.trans x58
  have s58 := x58.size
  have s5 := x5.size
  have l14 := B14.lt
  have hs8 := hs.ext x8
  have hs8 := hs.kept (x8 : Kept _ w w8) (D := fun b => b < w.heap.size) fun b _ h => trivial
  have hgm5 : gm = w5.heap.size := hgm
  have B7 := B7.ext x58
  have B8 := B8.ext x58
  have B9 := B9.ext x58
  have B10 := B10.ext x58
  have B11 := B11.ext x58
  refine len ?_
  clear h1 h2 h3 h4 h5 h7 k8 M6 M7 hw6
  -- the claims, one by one
  refine loop_rule (fun k : Nat => [(12, .slice none 0 0), (15, iv (hasF fr hr (l.take k))), (31, iv (k : Int))]) (fun k u => k ≤ n ∧ ClaimsOk (l.take k) ∧ Kept (fun b => b ≠ gm) w8 u ∧ MapT u gm (allG (l.take k))) (fun k _ => n - k) 0 ⟨rfl, rfl, rfl, trivial⟩ ⟨by omega, ⟨fun c hc => (by cases hc), .nil⟩, .refl _ _, M8⟩ rfl ?_
  rintro G k u ⟨hk, hok, ku, Mu⟩
  have zu := ku.size
  refine cD (fun hlt => ?_) (fun hge => ?_)
  · have hlt : k < n := by omega
    have hsu := hs8.kept ku fun b _ h => (show b ≠ gm by omega)
    obtain ⟨b, o, cs, m, rfl, hm, -, -, hc, rfl⟩ := hsu.at_ hlt
    have htk : l.take (k + 1) = l.take k ++ [m] := by rw [List.take_add_one, hm]; rfl
    refine idx k rfl hlt ?_
    refine ldA (encJ m) hc rfl ?_
    refine alloc (fun b17 u1 a1 => ?_)
    refine stA (vs := encJ m) a1.blk rfl (Nat.le_of_ble_eq_true rfl) (by simp [Value.oneCell']) (fun u2 B17 k2 z2 => ?_)
    have B17 : Blk u2 b17 60 (encJ m) := B17
    have e17 := a1.at_
    have gu := Mu.lt
    have xu2 : Ext u u2 := a1.ext.then k2 fun b hb _ e => by omega
    have ku2 := ku.ext xu2
    have zu2 := xu2.size
    have x2 : Ext w u2 := x8.then ku2 fun b hb _ e => by omega
    have Mu2 := Mu.kept xu2 trivial
    have hcu2 := hsu.ext xu2
    have B72 := B7.kept ku2 (by omega)
    have B92 := B9.kept ku2 (by omega)
    have B142 := B14.kept ku2 (by omega)
    have hsn : ClaimsOk l → claimB m = true ∧ ∀ b, (l.take k).getLast? = some b → ltT b.ti m.ti := fun h => by
      have := h.take (k + 1)
      rw [htk, claims_snoc] at this
      exact this.2
    refine drawP (.take 0 (.take 1 (.take 2 (.take 3 (.take 4 (.take 5 (.take 6 (.take 7 (.take 8 (.take 9 (.take 10 (.take 11 (.take 12 (.take 13 (.take 14 (.take 15 (.take 16 (.take 17 (.take 18 (.take 19 (.take 20 (.take 21 (.take 22 (.take 23 (.take 24 (.take 25 (.take 26 (.take 27 (.take 28 (.take 29 (.take 30 (.take 31 (.take 32 (.take 33 (.take 34 (.take 35 (.take 36 (.take 38 (.eff 37 (.eff 39 (.eff 40 (.take 41 (.take 42 (.take 43 .done)))))))))))))))))))))))))))))))))))))))))))) [] (fun y => Ext u2 y) mx (by kernel_rfl) (.refl _ _) ?_
    refine fldA ?_
    refine ldK (iv m.right) (B17.cell rfl) trivial (.refl _ _) ?_
    refine callQB (fun u _ => c_hin (n := m.right) (lo := 0) (hi := 255)) (fun p0 => ?_) (fun p0 => ?_)
    rotate_left
    · refine strS (.refl _ _) ?_
      refine strS (.refl _ _) ?_
      refine strS (.refl _ _) ?_
      exact ret2 (.slice none 0 0) (iv 460) rfl rfl ⟨x2, none, 0, 0, [], 460, rfl, .nil, Nat.le_refl _, .pre (preErr_bad (by omega) fun hk => inI_not.1 p0 (claimB_iff.1 (hsn hk).1).1) (by decide)⟩
    have p0 := inI_iff.1 p0
    refine fldA ?_
    refine ldK (iv m.farm) (B17.cell rfl) trivial (.refl _ _) ?_
    refine callQB (fun u _ => c_hin (n := m.farm) (lo := 0) (hi := 599)) (fun p1 => ?_) (fun p1 => ?_)
    rotate_left
    · refine strS (.refl _ _) ?_
      refine strS (.refl _ _) ?_
      refine strS (.refl _ _) ?_
      exact ret2 (.slice none 0 0) (iv 460) rfl rfl ⟨x2, none, 0, 0, [], 460, rfl, .nil, Nat.le_refl _, .pre (preErr_bad (by omega) fun hk => inI_not.1 p1 (claimB_iff.1 (hsn hk).1).2.1) (by decide)⟩
    have p1 := inI_iff.1 p1
    refine fldA ?_
    refine ldK (iv m.hour) (B17.cell rfl) trivial (.refl _ _) ?_
    refine callQB (fun u _ => c_hin (n := m.hour) (lo := 0) (hi := 4095)) (fun p2 => ?_) (fun p2 => ?_)
    rotate_left
    · refine strS (.refl _ _) ?_
      refine strS (.refl _ _) ?_
      refine strS (.refl _ _) ?_
      exact ret2 (.slice none 0 0) (iv 460) rfl rfl ⟨x2, none, 0, 0, [], 460, rfl, .nil, Nat.le_refl _, .pre (preErr_bad (by omega) fun hk => inI_not.1 p2 (claimB_iff.1 (hsn hk).1).2.2.1) (by decide)⟩
    have p2 := inI_iff.1 p2
    refine fldA ?_
    refine ldK (iv m.litres) (B17.cell rfl) trivial (.refl _ _) ?_
    refine callQB (fun u _ => c_hin (n := m.litres) (lo := 1) (hi := 1073741824)) (fun p3 => ?_) (fun p3 => ?_)
    rotate_left
    · refine strS (.refl _ _) ?_
      refine strS (.refl _ _) ?_
      refine strS (.refl _ _) ?_
      exact ret2 (.slice none 0 0) (iv 460) rfl rfl ⟨x2, none, 0, 0, [], 460, rfl, .nil, Nat.le_refl _, .pre (preErr_bad (by omega) fun hk => inI_not.1 p3 (claimB_iff.1 (hsn hk).1).2.2.2.1) (by decide)⟩
    have p3 := inI_iff.1 p3
    refine fldA ?_
    refine ldK (iv m.rank) (B17.cell rfl) trivial (.refl _ _) ?_
    refine callQB (fun u _ => c_hin (n := m.rank) (lo := 0) (hi := 1048576)) (fun p4 => ?_) (fun p4 => ?_)
    rotate_left
    · refine strS (.refl _ _) ?_
      refine strS (.refl _ _) ?_
      refine strS (.refl _ _) ?_
      exact ret2 (.slice none 0 0) (iv 460) rfl rfl ⟨x2, none, 0, 0, [], 460, rfl, .nil, Nat.le_refl _, .pre (preErr_bad (by omega) fun hk => inI_not.1 p4 (claimB_iff.1 (hsn hk).1).2.2.2.2) (by decide)⟩
    have p4 := inI_iff.1 p4
    refine cD (fun hk0 => ?_) (fun hk0 => ?_)
    · obtain ⟨k1, hk1⟩ : ∃ j, k = j + 1 := ⟨k - 1, by omega⟩
      obtain ⟨bp, op, csp, mp, hA, hmp, -, -, hcp, rfl⟩ := hcu2.at_ (k := k1) (by omega)
      injection hA with hA
      injection hA with hA1 hA2
      subst hA1; subst hA2
      have hlast : (l.take k).getLast? = some mp := by rw [hk1, List.take_add_one, hmp]; simp
      refine arI (by omega) ?_
      rw [show (k : Int) - 1 = (k1 : Int) by omega]
      refine idx k1 rfl (by omega) ?_
      refine ldAK (encJ mp) hcp rfl trivial (.refl _ _) ?_
      refine ldAK (encJ m) (.blk B17) rfl trivial (.refl _ _) ?_
      refine call_of (c_hof mp) ?_
      rintro _ u3 ⟨rfl, xu3⟩
      refine strS xu3 ?_
      refine call_of (c_hof m) ?_
      rintro _ u4 ⟨rfl, xu4⟩
      refine strS (xu3.trans xu4) ?_
      refine call_of (c_hcmp mp.ti m.ti) ?_
      rintro _ u5 ⟨rfl, xu5⟩
      have x25 := (xu3.trans xu4).trans xu5
      refine strS x25 ?_
      refine cD (fun hge => ?_) (fun hlt5 => ?_)
      · exact ret2 (.slice none 0 0) (iv 460) rfl rfl ⟨x2.trans x25, none, 0, 0, [], 460, rfl, .nil, Nat.le_refl _, .pre (preErr_bad (by omega) fun hk => absurd (cmpT_lt.2 ((hsn hk).2 mp hlast)) (by omega)) (by decide)⟩
      have hlt5 : cmpT mp.ti m.ti < 0 := by omega
      have kv0 : Kept (fun b => b ≠ gm) w8 u5 := ku2.ext x25
      have zv0 := (x25).size
      have Mv := Mu2.kept x25 trivial
      have B17v := B17.ext x25
      have l17 := B17v.lt
      refine drawP (.take 0 (.take 1 (.take 3 (.take 4 (.eff 2 (.eff 5 .done)))))) [] (fun y => Kept (fun b => b ≠ gm) u5 y) mx (by kernel_rfl) (.refl _ _) ?_
      refine ldK (.map (some gm)) ((B14.kept kv0 (by omega)).cell rfl) (show b14 ≠ gm by omega) (.refl _ _) ?_
      refine ldAK (encJ m) (.blk B17v) rfl (show b17 ≠ gm by omega) (.refl _ _) ?_
      refine fldA ?_
      refine ldK (iv m.litres) (B17v.cell rfl) (show b17 ≠ gm by omega) (.refl _ _) ?_
      refine call_of (c_hof m) ?_
      rintro _ v1 ⟨rfl, xv1⟩
      refine strS (Ext.any xv1) ?_
      refine mupdU (kv := kv4) m.ti (Mv.kept xv1 trivial) (fun v2 M2 kk zz => ?_)
      have kk2 : Kept (fun b => b ≠ gm) u5 v2 := (Ext.any xv1).trans kk
      refine strS kk2 ?_
      have kv2 := kv0.trans kk2
      have B17w := B17v.kept kk2 (by omega)
      have hok' : ClaimsOk (l.take (k + 1)) := by rw [htk, claims_snoc]; exact ⟨hok, claimB_iff.2 ⟨p0, p1, p2, p3, p4⟩, fun b hb => by rw [hlast] at hb; injection hb with hb; subst hb; exact cmpT_lt.1 hlt5⟩
      have M2' : MapT v2 gm (allG (l.take (k + 1))) := by rw [htk, allG_snoc]; unfold MapT; rw [← iset_pset]; exact M2
      have hb15 := hasF_b (fr := fr) (hr := hr) hok.1
      have hl15 : (l.take k).length ≤ 4096 := Nat.le_trans (List.length_take_le _ _) (by omega)
      have e15 : hasF fr hr (l.take (k + 1)) = hasF fr hr (l.take k) + ofF fr hr m := by rw [htk, hasF_snoc]
      refine fldA ?_
      refine ld (iv m.farm) (B17w.cell rfl) ?_
      refine ld (iv fr) ((B7.kept kv2 (by omega)).cell rfl) ?_
      refine cE (fun q1 => ?_) (fun q1 => ?_)
      · refine fldA ?_
        refine ld (iv m.hour) (B17w.cell rfl) ?_
        refine ld (iv hr) ((B9.kept kv2 (by omega)).cell rfl) ?_
        refine cE (fun q2 => ?_) (fun q2 => ?_)
        · refine fldA ?_
          refine ld (iv m.litres) (B17w.cell rfl) ?_
          refine arI (by omega) ?_
          refine arI (by omega) ?_
          refine next (k + 1) ⟨rfl, ?_, by rw [Int.natCast_add]; rfl, trivial⟩ ⟨by omega, hok', kv2, M2'⟩ (by omega)
          rw [e15, show ofF fr hr m = m.litres from if_pos ⟨q1, q2⟩]; rfl
        · refine arI (by omega) ?_
          refine next (k + 1) ⟨rfl, ?_, by rw [Int.natCast_add]; rfl, trivial⟩ ⟨by omega, hok', kv2, M2'⟩ (by omega)
          rw [e15, show ofF fr hr m = 0 from if_neg fun h => q2 h.2, Int.add_zero]; rfl
      · refine arI (by omega) ?_
        refine next (k + 1) ⟨rfl, ?_, by rw [Int.natCast_add]; rfl, trivial⟩ ⟨by omega, hok', kv2, M2'⟩ (by omega)
        rw [e15, show ofF fr hr m = 0 from if_neg fun h => q1 h.1, Int.add_zero]; rfl
    · refine strS (.refl _ _) ?_
      refine strS (.refl _ _) ?_
      refine strS (.refl _ _) ?_
      have hkz : k = 0 := by omega
      have kv0 : Kept (fun b => b ≠ gm) w8 u2 := ku2.ext (Kept.refl (fun _ => True) u2)
      have zv0 := ((Kept.refl (fun _ => True) u2)).size
      have Mv := Mu2.kept (Kept.refl (fun _ => True) u2) trivial
      have B17v := B17.ext (Kept.refl (fun _ => True) u2)
      have l17 := B17v.lt
      refine drawP (.take 0 (.take 1 (.take 3 (.take 4 (.eff 2 (.eff 5 .done)))))) [] (fun y => Kept (fun b => b ≠ gm) u2 y) mx (by kernel_rfl) (.refl _ _) ?_
      refine ldK (.map (some gm)) ((B14.kept kv0 (by omega)).cell rfl) (show b14 ≠ gm by omega) (.refl _ _) ?_
      refine ldAK (encJ m) (.blk B17v) rfl (show b17 ≠ gm by omega) (.refl _ _) ?_
      refine fldA ?_
      refine ldK (iv m.litres) (B17v.cell rfl) (show b17 ≠ gm by omega) (.refl _ _) ?_
      refine call_of (c_hof m) ?_
      rintro _ v1 ⟨rfl, xv1⟩
      refine strS (Ext.any xv1) ?_
      refine mupdU (kv := kv4) m.ti (Mv.kept xv1 trivial) (fun v2 M2 kk zz => ?_)
      have kk2 : Kept (fun b => b ≠ gm) u2 v2 := (Ext.any xv1).trans kk
      refine strS kk2 ?_
      have kv2 := kv0.trans kk2
      have B17w := B17v.kept kk2 (by omega)
      have hok' : ClaimsOk (l.take (k + 1)) := by rw [htk, claims_snoc]; exact ⟨hok, claimB_iff.2 ⟨p0, p1, p2, p3, p4⟩, fun b hb => by rw [hkz] at hb; cases hb⟩
      have M2' : MapT v2 gm (allG (l.take (k + 1))) := by rw [htk, allG_snoc]; unfold MapT; rw [← iset_pset]; exact M2
      have hb15 := hasF_b (fr := fr) (hr := hr) hok.1
      have hl15 : (l.take k).length ≤ 4096 := Nat.le_trans (List.length_take_le _ _) (by omega)
      have e15 : hasF fr hr (l.take (k + 1)) = hasF fr hr (l.take k) + ofF fr hr m := by rw [htk, hasF_snoc]
      refine fldA ?_
      refine ld (iv m.farm) (B17w.cell rfl) ?_
      refine ld (iv fr) ((B7.kept kv2 (by omega)).cell rfl) ?_
      refine cE (fun q1 => ?_) (fun q1 => ?_)
      · refine fldA ?_
        refine ld (iv m.hour) (B17w.cell rfl) ?_
        refine ld (iv hr) ((B9.kept kv2 (by omega)).cell rfl) ?_
        refine cE (fun q2 => ?_) (fun q2 => ?_)
        · refine fldA ?_
          refine ld (iv m.litres) (B17w.cell rfl) ?_
          refine arI (by omega) ?_
          refine arI (by omega) ?_
          refine next (k + 1) ⟨rfl, ?_, by rw [Int.natCast_add]; rfl, trivial⟩ ⟨by omega, hok', kv2, M2'⟩ (by omega)
          rw [e15, show ofF fr hr m = m.litres from if_pos ⟨q1, q2⟩]; rfl
        · refine arI (by omega) ?_
          refine next (k + 1) ⟨rfl, ?_, by rw [Int.natCast_add]; rfl, trivial⟩ ⟨by omega, hok', kv2, M2'⟩ (by omega)
          rw [e15, show ofF fr hr m = 0 from if_neg fun h => q2 h.2, Int.add_zero]; rfl
      · refine arI (by omega) ?_
        refine next (k + 1) ⟨rfl, ?_, by rw [Int.natCast_add]; rfl, trivial⟩ ⟨by omega, hok', kv2, M2'⟩ (by omega)
        rw [e15, show ofF fr hr m = 0 from if_neg fun h => q1 h.1, Int.add_zero]; rfl
  have hkn : l.take k = l := List.take_of_length_le (by omega)
  rw [hkn] at hok Mu ⊢
  have hokL := hok
  have xu : Ext w u := x8.then ku fun b hb _ => by omega
  have B7 := B7.kept ku (by omega)
  have B8 := B8.kept ku (by omega)
  have B9 := B9.kept ku (by omega)
  have B10 := B10.kept ku (by omega)
  have B11 := B11.kept ku (by omega)
  have B14 := B14.kept ku (by omega)
  refine ld (iv fr) (B7.cell rfl) ?_
  refine callB (c_hin (n := fr) (lo := 0) (hi := 599)) (fun p1 => ?_) (fun p1 => ?_)
  rotate_left
  · exact ret2 (.slice none 0 0) (iv 1) rfl rfl ⟨xu, none, 0, 0, [], 1, rfl, .nil, Nat.le_refl _, .pre (preErr_arg (by omega) hokL fun hk => inI_not.1 p1 (argB_iff.1 hk).1) (by decide)⟩
  refine ld (iv to) (B8.cell rfl) ?_
  refine callB (c_hin (n := to) (lo := 0) (hi := 599)) (fun p2 => ?_) (fun p2 => ?_)
  rotate_left
  · exact ret2 (.slice none 0 0) (iv 1) rfl rfl ⟨xu, none, 0, 0, [], 1, rfl, .nil, Nat.le_refl _, .pre (preErr_arg (by omega) hokL fun hk => inI_not.1 p2 (argB_iff.1 hk).2.1) (by decide)⟩
  refine ld (iv fr) (B7.cell rfl) ?_
  refine ld (iv to) (B8.cell rfl) ?_
  refine cE (fun p3 => ?_) (fun p3 => ?_)
  · exact ret2 (.slice none 0 0) (iv 1) rfl rfl ⟨xu, none, 0, 0, [], 1, rfl, .nil, Nat.le_refl _, .pre (preErr_arg (by omega) hokL fun hk => (argB_iff.1 hk).2.2.1 p3) (by decide)⟩
  refine ld (iv hr) (B9.cell rfl) ?_
  refine callB (c_hin (n := hr) (lo := 0) (hi := 4095)) (fun p4 => ?_) (fun p4 => ?_)
  rotate_left
  · exact ret2 (.slice none 0 0) (iv 1) rfl rfl ⟨xu, none, 0, 0, [], 1, rfl, .nil, Nat.le_refl _, .pre (preErr_arg (by omega) hokL fun hk => inI_not.1 p4 (argB_iff.1 hk).2.2.2.1) (by decide)⟩
  refine ld (iv litres) (B10.cell rfl) ?_
  refine callB (c_hin (n := litres) (lo := 1) (hi := 1073741824)) (fun p5 => ?_) (fun p5 => ?_)
  rotate_left
  · exact ret2 (.slice none 0 0) (iv 1) rfl rfl ⟨xu, none, 0, 0, [], 1, rfl, .nil, Nat.le_refl _, .pre (preErr_arg (by omega) hokL fun hk => inI_not.1 p5 (argB_iff.1 hk).2.2.2.2.1) (by decide)⟩
  refine ld (iv got) (B11.cell rfl) ?_
  refine callB (c_hin (n := got) (lo := 0) (hi := 1073741824)) (fun p6 => ?_) (fun p6 => ?_)
  rotate_left
  · exact ret2 (.slice none 0 0) (iv 1) rfl rfl ⟨xu, none, 0, 0, [], 1, rfl, .nil, Nat.le_refl _, .pre (preErr_arg (by omega) hokL fun hk => inI_not.1 p6 (argB_iff.1 hk).2.2.2.2.2) (by decide)⟩
  have harg : argB fr to hr litres got = true := argB_iff.2 ⟨inI_iff.1 p1, inI_iff.1 p2, p3, inI_iff.1 p4, inI_iff.1 p5, inI_iff.1 p6⟩
  have p1 := inI_iff.1 p1
  have p2 := inI_iff.1 p2
  have p4 := inI_iff.1 p4
  have p5 := inI_iff.1 p5
  have p6 := inI_iff.1 p6
  have hpe := preErr_has (fr := fr) (to := to) (hr := hr) (litres := litres) (got := got) (l := l) (by omega) hokL harg
  refine ld (iv litres) (B10.cell rfl) ?_
  refine cD (fun p7 => ?_) (fun p7 => ?_)
  · exact ret2 (.slice none 0 0) (iv 460) rfl rfl ⟨xu, none, 0, 0, [], 460, rfl, .nil, Nat.le_refl _, .pre (by rw [hpe, if_pos p7]) (by decide)⟩
  rw [if_neg p7] at hpe
  have zu2 := xu.size
  have lm := Mu.lt
  refine alloc (fun b18 v1 i1 => ?_)
  refine st1 i1.blk rfl (fun v2 B18 k18 => ?_)
  have e18 := i1.at_
  have B18 : Blk v2 b18 3 [iv 0] := B18
  have xv2 : Ext u v2 := i1.ext.then k18 fun b hb _ e => by omega
  have l18 := B18.lt
  refine call_of c_backC ?_
  rintro _ v3 ⟨bb, rfl, xv3, Bb, hbb⟩
  have zv2 := xv2.size
  have zv3 := xv3.size
  have lbb := Bb.lt
  refine range (gf := 37) (lb := #[ptr bb]) rfl (fun fn tmps w10 R hRR hF' hwf x10 z10 hD10 hl10 => ?_)
  show CallZ _ _ #[.func (.yield (v3.heap.size + 1)) #[] #[], ptr bb] w10 _
  have xu10 : Ext u w10 := (xv2.trans xv3).trans x10
  have x0 : Ext w w10 := xu.trans xu10
  have B7 := B7.ext xu10
  have B8 := B8.ext xu10
  have B9 := B9.ext xu10
  have B10 := B10.ext xu10
  have B11 := B11.ext xu10
  have B14 := B14.ext xu10
  have B18 := (B18.ext xv3).ext x10
  have Mu := Mu.kept xu10 trivial
  have hs10 : SlR tCm (fun b => b ≠ gm ∧ b ≠ b18 ∧ b ≠ v3.heap.size + 1) w10 A n l := (hs.kept (D' := fun _ => True) x0 fun b _ h => trivial).more (by decide) fun b _ h => ⟨by omega, by omega, by omega⟩
  have hb0 : backG fr to hr litres got l n = (0, allG l) := by unfold backG; rw [List.drop_of_length_le (by omega)]; rfl
  refine (c_backC1 (D := fun b => b ≠ gm ∧ b ≠ b18 ∧ b ≠ v3.heap.size + 1) (fun k y => LoopAt y (v3.heap.size + 1) R ∧ Blk y b18 3 [iv (backG fr to hr litres got l k).1] ∧ MapT y gm (backG fr to hr litres got l k).2) hs10 (Bb.ext x10) ⟨by omega, by omega, by omega⟩ ?_ ⟨hl10, by rw [hb0]; exact B18, by rw [hb0]; exact Mu⟩).mono ?_
  · rintro i y r hri ⟨ly, B18, My⟩ ky
    have hi : i < n := by have := (List.getElem?_eq_some_iff.1 hri).1; omega
    have hcr := hokL.1 r (List.mem_of_getElem? hri)
    have hcr' := claimB_iff.1 hcr
    have hbd := back_b (fr := fr) (to := to) (hr := hr) (litres := litres) (got := got) hokL.1 p5.1 p5.2 p6.1 p6.2 (k := n - (i + 1)) (by omega)
    rw [hlen, show n - (n - (i + 1)) = i + 1 by omega] at hbd
    have hstep := backG_step (fr := fr) (to := to) (hr := hr) (litres := litres) (got := got) hri
    obtain ⟨s, hsdef⟩ : ∃ s, s = backG fr to hr litres got l (i + 1) := ⟨_, rfl⟩
    rw [← hsdef] at hbd hstep B18 My
    clear hsdef
    subst hRR
    have lyl := ly.lt
    have zy := ky.size
    have my := My.lt
    have l18 := B18.lt
    refine yield_rule (args := [iv (i : Int), .agg (encJ r).toArray]) ly rfl rfl hF' hwf ?_
    refine alloc (fun b20 u1 q1 => ?_)
    refine stA (vs := encJ r) q1.blk rfl (Nat.le_of_ble_eq_true rfl) (by simp [Value.oneCell']) (fun u2 B20 k2 zs => ?_)
    have e20 := q1.at_
    have B20 : Blk u2 b20 60 (encJ r) := B20
    have xy2 : Ext y u2 := q1.ext.then k2 fun b hb _ e => by omega
    refine mid' (ly.kept xy2 trivial) (fun u3 k3 zk3 l3 => ?_)
    have zxy2 := xy2.size
    have ky3 : Kept (fun b => b ≠ v3.heap.size + 1) y u3 := (Ext.any xy2).then k3 fun b _ h => h
    have k03 : Kept (fun b => b ≠ gm ∧ b ≠ b18 ∧ b ≠ v3.heap.size + 1) w10 u3 := ky.then ky3 fun b _ h => h.2.2
    have B20 := B20.kept k3 (by omega)
    have B18 := B18.kept ky3 (by omega)
    have My := My.kept ky3 (by omega)
    have B7 := B7.kept k03 ⟨by omega, by omega, by omega⟩
    have B8 := B8.kept k03 ⟨by omega, by omega, by omega⟩
    have B9 := B9.kept k03 ⟨by omega, by omega, by omega⟩
    have B10 := B10.kept k03 ⟨by omega, by omega, by omega⟩
    have B11 := B11.kept k03 ⟨by omega, by omega, by omega⟩
    have B14 := B14.kept k03 ⟨by omega, by omega, by omega⟩
    have skip : ¬ (r.farm = fr ∧ r.hour = hr) → ∀ y2, Kept (fun b => b ≠ v3.heap.size + 1) u3 y2 → Blk y2 b18 3 [iv (backG fr to hr litres got l i).1] ∧ MapT y2 gm (backG fr to hr litres got l i).2 := fun h y2 k => by
      rw [hstep]
      unfold bstep
      rw [if_neg h]
      exact ⟨B18.kept k (by omega), My.kept k (by omega)⟩
    refine fldA ?_
    refine ld (iv r.farm) (B20.cell rfl) ?_
    refine ld (iv fr) (B7.cell rfl) ?_
    refine cN (fun q1 => ?_) (fun q1 => ?_)
    · refine roundN' _ l3 (fun u4 k4 l4 => ?_)
      exact ⟨rfl, ⟨l4, skip (fun h => q1 h.1) u4 k4⟩, (ky3.trans k4).weak fun b _ h => h.2.2⟩
    refine fldA ?_
    refine ld (iv r.hour) (B20.cell rfl) ?_
    refine ld (iv hr) (B9.cell rfl) ?_
    refine cN (fun q2 => ?_) (fun q2 => ?_)
    · refine roundN' _ l3 (fun u4 k4 l4 => ?_)
      exact ⟨rfl, ⟨l4, skip (fun h => q2 h.2) u4 k4⟩, (ky3.trans k4).weak fun b _ h => h.2.2⟩
    clear skip
    obtain ⟨⟨hs0, hs1⟩, hsb⟩ := hbd
    refine fldA ?_
    refine ld (iv r.litres) (B20.cell rfl) ?_
    refine ld (iv litres) (B10.cell rfl) ?_
    refine ld (iv s.1) (B18.cell rfl) ?_
    refine arI (by omega) ?_
    refine ldA (encJ r) (.blk B20) rfl ?_
    refine call_of (c_hof r) ?_
    rintro _ u4 ⟨rfl, xu4⟩
    refine alloc (fun b22 u5 q5 => ?_)
    refine stA (vs := [iv r.hour, iv r.rank, iv r.right, iv r.farm]) q5.blk rfl (Nat.le_of_ble_eq_true rfl) (by simp [Value.oneCell']) (fun u6 B22 k6 zs6 => ?_)
    have e22 := q5.at_
    have B22 : Blk u6 b22 73 [iv r.hour, iv r.rank, iv r.right, iv r.farm] := B22
    have x36 : Ext u3 u6 := (xu4.trans q5.ext).then k6 fun b hb _ e => by have := xu4.size; omega
    have z36 := x36.size
    have z34 := xu4.size
    have l22 := B22.lt
    have M6 := My.kept x36 trivial
    have lM := My.lt
    obtain ⟨V0, hV0⟩ : ∃ V0, V0 = (s.2 r.ti).getD 0 := ⟨_, rfl⟩
    have hV0b := getD_b hsb (by omega) r.ti
    rw [← hV0] at hV0b
    have hV0v : ((s.2 r.ti).map iv).getD (iv 0) = iv V0 := by rw [hV0]; exact getD_iv _ _
    refine drawP (.take 0 (.take 1 (.take 2 (.take 3 (.take 4 (.eff 5 (.take 6 (.bar (.eff 7 .done))))))))) [7] (fun y => Kept (fun b => b ≠ gm) u6 y ∧ ∃ f', MapG kv4 y gm f' ∧ (f' r.ti).getD (iv 0) = iv V0) mx (by kernel_rfl) ⟨.refl _ _, _, M6.g, hV0v⟩ ?_
    refine ldS (.map (some gm)) (fun y hy => hy.1.cell ((B14.ext x36).cell rfl) (show b14 ≠ gm by omega)) ?_
    refine ldAS [iv r.hour, iv r.rank, iv r.right, iv r.farm] (fun y hy => (CellsAt.blk B22).kept hy.1 (show b22 ≠ gm by omega)) rfl ?_
    refine lookG1 (kv := kv4) r.ti (iv V0) (fun y hy => hy.2) ?_
    refine arI (n := V0 - min r.litres (litres - s.1)) (by omega) ?_
    refine mentU (kv := kv4) r.ti M6 (fun u7 s7 MS k7 zs7 => ?_)
    refine strS ⟨k7, _, MS.g.g, ?_⟩ ?_
    · unfold pset
      rw [if_pos rfl]
      exact hV0v
    refine barS (fun _ => True) trivial ?_
    refine estoU MS (fun u8 M8 k8 zs8 => ?_)
    refine strS trivial ?_
    have M8 : MapT u8 gm (iset s.2 r.ti (V0 - min r.litres (litres - s.1))) := by
      rw [pset_pset] at M8
      unfold MapT
      rw [← iset_pset]
      exact M8
    obtain ⟨g1', hg1'⟩ : ∃ g, g = iset s.2 r.ti (V0 - min r.litres (litres - s.1)) := ⟨_, rfl⟩
    rw [← hg1'] at M8
    have k68 := k7.trans k8
    have k38 : Kept (fun b => b ≠ gm) u3 u8 := (Ext.any x36).trans k68
    have B22 := B22.kept k68 (by omega)
    have z38 := k38.size
    refine ld (iv to) ((B8.kept k38 (by omega)).cell rfl) ?_
    refine fldA ?_
    refine st (v := iv to) B22 (by simp) rfl (fun u9 B229 k9 zs9 => ?_)
    have B229 : Blk u9 b22 73 [iv r.hour, iv r.rank, iv r.right, iv to] := B229
    have M9 := M8.kept k9 (show gm ≠ b22 by omega)
    have k39 : Kept (fun b => b ≠ gm ∧ b ≠ b22) u3 u9 := (k38.weak fun b _ h => h.1).then k9 fun b _ h => h.2
    have z39 := k39.size
    have k69 : Kept (fun b => b ≠ gm ∧ b ≠ b22) u3 u9 := k39
    have l18 := B18.lt
    have B189 := B18.kept k39 ⟨by omega, by omega⟩
    have B119 := B11.kept k39 ⟨by omega, by omega⟩
    have B109 := B10.kept k39 ⟨by omega, by omega⟩
    have B149 := B14.kept k39 ⟨by omega, by omega⟩
    obtain ⟨V1, hV1⟩ : ∃ V1, V1 = (g1' (r.hour, r.rank, r.right, to)).getD 0 := ⟨_, rfl⟩
    have hV1b := getD_b (iset_b (a := r.ti) (n := V0 - min r.litres (litres - s.1)) (C := 1073741824 * (2 * ((n - (i + 1) : Nat) : Int) + 2)) hsb (by omega) (by omega)) (by omega) (r.hour, r.rank, r.right, to)
    rw [← hg1', ← hV1] at hV1b
    have hV1v : ((g1' (r.hour, r.rank, r.right, to)).map iv).getD (iv 0) = iv V1 := by rw [hV1]; exact getD_iv _ _
    have hgb := gain_b (a := s.1) (n := min r.litres (litres - s.1)) (got := got) (litres := litres) (by omega) (by omega) (by omega) (by omega) (by omega) (by omega)
    have hm1 : 0 ≤ (s.1 + min r.litres (litres - s.1)) * got ∧ (s.1 + min r.litres (litres - s.1)) * got ≤ 1073741824 * 1073741824 := ⟨Int.mul_nonneg (by omega) (by omega), Int.mul_le_mul (by omega) (by omega) (by omega) (by omega)⟩
    have hm0 : 0 ≤ s.1 * got ∧ s.1 * got ≤ 1073741824 * 1073741824 := ⟨Int.mul_nonneg (by omega) (by omega), Int.mul_le_mul (by omega) (by omega) (by omega) (by omega)⟩
    refine drawP (.take 0 (.take 1 (.take 2 (.take 3 (.take 4 (.take 5 (.take 6 (.take 7 (.take 8 (.take 9 (.take 10 (.take 11 (.take 12 (.take 13 (.take 14 (.take 15 (.take 16 (.eff 17 (.take 18 (.bar (.eff 19 .done))))))))))))))))))))) [19] (fun y => Kept (fun b => b ≠ gm) u9 y ∧ ∃ f', MapG kv4 y gm f' ∧ (f' (r.hour, r.rank, r.right, to)).getD (iv 0) = iv V1) mx (by kernel_rfl) ⟨.refl _ _, _, M9.g, hV1v⟩ ?_
    refine ldS (.map (some gm)) (fun y hy => hy.1.cell (B149.cell rfl) (show b14 ≠ gm by omega)) ?_
    refine ldAS [iv r.hour, iv r.rank, iv r.right, iv to] (fun y hy => (CellsAt.blk B229).kept hy.1 (show b22 ≠ gm by omega)) rfl ?_
    refine lookG1 (kv := kv4) (r.hour, r.rank, r.right, to) (iv V1) (fun y hy => hy.2) ?_
    refine ldS (iv s.1) (fun y hy => hy.1.cell (B189.cell rfl) (show b18 ≠ gm by omega)) ?_
    refine arI (n := s.1 + min r.litres (litres - s.1)) (by omega) ?_
    refine ldS (iv got) (fun y hy => hy.1.cell (B119.cell rfl) (show b11 ≠ gm by omega)) ?_
    refine arI (n := (s.1 + min r.litres (litres - s.1)) * got) (by omega) ?_
    refine ldS (iv litres) (fun y hy => hy.1.cell (B109.cell rfl) (show b10 ≠ gm by omega)) ?_
    refine quoI (a := (s.1 + min r.litres (litres - s.1)) * got) (by omega) (by omega) (by omega) ?_
    refine ldS (iv s.1) (fun y hy => hy.1.cell (B189.cell rfl) (show b18 ≠ gm by omega)) ?_
    refine ldS (iv got) (fun y hy => hy.1.cell (B119.cell rfl) (show b11 ≠ gm by omega)) ?_
    refine arI (n := s.1 * got) (by omega) ?_
    refine ldS (iv litres) (fun y hy => hy.1.cell (B109.cell rfl) (show b10 ≠ gm by omega)) ?_
    refine quoI (a := s.1 * got) (by omega) (by omega) (by omega) ?_
    refine arI (n := (s.1 + min r.litres (litres - s.1)) * got / litres - s.1 * got / litres) (by omega) ?_
    refine arI (n := V1 + ((s.1 + min r.litres (litres - s.1)) * got / litres - s.1 * got / litres)) (by omega) ?_
    refine mentU (kv := kv4) (r.hour, r.rank, r.right, to) M9 (fun ua sa MS ka zsa => ?_)
    refine strS ⟨ka, _, MS.g.g, ?_⟩ ?_
    · unfold pset
      rw [if_pos rfl]
      exact hV1v
    refine barS (fun _ => True) trivial ?_
    refine estoU MS (fun ub Mb kb zsb => ?_)
    refine strS trivial ?_
    have Mb : MapT ub gm (iset g1' (r.hour, r.rank, r.right, to) (V1 + ((s.1 + min r.litres (litres - s.1)) * got / litres - s.1 * got / litres))) := by
      rw [pset_pset] at Mb
      unfold MapT
      rw [← iset_pset]
      exact Mb
    have k9b := ka.trans kb
    have B18b := B189.kept k9b (show b18 ≠ gm by omega)
    have z9b := k9b.size
    refine ld (iv s.1) (B18b.cell rfl) ?_
    refine arI (n := s.1 + min r.litres (litres - s.1)) (by omega) ?_
    refine st1 B18b rfl (fun uc B18c kc => ?_)
    have k3c : Kept (fun b => b ≠ gm ∧ b ≠ b22 ∧ b ≠ b18) u3 uc := ((k39.weak fun b _ h => ⟨h.1, h.2.1⟩).then k9b fun b _ h => h.1).then kc fun b _ h => h.2.2
    refine roundN' _ (l3.kept k3c ⟨by omega, by omega, by omega⟩) (fun ud kd ld => ?_)
    have k3d : Kept (fun b => b ≠ gm ∧ b ≠ b22 ∧ b ≠ b18 ∧ b ≠ v3.heap.size + 1) u3 ud := (k3c.weak fun b _ h => ⟨h.1, h.2.1, h.2.2.1⟩).then kd fun b _ h => h.2.2.2
    refine ⟨rfl, ⟨ld, ?_, ?_⟩, (ky3.weak fun b _ h => h.2.2).then k3d fun b hb h => ⟨h.1, by omega, h.2.1, h.2.2⟩⟩
    · rw [hstep]
      unfold bstep
      rw [if_pos ⟨q1, q2⟩]
      exact B18c.kept kd (by omega)
    · rw [hstep]
      unfold bstep
      rw [if_pos ⟨q1, q2⟩]
      have := (Mb.kept kc (show gm ≠ b18 by omega)).kept kd (show gm ≠ _ by omega)
      rw [hV1, hg1', hV0] at this
      exact this
  · rintro _ y ⟨⟨ly, B18, My⟩, ky⟩
    subst hRR
    have lyl := ly.lt
    have zy := ky.size
    have my := My.lt
    refine range_end _ ly (by simp) (fun y1 k1 => ?_)
    have k01 : Kept (fun b => b ≠ gm ∧ b ≠ b18 ∧ b ≠ v3.heap.size + 1) w10 y1 := ky.then k1 fun b _ h => h.2.2
    have z01 := k01.size
    have B14 := B14.kept k01 ⟨by omega, by omega, by omega⟩
    have My := My.kept k1 (by omega)
    have xw1 : Ext w y1 := x0.then k01 fun b hb _ => ⟨by omega, by omega, by omega⟩
    have hD1 : y1.heap[v3.heap.size]? = some (.deferred (some [])) := (k01.blk _ (by omega) ⟨by omega, by omega, by omega⟩).trans hD10
    change MapT y1 gm (endG fr to hr litres got l) at My
    obtain ⟨L, cL, EL, hLu, hL⟩ := My
    refine ld (.map (some gm)) (B14.cell rfl) ?_
    refine rngM (kv := kv4) (t := 69) rfl EL (fun y2 E2 I2 x12 z12 => ?_)
    obtain ⟨it, hit⟩ : ∃ it, it = y1.heap.size := ⟨_, rfl⟩
    rw [← hit] at I2 ⊢
    have hL : ∀ t, lookP (kv4 t) L = (endG fr to hr litres got l t).map iv := hL
    have egm := EL.at_
    have lgm : gm < y1.heap.size := (Array.getElem?_eq_some_iff.1 egm).1
    have hent : ∀ e ∈ L, ∃ t n, e.key = kv4 t ∧ e.val = iv n ∧ endG fr to hr litres got l t = some n := fun e he => by
      obtain ⟨t, ht⟩ := EL.keys e he
      have h1 := look_own hLu he
      rw [ht, hL] at h1
      cases hg : endG fr to hr litres got l t with
      | none => rw [hg] at h1; cases h1
      | some n => rw [hg] at h1; injection h1 with h1; exact ⟨t, n, ht, h1.symm, hg⟩
    have hlen2 : ∀ seen xs, RI L seen xs → xs.length ≤ 8192 := fun seen xs h => by
      have := nodup_le (b := l.map Cm.ti ++ l.map fun c => ((c.hour, c.rank, c.right, to) : Ti)) h.1 fun t ht => by
        obtain ⟨c, hc, rfl⟩ := List.mem_map.1 ht
        obtain ⟨e, he, -, hk, -⟩ := (h.2.1 c).1 hc
        obtain ⟨t, n, h1, -, h2⟩ := hent e he
        rw [hk] at h1
        rw [kv4_inj h1]
        exact endG_in h2
      rw [List.length_append, List.length_map, List.length_map, List.length_map] at this
      omega
    refine loop4 (fun (_ : List Nat × List Cm) (B : Option Addr) (m cm : Nat) => [(12, .slice B m cm)]) (fun sx B m cm u => OwnF y1 u B m cm 60 5 (sx.2.flatMap encJ) ∧ m = sx.2.length ∧ Ents kv4 u gm L cL ∧ IterM u it gm cL sx.1 ∧ RI L sx.1 sx.2) (fun sx _ _ _ _ => (L.filter fun x => !sx.1.contains x.born).length) ([], []) none 0 0 ⟨rfl, trivial⟩ ⟨OwnF.nil x12, rfl, E2, I2, RI.nil⟩ rfl ?_
    rintro G ⟨seen, xs⟩ B m cm u ⟨own, hm, Eu, Iu, hRI⟩
    have hm : m = xs.length := hm
    have own : OwnF y1 u B m cm 60 5 (xs.flatMap encJ) := own
    have hxl := hlen2 _ _ hRI
    have zu := own.ext.size
    have liu : it < u.heap.size := (Array.getElem?_eq_some_iff.1 Iu).1
    have hBit : ∀ g, B = some (ad g 0) → g ≠ it := by
      rintro g rfl rfl
      obtain ⟨rest, Bg, -⟩ := own.own.blk
      have h1 : u.heap[g]? = some (.cells _ _ _) := Bg
      have h2 : u.heap[g]? = some _ := Iu
      rw [h1] at h2
      cases h2
    refine nxtM (kv := kv4) rfl Eu Iu (fun hall => ?_) (fun e he hns u1 Eu1 Iu1 ku1 zu1 => ?_)
    · have hle : ∀ t n, endG fr to hr litres got l t = some n → n ≤ 1073741824 := fun t n h => by
        have h1 := hL t
        rw [h] at h1
        obtain ⟨e, he, h2, h3⟩ := look_has h1
        exact hRI.2.2 e he (hall e he) n h3
      have hmem : ∀ c, c ∈ xs ↔ endG fr to hr litres got l c.ti = some c.litres ∧ 0 < c.litres := fun c => by
        rw [hRI.2.1]
        constructor
        · rintro ⟨e, he, -, hk, hv, hn⟩
          have h1 := look_own hLu he
          rw [hk, hL, hv] at h1
          refine ⟨?_, hn⟩
          cases hg : endG fr to hr litres got l c.ti with
          | none => rw [hg] at h1; cases h1
          | some n => rw [hg] at h1; injection h1 with h1; injection h1 with _ h1; rw [h1]
        · rintro ⟨h, hn⟩
          have h1 := hL c.ti
          rw [h] at h1
          obtain ⟨e, he, h2, h3⟩ := look_has h1
          exact ⟨e, he, hall e he, h2, h3, hn⟩
      have hD2 : u.heap[v3.heap.size]? = some (.deferred (some [])) := (own.ext.blk _ (by omega) trivial).trans hD1
      have xwu : Ext w u := xw1.trans own.ext
      have k2 := Kept.putObj u v3.heap.size (.deferred none)
      have xF : Ext w (u.putObj v3.heap.size (.deferred none)) := xwu.then k2 fun b hb _ => by omega
      refine len ?_
      refine cD (fun h4 => ?_) (fun h4 => ?_)
      · refine retM hD2 ?_
        exact ⟨xF, none, 0, 0, [], 2, rfl, .nil, Nat.le_refl _, .inr ⟨hpe, .inr ⟨hle, xs, hRI.1, hmem, .inl ⟨by omega, rfl, rfl⟩⟩⟩⟩
      · rcases own.form with ⟨rfl, h0, rfl⟩ | ⟨g, rfl, hg1, hg2, hc1⟩
        · have hx0 : xs = [] := List.eq_nil_of_length_eq_zero (by omega)
          subst hx0
          have hm0 : m = 0 := hm
          subst hm0
          refine call_of c_sort0 ?_
          rintro _ u2 ⟨rfl, rfl⟩
          refine retM hD2 ?_
          exact ⟨xF, none, 0, 0, [], 0, rfl, .nil, Nat.le_refl _, .inr ⟨hpe, .inr ⟨hle, [], hRI.1, hmem, .inr ⟨by simp, rfl, rfl, .nil⟩⟩⟩⟩
        · obtain ⟨rest, Bg, hBl, -⟩ := own.own.blk
          refine call_of (c_sortM (s := xs) Bg hm (by omega) hRI.1) ?_
          rintro _ u2 ⟨rfl, ys, hp, hpw, Bs, ks⟩
          have hD3 : u2.heap[v3.heap.size]? = some (.deferred (some [])) := (ks.blk _ (by omega) (by omega)).trans hD2
          have k3 := Kept.putObj u2 v3.heap.size (.deferred none)
          refine retM hD3 ?_
          have xF : Ext w (u2.putObj v3.heap.size (.deferred none)) := (xwu.then ks fun b hb _ => by omega).then k3 fun b hb _ => by omega
          have Bs := Bs.kept k3 (by omega)
          have hyl : ys.length = m := by rw [hp.length_eq, hm]
          have hS : SlR tCm (fun b => w.heap.size ≤ b) (u2.putObj v3.heap.size (.deferred none)) (some (ad g 0)) m ys := SlR.of_cells (cs := ys.flatMap encJ) hyl.symm (by omega) (by omega) (fun j v hv => by rw [Nat.zero_add]; exact Bs.cell (by rw [List.getElem?_append_left (List.getElem?_eq_some_iff.1 hv).1]; exact hv)) flat_cms
          exact ⟨xF, some (ad g 0), m, cm, ys, 0, rfl, hS, hc1, .inr ⟨hpe, .inr ⟨hle, ys, (hp.map _).nodup_iff.2 hRI.1, fun c => (hp.mem_iff).trans (hmem c), .inr ⟨by omega, rfl, rfl, hpw⟩⟩⟩⟩
    · obtain ⟨t, k, hek, hev, hend⟩ := hent e he
      refine entM (kv := kv4) rfl Eu1 he Iu1 ?_
      rw [hek, hev]
      have hlt := left_ltJ he hns
      refine alloc (fun b23 u2 q2 => ?_)
      refine stA (vs := [iv t.1, iv t.2.1, iv t.2.2.1, iv t.2.2.2]) q2.blk rfl (Nat.le_of_ble_eq_true rfl) (by simp [Value.oneCell']) (fun u3 B23 k3 zs3 => ?_)
      have e23 := q2.at_
      have B23 : Blk u3 b23 73 [iv t.1, iv t.2.1, iv t.2.2.1, iv t.2.2.2] := B23
      have x13 : Ext u1 u3 := q2.ext.then k3 fun b hb _ e => by omega
      have kub : Kept (fun b => b ≠ it) u u3 := ku1.then x13 fun _ _ _ => trivial
      have xy13 : Ext y1 u3 := own.ext.then kub fun b hb _ => by omega
      have own3 : OwnF y1 u3 B m cm 60 5 (xs.flatMap encJ) := own.thenK kub (fun g hg => hBit g hg) xy13
      have E3 := Eu1.kept x13 trivial
      have I3 := Iu1.kept x13 trivial
      refine cD (fun h4 => ?_) (fun h4 => ?_)
      · have hD3 : u3.heap[v3.heap.size]? = some (.deferred (some [])) := (xy13.blk _ (by omega) trivial).trans hD1
        have k4 := Kept.putObj u3 v3.heap.size (.deferred none)
        refine retM hD3 ?_
        exact ⟨(xw1.trans xy13).then k4 fun b hb _ => by omega, none, 0, 0, [], 460, rfl, .nil, Nat.le_refl _, .inr ⟨hpe, .inl ⟨rfl, rfl, t, k, hend, by omega⟩⟩⟩
      refine cD (fun h5 => ?_) (fun h5 => ?_)
      · refine fldA ?_
        refine ld (iv t.2.2.1) (B23.cell rfl) ?_
        refine fldA ?_
        refine ld (iv t.2.2.2) (B23.cell rfl) ?_
        refine fldA ?_
        refine ld (iv t.1) (B23.cell rfl) ?_
        refine fldA ?_
        refine ld (iv t.2.1) (B23.cell rfl) ?_
        refine bld [iv t.2.2.1, iv t.2.2.2, iv t.1, iv k, iv t.2.1] (by kernel_rfl) ?_
        refine lit [.agg [iv t.2.2.1, iv t.2.2.2, iv t.1, iv k, iv t.2.1].toArray] (fun gg u4 hq => ?_)
        have own4 := own3.then hq.ext
        have lI := (Array.getElem?_eq_some_iff.1 I3).1
        refine appF own4 (hq.src (sz := 5) rfl) (by omega) (fun B' e' u5 q5 kk hA => ?_)
        have hne : B ≠ some (ad it 0) := fun h => hBit it h rfl
        have hgm : B ≠ some (ad gm 0) := fun h => by have := own.new gm h; omega
        refine next4 (seen ++ [e.born], xs ++ [⟨t.2.2.1, t.2.2.2, t.1, k, t.2.1⟩]) B' (m + 1) e' ⟨rfl, trivial⟩ ⟨?_, ?_, (E3.kept hq.ext trivial).kept kk hgm, (I3.kept hq.ext trivial).kept kk hne, ?_⟩ hlt
        · show OwnF y1 u5 B' (m + 1) e' 60 5 ((xs ++ [(⟨t.2.2.1, t.2.2.2, t.1, k, t.2.1⟩ : Cm)]).flatMap encJ)
          rw [List.flatMap_append]
          exact q5
        · show m + 1 = (xs ++ [_]).length
          rw [List.length_append, hm]; rfl
        · exact hRI.snoc EL.born hLu he hns hek hev (by show 0 < k; omega) (by show k ≤ 1073741824; omega)
      · exact next4 (seen ++ [e.born], xs) B m cm ⟨rfl, trivial⟩ ⟨own3, hm, E3, I3, hRI.skip EL.born he hev (by omega)⟩ hlt
end
end Go.Proofs.Ytcpogcdadlcdaaa

/- Layer 46: Same; Retitle at the laws' claims; the laws' example. -/
namespace Go.Proofs.Ytcpogcdadlcdaaa
open Go Go.RowKit Classical

instance eqClaim : EqTy Try.prog 60 := ⟨by kernel_rfl⟩
section
variable {D : Nat → Prop} {w : World}
theorem c_h46Same {xs ys : List Int} {A B : Option Addr} {n c n' c' : Nat} (hl : SlR tInt D w A n xs) (hm : SlR tInt D w B n' ys) : CallZ Try.prog 14 #[.slice A n c, .slice B n' c'] w (fun v w' => v = .bool (decide (xs = ys)) ∧ w' = w) := by
  have l1 := hl.len
  have l2 := hm.len
  have e1 := hl.le
  refine fn_rule (args := [.slice A n c, .slice B n' c']) Try.func14 (by kernel_rfl) ?_
  refine len ?_
  refine len ?_
  refine cN (fun q => ?_) (fun q => ?_)
  · exact ret1 (.bool false) rfl ⟨by rw [decide_eq_false fun h => q (by subst h; omega)], rfl⟩
  have q : n = n' := by omega
  refine loop_rule (fun k : Nat => [(5, iv (k : Int))]) (fun k u => k ≤ n ∧ w = u ∧ ∀ i, i < k → xs[i]? = ys[i]?) (fun k _ => n - k) 0 ⟨rfl, trivial⟩ ⟨by omega, rfl, fun i hi => by omega⟩ rfl ?_
  rintro G k u ⟨hk, rfl, hs⟩
  refine len ?_
  refine cD (fun hlt => ?_) (fun hge => ?_)
  · have hlt : k < n := by omega
    obtain ⟨b, o, cs, a, rfl, ha, -, -, hc, rfl, -⟩ := hl.at_ hlt
    obtain ⟨b', o', cs', a', rfl, ha', -, -, hc', rfl, -⟩ := hm.at_ (k := k) (by omega)
    refine drawX [0, 1, 2, 3, 4, 5, 6, 7, 8] [] mx (by kernel_rfl) ?_
    refine idx k rfl hlt ?_
    refine ldX (iv a) (hc 0 _ rfl) (.refl _ _) ?_
    refine idx k rfl (by omega) ?_
    refine ldX (iv a') (hc' 0 _ rfl) (.refl _ _) ?_
    refine cN (fun g => ?_) (fun g => ?_)
    · refine ret1 (.bool false) rfl ⟨?_, rfl⟩
      rw [decide_eq_false]
      rintro rfl
      rw [ha] at ha'; injection ha' with ha'; exact g ha'
    · refine arI (by omega) ?_
      refine next (k + 1) ⟨by rw [Int.natCast_add]; rfl, trivial⟩ ⟨by omega, rfl, fun i hi => ?_⟩ (by omega)
      by_cases e : i = k
      · subst e; rw [ha, ha', g]
      · exact hs i (by omega)
  · refine ret1 (.bool true) rfl ⟨?_, rfl⟩
    rw [decide_eq_true]
    apply List.ext_getElem?
    intro i
    by_cases hi : i < n
    · exact hs i (by omega)
    · rw [List.getElem?_eq_none (by omega), List.getElem?_eq_none (by omega)]
theorem c_Same26 {xs ys : List Cm} {A B : Option Addr} {n c n' c' : Nat} (hl : SlR tCm D w A n xs) (hm : SlR tCm D w B n' ys) : CallZ Try.prog 10 #[.slice A n c, .slice B n' c'] w (fun v w' => v = .bool (decide (xs = ys)) ∧ w' = w) := by
  have l1 := hl.len
  have l2 := hm.len
  have e1 := hl.le
  refine fn_rule (args := [.slice A n c, .slice B n' c']) Try.func10 (by kernel_rfl) ?_
  refine len ?_
  refine len ?_
  refine cN (fun q => ?_) (fun q => ?_)
  · exact ret1 (.bool false) rfl ⟨by rw [decide_eq_false fun h => q (by subst h; omega)], rfl⟩
  have q : n = n' := by omega
  refine loop_rule (fun k : Nat => [(5, iv (k : Int))]) (fun k u => k ≤ n ∧ w = u ∧ ∀ i, i < k → xs[i]? = ys[i]?) (fun k _ => n - k) 0 ⟨rfl, trivial⟩ ⟨by omega, rfl, fun i hi => by omega⟩ rfl ?_
  rintro G k u ⟨hk, rfl, hs⟩
  refine len ?_
  refine cD (fun hlt => ?_) (fun hge => ?_)
  · have hlt : k < n := by omega
    obtain ⟨b, o, cs, a, rfl, ha, -, -, hc, rfl⟩ := hl.at_ hlt
    obtain ⟨b', o', cs', a', rfl, ha', -, -, hc', rfl⟩ := hm.at_ (k := k) (by omega)
    refine drawP (.take 0 (.take 1 (.take 2 (.take 3 (.take 4 (.take 5 (.take 6 (.take 7 (.take 8 .done))))))))) [] (fun y => Ext w y) mx (by kernel_rfl) (.refl _ _) ?_
    refine idx k rfl hlt ?_
    refine ldAK (encJ a) hc rfl trivial (.refl _ _) ?_
    refine idx k rfl (by omega) ?_
    refine ldAK (encJ a') hc' rfl trivial (.refl _ _) ?_
    refine neS ((a.right == a'.right) && ((a.farm == a'.farm) && ((a.hour == a'.hour) && ((a.litres == a'.litres) && ((a.rank == a'.rank) && true))))) (by kernel_rfl) (fun g => ?_) (fun g => ?_)
    · refine ret1 (.bool false) rfl ⟨?_, rfl⟩
      rw [decide_eq_false]
      rintro rfl
      rw [ha] at ha'; injection ha' with ha'; subst ha'; simp at g
    · refine arI (by omega) ?_
      refine next (k + 1) ⟨by rw [Int.natCast_add]; rfl, trivial⟩ ⟨by omega, rfl, fun i hi => ?_⟩ (by omega)
      by_cases e : i = k
      · subst e
        rw [ha, ha']
        obtain ⟨a1, a2, a3, a4, a5⟩ := a
        obtain ⟨b1, b2, b3, b4, b5⟩ := a'
        simp at g
        obtain ⟨rfl, rfl, rfl, rfl, rfl⟩ := g
        rfl
      · exact hs i (by omega)
  · refine ret1 (.bool true) rfl ⟨?_, rfl⟩
    rw [decide_eq_true]
    apply List.ext_getElem?
    intro i
    by_cases hi : i < n
    · exact hs i (by omega)
    · rw [List.getElem?_eq_none (by omega), List.getElem?_eq_none (by omega)]
end
/-! ### Retitle at the laws' claims -/
theorem sorted_uniq : ∀ {a b : List Cm}, a.Pairwise (fun a b => ltT a.ti b.ti) → b.Pairwise (fun a b => ltT a.ti b.ti) → (∀ c, c ∈ a ↔ c ∈ b) → a = b
  | [], [], _, _, _ => rfl
  | [], y :: b, _, _, h => by have := (h y).2 List.mem_cons_self; cases this
  | x :: a, [], _, _, h => by have := (h x).1 List.mem_cons_self; cases this
  | x :: a, y :: b, ha, hb, h => by
    rw [List.pairwise_cons] at ha hb
    have e : x = y := by
      rcases List.mem_cons.1 ((h x).1 List.mem_cons_self) with h1 | h1
      · exact h1
      · rcases List.mem_cons.1 ((h y).2 List.mem_cons_self) with h2 | h2
        · exact h2.symm
        · exact absurd (ltT_trans (ha.1 y h2) (hb.1 x h1)) ltT_irrefl
    subst e
    rw [sorted_uniq ha.2 hb.2 fun c => ?_]
    have hc := h c
    rw [List.mem_cons, List.mem_cons] at hc
    constructor
    · intro q
      rcases hc.1 (.inr q) with e | q'
      · subst e; exact absurd (ha.1 c q) ltT_irrefl
      · exact q'
    · intro q
      rcases hc.2 (.inr q) with e | q'
      · subst e; exact absurd (hb.1 c q) ltT_irrefl
      · exact q'
def cm46 : List Cm := [⟨0, 0, 0, 10, 3⟩]
theorem ret46 {x : List Cm} {e : Int} (h : RetR 0 1 0 4 3 cm46 x e) : x = [⟨0, 0, 0, 6, 3⟩, ⟨0, 1, 0, 3, 3⟩] ∧ e = 0 := by
  have ok : ClaimsOk cm46 := ⟨fun c hc => by rw [cm46, List.mem_singleton] at hc; subst hc; rfl, by unfold cm46; exact List.pairwise_singleton _ _⟩
  have hp : preErr 0 1 0 4 3 cm46 = 0 := by
    rw [preErr_has (by decide) ok (by decide)]
    rfl
  have hE : endG 0 1 0 4 3 cm46 = iset (iset (allG cm46) (0, 3, 0, 0) 6) (0, 3, 0, 1) 3 := by
    have hA : allG cm46 = iset (fun _ => none) (0, 3, 0, 0) 10 := rfl
    have e1 : allG cm46 (0, 3, 0, 0) = some 10 := by rw [hA]; exact if_pos rfl
    have e2 : allG cm46 (0, 3, 0, 1) = none := by rw [hA]; exact if_neg (by decide)
    unfold endG backG
    show (bstep 0 1 0 4 3 (0, allG cm46) ⟨0, 0, 0, 10, 3⟩).2 = _
    unfold bstep
    rw [if_pos ⟨rfl, rfl⟩]
    show iset (iset (allG cm46) (0, 3, 0, 0) ((allG cm46 (0, 3, 0, 0)).getD 0 - _)) (0, 3, 0, 1) (((iset (allG cm46) (0, 3, 0, 0) _) (0, 3, 0, 1)).getD 0 + _) = _
    rw [show ∀ n, (iset (allG cm46) (0, 3, 0, 0) n) (0, 3, 0, 1) = none from fun n => (if_neg (by decide)).trans e2, e1]
    rfl
  have hg : ∀ t n, endG 0 1 0 4 3 cm46 t = some n ↔ (t = (0, 3, 0, 1) ∧ n = 3) ∨ (t = (0, 3, 0, 0) ∧ n = 6) := fun t n => by
    rw [hE]
    unfold iset
    by_cases q : t = (0, 3, 0, 1)
    · rw [if_pos q, q]
      simp [eq_comm]
    · rw [if_neg q]
      by_cases q2 : t = (0, 3, 0, 0)
      · rw [if_pos q2, q2]
        simp [eq_comm]
      · rw [if_neg q2, show allG cm46 t = none from (show allG cm46 t = iset (fun _ => none) (0, 3, 0, 0) 10 t from rfl).trans (if_neg q2)]
        simp [q, q2]
  rcases h with ⟨h1, -⟩ | ⟨-, ⟨-, -, t, n, h1, h2⟩ | ⟨h1, y, hn, hm, hy⟩⟩
  · exact absurd hp h1
  · rcases (hg t n).1 h1 with ⟨-, rfl⟩ | ⟨-, rfl⟩ <;> omega
  · have hm' : ∀ c, c ∈ y ↔ c ∈ [(⟨0, 0, 0, 6, 3⟩ : Cm), ⟨0, 1, 0, 3, 3⟩] := fun c => by
      rw [hm, hg]
      obtain ⟨a1, a2, a3, a4, a5⟩ := c
      simp only [Cm.ti, Prod.mk.injEq, List.mem_cons, List.not_mem_nil, or_false, Cm.mk.injEq]
      omega
    rcases hy with ⟨h4, -⟩ | ⟨-, rfl, rfl, hs⟩
    · have hyn : y.Nodup := List.Pairwise.of_map (S := fun a b => a ≠ b) Cm.ti (fun a b h e => h (by rw [e])) hn
      have := nodup_le hyn fun c hc => (hm' c).1 hc
      simp at this
      omega
    · refine ⟨sorted_uniq hs ?_ hm', rfl⟩
      simp [ltT, Cm.ti]
theorem ret46n {x : List Cm} {e : Int} (h : RetR 0 1 0 1 1 [] x e) : e = 460 := by
  have ok : ClaimsOk [] := ⟨fun c hc => (by cases hc), .nil⟩
  have hp : preErr 0 1 0 1 1 [] = 460 := by
    rw [preErr_has (by decide) ok (by decide)]
    rfl
  rcases h with ⟨-, h1, -⟩ | ⟨h1, -⟩
  · rw [h1, hp]
  · rw [hp] at h1; cases h1
/-! ### the example -/
def r46 (up : Int) : Reach := ⟨ByteArray.empty, up, 1, 20, 50, 0, ⟨0, 2⟩, ⟨0, 1⟩, ⟨0, 1⟩⟩
def sd46 : Dist := ⟨ByteArray.empty, 4, 100, 50, [r46 (-1), r46 0], [⟨ByteArray.empty, 0, 0, -1⟩, ⟨ByteArray.empty, 1, 0, -1⟩], [], [], [], []⟩
theorem sa1 : mvErr sd46 [6, 0] 0 1 6 = 0 := by kernel_rfl
theorem sa2 : mvErr sd46 [0, 4] 1 0 4 = 0 := by kernel_rfl
theorem sa3 : mvErr sd46 [6, 0] 0 0 0 = 1 := by kernel_rfl
theorem sa4 : exErr sd46 [6, 0] [⟨0, 1, 9, 5, 7⟩, ⟨1, 0, 9, 0, 4⟩] 6 = 0 := by kernel_rfl
theorem sa5 : exErr sd46 [6, 0] [] 10001 = 1 := by kernel_rfl
theorem sa6 : headsV sd46 [6, 0] = some [8, 0] := by kernel_rfl
theorem sa7 : headsV sd46 [0, 4] = some [8, 6] := by kernel_rfl
theorem sa8 {bf : List Int} {g : Int} (M : MvOk sd46 bf [6, 0] 0 1 6) (G : GotV sd46 bf [6, 0] 0 1 6 g) : g = 4 := by
  have hb := M.hd
  rw [sa6] at hb; injection hb with hb; subst hb
  refine G.uniq ⟨by decide, by decide, by kernel_rfl, fun v h1 h2 => ?_⟩
  cases hp : gotP sd46 [8, 0] [6, 0] 0 1 6 v with
  | false => rfl
  | true =>
    have := M.mono (n := 5) (by decide) (by omega) h2 hp
    have h5 : gotP sd46 [8, 0] [6, 0] 0 1 6 5 = false := by kernel_rfl
    rw [h5] at this; cases this
theorem sa9 {bf : List Int} {g : Int} (M : MvOk sd46 bf [0, 4] 1 0 4) (G : GotV sd46 bf [0, 4] 1 0 4 g) : g = 6 := by
  have hb := M.hd
  rw [sa7] at hb; injection hb with hb; subst hb
  refine G.uniq ⟨by decide, by decide, by kernel_rfl, fun v h1 h2 => ?_⟩
  cases hp : gotP sd46 [8, 6] [0, 4] 1 0 4 v with
  | false => rfl
  | true =>
    have := M.mono (n := 7) (by decide) (by omega) h2 hp
    have h7 : gotP sd46 [8, 6] [0, 4] 1 0 4 7 = false := by kernel_rfl
    rw [h7] at this; cases this
theorem saA {got out : List Int} (h : ExV sd46 6 [⟨0, 1, 9, 5, 7⟩, ⟨1, 0, 9, 0, 4⟩] [6, 0] got out) : got = [4, 0] ∧ out = [0, 4] := by
  unfold ExV at h
  rw [if_pos (by decide)] at h
  obtain ⟨bf, g, got', M, G, rfl, h⟩ := h
  have e : min (9 : Int) (clA [6, 0] 0) = 6 := by decide
  change MvOk sd46 bf [6, 0] 0 1 (min (9 : Int) (clA [6, 0] 0)) at M
  change GotV sd46 bf [6, 0] 0 1 (min (9 : Int) (clA [6, 0] 0)) g at G
  change ExV sd46 6 _ (chgV [6, 0] 0 1 (min (9 : Int) (clA [6, 0] 0)) g) got' out at h
  rw [e] at M G h
  have := sa8 M G
  subst this
  unfold ExV at h
  rw [if_neg (by decide)] at h
  obtain ⟨got'', rfl, h⟩ := h
  obtain ⟨rfl, rfl⟩ := h
  exact ⟨rfl, by decide⟩
end Go.Proofs.Ytcpogcdadlcdaaa

/- Layer 46: the laws' sane. -/
namespace Go.Proofs.Ytcpogcdadlcdaaa
open Go Go.RowKit

section
variable {w : World} {csd : List Value}
theorem c_example46 : CallZ Try.prog 17 #[] w (fun v w' => ∃ csd, v = .agg csd.toArray ∧ Ext w w' ∧ DiR (fun _ => True) w' csd sd46) := by
  refine fn_rule (args := []) Try.func17 (by kernel_rfl) ?_
  refine alloc (fun b w1 h1 => ?_)
  refine bld [iv 0, iv 2] (by kernel_rfl) ?_
  refine bld [iv 0, iv 1] (by kernel_rfl) ?_
  refine bld [iv 0, iv 1] (by kernel_rfl) ?_
  refine bld [iv 0, iv 1, iv 0, iv 1] (by kernel_rfl) ?_
  refine bld (r46 (-1)).c (by kernel_rfl) ?_
  refine alloc (fun q1 w2 h2 => ?_)
  refine stA (vs := (r46 (-1)).c) h2.blk rfl (Nat.le_of_ble_eq_true rfl) (by simp [Value.oneCell']) (fun w3 B3 k3 z3 => ?_)
  have B3 : Blk w3 q1 47 (r46 (-1)).c := B3
  have e1 := h1.at_
  have s1 := h1.size
  have e2 := h2.at_
  have s2 := h2.size
  have x3 : Ext w1 w3 := h2.ext.then k3 fun b hb _ e => by omega
  have y3 := x3.size
  refine bld [iv 100, iv 50] (by kernel_rfl) ?_
  refine ldA _ (.blk B3) rfl ?_
  refine ldA _ (.blk B3) rfl ?_
  refine lit [(r46 (-1)).v, (r46 (-1)).v] (fun q7 w4 h7 => ?_)
  refine bld [.string ByteArray.empty, iv 0, iv 0, iv (-1)] (by kernel_rfl) ?_
  refine bld [.string ByteArray.empty, iv 1, iv 0, iv (-1)] (by kernel_rfl) ?_
  refine lit [.agg #[.string ByteArray.empty, iv 0, iv 0, iv (-1)], .agg #[.string ByteArray.empty, iv 1, iv 0, iv (-1)]] (fun q8 w5 h8 => ?_)
  refine bld [.string ByteArray.empty, iv 4, iv 100, iv 50, .slice (some (ad q7 0)) 2 2, .slice (some (ad q8 0)) 2 2, .slice none 0 0, .slice none 0 0, .slice none 0 0, .slice none 0 0] (by kernel_rfl) ?_
  refine alloc (fun q2 w6 h6 => ?_)
  refine stA (vs := [.string ByteArray.empty, iv 4, iv 100, iv 50, .slice (some (ad q7 0)) 2 2, .slice (some (ad q8 0)) 2 2, .slice none 0 0, .slice none 0 0, .slice none 0 0, .slice none 0 0]) h6.blk rfl (Nat.le_of_ble_eq_true rfl) (by simp [Value.oneCell']) (fun w7 B7 k7 z7 => ?_)
  have B7 : Blk w7 q2 38 [.string ByteArray.empty, iv 4, iv 100, iv 50, .slice (some (ad q7 0)) 2 2, .slice (some (ad q8 0)) 2 2, .slice none 0 0, .slice none 0 0, .slice none 0 0, .slice none 0 0] := B7
  have e6 := h6.at_
  have s6 := h6.size
  have e7 := h7.at_
  have e8 := h8.at_
  have s7 := h7.size
  have s8 := h8.size
  have x57 : Ext w5 w7 := h6.ext.then k7 fun b hb _ e => by omega
  have y57 := x57.size
  have G7 : Blk w7 q7 47 ((r46 (-1)).c ++ (r46 (-1)).c) := (h7.blk.ext h8.ext).ext x57
  have G8 : Blk w7 q8 96 [.string ByteArray.empty, iv 0, iv 0, iv (-1), .string ByteArray.empty, iv 1, iv 0, iv (-1)] := h8.blk.ext x57
  refine fldA ?_
  refine ld (.slice (some (ad q7 0)) 2 2) (B7.cell rfl) ?_
  refine idx 1 rfl (by decide) ?_
  refine fldA ?_
  refine st (v := iv 0) G7 (by simp [Reach.c]) rfl (fun w8 H7 k8 z8 => ?_)
  have H7 : Blk w8 q7 47 ((r46 (-1)).c ++ (r46 0).c) := H7
  have B7 := B7.kept k8 (show q2 ≠ q7 by omega)
  have G8 := G8.kept k8 (show q8 ≠ q7 by omega)
  refine ldA _ (.blk B7) rfl ?_
  have x17 : Ext w1 w8 := (((x3.trans h7.ext).trans h8.ext).trans x57).then k8 fun b hb _ e => by omega
  refine stA (vs := [.string ByteArray.empty, iv 4, iv 100, iv 50, .slice (some (ad q7 0)) 2 2, .slice (some (ad q8 0)) 2 2, .slice none 0 0, .slice none 0 0, .slice none 0 0, .slice none 0 0]) (h1.blk.ext x17) rfl (Nat.le_of_ble_eq_true rfl) (by simp [Value.oneCell']) (fun w9 B9 k9 z9 => ?_)
  have B9 : Blk w9 b 38 [.string ByteArray.empty, iv 4, iv 100, iv 50, .slice (some (ad q7 0)) 2 2, .slice (some (ad q8 0)) 2 2, .slice none 0 0, .slice none 0 0, .slice none 0 0, .slice none 0 0] := B9
  have g7 := CellsAt.blk (H7.kept k9 (by omega))
  have g8 := CellsAt.blk (G8.kept k9 (by omega))
  refine ret ?_
  refine resL _ (holds_agg (CellsAt.blk B9) rfl) ?_
  refine ⟨_, rfl, (h1.ext.trans x17).then k9 fun b hb _ e => by omega, DiR.of_ ⟨_, _, _, _, _, _, _, _, _, _, _, _, _, _, _, _, _, _, rfl, ?_, ?_, SlR.nil, SlR.nil, SlR.nil, SlR.nil⟩⟩
  · exact SlR.of_cells rfl (by decide) trivial g7 ⟨_, _, rfl, rfl, _, _, rfl, rfl, rfl⟩
  · exact SlR.of_cells rfl (by decide) trivial g8 ⟨_, _, rfl, rfl, _, _, rfl, rfl, rfl⟩
theorem lit2 {w w' : World} {a b : Int} {g : Nat} {t : TypeId} (h : NewB w t [iv a, iv b] g w') (ha : -1000 ≤ a ∧ a ≤ 1000) (hb : -1000 ≤ b ∧ b ≤ 1000) : SlR tInt (fun _ => True) w' (some (ad g 0)) 2 [a, b] :=
  SlR.of_cells rfl (by decide) trivial (.blk h.blk) (flat_ints fun x hx => by
    simp only [List.mem_cons, List.not_mem_nil, or_false] at hx
    rcases hx with rfl | rfl
    all_goals (unfold I64; omega))
theorem mv46a {A : Option Addr} {c : Nat} (hd : DiR (fun _ => True) w csd sd46) (hl : SlR tInt (fun _ => True) w A 2 [6, 0]) : CallZ Try.prog 12 #[.agg csd.toArray, .slice A 2 c, iv 0, iv 1, iv 6] w (fun v w' => Ext w w' ∧ ∃ A' c', v = .tuple #[iv 4, .slice A' 2 c', iv 0] ∧ SlR tInt (fun _ => True) w' A' 2 [0, 4]) :=
  (c_hMove hd hl).mono (by
    rintro v w' ⟨x, g, A', n', c', rfl, -, h⟩
    obtain ⟨rfl, bf, M, G, s⟩ := h sa1
    have := sa8 M G
    subst this
    rw [sa1]
    exact ⟨x, A', c', rfl, s.more (by decide) fun _ _ _ => trivial⟩)
theorem mv46b {A : Option Addr} {c : Nat} (hd : DiR (fun _ => True) w csd sd46) (hl : SlR tInt (fun _ => True) w A 2 [0, 4]) : CallZ Try.prog 12 #[.agg csd.toArray, .slice A 2 c, iv 1, iv 0, iv 4] w (fun v w' => Ext w w' ∧ ∃ A' c', v = .tuple #[iv 6, .slice A' 2 c', iv 0] ∧ SlR tInt (fun _ => True) w' A' 2 [6, 0]) :=
  (c_hMove hd hl).mono (by
    rintro v w' ⟨x, g, A', n', c', rfl, -, h⟩
    obtain ⟨rfl, bf, M, G, s⟩ := h sa2
    have := sa9 M G
    subst this
    rw [sa2]
    exact ⟨x, A', c', rfl, s.more (by decide) fun _ _ _ => trivial⟩)
theorem mv46c {A : Option Addr} {c : Nat} (hd : DiR (fun _ => True) w csd sd46) (hl : SlR tInt (fun _ => True) w A 2 [6, 0]) : CallZ Try.prog 12 #[.agg csd.toArray, .slice A 2 c, iv 0, iv 0, iv 0] w (fun v w' => Ext w w' ∧ ∃ g A' n' c', v = .tuple #[iv g, .slice A' n' c', iv 1]) :=
  (c_hMove hd hl).mono (by
    rintro v w' ⟨x, g, A', n', c', rfl, -⟩
    rw [sa3]
    exact ⟨x, g, A', n', c', rfl⟩)
theorem ex46a {A B : Option Addr} {c cm : Nat} (hd : DiR (fun _ => True) w csd sd46) (hl : SlR tInt (fun _ => True) w A 2 [6, 0]) (hs : SlR tDeal (fun _ => True) w B 2 [⟨0, 1, 9, 5, 7⟩, ⟨1, 0, 9, 0, 4⟩]) : CallZ Try.prog 13 #[.agg csd.toArray, .slice A 2 c, .slice B 2 cm, iv 6] w (fun v w' => Ext w w' ∧ ∃ G cg N cn, v = .tuple #[.slice G 2 cg, .slice N 2 cn, iv 0] ∧ SlR tInt (fun _ => True) w' G 2 [4, 0] ∧ SlR tInt (fun _ => True) w' N 2 [0, 4]) :=
  (c_hExecute hd hl hs).mono (by
    rintro v w' ⟨x, G, ng, cg, N, nn, cn, rfl, -, h⟩
    obtain ⟨rfl, rfl, -, -, got, out, bf, -, h1, -, -, -, h2, h3⟩ := h sa4
    obtain ⟨rfl, rfl⟩ := saA h1
    rw [sa4]
    exact ⟨x, G, cg, N, cn, rfl, h2, h3⟩)
theorem ex46b {A : Option Addr} {c : Nat} (hd : DiR (fun _ => True) w csd sd46) (hl : SlR tInt (fun _ => True) w A 2 [6, 0]) : CallZ Try.prog 13 #[.agg csd.toArray, .slice A 2 c, .slice none 0 0, iv 10001] w (fun v w' => Ext w w' ∧ ∃ G ng cg N nn cn, v = .tuple #[.slice G ng cg, .slice N nn cn, iv 1]) :=
  (c_hExecute (ds := []) hd hl SlR.nil).mono (by
    rintro v w' ⟨x, G, ng, cg, N, nn, cn, rfl, -⟩
    rw [sa5]
    exact ⟨x, G, ng, cg, N, nn, cn, rfl⟩)
theorem rt46a {A : Option Addr} {c : Nat} (hl : SlR tCm (fun _ => True) w A 1 cm46) : CallZ Try.prog 8 #[.slice A 1 c, iv 0, iv 1, iv 0, iv 4, iv 3] w (fun v w' => Ext w w' ∧ ∃ B cm, v = .tuple #[.slice B 2 cm, iv 0] ∧ SlR tCm (fun _ => True) w' B 2 [⟨0, 0, 0, 6, 3⟩, ⟨0, 1, 0, 3, 3⟩]) :=
  (c_hRet hl).mono (by
    rintro v w' ⟨x, B, m, cm, xs, e, rfl, s, -, h⟩
    obtain ⟨rfl, rfl⟩ := ret46 h
    have hm := s.len
    have hm : 2 = m := hm
    subst hm
    exact ⟨x, B, cm, rfl, s.more (by decide) fun _ _ _ => trivial⟩)
theorem rt46b : CallZ Try.prog 8 #[.slice none 0 0, iv 0, iv 1, iv 0, iv 1, iv 1] w (fun v w' => Ext w w' ∧ ∃ B m cm, v = .tuple #[.slice B m cm, iv 460]) :=
  (c_hRet (l := []) (D := fun _ => True) SlR.nil).mono (by
    rintro v w' ⟨x, B, m, cm, xs, e, rfl, s, -, h⟩
    have := ret46n h
    subst this
    exact ⟨x, B, m, cm, rfl⟩)
set_option maxRecDepth 8000 in
set_option maxHeartbeats 2000000 in
theorem c_hsane : CallZ Try.prog 7 #[] w (fun v w' => v = .bool true ∧ Ext w w') := by
  refine fn_rule (args := []) Try.func7 (by kernel_rfl) ?_
  refine call_of c_example46 ?_
  rintro _ w1 ⟨csd, rfl, x1, hd⟩
  have hd0 := hd.ex
  obtain ⟨A1, n1, c1, A2, n2, c2, A3, n3, c3, A4, n4, c4, A5, n5, c5, A6, n6, c6, rfl, -⟩ := hd0
  refine alloc (fun q1 w2 h2 => ?_)
  refine stA (vs := [.string sd46.name, iv sd46.hours, iv sd46.cap, iv sd46.start, .slice A1 n1 c1, .slice A2 n2 c2, .slice A3 n3 c3, .slice A4 n4 c4, .slice A5 n5 c5, .slice A6 n6 c6]) h2.blk rfl (Nat.le_of_ble_eq_true rfl) (by simp [Value.oneCell']) (fun w3 B k3 z3 => ?_)
  have B : Blk w3 q1 38 [.string sd46.name, iv sd46.hours, iv sd46.cap, iv sd46.start, .slice A1 n1 c1, .slice A2 n2 c2, .slice A3 n3 c3, .slice A4 n4 c4, .slice A5 n5 c5, .slice A6 n6 c6] := B
  have e2 := h2.at_
  have x3 : Ext w1 w3 := h2.ext.then k3 fun b hb _ e => by omega
  have hd := hd.ext x3
  have x0 := x1.trans x3
  refine ldA _ (.blk B) rfl ?_
  refine lit [iv 6, iv 0] (fun g4 w4 h4 => ?_)
  refine call_of (mv46a (hd.ext h4.ext) (lit2 h4 (by decide) (by decide))) ?_
  rintro _ w5 ⟨x5, N1, k1, rfl, s1⟩
  have x35 := h4.ext.trans x5
  refine ldA _ (.blk (B.ext x35)) rfl ?_
  refine call_of (mv46b (hd.ext x35) s1) ?_
  rintro _ w6 ⟨x6, N2, k2, rfl, s2⟩
  have x36 := x35.trans x6
  have s1 := s1.ext x6
  refine ldA _ (.blk (B.ext x36)) rfl ?_
  refine lit [iv 6, iv 0] (fun g7 w7 h7 => ?_)
  refine call_of (mv46c (hd.ext (x36.trans h7.ext)) (lit2 h7 (by decide) (by decide))) ?_
  rintro _ w8 ⟨x8, gg, N3, n3', k3', rfl⟩
  have x68 := h7.ext.trans x8
  have x38 := x36.trans x68
  refine bld [iv 5, iv 7] (by kernel_rfl) ?_
  refine bld [iv 0, iv 1, iv 9, iv 5, iv 7] (by kernel_rfl) ?_
  refine bld [iv 0, iv 4] (by kernel_rfl) ?_
  refine bld [iv 1, iv 0, iv 9, iv 0, iv 4] (by kernel_rfl) ?_
  refine lit [.agg #[iv 0, iv 1, iv 9, iv 5, iv 7], .agg #[iv 1, iv 0, iv 9, iv 0, iv 4]] (fun g9 w9 h9 => ?_)
  have sd : SlR tDeal (fun _ => True) w9 (some (ad g9 0)) 2 [⟨0, 1, 9, 5, 7⟩, ⟨1, 0, 9, 0, 4⟩] := SlR.of_cells rfl (by decide) trivial (.blk h9.blk) ⟨_, _, rfl, rfl, _, _, rfl, rfl, rfl⟩
  have x39 := x38.trans h9.ext
  refine ldA _ (.blk (B.ext x39)) rfl ?_
  refine lit [iv 6, iv 0] (fun g10 w10 h10 => ?_)
  refine call_of (ex46a (hd.ext (x39.trans h10.ext)) (lit2 h10 (by decide) (by decide)) (sd.ext h10.ext)) ?_
  rintro _ w11 ⟨x11, G1, kg, N4, kn, rfl, s3, s4⟩
  have x9b := h10.ext.trans x11
  have x3b := x39.trans x9b
  refine ldA _ (.blk (B.ext x3b)) rfl ?_
  refine lit [iv 6, iv 0] (fun g12 w12 h12 => ?_)
  refine call_of (ex46b (hd.ext (x3b.trans h12.ext)) (lit2 h12 (by decide) (by decide))) ?_
  rintro _ w13 ⟨x13, G2, mg, kg2, N5, mn, kn2, rfl⟩
  have xbd := h12.ext.trans x13
  refine bld [iv 0, iv 0, iv 0, iv 10, iv 3] (by kernel_rfl) ?_
  refine lit [.agg #[iv 0, iv 0, iv 0, iv 10, iv 3]] (fun g14 w14 h14 => ?_)
  have sc : SlR tCm (fun _ => True) w14 (some (ad g14 0)) 1 cm46 := SlR.of_cells rfl (by decide) trivial (.blk h14.blk) ⟨_, _, rfl, rfl, rfl⟩
  refine call_of (rt46a sc) ?_
  rintro _ w15 ⟨x15, RB, kr, rfl, s5⟩
  have xdf := h14.ext.trans x15
  refine call_of rt46b ?_
  rintro _ w16 ⟨x16, RB2, mr2, kr2, rfl⟩
  have s5 := s5.ext x16
  have xbg := (xbd.trans xdf).trans x16
  have s3 := s3.ext xbg
  have s4 := s4.ext xbg
  have x8g := (h9.ext.trans x9b).trans xbg
  have x6g := x68.trans x8g
  have s1 := s1.ext x6g
  have s2 := s2.ext x6g
  have xg : Ext w w16 := (x0.trans x36).trans x6g
  refine cN (fun h => absurd rfl h) (fun _ => ?_)
  refine cN (fun h => absurd rfl h) (fun _ => ?_)
  refine cN (fun h => absurd rfl h) (fun _ => ?_)
  refine cN (fun h => absurd rfl h) (fun _ => ?_)
  refine cN (fun h => absurd rfl h) (fun _ => ?_)
  refine cN (fun h => absurd rfl h) (fun _ => ?_)
  refine cN (fun h => absurd rfl h) (fun _ => ?_)
  refine cE (fun _ => ?_) (fun h => absurd rfl h)
  refine lit [iv 0, iv 4] (fun g17 w17 h17 => ?_)
  refine callB (c_h46Same (s1.ext h17.ext) (lit2 h17 (by decide) (by decide))) (fun _ => ?_) (fun h => absurd (of_decide_eq_false h) (fun h => h rfl))
  refine cE (fun _ => ?_) (fun h => absurd rfl h)
  refine lit [iv 6, iv 0] (fun g18 w18 h18 => ?_)
  refine callB (c_h46Same ((s2.ext h17.ext).ext h18.ext) (lit2 h18 (by decide) (by decide))) (fun _ => ?_) (fun h => absurd (of_decide_eq_false h) (fun h => h rfl))
  have xh := h17.ext.trans h18.ext
  refine lit [iv 4, iv 0] (fun g19 w19 h19 => ?_)
  refine callB (c_h46Same ((s3.ext xh).ext h19.ext) (lit2 h19 (by decide) (by decide))) (fun _ => ?_) (fun h => absurd (of_decide_eq_false h) (fun h => h rfl))
  have xh := xh.trans h19.ext
  refine lit [iv 0, iv 4] (fun g20 w20 h20 => ?_)
  refine callB (c_h46Same ((s4.ext xh).ext h20.ext) (lit2 h20 (by decide) (by decide))) (fun _ => ?_) (fun h => absurd (of_decide_eq_false h) (fun h => h rfl))
  have xh := xh.trans h20.ext
  refine bld [iv 0, iv 0, iv 0, iv 6, iv 3] (by kernel_rfl) ?_
  refine bld [iv 0, iv 1, iv 0, iv 3, iv 3] (by kernel_rfl) ?_
  refine lit [.agg #[iv 0, iv 0, iv 0, iv 6, iv 3], .agg #[iv 0, iv 1, iv 0, iv 3, iv 3]] (fun g21 w21 h21 => ?_)
  have s6 : SlR tCm (fun _ => True) w21 (some (ad g21 0)) 2 [⟨0, 0, 0, 6, 3⟩, ⟨0, 1, 0, 3, 3⟩] := SlR.of_cells rfl (by decide) trivial (.blk h21.blk) ⟨_, _, rfl, rfl, _, _, rfl, rfl, rfl⟩
  refine callB (c_Same26 ((s5.ext xh).ext h21.ext) s6) (fun _ => ?_) (fun h => absurd (of_decide_eq_false h) (fun h => h rfl))
  exact ret1 (.bool true) rfl ⟨rfl, (xg.trans xh).trans h21.ext⟩
end
end Go.Proofs.Ytcpogcdadlcdaaa

/- Layer 46: the reference's heads, Harmless, with, move, farms, Move; HarmlessSpec. -/
namespace Go.Proofs.Ytcpogcdadlcdaaa
open Go Go.RowKit

section
variable {D : Nat → Prop} {w : World}
theorem c_h46farms {a b m : Int} : CallZ Try.prog 25 #[iv a, iv b, iv m] w (fun v w' => v = .bool (decide (0 ≤ a ∧ a < m ∧ 0 ≤ b ∧ b < m ∧ a ≠ b)) ∧ w' = w) := by
  refine fn_rule (args := [iv a, iv b, iv m]) Try.func25 (by kernel_rfl) ?_
  refine cD (fun g1 => ?_) (fun g1 => ?_)
  · refine cD (fun g2 => ?_) (fun g2 => ?_)
    · refine cD (fun g3 => ?_) (fun g3 => ?_)
      · refine cD (fun g4 => ?_) (fun g4 => ?_)
        · refine cN (fun g5 => ?_) (fun g5 => ?_)
          · exact ret1 (.bool true) rfl ⟨by rw [decide_eq_true ⟨g1, g2, g3, g4, g5⟩], rfl⟩
          · exact ret1 (.bool false) rfl ⟨by rw [decide_eq_false fun h => h.2.2.2.2 g5], rfl⟩
        · exact ret1 (.bool false) rfl ⟨by rw [decide_eq_false fun h => g4 h.2.2.2.1], rfl⟩
      · exact ret1 (.bool false) rfl ⟨by rw [decide_eq_false fun h => g3 h.2.2.1], rfl⟩
    · exact ret1 (.bool false) rfl ⟨by rw [decide_eq_false fun h => g2 h.2.1], rfl⟩
  · exact ret1 (.bool false) rfl ⟨by rw [decide_eq_false fun h => g1 h.1], rfl⟩
end
end Go.Proofs.Ytcpogcdadlcdaaa

/- Layer 46: the reference's Before, claim, Claims, has. -/
namespace Go.Proofs.Ytcpogcdadlcdaaa
open Go Go.RowKit Classical

section
variable {D : Nat → Prop} {w : World}
theorem c_r26Before {x y : Cm} : CallZ Try.prog 41 #[.agg (encJ x).toArray, .agg (encJ y).toArray] w (fun v w' => v = .bool (decide (ltT x.ti y.ti)) ∧ Ext w w') := by
  refine fn_rule (args := [.agg (encJ x).toArray, .agg (encJ y).toArray]) Try.func41 (by kernel_rfl) ?_
  refine box (fun b2 w1 h1 => ?_)
  refine box (fun b3 w2 h2 => ?_)
  have B2 : Blk w2 b2 60 (encJ x) := h1.blk.ext h2.ext
  have B3 : Blk w2 b3 60 (encJ y) := h2.blk
  have x2 := h1.ext.trans h2.ext
  have fin : ∀ b : Bool, (b = true ↔ ltT x.ti y.ti) → Value.bool b = .bool (decide (ltT x.ti y.ti)) := fun b h => by
    congr 1
    by_cases q : ltT x.ti y.ti
    · rw [decide_eq_true q]; exact h.2 q
    · rw [decide_eq_false q]
      cases b with
      | false => rfl
      | true => exact absurd (h.1 rfl) q
  have un : ltT x.ti y.ti ↔ (x.hour < y.hour ∨ x.hour = y.hour ∧ (x.rank < y.rank ∨ x.rank = y.rank ∧ (x.right < y.right ∨ x.right = y.right ∧ x.farm < y.farm))) := Iff.rfl
  refine fldA ?_
  refine ld (iv x.hour) (B2.cell rfl) ?_
  refine fldA ?_
  refine ld (iv y.hour) (B3.cell rfl) ?_
  refine cN (fun g1 => ?_) (fun g1 => ?_)
  · refine fldA ?_
    refine ld (iv x.hour) (B2.cell rfl) ?_
    refine fldA ?_
    refine ld (iv y.hour) (B3.cell rfl) ?_
    refine cD (fun g => ?_) (fun g => ?_)
    · exact ret1 (.bool true) rfl ⟨fin true ⟨fun _ => un.2 (by omega), fun _ => rfl⟩, x2⟩
    · exact ret1 (.bool false) rfl ⟨fin false (by rw [un]; simp only [Bool.false_eq_true, false_iff]; omega), x2⟩
  refine fldA ?_
  refine ld (iv x.rank) (B2.cell rfl) ?_
  refine fldA ?_
  refine ld (iv y.rank) (B3.cell rfl) ?_
  refine cN (fun g2 => ?_) (fun g2 => ?_)
  · refine fldA ?_
    refine ld (iv x.rank) (B2.cell rfl) ?_
    refine fldA ?_
    refine ld (iv y.rank) (B3.cell rfl) ?_
    refine cD (fun g => ?_) (fun g => ?_)
    · exact ret1 (.bool true) rfl ⟨fin true ⟨fun _ => un.2 (by omega), fun _ => rfl⟩, x2⟩
    · exact ret1 (.bool false) rfl ⟨fin false (by rw [un]; simp only [Bool.false_eq_true, false_iff]; omega), x2⟩
  refine fldA ?_
  refine ld (iv x.right) (B2.cell rfl) ?_
  refine fldA ?_
  refine ld (iv y.right) (B3.cell rfl) ?_
  refine cN (fun g3 => ?_) (fun g3 => ?_)
  · refine fldA ?_
    refine ld (iv x.right) (B2.cell rfl) ?_
    refine fldA ?_
    refine ld (iv y.right) (B3.cell rfl) ?_
    refine cD (fun g => ?_) (fun g => ?_)
    · exact ret1 (.bool true) rfl ⟨fin true ⟨fun _ => un.2 (by omega), fun _ => rfl⟩, x2⟩
    · exact ret1 (.bool false) rfl ⟨fin false (by rw [un]; simp only [Bool.false_eq_true, false_iff]; omega), x2⟩
  refine fldA ?_
  refine ld (iv x.farm) (B2.cell rfl) ?_
  refine fldA ?_
  refine ld (iv y.farm) (B3.cell rfl) ?_
  refine cD (fun g => ?_) (fun g => ?_)
  · exact ret1 (.bool true) rfl ⟨fin true ⟨fun _ => un.2 (by omega), fun _ => rfl⟩, x2⟩
  · exact ret1 (.bool false) rfl ⟨fin false (by rw [un]; simp only [Bool.false_eq_true, false_iff]; omega), x2⟩
theorem c_h46claim {x : Cm} : CallZ Try.prog 40 #[.agg (encJ x).toArray] w (fun v w' => v = .bool (claimB x) ∧ Ext w w') := by
  refine fn_rule (args := [.agg (encJ x).toArray]) Try.func40 (by kernel_rfl) ?_
  refine box (fun b1 w1 h1 => ?_)
  have B1 : Blk w1 b1 60 (encJ x) := h1.blk
  have no : ¬ ((0 ≤ x.right ∧ x.right ≤ 255) ∧ (0 ≤ x.farm ∧ x.farm ≤ 599) ∧ (0 ≤ x.hour ∧ x.hour ≤ 4095) ∧ (1 ≤ x.litres ∧ x.litres ≤ 1073741824) ∧ (0 ≤ x.rank ∧ x.rank ≤ 1048576)) → Value.bool false = .bool (claimB x) := fun h => by
    congr 1
    cases hq : claimB x with
    | false => rfl
    | true => exact absurd (claimB_iff.1 hq) h
  refine fldA ?_
  refine ld (iv x.right) (B1.cell rfl) ?_
  refine cD (fun p0 => ?_) (fun p0 => ?_)
  rotate_left
  · exact ret1 (.bool false) rfl ⟨no fun h => by omega, h1.ext⟩
  refine fldA ?_
  refine ld (iv x.right) (B1.cell rfl) ?_
  refine cD (fun p1 => ?_) (fun p1 => ?_)
  rotate_left
  · exact ret1 (.bool false) rfl ⟨no fun h => by omega, h1.ext⟩
  refine fldA ?_
  refine ld (iv x.farm) (B1.cell rfl) ?_
  refine cD (fun p2 => ?_) (fun p2 => ?_)
  rotate_left
  · exact ret1 (.bool false) rfl ⟨no fun h => by omega, h1.ext⟩
  refine fldA ?_
  refine ld (iv x.farm) (B1.cell rfl) ?_
  refine cD (fun p3 => ?_) (fun p3 => ?_)
  rotate_left
  · exact ret1 (.bool false) rfl ⟨no fun h => by omega, h1.ext⟩
  refine fldA ?_
  refine ld (iv x.hour) (B1.cell rfl) ?_
  refine cD (fun p4 => ?_) (fun p4 => ?_)
  rotate_left
  · exact ret1 (.bool false) rfl ⟨no fun h => by omega, h1.ext⟩
  refine fldA ?_
  refine ld (iv x.hour) (B1.cell rfl) ?_
  refine cD (fun p5 => ?_) (fun p5 => ?_)
  rotate_left
  · exact ret1 (.bool false) rfl ⟨no fun h => by omega, h1.ext⟩
  refine fldA ?_
  refine ld (iv x.litres) (B1.cell rfl) ?_
  refine cD (fun p6 => ?_) (fun p6 => ?_)
  rotate_left
  · exact ret1 (.bool false) rfl ⟨no fun h => by omega, h1.ext⟩
  refine fldA ?_
  refine ld (iv x.litres) (B1.cell rfl) ?_
  refine cD (fun p7 => ?_) (fun p7 => ?_)
  rotate_left
  · exact ret1 (.bool false) rfl ⟨no fun h => by omega, h1.ext⟩
  refine fldA ?_
  refine ld (iv x.rank) (B1.cell rfl) ?_
  refine cD (fun p8 => ?_) (fun p8 => ?_)
  rotate_left
  · exact ret1 (.bool false) rfl ⟨no fun h => by omega, h1.ext⟩
  refine fldA ?_
  refine ld (iv x.rank) (B1.cell rfl) ?_
  refine cD (fun p9 => ?_) (fun p9 => ?_)
  rotate_left
  · exact ret1 (.bool false) rfl ⟨no fun h => by omega, h1.ext⟩
  exact ret1 (.bool true) rfl ⟨by rw [claimB_iff.2 ⟨⟨p0, by omega⟩, ⟨p2, by omega⟩, ⟨p4, by omega⟩, ⟨p6, p7⟩, ⟨p8, p9⟩⟩], h1.ext⟩
theorem c_h46has {fr hr : Int} {l : List Cm} {A : Option Addr} {n c : Nat} (hl : SlR tCm D w A n l) (hb : ∀ c ∈ l, claimB c = true) (hn : n ≤ 4096) : CallZ Try.prog 26 #[.slice A n c, iv fr, iv hr] w (fun v w' => v = iv (hasF fr hr l) ∧ w' = w) := by
  have hlen := hl.len
  refine fn_rule (args := [.slice A n c, iv fr, iv hr]) Try.func26 (by kernel_rfl) ?_
  refine loop_rule (fun k : Nat => [(7, iv (hasF fr hr (l.take k))), (8, iv (k : Int))]) (fun k u => k ≤ n ∧ w = u) (fun k _ => n - k) 0 ⟨rfl, rfl, trivial⟩ ⟨by omega, rfl⟩ rfl ?_
  rintro G k u ⟨hk, rfl⟩
  refine len ?_
  refine cD (fun hlt => ?_) (fun hge => ?_)
  · have hlt : k < n := by omega
    obtain ⟨b, o, cs, m, rfl, hm, -, -, hc, rfl⟩ := hl.at_ hlt
    have htk : l.take (k + 1) = l.take k ++ [m] := by rw [List.take_add_one, hm]; rfl
    have hbt := hasF_b (fr := fr) (hr := hr) fun c hc => hb c (List.mem_of_mem_take (i := k) hc)
    have hlt2 : (l.take k).length ≤ 4096 := Nat.le_trans (List.length_take_le _ _) (by omega)
    have hmb := claimB_iff.1 (hb m (List.mem_of_getElem? hm))
    have e15 : hasF fr hr (l.take (k + 1)) = hasF fr hr (l.take k) + ofF fr hr m := by rw [htk, hasF_snoc]
    refine idx k rfl hlt ?_
    refine fldA ?_
    refine ld (iv m.farm) (hc 1 _ rfl) ?_
    refine cE (fun q1 => ?_) (fun q1 => ?_)
    · refine idx k rfl hlt ?_
      refine fldA ?_
      refine ld (iv m.hour) (hc 2 _ rfl) ?_
      refine cE (fun q2 => ?_) (fun q2 => ?_)
      · refine idx k rfl hlt ?_
        refine fldA ?_
        refine ld (iv m.litres) (hc 3 _ rfl) ?_
        refine arI (by omega) ?_
        refine arI (by omega) ?_
        refine next (k + 1) ⟨?_, by rw [Int.natCast_add]; rfl, trivial⟩ ⟨by omega, rfl⟩ (by omega)
        rw [e15, show ofF fr hr m = m.litres from if_pos ⟨q1, q2⟩]; rfl
      · refine arI (by omega) ?_
        refine next (k + 1) ⟨?_, by rw [Int.natCast_add]; rfl, trivial⟩ ⟨by omega, rfl⟩ (by omega)
        rw [e15, show ofF fr hr m = 0 from if_neg fun h => q2 h.2, Int.add_zero]; rfl
    · refine arI (by omega) ?_
      refine next (k + 1) ⟨?_, by rw [Int.natCast_add]; rfl, trivial⟩ ⟨by omega, rfl⟩ (by omega)
      rw [e15, show ofF fr hr m = 0 from if_neg fun h => q1 h.1, Int.add_zero]; rfl
  · exact ret1 (iv (hasF fr hr (l.take k))) rfl ⟨by rw [List.take_of_length_le (by omega)], rfl⟩
end
end Go.Proofs.Ytcpogcdadlcdaaa

/- Layer 46: the reference's add, plainly. -/
namespace Go.Proofs.Ytcpogcdadlcdaaa
open Go Go.RowKit Classical

def Cm.more (a : Cm) (n : Int) : Cm := { a with litres := a.litres + n }
theorem cm_ext {a b : Cm} (h : a.ti = b.ti) (hl : a.litres = b.litres) : a = b := by
  obtain ⟨a1, a2, a3, a4, a5⟩ := a
  obtain ⟨b1, b2, b3, b4, b5⟩ := b
  simp only [Cm.ti, Prod.mk.injEq] at h
  simp only at hl
  obtain ⟨h1, h2, h3, h4⟩ := h
  subst h1; subst h2; subst h3; subst h4; subst hl
  rfl
/-- A claim is put into its place, or made greater. -/
noncomputable def insT : List Cm → Cm → List Cm
  | [], x => [x]
  | a :: l, x => if ltT a.ti x.ti then a :: insT l x else if ltT x.ti a.ti then x :: a :: l else a.more x.litres :: l
abbrev SortT (l : List Cm) : Prop := l.Pairwise fun a b => ltT a.ti b.ti
theorem ltT_eq {x y : Ti} (h : ¬ ltT x y) (h' : ¬ ltT y x) : x = y := by
  by_cases e : x = y
  · exact e
  · exact absurd (ltT_tri h' e) h
theorem mem_insT {x : Cm} : ∀ {l : List Cm}, SortT l → ∀ c, c ∈ insT l x ↔ (c ∈ l ∧ c.ti ≠ x.ti) ∨ (c.ti = x.ti ∧ ((∃ a ∈ l, a.ti = x.ti ∧ c.litres = a.litres + x.litres) ∨ ((∀ a ∈ l, a.ti ≠ x.ti) ∧ c.litres = x.litres)))
  | [], _, c => by
    show c ∈ [x] ↔ _
    rw [List.mem_singleton]
    constructor
    · rintro rfl; exact .inr ⟨rfl, .inr ⟨fun a h => (by cases h), rfl⟩⟩
    · rintro (⟨h, -⟩ | ⟨h, ⟨a, h2, -⟩ | ⟨-, h2⟩⟩)
      · cases h
      · cases h2
      · exact cm_ext h h2
  | a :: l, hs, c => by
    have hs' := List.pairwise_cons.1 hs
    unfold insT
    by_cases q1 : ltT a.ti x.ti
    · rw [if_pos q1, List.mem_cons, mem_insT hs'.2 c]
      have ne : a.ti ≠ x.ti := fun e => by rw [e] at q1; exact ltT_irrefl q1
      constructor
      · rintro (rfl | ⟨h1, h2⟩ | ⟨h1, ⟨b, h2, h3⟩ | ⟨h2, h3⟩⟩)
        · exact .inl ⟨List.mem_cons_self, ne⟩
        · exact .inl ⟨List.mem_cons_of_mem _ h1, h2⟩
        · exact .inr ⟨h1, .inl ⟨b, List.mem_cons_of_mem _ h2, h3⟩⟩
        · refine .inr ⟨h1, .inr ⟨fun b hb => ?_, h3⟩⟩
          rcases List.mem_cons.1 hb with rfl | hb
          · exact ne
          · exact h2 b hb
      · rintro (⟨h1, h2⟩ | ⟨h1, ⟨b, h2, h3⟩ | ⟨h2, h3⟩⟩)
        · rcases List.mem_cons.1 h1 with rfl | h1
          · exact .inl rfl
          · exact .inr (.inl ⟨h1, h2⟩)
        · rcases List.mem_cons.1 h2 with rfl | h2
          · exact absurd h3.1 ne
          · exact .inr (.inr ⟨h1, .inl ⟨b, h2, h3⟩⟩)
        · exact .inr (.inr ⟨h1, .inr ⟨fun b hb => h2 b (List.mem_cons_of_mem _ hb), h3⟩⟩)
    rw [if_neg q1]
    by_cases q2 : ltT x.ti a.ti
    · rw [if_pos q2, List.mem_cons]
      have all : ∀ b ∈ a :: l, b.ti ≠ x.ti := fun b hb e => by
        rcases List.mem_cons.1 hb with rfl | hb
        · rw [e] at q2; exact ltT_irrefl q2
        · have := ltT_trans q2 (hs'.1 b hb); rw [e] at this; exact ltT_irrefl this
      constructor
      · rintro (rfl | h)
        · exact .inr ⟨rfl, .inr ⟨all, rfl⟩⟩
        · exact .inl ⟨h, all c h⟩
      · rintro (⟨h1, -⟩ | ⟨h1, ⟨b, h2, h3, -⟩ | ⟨-, h3⟩⟩)
        · exact .inr h1
        · exact absurd h3 (all b h2)
        · exact .inl (cm_ext h1 h3)
    rw [if_neg q2, List.mem_cons]
    have e : a.ti = x.ti := ltT_eq q1 q2
    have tl : ∀ b ∈ l, b.ti ≠ x.ti := fun b hb h => by have := hs'.1 b hb; rw [h, e] at this; exact ltT_irrefl this
    constructor
    · rintro (rfl | h)
      · exact .inr ⟨e, .inl ⟨a, List.mem_cons_self, e, rfl⟩⟩
      · exact .inl ⟨List.mem_cons_of_mem _ h, tl c h⟩
    · rintro (⟨h1, h2⟩ | ⟨h1, ⟨b, h2, h3, h4⟩ | ⟨h2, -⟩⟩)
      · rcases List.mem_cons.1 h1 with rfl | h1
        · exact absurd e h2
        · exact .inr h1
      · rcases List.mem_cons.1 h2 with rfl | h2
        · exact .inl (cm_ext (h1.trans e.symm) h4)
        · exact absurd h3 (tl b h2)
      · exact absurd e (h2 a List.mem_cons_self)
theorem sort_insT {x : Cm} : ∀ {l : List Cm}, SortT l → SortT (insT l x)
  | [], _ => List.pairwise_singleton _ _
  | a :: l, hs => by
    have hs' := List.pairwise_cons.1 hs
    unfold insT
    by_cases q1 : ltT a.ti x.ti
    · rw [if_pos q1]
      refine List.pairwise_cons.2 ⟨fun c hc => ?_, sort_insT hs'.2⟩
      rcases (mem_insT hs'.2 c).1 hc with ⟨h, -⟩ | ⟨h, -⟩
      · exact hs'.1 c h
      · rw [h]; exact q1
    rw [if_neg q1]
    by_cases q2 : ltT x.ti a.ti
    · rw [if_pos q2]
      refine List.pairwise_cons.2 ⟨fun c hc => ?_, hs⟩
      rcases List.mem_cons.1 hc with rfl | hc
      · exact q2
      · exact ltT_trans q2 (hs'.1 c hc)
    rw [if_neg q2]
    exact List.pairwise_cons.2 ⟨fun c hc => hs'.1 c hc, hs'.2⟩
/-- A list of exactly the titles with litres. -/
def OutR (l : List Cm) (O : Ti → Int) : Prop := SortT l ∧ ∀ c, c ∈ l ↔ c.litres = O c.ti ∧ 0 < c.litres
theorem OutR.nil : OutR [] fun _ => 0 := ⟨.nil, fun c => ⟨fun h => (by cases h), fun h => by have h1 : c.litres = 0 := h.1; omega⟩⟩
theorem OutR.ins {l : List Cm} {O : Ti → Int} {x : Cm} (h : OutR l O) (h0 : ∀ t, 0 ≤ O t) (hx : 0 < x.litres) : OutR (insT l x) fun t => O t + if t = x.ti then x.litres else 0 := by
  refine ⟨sort_insT h.1, fun c => ?_⟩
  rw [mem_insT h.1 c, h.2]
  by_cases e : c.ti = x.ti
  · simp only [e, if_true, ne_eq, not_true_eq_false, and_false, false_or, true_and]
    have hO := h0 x.ti
    constructor
    · rintro (⟨a, ha, h1, h2⟩ | ⟨h1, h2⟩)
      · obtain ⟨h3, h4⟩ := (h.2 a).1 ha
        rw [h1] at h3
        omega
      · have : O x.ti = 0 := by
          by_cases q : O x.ti = 0
          · exact q
          · exfalso
            have := (h.2 { x with litres := O x.ti }).2 ⟨rfl, by show 0 < O x.ti; omega⟩
            exact h1 _ this rfl
        omega
    · rintro ⟨h1, h2⟩
      by_cases q : O x.ti = 0
      · refine .inr ⟨fun a ha e2 => ?_, by omega⟩
        obtain ⟨h3, h4⟩ := (h.2 a).1 ha
        rw [e2] at h3
        omega
      · exact .inl ⟨{ x with litres := O x.ti }, (h.2 _).2 ⟨rfl, by show 0 < O x.ti; omega⟩, rfl, h1⟩
  · simp only [e, if_false, Int.add_zero, false_and, or_false, ne_eq, not_false_eq_true, and_true]
/-- .. by its place. -/
theorem insT_at {x : Cm} : ∀ {l : List Cm} {i : Nat}, i ≤ l.length → (∀ j a, j < i → l[j]? = some a → ltT a.ti x.ti) → (∀ a, l[i]? = some a → ¬ ltT a.ti x.ti) →
    insT l x = match l[i]? with | some a => if ltT x.ti a.ti then l.take i ++ x :: l.drop i else l.set i (a.more x.litres) | none => l.take i ++ x :: l.drop i
  | [], i, hi, _, _ => by
    obtain rfl : i = 0 := by simpa using hi
    rfl
  | a :: l, 0, _, _, h2 => by
    have := h2 a rfl
    unfold insT
    rw [if_neg this]
    rfl
  | a :: l, i + 1, hi, h1, h2 => by
    unfold insT
    rw [if_pos (h1 0 a (by omega) rfl), insT_at (l := l) (i := i) (by simpa using hi) (fun j b hj hb => h1 (j + 1) b (by omega) (by simpa using hb)) (fun b hb => h2 b (by simpa using hb))]
    rw [List.getElem?_cons_succ]
    cases l[i]? with
    | none => rfl
    | some b =>
      show a :: (if _ then _ else _) = if _ then _ else _
      split
      · rfl
      · rfl
end Go.Proofs.Ytcpogcdadlcdaaa
