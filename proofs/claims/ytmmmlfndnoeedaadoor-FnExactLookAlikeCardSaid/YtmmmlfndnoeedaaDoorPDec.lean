/- Points taken apart to the last, by both sides. -/
import Derived.Test.YtmmmlfndnoeedaaDoorPParts
import Derived.Test.YtmmmlfndnoeedaaDoorEG
namespace Go.Proofs.YtmmmlfndnoeedaaDoor.IX
open Go.Eng Go.RowKit
set_option linter.unusedVariables false
set_option linter.unusedSimpArgs false
def Pt (p : Int) : Prop := 0 ≤ p ∧ p ≤ 1114111
def prI (k : Bool) (p : Int) : List Int := prt k p.toNat
def dcF (k : Bool) : Nat → Int → List Int
  | 0, p => [p]
  | n + 1, p => if prI k p = [] then [p] else (prI k p).flatMap (dcF k n)
/-- so many times parts have parts -/
def Dep (k : Bool) : Nat → Int → Prop
  | 0, p => Pt p ∧ prI k p = []
  | n + 1, p => Pt p ∧ ∀ q ∈ prI k p, Dep k n q
theorem Dep.pt {k : Bool} : ∀ {n : Nat} {p : Int}, Dep k n p → Pt p
  | 0, _, h => h.1
  | _ + 1, _, h => h.1
theorem Dep.up {k : Bool} : ∀ {n : Nat} {p : Int}, Dep k n p → Dep k (n + 1) p
  | 0, p, h => ⟨h.1, fun q hq => by rw [h.2] at hq; cases hq⟩
  | n + 1, p, h => ⟨h.1, fun q hq => (h.2 q hq).up⟩
/-- a point without parts -/
def leaf (m : Nat) : Prop := m < 8192 ∧ m ≠ 160 ∧ m ≠ 8064
theorem leaf_dep (k : Bool) {m : Nat} (h : leaf m) : Dep k 0 (m : Int) := by
  obtain ⟨h1, h2, h3⟩ := h
  refine ⟨⟨by omega, by omega⟩, ?_⟩
  show prt k ((m : Int)).toNat = []
  rw [Int.toNat_natCast]
  unfold prt wd
  rw [if_neg (by omega), if_neg (by omega), if_neg (by omega)]
  cases k with
  | false => rfl
  | true => rw [if_neg (by decide), if_neg (by omega), if_neg (by omega), if_neg (by omega), if_neg (by omega), if_neg (by omega), if_neg (by omega), if_neg (by omega)]
theorem ltr_leaf {n : Nat} (h : n < 52) : ∃ m : Nat, ltr n = (m : Int) ∧ leaf m := by
  unfold ltr leaf
  by_cases c : n < 26
  · exact ⟨65 + n, by rw [if_pos c], by omega⟩
  · exact ⟨71 + n, by rw [if_neg c], by omega⟩
theorem leaf_mem (k : Bool) {l : List Int} (h : ∀ q ∈ l, ∃ m : Nat, q = (m : Int) ∧ leaf m) : ∀ q ∈ l, Dep k 0 q := fun q hq => by
  obtain ⟨m, rfl, hm⟩ := h q hq
  exact leaf_dep k hm
theorem two {a b : Int} {P : Int → Prop} (ha : P a) (hb : P b) : ∀ q ∈ [a, b], P q := fun q hq => by
  rcases List.mem_cons.1 hq with rfl | hq
  · exact ha
  · rw [List.mem_singleton.1 hq]; exact hb
theorem one {a : Int} {P : Int → Prop} (ha : P a) : ∀ q ∈ [a], P q := fun q hq => by rw [List.mem_singleton.1 hq]; exact ha
theorem lf {m : Nat} (h : leaf m) : ∃ m' : Nat, (m : Int) = (m' : Int) ∧ leaf m' := ⟨m, rfl, h⟩
/-- a letter's block: letters and marks -/
theorem dep_low (k : Bool) {n : Nat} (h : 8704 ≤ n ∧ n < 9120) : Dep k 1 (n : Int) := by
  refine ⟨⟨by omega, by omega⟩, ?_⟩
  show ∀ q ∈ prt k ((n : Int)).toNat, Dep k 0 q
  rw [Int.toNat_natCast, prt_a n k ⟨⟨by omega, by omega⟩, by omega⟩, if_neg (by omega), if_pos (by omega)]
  exact leaf_mem k (two (ltr_leaf (by omega)) (lf ⟨by omega, by omega, by omega⟩))
theorem dep_open (k : Bool) {n : Nat} (h : 12288 ≤ n ∧ n ≤ 23459) (h2 : (n - 12288) % 28 = 0) : Dep k 1 (n : Int) := by
  refine ⟨⟨by omega, by omega⟩, ?_⟩
  show ∀ q ∈ prt k ((n : Int)).toNat, Dep k 0 q
  rw [Int.toNat_natCast]
  unfold prt
  rw [if_neg (by omega), if_neg (by omega), if_pos h, if_neg (by omega)]
  exact leaf_mem k (two (lf ⟨by omega, by omega, by omega⟩) (lf ⟨by omega, by omega, by omega⟩))
theorem dep_wd (k : Bool) (n : Nat) : ∀ q ∈ wd n, Dep k 0 q := by
  refine leaf_mem k ?_
  unfold wd
  by_cases c1 : 9984 ≤ n ∧ n ≤ 10009
  · rw [if_pos c1]; exact one (lf ⟨by omega, by omega, by omega⟩)
  by_cases c2 : 10016 ≤ n ∧ n ≤ 10025
  · rw [if_neg c1, if_pos c2]; exact one (lf ⟨by omega, by omega, by omega⟩)
  by_cases c3 : n = 8064 ∨ n = 160
  · rw [if_neg c1, if_neg c2, if_pos c3]; exact one (lf (m := 32) ⟨by omega, by omega, by omega⟩)
  rw [if_neg c1, if_neg c2, if_neg c3]
  by_cases c4 : n = 10032
  · rw [if_pos c4]; exact two (lf (m := 102) ⟨by omega, by omega, by omega⟩) (lf (m := 102) ⟨by omega, by omega, by omega⟩)
  by_cases c5 : n = 10033
  · rw [if_neg c4, if_pos c5]; exact two (lf (m := 102) ⟨by omega, by omega, by omega⟩) (lf (m := 105) ⟨by omega, by omega, by omega⟩)
  by_cases c6 : n = 10034
  · rw [if_neg c4, if_neg c5, if_pos c6]; exact two (lf (m := 102) ⟨by omega, by omega, by omega⟩) (lf (m := 108) ⟨by omega, by omega, by omega⟩)
  by_cases c7 : n = 10035
  · rw [if_neg c4, if_neg c5, if_neg c6, if_pos c7]; exact two (lf (m := 115) ⟨by omega, by omega, by omega⟩) (lf (m := 116) ⟨by omega, by omega, by omega⟩)
  · rw [if_neg c4, if_neg c5, if_neg c6, if_neg c7]; exact fun q hq => by cases hq
theorem dep_all (k : Bool) (n : Nat) (hn : n ≤ 1114111) : Dep k 2 (n : Int) := by
  refine ⟨⟨by omega, by omega⟩, ?_⟩
  show ∀ q ∈ prt k ((n : Int)).toNat, Dep k 1 q
  rw [Int.toNat_natCast]
  have up : ∀ {l : List Int}, (∀ q ∈ l, ∃ m : Nat, q = (m : Int) ∧ leaf m) → ∀ q ∈ l, Dep k 1 q := fun h q hq => (leaf_mem k h q hq).up
  by_cases c : (8192 ≤ n ∧ n ≤ 9631) ∧ (n - 8192) % 512 < 416
  · rw [prt_a n k c]
    by_cases c1 : (n - 8192) / 512 = 0
    · rw [if_pos c1]; exact up (two (ltr_leaf (by omega)) (lf ⟨by omega, by omega, by omega⟩))
    by_cases c2 : (n - 8192) / 512 = 1
    · rw [if_neg c1, if_pos c2]; exact up (two (ltr_leaf (by omega)) (lf ⟨by omega, by omega, by omega⟩))
    · rw [if_neg c1, if_neg c2]; exact two (dep_low k ⟨by omega, by omega⟩) (leaf_dep k (m := 4096) ⟨by omega, by omega, by omega⟩).up
  · rw [prt_b n k c]
    unfold prB
    by_cases c1 : 9728 ≤ n ∧ n ≤ 9753
    · rw [if_pos c1]; exact up (one (lf ⟨by omega, by omega, by omega⟩))
    by_cases c2 : 12288 ≤ n ∧ n ≤ 23459
    · rw [if_neg c1, if_pos c2]
      by_cases c3 : 0 < (n - 12288) % 28
      · rw [if_pos c3]; exact two (dep_open k ⟨by omega, by omega⟩ (by omega)) (leaf_dep k ⟨by omega, by omega, by omega⟩).up
      · rw [if_neg c3]; exact up (two (lf ⟨by omega, by omega, by omega⟩) (lf ⟨by omega, by omega, by omega⟩))
    · rw [if_neg c1, if_neg c2]
      cases k with
      | false => exact fun q hq => by simp at hq
      | true => rw [if_neg (by decide)]; exact fun q hq => (dep_wd true n q hq).up
theorem prI_len (k : Bool) (p : Int) : (prI k p).length ≤ 2 := by
  unfold prI prt wd
  repeat' split
  all_goals simp
theorem dcF_len (k : Bool) : ∀ (n : Nat) (p : Int), (dcF k n p).length ≤ 2 ^ n
  | 0, p => by simp [dcF]
  | n + 1, p => by
    unfold dcF
    split
    · simp; exact Nat.one_le_two_pow
    · have h1 := prI_len k p
      have h2 : ∀ l : List Int, l.length ≤ 2 → (l.flatMap (dcF k n)).length ≤ l.length * 2 ^ n := fun l _ => by
        induction l with
        | nil => simp
        | cons x l ih =>
          rw [List.flatMap_cons, List.length_append, List.length_cons, Nat.succ_mul]
          have := dcF_len k n x
          have := ih (by simp at *; omega)
          omega
      have h3 := h2 _ h1
      have : (prI k p).length * 2 ^ n ≤ 2 * 2 ^ n := Nat.mul_le_mul_right _ h1
      rw [Nat.pow_succ]
      omega
theorem dcF_pt (k : Bool) : ∀ (n : Nat) (p : Int), Dep k n p → ∀ q ∈ dcF k (n + 1) p, Pt q
  | 0, p, h, q, hq => by
    have : dcF k 1 p = [p] := if_pos h.2
    rw [this, List.mem_singleton] at hq
    subst hq
    exact h.1
  | n + 1, p, h, q, hq => by
    have e : dcF k (n + 2) p = if prI k p = [] then [p] else (prI k p).flatMap (dcF k (n + 1)) := rfl
    rw [e] at hq
    split at hq
    · rw [List.mem_singleton.1 hq]; exact h.1
    · obtain ⟨a, ha, hb⟩ := List.mem_flatMap.1 hq
      exact dcF_pt k n a (h.2 a ha) q hb
theorem implDec_loop {f : Int → List Int} (k Nil : Bool) (l : List Int) (hl : l.length ≤ 2) (h : ∀ q ∈ l, Ev (fun u => impl_decompose u q k) (f q) ∧ (f q).length ≤ 1000) : ∀ (suf pre : List Int) (out : List Int), l = pre ++ suf → out.length ≤ 1000 * pre.length →
    Ev2 (fun u j => impl_decompose_L6 u j k (l.length : Int) (pre.length : Int) out Nil l) (out ++ suf.flatMap f)
  | [], pre, out, hp, ho => by
    refine Ev2.ret fun u j => ?_
    rw [impl_decompose_L6.eq, hp]
    simp only [W, W1]
    rw [if_neg (end_nlt pre)]
    simp
  | x :: suf, pre, out, hp, ho => by
    have hle : pre.length + 1 ≤ l.length := by rw [hp]; simp
    have hr : rd l (pre.length : Int) 0 = x := by rw [hp]; exact rd_mid pre suf x _
    obtain ⟨hx, hxl⟩ := h x (by rw [hp]; simp)
    have e := fun u j => impl_decompose_L6.eq k (l.length : Int) (pre.length : Int) out Nil l u j
    simp only [W, W1, W2, W3, hr, if_pos (nat_ge _), if_pos (show (pre.length : Int) < (l.length : Int) by omega), next_i pre x (by omega)] at e
    refine Ev2.step e (Ev2.bind hx ?_)
    simp only [if_pos (show (((out.length : Nat) : Int) + (((f x).length : Nat) : Int)) * 8 < 140737488355328 by omega)]
    have := implDec_loop k Nil l hl h suf (pre ++ [x]) (out ++ f x) (by rw [hp]; simp) (by simp; omega)
    simpa using this
theorem specAll_loop {f : Int → List Int} (k : Bool) (l : List Int) (hl : l.length ≤ 2) (h : ∀ q ∈ l, Ev (fun u => spec_l05All u q k) (f q) ∧ (f q).length ≤ 1000) : ∀ (suf pre : List Int) (out : List Int), l = pre ++ suf → out.length ≤ 1000 * pre.length →
    Ev2 (fun u j => spec_l05All_L6 u j k (pre.length : Int) l out) (out ++ suf.flatMap f)
  | [], pre, out, hp, ho => by
    refine Ev2.ret fun u j => ?_
    rw [spec_l05All_L6.eq, hp]
    simp only [W, W1, W2]
    rw [if_neg (end_nlt pre)]
    simp
  | x :: suf, pre, out, hp, ho => by
    have hle : pre.length + 1 ≤ l.length := by rw [hp]; simp
    have hr : rd l (pre.length : Int) 0 = x := by rw [hp]; exact rd_mid pre suf x _
    obtain ⟨hx, hxl⟩ := h x (by rw [hp]; simp)
    have e := fun u j => spec_l05All_L6.eq k (pre.length : Int) l out u j
    simp only [W, W1, W2, W3, hr, if_pos (nat_ge _), if_pos (show (pre.length : Int) < (l.length : Int) by omega), next_i pre x (by omega)] at e
    refine Ev2.step e (Ev2.bind hx ?_)
    simp only [if_pos (show (((out.length : Nat) : Int) + (((f x).length : Nat) : Int)) * 8 < 140737488355328 by omega)]
    have := specAll_loop k l hl h suf (pre ++ [x]) (out ++ f x) (by rw [hp]; simp) (by simp; omega)
    simpa using this
theorem pow_small : ∀ n : Nat, n ≤ 3 → 2 ^ n ≤ 8 := fun n h => by
  calc 2 ^ n ≤ 2 ^ 3 := Nat.pow_le_pow_right (by omega) h
    _ = 8 := rfl
theorem implDecF (k : Bool) : ∀ (n : Nat) (p : Int), n ≤ 2 → Dep k n p → Ev (fun u => impl_decompose u p k) (dcF k (n + 1) p)
  | n, p, hn, h => by
    obtain ⟨m, rfl⟩ : ∃ m : Nat, p = (m : Int) := ⟨p.toNat, by have := h.pt; unfold Pt at this; omega⟩
    have hm := h.pt
    unfold Pt at hm
    have hp : prI k (m : Int) = prt k m := by unfold prI; rw [Int.toNat_natCast]
    have hI := implParts m (by omega) k
    rw [← hp] at hI
    have e := fun u => impl_decompose.eq (m : Int) k u
    simp only [W, W1, W2, W3] at e
    refine Ev.step e (Ev.bind hI ?_)
    rw [show dcF k (n + 1) (m : Int) = if prI k (m : Int) = [] then [(m : Int)] else (prI k (m : Int)).flatMap (dcF k n) from rfl]
    by_cases c : prI k (m : Int) = []
    · rw [if_pos c]
      simp only [decide_eq_true c, W1]
      exact Ev.now _
    · rw [if_neg c]
      simp only [decide_eq_false c, W1]
      cases n with
      | zero => exact absurd h.2 c
      | succ n =>
        have := implDec_loop (f := dcF k (n + 1)) k false (prI k (m : Int)) (prI_len _ _) (fun q hq => ⟨implDecF k n q (by omega) (h.2 q hq), by have := dcF_len k (n + 1) q; have := pow_small (n + 1) (by omega); omega⟩) _ [] [] rfl (by simp)
        exact this.ev
theorem specAllF (k : Bool) : ∀ (n : Nat) (p : Int), n ≤ 2 → Dep k n p → Ev (fun u => spec_l05All u p k) (dcF k (n + 1) p)
  | n, p, hn, h => by
    obtain ⟨m, rfl⟩ : ∃ m : Nat, p = (m : Int) := ⟨p.toNat, by have := h.pt; unfold Pt at this; omega⟩
    have hm := h.pt
    unfold Pt at hm
    have hp : prI k (m : Int) = prt k m := by unfold prI; rw [Int.toNat_natCast]
    have hI := specParts m (by omega) k
    rw [← hp] at hI
    have e := fun u => spec_l05All.eq (m : Int) k u
    simp only [W, W1, W2, W3] at e
    refine Ev.step e (Ev.bind hI ?_)
    rw [show dcF k (n + 1) (m : Int) = if prI k (m : Int) = [] then [(m : Int)] else (prI k (m : Int)).flatMap (dcF k n) from rfl]
    by_cases c : prI k (m : Int) = []
    · rw [if_pos c, c]
      simp only [List.length_nil, if_pos (show ((0 : Nat) : Int) = 0 by rfl)]
      exact Ev.now _
    · rw [if_neg c]
      have : (prI k (m : Int)).length ≠ 0 := fun h => c (List.length_eq_zero_iff.1 h)
      simp only [if_neg (show ¬ (((prI k (m : Int)).length : Nat) : Int) = 0 by omega)]
      cases n with
      | zero => exact absurd h.2 c
      | succ n =>
        have := specAll_loop (f := dcF k (n + 1)) k (prI k (m : Int)) (prI_len _ _) (fun q hq => ⟨specAllF k n q (by omega) (h.2 q hq), by have := dcF_len k (n + 1) q; have := pow_small (n + 1) (by omega); omega⟩) _ [] [] rfl (by simp)
        exact this.ev
/-- all of a point -/
def dc (k : Bool) (p : Int) : List Int := dcF k 3 p
theorem dep2 (k : Bool) {p : Int} (h : Pt p) : Dep k 2 p := by
  obtain ⟨m, rfl⟩ : ∃ m : Nat, p = (m : Int) := ⟨p.toNat, by unfold Pt at h; omega⟩
  unfold Pt at h
  exact dep_all k m (by omega)
theorem dc_len (k : Bool) (p : Int) : (dc k p).length ≤ 8 := dcF_len k 3 p
theorem dc_pt (k : Bool) {p : Int} (h : Pt p) : ∀ q ∈ dc k p, Pt q := dcF_pt k 2 p (dep2 k h)
theorem implDc (k : Bool) {p : Int} (h : Pt p) : Ev (fun u => impl_decompose u p k) (dc k p) := implDecF k 2 p (by omega) (dep2 k h)
theorem specDc (k : Bool) {p : Int} (h : Pt p) : Ev (fun u => spec_l05All u p k) (dc k p) := specAllF k 2 p (by omega) (dep2 k h)
end Go.Proofs.YtmmmlfndnoeedaaDoor.IX
