/- Loops over rows that laws share: copied, held against each other, measured. -/
import Derived.Test.YtkghicadebeceaaDoorE31
namespace Go.Eng
open Go.RowKit
set_option linter.unusedSimpArgs false
set_option linter.unusedVariables false
theorem set_mid0 {α : Type} (pre suf : List α) (x y : α) : (pre ++ x :: suf).set ((pre.length : Int)).toNat y = pre ++ y :: suf := by simp
theorem next_i {α : Type} (pre : List α) (x : α) (h : pre.length ≤ 4611686018427387904) : addI .i64 (pre.length : Int) 1 = ((pre ++ [x]).length : Int) := by rw [addI_i64 (by omega) (by omega)]; exact len_snoc pre x
theorem mid_lt {α : Type} (pre suf : List α) (x : α) : (pre.length : Int) < ((pre ++ x :: suf).length : Int) := by simp; omega
theorem end_nlt {α : Type} (pre : List α) : ¬ (pre.length : Int) < ((pre ++ []).length : Int) := by simp
theorem nat_ge (n : Nat) : (0 : Int) ≤ (n : Int) := by omega
section
variable {α : Type} {z : α}
/-- a row that is copied, element by element -/
theorem to_loop {L : Nat → Nat → List α → Int → List α → Option (List α)} {one : Nat → α → Option α}
    (hL : ∀ k j a i out, L k (j + 1) a i out = brB (ltI i (ln a)) (chk (leI 0 i) <| chk (ltI i (ln a)) <| optB (one k (rd a i z)) fun r => chk (leI 0 i) <| chk (ltI i (ln out)) <| L k j a (addI .i64 i 1) (setI out i r)) (some out))
    (a : List α) (h1 : ∀ x, x ∈ a → Ev (fun k => one k x) x) (hl : a.length ≤ 4611686018427387904) : Ev2 (fun k j => L k j a 0 (repI (ln a) z)) a := by
  have key : ∀ (suf pre : List α), a = pre ++ suf → Ev2 (fun k j => L k j a (pre.length : Int) (pre ++ List.replicate suf.length z)) a := by
    intro suf
    induction suf with
    | nil =>
      intro pre hp
      refine Ev2.ret fun k j => ?_
      rw [hL]
      subst hp
      simp only [W, W1, W2, List.length_nil, List.replicate_zero]
      rw [if_neg (end_nlt pre)]
    | cons x suf ih =>
      intro pre hp
      have hle : pre.length ≤ 4611686018427387904 := by rw [hp] at hl; simp at hl; omega
      have e := fun k j => hL k j a (pre.length : Int) (pre ++ List.replicate (x :: suf).length z)
      have c1 : (pre.length : Int) < (a.length : Int) := by rw [hp]; exact mid_lt pre suf x
      have c2 : (pre.length : Int) < ((pre ++ z :: List.replicate suf.length z).length : Int) := mid_lt _ _ _
      have hr : rd a (pre.length : Int) z = x := by rw [hp]; exact rd_mid pre suf x z
      simp only [W, W1, W2, W3, List.length_cons, List.replicate_succ, if_pos (nat_ge _), if_pos c1, if_pos c2, hr, set_mid0] at e
      simp only [List.length_cons, List.replicate_succ]
      refine Ev2.step e (Ev2.bind (h1 x (by rw [hp]; simp)) ?_)
      rw [next_i pre x hle]
      have := ih (pre ++ [x]) (by rw [hp]; simp)
      simpa using this
  have := key a [] rfl
  simpa [W2] using this
/-- two rows held against each other -/
theorem eq_loop [DecidableEq α] {L : Nat → Nat → List α → List α → Int → Option Bool} {one : Nat → α → α → Option Bool}
    (hL : ∀ k j a b i, L k (j + 1) a b i = brB (ltI i (ln a)) (chk (leI 0 i) <| chk (ltI i (ln a)) <| chk (leI 0 i) <| chk (ltI i (ln b)) <| optB (one k (rd a i z) (rd b i z)) fun r => brB (notB r) (some false) (L k j a b (addI .i64 i 1))) (some true))
    (h1 : ∀ x y, Ev (fun k => one k x y) (decide (x = y))) (a b : List α) (hl : a.length ≤ 4611686018427387904) (hab : a.length = b.length) : Ev2 (fun k j => L k j a b 0) (decide (a = b)) := by
  have key : ∀ (s1 s2 pre : List α), s1.length = s2.length → pre.length + s1.length ≤ 4611686018427387904 → Ev2 (fun k j => L k j (pre ++ s1) (pre ++ s2) (pre.length : Int)) (decide (s1 = s2)) := by
    intro s1
    induction s1 with
    | nil =>
      intro s2 pre h hp
      obtain rfl : s2 = [] := List.eq_nil_of_length_eq_zero h.symm
      refine Ev2.ret fun k j => ?_
      rw [hL]
      simp only [W, W1, W2]
      rw [if_neg (end_nlt pre)]
      simp
    | cons x s1 ih =>
      intro s2 pre h hp
      cases s2 with
      | nil => simp at h
      | cons y s2 =>
        simp only [List.length_cons] at h hp
        have e := fun k j => hL k j (pre ++ x :: s1) (pre ++ y :: s2) (pre.length : Int)
        simp only [W, W1, W2, W3, if_pos (nat_ge _), if_pos (mid_lt _ _ _), rd_mid] at e
        refine Ev2.step e (Ev2.bind (h1 x y) ?_)
        by_cases hxy : x = y
        · subst hxy
          simp only [decide_true, W1, next_i pre x (by omega)]
          have := ih s2 (pre ++ [x]) (by omega) (by simp; omega)
          rw [show decide (x :: s1 = x :: s2) = decide (s1 = s2) by simp]
          simpa using this
        · simp only [decide_eq_false hxy, W1]
          rw [show decide (x :: s1 = y :: s2) = false by simp [hxy]]
          exact Ev2.now _
  have := key a b [] hab (by simpa using hl)
  simpa using this
/-- the weight of a row's elements -/
def wsum (wt : α → Nat) : List α → Nat
  | [] => 0
  | x :: l => wt x + wsum wt l
theorem wsum_le {wt : α → Nat} {l : List α} {x : α} (h : x ∈ l) : wt x ≤ wsum wt l := by
  induction l with
  | nil => cases h
  | cons y l ih =>
    simp only [wsum]
    rcases List.mem_cons.1 h with rfl | h
    · omega
    · have := ih h; omega
/-- a row that is measured: what is left, or -1 -/
theorem sz_loop {L : Nat → Nat → List α → Int → Int → Option Int} {one : Nat → α → Int → Option Int} {wt : α → Nat}
    (hL : ∀ k j a left i, L k (j + 1) a left i = brB (ltI i (ln a)) (chk (leI 0 i) <| chk (ltI i (ln a)) <| optB (one k (rd a i z) left) fun r => brB (ltI r 0) (some (-1)) (L k j a r (addI .i64 i 1))) (some left))
    (a : List α) (h1 : ∀ (x : α) (n : Nat), x ∈ a → n ≤ 1048576 → Ev (fun k => one k x (n : Int)) (if n < wt x then (-1 : Int) else ((n - wt x : Nat) : Int))) (hl : a.length ≤ 4611686018427387904) (n : Nat) (hn : n ≤ 1048576) :
    Ev2 (fun k j => L k j a (n : Int) 0) (if n < wsum wt a then (-1 : Int) else ((n - wsum wt a : Nat) : Int)) := by
  have key : ∀ (suf pre : List α) (n : Nat), n ≤ 1048576 → a = pre ++ suf → Ev2 (fun k j => L k j a (n : Int) (pre.length : Int)) (if n < wsum wt suf then (-1 : Int) else ((n - wsum wt suf : Nat) : Int)) := by
    intro suf
    induction suf with
    | nil =>
      intro pre n hn hp
      refine Ev2.ret fun k j => ?_
      rw [hL]
      subst hp
      simp only [W, W1, W2, wsum]
      rw [if_neg (end_nlt pre)]
      simp
    | cons x suf ih =>
      intro pre n hn hp
      have hle : pre.length ≤ 4611686018427387904 := by rw [hp] at hl; simp at hl; omega
      have e := fun k j => hL k j a (n : Int) (pre.length : Int)
      have c1 : (pre.length : Int) < (a.length : Int) := by rw [hp]; exact mid_lt pre suf x
      have hr : rd a (pre.length : Int) z = x := by rw [hp]; exact rd_mid pre suf x z
      simp only [W, W1, W2, W3, if_pos (nat_ge _), if_pos c1, hr] at e
      refine Ev2.step e (Ev2.bind (h1 x n (by rw [hp]; simp) hn) ?_)
      rw [show wsum wt (x :: suf) = wt x + wsum wt suf from rfl]
      by_cases c : n < wt x
      · rw [if_pos c, if_pos (show n < wt x + wsum wt suf by omega)]
        simp only [if_pos (show (-1 : Int) < 0 by omega)]
        exact Ev2.now _
      · rw [if_neg c]
        simp only [if_neg (show ¬ ((n - wt x : Nat) : Int) < 0 by omega)]
        rw [next_i pre x hle]
        have := ih (pre ++ [x]) (n - wt x) (by omega) (by rw [hp]; simp)
        rw [show (if n < wt x + wsum wt suf then (-1 : Int) else ((n - (wt x + wsum wt suf) : Nat) : Int)) = if n - wt x < wsum wt suf then (-1 : Int) else ((n - wt x - wsum wt suf : Nat) : Int) by
          by_cases c2 : n - wt x < wsum wt suf
          · rw [if_pos c2, if_pos (by omega)]
          · rw [if_neg c2, if_neg (by omega)]; omega]
        exact this
  have := key a [] n hn rfl
  simpa using this
end
/-! ### bytes of strings -/
theorem numsOf_append (a b : ByteArray) : numsOf (a ++ b) = numsOf a ++ numsOf b := by
  unfold numsOf
  rw [ByteArray.data_append, Array.toList_append, List.map_append]
theorem bytesOf_numsOf (a : ByteArray) : bytesOf (numsOf a) = a := by
  unfold bytesOf numsOf
  have : (a.data.toList.map fun b => ((b.toNat : Int))).map (fun n => UInt8.ofNat n.toNat) = a.data.toList := by
    rw [List.map_map]
    conv => rhs; rw [← List.map_id a.data.toList]
    apply List.map_congr_left
    intro x _
    simp
  rw [this]
theorem numsOf_length (a : ByteArray) : (numsOf a).length = a.size := by
  unfold numsOf
  rw [List.length_map, Array.length_toList]
  rfl
theorem bytesOf_nil : bytesOf [] = ⟨#[]⟩ := rfl
end Go.Eng
