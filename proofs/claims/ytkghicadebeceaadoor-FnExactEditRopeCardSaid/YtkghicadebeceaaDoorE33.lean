/- Loops in loops; rows that a caller writes marks into, and looks at again. -/
import Derived.Test.YtkghicadebeceaaDoorE32
namespace Go.Eng
open Go.RowKit
set_option linter.unusedSimpArgs false
set_option linter.unusedVariables false
/-- three numbers of rounds: enough of all -/
def Ev3 {α : Type} (g : Nat → Nat → Nat → Option α) (r : α) : Prop := ∃ n, ∀ k j i, n ≤ k → n ≤ j → n ≤ i → g k j i = some r
theorem Ev3.two {α : Type} {g : Nat → Nat → Nat → Option α} {r : α} (h : Ev3 g r) : Ev2 (fun k j => g k j k) r := h.elim fun n hn => ⟨n, fun k j hk hj => hn k j k hk hj hk⟩
theorem Ev3.ret {α : Type} {g : Nat → Nat → Nat → Option α} {r : α} (h : ∀ k j i, g k j (i + 1) = some r) : Ev3 g r := by
  refine ⟨1, fun k j i _ _ hi => ?_⟩
  cases i with
  | zero => omega
  | succ i => exact h k j i
theorem Ev3.step {α : Type} {g f : Nat → Nat → Nat → Option α} {r : α} (h : ∀ k j i, g k j (i + 1) = f k j i) (hf : Ev3 f r) : Ev3 g r := by
  obtain ⟨n, hn⟩ := hf
  refine ⟨n + 1, fun k j i hk hj hi => ?_⟩
  cases i with
  | zero => omega
  | succ i => exact (h k j i).trans (hn k j i (by omega) (by omega) (by omega))
theorem Ev3.bind {α β : Type} {g : Nat → Option α} {f : Nat → Nat → Nat → α → Option β} {a : α} {r : β} (h : Ev g a) (hf : Ev3 (fun k j i => f k j i a) r) : Ev3 (fun k j i => (g k).bind (f k j i)) r := by
  obtain ⟨n, hn⟩ := h
  obtain ⟨m, hm⟩ := hf
  refine ⟨n + m, fun k j i hk hj hi => ?_⟩
  show (g k).bind (f k j i) = some r
  rw [hn k (by omega)]
  exact hm k j i (by omega) (by omega) (by omega)
theorem Ev3.now {α : Type} (r : α) : Ev3 (fun _ _ _ => some r) r := ⟨0, fun _ _ _ _ _ _ => rfl⟩
/-- what does not look at the innermost rounds -/
theorem Ev2.three {α : Type} {g : Nat → Nat → Option α} {r : α} (h : Ev2 g r) : Ev3 (fun k j _ => g k j) r := h.elim fun n hn => ⟨n, fun k j _ hk hj _ => hn k j hk hj⟩
section
variable {α : Type}
/-- marks, element by element: each takes c numbers -/
def rowsV (v : Nat → α) (c : Nat) : Nat → Nat → List α
  | _, 0 => []
  | k, m + 1 => v k :: rowsV v c (k + c) m
theorem rowsV_len (v : Nat → α) (c : Nat) : ∀ (m k : Nat), (rowsV v c k m).length = m
  | 0, _ => rfl
  | m + 1, k => by simp only [rowsV, List.length_cons, rowsV_len v c m]
theorem mark_loop {L : Nat → Nat → Int → Int → List α → Option (Int × List α)} {v : Nat → α} {c : Nat}
    (hend : ∀ (a : List α) (k0 : Int) k j, L k (j + 1) k0 (a.length : Int) a = some (k0, a))
    (hstep : ∀ (pre suf : List α) (x : α) (k0 : Nat) (r : Int × List α), pre.length ≤ 1048576 → k0 ≤ 100000000 → Ev2 (fun k j => L k j ((k0 + c : Nat) : Int) ((pre ++ [v k0]).length : Int) (pre ++ v k0 :: suf)) r → Ev2 (fun k j => L k j (k0 : Int) (pre.length : Int) (pre ++ x :: suf)) r)
    (a : List α) (k0 : Nat) (ha : a.length ≤ 1048576) (hk : k0 + c * a.length ≤ 100000000) : Ev2 (fun k j => L k j (k0 : Int) 0 a) (((k0 + c * a.length : Nat) : Int), rowsV v c k0 a.length) := by
  have key : ∀ (suf pre : List α) (k0 : Nat), pre.length + suf.length ≤ 1048576 → k0 + c * suf.length ≤ 100000000 → Ev2 (fun k j => L k j (k0 : Int) (pre.length : Int) (pre ++ suf)) (((k0 + c * suf.length : Nat) : Int), pre ++ rowsV v c k0 suf.length) := by
    intro suf
    induction suf with
    | nil =>
      intro pre k0 h1 h2
      refine Ev2.ret fun k j => ?_
      rw [show (pre.length : Int) = ((pre ++ ([] : List α)).length : Int) by simp, hend]
      simp [rowsV]
    | cons x suf ih =>
      intro pre k0 h1 h2
      simp only [List.length_cons] at h1 h2
      have h3 : c * (suf.length + 1) = c * suf.length + c := Nat.mul_succ _ _
      refine hstep pre suf x k0 _ (by omega) (by omega) ?_
      have := ih (pre ++ [v k0]) (k0 + c) (by simp; omega) (by omega)
      simp only [List.length_cons, rowsV, h3]
      rw [show k0 + (c * suf.length + c) = k0 + c + c * suf.length by omega]
      simpa using this
  have := key a [] k0 (by simpa using ha) hk
  simpa using this
theorem held_loop {L : Nat → Nat → List α → Int → Int → Option Int} {v : Nat → α} {c : Nat}
    (hend : ∀ (a : List α) (k0 : Int) k j, L k (j + 1) a k0 (a.length : Int) = some k0)
    (hstep : ∀ (pre suf : List α) (k0 : Nat) (r : Int), pre.length ≤ 1048576 → k0 ≤ 100000000 → Ev2 (fun k j => L k j (pre ++ v k0 :: suf) ((k0 + c : Nat) : Int) ((pre ++ [v k0]).length : Int)) r → Ev2 (fun k j => L k j (pre ++ v k0 :: suf) (k0 : Int) (pre.length : Int)) r)
    (m k0 : Nat) (ha : m ≤ 1048576) (hk : k0 + c * m ≤ 100000000) : Ev2 (fun k j => L k j (rowsV v c k0 m) (k0 : Int) 0) ((k0 + c * m : Nat) : Int) := by
  have key : ∀ (m : Nat) (pre : List α) (k0 : Nat), pre.length + m ≤ 1048576 → k0 + c * m ≤ 100000000 → Ev2 (fun k j => L k j (pre ++ rowsV v c k0 m) (k0 : Int) (pre.length : Int)) ((k0 + c * m : Nat) : Int) := by
    intro m
    induction m with
    | zero =>
      intro pre k0 h1 h2
      refine Ev2.ret fun k j => ?_
      rw [show (pre.length : Int) = ((pre ++ rowsV v c k0 0).length : Int) by simp [rowsV], hend]
      simp
    | succ m ih =>
      intro pre k0 h1 h2
      have h3 : c * (m + 1) = c * m + c := Nat.mul_succ _ _
      simp only [rowsV]
      refine hstep pre _ k0 _ (by omega) (by omega) ?_
      have := ih (pre ++ [v k0]) (k0 + c) (by simp; omega) (by omega)
      rw [show k0 + c * (m + 1) = k0 + c + c * m by omega]
      simpa using this
  have := key m [] k0 (by simpa using ha) hk
  simpa using this
end
end Go.Eng
