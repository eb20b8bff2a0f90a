/- Marks put into ropes and edits, and found there again. -/
import Derived.Test.YtfbhkkedmfbgbaaDoorPMarkA
namespace Go.Proofs.YtfbhkkedmfbgbaaDoor.PM
open Go.Eng Go.RowKit
set_option linter.unusedVariables false
set_option linter.unusedSimpArgs false
theorem heldNodes (m k0 : Nat) (hl : m ≤ 1048576) (hk : k0 + 5 * m ≤ 100000000) : Ev (fun k => laws_heldRopeNodeS k (rowsV vNode 5 k0 m) (k0 : Int)) ((k0 + 5 * m : Nat) : Int) := by
  refine Ev.step (fun k => laws_heldRopeNodeS.eq (rowsV vNode 5 k0 m) (k0 : Int) k) (held_loop (L := laws_heldRopeNodeS_L2) (v := vNode) (c := 5) (fun a k0 k j => ?_) (fun pre suf k0 r hp hk h => ?_) m k0 hl hk).ev
  · rw [laws_heldRopeNodeS_L2.eq, show ltI (a.length : Int) (ln a) = false by simp only [W, W2]; simp, brB_f rfl]
  · have e := fun k j => laws_heldRopeNodeS_L2.eq (pre ++ vNode k0 :: suf) (k0 : Int) (pre.length : Int) k j
    simp only [W, W1, W2, W3, rd_mid, add1 k0 (by omega), add1 (k0 + 1) (by omega), add1 (k0 + 2) (by omega), add1 (k0 + 3) (by omega), add1 (k0 + 4) (by omega), Nat.add_assoc, Nat.reduceAdd, if_pos (mid_lt _ _ _), if_pos (nat_ge _), next_i pre (vNode k0) (by omega)] at e
    refine Ev2.step e (Ev2.bind (mtx_ev k0 (by omega)) ?_)
    simp only [vNode, if_true]
    exact h
theorem heldMarks (m k0 : Nat) (hl : m ≤ 1048576) (hk : k0 + 3 * m ≤ 100000000) : Ev (fun k => laws_heldMarkS k (rowsV vMark 3 k0 m) (k0 : Int)) ((k0 + 3 * m : Nat) : Int) := by
  refine Ev.step (fun k => laws_heldMarkS.eq (rowsV vMark 3 k0 m) (k0 : Int) k) (held_loop (L := laws_heldMarkS_L2) (v := vMark) (c := 3) (fun a k0 k j => ?_) (fun pre suf k0 r hp hk h => ?_) m k0 hl hk).ev
  · rw [laws_heldMarkS_L2.eq, show ltI (a.length : Int) (ln a) = false by simp only [W, W2]; simp, brB_f rfl]
  · have e := fun k j => laws_heldMarkS_L2.eq (pre ++ vMark k0 :: suf) (k0 : Int) (pre.length : Int) k j
    have z : ¬ ((3 : Int) = 0) := by omega
    simp only [W, W1, W2, W3, rd_mid, add1 k0 (by omega), add1 (k0 + 1) (by omega), add1 (k0 + 2) (by omega), Nat.add_assoc, Nat.reduceAdd, if_pos (mid_lt _ _ _), if_pos (nat_ge _), if_neg z, next_i pre (vMark k0) (by omega)] at e
    refine Ev2.step e (Ev2.bind (mtx_ev k0 (by omega)) ?_)
    simp only [vMark, if_true, beq_self_eq_true, W1]
    exact h
theorem heldRope (n m : Nat) (h1 : n ≤ 1048576) (h2 : m ≤ 1048576) : Ev (fun k => laws_heldRope k (rowsV vNode 5 1 n) (rowsV vMark 3 (1 + 5 * n) m) 1) ((1 + 5 * n + 3 * m : Nat) : Int) := by
  have e := fun k => laws_heldRope.eq (rowsV vNode 5 1 n) (rowsV vMark 3 (1 + 5 * n) m) 1 k
  simp only [W, W1, W3] at e
  refine Ev.step e (Ev.bind (heldNodes n 1 h1 (by omega)) ?_)
  simp only [if_neg (show ¬ ((1 + 5 * n : Nat) : Int) < 0 by omega)]
  refine Ev.bind (heldMarks m (1 + 5 * n) h2 (by omega)) ?_
  simp only [if_neg (show ¬ ((1 + 5 * n + 3 * m : Nat) : Int) < 0 by omega)]
  exact Ev.now _
end Go.Proofs.YtfbhkkedmfbgbaaDoor.PM
