/- Marks that a law writes into ropes, and looks at again, plainly. -/
import Derived.Test.YtkghicadebeceaaDoorPRopeQ
import Derived.Test.YtkghicadebeceaaDoorXMarkQ
import Derived.Test.YtkghicadebeceaaDoorEG
namespace Go.Proofs.YtkghicadebeceaaDoor.RG
open Go.Eng Go.RowKit
set_option linter.unusedVariables false
set_option linter.unusedSimpArgs false
noncomputable def mtx (n : Nat) : ByteArray := if h : n ≤ 1000000000 then Classical.choose (markText_ev n h) else ⟨#[]⟩
theorem mtx_ev (n : Nat) (h : n ≤ 1000000000) : Ev (fun k => laws_markText k (n : Int)) (mtx n) := by
  unfold mtx
  rw [dif_pos h]
  exact Classical.choose_spec (markText_ev n h)
theorem add1 (n : Nat) (h : n ≤ 1000000000) : addI .i64 (n : Int) 1 = ((n + 1 : Nat) : Int) := by rw [addI_i64 (by omega) (by omega)]; omega
noncomputable def vNode (k : Nat) : T_siiii := (mtx k, ((k + 1 : Nat) : Int), ((k + 2 : Nat) : Int), ((k + 3 : Nat) : Int), ((k + 4 : Nat) : Int))
noncomputable def vMark (k : Nat) : T_sib := (mtx k, ((k + 1 : Nat) : Int), decide (remI ((k + 2 : Nat) : Int) 3 = 0))
noncomputable def vEdit (k : Nat) : T_iis := ((k : Int), ((k + 1 : Nat) : Int), mtx (k + 2))
theorem markNodes (l : List T_siiii) (k0 : Nat) (hl : l.length ≤ 1048576) (hk : k0 + 5 * l.length ≤ 100000000) : Ev (fun k => laws_markRopeNodeS k (k0 : Int) l) (((k0 + 5 * l.length : Nat) : Int), rowsV vNode 5 k0 l.length) := by
  refine Ev.step (fun k => laws_markRopeNodeS.eq (k0 : Int) l k) (mark_loop (L := laws_markRopeNodeS_L2) (v := vNode) (c := 5) (fun a k0 k j => ?_) (fun pre suf x k0 r hp hk h => ?_) l k0 hl hk).ev
  · rw [laws_markRopeNodeS_L2.eq, show ltI (a.length : Int) (ln a) = false by simp only [W, W2]; simp, brB_f rfl]
  · have e := fun k j => laws_markRopeNodeS_L2.eq (k0 : Int) (pre.length : Int) (pre ++ x :: suf) k j
    simp only [W, W1, W2, W3, set_mid0, rd_mid, add1 k0 (by omega), add1 (k0 + 1) (by omega), add1 (k0 + 2) (by omega), add1 (k0 + 3) (by omega), add1 (k0 + 4) (by omega), Nat.add_assoc, Nat.reduceAdd, if_pos (mid_lt _ _ _), if_pos (nat_ge _), next_i pre (vNode k0) (by omega)] at e
    refine Ev2.step e (Ev2.bind (mtx_ev k0 (by omega)) ?_)
    exact h
theorem markMarks (l : List T_sib) (k0 : Nat) (hl : l.length ≤ 1048576) (hk : k0 + 3 * l.length ≤ 100000000) : Ev (fun k => laws_markMarkS k (k0 : Int) l) (((k0 + 3 * l.length : Nat) : Int), rowsV vMark 3 k0 l.length) := by
  refine Ev.step (fun k => laws_markMarkS.eq (k0 : Int) l k) (mark_loop (L := laws_markMarkS_L2) (v := vMark) (c := 3) (fun a k0 k j => ?_) (fun pre suf x k0 r hp hk h => ?_) l k0 hl hk).ev
  · rw [laws_markMarkS_L2.eq, show ltI (a.length : Int) (ln a) = false by simp only [W, W2]; simp, brB_f rfl]
  · have e := fun k j => laws_markMarkS_L2.eq (k0 : Int) (pre.length : Int) (pre ++ x :: suf) k j
    have z : ¬ ((3 : Int) = 0) := by omega
    simp only [W, W1, W2, W3, set_mid0, rd_mid, add1 k0 (by omega), add1 (k0 + 1) (by omega), add1 (k0 + 2) (by omega), Nat.add_assoc, Nat.reduceAdd, if_pos (mid_lt _ _ _), if_pos (nat_ge _), if_neg z, next_i pre (vMark k0) (by omega)] at e
    refine Ev2.step e (Ev2.bind (mtx_ev k0 (by omega)) ?_)
    exact h
theorem markEdits (l : List T_iis) (k0 : Nat) (hl : l.length ≤ 1048576) (hk : k0 + 3 * l.length ≤ 100000000) : Ev (fun k => laws_markRopeEditS k (k0 : Int) l) (((k0 + 3 * l.length : Nat) : Int), rowsV vEdit 3 k0 l.length) := by
  refine Ev.step (fun k => laws_markRopeEditS.eq (k0 : Int) l k) (mark_loop (L := laws_markRopeEditS_L2) (v := vEdit) (c := 3) (fun a k0 k j => ?_) (fun pre suf x k0 r hp hk h => ?_) l k0 hl hk).ev
  · rw [laws_markRopeEditS_L2.eq, show ltI (a.length : Int) (ln a) = false by simp only [W, W2]; simp, brB_f rfl]
  · have e := fun k j => laws_markRopeEditS_L2.eq (k0 : Int) (pre.length : Int) (pre ++ x :: suf) k j
    simp only [W, W1, W2, W3, set_mid0, rd_mid, add1 k0 (by omega), add1 (k0 + 1) (by omega), add1 (k0 + 2) (by omega), Nat.add_assoc, Nat.reduceAdd, if_pos (mid_lt _ _ _), if_pos (nat_ge _), next_i pre (vEdit k0) (by omega)] at e
    refine Ev2.step e (Ev2.bind (mtx_ev (k0 + 2) (by omega)) ?_)
    exact h
theorem heldNodes (m k0 : Nat) (hl : m ≤ 1048576) (hk : k0 + 5 * m ≤ 100000000) : Ev (fun k => laws_heldRopeNodeS k (rowsV vNode 5 k0 m) (k0 : Int)) ((k0 + 5 * m : Nat) : Int) := by
  refine Ev.step (fun k => laws_heldRopeNodeS.eq (rowsV vNode 5 k0 m) (k0 : Int) k) (held_loop (L := laws_heldRopeNodeS_L2) (v := vNode) (c := 5) (fun a k0 k j => ?_) (fun pre suf k0 r hp hk h => ?_) m k0 hl hk).ev
  · rw [laws_heldRopeNodeS_L2.eq, show ltI (a.length : Int) (ln a) = false by simp only [W, W2]; simp, brB_f rfl]
  · have e := fun k j => laws_heldRopeNodeS_L2.eq (pre ++ vNode k0 :: suf) (k0 : Int) (pre.length : Int) k j
    simp only [W, W1, W2, W3, rd_mid, add1 k0 (by omega), add1 (k0 + 1) (by omega), add1 (k0 + 2) (by omega), add1 (k0 + 3) (by omega), add1 (k0 + 4) (by omega), Nat.add_assoc, Nat.reduceAdd, if_pos (mid_lt _ _ _), if_pos (nat_ge _), next_i pre (vNode k0) (by omega)] at e
    refine Ev2.step e (Ev2.bind (mtx_ev k0 (by omega)) ?_)
    simp only [vNode, if_true]
    exact h
theorem heldMarks (m k0 : Nat) (hl : m ≤ 1048576) (hk : k0 + 3 * m ≤ 100000000) : Ev (fun k => laws_heldMarkS k (rowsV vMark 3 k0 m) (k0 : Int)) ((k0 + 3 * m : Nat) : Int) := by
  refine Ev.step (fun k => laws_heldMarkS.eq (rowsV vMark 3 k0 m) (k0 : Int) k) (held_loop (L := laws_heldMarkS_L2) (v := vMark) (c := 3) (fun a k0 k j => ?_) (fun pre suf k0 r hp hk h => ?_) m k0 hl hk).ev
  · rw [laws_heldMarkS_L2.eq, show ltI (a.length : Int) (ln a) = false by simp only [W, W2]; simp, brB_f rfl]
  · have e := fun k j => laws_heldMarkS_L2.eq (pre ++ vMark k0 :: suf) (k0 : Int) (pre.length : Int) k j
    have z : ¬ ((3 : Int) = 0) := by omega
    simp only [W, W1, W2, W3, rd_mid, add1 k0 (by omega), add1 (k0 + 1) (by omega), add1 (k0 + 2) (by omega), Nat.add_assoc, Nat.reduceAdd, if_pos (mid_lt _ _ _), if_pos (nat_ge _), if_neg z, next_i pre (vMark k0) (by omega)] at e
    refine Ev2.step e (Ev2.bind (mtx_ev k0 (by omega)) ?_)
    simp only [vMark, if_true, beq_self_eq_true, W1]
    exact h
theorem markRope (r : List T_siiii) (ms : List T_sib) (h1 : r.length ≤ 1048576) (h2 : ms.length ≤ 1048576) : Ev (fun k => laws_markRope k 1 r ms) (((1 + 5 * r.length + 3 * ms.length : Nat) : Int), (rowsV vNode 5 1 r.length, rowsV vMark 3 (1 + 5 * r.length) ms.length)) :=
  Ev.step (fun k => laws_markRope.eq 1 r ms k) (Ev.opt (markNodes r 1 h1 (by omega)) (Ev.opt (markMarks ms (1 + 5 * r.length) h2 (by omega)) (Ev.now _)))
theorem heldRope (n m : Nat) (h1 : n ≤ 1048576) (h2 : m ≤ 1048576) : Ev (fun k => laws_heldRope k (rowsV vNode 5 1 n) (rowsV vMark 3 (1 + 5 * n) m) 1) ((1 + 5 * n + 3 * m : Nat) : Int) := by
  have e := fun k => laws_heldRope.eq (rowsV vNode 5 1 n) (rowsV vMark 3 (1 + 5 * n) m) 1 k
  simp only [W, W1, W3] at e
  refine Ev.step e (Ev.bind (heldNodes n 1 h1 (by omega)) ?_)
  simp only [if_neg (show ¬ ((1 + 5 * n : Nat) : Int) < 0 by omega)]
  refine Ev.bind (heldMarks m (1 + 5 * n) h2 (by omega)) ?_
  simp only [if_neg (show ¬ ((1 + 5 * n + 3 * m : Nat) : Int) < 0 by omega)]
  exact Ev.now _
end Go.Proofs.YtkghicadebeceaaDoor.RG
