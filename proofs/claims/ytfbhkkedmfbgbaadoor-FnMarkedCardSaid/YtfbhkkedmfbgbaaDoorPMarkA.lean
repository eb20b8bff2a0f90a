/- Marks that a law writes into ropes, and looks at again, plainly. -/
import Derived.Test.YtfbhkkedmfbgbaaDoorPRopeQ
import Derived.Test.YtfbhkkedmfbgbaaDoorXMarkQ
import Derived.Test.YtfbhkkedmfbgbaaDoorEG
namespace Go.Proofs.YtfbhkkedmfbgbaaDoor.PM
open Go.Eng Go.RowKit
set_option linter.unusedVariables false
set_option linter.unusedSimpArgs false
noncomputable def mtx (n : Nat) : ByteArray := if h : n ≤ 1000000000 then Classical.choose (markText_ev n h) else ⟨#[]⟩
theorem mtx_ev (n : Nat) (h : n ≤ 1000000000) : Ev (fun k => laws_markText k (n : Int)) (mtx n) := by
  unfold mtx
  rw [dif_pos h]
  exact Classical.choose_spec (markText_ev n h)
theorem add1 (n : Nat) (h : n ≤ 1000000000) : addI .i64 (n : Int) 1 = ((n + 1 : Nat) : Int) := by rw [addI_i64 (by omega) (by omega)]; omega
noncomputable def vNode (k : Nat) : T_siiii := (mtx k, ((k + 1 : Nat) : Int), ((k + 2 : Nat) : Int), ((k + 3 : Nat) : Int), ((k + 4 : Nat) : Int))
noncomputable def vMark (k : Nat) : T_sib := (mtx k, ((k + 1 : Nat) : Int), decide (remI ((k + 2 : Nat) : Int) 3 = 0))
theorem markNodes (l : List T_siiii) (k0 : Nat) (hl : l.length ≤ 1048576) (hk : k0 + 5 * l.length ≤ 100000000) : Ev (fun k => laws_markRopeNodeS k (k0 : Int) l) (((k0 + 5 * l.length : Nat) : Int), rowsV vNode 5 k0 l.length) := by
  refine Ev.step (fun k => laws_markRopeNodeS.eq (k0 : Int) l k) (mark_loop (L := laws_markRopeNodeS_L2) (v := vNode) (c := 5) (fun a k0 k j => ?_) (fun pre suf x k0 r hp hk h => ?_) l k0 hl hk).ev
  · rw [laws_markRopeNodeS_L2.eq, show ltI (a.length : Int) (ln a) = false by simp only [W, W2]; simp, brB_f rfl]
  · have e := fun k j => laws_markRopeNodeS_L2.eq (k0 : Int) (pre.length : Int) (pre ++ x :: suf) k j
    simp only [W, W1, W2, W3, set_mid0, rd_mid, add1 k0 (by omega), add1 (k0 + 1) (by omega), add1 (k0 + 2) (by omega), add1 (k0 + 3) (by omega), add1 (k0 + 4) (by omega), Nat.add_assoc, Nat.reduceAdd, if_pos (mid_lt _ _ _), if_pos (nat_ge _), next_i pre (vNode k0) (by omega)] at e
    refine Ev2.step e (Ev2.bind (mtx_ev k0 (by omega)) ?_)
    exact h
theorem markMarks (l : List T_sib) (k0 : Nat) (hl : l.length ≤ 1048576) (hk : k0 + 3 * l.length ≤ 100000000) : Ev (fun k => laws_markMarkS k (k0 : Int) l) (((k0 + 3 * l.length : Nat) : Int), rowsV vMark 3 k0 l.length) := by
  refine Ev.step (fun k => laws_markMarkS.eq (k0 : Int) l k) (mark_loop (L := laws_markMarkS_L2) (v := vMark) (c := 3) (fun a k0 k j => ?_) (fun pre suf x k0 r hp hk h => ?_) l k0 hl hk).ev
  · rw [laws_markMarkS_L2.eq, show ltI (a.length : Int) (ln a) = false by simp only [W, W2]; simp, brB_f rfl]
  · have e := fun k j => laws_markMarkS_L2.eq (k0 : Int) (pre.length : Int) (pre ++ x :: suf) k j
    have z : ¬ ((3 : Int) = 0) := by omega
    simp only [W, W1, W2, W3, set_mid0, rd_mid, add1 k0 (by omega), add1 (k0 + 1) (by omega), add1 (k0 + 2) (by omega), Nat.add_assoc, Nat.reduceAdd, if_pos (mid_lt _ _ _), if_pos (nat_ge _), if_neg z, next_i pre (vMark k0) (by omega)] at e
    refine Ev2.step e (Ev2.bind (mtx_ev k0 (by omega)) ?_)
    exact h
theorem markRope (r : List T_siiii) (ms : List T_sib) (h1 : r.length ≤ 1048576) (h2 : ms.length ≤ 1048576) : Ev (fun k => laws_markRope k 1 r ms) (((1 + 5 * r.length + 3 * ms.length : Nat) : Int), (rowsV vNode 5 1 r.length, rowsV vMark 3 (1 + 5 * r.length) ms.length)) :=
  Ev.step (fun k => laws_markRope.eq 1 r ms k) (Ev.opt (markNodes r 1 h1 (by omega)) (Ev.opt (markMarks ms (1 + 5 * r.length) h2 (by omega)) (Ev.now _)))
end Go.Proofs.YtfbhkkedmfbgbaaDoor.PM
