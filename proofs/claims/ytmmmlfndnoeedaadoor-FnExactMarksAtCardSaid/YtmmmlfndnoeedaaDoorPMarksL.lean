/- MarksAt: the law. -/
import Derived.Test.YtmmmlfndnoeedaaDoorPMarksAt
namespace Go.Proofs.YtmmmlfndnoeedaaDoor.NM
open Go.Eng Go.RowKit
set_option linter.unusedVariables false
set_option linter.unusedSimpArgs false
theorem eqStrs (a : List ByteArray) (ha : a.length ≤ 1048576) : Ev (fun k => laws_eqStringS k a a) true := by
  have e := fun k => laws_eqStringS.eq a a k
  simp only [W, W1, W2, if_true] at e
  have h := eq_loop (z := (bs [] : ByteArray)) (L := laws_eqStringS_L4) (one := fun k x y => some (decide (x = y))) (fun k j a b i => by rw [laws_eqStringS_L4.eq, bytesEq_dec]; rfl) (fun x y => Ev.now _) a a (by omega) rfl
  rw [show decide (a = a) = true by simp] at h
  exact Ev.step e h.ev
theorem markStrs (l : List ByteArray) (k0 : Nat) (hl : l.length ≤ 1048576) (hk : k0 + 1 * l.length ≤ 100000000) : Ev (fun k => laws_markStringS k (k0 : Int) l) (((k0 + 1 * l.length : Nat) : Int), rowsV mtx 1 k0 l.length) := by
  refine Ev.step (fun k => laws_markStringS.eq (k0 : Int) l k) (mark_loop (L := laws_markStringS_L2) (v := mtx) (c := 1) (fun a k0 k j => ?_) (fun pre suf x k0 r hp hk h => ?_) l k0 hl hk).ev
  · rw [laws_markStringS_L2.eq, show ltI (a.length : Int) (ln a) = false by simp only [W, W2]; simp, brB_f rfl]
  · have e := fun k j => laws_markStringS_L2.eq (k0 : Int) (pre.length : Int) (pre ++ x :: suf) k j
    simp only [W, W1, W2, W3, set_mid0, add1 k0 (by omega), if_pos (mid_lt _ _ _), if_pos (nat_ge _), next_i pre x (by omega)] at e
    refine Ev2.step e (Ev2.bind (mtx_ev k0 (by omega)) ?_)
    simpa using h
theorem heldStrs (m k0 : Nat) (hl : m ≤ 1048576) (hk : k0 + 1 * m ≤ 100000000) : Ev (fun k => laws_heldStringS k (rowsV mtx 1 k0 m) (k0 : Int)) ((k0 + 1 * m : Nat) : Int) := by
  refine Ev.step (fun k => laws_heldStringS.eq (rowsV mtx 1 k0 m) (k0 : Int) k) (held_loop (L := laws_heldStringS_L2) (v := mtx) (c := 1) (fun a k0 k j => ?_) (fun pre suf k0 r hp hk h => ?_) m k0 hl hk).ev
  · rw [laws_heldStringS_L2.eq, show ltI (a.length : Int) (ln a) = false by simp only [W, W2]; simp, brB_f rfl]
  · have e := fun k j => laws_heldStringS_L2.eq (pre ++ mtx k0 :: suf) (k0 : Int) (pre.length : Int) k j
    simp only [W, W1, W2, W3, rd_mid, add1 k0 (by omega), if_pos (mid_lt _ _ _), if_pos (nat_ge _), next_i pre (mtx k0) (by omega)] at e
    refine Ev2.step e (Ev2.bind (mtx_ev k0 (by omega)) ?_)
    simp only [if_true]
    exact h
theorem pure_FnExactMarksAt (r : List T_siiii) (ms : List T_sib) (a b : Int) (h1 : CT.good (.row e_siiii) r) (h2 : CT.good (.row e_sib) ms) (h3 : CT.good (.int .i64) a) (h4 : CT.good (.int .i64) b) : ∃ k, laws_FnExactMarksAt k r ms a b = some true := by
  refine law_of h1 h2 (fun k => laws_FnExactMarksAt.eq r ms a b k) (fun h => ?_)
  obtain ⟨ans, hl, hi, hs⟩ := both h a b
  refine Ev.opt (toRope h) (Ev.opt hs (Ev.opt (toRope h) (Ev.opt hi (Ev.opt (eqStrs ans hl) ?_))))
  simp only [W, W1]
  refine Ev.opt (toRope h) (Ev.opt (eqRope h.l1 h.l2) ?_)
  simp only [W1]
  refine Ev.opt (markRope r ms h.l1 h.l2) ?_
  simp only [if_neg (show ¬ ((1 + 5 * r.length + 3 * ms.length : Nat) : Int) < 0 by omega)]
  refine Ev.opt (eqStrs ans hl) ?_
  simp only [W1]
  have e := fun k => laws_FnExactMarksAt_J16.eq a b r ms ans ans k
  refine Ev.congr e (Ev.opt (markStrs ans 1 hl (by omega)) (Ev.opt (heldStrs ans.length 1 hl (by omega)) ?_))
  simp only [W, W1, if_neg (show ¬ ((1 + 1 * ans.length : Nat) : Int) < 0 by omega), if_true]
  refine Ev.opt (toRope h) (Ev.opt hi (Ev.opt (eqStrs ans hl) ?_))
  simp only [W1]
  refine Ev.opt (heldStrs ans.length 1 hl (by omega)) ?_
  simp only [if_neg (show ¬ ((1 + 1 * ans.length : Nat) : Int) < 0 by omega), if_true]
  exact Ev.now _
end Go.Proofs.YtmmmlfndnoeedaaDoor.NM
