/- PutMark: the law. -/
import Derived.Test.YtfbhkkedmfbgbaaDoorPPutC
namespace Go.Proofs.YtfbhkkedmfbgbaaDoor.PM
open Go.Eng Go.RowKit Go.Sort
set_option linter.unusedVariables false
set_option linter.unusedSimpArgs false
theorem toMark1 (m : T_sib) : Ev (fun k => laws_toMark k m.1 m.2.1 m.2.2) m := Ev.ret fun k => laws_toMark.eq m.1 m.2.1 m.2.2 k
theorem szMark1 (m : T_sib) (n : Nat) (hn : n ≤ 1048576) (hx : m.1.size ≤ maxLen) : Ev (fun k => laws_szMark k m.1 m.2.1 m.2.2 (n : Int)) (if n < m.1.size then (-1 : Int) else ((n - m.1.size : Nat) : Int)) := by
  refine Ev.ret fun k => ?_
  have hml : maxLen ≤ 9223372036854775807 := by decide
  rw [laws_szMark.eq]
  simp only [W, W1]
  rw [subI_i64 (by omega) (by omega)]
  by_cases c : n < m.1.size
  · rw [if_pos (by omega), if_pos c]
  · rw [if_neg (by omega), if_neg c]
    congr 1
    omega
theorem pure_FnExactPutMark (r : List T_siiii) (ms : List T_sib) (a : ByteArray) (b : Int) (c : Bool) (h1 : CT.good (.row e_siiii) r) (h2 : CT.good (.row e_sib) ms) (h3 : CT.good .str a) (h4 : CT.good (.int .i64) b) (h5 : CT.good .bool c) : ∃ k, laws_FnExactPutMark k r ms a b c = some true := by
  refine Ev.has (r := true) ?_
  have e := fun k => laws_FnExactPutMark.eq r ms a b c k
  simp only [W, W1, W3] at e
  refine Ev.step e (Ev.bind (szRope r ms 1048576 (Nat.le_refl _) h1 h2) ?_)
  by_cases c1 : 1048576 < wRope r ms
  · rw [if_pos c1]
    simp only [if_pos (show (-1 : Int) < 0 by omega)]
    exact Ev.now _
  rw [if_neg c1]
  simp only [if_neg (show ¬ ((1048576 - wRope r ms : Nat) : Int) < 0 by omega)]
  refine Ev.bind (szMark1 (a, b, c) (1048576 - wRope r ms) (by omega) h3) ?_
  by_cases c2 : 1048576 - wRope r ms < a.size
  · rw [if_pos c2]
    simp only [if_pos (show (-1 : Int) < 0 by omega)]
    exact Ev.now _
  rw [if_neg c2]
  simp only [if_neg (show ¬ ((1048576 - wRope r ms - a.size : Nat) : Int) < 0 by omega)]
  have hf := fits_of (r := r) (ms := ms) (by omega)
  have hm : a.size ≤ 1048576 := by omega
  obtain ⟨l1, l2⟩ := putOut_len hf (a, b, c)
  have hspec := specPutM hf (a, b, c) hm
  have himpl := implPut hf (a, b, c) hm
  generalize putOut r ms (a, b, c) = v at *
  refine Ev.bind (toRope hf) (Ev.bind (toMark1 (a, b, c)) (Ev.bind hspec (Ev.bind (toRope hf) (Ev.bind (toMark1 (a, b, c)) (Ev.bind himpl (Ev.bind (eqOutP v l1 l2) ?_))))))
  simp only [W1]
  refine Ev.bind (toRope hf) (Ev.bind (eqRope hf.l1 hf.l2) ?_)
  simp only [W1]
  have hk1 := hf.l1
  have hk2 := hf.l2
  refine Ev.bind (markRope r ms hk1 hk2) ?_
  simp only [if_neg (show ¬ ((1 + 5 * r.length + 3 * ms.length : Nat) : Int) < 0 by omega)]
  refine Ev.bind (eqOutP v l1 l2) ?_
  simp only [W1]
  have e2 := fun k => laws_FnExactPutMark_J19.eq r ms a b c v.1 v.2.1 v.2.2 v.1 v.2.1 v.2.2 k
  simp only [W, W1, W3] at e2
  refine Ev.congr e2 (Ev.bind (markOutP v l1 l2) (Ev.bind (heldOutP v.1 v.2.1.length v.2.2.length l1 l2) ?_))
  simp only [if_neg (show ¬ ((1 + 5 * v.2.1.length + 3 * v.2.2.length : Nat) : Int) < 0 by omega), if_true]
  refine Ev.bind (toRope hf) (Ev.bind (toMark1 (a, b, c)) (Ev.bind himpl (Ev.bind (eqOutP v l1 l2) ?_)))
  simp only [W1]
  refine Ev.bind (heldOutP v.1 v.2.1.length v.2.2.length l1 l2) ?_
  simp only [if_neg (show ¬ ((1 + 5 * v.2.1.length + 3 * v.2.2.length : Nat) : Int) < 0 by omega), if_true]
  exact Ev.now _
end Go.Proofs.YtfbhkkedmfbgbaaDoor.PM
