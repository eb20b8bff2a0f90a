/- A text's points, whole: read, rows, points alone. -/
import Derived.Test.YtmmmlfndnoeedaaDoorPRow
namespace Go.Proofs.YtmmmlfndnoeedaaDoor.IX
open Go.Eng Go.RowKit
set_option linter.unusedVariables false
set_option linter.unusedSimpArgs false
/-- all points of a text -/
def its (t : ByteArray) : List T_iiib := items t t.size 0
theorem its_cons (t : ByteArray) (h : 0 < t.size) : its t = item t 0 :: items t (t.size - 1) (0 + wid t 0) := by
  unfold its
  rw [show t.size = (t.size - 1) + 1 by omega]
  exact if_pos (by omega)
theorem implRead (t : ByteArray) (ht : t.size ≤ 1048576) : Ev (fun k => impl_read k t) (its t) := by
  refine Ev.step (fun k => impl_read.eq t k) ?_
  have key : Ev2 (fun k j => impl_read_L3 k j t 0) (its t) := by
    have e := fun k j => impl_read_L3.eq t 0 k j
    by_cases c : 0 < t.size
    · have hr := rune_ev (t.extract 0 t.size)
      rw [sufGo t 0 c] at hr
      obtain ⟨w1, w2⟩ := wid_pos t 0 c
      have pl := point_le t 0
      have hadd : addI .i64 0 ((Utf8.decode t 0).2 : Int) = ((0 + wid t 0 : Nat) : Int) := by
        show addI .i64 0 (wid t 0 : Int) = _
        rw [addI_i64 (by omega) (by omega)]; omega
      have hwr : wrI .i64 ((Utf8.decode t 0).1 : Int) = ((Utf8.decode t 0).1 : Int) := wrI_i64 (by omega) (by omega)
      simp only [W, W1, W2, W3, Int.toNat_zero, Int.toNat_natCast, List.length_cons, List.length_nil, List.nil_append, if_pos (show (0 : Int) < (t.size : Int) by omega), if_pos (show (0 : Int) ≤ 0 by omega), if_pos (show (0 : Int) ≤ (t.size : Int) by omega), if_pos (show (((0 : Nat) : Int) + ((0 + 1 : Nat) : Int)) * 32 < 140737488355328 by omega)] at e
      have h := implRead_loop t ht (t.size - 1) (0 + wid t 0) [item t 0] (by omega) (by simp; omega) (by omega)
      rw [its_cons t c]
      refine Ev2.step e (Ev2.bind hr ?_)
      by_cases q : ((Utf8.decode t 0).1 : Int) = 65533
      · have hit : item t 0 = (((Utf8.decode t 0).1 : Int), ((0 : Int), (((0 + wid t 0 : Nat) : Int), decide (((Utf8.decode t 0).2 : Int) = 1)))) := by
          unfold item
          rw [decide_eq_true (show (Utf8.decode t 0).1 = 65533 by omega), Bool.true_and]
          congr 3
          exact decide_eq_decide.2 ⟨fun h => by show ((wid t 0 : Nat) : Int) = 1; omega, fun h => by have h : ((wid t 0 : Nat) : Int) = 1 := h; omega⟩
        simp only [if_pos q, hadd, hwr]
        rw [← hit]
        exact h
      · have hit : item t 0 = (((Utf8.decode t 0).1 : Int), ((0 : Int), (((0 + wid t 0 : Nat) : Int), false))) := by
          unfold item
          rw [decide_eq_false (show ¬ (Utf8.decode t 0).1 = 65533 by omega), Bool.false_and]
          rfl
        simp only [if_neg q, hadd, hwr]
        rw [← hit]
        exact h
    · simp only [W, W1, if_neg (show ¬ (0 : Int) < (t.size : Int) by omega)] at e
      rw [show its t = [] by unfold its; rw [show t.size = 0 by omega]; rfl]
      exact Ev2.ret e
  exact key.ev
theorem items_points (t : ByteArray) : ∀ (m i : Nat), ∀ x ∈ items t m i, 0 ≤ x.1 ∧ x.1 ≤ 1114111 := by
  intro m
  induction m with
  | zero => intro i x hx; cases hx
  | succ m ih =>
    intro i x hx
    unfold items at hx
    split at hx
    · rcases List.mem_cons.1 hx with rfl | hx
      · have := point_le t i
        show (0 : Int) ≤ ((Utf8.decode t i).1 : Int) ∧ ((Utf8.decode t i).1 : Int) ≤ 1114111
        omega
      · exact ih _ x hx
    · cases hx
end Go.Proofs.YtmmmlfndnoeedaaDoor.IX
