/- Places of cuts, by the program. -/
import Derived.Test.YtkkjkpliiinbjaaDoorPPlaces
namespace Go.Proofs.YtkkjkpliiinbjaaDoor.DF
open Go.Eng Go.RowKit
set_option linter.unusedVariables false
set_option linter.unusedSimpArgs false
/-- the places of the points from the i-th on that have a cut ahead -/
def cutsFrom (l : List Int) : Nat → List T_iiib → List Int
  | _, [] => []
  | i, x :: r => if cutAt l i = true then x.2.1 :: cutsFrom l (i + 1) r else cutsFrom l (i + 1) r
theorem places_loop (l : List Int) (n : Int) (x : List T_iiib) (hl : x.length ≤ 1048576) (hx : l.length = x.length) : ∀ (suf pre : List T_iiib) (out : List Int), x = pre ++ suf → out.length ≤ pre.length + 1 →
    Ev2 (fun k j => impl_placesOf_L5 k j n ((List.range l.length).map (cutAt l)) x (x.length : Int) (pre.length : Int) out) (out ++ (cutsFrom l pre.length suf ++ [n])) := by
  intro suf
  induction suf with
  | nil =>
    intro pre out hp ho
    have hle : pre.length = x.length := by rw [hp]; simp
    have e := fun k j => impl_placesOf_L5.eq n ((List.range l.length).map (cutAt l)) x (x.length : Int) (pre.length : Int) out k j
    simp only [W, W1, W2, List.length_cons, List.length_nil, if_neg (show ¬ (pre.length : Int) < (x.length : Int) by omega), if_pos (show ((out.length : Int) + ((0 + 1 : Nat) : Int)) * 8 < 140737488355328 by omega)] at e
    exact Ev2.ret e
  | cons q suf ih =>
    intro pre out hp ho
    have hle : pre.length + 1 ≤ x.length := by rw [hp, List.length_append, List.length_cons]; omega
    have hr : rd x (pre.length : Int) (0, (0, (0, false))) = q := by rw [hp]; exact rd_mid pre suf q _
    have hc : rd ((List.range l.length).map (cutAt l)) (pre.length : Int) false = cutAt l pre.length := by
      rw [rd_nat _ pre.length false (by simp; omega)]
      simp
    have hcl : (((List.range l.length).map (cutAt l)).length : Int) = (x.length : Int) := by simp [hx]
    have e := fun k j => impl_placesOf_L5.eq n ((List.range l.length).map (cutAt l)) x (x.length : Int) (pre.length : Int) out k j
    simp only [W, W1, W2, hr, hc, hcl, List.length_cons, List.length_nil, if_pos (show (pre.length : Int) < (x.length : Int) by omega), if_pos (nat_ge pre.length), next_i pre q (by omega), if_pos (show ((out.length : Int) + ((0 + 1 : Nat) : Int)) * 8 < 140737488355328 by omega)] at e
    have hn : (pre ++ [q]).length = pre.length + 1 := by simp
    refine Ev2.step e ?_
    simp only [cutsFrom]
    cases hcv : cutAt l pre.length with
    | true =>
      have hpos : (0 : Int) < (pre.length : Int) := by
        cases hpl : pre.length with
        | zero => rw [hpl] at hcv; cases hcv
        | succ m => omega
      simp only [if_pos hpos, W1, if_true]
      have h := ih (pre ++ [q]) (out ++ [q.2.1]) (by rw [hp]; simp) (by simp; omega)
      rw [hn, List.append_assoc] at h
      rw [hn]
      exact h
    | false =>
      have h := ih (pre ++ [q]) out (by rw [hp]; simp) (by simp; omega)
      rw [hn] at h
      rw [hn]
      simp only [W1, Bool.false_eq_true, if_false]
      by_cases hpos : (0 : Int) < (pre.length : Int)
      · simp only [if_pos hpos]; exact h
      · simp only [if_neg hpos]; exact h
theorem chars_loop (t : ByteArray) (ht : 0 < t.size) (x : List T_iiib) (hl : x.length ≤ 1048576) (hP : Points (x.map (·.1))) : ∀ (suf pre : List T_iiib) (out : List Int), x = pre ++ suf → 0 < pre.length → out.length ≤ pre.length →
    Ev2 (fun k j => spec_l07Chars_L4 k j t (pre.length : Int) (x.map (·.1)) (x.map (·.2.1) ++ [(t.size : Int)]) out) (out ++ (cutsFrom (x.map (·.1)) pre.length suf ++ [(t.size : Int)])) := by
  intro suf
  induction suf with
  | nil =>
    intro pre out hp h0 ho
    have hle : pre.length = x.length := by rw [hp]; simp
    have e := fun k j => spec_l07Chars_L4.eq t (pre.length : Int) (x.map (·.1)) (x.map (·.2.1) ++ [(t.size : Int)]) out k j
    simp only [W, W1, W2, List.length_map, List.length_cons, List.length_nil, if_neg (show ¬ (pre.length : Int) < (x.length : Int) by omega), if_pos (show (0 : Int) < (t.size : Int) by omega), if_pos (show ((out.length : Int) + ((0 + 1 : Nat) : Int)) * 8 < 140737488355328 by omega)] at e
    exact Ev2.ret e
  | cons q suf ih =>
    intro pre out hp h0 ho
    have hle : pre.length + 1 ≤ x.length := by rw [hp, List.length_append, List.length_cons]; omega
    obtain ⟨m, hm⟩ : ∃ m, pre.length = m + 1 := ⟨pre.length - 1, by omega⟩
    have hr : rd (x.map (·.2.1) ++ [(t.size : Int)]) (pre.length : Int) 0 = q.2.1 := by
      rw [hp, List.map_append, List.map_cons, List.append_assoc, List.cons_append]
      have := rd_mid (pre.map (·.2.1)) (suf.map (·.2.1) ++ [(t.size : Int)]) q.2.1 0
      rw [List.length_map] at this
      exact this
    have hC := specChar (x.map (·.1)) (by simpa using hl) hP m (by rw [List.length_map]; omega)
    rw [← hm] at hC
    have hal : ((x.map (·.2.1) ++ [(t.size : Int)]).length : Int) = (x.length : Int) + 1 := by simp
    have e := fun k j => spec_l07Chars_L4.eq t (pre.length : Int) (x.map (·.1)) (x.map (·.2.1) ++ [(t.size : Int)]) out k j
    simp only [W, W1, W2, W3, hr, hal, List.length_map, List.length_cons, List.length_nil, if_pos (show (pre.length : Int) < (x.length : Int) by omega), if_neg (show ¬ (pre.length : Int) = 0 by omega), if_pos (nat_ge pre.length), if_pos (show (pre.length : Int) < (x.length : Int) + 1 by omega), next_i pre q (by omega), if_pos (show ((out.length : Int) + ((0 + 1 : Nat) : Int)) * 8 < 140737488355328 by omega)] at e
    have hn : (pre ++ [q]).length = pre.length + 1 := by simp
    refine Ev2.step e (Ev2.bind hC ?_)
    simp only [cutsFrom]
    cases hcv : cutAt (x.map (·.1)) pre.length with
    | true =>
      simp only [W1, if_true]
      have h := ih (pre ++ [q]) (out ++ [q.2.1]) (by rw [hp]; simp) (by simp) (by simp; omega)
      rw [hn, List.append_assoc] at h
      rw [hn]
      exact h
    | false =>
      have h := ih (pre ++ [q]) out (by rw [hp]; simp) (by simp) (by simp; omega)
      rw [hn] at h
      rw [hn]
      simp only [W1, Bool.false_eq_true, if_false]
      exact h
end Go.Proofs.YtkkjkpliiinbjaaDoor.DF
