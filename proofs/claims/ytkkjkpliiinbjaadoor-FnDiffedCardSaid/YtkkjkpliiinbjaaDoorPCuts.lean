/- The program's cuts between characters, plainly. -/
import Derived.Test.YtkkjkpliiinbjaaDoorPCutF
namespace Go.Proofs.YtkkjkpliiinbjaaDoor.DF
open Go.Eng Go.RowKit
set_option linter.unusedVariables false
set_option linter.unusedSimpArgs false
def pt (l : List Int) (i : Nat) : Int := rd l (i : Int) 0
def picS (l : List Int) : Nat → Bool
  | 0 => false
  | i + 1 => if cls (pt l i) = 2 then picS l i else decide (cls (pt l i) = 8)
def bindS (l : List Int) : Nat → Bool
  | 0 => false
  | i + 1 => if pt l i = 1584 then true else if pt l i = 1585 then bindS l i else false
def flagS (l : List Int) : Nat → Nat
  | 0 => 0
  | i + 1 => if cls (pt l i) = 9 then flagS l i + 1 else 0
theorem flagS_le (l : List Int) : ∀ i, flagS l i ≤ i := by
  intro i
  induction i with
  | zero => exact Nat.le_refl _
  | succ i ih => simp only [flagS]; split <;> omega
/-- is there a cut ahead of the i-th point -/
def cutAt (l : List Int) : Nat → Bool
  | 0 => false
  | i + 1 => cutF (pt l i) (pt l (i + 1)) (cls (pt l (i + 1))) (cls (pt l i)) (bindS l (i + 1)) (picS l (i + 1)) (flagS l (i + 1))
def Points (l : List Int) : Prop := ∀ x ∈ l, 0 ≤ x ∧ x ≤ 1114111
theorem pt_ok {l : List Int} (h : Points l) {i : Nat} (hi : i < l.length) : 0 ≤ pt l i ∧ pt l i ≤ 1114111 := by
  unfold pt
  rw [rd_nat l i 0 hi]
  exact h _ (List.getElem_mem _)
theorem cuts_next (l : List Int) (n : Int) (i : Nat) (hi : i < 1048576) (out : List Bool) (r : List Bool)
    (h : Ev2 (fun k j => impl_charCuts_L4 k j l l n ((i + 1 : Nat) : Int) out (picS l (i + 1)) (bindS l (i + 1)) (flagS l (i + 1) : Int)) r) :
    Ev2 (fun k j => impl_charCuts_J11 k j l l n (i : Int) out (picS l i) (bindS l i) (flagS l i : Int) (pt l i) (cls (pt l i))) r := by
  have hfl := flagS_le l i
  have hadd : addI .i64 (i : Int) 1 = ((i + 1 : Nat) : Int) := by rw [addI_i64 (by omega) (by omega)]; omega
  have haddf : addI .i64 (flagS l i : Int) 1 = ((flagS l i + 1 : Nat) : Int) := by rw [addI_i64 (by omega) (by omega)]; omega
  have e11 := fun k j => impl_charCuts_J11.eq l l n (i : Int) out (picS l i) (bindS l i) (flagS l i : Int) (pt l i) (cls (pt l i)) k j
  simp only [W, W1] at e11
  have key : ∀ pict : Bool, pict = picS l (i + 1) → Ev2 (fun k j => impl_charCuts_J13 k j l l n (i : Int) out pict (bindS l i) (flagS l i : Int) (pt l i) (cls (pt l i))) r := fun pict hp => by
    subst hp
    have e13 := fun k j => impl_charCuts_J13.eq l l n (i : Int) out (picS l (i + 1)) (bindS l i) (flagS l i : Int) (pt l i) (cls (pt l i)) k j
    simp only [impl_charCuts_J17.eq, hadd, haddf] at e13
    simp only [W, W1] at e13
    have he : (fun k j => impl_charCuts_J13 k j l l n (i : Int) out (picS l (i + 1)) (bindS l i) (flagS l i : Int) (pt l i) (cls (pt l i))) = _ := funext fun k => funext fun j => e13 k j
    rw [he]
    simp only [bindS, flagS] at h
    by_cases h1 : pt l i = 1584
    · simp only [if_pos h1] at h ⊢
      by_cases h3 : cls (pt l i) = 9
      · simp only [if_pos h3] at h ⊢; exact h
      · simp only [if_neg h3] at h ⊢; exact h
    · by_cases h2 : pt l i = 1585
      · simp only [if_neg h1, if_pos h2] at h ⊢
        by_cases h3 : cls (pt l i) = 9
        · simp only [if_pos h3] at h ⊢; exact h
        · simp only [if_neg h3] at h ⊢; exact h
      · simp only [if_neg h1, if_neg h2] at h ⊢
        by_cases h3 : cls (pt l i) = 9
        · simp only [if_pos h3] at h ⊢; exact h
        · simp only [if_neg h3] at h ⊢; exact h
  have he : (fun k j => impl_charCuts_J11 k j l l n (i : Int) out (picS l i) (bindS l i) (flagS l i : Int) (pt l i) (cls (pt l i))) = _ := funext fun k => funext fun j => e11 k j
  rw [he]
  by_cases c : cls (pt l i) = 2
  · simp only [if_pos c]
    exact key _ (by simp only [picS]; rw [if_pos c])
  · simp only [if_neg c]
    exact key _ (by simp only [picS]; rw [if_neg c])
theorem cuts_loop (l : List Int) (hl : l.length ≤ 1048576) (hP : Points l) : ∀ (f i : Nat), i + f = l.length →
    Ev2 (fun k j => impl_charCuts_L4 k j l l (l.length : Int) (i : Int) ((List.range i).map (cutAt l) ++ List.replicate f false) (picS l i) (bindS l i) (flagS l i : Int)) ((List.range l.length).map (cutAt l)) := by
  intro f
  induction f with
  | zero =>
    intro i hi
    have e := fun k j => impl_charCuts_L4.eq l l (l.length : Int) (i : Int) ((List.range i).map (cutAt l) ++ List.replicate 0 false) (picS l i) (bindS l i) (flagS l i : Int) k j
    simp only [W, W1, if_neg (show ¬ (i : Int) < (l.length : Int) by omega)] at e
    have : i = l.length := by omega
    subst this
    refine Ev2.step e ?_
    simp only [List.replicate_zero, List.append_nil]
    exact Ev2.now _
  | succ f ih =>
    intro i hi
    have hil : i < l.length := by omega
    obtain ⟨p0, p1⟩ := pt_ok hP hil
    have hr : rd l (i : Int) 0 = pt l i := rfl
    have e := fun k j => impl_charCuts_L4.eq l l (l.length : Int) (i : Int) ((List.range i).map (cutAt l) ++ List.replicate (f + 1) false) (picS l i) (bindS l i) (flagS l i : Int) k j
    simp only [W, W1, W2, W3, hr, if_pos (nat_ge i), if_pos (show (i : Int) < (l.length : Int) by omega)] at e
    refine Ev2.step e (Ev2.bind (implClass _ p0 p1) ?_)
    have h := ih (i + 1) (by omega)
    rw [List.range_succ, List.map_append, List.append_assoc] at h
    cases i with
    | zero =>
      simp only [if_neg (show ¬ (0 : Int) < ((0 : Nat) : Int) by omega)]
      exact cuts_next l _ 0 (by omega) _ _ (by simpa [cutAt, List.replicate_succ] using h)
    | succ n =>
      have hs1 : subI .i64 ((n + 1 : Nat) : Int) 1 = (n : Int) := by rw [subI_i64 (by omega) (by omega)]; omega
      obtain ⟨q0, q1⟩ := pt_ok hP (show n < l.length by omega)
      have hrq : rd l (n : Int) 0 = pt l n := rfl
      simp only [if_pos (show (0 : Int) < ((n + 1 : Nat) : Int) by omega), hs1, hrq, if_pos (nat_ge n), if_pos (show (n : Int) < (l.length : Int) by omega)]
      refine Ev2.bind (implClass _ q0 q1) (Ev2.bind (implCut (pt l n) (pt l (n + 1)) (cls (pt l (n + 1))) (cls (pt l n)) (bindS l (n + 1)) (picS l (n + 1)) (flagS l (n + 1) : Int) (by omega)) ?_)
      have hlen : (((List.range (n + 1)).map (cutAt l) ++ List.replicate (f + 1) false).length : Int) = (l.length : Int) := by simp; omega
      simp only [tail7, hlen, if_pos (nat_ge (n + 1)), if_pos (show ((n + 1 : Nat) : Int) < (l.length : Int) by omega)]
      refine cuts_next l _ (n + 1) (by omega) _ _ ?_
      have hset : ((List.range (n + 1)).map (cutAt l) ++ List.replicate (f + 1) false).set ((n + 1 : Nat) : Int).toNat (cutAt l (n + 1)) = (List.range (n + 1)).map (cutAt l) ++ ([n + 1].map (cutAt l) ++ List.replicate f false) := by
        rw [Int.toNat_natCast, List.set_append_right _ _ (by simp)]
        simp [List.replicate_succ]
      have hset2 : ((List.range (n + 1)).map (cutAt l) ++ List.replicate (f + 1) false).set ((n + 1 : Nat) : Int).toNat (cutF (pt l n) (pt l (n + 1)) (cls (pt l (n + 1))) (cls (pt l n)) (bindS l (n + 1)) (picS l (n + 1)) (flagS l (n + 1) : Int)) = (List.range (n + 1)).map (cutAt l) ++ ([n + 1].map (cutAt l) ++ List.replicate f false) := hset
      rw [hset2]
      exact h
theorem implCharCuts (l : List Int) (hl : l.length ≤ 1048576) (hP : Points l) : Ev (fun k => impl_charCuts k l) ((List.range l.length).map (cutAt l)) := by
  have e := fun k => impl_charCuts.eq l k
  simp only [W, W1, W2, W3, if_pos (nat_ge l.length), if_pos (Int.le_refl _), if_pos (show (l.length : Int) * 1 < 140737488355328 by omega)] at e
  have h := (cuts_loop l hl hP l.length 0 (by omega)).ev
  refine Ev.step e ?_
  simpa [picS, bindS, flagS] using h
end Go.Proofs.YtkkjkpliiinbjaaDoor.DF
