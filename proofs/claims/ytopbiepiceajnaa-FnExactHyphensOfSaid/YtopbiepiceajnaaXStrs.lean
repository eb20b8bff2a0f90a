/- Lists of strings, plainly: sizes, copies and comparisons. -/
import Derived.Test.YtopbiepiceajnaaQS0
import Derived.Test.YtopbiepiceajnaaE30
namespace Go.Proofs.Ytopbiepiceajnaa.S
open Go.Eng Go.RowKit
set_option linter.unusedVariables false
set_option linter.unusedSimpArgs false
theorem szStrs_loop (l : List ByteArray) (hl : l.length ≤ 1048576) : ∀ (suf pre : List ByteArray) (a : Int), l = pre ++ suf → 0 ≤ a → a ≤ 1048576 → (∀ x ∈ suf, x.size ≤ maxLen) →
    ∃ r : Int, Ev2 (fun k j => laws_szStringS_L5 k j l a (pre.length : Int)) r ∧ (0 ≤ r → (∀ x ∈ suf, x.size ≤ 1048576) ∧ r ≤ 1048576) := by
  intro suf
  induction suf with
  | nil =>
    intro pre a hlp h0 h1 hs
    subst hlp
    refine ⟨a, Ev2.ret fun k j => ?_, fun _ => ⟨fun x hx => absurd hx (by simp), h1⟩⟩
    simp only [laws_szStringS_L5.eq, W, W1, W2]
    rw [if_neg (by simp)]
  | cons x suf ih =>
    intro pre a hlp h0 h1 hs
    have hle : pre.length + 1 ≤ l.length := by rw [hlp, List.length_append, List.length_cons]; omega
    have hx := hs x (by simp)
    simp only [maxLen] at hx
    have hr : rd l (pre.length : Int) (bs []) = x := by rw [hlp]; exact rd_mid pre suf x _
    have hw : subI .i64 a (x.size : Int) = a - (x.size : Int) := subI_i64 (by omega) (by omega)
    have hw2 : addI .i64 (pre.length : Int) 1 = ((pre ++ [x]).length : Int) := by rw [addI_i64 (by omega) (by omega)]; exact len_snoc pre x
    by_cases c : a - (x.size : Int) < 0
    · refine ⟨-1, Ev2.ret fun k j => ?_, by omega⟩
      simp only [laws_szStringS_L5.eq, W, W1, W2, hr, hw]
      rw [if_pos (by omega), if_pos (by omega), if_pos (by omega), if_pos c]
    · obtain ⟨r, h2, h3⟩ := ih (pre ++ [x]) (a - (x.size : Int)) (by rw [hlp]; simp) (by omega) (by omega) (fun y hy => hs y (by simp [hy]))
      refine ⟨r, Ev2.step (fun k j => ?_) h2, fun h => ⟨fun y hy => ?_, (h3 h).2⟩⟩
      · simp only [laws_szStringS_L5.eq, W, W1, W2, hr, hw, hw2]
        rw [if_pos (by omega), if_pos (by omega), if_pos (by omega), if_neg c]
      · rcases List.mem_cons.1 hy with rfl | hy
        · omega
        · exact (h3 h).1 y hy
theorem szStrs (l : List ByteArray) (left : Int) (h0 : 0 ≤ left) (h1 : left ≤ 1048576) (hl : l.length ≤ maxLen) (hs : ∀ x ∈ l, x.size ≤ maxLen) :
    ∃ r : Int, Ev (fun k => laws_szStringS k l left) r ∧ (0 ≤ r → l.length ≤ 1048576 ∧ (∀ x ∈ l, x.size ≤ 1048576) ∧ r ≤ 1048576) := by
  simp only [maxLen] at hl
  have hw : subI .i64 left (l.length : Int) = left - (l.length : Int) := subI_i64 (by omega) (by omega)
  by_cases c : left - (l.length : Int) < 0
  · refine ⟨-1, Ev.ret fun k => ?_, by omega⟩
    simp only [laws_szStringS.eq, W, W1, W2, hw]
    rw [if_pos c]
  · obtain ⟨r, h2, h3⟩ := szStrs_loop l (by omega) l [] (left - (l.length : Int)) rfl (by omega) (by omega) hs
    refine ⟨r, Ev.step (fun k => ?_) h2.ev, fun h => ⟨by omega, (h3 h).1, (h3 h).2⟩⟩
    simp only [laws_szStringS.eq, W, W1, W2, hw]
    rw [if_neg c]
    rfl
theorem toStrs_loop (l : List ByteArray) (hl : l.length ≤ 1048576) : ∀ (suf pre : List ByteArray), l = pre ++ suf →
    Ev2 (fun k j => laws_toStringS_L3 k j l (pre.length : Int) (pre ++ List.replicate suf.length (bs []))) l := by
  intro suf
  induction suf with
  | nil =>
    intro pre hlp
    subst hlp
    refine Ev2.ret fun k j => ?_
    simp only [laws_toStringS_L3.eq, W, W1, W2]
    rw [if_neg (by simp)]
    simp
  | cons x suf ih =>
    intro pre hlp
    have hle : pre.length + 1 ≤ l.length := by rw [hlp, List.length_append, List.length_cons]; omega
    have hr : rd l (pre.length : Int) (bs []) = x := by rw [hlp]; exact rd_mid pre suf x _
    have hw2 : addI .i64 (pre.length : Int) 1 = ((pre ++ [x]).length : Int) := by rw [addI_i64 (by omega) (by omega)]; exact len_snoc pre x
    refine Ev2.step (fun k j => ?_) (ih (pre ++ [x]) (by rw [hlp]; simp))
    simp only [laws_toStringS_L3.eq, W, W1, W2, hr, hw2, List.length_cons, List.replicate_succ, set_mid]
    rw [if_pos (by omega), if_pos (by omega), if_pos (by omega), if_pos (by omega), if_pos (by simp; omega)]
theorem toStrs (l : List ByteArray) (hl : l.length ≤ 1048576) : Ev (fun k => laws_toStringS k l) l := by
  refine Ev.step (fun k => ?_) (toStrs_loop l hl l [] rfl).ev
  simp only [laws_toStringS.eq, W, W1, W2]
  rw [if_pos (by omega), if_pos (by omega), if_pos (by omega)]
  simp
theorem eqStrs_loop (l : List ByteArray) (hl : l.length ≤ 1048576) : ∀ (suf pre : List ByteArray), l = pre ++ suf → Ev2 (fun k j => laws_eqStringS_L4 k j l l (pre.length : Int)) true := by
  intro suf
  induction suf with
  | nil =>
    intro pre hlp
    subst hlp
    refine Ev2.ret fun k j => ?_
    simp only [laws_eqStringS_L4.eq, W, W1, W2]
    rw [if_neg (by simp)]
  | cons x suf ih =>
    intro pre hlp
    have hle : pre.length + 1 ≤ l.length := by rw [hlp, List.length_append, List.length_cons]; omega
    have hw2 : addI .i64 (pre.length : Int) 1 = ((pre ++ [x]).length : Int) := by rw [addI_i64 (by omega) (by omega)]; exact len_snoc pre x
    refine Ev2.step (fun k j => ?_) (ih (pre ++ [x]) (by rw [hlp]; simp))
    simp only [laws_eqStringS_L4.eq, W, W1, W2, hw2]
    rw [if_pos (by omega), if_pos (by omega), if_pos (by omega), if_pos (by omega), if_pos (by omega)]
    simp
theorem eqStrs (l : List ByteArray) (hl : l.length ≤ 1048576) : Ev (fun k => laws_eqStringS k l l) true := by
  refine Ev.step (fun k => ?_) (eqStrs_loop l hl l [] rfl).ev
  simp only [laws_eqStringS.eq, W, W1, W2]
  simp
end Go.Proofs.Ytopbiepiceajnaa.S
