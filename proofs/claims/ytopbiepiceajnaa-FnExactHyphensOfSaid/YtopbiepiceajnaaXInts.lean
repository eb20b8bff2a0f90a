/- Lists of numbers, plainly: comparisons, marks. -/
import Derived.Test.YtopbiepiceajnaaQS0
import Derived.Test.YtopbiepiceajnaaE30
namespace Go.Proofs.Ytopbiepiceajnaa.S
open Go.Eng Go.RowKit
set_option linter.unusedVariables false
set_option linter.unusedSimpArgs false
theorem eqInts_loop (l : List Int) (hl : l.length ≤ 1048576) : ∀ (suf pre : List Int), l = pre ++ suf → Ev2 (fun k j => laws_eqInt64S_L4 k j l l (pre.length : Int)) true := by
  intro suf
  induction suf with
  | nil =>
    intro pre hlp
    subst hlp
    refine Ev2.ret fun k j => ?_
    simp only [laws_eqInt64S_L4.eq, W, W1, W2]
    rw [if_neg (by simp)]
  | cons x suf ih =>
    intro pre hlp
    have hle : pre.length + 1 ≤ l.length := by rw [hlp, List.length_append, List.length_cons]; omega
    have hw2 : addI .i64 (pre.length : Int) 1 = ((pre ++ [x]).length : Int) := by rw [addI_i64 (by omega) (by omega)]; exact len_snoc pre x
    refine Ev2.step (fun k j => ?_) (ih (pre ++ [x]) (by rw [hlp]; simp))
    simp only [laws_eqInt64S_L4.eq, W, W1, W2, hw2]
    rw [if_pos (by omega), if_pos (by omega), if_pos (by omega), if_pos (by omega), if_pos (by omega)]
    simp
theorem eqInts (l : List Int) (hl : l.length ≤ 1048576) : Ev (fun k => laws_eqInt64S k l l) true := by
  refine Ev.step (fun k => ?_) (eqInts_loop l hl l [] rfl).ev
  simp only [laws_eqInt64S.eq, W, W1, W2]
  simp
/-- n numbers from k on -/
def upFrom : Int → Nat → List Int
  | _, 0 => []
  | k, n + 1 => k :: upFrom (k + 1) n
theorem upFrom_len : ∀ (n : Nat) (k : Int), (upFrom k n).length = n
  | 0, _ => rfl
  | n + 1, k => by simp [upFrom, upFrom_len n]
theorem markInts_loop (n : Nat) (hn : n ≤ 1048576) : ∀ (suf pre : List Int) (k0 : Int), pre.length + suf.length = n → 0 ≤ k0 → k0 ≤ 1099511627776 → k0 + suf.length ≤ 1099511627776 →
    Ev2 (fun k j => laws_markInt64S_L2 k j k0 (pre.length : Int) (pre ++ suf)) (k0 + suf.length, pre ++ upFrom k0 suf.length) := by
  intro suf
  induction suf with
  | nil =>
    intro pre k0 hl h0 h1 h2
    refine Ev2.ret fun k j => ?_
    simp only [laws_markInt64S_L2.eq, W, W1, W2]
    rw [if_neg (by simp)]
    simp [upFrom]
  | cons x suf ih =>
    intro pre k0 hl h0 h1 h2
    simp only [List.length_cons] at hl h2
    have e1 : addI .i64 k0 1 = k0 + 1 := addI_i64 (by omega) (by omega)
    have e2 : addI .i64 (pre.length : Int) 1 = ((pre ++ [k0]).length : Int) := by rw [addI_i64 (by omega) (by omega)]; exact len_snoc pre k0
    have := ih (pre ++ [k0]) (k0 + 1) (by simp; omega) (by omega) (by omega) (by omega)
    have e3 : k0 + ((x :: suf).length : Int) = k0 + 1 + (suf.length : Int) := by simp; omega
    rw [e3]
    simp only [List.length_cons, upFrom]
    rw [show pre ++ k0 :: upFrom (k0 + 1) suf.length = (pre ++ [k0]) ++ upFrom (k0 + 1) suf.length by simp]
    refine Ev2.step (fun k j => ?_) this
    simp only [laws_markInt64S_L2.eq, W, W1, W2, e1, e2, set_mid]
    rw [if_pos (by simp; omega), if_pos (by omega), if_pos (by simp; omega)]
theorem markInts (l : List Int) (hl : l.length ≤ 1048576) : Ev (fun k => laws_markInt64S k 1 l) (1 + (l.length : Int), upFrom 1 l.length) :=
  Ev.step (fun k => laws_markInt64S.eq 1 l k) (markInts_loop l.length hl l [] 1 (by simp) (by omega) (by omega) (by omega)).ev
theorem heldInts_loop (n : Nat) (hn : n ≤ 1048576) : ∀ (m : Nat) (pre : List Int) (k0 : Int), pre.length + m = n → 0 ≤ k0 → k0 + m ≤ 1099511627776 →
    Ev2 (fun k j => laws_heldInt64S_L2 k j (pre ++ upFrom k0 m) k0 (pre.length : Int)) (k0 + m) := by
  intro m
  induction m with
  | zero =>
    intro pre k0 hl h0 h2
    refine Ev2.ret fun k j => ?_
    simp only [laws_heldInt64S_L2.eq, W, W1, W2]
    rw [if_neg (by simp [upFrom])]
    simp
  | succ m ih =>
    intro pre k0 hl h0 h2
    have e1 : addI .i64 k0 1 = k0 + 1 := addI_i64 (by omega) (by omega)
    have e2 : addI .i64 (pre.length : Int) 1 = ((pre ++ [k0]).length : Int) := by rw [addI_i64 (by omega) (by omega)]; exact len_snoc pre k0
    have := ih (pre ++ [k0]) (k0 + 1) (by simp; omega) (by omega) (by omega)
    have hr : rd (pre ++ k0 :: upFrom (k0 + 1) m) (pre.length : Int) (0 : Int) = k0 := rd_mid pre _ k0 0
    have e3 : k0 + ((m + 1 : Nat) : Int) = k0 + 1 + (m : Int) := by omega
    rw [e3]
    refine Ev2.step (fun k j => ?_) this
    simp only [upFrom, laws_heldInt64S_L2.eq, W, W1, W2, e1, e2, hr]
    rw [if_pos (by simp; omega), if_pos (by omega), if_pos (by simp; omega)]
    simp
theorem heldInts (n : Nat) (hn : n ≤ 1048576) : Ev (fun k => laws_heldInt64S k (upFrom 1 n) 1) (1 + (n : Int)) :=
  Ev.step (fun k => laws_heldInt64S.eq _ 1 k) (heldInts_loop n hn n [] 1 (by simp) (by omega) (by omega)).ev
end Go.Proofs.Ytopbiepiceajnaa.S
