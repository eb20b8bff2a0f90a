/- Rows of steps, plainly: comparisons, marks. -/
import Derived.Test.YtkkjkpliiinbjaaDoorQDI0
import Derived.Test.YtkkjkpliiinbjaaDoorXMarkQ
namespace Go.Proofs.YtkkjkpliiinbjaaDoor.DI
open Go.Eng Go.RowKit
set_option linter.unusedVariables false
set_option linter.unusedSimpArgs false
theorem set_mid' {α : Type} (pre suf : List α) (x y : α) : (pre ++ x :: suf).set ((pre.length : Int)).toNat y = pre ++ y :: suf := by simp
theorem eqSteps_loop (l : List T_issi) (hl : l.length ≤ 1048576) : ∀ (suf pre : List T_issi), l = pre ++ suf → Ev2 (fun k j => laws_eqStepS_L4 k j l l (pre.length : Int)) true := by
  intro suf
  induction suf with
  | nil =>
    intro pre hlp
    subst hlp
    refine Ev2.ret fun k j => ?_
    simp only [laws_eqStepS_L4.eq, W, W1, W2]
    rw [if_neg (by simp)]
  | cons x suf ih =>
    intro pre hlp
    have hle : pre.length + 1 ≤ l.length := by rw [hlp, List.length_append, List.length_cons]; omega
    have hr : rd l (pre.length : Int) (0, ((bs []), ((bs []), 0))) = x := by rw [hlp]; exact rd_mid pre suf x _
    have hw2 : addI .i64 (pre.length : Int) 1 = ((pre ++ [x]).length : Int) := by rw [addI_i64 (by omega) (by omega)]; exact len_snoc pre x
    have hst : Ev (fun k => laws_eqStep k x.1 x.2.1 x.2.2.1 x.2.2.2 x.1 x.2.1 x.2.2.1 x.2.2.2) true := Ev.ret fun k => by simp only [laws_eqStep.eq, W, W1, if_true]
    have e := fun k j => laws_eqStepS_L4.eq l l (pre.length : Int) k j
    have a1 : (pre.length : Int) < (l.length : Int) := by omega
    have a2 : (0 : Int) ≤ (pre.length : Int) := by omega
    simp only [W, W1, W2, W3, hr, hw2, if_pos a1, if_pos a2] at e
    refine Ev2.step e (Ev2.bind hst ?_)
    simp only [W1]
    exact ih (pre ++ [x]) (by rw [hlp]; simp)
noncomputable def mtx (n : Nat) : ByteArray := if h : n ≤ 1000000000 then Classical.choose (markText_ev n h) else ⟨#[]⟩
theorem mtx_ev (n : Nat) (h : n ≤ 1000000000) : Ev (fun k => laws_markText k (n : Int)) (mtx n) := by
  unfold mtx
  rw [dif_pos h]
  exact Classical.choose_spec (markText_ev n h)
noncomputable def stepsFrom : Nat → Nat → List T_issi
  | _, 0 => []
  | k, m + 1 => ((k : Int), mtx (k + 1), mtx (k + 2), ((k + 3 : Nat) : Int)) :: stepsFrom (k + 4) m
theorem markSteps_loop (n : Nat) (hn : n ≤ 1048576) : ∀ (suf pre : List T_issi) (k0 : Nat), pre.length + suf.length = n → k0 + 4 * suf.length ≤ 100000000 →
    Ev2 (fun k j => laws_markStepS_L2 k j (k0 : Int) (pre.length : Int) (pre ++ suf)) (((k0 + 4 * suf.length : Nat) : Int), pre ++ stepsFrom k0 suf.length) := by
  intro suf
  induction suf with
  | nil =>
    intro pre k0 hl h2
    refine Ev2.ret fun k j => ?_
    simp only [laws_markStepS_L2.eq, W, W1, W2]
    rw [if_neg (by simp)]
    simp [stepsFrom]
  | cons x suf ih =>
    intro pre k0 hl h2
    simp only [List.length_cons] at hl h2
    have e1 : addI .i64 (k0 : Int) 1 = ((k0 + 1 : Nat) : Int) := by rw [addI_i64 (by omega) (by omega)]; omega
    have e2 : addI .i64 ((k0 + 1 : Nat) : Int) 1 = ((k0 + 2 : Nat) : Int) := by rw [addI_i64 (by omega) (by omega)]; omega
    have e3 : addI .i64 ((k0 + 2 : Nat) : Int) 1 = ((k0 + 3 : Nat) : Int) := by rw [addI_i64 (by omega) (by omega)]; omega
    have e4 : addI .i64 ((k0 + 3 : Nat) : Int) 1 = ((k0 + 4 : Nat) : Int) := by rw [addI_i64 (by omega) (by omega)]; omega
    have hw2 : ∀ y : T_issi, addI .i64 (pre.length : Int) 1 = ((pre ++ [y]).length : Int) := fun y => by rw [addI_i64 (by omega) (by omega)]; exact len_snoc pre y
    have hlt : ∀ y : T_issi, ((pre.length : Int) < ((pre ++ y :: suf).length : Int)) = True := fun y => by simp; omega
    have hge : ((0 : Int) ≤ (pre.length : Int)) = True := by simp
    have e := fun k j => laws_markStepS_L2.eq (k0 : Int) (pre.length : Int) (pre ++ x :: suf) k j
    simp only [W, W1, W2, W3, set_mid', rd_mid, e1, e2, e3, e4, hlt, hge, if_true] at e
    refine Ev2.step e (Ev2.bind (mtx_ev (k0 + 1) (by omega)) (Ev2.bind (mtx_ev (k0 + 2) (by omega)) ?_))
    have h := ih (pre ++ [((k0 : Int), mtx (k0 + 1), mtx (k0 + 2), ((k0 + 3 : Nat) : Int))]) (k0 + 4) (by simp; omega) (by omega)
    rw [← hw2] at h
    have q1 : k0 + 4 * (suf.length + 1) = k0 + 4 + 4 * suf.length := by omega
    simp only [List.length_cons, stepsFrom, q1]
    simp only [List.append_assoc, List.singleton_append] at h
    exact h
theorem heldSteps_loop (n : Nat) (hn : n ≤ 1048576) : ∀ (m : Nat) (pre : List T_issi) (k0 : Nat), pre.length + m = n → k0 + 4 * m ≤ 100000000 →
    Ev2 (fun k j => laws_heldStepS_L2 k j (pre ++ stepsFrom k0 m) (k0 : Int) (pre.length : Int)) ((k0 + 4 * m : Nat) : Int) := by
  intro m
  induction m with
  | zero =>
    intro pre k0 hl h2
    refine Ev2.ret fun k j => ?_
    simp only [laws_heldStepS_L2.eq, W, W1, W2]
    rw [if_neg (by simp [stepsFrom])]
    simp
  | succ m ih =>
    intro pre k0 hl h2
    have e1 : addI .i64 (k0 : Int) 1 = ((k0 + 1 : Nat) : Int) := by rw [addI_i64 (by omega) (by omega)]; omega
    have e2 : addI .i64 ((k0 + 1 : Nat) : Int) 1 = ((k0 + 2 : Nat) : Int) := by rw [addI_i64 (by omega) (by omega)]; omega
    have e3 : addI .i64 ((k0 + 2 : Nat) : Int) 1 = ((k0 + 3 : Nat) : Int) := by rw [addI_i64 (by omega) (by omega)]; omega
    have e4 : addI .i64 ((k0 + 3 : Nat) : Int) 1 = ((k0 + 4 : Nat) : Int) := by rw [addI_i64 (by omega) (by omega)]; omega
    have hw2 : ∀ y : T_issi, addI .i64 (pre.length : Int) 1 = ((pre ++ [y]).length : Int) := fun y => by rw [addI_i64 (by omega) (by omega)]; exact len_snoc pre y
    have hlt : ∀ (y : T_issi) suf, ((pre.length : Int) < ((pre ++ y :: suf).length : Int)) = True := fun y suf => by simp; omega
    have hge : ((0 : Int) ≤ (pre.length : Int)) = True := by simp
    have e := fun k j => laws_heldStepS_L2.eq (pre ++ stepsFrom k0 (m + 1)) (k0 : Int) (pre.length : Int) k j
    simp only [stepsFrom, W, W1, W2, W3, rd_mid, e1, e2, e3, e4, hlt, hge, if_true] at e
    simp only [stepsFrom]
    refine Ev2.step e (Ev2.bind (mtx_ev (k0 + 1) (by omega)) ?_)
    simp only [if_true]
    refine Ev2.bind (mtx_ev (k0 + 2) (by omega)) ?_
    simp only [if_true]
    have h := ih (pre ++ [((k0 : Int), mtx (k0 + 1), mtx (k0 + 2), ((k0 + 3 : Nat) : Int))]) (k0 + 4) (by simp; omega) (by omega)
    rw [← hw2] at h
    have q1 : k0 + 4 * (m + 1) = k0 + 4 + 4 * m := by omega
    rw [q1]
    simp only [List.append_assoc, List.singleton_append] at h
    exact h
theorem eqSteps (l : List T_issi) (hl : l.length ≤ 1048576) : Ev (fun k => laws_eqStepS k l l) true := by
  refine Ev.step (fun k => ?_) (eqSteps_loop l hl l [] rfl).ev
  simp only [laws_eqStepS.eq, W, W1, W2, if_true]
  simp
theorem markSteps (l : List T_issi) (hl : l.length ≤ 1048576) : Ev (fun k => laws_markStepS k 1 l) (((1 + 4 * l.length : Nat) : Int), stepsFrom 1 l.length) :=
  Ev.step (fun k => laws_markStepS.eq 1 l k) (markSteps_loop l.length hl l [] 1 (by simp) (by omega)).ev
theorem heldSteps (n : Nat) (hn : n ≤ 1048576) : Ev (fun k => laws_heldStepS k (stepsFrom 1 n) 1) ((1 + 4 * n : Nat) : Int) :=
  Ev.step (fun k => laws_heldStepS.eq (stepsFrom 1 n) 1 k) (heldSteps_loop n hn n [] 1 (by simp) (by omega)).ev
end Go.Proofs.YtkkjkpliiinbjaaDoor.DI
