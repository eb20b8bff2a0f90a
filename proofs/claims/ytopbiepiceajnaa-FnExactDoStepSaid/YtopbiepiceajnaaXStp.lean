/- Steps of a history, plainly: sizes, copies, comparisons, marks. -/
import Derived.Test.YtopbiepiceajnaaQD0
import Derived.Test.YtopbiepiceajnaaXMarkQ
namespace Go.Proofs.Ytopbiepiceajnaa.D
open Go.Eng Go.RowKit
set_option linter.unusedVariables false
set_option linter.unusedSimpArgs false
theorem set_mid' {α : Type} (pre suf : List α) (x y : α) : (pre ++ x :: suf).set ((pre.length : Int)).toNat y = pre ++ y :: suf := by simp
def wt (x : T_issi) : Nat := x.2.1.size + x.2.2.1.size
theorem szStep_ev (x : T_issi) (a : Int) (h0 : 0 ≤ a) (h1 : a ≤ 1048576) (hx1 : x.2.1.size ≤ maxLen) (hx2 : x.2.2.1.size ≤ maxLen) : Ev (fun k => laws_szStep k x.1 x.2.1 x.2.2.1 x.2.2.2 a) (if a < wt x then -1 else a - wt x) := by
  simp only [maxLen] at hx1 hx2
  refine Ev.ret fun k => ?_
  have e1 : subI .i64 a (x.2.1.size : Int) = a - x.2.1.size := subI_i64 (by omega) (by omega)
  simp only [laws_szStep.eq, W, W1, e1]
  unfold wt
  by_cases c : a - (x.2.1.size : Int) < 0
  · rw [if_pos c, if_pos (by omega)]
  · have e2 : subI .i64 (a - (x.2.1.size : Int)) (x.2.2.1.size : Int) = a - x.2.1.size - x.2.2.1.size := subI_i64 (by omega) (by omega)
    rw [if_neg c, e2]
    by_cases c2 : a - (x.2.1.size : Int) - (x.2.2.1.size : Int) < 0
    · rw [if_pos c2, if_pos (by omega)]
    · rw [if_neg c2, if_neg (by omega)]
      congr 1
      omega
theorem szSteps_loop (l : List T_issi) (hl : l.length ≤ 1048576) : ∀ (suf pre : List T_issi) (a : Int), l = pre ++ suf → 0 ≤ a → a ≤ 1048576 → (∀ x ∈ suf, x.2.1.size ≤ maxLen ∧ x.2.2.1.size ≤ maxLen) →
    ∃ r : Int, Ev2 (fun k j => laws_szStepS_L5 k j l a (pre.length : Int)) r ∧ (0 ≤ r → ∀ x ∈ suf, x.2.1.size ≤ 1048576 ∧ x.2.2.1.size ≤ 1048576) := by
  intro suf
  induction suf with
  | nil =>
    intro pre a hlp h0 h1 hs
    subst hlp
    refine ⟨a, Ev2.ret fun k j => ?_, fun _ x hx => by cases hx⟩
    simp only [laws_szStepS_L5.eq, W, W1, W2]
    rw [if_neg (by simp)]
  | cons x suf ih =>
    intro pre a hlp h0 h1 hs
    have hle : pre.length + 1 ≤ l.length := by rw [hlp, List.length_append, List.length_cons]; omega
    have hx := szStep_ev x a h0 h1 (hs x (by simp)).1 (hs x (by simp)).2
    have hr : rd l (pre.length : Int) (0, ((bs []), ((bs []), 0))) = x := by rw [hlp]; exact rd_mid pre suf x _
    have hw2 : addI .i64 (pre.length : Int) 1 = ((pre ++ [x]).length : Int) := by rw [addI_i64 (by omega) (by omega)]; exact len_snoc pre x
    have e := fun k j => laws_szStepS_L5.eq l a (pre.length : Int) k j
    have a1 : (pre.length : Int) < (l.length : Int) := by omega
    have a2 : (0 : Int) ≤ (pre.length : Int) := by omega
    simp only [W, W1, W2, W3, hr, hw2, if_pos a1, if_pos a2] at e
    by_cases c : a < wt x
    · refine ⟨-1, Ev2.step e (Ev2.bind hx ?_), by omega⟩
      have : (if a < (wt x : Int) then (-1 : Int) else a - wt x) < 0 := by rw [if_pos c]; omega
      simp only [if_pos this]
      exact Ev2.now _
    · obtain ⟨r, h2, h3⟩ := ih (pre ++ [x]) (a - wt x) (by rw [hlp]; simp) (by omega) (by omega) (fun y hy => hs y (by simp [hy]))
      refine ⟨r, Ev2.step e (Ev2.bind hx ?_), fun h y hy => ?_⟩
      · have c' : ¬ a - (wt x : Int) < 0 := by omega
        simp only [if_neg c, if_neg c']
        exact h2
      · rcases List.mem_cons.1 hy with rfl | hy
        · unfold wt at c; omega
        · exact h3 h y hy
theorem szHist (b : ByteArray) (l : List T_issi) (d : Int) (hb : b.size ≤ maxLen) (hl : l.length ≤ maxLen) (hs : ∀ x ∈ l, x.2.1.size ≤ maxLen ∧ x.2.2.1.size ≤ maxLen) :
    ∃ r : Int, Ev (fun k => laws_szHistory k b l d 1048576) r ∧ (0 ≤ r → b.size ≤ 1048576 ∧ l.length ≤ 1048576 ∧ ∀ x ∈ l, x.2.1.size ≤ 1048576 ∧ x.2.2.1.size ≤ 1048576) := by
  simp only [maxLen] at hb hl
  have e1 : subI .i64 1048576 (b.size : Int) = 1048576 - b.size := subI_i64 (by omega) (by omega)
  by_cases c : (1048576 : Int) - b.size < 0
  · refine ⟨-1, Ev.ret fun k => ?_, by omega⟩
    simp only [laws_szHistory.eq, W, W1, e1]
    rw [if_pos c]
  · have e2 : subI .i64 (1048576 - (b.size : Int)) (l.length : Int) = 1048576 - b.size - l.length := subI_i64 (by omega) (by omega)
    have es := fun k => laws_szHistory.eq b l d 1048576 k
    simp only [W, W1, W3, e1, if_neg c] at es
    by_cases c2 : (1048576 : Int) - b.size - l.length < 0
    · refine ⟨-1, Ev.step es (Ev.bind (a := -1) (Ev.ret fun k => ?_) (by
        have hm : (-1 : Int) < 0 := by omega
        simp only [if_pos hm]
        exact Ev.now _)), by omega⟩
      simp only [laws_szStepS.eq, W, W1, W2, e2]
      rw [if_pos c2]
    · obtain ⟨r, h1, h2⟩ := szSteps_loop l (by omega) l [] (1048576 - b.size - l.length) rfl (by omega) (by omega) hs
      refine ⟨if r < 0 then -1 else r, Ev.step es (Ev.bind (a := r) (Ev.step (fun k => ?_) h1.ev) ?_), fun h => ⟨by omega, by omega, h2 (by split at h <;> omega)⟩⟩
      · simp only [laws_szStepS.eq, W, W1, W2, e2]
        rw [if_neg c2]
        rfl
      · split <;> exact Ev.now _
theorem toSteps_loop (l : List T_issi) (hl : l.length ≤ 1048576) : ∀ (suf pre : List T_issi), l = pre ++ suf →
    Ev2 (fun k j => laws_toStepS_L3 k j l (pre.length : Int) (pre ++ List.replicate suf.length (0, ((bs []), ((bs []), 0))))) l := by
  intro suf
  induction suf with
  | nil =>
    intro pre hlp
    subst hlp
    refine Ev2.ret fun k j => ?_
    simp only [laws_toStepS_L3.eq, W, W1, W2]
    rw [if_neg (by simp)]
    simp
  | cons x suf ih =>
    intro pre hlp
    have hle : pre.length + 1 ≤ l.length := by rw [hlp, List.length_append, List.length_cons]; omega
    have hr : rd l (pre.length : Int) (0, ((bs []), ((bs []), 0))) = x := by rw [hlp]; exact rd_mid pre suf x _
    have hw2 : addI .i64 (pre.length : Int) 1 = ((pre ++ [x]).length : Int) := by rw [addI_i64 (by omega) (by omega)]; exact len_snoc pre x
    have hst : Ev (fun k => laws_toStep k x.1 x.2.1 x.2.2.1 x.2.2.2) x := Ev.ret fun k => laws_toStep.eq x.1 x.2.1 x.2.2.1 x.2.2.2 k
    have e := fun k j => laws_toStepS_L3.eq l (pre.length : Int) (pre ++ List.replicate (x :: suf).length (0, ((bs []), ((bs []), 0)))) k j
    have a1 : (pre.length : Int) < (l.length : Int) := by omega
    have a2 : (0 : Int) ≤ (pre.length : Int) := by omega
    have a3 : (pre.length : Int) < ((pre ++ (0, ((bs []), ((bs []), 0))) :: List.replicate suf.length ((0, ((bs []), ((bs []), 0))) : T_issi)).length : Int) := by simp; omega
    simp only [W, W1, W2, W3, hr, hw2, List.length_cons, List.replicate_succ, set_mid, if_pos a1, if_pos a2, if_pos a3] at e
    refine Ev2.step e (Ev2.bind hst ?_)
    exact ih (pre ++ [x]) (by rw [hlp]; simp)
theorem toHist (b : ByteArray) (l : List T_issi) (d : Int) (hl : l.length ≤ 1048576) : Ev (fun k => laws_toHistory k b l d) (b, l, d) := by
  have h : Ev (fun k => laws_toStepS k l) l := by
    refine Ev.step (fun k => ?_) (toSteps_loop l hl l [] rfl).ev
    simp only [laws_toStepS.eq, W, W1, W2]
    rw [if_pos (by omega), if_pos (by omega), if_pos (by omega)]
    simp
  exact Ev.step (fun k => laws_toHistory.eq b l d k) (Ev.opt h (Ev.now _))
theorem eqSteps_loop (l : List T_issi) (hl : l.length ≤ 1048576) : ∀ (suf pre : List T_issi), l = pre ++ suf → Ev2 (fun k j => laws_eqStepS_L4 k j l l (pre.length : Int)) true := by
  intro suf
  induction suf with
  | nil =>
    intro pre hlp
    subst hlp
    refine Ev2.ret fun k j => ?_
    simp only [laws_eqStepS_L4.eq, W, W1, W2]
    rw [if_neg (by simp)]
  | cons x suf ih =>
    intro pre hlp
    have hle : pre.length + 1 ≤ l.length := by rw [hlp, List.length_append, List.length_cons]; omega
    have hr : rd l (pre.length : Int) (0, ((bs []), ((bs []), 0))) = x := by rw [hlp]; exact rd_mid pre suf x _
    have hw2 : addI .i64 (pre.length : Int) 1 = ((pre ++ [x]).length : Int) := by rw [addI_i64 (by omega) (by omega)]; exact len_snoc pre x
    have hst : Ev (fun k => laws_eqStep k x.1 x.2.1 x.2.2.1 x.2.2.2 x.1 x.2.1 x.2.2.1 x.2.2.2) true := Ev.ret fun k => by simp only [laws_eqStep.eq, W, W1, if_true]
    have e := fun k j => laws_eqStepS_L4.eq l l (pre.length : Int) k j
    have a1 : (pre.length : Int) < (l.length : Int) := by omega
    have a2 : (0 : Int) ≤ (pre.length : Int) := by omega
    simp only [W, W1, W2, W3, hr, hw2, if_pos a1, if_pos a2] at e
    refine Ev2.step e (Ev2.bind hst ?_)
    exact ih (pre ++ [x]) (by rw [hlp]; simp)
theorem eqHist (b : ByteArray) (l : List T_issi) (d : Int) (hl : l.length ≤ 1048576) : Ev (fun k => laws_eqHistory k b l d b l d) true := by
  have h : Ev (fun k => laws_eqStepS k l l) true := by
    refine Ev.step (fun k => ?_) (eqSteps_loop l hl l [] rfl).ev
    simp only [laws_eqStepS.eq, W, W1, W2, if_true]
    simp
  refine Ev.step (f := fun k => optB (laws_eqStepS k l l) fun r0 => brB (notB r0) (some false) (brB (notB (eqI d d)) (some false) (some true))) (fun k => ?_) (Ev.opt h ?_)
  · simp only [laws_eqHistory.eq, W, W1, if_true]
  · simp only [W, W1, if_true]; exact Ev.now _
theorem eqOut (v : Int × ByteArray × List T_issi × Int × ByteArray) (hl : v.2.2.1.length ≤ 1048576) : Ev (fun k => laws_eqHistoryOut k v.1 v.2.1 v.2.2.1 v.2.2.2.1 v.2.2.2.2 v.1 v.2.1 v.2.2.1 v.2.2.2.1 v.2.2.2.2) true := by
  refine Ev.step (f := fun k => optB (laws_eqHistory k v.2.1 v.2.2.1 v.2.2.2.1 v.2.1 v.2.2.1 v.2.2.2.1) fun r0 => brB (notB r0) (some false) (brB (notB (bytesEq v.2.2.2.2 v.2.2.2.2)) (some false) (some true))) (fun k => ?_) (Ev.opt (eqHist _ _ _ hl) ?_)
  · simp only [laws_eqHistoryOut.eq, W, W1, if_true]
  · simp only [W, W1, if_true]; exact Ev.now _
/-! ### marks -/
noncomputable def mtx (n : Nat) : ByteArray := if h : n ≤ 1000000000 then Classical.choose (markText_ev n h) else ⟨#[]⟩
theorem mtx_ev (n : Nat) (h : n ≤ 1000000000) : Ev (fun k => laws_markText k (n : Int)) (mtx n) := by
  unfold mtx
  rw [dif_pos h]
  exact Classical.choose_spec (markText_ev n h)
noncomputable def stepsFrom : Nat → Nat → List T_issi
  | _, 0 => []
  | k, m + 1 => ((k : Int), mtx (k + 1), mtx (k + 2), ((k + 3 : Nat) : Int)) :: stepsFrom (k + 4) m
theorem markSteps_loop (n : Nat) (hn : n ≤ 1048576) : ∀ (suf pre : List T_issi) (k0 : Nat), pre.length + suf.length = n → k0 + 4 * suf.length ≤ 100000000 →
    Ev2 (fun k j => laws_markStepS_L2 k j (k0 : Int) (pre.length : Int) (pre ++ suf)) (((k0 + 4 * suf.length : Nat) : Int), pre ++ stepsFrom k0 suf.length) := by
  intro suf
  induction suf with
  | nil =>
    intro pre k0 hl h2
    refine Ev2.ret fun k j => ?_
    simp only [laws_markStepS_L2.eq, W, W1, W2]
    rw [if_neg (by simp)]
    simp [stepsFrom]
  | cons x suf ih =>
    intro pre k0 hl h2
    simp only [List.length_cons] at hl h2
    have e1 : addI .i64 (k0 : Int) 1 = ((k0 + 1 : Nat) : Int) := by rw [addI_i64 (by omega) (by omega)]; omega
    have e2 : addI .i64 ((k0 + 1 : Nat) : Int) 1 = ((k0 + 2 : Nat) : Int) := by rw [addI_i64 (by omega) (by omega)]; omega
    have e3 : addI .i64 ((k0 + 2 : Nat) : Int) 1 = ((k0 + 3 : Nat) : Int) := by rw [addI_i64 (by omega) (by omega)]; omega
    have e4 : addI .i64 ((k0 + 3 : Nat) : Int) 1 = ((k0 + 4 : Nat) : Int) := by rw [addI_i64 (by omega) (by omega)]; omega
    have hw2 : ∀ y : T_issi, addI .i64 (pre.length : Int) 1 = ((pre ++ [y]).length : Int) := fun y => by rw [addI_i64 (by omega) (by omega)]; exact len_snoc pre y
    have hlt : ∀ y : T_issi, ((pre.length : Int) < ((pre ++ y :: suf).length : Int)) = True := fun y => by simp; omega
    have hge : ((0 : Int) ≤ (pre.length : Int)) = True := by simp
    have e := fun k j => laws_markStepS_L2.eq (k0 : Int) (pre.length : Int) (pre ++ x :: suf) k j
    simp only [W, W1, W2, W3, set_mid', rd_mid, e1, e2, e3, e4, hlt, hge, if_true] at e
    refine Ev2.step e (Ev2.bind (mtx_ev (k0 + 1) (by omega)) (Ev2.bind (mtx_ev (k0 + 2) (by omega)) ?_))
    have h := ih (pre ++ [((k0 : Int), mtx (k0 + 1), mtx (k0 + 2), ((k0 + 3 : Nat) : Int))]) (k0 + 4) (by simp; omega) (by omega)
    rw [← hw2] at h
    have q1 : k0 + 4 * (suf.length + 1) = k0 + 4 + 4 * suf.length := by omega
    simp only [List.length_cons, stepsFrom, q1]
    simp only [List.append_assoc, List.singleton_append] at h
    exact h
theorem markOut (v : Int × ByteArray × List T_issi × Int × ByteArray) (hl : v.2.2.1.length ≤ 1048576) : Ev (fun k => laws_markHistoryOut k v.1 v.2.1 v.2.2.2.1 v.2.2.2.2 1 v.2.2.1) (((1 + 4 * v.2.2.1.length : Nat) : Int), stepsFrom 1 v.2.2.1.length) := by
  have h : Ev (fun k => laws_markStepS k 1 v.2.2.1) (((1 + 4 * v.2.2.1.length : Nat) : Int), stepsFrom 1 v.2.2.1.length) := Ev.step (fun k => laws_markStepS.eq 1 v.2.2.1 k) (markSteps_loop v.2.2.1.length hl v.2.2.1 [] 1 (by simp) (by omega)).ev
  exact Ev.step (fun k => laws_markHistoryOut.eq v.1 v.2.1 v.2.2.2.1 v.2.2.2.2 1 v.2.2.1 k) (Ev.opt (Ev.step (fun k => laws_markHistory.eq v.2.1 v.2.2.2.1 1 v.2.2.1 k) (Ev.opt h (Ev.now _))) (Ev.now _))
theorem markHist (b : ByteArray) (l : List T_issi) (d : Int) (hl : l.length ≤ 1048576) : Ev (fun k => laws_markHistory k b d 1 l) (((1 + 4 * l.length : Nat) : Int), stepsFrom 1 l.length) := by
  have h : Ev (fun k => laws_markStepS k 1 l) (((1 + 4 * l.length : Nat) : Int), stepsFrom 1 l.length) := Ev.step (fun k => laws_markStepS.eq 1 l k) (markSteps_loop l.length hl l [] 1 (by simp) (by omega)).ev
  exact Ev.step (fun k => laws_markHistory.eq b d 1 l k) (Ev.opt h (Ev.now _))
theorem heldSteps_loop (n : Nat) (hn : n ≤ 1048576) : ∀ (m : Nat) (pre : List T_issi) (k0 : Nat), pre.length + m = n → k0 + 4 * m ≤ 100000000 →
    Ev2 (fun k j => laws_heldStepS_L2 k j (pre ++ stepsFrom k0 m) (k0 : Int) (pre.length : Int)) ((k0 + 4 * m : Nat) : Int) := by
  intro m
  induction m with
  | zero =>
    intro pre k0 hl h2
    refine Ev2.ret fun k j => ?_
    simp only [laws_heldStepS_L2.eq, W, W1, W2]
    rw [if_neg (by simp [stepsFrom])]
    simp
  | succ m ih =>
    intro pre k0 hl h2
    have e1 : addI .i64 (k0 : Int) 1 = ((k0 + 1 : Nat) : Int) := by rw [addI_i64 (by omega) (by omega)]; omega
    have e2 : addI .i64 ((k0 + 1 : Nat) : Int) 1 = ((k0 + 2 : Nat) : Int) := by rw [addI_i64 (by omega) (by omega)]; omega
    have e3 : addI .i64 ((k0 + 2 : Nat) : Int) 1 = ((k0 + 3 : Nat) : Int) := by rw [addI_i64 (by omega) (by omega)]; omega
    have e4 : addI .i64 ((k0 + 3 : Nat) : Int) 1 = ((k0 + 4 : Nat) : Int) := by rw [addI_i64 (by omega) (by omega)]; omega
    have hw2 : ∀ y : T_issi, addI .i64 (pre.length : Int) 1 = ((pre ++ [y]).length : Int) := fun y => by rw [addI_i64 (by omega) (by omega)]; exact len_snoc pre y
    have hlt : ∀ (y : T_issi) suf, ((pre.length : Int) < ((pre ++ y :: suf).length : Int)) = True := fun y suf => by simp; omega
    have hge : ((0 : Int) ≤ (pre.length : Int)) = True := by simp
    have e := fun k j => laws_heldStepS_L2.eq (pre ++ stepsFrom k0 (m + 1)) (k0 : Int) (pre.length : Int) k j
    simp only [stepsFrom, W, W1, W2, W3, rd_mid, e1, e2, e3, e4, hlt, hge, if_true] at e
    simp only [stepsFrom]
    refine Ev2.step e (Ev2.bind (mtx_ev (k0 + 1) (by omega)) ?_)
    simp only [if_true]
    refine Ev2.bind (mtx_ev (k0 + 2) (by omega)) ?_
    simp only [if_true]
    have h := ih (pre ++ [((k0 : Int), mtx (k0 + 1), mtx (k0 + 2), ((k0 + 3 : Nat) : Int))]) (k0 + 4) (by simp; omega) (by omega)
    rw [← hw2] at h
    have q1 : k0 + 4 * (m + 1) = k0 + 4 + 4 * m := by omega
    rw [q1]
    simp only [List.append_assoc, List.singleton_append] at h
    exact h
theorem heldOut (a a3 : Int) (a1 a4 : ByteArray) (n : Nat) (hn : n ≤ 1048576) : Ev (fun k => laws_heldHistoryOut k a a1 (stepsFrom 1 n) a3 a4 1) ((1 + 4 * n : Nat) : Int) := by
  have h : Ev (fun k => laws_heldStepS k (stepsFrom 1 n) 1) ((1 + 4 * n : Nat) : Int) := Ev.step (fun k => laws_heldStepS.eq (stepsFrom 1 n) 1 k) (heldSteps_loop n hn n [] 1 (by simp) (by omega)).ev
  have hc : ¬ (((1 + 4 * n : Nat) : Int) < 0) := by omega
  have h2 : Ev (fun k => laws_heldHistory k a1 (stepsFrom 1 n) a3 1) ((1 + 4 * n : Nat) : Int) := by
    refine Ev.step (fun k => laws_heldHistory.eq a1 (stepsFrom 1 n) a3 1 k) (Ev.opt h ?_)
    simp only [W, W1, if_neg hc]; exact Ev.now _
  refine Ev.step (fun k => laws_heldHistoryOut.eq a a1 (stepsFrom 1 n) a3 a4 1 k) (Ev.opt h2 ?_)
  simp only [W, W1, if_neg hc]; exact Ev.now _
end Go.Proofs.Ytopbiepiceajnaa.D
