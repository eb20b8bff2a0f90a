/- RopeOf, plainly: the program's rope and the reference's are one, and stay it whatever the caller writes into one of them. -/
import Derived.Test.YtbapdldcinjcgaaDoorPTree
import Derived.Test.YtbapdldcinjcgaaDoorXMarkQ
namespace Go.Proofs.YtbapdldcinjcgaaDoor.RO
open Go.Eng Go.RowKit
set_option linter.unusedVariables false
set_option linter.unusedSimpArgs false
theorem set_mid'' {α : Type} (pre suf : List α) (x y : α) : (pre ++ x :: suf).set ((pre.length : Int)).toNat y = pre ++ y :: suf := by simp
theorem eqNodes_loop (l : List T_siiii) (hl : l.length ≤ 1048576) : ∀ (suf pre : List T_siiii), l = pre ++ suf → Ev2 (fun k j => laws_eqRopeNodeS_L4 k j l l (pre.length : Int)) true := by
  intro suf
  induction suf with
  | nil =>
    intro pre hlp
    subst hlp
    refine Ev2.ret fun k j => ?_
    simp only [laws_eqRopeNodeS_L4.eq, W, W1, W2]
    rw [if_neg (by simp)]
  | cons x suf ih =>
    intro pre hlp
    have hle : pre.length + 1 ≤ l.length := by rw [hlp, List.length_append, List.length_cons]; omega
    have hr : rd l (pre.length : Int) ((bs []), (0, (0, (0, 0)))) = x := by rw [hlp]; exact rd_mid pre suf x _
    have hw2 : addI .i64 (pre.length : Int) 1 = ((pre ++ [x]).length : Int) := by rw [addI_i64 (by omega) (by omega)]; exact len_snoc pre x
    have hst : Ev (fun k => laws_eqRopeNode k x.1 x.2.1 x.2.2.1 x.2.2.2.1 x.2.2.2.2 x.1 x.2.1 x.2.2.1 x.2.2.2.1 x.2.2.2.2) true := Ev.ret fun k => by simp only [laws_eqRopeNode.eq, W, W1, if_true]
    have e := fun k j => laws_eqRopeNodeS_L4.eq l l (pre.length : Int) k j
    have a1 : (pre.length : Int) < (l.length : Int) := by omega
    have a2 : (0 : Int) ≤ (pre.length : Int) := by omega
    simp only [W, W1, W2, W3, hr, hw2, if_pos a1, if_pos a2] at e
    refine Ev2.step e (Ev2.bind hst ?_)
    simp only [W1]
    exact ih (pre ++ [x]) (by rw [hlp]; simp)
theorem eqNodes (l : List T_siiii) (hl : l.length ≤ 1048576) : Ev (fun k => laws_eqRopeNodeS k l l) true := by
  have key : Ev2 (fun k j => laws_eqRopeNodeS_L4 k j l l 0) true := eqNodes_loop l hl l [] rfl
  have e := fun k => laws_eqRopeNodeS.eq l l k
  simp only [W, W1, W2, if_true] at e
  exact Ev.step e key.ev
theorem eqNone : Ev (fun k => laws_eqMarkS k [] []) true := by
  have key : Ev2 (fun k j => laws_eqMarkS_L4 k j [] [] 0) true := Ev2.ret fun k j => by
    simp only [laws_eqMarkS_L4.eq, W, W1, W2]
    rw [if_neg (by simp)]
  have e := fun k => laws_eqMarkS.eq [] [] k
  simp only [W, W1, W2, if_true] at e
  exact Ev.step e key.ev
theorem eqRope (l : List T_siiii) (hl : l.length ≤ 1048576) : Ev (fun k => laws_eqRope k l [] l []) true := by
  have e := fun k => laws_eqRope.eq l [] l [] k
  simp only [W, W1, W3] at e
  refine Ev.step e (Ev.bind (eqNodes l hl) ?_)
  simp only [W1]
  refine Ev.bind eqNone ?_
  simp only [W1]
  exact Ev.now _
/-! ### marks -/
noncomputable def mtx (n : Nat) : ByteArray := if h : n ≤ 1000000000 then Classical.choose (markText_ev n h) else ⟨#[]⟩
theorem mtx_ev (n : Nat) (h : n ≤ 1000000000) : Ev (fun k => laws_markText k (n : Int)) (mtx n) := by
  unfold mtx
  rw [dif_pos h]
  exact Classical.choose_spec (markText_ev n h)
noncomputable def rowsFrom : Nat → Nat → List T_siiii
  | _, 0 => []
  | k, m + 1 => (mtx k, ((k + 1 : Nat) : Int), ((k + 2 : Nat) : Int), ((k + 3 : Nat) : Int), ((k + 4 : Nat) : Int)) :: rowsFrom (k + 5) m
theorem markNodes_loop (n : Nat) (hn : n ≤ 1048576) : ∀ (suf pre : List T_siiii) (k0 : Nat), pre.length + suf.length = n → k0 + 5 * suf.length ≤ 100000000 →
    Ev2 (fun k j => laws_markRopeNodeS_L2 k j (k0 : Int) (pre.length : Int) (pre ++ suf)) (((k0 + 5 * suf.length : Nat) : Int), pre ++ rowsFrom k0 suf.length) := by
  intro suf
  induction suf with
  | nil =>
    intro pre k0 hl h2
    refine Ev2.ret fun k j => ?_
    rw [laws_markRopeNodeS_L2.eq, show ltI (pre.length : Int) (ln (pre ++ ([] : List T_siiii))) = false by simp only [W, W2]; simp, brB_f rfl]
    simp [rowsFrom]
  | cons x suf ih =>
    intro pre k0 hl h2
    simp only [List.length_cons] at hl h2
    have e1 : addI .i64 (k0 : Int) 1 = ((k0 + 1 : Nat) : Int) := by rw [addI_i64 (by omega) (by omega)]; omega
    have e2 : addI .i64 ((k0 + 1 : Nat) : Int) 1 = ((k0 + 2 : Nat) : Int) := by rw [addI_i64 (by omega) (by omega)]; omega
    have e3 : addI .i64 ((k0 + 2 : Nat) : Int) 1 = ((k0 + 3 : Nat) : Int) := by rw [addI_i64 (by omega) (by omega)]; omega
    have e4 : addI .i64 ((k0 + 3 : Nat) : Int) 1 = ((k0 + 4 : Nat) : Int) := by rw [addI_i64 (by omega) (by omega)]; omega
    have e5 : addI .i64 ((k0 + 4 : Nat) : Int) 1 = ((k0 + 5 : Nat) : Int) := by rw [addI_i64 (by omega) (by omega)]; omega
    have hw2 : ∀ y : T_siiii, addI .i64 (pre.length : Int) 1 = ((pre ++ [y]).length : Int) := fun y => by rw [addI_i64 (by omega) (by omega)]; exact len_snoc pre y
    have hlt : ∀ y : T_siiii, ((pre.length : Int) < ((pre ++ y :: suf).length : Int)) = True := fun y => by simp; omega
    have hge : ((0 : Int) ≤ (pre.length : Int)) = True := by simp
    have e := fun k j => laws_markRopeNodeS_L2.eq (k0 : Int) (pre.length : Int) (pre ++ x :: suf) k j
    simp only [W, W1, W2, W3, set_mid'', rd_mid, e1, e2, e3, e4, e5, hlt, hge, if_true] at e
    refine Ev2.step e (Ev2.bind (mtx_ev k0 (by omega)) ?_)
    have h := ih (pre ++ [(mtx k0, ((k0 + 1 : Nat) : Int), ((k0 + 2 : Nat) : Int), ((k0 + 3 : Nat) : Int), ((k0 + 4 : Nat) : Int))]) (k0 + 5) (by simp; omega) (by omega)
    rw [← hw2] at h
    have q1 : k0 + 5 * (suf.length + 1) = k0 + 5 + 5 * suf.length := by omega
    simp only [List.length_cons, rowsFrom, q1]
    simp only [List.append_assoc, List.singleton_append] at h
    exact h
theorem markRope (l : List T_siiii) (hl : l.length ≤ 1048576) : Ev (fun k => laws_markRope k 1 l []) (((1 + 5 * l.length : Nat) : Int), (rowsFrom 1 l.length, [])) := by
  have h : Ev (fun k => laws_markRopeNodeS k 1 l) (((1 + 5 * l.length : Nat) : Int), rowsFrom 1 l.length) := Ev.step (fun k => laws_markRopeNodeS.eq 1 l k) (markNodes_loop l.length hl l [] 1 (by simp) (by omega)).ev
  have h2 : ∀ m : Int, Ev (fun k => laws_markMarkS k m []) (m, []) := fun m => by
    have key : Ev2 (fun k j => laws_markMarkS_L2 k j m 0 []) (m, ([] : List T_sib)) := Ev2.ret fun k j => by
      rw [laws_markMarkS_L2.eq, show ltI 0 (ln ([] : List T_sib)) = false by simp only [W, W2]; simp, brB_f rfl]
    exact Ev.step (fun k => laws_markMarkS.eq m [] k) key.ev
  exact Ev.step (fun k => laws_markRope.eq 1 l [] k) (Ev.opt h (Ev.opt (h2 _) (Ev.now _)))
theorem heldNodes_loop (n : Nat) (hn : n ≤ 1048576) : ∀ (m : Nat) (pre : List T_siiii) (k0 : Nat), pre.length + m = n → k0 + 5 * m ≤ 100000000 →
    Ev2 (fun k j => laws_heldRopeNodeS_L2 k j (pre ++ rowsFrom k0 m) (k0 : Int) (pre.length : Int)) ((k0 + 5 * m : Nat) : Int) := by
  intro m
  induction m with
  | zero =>
    intro pre k0 hl h2
    refine Ev2.ret fun k j => ?_
    simp only [laws_heldRopeNodeS_L2.eq, W, W1, W2]
    rw [if_neg (by simp [rowsFrom])]
    simp
  | succ m ih =>
    intro pre k0 hl h2
    have e1 : addI .i64 (k0 : Int) 1 = ((k0 + 1 : Nat) : Int) := by rw [addI_i64 (by omega) (by omega)]; omega
    have e2 : addI .i64 ((k0 + 1 : Nat) : Int) 1 = ((k0 + 2 : Nat) : Int) := by rw [addI_i64 (by omega) (by omega)]; omega
    have e3 : addI .i64 ((k0 + 2 : Nat) : Int) 1 = ((k0 + 3 : Nat) : Int) := by rw [addI_i64 (by omega) (by omega)]; omega
    have e4 : addI .i64 ((k0 + 3 : Nat) : Int) 1 = ((k0 + 4 : Nat) : Int) := by rw [addI_i64 (by omega) (by omega)]; omega
    have e5 : addI .i64 ((k0 + 4 : Nat) : Int) 1 = ((k0 + 5 : Nat) : Int) := by rw [addI_i64 (by omega) (by omega)]; omega
    have hw2 : ∀ y : T_siiii, addI .i64 (pre.length : Int) 1 = ((pre ++ [y]).length : Int) := fun y => by rw [addI_i64 (by omega) (by omega)]; exact len_snoc pre y
    have hlt : ∀ (y : T_siiii) suf, ((pre.length : Int) < ((pre ++ y :: suf).length : Int)) = True := fun y suf => by simp; omega
    have hge : ((0 : Int) ≤ (pre.length : Int)) = True := by simp
    have e := fun k j => laws_heldRopeNodeS_L2.eq (pre ++ rowsFrom k0 (m + 1)) (k0 : Int) (pre.length : Int) k j
    simp only [rowsFrom, W, W1, W2, W3, rd_mid, e1, e2, e3, e4, e5, hlt, hge, if_true] at e
    simp only [rowsFrom]
    refine Ev2.step e (Ev2.bind (mtx_ev k0 (by omega)) ?_)
    simp only [if_true]
    have h := ih (pre ++ [(mtx k0, ((k0 + 1 : Nat) : Int), ((k0 + 2 : Nat) : Int), ((k0 + 3 : Nat) : Int), ((k0 + 4 : Nat) : Int))]) (k0 + 5) (by simp; omega) (by omega)
    rw [← hw2] at h
    have q1 : k0 + 5 * (m + 1) = k0 + 5 + 5 * m := by omega
    rw [q1]
    simp only [List.append_assoc, List.singleton_append] at h
    exact h
theorem heldRope (n : Nat) (hn : n ≤ 1048576) : Ev (fun k => laws_heldRope k (rowsFrom 1 n) [] 1) ((1 + 5 * n : Nat) : Int) := by
  have h : Ev (fun k => laws_heldRopeNodeS k (rowsFrom 1 n) 1) ((1 + 5 * n : Nat) : Int) := Ev.step (fun k => laws_heldRopeNodeS.eq (rowsFrom 1 n) 1 k) (heldNodes_loop n hn n [] 1 (by simp) (by omega)).ev
  have h2 : ∀ m : Int, Ev (fun k => laws_heldMarkS k [] m) m := fun m => by
    have key : Ev2 (fun k j => laws_heldMarkS_L2 k j [] m 0) m := Ev2.ret fun k j => by
      rw [laws_heldMarkS_L2.eq, show ltI 0 (ln ([] : List T_sib)) = false by simp only [W, W2]; simp, brB_f rfl]
    exact Ev.step (fun k => laws_heldMarkS.eq [] m k) key.ev
  have hc : ¬ (((1 + 5 * n : Nat) : Int) < 0) := by omega
  have e := fun k => laws_heldRope.eq (rowsFrom 1 n) [] 1 k
  simp only [W, W1, W3] at e
  refine Ev.step e (Ev.bind h ?_)
  simp only [if_neg hc]
  refine Ev.bind (h2 _) ?_
  simp only [if_neg hc]
  exact Ev.now _
/-! ### the law -/
noncomputable def ropeOf (t : ByteArray) : List T_siiii := if 65536 < t.size then [] else if t.size = 0 then [] else nodes t.size t 0
theorem ropeOf_len (t : ByteArray) : (ropeOf t).length ≤ 1048576 := by
  unfold ropeOf
  split
  · simp
  · split
    · simp
    · have := nodes_len t.size t 0 (by omega) (Nat.le_refl _)
      omega
theorem empty_of (t : ByteArray) (h : t.size = 0) : t = bs [] := by
  apply ByteArray.ext
  exact Array.eq_empty_of_size_eq_zero h
theorem specRope (t : ByteArray) : Ev (fun k => spec_RopeOf k t) (ropeOf t, []) := by
  have e := fun k => spec_RopeOf.eq t k
  simp only [W, W1, W3] at e
  unfold ropeOf
  by_cases c : 65536 < t.size
  · simp only [if_pos (show (65536 : Int) < (t.size : Int) by omega)] at e
    rw [if_pos c]
    exact Ev.ret e
  · simp only [if_neg (show ¬ (65536 : Int) < (t.size : Int) by omega)] at e
    rw [if_neg c]
    by_cases c2 : t.size = 0
    · rw [if_pos c2]
      have h : Ev (fun k => spec_l20Build k t []) ([], ()) := Ev.ret fun k => by
        simp only [spec_l20Build.eq, W, W1, if_pos (empty_of t c2)]
      exact Ev.step e (Ev.bind h (Ev.now _))
    · rw [if_neg c2]
      have h := spec_tree0 t.size t [] (by omega) (Nat.le_refl _) (by simp; omega)
      rw [List.nil_append] at h
      exact Ev.step e (Ev.bind h (Ev.now _))
theorem implRope (t : ByteArray) : Ev (fun k => impl_RopeOf k t) (ropeOf t, []) := by
  have e := fun k => impl_RopeOf.eq t k
  have hl : Ev (fun k => impl_long k t) (decide ((65536 : Int) < (t.size : Int))) := Ev.ret fun k => by simp only [impl_long.eq, W]
  simp only [W3] at e
  refine Ev.step e (Ev.bind hl ?_)
  unfold ropeOf
  by_cases c : 65536 < t.size
  · simp only [W1, if_pos (show (65536 : Int) < (t.size : Int) by omega)]
    rw [if_pos c]
    exact Ev.now _
  · simp only [W1, if_neg (show ¬ (65536 : Int) < (t.size : Int) by omega)]
    rw [if_neg c]
    have e2 := fun k => impl_ropeOf.eq t [] k
    simp only [W, W1, W3] at e2
    by_cases c2 : t.size = 0
    · rw [if_pos c2]
      simp only [if_pos (empty_of t c2)] at e2
      exact Ev.bind (Ev.ret e2) (Ev.now _)
    · rw [if_neg c2]
      simp only [if_neg (not_empty t (by omega))] at e2
      have h := impl_tree0 t.size t [] (by omega) (Nat.le_refl _) (by simp; omega)
      rw [List.nil_append] at h
      exact Ev.bind (Ev.step e2 (Ev.bind h (Ev.now _))) (Ev.now _)
theorem law_ev (t : ByteArray) : Ev (fun k => laws_FnExactRopeOf k t) true := by
  have e := fun k => laws_FnExactRopeOf.eq t k
  have hl := ropeOf_len t
  have hc : ¬ (((1 + 5 * (ropeOf t).length : Nat) : Int) < 0) := by omega
  simp only [W, W1, W3] at e
  by_cases c : 1048576 < t.size
  · simp only [if_pos (show (1048576 : Int) < (t.size : Int) by omega)] at e
    exact Ev.ret e
  · simp only [if_neg (show ¬ (1048576 : Int) < (t.size : Int) by omega)] at e
    refine Ev.step e (Ev.bind (specRope t) (Ev.bind (implRope t) (Ev.bind (eqRope _ hl) ?_)))
    simp only [W1]
    refine Ev.bind (markRope _ hl) (Ev.bind (heldRope _ hl) ?_)
    simp only [if_neg hc, if_true]
    refine Ev.bind (implRope t) (Ev.bind (eqRope _ hl) ?_)
    simp only [W1]
    refine Ev.bind (heldRope _ hl) ?_
    simp only [if_neg hc, if_true]
    exact Ev.now _
theorem pure_FnExactRopeOf (t : ByteArray) (ht : CT.good .str t) : ∃ k, laws_FnExactRopeOf k t = some true := (law_ev t).has
#print axioms pure_FnExactRopeOf
end Go.Proofs.YtbapdldcinjcgaaDoor.RO
