/- Ropes, plainly: which are right, what their texts are. -/
import Derived.Test.YtfbhkkedmfbgbaaDoorPName
namespace Go.Proofs.YtfbhkkedmfbgbaaDoor.PM
open Go.Eng Go.RowKit
set_option linter.unusedVariables false
set_option linter.unusedSimpArgs false
/-! ### the text of a rope -/
def textOf : List T_siiii → ByteArray
  | [] => bs []
  | x :: l => x.1 ++ textOf l
theorem app_nil (b : ByteArray) : b ++ bs [] = b := by
  apply ByteArray.ext
  rw [ByteArray.data_append]
  exact Array.append_empty
theorem nil_app (b : ByteArray) : bs [] ++ b = b := by
  apply ByteArray.ext
  rw [ByteArray.data_append]
  exact Array.empty_append
theorem app_assoc (a b c : ByteArray) : a ++ b ++ c = a ++ (b ++ c) := by
  apply ByteArray.ext
  simp only [ByteArray.data_append]
  exact Array.append_assoc
theorem textOf_size (l : List T_siiii) : (textOf l).size = wsum (fun x : T_siiii => x.1.size) l := by
  induction l with
  | nil => rfl
  | cons x l ih => simp only [textOf, wsum, ByteArray.size_append, ih]
theorem implText_loop (l : List T_siiii) (hl : l.length ≤ 1048576) : ∀ (suf pre : List T_siiii) (b : ByteArray), l = pre ++ suf → b.size + (textOf suf).size ≤ 1048576 →
    Ev2 (fun k j => impl_ropeText_L3 k j l (l.length : Int) (pre.length : Int) b) (b ++ textOf suf) := by
  intro suf
  induction suf with
  | nil =>
    intro pre b hp hb
    refine Ev2.ret fun k j => ?_
    simp only [impl_ropeText_L3.eq, W, W1, W2]
    rw [if_neg (show ¬ (pre.length : Int) < (l.length : Int) by rw [hp]; exact end_nlt pre)]
    simp only [textOf, app_nil]
  | cons x suf ih =>
    intro pre b hp hb
    have hle : pre.length + 1 ≤ l.length := by rw [hp, List.length_append, List.length_cons]; omega
    have e := fun k j => impl_ropeText_L3.eq l (l.length : Int) (pre.length : Int) b k j
    have hr : rd l (pre.length : Int) (bs [], (0, (0, (0, 0)))) = x := by rw [hp]; exact rd_mid pre suf x _
    simp only [textOf, ByteArray.size_append] at hb
    simp only [W, W1, W2, W3, if_pos (show (pre.length : Int) < (l.length : Int) by omega), if_pos (nat_ge _), hr, next_i pre x (by omega), if_pos (show (b.size : Int) + (x.1.size : Int) ≤ 140737488355328 by omega)] at e
    refine Ev2.step e ?_
    have := ih (pre ++ [x]) (b ++ x.1) (by rw [hp]; simp) (by rw [ByteArray.size_append]; omega)
    rw [app_assoc] at this
    exact this
theorem implText (l : List T_siiii) (ms : List T_sib) (hl : l.length ≤ 1048576) (ht : (textOf l).size ≤ 1048576) : Ev (fun k => impl_ropeText k l ms) (textOf l) := by
  have h := (implText_loop l hl l [] (bs []) rfl (by show 0 + _ ≤ _; omega)).ev
  rw [nil_app] at h
  exact Ev.step (fun k => impl_ropeText.eq l ms k) h
theorem specText_loop (l : List T_siiii) (hl : l.length ≤ 1048576) : ∀ (suf pre : List T_siiii) (b : ByteArray), l = pre ++ suf → b.size + (textOf suf).size ≤ 1048576 →
    Ev2 (fun k j => spec_l20Text_L3 k j l (pre.length : Int) (numsOf b)) (b ++ textOf suf) := by
  intro suf
  induction suf with
  | nil =>
    intro pre b hp hb
    refine Ev2.ret fun k j => ?_
    simp only [spec_l20Text_L3.eq, W, W1, W2]
    rw [if_neg (show ¬ (pre.length : Int) < (l.length : Int) by rw [hp]; exact end_nlt pre)]
    simp only [textOf, app_nil, bytesOf_numsOf]
  | cons x suf ih =>
    intro pre b hp hb
    have hle : pre.length + 1 ≤ l.length := by rw [hp, List.length_append, List.length_cons]; omega
    have e := fun k j => spec_l20Text_L3.eq l (pre.length : Int) (numsOf b) k j
    have hr : rd l (pre.length : Int) (bs [], (0, (0, (0, 0)))) = x := by rw [hp]; exact rd_mid pre suf x _
    simp only [textOf, ByteArray.size_append] at hb
    simp only [W, W1, W2, W3, if_pos (show (pre.length : Int) < (l.length : Int) by omega), if_pos (nat_ge _), hr, next_i pre x (by omega), numsOf_length, if_pos (show ((b.size : Int) + (x.1.size : Int)) * 1 < 140737488355328 by omega), ← numsOf_append] at e
    refine Ev2.step e ?_
    have := ih (pre ++ [x]) (b ++ x.1) (by rw [hp]; simp) (by rw [ByteArray.size_append]; omega)
    rw [app_assoc] at this
    exact this
theorem specText (l : List T_siiii) (hl : l.length ≤ 1048576) (ht : (textOf l).size ≤ 1048576) : Ev (fun k => spec_l20Text k l) (textOf l) := by
  have h := (specText_loop l hl l [] (bs []) rfl (by show 0 + _ ≤ _; omega)).ev
  rw [nil_app] at h
  exact Ev.step (fun k => spec_l20Text.eq l k) h
/-! ### the tree of a text -/
noncomputable def treeOf (t : ByteArray) : List T_siiii := if t.size = 0 then [] else nodes t.size t 0
theorem empty_of (t : ByteArray) (h : t.size = 0) : t = bs [] := by
  apply ByteArray.ext
  exact Array.eq_empty_of_size_eq_zero h
theorem treeOf_len (t : ByteArray) (h : t.size ≤ 65536) : (treeOf t).length ≤ 1048576 := by
  unfold treeOf
  split
  · simp
  · have := nodes_len t.size t 0 (by omega) (Nat.le_refl _)
    omega
theorem specTree (t : ByteArray) (h : t.size ≤ 65536) : Ev (fun k => spec_l20Build k t []) (treeOf t, ()) := by
  unfold treeOf
  by_cases c : t.size = 0
  · rw [if_pos c]
    exact Ev.ret fun k => by simp only [spec_l20Build.eq, W, W1, if_pos (empty_of t c)]
  · rw [if_neg c]
    have h := spec_tree0 t.size t [] (by omega) (Nat.le_refl _) (by simp; omega)
    rw [List.nil_append] at h
    exact h
theorem implTree (t : ByteArray) (ms : List T_sib) (h : t.size ≤ 65536) : Ev (fun k => impl_ropeOf k t ms) ((treeOf t, ms), ()) := by
  have e := fun k => impl_ropeOf.eq t ms k
  simp only [W, W1, W3] at e
  unfold treeOf
  by_cases c : t.size = 0
  · rw [if_pos c]
    simp only [if_pos (empty_of t c)] at e
    exact Ev.ret e
  · rw [if_neg c]
    simp only [if_neg (not_empty t (by omega))] at e
    have h := impl_tree0 t.size t [] (by omega) (Nat.le_refl _) (by simp; omega)
    rw [List.nil_append] at h
    exact Ev.step e (Ev.bind h (Ev.now _))
/-! ### rows of nodes held against each other -/
theorem and_dec (p q : Prop) [Decidable p] [Decidable q] : andB (decide p) (decide q) = decide (p ∧ q) := by
  unfold andB
  rw [Bool.decide_and]
theorem same_dec (x y : T_siiii) : andB (bytesEq x.1 y.1) (andB (eqI x.2.1 y.2.1) (andB (eqI x.2.2.1 y.2.2.1) (andB (eqI x.2.2.2.1 y.2.2.2.1) (andB (eqI x.2.2.2.2 y.2.2.2.2) true)))) = decide (x = y) := by
  simp only [W, andB, Bool.and_true, ← Bool.decide_and]
  apply decide_eq_decide.2
  obtain ⟨a, b, c, d, f⟩ := x
  obtain ⟨a', b', c', d', f'⟩ := y
  simp only [Prod.mk.injEq]
theorem equalNodes (a b : List T_siiii) (ha : a.length ≤ 1048576) : Ev (fun k => slices_Equal_RopeNode_RopeNode k a b) (decide (a = b)) := by
  have e := fun k => slices_Equal_RopeNode_RopeNode.eq a b k
  simp only [W, W1, W2] at e
  by_cases c : a.length = b.length
  · simp only [if_pos (show (a.length : Int) = (b.length : Int) by omega)] at e
    have h := eq_loop (z := ((bs []), (0, (0, (0, 0)))) ) (L := fun k j a b i => slices_Equal_RopeNode_RopeNode_L4 k j a b (a.length : Int) i) (one := fun k x y => some (decide (x = y))) (fun k j a b i => by
      show slices_Equal_RopeNode_RopeNode_L4 k (j + 1) a b (a.length : Int) i = _
      rw [slices_Equal_RopeNode_RopeNode_L4.eq, same_dec]
      rfl) (fun x y => Ev.now _) a b (by omega) c
    exact Ev.step e h.ev
  · simp only [if_neg (show ¬ (a.length : Int) = (b.length : Int) by omega)] at e
    rw [show decide (a = b) = false by simp; intro h; exact c (congrArg List.length h)]
    exact Ev.ret e
theorem own_loop (t : ByteArray) (ms : List T_sib) (v : Int) (o r : List T_siiii) (ho : o.length ≤ 1048576) (hv : Ev (fun k => spec_RopeFault_L13 k k t 0 r ms) v) : ∀ s1 s2 pre : List T_siiii, o = pre ++ s1 → r = pre ++ s2 → s1.length = s2.length →
    Ev2 (fun k j => spec_RopeFault_L8 k j t (pre.length : Int) r ms o) (brB (decide (s1 = s2)) v 1) := by
  intro s1
  induction s1 with
  | nil =>
    intro s2 pre h1 h2 h3
    obtain rfl : s2 = [] := List.eq_nil_of_length_eq_zero h3.symm
    have e := fun k j => spec_RopeFault_L8.eq t (pre.length : Int) r ms o k j
    simp only [W, W1, W2] at e
    rw [show decide (([] : List T_siiii) = []) = true by simp]
    refine Ev2.step (f := fun k j => spec_RopeFault_L13 k k t 0 r ms) (fun k j => ?_) hv.two
    rw [e, if_neg (show ¬ (pre.length : Int) < (o.length : Int) by rw [h1]; exact end_nlt pre)]
  | cons x s1 ih =>
    intro s2 pre h1 h2 h3
    cases s2 with
    | nil => simp at h3
    | cons y s2 =>
      have hlo : pre.length + 1 ≤ o.length := by rw [h1, List.length_append, List.length_cons]; omega
      have hlr : pre.length + 1 ≤ r.length := by rw [h2, List.length_append, List.length_cons]; omega
      have e := fun k j => spec_RopeFault_L8.eq t (pre.length : Int) r ms o k j
      have hx : rd o (pre.length : Int) (bs [], (0, (0, (0, 0)))) = x := by rw [h1]; exact rd_mid pre s1 x _
      have hy : rd r (pre.length : Int) (bs [], (0, (0, (0, 0)))) = y := by rw [h2]; exact rd_mid pre s2 y _
      simp only [hx, hy, same_dec] at e
      simp only [W, W1, W2, W3, if_pos (show (pre.length : Int) < (o.length : Int) by omega), if_pos (show (pre.length : Int) < (r.length : Int) by omega), if_pos (nat_ge _), next_i pre x (by omega)] at e
      by_cases c : x = y
      · subst c
        simp only [if_true] at e
        rw [show decide (x :: s1 = x :: s2) = decide (s1 = s2) by simp]
        exact Ev2.step e (ih s2 (pre ++ [x]) (by rw [h1]; simp) (by rw [h2]; simp) (by simpa using h3))
      · simp only [if_neg c] at e
        rw [show decide (x :: s1 = y :: s2) = false by simp [c]]
        exact Ev2.ret e
/-! ### ropes that are right -/
noncomputable def good (r : List T_siiii) (ms : List T_sib) : Bool := decide ((textOf r).size ≤ 65536) && (decide (ms.length ≤ 100) && (decide (treeOf (textOf r) = r) && mFrom (textOf r).size none ms))
noncomputable def faultOf (r : List T_siiii) (ms : List T_sib) : Int := brB (good r ms) 0 1
structure Fits (r : List T_siiii) (ms : List T_sib) : Prop where
  l1 : r.length ≤ 1048576
  l2 : ms.length ≤ 1048576
  t : (textOf r).size ≤ 1048576
  m : ∀ m ∈ ms, m.1.size ≤ 1048576
theorem specFault {r : List T_siiii} {ms : List T_sib} (h : Fits r ms) : Ev (fun k => spec_RopeFault k r ms) (faultOf r ms) := by
  have e := fun k => spec_RopeFault.eq r ms k
  simp only [W, W1, W2, W3] at e
  refine Ev.step e (Ev.bind (specText r h.l1 h.t) ?_)
  unfold faultOf good
  generalize textOf r = t
  by_cases c1 : t.size ≤ 65536
  case neg => rw [decide_eq_false c1]; simp only [if_pos (show (65536 : Int) < (t.size : Int) by omega), Bool.false_and, W1]; exact Ev.now _
  by_cases c2 : ms.length ≤ 100
  case neg => rw [decide_eq_false c2]; simp only [if_neg (show ¬ (65536 : Int) < (t.size : Int) by omega), if_pos (show (100 : Int) < (ms.length : Int) by omega), Bool.false_and, Bool.and_false, W1]; exact Ev.now _
  simp only [if_neg (show ¬ (65536 : Int) < (t.size : Int) by omega), if_neg (show ¬ (100 : Int) < (ms.length : Int) by omega), decide_eq_true c1, decide_eq_true c2, Bool.true_and]
  refine Ev.bind (specTree t c1) ?_
  have hlen := treeOf_len t c1
  generalize treeOf t = o at *
  by_cases c3 : o.length = r.length
  · simp only [if_pos (show (o.length : Int) = (r.length : Int) by omega)]
    have hm := (specMarks_loop t r ms h.l2 (fun m hm => by have := h.m m hm; omega) ms [] rfl).ev
    have ho := (own_loop t ms _ o r hlen hm o r [] rfl rfl c3).ev
    by_cases c4 : o = r
    · rw [decide_eq_true c4] at ho ⊢
      simpa [prev, W1] using ho
    · rw [decide_eq_false c4] at ho ⊢
      simpa [W1] using ho
  · simp only [if_neg (show ¬ (o.length : Int) = (r.length : Int) by omega)]
    rw [show decide (o = r) = false by simp; intro h; exact c3 (congrArg List.length h)]
    simp only [Bool.false_and, W1]
    exact Ev.now _
theorem implFault {r : List T_siiii} {ms : List T_sib} (h : Fits r ms) : Ev (fun k => impl_RopeFault k r ms) (faultOf r ms) := by
  have e := fun k => impl_RopeFault.eq r ms k
  simp only [W, W1, W2, W3] at e
  refine Ev.step e (Ev.bind (implText r ms h.l1 h.t) ?_)
  have hlong : Ev (fun k => impl_long k (textOf r)) (decide ((65536 : Int) < ((textOf r).size : Int))) := Ev.ret fun k => by simp only [impl_long.eq, W]
  refine Ev.bind hlong ?_
  unfold faultOf good
  generalize textOf r = t
  by_cases c1 : t.size ≤ 65536
  case neg => rw [decide_eq_false c1]; simp only [W1, if_pos (show (65536 : Int) < (t.size : Int) by omega), Bool.false_and]; exact Ev.now _
  simp only [W1, if_neg (show ¬ (65536 : Int) < (t.size : Int) by omega), decide_eq_true c1, Bool.true_and]
  refine Ev.bind (implMarks t.size ms h.l2 (fun m hm => by have := h.m m hm; omega)) ?_
  by_cases c2 : ms.length ≤ 100
  case neg => rw [decide_eq_false c2]; simp only [Bool.false_and, Bool.and_false, W1]; exact Ev.now _
  simp only [decide_eq_true c2, Bool.and_true, Bool.true_and]
  cases mFrom t.size none ms with
  | false => simp only [W1, Bool.and_false]; exact Ev.now _
  | true =>
    simp only [W1, Bool.and_true]
    refine Ev.bind (implTree t [] c1) (Ev.bind (equalNodes (treeOf t) r (treeOf_len t c1)) ?_)
    by_cases c3 : treeOf t = r
    · simp only [W1, if_pos c3]; exact Ev.now _
    · simp only [W1, if_neg c3]; exact Ev.now _
theorem fault_cases (r : List T_siiii) (ms : List T_sib) : (good r ms = true ∧ faultOf r ms = 0) ∨ (good r ms = false ∧ faultOf r ms = 1) := by
  unfold faultOf
  cases good r ms with
  | true => exact .inl ⟨rfl, rfl⟩
  | false => exact .inr ⟨rfl, rfl⟩
theorem good_size {r : List T_siiii} {ms : List T_sib} (h : good r ms = true) : (textOf r).size ≤ 65536 := by
  simp only [good, Bool.and_eq_true, decide_eq_true_eq] at h
  exact h.1
end Go.Proofs.YtfbhkkedmfbgbaaDoor.PM
