/- Undo and Redo, plainly: how far the program and the reference go back or on. -/
import Derived.Test.YtjgcpfdgneeleaaPDoS
namespace Go.Proofs.Ytjgcpfdgneeleaa.UN
open Go.Eng Go.RowKit
set_option linter.unusedVariables false
set_option linter.unusedSimpArgs false
def grp (l : List T_issi) (n : Nat) : Int := (rd l (n : Int) (0, ((bs []), ((bs []), 0)))).2.2.2
def back (l : List T_issi) (g : Int) : Nat → Nat
  | 0 => 0
  | n + 1 => if grp l n = g then back l g n else n + 1
def backTo (l : List T_issi) (g : Int) (n : Nat) : Nat := if 0 < g then back l g n else n
def fore (l : List T_issi) (g : Int) : Nat → Nat → Nat
  | 0, n => n
  | f + 1, n => if grp l n = g then fore l g f (n + 1) else n
def foreTo (l : List T_issi) (g : Int) (n : Nat) : Nat := if 0 < g then fore l g (l.length - n) n else n
theorem back_le (l : List T_issi) (g : Int) : ∀ n, back l g n ≤ n := by
  intro n
  induction n with
  | zero => exact Nat.le_refl _
  | succ n ih => simp only [back]; split <;> omega
theorem backTo_le (l : List T_issi) (g : Int) (n : Nat) : backTo l g n ≤ n := by
  unfold backTo
  split
  · exact back_le l g n
  · exact Nat.le_refl _
theorem back_same (l : List T_issi) (g : Int) : ∀ n i, back l g n ≤ i → i < n → grp l i = g := by
  intro n
  induction n with
  | zero => intro i _ h; omega
  | succ n ih =>
    intro i h1 h2
    simp only [back] at h1
    by_cases c : grp l n = g
    · rw [if_pos c] at h1
      rcases Nat.lt_or_ge i n with h3 | h3
      · exact ih i h1 h3
      · have : i = n := by omega
        subst this; exact c
    · rw [if_neg c] at h1; omega
theorem fore_bounds (l : List T_issi) (g : Int) : ∀ f n, n ≤ fore l g f n ∧ fore l g f n ≤ n + f := by
  intro f
  induction f with
  | zero => intro n; exact ⟨Nat.le_refl _, Nat.le_refl _⟩
  | succ f ih =>
    intro n
    simp only [fore]
    have := ih (n + 1)
    split <;> omega
theorem foreTo_le (l : List T_issi) (g : Int) (n : Nat) (h : n ≤ l.length) : foreTo l g n ≤ l.length := by
  unfold foreTo
  split
  · have := fore_bounds l g (l.length - n) n; omega
  · exact h
theorem fore_all (l : List T_issi) (g : Int) : ∀ f n, (∀ i, n ≤ i → i < n + f → grp l i = g) → fore l g f n = n + f := by
  intro f
  induction f with
  | zero => intro n _; rfl
  | succ f ih =>
    intro n h
    simp only [fore]
    rw [if_pos (h n (Nat.le_refl _) (by omega)), ih (n + 1) (fun i h1 h2 => h i (by omega) (by omega))]
    omega
/-- what is taken back from the end is done again up to the end -/
theorem redo_undo (l : List T_issi) (n : Nat) (h : l.length = n + 1) : foreTo l (grp l (backTo l (grp l n) n)) (backTo l (grp l n) n + 1) = l.length := by
  have hle := backTo_le l (grp l n) n
  by_cases c : 0 < grp l n
  · have e : backTo l (grp l n) n = back l (grp l n) n := by unfold backTo; rw [if_pos c]
    have hall : ∀ i, back l (grp l n) n ≤ i → i < n + 1 → grp l i = grp l n := fun i h1 h2 => by
      rcases Nat.lt_or_ge i n with h3 | h3
      · exact back_same l _ n i h1 h3
      · have : i = n := by omega
        subst this; rfl
    rw [e] at hle ⊢
    rw [hall _ (Nat.le_refl _) (by omega)]
    unfold foreTo
    rw [if_pos c, fore_all l (grp l n) _ _ (fun i h1 h2 => hall i (by omega) (by omega))]
    omega
  · have e : backTo l (grp l n) n = n := by unfold backTo; rw [if_neg c]
    rw [e]
    unfold foreTo
    rw [if_neg c, h]
/-! ### the program -/
theorem rd_grp (l : List T_issi) (n : Nat) : (rd l (n : Int) (0, ((bs []), ((bs []), 0)))).2.2.2 = grp l n := rfl
theorem implUndo_loop (r : List ByteArray) (b : ByteArray) (l : List T_issi) (d g x x2 : Int) (x1 x3 : ByteArray) (nl : Bool) (hl : l.length ≤ 1048576) (hr : r.length = l.length + 1) : ∀ n : Nat, n ≤ l.length →
    Ev2 (fun k j => impl_Undo_L9 k j (n : Int) g b l d x x1 x2 x3 nl r) (0, b, l, (backTo l g n : Int), rd r (backTo l g n : Int) (bs [])) := by
  intro n
  induction n with
  | zero =>
    intro hn
    have e : backTo l g 0 = 0 := by unfold backTo; split <;> rfl
    rw [e]
    have e := fun k j => impl_Undo_L9.eq ((0 : Nat) : Int) g b l d x x1 x2 x3 nl r k j
    simp only [W, W1, W2, W3, if_neg (show ¬ (0 : Int) < ((0 : Nat) : Int) by omega), if_pos (show (0 : Int) ≤ ((0 : Nat) : Int) by omega), if_pos (show ((0 : Nat) : Int) < (r.length : Int) by omega)] at e
    have hc := clone_ev l hl
    refine Ev2.step e ?_
    by_cases c : 0 < g
    · simp only [if_pos c]; exact Ev2.bind hc (Ev2.now _)
    · simp only [if_neg c]; exact Ev2.bind hc (Ev2.now _)
  | succ n ih =>
    intro hn
    have hsub : subI .i64 ((n + 1 : Nat) : Int) 1 = (n : Int) := by rw [subI_i64 (by omega) (by omega)]; omega
    have e := fun k j => impl_Undo_L9.eq ((n + 1 : Nat) : Int) g b l d x x1 x2 x3 nl r k j
    simp only [W, W1, W2, W3, hsub, rd_grp, if_pos (show (0 : Int) < ((n + 1 : Nat) : Int) by omega), if_pos (show (0 : Int) ≤ ((n + 1 : Nat) : Int) by omega), if_pos (show ((n + 1 : Nat) : Int) < (r.length : Int) by omega), if_pos (nat_ge n), if_pos (show (n : Int) < (l.length : Int) by omega)] at e
    have hc := clone_ev l hl
    by_cases c : 0 < g
    · by_cases c2 : grp l n = g
      · have e1 : backTo l g (n + 1) = backTo l g n := by unfold backTo; rw [if_pos c, if_pos c]; simp only [back, if_pos c2]
        rw [e1]
        refine Ev2.step e ?_
        simp only [if_pos c, if_pos c2]
        exact ih (by omega)
      · have e1 : backTo l g (n + 1) = n + 1 := by unfold backTo; rw [if_pos c]; simp only [back, if_neg c2]
        rw [e1]
        refine Ev2.step e ?_
        simp only [if_pos c, if_neg c2]
        exact Ev2.bind hc (Ev2.now _)
    · have e1 : backTo l g (n + 1) = n + 1 := by unfold backTo; rw [if_neg c]
      rw [e1]
      refine Ev2.step e ?_
      simp only [if_neg c]
      exact Ev2.bind hc (Ev2.now _)
theorem implRedo_loop (r : List ByteArray) (b : ByteArray) (l : List T_issi) (d g x x2 : Int) (x1 x3 : ByteArray) (nl : Bool) (hl : l.length ≤ 1048576) (hr : r.length = l.length + 1) : ∀ (f n : Nat), n + f = l.length →
    Ev2 (fun k j => impl_Redo_L9 k j (n : Int) g b l d x x1 x2 x3 nl r) (0, b, l, (foreTo l g n : Int), rd r (foreTo l g n : Int) (bs [])) := by
  intro f
  induction f with
  | zero =>
    intro n hn
    have e1 : foreTo l g n = n := by unfold foreTo; rw [show l.length - n = 0 by omega]; split <;> rfl
    rw [e1]
    have e := fun k j => impl_Redo_L9.eq (n : Int) g b l d x x1 x2 x3 nl r k j
    simp only [W, W1, W2, W3, if_neg (show ¬ (n : Int) < (l.length : Int) by omega), if_pos (nat_ge n), if_pos (show (n : Int) < (r.length : Int) by omega)] at e
    have hc := clone_ev l hl
    refine Ev2.step e ?_
    by_cases c : 0 < g
    · simp only [if_pos c]; exact Ev2.bind hc (Ev2.now _)
    · simp only [if_neg c]; exact Ev2.bind hc (Ev2.now _)
  | succ f ih =>
    intro n hn
    have hadd : addI .i64 (n : Int) 1 = ((n + 1 : Nat) : Int) := by rw [addI_i64 (by omega) (by omega)]; omega
    have e := fun k j => impl_Redo_L9.eq (n : Int) g b l d x x1 x2 x3 nl r k j
    simp only [W, W1, W2, W3, hadd, rd_grp, if_pos (show (n : Int) < (l.length : Int) by omega), if_pos (nat_ge n), if_pos (show (n : Int) < (r.length : Int) by omega)] at e
    have hc := clone_ev l hl
    have e2 : l.length - n = (l.length - (n + 1)) + 1 := by omega
    by_cases c : 0 < g
    · by_cases c2 : grp l n = g
      · have e1 : foreTo l g n = foreTo l g (n + 1) := by unfold foreTo; rw [if_pos c, if_pos c, e2]; simp only [fore, if_pos c2]
        rw [e1]
        refine Ev2.step e ?_
        simp only [if_pos c, if_pos c2]
        exact ih (n + 1) (by omega)
      · have e1 : foreTo l g n = n := by unfold foreTo; rw [if_pos c, e2]; simp only [fore, if_neg c2]
        rw [e1]
        refine Ev2.step e ?_
        simp only [if_pos c, if_neg c2]
        exact Ev2.bind hc (Ev2.now _)
    · have e1 : foreTo l g n = n := by unfold foreTo; rw [if_neg c]
      rw [e1]
      refine Ev2.step e ?_
      simp only [if_neg c]
      exact Ev2.bind hc (Ev2.now _)
/-- the text behind so many steps -/
noncomputable def txt (b : ByteArray) (l : List T_issi) (n : Nat) : ByteArray := (run b (l.take n)).getD (bs [])
theorem txt_some {b : ByteArray} {l : List T_issi} {n : Nat} {u : ByteArray} (h : run b (l.take n) = some u) : txt b l n = u := by unfold txt; rw [h]; rfl
theorem valid_at {b : ByteArray} {l : List T_issi} {d : Int} (hv : valid b l d = true) : ∃ r, textsOf b l d = (r, false) ∧ r.length = l.length + 1 ∧ b.size ≤ 65536 ∧ l.length ≤ 300 ∧ ∀ n, n ≤ l.length → run b (l.take n) = some (txt b l n) ∧ rd r (n : Int) (bs []) = txt b l n := by
  obtain ⟨r, hr, ht, hlen, hb, hd0, hd1, hl3⟩ := valid_scan b l d hv
  refine ⟨r, ht, hlen, hb, hl3, fun n hn => ?_⟩
  obtain ⟨u, h1, h2⟩ := scan_at l b r n hr hn
  rw [txt_some h2]
  exact ⟨h2, rd_at _ h1⟩
def none5 : Out := (5, bs [], [], 0, bs [])
theorem implUndo_zero {b : ByteArray} {l : List T_issi} (hv : valid b l 0 = true) (hl : l.length ≤ 1048576) (hs : ∀ x ∈ l, Small x) : Ev (fun k => impl_Undo k b l 0) none5 := by
  obtain ⟨r, ht, hr, hb, hl3, hat⟩ := valid_at hv
  have h2 := texts_ev b l 0 hl hs
  rw [ht] at h2
  have e := fun k => impl_Undo.eq b l 0 k
  simp only [W, W1, W2, W3] at e
  refine Ev.step e (Ev.bind h2 ?_)
  simp only [W1, if_true]
  exact Ev.now _
theorem implUndo_succ {b : ByteArray} {l : List T_issi} {n : Nat} (hv : valid b l ((n + 1 : Nat) : Int) = true) (hl : l.length ≤ 1048576) (hs : ∀ x ∈ l, Small x) (hn : n < l.length) :
    Ev (fun k => impl_Undo k b l ((n + 1 : Nat) : Int)) (0, b, l, (backTo l (grp l n) n : Int), txt b l (backTo l (grp l n) n)) := by
  obtain ⟨r, ht, hr, hb, hl3, hat⟩ := valid_at hv
  have h2 := texts_ev b l ((n + 1 : Nat) : Int) hl hs
  rw [ht] at h2
  have hsub : subI .i64 ((n + 1 : Nat) : Int) 1 = (n : Int) := by rw [subI_i64 (by omega) (by omega)]; omega
  have e := fun k => impl_Undo.eq b l ((n + 1 : Nat) : Int) k
  simp only [W, W1, W2, W3, hsub, rd_grp, if_neg (show ¬ ((n + 1 : Nat) : Int) = 0 by omega), if_pos (nat_ge n), if_pos (show (n : Int) < (l.length : Int) by omega)] at e
  refine Ev.step e (Ev.bind h2 ?_)
  simp only [W1]
  have h := implUndo_loop r b l ((n + 1 : Nat) : Int) (grp l n) 0 0 (bs []) (bs []) false hl hr n (by omega)
  rw [(hat _ (by have := backTo_le l (grp l n) n; omega)).2] at h
  exact h.ev
theorem implRedo_next {b : ByteArray} {l : List T_issi} {n : Nat} (hv : valid b l (n : Int) = true) (hl : l.length ≤ 1048576) (hs : ∀ x ∈ l, Small x) (hn : n < l.length) :
    Ev (fun k => impl_Redo k b l (n : Int)) (0, b, l, (foreTo l (grp l n) (n + 1) : Int), txt b l (foreTo l (grp l n) (n + 1))) := by
  obtain ⟨r, ht, hr, hb, hl3, hat⟩ := valid_at hv
  have h2 := texts_ev b l (n : Int) hl hs
  rw [ht] at h2
  have hadd : addI .i64 (n : Int) 1 = ((n + 1 : Nat) : Int) := by rw [addI_i64 (by omega) (by omega)]; omega
  have e := fun k => impl_Redo.eq b l (n : Int) k
  simp only [W, W1, W2, W3, hadd, rd_grp, if_neg (show ¬ (n : Int) = (l.length : Int) by omega), if_pos (nat_ge n), if_pos (show (n : Int) < (l.length : Int) by omega)] at e
  refine Ev.step e (Ev.bind h2 ?_)
  simp only [W1]
  have h := implRedo_loop r b l (n : Int) (grp l n) 0 0 (bs []) (bs []) false hl hr (l.length - (n + 1)) (n + 1) (by omega)
  rw [(hat _ (foreTo_le l (grp l n) (n + 1) (by omega))).2] at h
  exact h.ev
/-! ### the reference -/
theorem specBack_loop (b : ByteArray) (l : List T_issi) (g x2 : Int) (x1 : ByteArray) (hl : l.length ≤ 1048576) : ∀ n : Nat, n ≤ l.length →
    Ev2 (fun k j => spec_l21Move_L7 k j (-1) g b (n : Int) l x1 x2) ((b, l, (backTo l g n : Int)), true) := by
  intro n
  induction n with
  | zero =>
    intro hn
    have e1 : backTo l g 0 = 0 := by unfold backTo; split <;> rfl
    rw [e1]
    have e := fun k j => spec_l21Move_L7.eq (-1) g b ((0 : Nat) : Int) l x1 x2 k j
    have e2 := fun k => spec_l21Next.eq ((0 : Nat) : Int) (-1) k
    have hsub : subI .i64 ((0 : Nat) : Int) 1 = -1 := by rw [subI_i64 (by omega) (by omega)]; omega
    simp only [W, W1, W2, W3, hsub, if_pos (show (-1 : Int) < 0 by omega)] at e e2
    refine Ev2.step e ?_
    by_cases c : 0 < g
    · simp only [if_pos c]
      refine Ev2.bind (Ev.ret e2) ?_
      simp only [if_pos (show (-1 : Int) < 0 by omega)]
      exact Ev2.now _
    · simp only [if_neg c]; exact Ev2.now _
  | succ n ih =>
    intro hn
    have e := fun k j => spec_l21Move_L7.eq (-1) g b ((n + 1 : Nat) : Int) l x1 x2 k j
    have e2 := fun k => spec_l21Next.eq ((n + 1 : Nat) : Int) (-1) k
    have hsub : subI .i64 ((n + 1 : Nat) : Int) 1 = (n : Int) := by rw [subI_i64 (by omega) (by omega)]; omega
    have hadd : addI .i64 ((n + 1 : Nat) : Int) (-1) = (n : Int) := by rw [addI_i64 (by omega) (by omega)]; omega
    simp only [W, W1, W2, W3, hsub, hadd, if_pos (show (-1 : Int) < 0 by omega)] at e e2
    refine Ev2.step e ?_
    by_cases c : 0 < g
    · simp only [if_pos c]
      refine Ev2.bind (Ev.ret e2) ?_
      simp only [if_neg (show ¬ (n : Int) < 0 by omega), if_neg (show ¬ (l.length : Int) ≤ (n : Int) by omega), if_pos (nat_ge n), if_pos (show (n : Int) < (l.length : Int) by omega)]
      by_cases c2 : grp l n = g
      · have e1 : backTo l g (n + 1) = backTo l g n := by unfold backTo; rw [if_pos c, if_pos c]; simp only [back, if_pos c2]
        rw [e1]
        simp only [if_pos (show (rd l (n : Int) (0, ((bs []), ((bs []), 0)))).2.2.2 = g from c2)]
        exact ih (by omega)
      · have e1 : backTo l g (n + 1) = n + 1 := by unfold backTo; rw [if_pos c]; simp only [back, if_neg c2]
        rw [e1]
        simp only [if_neg (show ¬ (rd l (n : Int) (0, ((bs []), ((bs []), 0)))).2.2.2 = g from c2)]
        exact Ev2.now _
    · have e1 : backTo l g (n + 1) = n + 1 := by unfold backTo; rw [if_neg c]
      rw [e1]
      simp only [if_neg c]; exact Ev2.now _
theorem specFore_loop (b : ByteArray) (l : List T_issi) (g x2 : Int) (x1 : ByteArray) (hl : l.length ≤ 1048576) : ∀ (f n : Nat), n + f = l.length →
    Ev2 (fun k j => spec_l21Move_L7 k j 1 g b (n : Int) l x1 x2) ((b, l, (foreTo l g n : Int)), true) := by
  intro f
  induction f with
  | zero =>
    intro n hn
    have e1 : foreTo l g n = n := by unfold foreTo; rw [show l.length - n = 0 by omega]; split <;> rfl
    rw [e1]
    have e := fun k j => spec_l21Move_L7.eq 1 g b (n : Int) l x1 x2 k j
    have e2 := fun k => spec_l21Next.eq (n : Int) 1 k
    simp only [W, W1, W2, W3, if_neg (show ¬ (1 : Int) < 0 by omega)] at e e2
    refine Ev2.step e ?_
    by_cases c : 0 < g
    · simp only [if_pos c]
      refine Ev2.bind (Ev.ret e2) ?_
      simp only [if_neg (show ¬ (n : Int) < 0 by omega), if_pos (show (l.length : Int) ≤ (n : Int) by omega)]
      exact Ev2.now _
    · simp only [if_neg c]; exact Ev2.now _
  | succ f ih =>
    intro n hn
    have e := fun k j => spec_l21Move_L7.eq 1 g b (n : Int) l x1 x2 k j
    have e2 := fun k => spec_l21Next.eq (n : Int) 1 k
    have hadd : addI .i64 (n : Int) 1 = ((n + 1 : Nat) : Int) := by rw [addI_i64 (by omega) (by omega)]; omega
    have e3 : l.length - n = (l.length - (n + 1)) + 1 := by omega
    simp only [W, W1, W2, W3, hadd, if_neg (show ¬ (1 : Int) < 0 by omega)] at e e2
    refine Ev2.step e ?_
    by_cases c : 0 < g
    · simp only [if_pos c]
      refine Ev2.bind (Ev.ret e2) ?_
      simp only [if_neg (show ¬ (n : Int) < 0 by omega), if_neg (show ¬ (l.length : Int) ≤ (n : Int) by omega), if_pos (nat_ge n), if_pos (show (n : Int) < (l.length : Int) by omega)]
      by_cases c2 : grp l n = g
      · have e1 : foreTo l g n = foreTo l g (n + 1) := by unfold foreTo; rw [if_pos c, if_pos c, e3]; simp only [fore, if_pos c2]
        rw [e1]
        simp only [if_pos (show (rd l (n : Int) (0, ((bs []), ((bs []), 0)))).2.2.2 = g from c2)]
        exact ih (n + 1) (by omega)
      · have e1 : foreTo l g n = n := by unfold foreTo; rw [if_pos c, e3]; simp only [fore, if_neg c2]
        rw [e1]
        simp only [if_neg (show ¬ (rd l (n : Int) (0, ((bs []), ((bs []), 0)))).2.2.2 = g from c2)]
        exact Ev2.now _
    · have e1 : foreTo l g n = n := by unfold foreTo; rw [if_neg c]
      rw [e1]
      simp only [if_neg c]; exact Ev2.now _
theorem move_back (b : ByteArray) (l : List T_issi) (hl : l.length ≤ 1048576) (n : Nat) (hn : n < l.length) : Ev (fun k => spec_l21Move k b l ((n + 1 : Nat) : Int) (-1)) ((b, l, (backTo l (grp l n) n : Int)), true) := by
  have e := fun k => spec_l21Move.eq b l ((n + 1 : Nat) : Int) (-1) k
  have e2 := fun k => spec_l21Next.eq ((n + 1 : Nat) : Int) (-1) k
  have hsub : subI .i64 ((n + 1 : Nat) : Int) 1 = (n : Int) := by rw [subI_i64 (by omega) (by omega)]; omega
  have hadd : addI .i64 ((n + 1 : Nat) : Int) (-1) = (n : Int) := by rw [addI_i64 (by omega) (by omega)]; omega
  simp only [W, W1, W2, W3, hsub, hadd, List.nil_append, List.length_nil, if_pos (show (-1 : Int) < 0 by omega), if_pos (show (((0 : Nat) : Int) + (l.length : Int)) * 48 < 140737488355328 by omega)] at e e2
  refine Ev.step e (Ev.bind (Ev.ret e2) ?_)
  simp only [if_neg (show ¬ (n : Int) < 0 by omega), if_neg (show ¬ (l.length : Int) ≤ (n : Int) by omega), if_pos (nat_ge n), if_pos (show (n : Int) < (l.length : Int) by omega), rd_grp]
  exact (specBack_loop b l (grp l n) 0 (bs []) hl n (by omega)).ev
theorem move_back0 (b : ByteArray) (l : List T_issi) (hl : l.length ≤ 1048576) : Ev (fun k => spec_l21Move k b l 0 (-1)) ((b, l, 0), false) := by
  have e := fun k => spec_l21Move.eq b l 0 (-1) k
  have e2 := fun k => spec_l21Next.eq 0 (-1) k
  have hsub : subI .i64 0 1 = -1 := by rw [subI_i64 (by omega) (by omega)]; omega
  simp only [W, W1, W2, W3, hsub, List.nil_append, List.length_nil, if_pos (show (-1 : Int) < 0 by omega), if_pos (show (((0 : Nat) : Int) + (l.length : Int)) * 48 < 140737488355328 by omega)] at e e2
  refine Ev.step e (Ev.bind (Ev.ret e2) ?_)
  simp only [if_pos (show (-1 : Int) < 0 by omega)]
  exact Ev.now _
theorem move_fore (b : ByteArray) (l : List T_issi) (hl : l.length ≤ 1048576) (n : Nat) (hn : n < l.length) : Ev (fun k => spec_l21Move k b l (n : Int) 1) ((b, l, (foreTo l (grp l n) (n + 1) : Int)), true) := by
  have e := fun k => spec_l21Move.eq b l (n : Int) 1 k
  have e2 := fun k => spec_l21Next.eq (n : Int) 1 k
  have hadd : addI .i64 (n : Int) 1 = ((n + 1 : Nat) : Int) := by rw [addI_i64 (by omega) (by omega)]; omega
  simp only [W, W1, W2, W3, hadd, List.nil_append, List.length_nil, if_neg (show ¬ (1 : Int) < 0 by omega), if_pos (show (((0 : Nat) : Int) + (l.length : Int)) * 48 < 140737488355328 by omega)] at e e2
  refine Ev.step e (Ev.bind (Ev.ret e2) ?_)
  simp only [if_neg (show ¬ (n : Int) < 0 by omega), if_neg (show ¬ (l.length : Int) ≤ (n : Int) by omega), if_pos (nat_ge n), if_pos (show (n : Int) < (l.length : Int) by omega), rd_grp]
  exact (specFore_loop b l (grp l n) 0 (bs []) hl (l.length - (n + 1)) (n + 1) (by omega)).ev
theorem move_fore0 (b : ByteArray) (l : List T_issi) (hl : l.length ≤ 1048576) : Ev (fun k => spec_l21Move k b l (l.length : Int) 1) ((b, l, (l.length : Int)), false) := by
  have e := fun k => spec_l21Move.eq b l (l.length : Int) 1 k
  have e2 := fun k => spec_l21Next.eq (l.length : Int) 1 k
  simp only [W, W1, W2, W3, List.nil_append, List.length_nil, if_neg (show ¬ (1 : Int) < 0 by omega), if_pos (show (((0 : Nat) : Int) + (l.length : Int)) * 48 < 140737488355328 by omega)] at e e2
  refine Ev.step e (Ev.bind (Ev.ret e2) ?_)
  simp only [if_neg (show ¬ (l.length : Int) < 0 by omega), if_pos (Int.le_refl _)]
  exact Ev.now _
theorem specUndo_succ {b : ByteArray} {l : List T_issi} {n : Nat} (hv : valid b l ((n + 1 : Nat) : Int) = true) (hl : l.length ≤ 1048576) (hs : ∀ x ∈ l, Small x) (hn : n < l.length) :
    Ev (fun k => spec_Undo k b l ((n + 1 : Nat) : Int)) (0, b, l, (backTo l (grp l n) n : Int), txt b l (backTo l (grp l n) n)) := by
  obtain ⟨r, ht, hr, hb, hl3, hat⟩ := valid_at hv
  have h1 := specFault_ev b l ((n + 1 : Nat) : Int) hl hs
  rw [if_pos hv] at h1
  have hm := backTo_le l (grp l n) n
  obtain ⟨t', h3, h4⟩ := text_ev b l (backTo l (grp l n) n : Int) (backTo l (grp l n) n) hl (by omega) hs
  have e4 := h4 _ hb (hat _ (by omega)).1
  subst e4
  have e := fun k => spec_Undo.eq b l ((n + 1 : Nat) : Int) k
  have eG := fun k => spec_l21Go.eq b l ((n + 1 : Nat) : Int) (-1) k
  have eO := fun k => spec_l21Out'1.eq b (backTo l (grp l n) n : Int) l k
  simp only [W, W1, W2, W3] at e eG eO
  refine Ev.step e (Ev.bind (a := (0, b, l, (backTo l (grp l n) n : Int), txt b l (backTo l (grp l n) n))) (Ev.step eG (Ev.bind h1 ?_)) (Ev.now _))
  simp only [if_true]
  refine Ev.bind (move_back b l hl n hn) ?_
  simp only [W1]
  exact Ev.bind (a := ((0, b, l, (backTo l (grp l n) n : Int), txt b l (backTo l (grp l n) n)), ())) (Ev.step eO (Ev.bind h3 (Ev.now _))) (Ev.now _)
end Go.Proofs.Ytjgcpfdgneeleaa.UN
