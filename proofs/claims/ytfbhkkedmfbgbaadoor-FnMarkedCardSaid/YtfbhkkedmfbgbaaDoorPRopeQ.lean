/- Ropes as a law hands them on, plainly: copied, held against each other, measured. -/
import Derived.Test.YtfbhkkedmfbgbaaDoorPFault
namespace Go.Proofs.YtfbhkkedmfbgbaaDoor.PM
open Go.Eng Go.RowKit
set_option linter.unusedVariables false
set_option linter.unusedSimpArgs false
theorem toNodes (r : List T_siiii) (h : r.length ≤ 1048576) : Ev (fun k => laws_toRopeNodeS k r) r := by
  have e := fun k => laws_toRopeNodeS.eq r k
  simp only [W, W1] at e
  simp only [W2, if_pos (nat_ge _), if_pos (Int.le_refl _), if_pos (show (r.length : Int) * 48 < 140737488355328 by omega)] at e
  have h1 := to_loop (z := ((bs [], (0, (0, (0, 0)))) : T_siiii)) (L := laws_toRopeNodeS_L3) (one := fun k x => laws_toRopeNode k x.1 x.2.1 x.2.2.1 x.2.2.2.1 x.2.2.2.2) (fun k j a i out => laws_toRopeNodeS_L3.eq a i out k j) r (fun x _ => Ev.ret fun k => laws_toRopeNode.eq x.1 x.2.1 x.2.2.1 x.2.2.2.1 x.2.2.2.2 k) (by omega)
  exact Ev.step e h1.ev
theorem toMarks (r : List T_sib) (h : r.length ≤ 1048576) : Ev (fun k => laws_toMarkS k r) r := by
  have e := fun k => laws_toMarkS.eq r k
  simp only [W, W1] at e
  simp only [W2, if_pos (nat_ge _), if_pos (Int.le_refl _), if_pos (show (r.length : Int) * 32 < 140737488355328 by omega)] at e
  have h1 := to_loop (z := ((bs [], (0, false)) : T_sib)) (L := laws_toMarkS_L3) (one := fun k x => laws_toMark k x.1 x.2.1 x.2.2) (fun k j a i out => laws_toMarkS_L3.eq a i out k j) r (fun x _ => Ev.ret fun k => laws_toMark.eq x.1 x.2.1 x.2.2 k) (by omega)
  exact Ev.step e h1.ev
theorem toRope {r : List T_siiii} {ms : List T_sib} (h : Fits r ms) : Ev (fun k => laws_toRope k r ms) (r, ms) :=
  Ev.step (fun k => laws_toRope.eq r ms k) (Ev.opt (toNodes r h.l1) (Ev.opt (toMarks ms h.l2) (Ev.now _)))
theorem eqNode (x y : T_siiii) : Ev (fun k => laws_eqRopeNode k x.1 x.2.1 x.2.2.1 x.2.2.2.1 x.2.2.2.2 y.1 y.2.1 y.2.2.1 y.2.2.2.1 y.2.2.2.2) (decide (x = y)) := by
  refine Ev.ret fun k => ?_
  rw [laws_eqRopeNode.eq, ← same_dec]
  simp only [W, W1, andB]
  repeat' split
  all_goals simp_all
theorem eqMark (x y : T_sib) : Ev (fun k => laws_eqMark k x.1 x.2.1 x.2.2 y.1 y.2.1 y.2.2) (decide (x = y)) := by
  refine Ev.ret fun k => ?_
  rw [laws_eqMark.eq]
  obtain ⟨a, b, c⟩ := x
  obtain ⟨a', b', c'⟩ := y
  simp only [W, W1, Prod.mk.injEq]
  by_cases h1 : a = a'
  · by_cases h2 : b = b'
    · cases c <;> cases c' <;> simp [h1, h2, brB]
    · simp [h1, h2]
  · simp [h1]
theorem eqNodes (a b : List T_siiii) (ha : a.length ≤ 1048576) : Ev (fun k => laws_eqRopeNodeS k a b) (decide (a = b)) := by
  have e := fun k => laws_eqRopeNodeS.eq a b k
  simp only [W, W1, W2] at e
  by_cases c : a.length = b.length
  · simp only [if_pos (show (a.length : Int) = (b.length : Int) by omega)] at e
    have h := eq_loop (z := ((bs [], (0, (0, (0, 0)))) : T_siiii)) (L := laws_eqRopeNodeS_L4) (one := fun k x y => laws_eqRopeNode k x.1 x.2.1 x.2.2.1 x.2.2.2.1 x.2.2.2.2 y.1 y.2.1 y.2.2.1 y.2.2.2.1 y.2.2.2.2) (fun k j a b i => laws_eqRopeNodeS_L4.eq a b i k j) eqNode a b (by omega) c
    exact Ev.step e h.ev
  · simp only [if_neg (show ¬ (a.length : Int) = (b.length : Int) by omega)] at e
    rw [show decide (a = b) = false by simp; intro h; exact c (congrArg List.length h)]
    exact Ev.ret e
theorem eqMarks (a b : List T_sib) (ha : a.length ≤ 1048576) : Ev (fun k => laws_eqMarkS k a b) (decide (a = b)) := by
  have e := fun k => laws_eqMarkS.eq a b k
  simp only [W, W1, W2] at e
  by_cases c : a.length = b.length
  · simp only [if_pos (show (a.length : Int) = (b.length : Int) by omega)] at e
    have h := eq_loop (z := ((bs [], (0, false)) : T_sib)) (L := laws_eqMarkS_L4) (one := fun k x y => laws_eqMark k x.1 x.2.1 x.2.2 y.1 y.2.1 y.2.2) (fun k j a b i => laws_eqMarkS_L4.eq a b i k j) eqMark a b (by omega) c
    exact Ev.step e h.ev
  · simp only [if_neg (show ¬ (a.length : Int) = (b.length : Int) by omega)] at e
    rw [show decide (a = b) = false by simp; intro h; exact c (congrArg List.length h)]
    exact Ev.ret e
theorem eqRope {r : List T_siiii} {ms : List T_sib} (h1 : r.length ≤ 1048576) (h2 : ms.length ≤ 1048576) : Ev (fun k => laws_eqRope k r ms r ms) true := by
  have e := fun k => laws_eqRope.eq r ms r ms k
  simp only [W3] at e
  refine Ev.step e (Ev.bind (eqNodes r r h1) ?_)
  rw [show decide (r = r) = true by simp]
  simp only [W, W1]
  refine Ev.bind (eqMarks ms ms h2) ?_
  rw [show decide (ms = ms) = true by simp]
  simp only [W, W1]
  exact Ev.now _
theorem szNode (x : T_siiii) (n : Nat) (hn : n ≤ 1048576) (hx : x.1.size ≤ maxLen) : Ev (fun k => laws_szRopeNode k x.1 x.2.1 x.2.2.1 x.2.2.2.1 x.2.2.2.2 (n : Int)) (if n < x.1.size then (-1 : Int) else ((n - x.1.size : Nat) : Int)) := by
  refine Ev.ret fun k => ?_
  unfold maxLen at hx
  rw [laws_szRopeNode.eq]
  simp only [W, W1, subI_i64 (show (-9223372036854775808 : Int) ≤ (n : Int) - (x.1.size : Int) by omega) (by omega)]
  by_cases c : n < x.1.size
  · rw [if_pos (by omega), if_pos c]
  · rw [if_neg (by omega), if_neg c]; congr 1; omega
theorem szMark (x : T_sib) (n : Nat) (hn : n ≤ 1048576) (hx : x.1.size ≤ maxLen) : Ev (fun k => laws_szMark k x.1 x.2.1 x.2.2 (n : Int)) (if n < x.1.size then (-1 : Int) else ((n - x.1.size : Nat) : Int)) := by
  refine Ev.ret fun k => ?_
  unfold maxLen at hx
  rw [laws_szMark.eq]
  simp only [W, W1, subI_i64 (show (-9223372036854775808 : Int) ≤ (n : Int) - (x.1.size : Int) by omega) (by omega)]
  by_cases c : n < x.1.size
  · rw [if_pos (by omega), if_pos c]
  · rw [if_neg (by omega), if_neg c]; congr 1; omega
def wNodes (r : List T_siiii) : Nat := r.length + wsum (fun x : T_siiii => x.1.size) r
def wMarks (r : List T_sib) : Nat := r.length + wsum (fun x : T_sib => x.1.size) r
theorem szNodes (r : List T_siiii) (n : Nat) (hn : n ≤ 1048576) (hl : r.length ≤ maxLen) (hx : ∀ x ∈ r, x.1.size ≤ maxLen) : Ev (fun k => laws_szRopeNodeS k r (n : Int)) (if n < wNodes r then (-1 : Int) else ((n - wNodes r : Nat) : Int)) := by
  have e := fun k => laws_szRopeNodeS.eq r (n : Int) k
  unfold maxLen at hl
  simp only [W, W1, W2, subI_i64 (show (-9223372036854775808 : Int) ≤ (n : Int) - (r.length : Int) by omega) (by omega)] at e
  unfold wNodes
  by_cases c : n < r.length
  · rw [if_pos (by omega)]
    simp only [if_pos (show (n : Int) - (r.length : Int) < 0 by omega)] at e
    exact Ev.ret e
  · have h := sz_loop (z := ((bs [], (0, (0, (0, 0)))) : T_siiii)) (L := laws_szRopeNodeS_L5) (one := fun k x n => laws_szRopeNode k x.1 x.2.1 x.2.2.1 x.2.2.2.1 x.2.2.2.2 n) (wt := fun x : T_siiii => x.1.size) (fun k j a left i => laws_szRopeNodeS_L5.eq a left i k j) r (fun x m hm hm2 => szNode x m hm2 (hx x hm)) (by omega) (n - r.length) (by omega)
    simp only [show (n : Int) - (r.length : Int) = ((n - r.length : Nat) : Int) by omega, if_neg (show ¬ ((n - r.length : Nat) : Int) < 0 by omega)] at e
    refine Ev.step e ?_
    generalize wsum (fun x : T_siiii => x.1.size) r = q at *
    rw [show (if n < r.length + q then (-1 : Int) else ((n - (r.length + q) : Nat) : Int)) = if n - r.length < q then (-1 : Int) else ((n - r.length - q : Nat) : Int) by
      by_cases c2 : n - r.length < q
      · rw [if_pos c2, if_pos (by omega)]
      · rw [if_neg c2, if_neg (by omega)]; omega]
    exact h.ev
theorem szMarks (r : List T_sib) (n : Nat) (hn : n ≤ 1048576) (hl : r.length ≤ maxLen) (hx : ∀ x ∈ r, x.1.size ≤ maxLen) : Ev (fun k => laws_szMarkS k r (n : Int)) (if n < wMarks r then (-1 : Int) else ((n - wMarks r : Nat) : Int)) := by
  have e := fun k => laws_szMarkS.eq r (n : Int) k
  unfold maxLen at hl
  simp only [W, W1, W2, subI_i64 (show (-9223372036854775808 : Int) ≤ (n : Int) - (r.length : Int) by omega) (by omega)] at e
  unfold wMarks
  by_cases c : n < r.length
  · rw [if_pos (by omega)]
    simp only [if_pos (show (n : Int) - (r.length : Int) < 0 by omega)] at e
    exact Ev.ret e
  · have h := sz_loop (z := ((bs [], (0, false)) : T_sib)) (L := laws_szMarkS_L5) (one := fun k x n => laws_szMark k x.1 x.2.1 x.2.2 n) (wt := fun x : T_sib => x.1.size) (fun k j a left i => laws_szMarkS_L5.eq a left i k j) r (fun x m hm hm2 => szMark x m hm2 (hx x hm)) (by omega) (n - r.length) (by omega)
    simp only [show (n : Int) - (r.length : Int) = ((n - r.length : Nat) : Int) by omega, if_neg (show ¬ ((n - r.length : Nat) : Int) < 0 by omega)] at e
    refine Ev.step e ?_
    generalize wsum (fun x : T_sib => x.1.size) r = q at *
    rw [show (if n < r.length + q then (-1 : Int) else ((n - (r.length + q) : Nat) : Int)) = if n - r.length < q then (-1 : Int) else ((n - r.length - q : Nat) : Int) by
      by_cases c2 : n - r.length < q
      · rw [if_pos c2, if_pos (by omega)]
      · rw [if_neg c2, if_neg (by omega)]; omega]
    exact h.ev
def wRope (r : List T_siiii) (ms : List T_sib) : Nat := wNodes r + wMarks ms
theorem szRope (r : List T_siiii) (ms : List T_sib) (n : Nat) (hn : n ≤ 1048576) (h1 : CT.good (.row e_siiii) r) (h2 : CT.good (.row e_sib) ms) :
    Ev (fun k => laws_szRope k r ms (n : Int)) (if n < wRope r ms then (-1 : Int) else ((n - wRope r ms : Nat) : Int)) := by
  have e := fun k => laws_szRope.eq r ms (n : Int) k
  simp only [W, W1, W3] at e
  refine Ev.step e (Ev.bind (szNodes r n hn h1.1 (fun x hx => (h1.2 x hx).1)) ?_)
  unfold wRope
  generalize wNodes r = q
  by_cases c : n < q
  · rw [if_pos c]
    simp only [if_pos (show (-1 : Int) < 0 by omega)]
    rw [if_pos (by omega)]
    exact Ev.now _
  · rw [if_neg c]
    simp only [if_neg (show ¬ ((n - q : Nat) : Int) < 0 by omega)]
    refine Ev.bind (szMarks ms (n - q) (by omega) h2.1 (fun x hx => (h2.2 x hx).1)) ?_
    generalize wMarks ms = p
    by_cases c2 : n - q < p
    · rw [if_pos c2]
      simp only [if_pos (show (-1 : Int) < 0 by omega)]
      rw [if_pos (by omega)]
      exact Ev.now _
    · rw [if_neg c2]
      simp only [if_neg (show ¬ ((n - q - p : Nat) : Int) < 0 by omega)]
      rw [if_neg (by omega), show n - q - p = n - (q + p) by omega]
      exact Ev.now _
theorem fits_of {r : List T_siiii} {ms : List T_sib} (h : wRope r ms ≤ 1048576) : Fits r ms := by
  unfold wRope wNodes wMarks at h
  refine ⟨by omega, by omega, by rw [textOf_size]; omega, fun m hm => ?_⟩
  have := wsum_le (wt := fun x : T_sib => x.1.size) hm
  omega
/-- a law over a rope that is only read -/
theorem law_of {g : Nat → Option Bool} {rest : Nat → Option Bool} {r : List T_siiii} {ms : List T_sib} (h1 : CT.good (.row e_siiii) r) (h2 : CT.good (.row e_sib) ms)
    (e : ∀ k, g (k + 1) = optB (laws_szRope k r ms 1048576) fun q => brB (ltI q 0) (some true) (rest k)) (h : Fits r ms → Ev rest true) : ∃ k, g k = some true := by
  simp only [W, W1, W3] at e
  refine Ev.has (r := true) (Ev.step e ?_)
  refine Ev.bind (szRope r ms 1048576 (Nat.le_refl _) h1 h2) ?_
  by_cases c : 1048576 < wRope r ms
  · rw [if_pos c]
    simp only [if_pos (show (-1 : Int) < 0 by omega)]
    exact Ev.now _
  · rw [if_neg c]
    simp only [if_neg (show ¬ ((1048576 - wRope r ms : Nat) : Int) < 0 by omega)]
    exact h (fits_of (by omega))
end Go.Proofs.YtfbhkkedmfbgbaaDoor.PM
