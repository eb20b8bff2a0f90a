/- Names and marks of ropes, plainly: the program's rules and the reference's are one. -/
import Derived.Test.YtfbhkkedmfbgbaaDoorPTree
import Derived.Test.YtfbhkkedmfbgbaaDoorEG
namespace Go.Proofs.YtfbhkkedmfbgbaaDoor.PM
open Go.Eng Go.RowKit
set_option linter.unusedVariables false
set_option linter.unusedSimpArgs false
/-! ### names -/
def okAt (i c : Nat) : Bool := decide (97 ≤ c ∧ c ≤ 122) || (decide (0 < i) && (decide (48 ≤ c ∧ c ≤ 57) || decide (c = 45)))
def allFrom (s : ByteArray) : Nat → Nat → Bool
  | 0, _ => true
  | m + 1, i => okAt i (B s i) && allFrom s m (i + 1)
def nameOk (s : ByteArray) : Bool := decide (1 ≤ s.size) && decide (s.size ≤ 20) && allFrom s s.size 0
theorem implName_loop (s : ByteArray) (hs : s.size ≤ 1099511627776) : ∀ m i : Nat, i + m = s.size → Ev2 (fun k j => impl_isName_L2 k j s (s.size : Int) (i : Int)) (allFrom s m i && (decide (1 ≤ s.size) && decide (s.size ≤ 20))) := by
  intro m
  induction m with
  | zero =>
    intro i hi
    refine Ev2.ret fun k j => ?_
    simp only [impl_isName_L2.eq, W, W1]
    rw [if_neg (by omega)]
    by_cases c : 1 ≤ s.size
    · rw [if_pos (by omega)]; simp only [allFrom, Bool.true_and, decide_eq_true c]; congr 1; exact decide_eq_decide.2 ⟨fun h => by omega, fun h => by omega⟩
    · rw [if_neg (by omega)]; simp [allFrom, c]
  | succ m ih =>
    intro i hi
    have e := fun k j => impl_isName_L2.eq s (s.size : Int) (i : Int) k j
    have hw : addI .i64 (i : Int) 1 = ((i + 1 : Nat) : Int) := by rw [addI_i64 (by omega) (by omega)]; omega
    simp only [W, W1, bt_B, hw, if_pos (show (i : Int) < (s.size : Int) by omega), if_pos (show (0 : Int) ≤ (i : Int) by omega)] at e
    have hB := B_lt s i
    have e2 : ∀ k j, impl_isName_L2 k (j + 1) s (s.size : Int) (i : Int) = if okAt i (B s i) = true then impl_isName_L2 k j s (s.size : Int) ((i + 1 : Nat) : Int) else some false := by
      intro k j
      rw [e]
      simp only [okAt, Bool.or_eq_true, Bool.and_eq_true, decide_eq_true_eq]
      repeat' split
      all_goals first | (exfalso; omega) | rfl
    refine Ev2.step e2 ?_
    rw [show allFrom s (m + 1) i = (okAt i (B s i) && allFrom s m (i + 1)) from rfl]
    by_cases c : okAt i (B s i) = true
    · simp only [if_pos c]
      rw [c, Bool.true_and]
      exact ih (i + 1) (by omega)
    · simp only [if_neg c]
      have c' : okAt i (B s i) = false := by simpa using c
      rw [c', Bool.false_and, Bool.false_and]
      exact Ev2.now _
theorem implName (s : ByteArray) (hs : s.size ≤ 1099511627776) : Ev (fun k => impl_isName k s) (nameOk s) := by
  have h := implName_loop s hs s.size 0 (by omega)
  rw [show (allFrom s s.size 0 && (decide (1 ≤ s.size) && decide (s.size ≤ 20))) = nameOk s by unfold nameOk; rw [Bool.and_comm]] at h
  exact Ev.step (fun k => impl_isName.eq s k) h.ev
theorem specName_loop (s : ByteArray) (hs : s.size ≤ 1099511627776) : ∀ m i : Nat, 0 < i → i + m = s.size → Ev2 (fun k j => spec_l17IsName_L4 k j s (i : Int)) (allFrom s m i) := by
  intro m
  induction m with
  | zero =>
    intro i h0 hi
    refine Ev2.ret fun k j => ?_
    simp only [spec_l17IsName_L4.eq, W, W1]
    rw [if_neg (by omega)]
    rfl
  | succ m ih =>
    intro i h0 hi
    have e := fun k j => spec_l17IsName_L4.eq s (i : Int) k j
    have hw : addI .i64 (i : Int) 1 = ((i + 1 : Nat) : Int) := by rw [addI_i64 (by omega) (by omega)]; omega
    simp only [W, W1, bt_B, hw, if_pos (show (i : Int) < (s.size : Int) by omega), if_pos (show (0 : Int) ≤ (i : Int) by omega)] at e
    have hB := B_lt s i
    have e2 : ∀ k j, spec_l17IsName_L4 k (j + 1) s (i : Int) = if okAt i (B s i) = true then spec_l17IsName_L4 k j s ((i + 1 : Nat) : Int) else some false := by
      intro k j
      rw [e]
      simp only [okAt, Bool.or_eq_true, Bool.and_eq_true, decide_eq_true_eq]
      repeat' split
      all_goals first | (exfalso; omega) | rfl
    refine Ev2.step e2 ?_
    rw [show allFrom s (m + 1) i = (okAt i (B s i) && allFrom s m (i + 1)) from rfl]
    by_cases c : okAt i (B s i) = true
    · simp only [if_pos c]
      rw [c, Bool.true_and]
      exact ih (i + 1) (by omega) (by omega)
    · simp only [if_neg c]
      have c' : okAt i (B s i) = false := by simpa using c
      rw [c', Bool.false_and]
      exact Ev2.now _
theorem specName (s : ByteArray) (hs : s.size ≤ 1099511627776) : Ev (fun k => spec_l17IsName k s) (nameOk s) := by
  have e := fun k => spec_l17IsName.eq s k
  have h0 : bt s 0 = (B s 0 : Int) := bt_B s 0
  simp only [W, W1, h0] at e
  unfold nameOk
  by_cases c1 : 1 ≤ s.size
  · by_cases c2 : s.size ≤ 20
    · simp only [if_neg (show ¬ (s.size : Int) < 1 by omega), if_neg (show ¬ (20 : Int) < (s.size : Int) by omega), if_pos (show (0 : Int) ≤ 0 by omega), if_pos (show (0 : Int) < (s.size : Int) by omega)] at e
      have hL := (specName_loop s hs (s.size - 1) 1 (by omega) (by omega)).ev
      have ha : allFrom s s.size 0 = (okAt 0 (B s 0) && allFrom s (s.size - 1) 1) := by
        conv => lhs; rw [show s.size = s.size - 1 + 1 by omega]
        rfl
      rw [ha, decide_eq_true c1, decide_eq_true c2, Bool.true_and, Bool.true_and]
      refine Ev.step e ?_
      by_cases d : 97 ≤ B s 0 ∧ B s 0 ≤ 122
      · simp only [if_neg (show ¬ ((B s 0 : Nat) : Int) < 97 by omega), if_neg (show ¬ 122 < ((B s 0 : Nat) : Int) by omega)]
        rw [show okAt 0 (B s 0) = true by simp [okAt, d], Bool.true_and]
        exact hL
      · rw [show okAt 0 (B s 0) = false by simp [okAt]; omega, Bool.false_and]
        by_cases d1 : B s 0 < 97
        · simp only [if_pos (show ((B s 0 : Nat) : Int) < 97 by omega)]; exact Ev.now _
        · simp only [if_neg (show ¬ ((B s 0 : Nat) : Int) < 97 by omega), if_pos (show 122 < ((B s 0 : Nat) : Int) by omega)]; exact Ev.now _
    · refine Ev.ret fun k => ?_
      rw [e, if_neg (by omega), if_pos (by omega)]
      simp [c2]
  · refine Ev.ret fun k => ?_
    rw [e, if_pos (by omega)]
    simp [c1]
/-! ### marks -/
def mOk (n : Nat) (m : T_sib) : Bool := nameOk m.1 && (decide (0 ≤ m.2.1) && decide (m.2.1 ≤ (n : Int)))
def less (a b : ByteArray) : Bool := Op.bytesLess a.toList b.toList
def mFrom (n : Nat) : Option ByteArray → List T_sib → Bool
  | _, [] => true
  | none, m :: l => mOk n m && mFrom n (some m.1) l
  | some q, m :: l => mOk n m && (less q m.1 && mFrom n (some m.1) l)
def prev (l : List T_sib) : Option ByteArray := l.getLast?.map (·.1)
theorem prev_snoc (l : List T_sib) (m : T_sib) : prev (l ++ [m]) = some m.1 := by simp [prev]
theorem rd_prev (l : List T_sib) (p m : T_sib) (suf : List T_sib) (h : l.length ≤ 4611686018427387904) (z : T_sib) : rd (l ++ [p] ++ m :: suf) (subI .i64 ((l ++ [p]).length : Int) 1) z = p := by
  have hlen : ((l ++ [p]).length : Int) = (l.length : Int) + 1 := by simp
  rw [subI_i64 (by omega) (by omega), hlen, show (l.length : Int) + 1 - 1 = (l.length : Int) by omega, List.append_assoc]
  exact rd_mid l (m :: suf) p z
theorem specMark (m : T_sib) (n : Nat) (h : m.1.size ≤ 1099511627776) : Ev (fun k => spec_l20Mark k m.1 m.2.1 m.2.2 (n : Int)) (mOk n m) := by
  have e := fun k => spec_l20Mark.eq m.1 m.2.1 m.2.2 (n : Int) k
  simp only [W, W1, W3] at e
  refine Ev.step e (Ev.bind (specName m.1 h) ?_)
  unfold mOk
  cases nameOk m.1 with
  | false => simp only [W1, Bool.false_and]; exact Ev.now _
  | true =>
    simp only [W1, Bool.true_and]
    by_cases c : 0 ≤ m.2.1
    · simp only [if_pos c, decide_eq_true c, Bool.true_and]; exact Ev.now _
    · simp only [if_neg c, decide_eq_false c, Bool.false_and]; exact Ev.now _
theorem specMarks_loop (t : ByteArray) (r : List T_siiii) (l : List T_sib) (hl : l.length ≤ 1048576) (hn : ∀ m ∈ l, m.1.size ≤ 1099511627776) : ∀ suf pre : List T_sib, l = pre ++ suf →
    Ev2 (fun k j => spec_RopeFault_L13 k j t (pre.length : Int) r l) (brB (mFrom t.size (prev pre) suf) (0 : Int) 1) := by
  intro suf
  induction suf with
  | nil =>
    intro pre hp
    subst hp
    refine Ev2.ret fun k j => ?_
    simp only [spec_RopeFault_L13.eq, W, W1, W2]
    rw [if_neg (end_nlt pre)]
    simp only [mFrom, W1]
  | cons m suf ih =>
    intro pre hp
    have hle : pre.length + 1 ≤ l.length := by rw [hp, List.length_append, List.length_cons]; omega
    have hm : m.1.size ≤ 1099511627776 := hn m (by rw [hp]; simp)
    have e := fun k j => spec_RopeFault_L13.eq t (pre.length : Int) r l k j
    have c1 : (pre.length : Int) < (l.length : Int) := by omega
    have hr : rd l (pre.length : Int) (bs [], (0, false)) = m := by rw [hp]; exact rd_mid pre suf m _
    simp only [W, W1, W2, W3, if_pos c1, if_pos (nat_ge _), hr, next_i pre m (by omega)] at e
    refine Ev2.step e (Ev2.bind (specMark m t.size hm) ?_)
    have hih := ih (pre ++ [m]) (by rw [hp]; simp)
    rw [prev_snoc] at hih
    rcases List.eq_nil_or_concat pre with rfl | ⟨pre', p, rfl⟩
    · simp only [prev, List.getLast?_nil, Option.map_none, mFrom]
      cases mOk t.size m with
      | false => simp only [W1, Bool.false_and]; exact Ev2.now _
      | true =>
        simp only [W1, Bool.true_and, if_neg (show ¬ (0 : Int) < (([] : List T_sib).length : Int) by simp)]
        exact hih
    · rw [List.concat_eq_append] at *
      rw [prev_snoc]
      simp only [mFrom]
      cases mOk t.size m with
      | false => simp only [W1, Bool.false_and]; exact Ev2.now _
      | true =>
        have hlen : ((pre' ++ [p]).length : Int) = (pre'.length : Int) + 1 := by simp
        have hs : subI .i64 ((pre' ++ [p]).length : Int) 1 = (pre'.length : Int) := by rw [subI_i64 (by omega) (by omega)]; omega
        have hrp := rd_prev pre' p m suf (by omega) (bs [], (0, false))
        rw [← hp, hs] at hrp
        simp only [W1, Bool.true_and, hs, hrp, if_pos (show (0 : Int) < ((pre' ++ [p]).length : Int) by omega), if_pos (nat_ge _), if_pos (show (pre'.length : Int) < (l.length : Int) by omega)]
        unfold less
        cases Op.bytesLess p.1.toList m.1.toList with
        | false => simp only [W1, Bool.false_and]; exact Ev2.now _
        | true => simp only [W1, Bool.true_and]; exact hih
theorem implMarks_loop (n : Nat) (l : List T_sib) (hl : l.length ≤ 1048576) (hn : ∀ m ∈ l, m.1.size ≤ 1099511627776) : ∀ suf pre : List T_sib, l = pre ++ suf →
    Ev2 (fun k j => impl_marksRight_L2 k j l (n : Int) l (l.length : Int) (pre.length : Int)) (mFrom n (prev pre) suf && decide (l.length ≤ 100)) := by
  intro suf
  induction suf with
  | nil =>
    intro pre hp
    refine Ev2.ret fun k j => ?_
    simp only [impl_marksRight_L2.eq, W, W1, W2]
    rw [if_neg (show ¬ (pre.length : Int) < (l.length : Int) by rw [hp]; exact end_nlt pre)]
    simp only [mFrom, Bool.true_and]
    congr 1
    exact decide_eq_decide.2 ⟨fun h => by omega, fun h => by omega⟩
  | cons m suf ih =>
    intro pre hp
    have hle : pre.length + 1 ≤ l.length := by rw [hp, List.length_append, List.length_cons]; omega
    have hm : m.1.size ≤ 1099511627776 := hn m (by rw [hp]; simp)
    have e := fun k j => impl_marksRight_L2.eq l (n : Int) l (l.length : Int) (pre.length : Int) k j
    have c1 : (pre.length : Int) < (l.length : Int) := by omega
    have hr : rd l (pre.length : Int) (bs [], (0, false)) = m := by rw [hp]; exact rd_mid pre suf m _
    simp only [W, W1, W2, W3, if_pos c1, if_pos (nat_ge _), hr, next_i pre m (by omega)] at e
    refine Ev2.step e (Ev2.bind (implName m.1 hm) ?_)
    have hih := ih (pre ++ [m]) (by rw [hp]; simp)
    rw [prev_snoc] at hih
    have hbad : mOk n m = false → (mFrom n (prev pre) (m :: suf) && decide (l.length ≤ 100)) = false := fun h => by
      cases prev pre <;> simp [mFrom, h]
    cases hq : nameOk m.1 with
    | false => rw [hbad (by simp [mOk, hq])]; simp only [W1]; exact Ev2.now _
    | true =>
      simp only [W1]
      by_cases d1 : m.2.1 < 0
      · rw [hbad (by simp [mOk]; omega)]; simp only [if_pos d1]; exact Ev2.now _
      · by_cases d2 : (n : Int) < m.2.1
        · rw [hbad (by simp [mOk]; omega)]; simp only [if_neg d1, if_pos d2]; exact Ev2.now _
        · simp only [if_neg d1, if_neg d2]
          have hok : mOk n m = true := by simp [mOk, hq]; omega
          rcases List.eq_nil_or_concat pre with rfl | ⟨pre', p, rfl⟩
          · simp only [prev, List.getLast?_nil, Option.map_none, mFrom, hok, Bool.true_and, if_neg (show ¬ (0 : Int) < (([] : List T_sib).length : Int) by simp)]
            exact hih
          · rw [List.concat_eq_append] at *
            rw [prev_snoc]
            have hlen : ((pre' ++ [p]).length : Int) = (pre'.length : Int) + 1 := by simp
            have hs : subI .i64 ((pre' ++ [p]).length : Int) 1 = (pre'.length : Int) := by rw [subI_i64 (by omega) (by omega)]; omega
            have hrp := rd_prev pre' p m suf (by omega) (bs [], (0, false))
            rw [← hp, hs] at hrp
            simp only [mFrom, hok, Bool.true_and, hs, hrp, if_pos (show (0 : Int) < ((pre' ++ [p]).length : Int) by omega), if_pos (nat_ge _), if_pos (show (pre'.length : Int) < (l.length : Int) by omega)]
            unfold less
            cases Op.bytesLess p.1.toList m.1.toList with
            | false => simp only [W1, Bool.false_and]; exact Ev2.now _
            | true => simp only [W1, Bool.true_and]; exact hih
theorem implMarks (n : Nat) (l : List T_sib) (hl : l.length ≤ 1048576) (hn : ∀ m ∈ l, m.1.size ≤ 1099511627776) : Ev (fun k => impl_marksRight k l (n : Int)) (mFrom n none l && decide (l.length ≤ 100)) :=
  Ev.step (fun k => impl_marksRight.eq l (n : Int) k) (implMarks_loop n l hl hn l [] rfl).ev
end Go.Proofs.YtfbhkkedmfbgbaaDoor.PM
