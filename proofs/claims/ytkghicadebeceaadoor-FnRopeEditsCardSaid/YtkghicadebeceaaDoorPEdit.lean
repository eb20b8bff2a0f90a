/- EditRope, plainly: the program's edits and the reference's make one rope. -/
import Derived.Test.YtkghicadebeceaaDoorPMark
namespace Go.Proofs.YtkghicadebeceaaDoor.RG
open Go.Eng Go.RowKit
set_option linter.unusedVariables false
set_option linter.unusedSimpArgs false
/-! ### edits as a law hands them on -/
theorem toEdits (r : List T_iis) (h : r.length ≤ 1048576) : Ev (fun k => laws_toRopeEditS k r) r := by
  have e := fun k => laws_toRopeEditS.eq r k
  simp only [W, W1] at e
  simp only [W2, if_pos (nat_ge _), if_pos (Int.le_refl _), if_pos (show (r.length : Int) * 32 < 140737488355328 by omega)] at e
  have h1 := to_loop (z := ((0, (0, (bs []))) : T_iis)) (L := laws_toRopeEditS_L3) (one := fun k x => laws_toRopeEdit k x.1 x.2.1 x.2.2) (fun k j a i out => laws_toRopeEditS_L3.eq a i out k j) r (fun x _ => Ev.ret fun k => laws_toRopeEdit.eq x.1 x.2.1 x.2.2 k) (by omega)
  exact Ev.step e h1.ev
theorem eqEdit (x y : T_iis) : Ev (fun k => laws_eqRopeEdit k x.1 x.2.1 x.2.2 y.1 y.2.1 y.2.2) (decide (x = y)) := by
  refine Ev.ret fun k => ?_
  rw [laws_eqRopeEdit.eq]
  obtain ⟨a, b, c⟩ := x
  obtain ⟨a', b', c'⟩ := y
  simp only [W, W1, Prod.mk.injEq]
  by_cases h1 : a = a'
  · by_cases h2 : b = b'
    · by_cases h3 : c = c' <;> simp [h1, h2, h3]
    · simp [h1, h2]
  · simp [h1]
theorem eqEdits (a b : List T_iis) (ha : a.length ≤ 1048576) : Ev (fun k => laws_eqRopeEditS k a b) (decide (a = b)) := by
  have e := fun k => laws_eqRopeEditS.eq a b k
  simp only [W, W1, W2] at e
  by_cases c : a.length = b.length
  · simp only [if_pos (show (a.length : Int) = (b.length : Int) by omega)] at e
    have h := eq_loop (z := ((0, (0, (bs []))) : T_iis)) (L := laws_eqRopeEditS_L4) (one := fun k x y => laws_eqRopeEdit k x.1 x.2.1 x.2.2 y.1 y.2.1 y.2.2) (fun k j a b i => laws_eqRopeEditS_L4.eq a b i k j) eqEdit a b (by omega) c
    exact Ev.step e h.ev
  · simp only [if_neg (show ¬ (a.length : Int) = (b.length : Int) by omega)] at e
    rw [show decide (a = b) = false by simp; intro h; exact c (congrArg List.length h)]
    exact Ev.ret e
theorem szEdit (x : T_iis) (n : Nat) (hn : n ≤ 1048576) (hx : x.2.2.size ≤ maxLen) : Ev (fun k => laws_szRopeEdit k x.1 x.2.1 x.2.2 (n : Int)) (if n < x.2.2.size then (-1 : Int) else ((n - x.2.2.size : Nat) : Int)) := by
  refine Ev.ret fun k => ?_
  unfold maxLen at hx
  rw [laws_szRopeEdit.eq]
  simp only [W, W1, subI_i64 (show (-9223372036854775808 : Int) ≤ (n : Int) - (x.2.2.size : Int) by omega) (by omega)]
  by_cases c : n < x.2.2.size
  · rw [if_pos (by omega), if_pos c]
  · rw [if_neg (by omega), if_neg c]; congr 1; omega
def wEdits (r : List T_iis) : Nat := r.length + wsum (fun x : T_iis => x.2.2.size) r
theorem szEdits (r : List T_iis) (n : Nat) (hn : n ≤ 1048576) (hl : r.length ≤ maxLen) (hx : ∀ x ∈ r, x.2.2.size ≤ maxLen) : Ev (fun k => laws_szRopeEditS k r (n : Int)) (if n < wEdits r then (-1 : Int) else ((n - wEdits r : Nat) : Int)) := by
  have e := fun k => laws_szRopeEditS.eq r (n : Int) k
  unfold maxLen at hl
  simp only [W, W1, W2, subI_i64 (show (-9223372036854775808 : Int) ≤ (n : Int) - (r.length : Int) by omega) (by omega)] at e
  unfold wEdits
  by_cases c : n < r.length
  · rw [if_pos (by omega)]
    simp only [if_pos (show (n : Int) - (r.length : Int) < 0 by omega)] at e
    exact Ev.ret e
  · have h := sz_loop (z := ((0, (0, (bs []))) : T_iis)) (L := laws_szRopeEditS_L5) (one := fun k x n => laws_szRopeEdit k x.1 x.2.1 x.2.2 n) (wt := fun x : T_iis => x.2.2.size) (fun k j a left i => laws_szRopeEditS_L5.eq a left i k j) r (fun x m hm hm2 => szEdit x m hm2 (hx x hm)) (by omega) (n - r.length) (by omega)
    simp only [show (n : Int) - (r.length : Int) = ((n - r.length : Nat) : Int) by omega, if_neg (show ¬ ((n - r.length : Nat) : Int) < 0 by omega)] at e
    refine Ev.step e ?_
    generalize wsum (fun x : T_iis => x.2.2.size) r = q at *
    rw [show (if n < r.length + q then (-1 : Int) else ((n - (r.length + q) : Nat) : Int)) = if n - r.length < q then (-1 : Int) else ((n - r.length - q : Nat) : Int) by
      by_cases c2 : n - r.length < q
      · rw [if_pos c2, if_pos (by omega)]
      · rw [if_neg c2, if_neg (by omega)]; omega]
    exact h.ev
/-! ### one edit -/
def within (t : ByteArray) (e : T_iis) : Bool := decide (0 ≤ e.1 ∧ e.1 ≤ (t.size : Int) ∧ 0 ≤ e.2.1 ∧ e.2.1 ≤ (t.size : Int) - e.1)
def behind (t : ByteArray) (e : T_iis) : ByteArray := (t.extract 0 e.1.toNat ++ e.2.2) ++ t.extract (e.1 + e.2.1).toNat t.size
def mvAt (m : T_sib) (e : T_iis) : Int :=
  if (m.2.1 = e.1 ∧ e.2.1 = 0) ∧ m.2.2 = true then m.2.1 else if e.1 + e.2.1 ≤ m.2.1 then m.2.1 + (e.2.2.size : Int) - e.2.1 else if e.1 < m.2.1 then (if m.2.2 = true then e.1 else e.1 + (e.2.2.size : Int)) else m.2.1
def mv (e : T_iis) (m : T_sib) : T_sib := (m.1, (mvAt m e, m.2.2))
theorem behind_size {t : ByteArray} {e : T_iis} (h : within t e = true) : ((behind t e).size : Int) = (t.size : Int) - e.2.1 + (e.2.2.size : Int) := by
  simp only [within, decide_eq_true_eq] at h
  simp only [behind, ByteArray.size_append, ByteArray.size_extract]
  omega
/-- marks within a text -/
def In (t : ByteArray) (ms : List T_sib) : Prop := ∀ m ∈ ms, 0 ≤ m.2.1 ∧ m.2.1 ≤ (t.size : Int)
theorem mv_in {t : ByteArray} {e : T_iis} (h : within t e = true) {m : T_sib} (hm : 0 ≤ m.2.1 ∧ m.2.1 ≤ (t.size : Int)) : 0 ≤ mvAt m e ∧ mvAt m e ≤ ((behind t e).size : Int) := by
  rw [behind_size h]
  simp only [within, decide_eq_true_eq] at h
  unfold mvAt
  repeat' split
  all_goals omega
theorem in_map {t : ByteArray} {e : T_iis} (h : within t e = true) {ms : List T_sib} (hm : In t ms) : In (behind t e) (ms.map (mv e)) := by
  intro m hmm
  obtain ⟨m0, h0, rfl⟩ := List.mem_map.1 hmm
  exact mv_in h (hm m0 h0)
theorem within_ev (t : ByteArray) (e : T_iis) (ht : t.size ≤ 65536) : Ev (fun k => spec_l20Within k t e.1 e.2.1) (within t e) := by
  refine Ev.ret fun k => ?_
  rw [spec_l20Within.eq]
  unfold within
  by_cases c1 : 0 ≤ e.1
  · by_cases c2 : e.1 ≤ (t.size : Int)
    · have hs : subI .i64 (t.size : Int) e.1 = (t.size : Int) - e.1 := subI_i64 (by omega) (by omega)
      by_cases c3 : 0 ≤ e.2.1
      · simp only [W, W1, hs, if_pos c1, if_pos c2, if_pos c3]; congr 1; exact decide_eq_decide.2 ⟨fun h => by omega, fun h => by omega⟩
      · simp only [W, W1, if_pos c1, if_pos c2, if_neg c3]; simp; omega
    · simp only [W, W1, if_pos c1, if_neg c2]; simp; omega
  · simp only [W, W1, if_neg c1]; simp; omega
theorem moved_ev {t : ByteArray} {e : T_iis} (h : within t e = true) (ht : t.size ≤ 65536) (hp : e.2.2.size ≤ 1048576) {m : T_sib} (hm : 0 ≤ m.2.1 ∧ m.2.1 ≤ (t.size : Int)) : Ev (fun k => spec_l20Moved k m.1 m.2.1 m.2.2 e.1 e.2.1 e.2.2) (mvAt m e) := by
  simp only [within, decide_eq_true_eq] at h
  have a1 : addI .i64 e.1 e.2.1 = e.1 + e.2.1 := addI_i64 (by omega) (by omega)
  have a2 : addI .i64 m.2.1 (e.2.2.size : Int) = m.2.1 + (e.2.2.size : Int) := addI_i64 (by omega) (by omega)
  have a3 : subI .i64 (m.2.1 + (e.2.2.size : Int)) e.2.1 = m.2.1 + (e.2.2.size : Int) - e.2.1 := subI_i64 (by omega) (by omega)
  have a4 : addI .i64 e.1 (e.2.2.size : Int) = e.1 + (e.2.2.size : Int) := addI_i64 (by omega) (by omega)
  refine Ev.ret fun k => ?_
  rw [spec_l20Moved.eq]
  simp only [spec_l20Moved_J3.eq, W, W1, a1, a2, a3, a4]
  unfold mvAt
  cases m.2.2
  · simp only [W1, Bool.false_eq_true, and_false, if_false]
    repeat' split
    all_goals first | (exfalso; omega) | rfl
  · simp only [W1, and_true, if_true]
    repeat' split
    all_goals first | (exfalso; omega) | rfl
theorem clone_ev (l : List T_sib) (hl : l.length ≤ 1048576) : Ev (fun k => slices_Clone_Mark_Mark k l) l := by
  refine Ev.ret fun k => ?_
  have e : slices_Clone_Mark_Mark (k + 1) l = chk (ltI (mulZ (addZ (ln ([] : List T_sib)) (ln l)) 32) 140737488355328) (some (catL [] l)) := by kernel_rfl
  rw [e]
  simp only [W, W1, W2, List.length_nil]
  rw [if_pos (by simp; omega)]
  rfl
set_option maxHeartbeats 2000000 in
theorem move_loop {t : ByteArray} {e : T_iis} (h : within t e = true) (ht : t.size ≤ 65536) (hp : e.2.2.size ≤ 1048576) (x2 : List T_sib) (n : Nat) (hn : n ≤ 1048576) : ∀ (suf pre : List T_sib), pre.length + suf.length = n → (∀ m ∈ suf, 0 ≤ m.2.1 ∧ m.2.1 ≤ (t.size : Int)) →
    Ev2 (fun k j => impl_move_L3 k j e.1 e.2.1 (e.2.2.size : Int) (n : Int) (pre.length : Int) x2 (pre ++ suf)) (pre ++ suf.map (mv e), ()) := by
  have hw := h
  simp only [within, decide_eq_true_eq] at hw
  intro suf
  induction suf with
  | nil =>
    intro pre h1 h2
    refine Ev2.ret fun k j => ?_
    simp only [List.length_nil] at h1
    rw [impl_move_L3.eq, show ltI (pre.length : Int) (n : Int) = false by simp only [W, decide_eq_false_iff_not]; omega, brB_f rfl]
    simp
  | cons m suf ih =>
    intro pre h1 h2
    simp only [List.length_cons] at h1
    have hm := h2 m (by simp)
    have e0 := fun k j => impl_move_L3.eq e.1 e.2.1 (e.2.2.size : Int) (n : Int) (pre.length : Int) x2 (pre ++ m :: suf) k j
    have a1 : addI .i64 e.1 e.2.1 = e.1 + e.2.1 := addI_i64 (by omega) (by omega)
    have a2 : subI .i64 (e.2.2.size : Int) e.2.1 = (e.2.2.size : Int) - e.2.1 := subI_i64 (by omega) (by omega)
    have a3 : addI .i64 m.2.1 ((e.2.2.size : Int) - e.2.1) = m.2.1 + (e.2.2.size : Int) - e.2.1 := by rw [addI_i64 (by omega) (by omega)]; omega
    have a4 : addI .i64 e.1 (e.2.2.size : Int) = e.1 + (e.2.2.size : Int) := addI_i64 (by omega) (by omega)
    simp only [impl_move_J13.eq, rd_mid, a1] at e0
    simp only [a2, a3, a4, next_i pre (mv e m) (by omega)] at e0
    simp only [W, W1, W2, set_mid0, if_pos (show (pre.length : Int) < (n : Int) by omega), if_pos (nat_ge _), if_pos (mid_lt _ _ _)] at e0
    have e2 : ∀ k j, impl_move_L3 k (j + 1) e.1 e.2.1 (e.2.2.size : Int) (n : Int) (pre.length : Int) x2 (pre ++ m :: suf) = impl_move_L3 k j e.1 e.2.1 (e.2.2.size : Int) (n : Int) ((pre ++ [mv e m]).length : Int) x2 (pre ++ mv e m :: suf) := by
      intro k j
      rw [e0]
      have key : ∀ v : Int, v = mvAt m e → impl_move_L3 k j e.1 e.2.1 (e.2.2.size : Int) (n : Int) ((pre ++ [mv e m]).length : Int) x2 (pre ++ (m.1, (v, m.2.2)) :: suf) = impl_move_L3 k j e.1 e.2.1 (e.2.2.size : Int) (n : Int) ((pre ++ [mv e m]).length : Int) x2 (pre ++ mv e m :: suf) := fun v hv => by rw [hv]; rfl
      have key0 := key m.2.1
      have hmm : (m.1, (m.2.1, m.2.2)) = m := rfl
      rw [hmm] at key0
      unfold mvAt at key key0
      generalize impl_move_L3 k j e.1 e.2.1 (e.2.2.size : Int) (n : Int) ((pre ++ [mv e m]).length : Int) x2 (pre ++ mv e m :: suf) = R at *
      cases hst : m.2.2
      · simp only [hst, W1, Bool.false_eq_true, and_false, if_false] at key key0 ⊢
        repeat' split
        all_goals first | (exfalso; omega) | (with_reducible refine key _ ?_; (repeat' split) <;> omega) | (with_reducible refine key0 ?_; (repeat' split) <;> omega)
      · simp only [hst, W1, and_true, if_true] at key key0 ⊢
        repeat' split
        all_goals first | (exfalso; omega) | (with_reducible refine key _ ?_; (repeat' split) <;> omega) | (with_reducible refine key0 ?_; (repeat' split) <;> omega)
    refine Ev2.step e2 ?_
    have h7 := ih (pre ++ [mv e m]) (by simp; omega) (fun q hq => h2 q (by simp [hq]))
    simp only [List.append_assoc, List.singleton_append, List.map_cons] at h7 ⊢
    exact h7
theorem move_ev {t : ByteArray} {e : T_iis} (h : within t e = true) (ht : t.size ≤ 65536) (hp : e.2.2.size ≤ 1048576) (l : List T_sib) (hl : l.length ≤ 1048576) (hm : In t l) : Ev (fun k => impl_move k e.1 e.2.1 (e.2.2.size : Int) l) (l.map (mv e), ()) := by
  have e0 := fun k => impl_move.eq e.1 e.2.1 (e.2.2.size : Int) l k
  simp only [W2, W3] at e0
  refine Ev.step e0 (Ev.bind (clone_ev l hl) ?_)
  have := (move_loop h ht hp l l.length hl l [] (by simp) hm).ev
  simpa using this
/-! ### all edits -/
noncomputable def editRun : ByteArray → List T_sib → List T_iis → Int × List T_siiii × List T_sib
  | t, ms, [] => (0, treeOf t, ms)
  | t, ms, e :: es => if within t e = true then (if 65536 < (behind t e).size then (8, [], []) else editRun (behind t e) (ms.map (mv e)) es) else (5, [], [])
theorem implTree1 (t : ByteArray) (ms : List T_sib) (h : t.size ≤ 65536) : Ev (fun k => impl_ropeOf'1 k t ms) ((treeOf t, ms), ()) := by
  have e := fun k => impl_ropeOf'1.eq t ms k
  simp only [W, W1, W3] at e
  unfold treeOf
  by_cases c : t.size = 0
  · rw [if_pos c]
    simp only [if_pos (empty_of t c)] at e
    exact Ev.ret e
  · rw [if_neg c]
    simp only [if_neg (not_empty t (by omega))] at e
    have h := impl_tree0 t.size t [] (by omega) (Nat.le_refl _) (by simp; omega)
    rw [List.nil_append] at h
    exact Ev.step e (Ev.bind h (Ev.now _))
theorem inner_loop {t : ByteArray} {e : T_iis} (h : within t e = true) (ht : t.size ≤ 65536) (hp : e.2.2.size ≤ 1048576) (edits : List T_iis) (t2 : ByteArray) (i x : Int) (r : Int × List T_siiii × List T_sib) : ∀ (suf pre : List T_sib), pre.length + suf.length ≤ 1048576 → (∀ m ∈ suf, 0 ≤ m.2.1 ∧ m.2.1 ≤ (t.size : Int)) →
    Ev2 (fun k j => spec_l20Edit_L4 k j edits t2 (addI .i64 i 1) x (pre ++ suf.map (mv e))) r → Ev3 (fun k j q => spec_l20Edit_L13 k j q edits t2 i (pre.length : Int) x (pre ++ suf) e.1 e.2.1 e.2.2) r := by
  intro suf
  induction suf with
  | nil =>
    intro pre h1 h2 hr
    refine Ev3.step (f := fun k j _ => spec_l20Edit_L4 k j edits t2 (addI .i64 i 1) x (pre ++ [])) (fun k j q => ?_) (by simpa using hr.three)
    rw [spec_l20Edit_L13.eq, show ltI (pre.length : Int) (ln (pre ++ ([] : List T_sib))) = false by simp only [W, W2]; simp, brB_f rfl]
  | cons m suf ih =>
    intro pre h1 h2 hr
    simp only [List.length_cons] at h1
    have e0 := fun k j q => spec_l20Edit_L13.eq edits t2 i (pre.length : Int) x (pre ++ m :: suf) e.1 e.2.1 e.2.2 k j q
    simp only [W, W1, W2, W3, rd_mid, set_mid0, if_pos (mid_lt _ _ _), if_pos (nat_ge _), next_i pre (mv e m) (by omega)] at e0
    refine Ev3.step e0 (Ev3.bind (moved_ev h ht hp (h2 m (by simp))) ?_)
    have h7 := ih (pre ++ [mv e m]) (by simp; omega) (fun q hq => h2 q (by simp [hq])) (by simpa using hr)
    rw [List.append_assoc] at h7
    exact h7
theorem specEdit_loop (edits : List T_iis) (hl : edits.length ≤ 1048576) : ∀ (suf pre : List T_iis) (t : ByteArray) (ms : List T_sib), edits = pre ++ suf → t.size ≤ 65536 → ms.length ≤ 1048576 → In t ms → (∀ e ∈ suf, e.2.2.size ≤ 1048576) →
    Ev2 (fun k j => spec_l20Edit_L4 k j edits t (pre.length : Int) 0 ms) (editRun t ms suf) := by
  intro suf
  induction suf with
  | nil =>
    intro pre t ms hp ht hm hin he
    have e0 := fun k j => spec_l20Edit_L4.eq edits t (pre.length : Int) 0 ms k j
    simp only [W, W1, W2, W3, if_neg (show ¬ (pre.length : Int) < (edits.length : Int) by rw [hp]; exact end_nlt pre)] at e0
    exact Ev2.step e0 (Ev2.bind (specTree t ht) (Ev2.now _))
  | cons e suf ih =>
    intro pre t ms hp ht hm hin he
    have hle : pre.length + 1 ≤ edits.length := by rw [hp, List.length_append, List.length_cons]; omega
    have hsz := he e (by simp)
    have hr : rd edits (pre.length : Int) (0, (0, (bs []))) = e := by rw [hp]; exact rd_mid pre suf e _
    have e0 := fun k j => spec_l20Edit_L4.eq edits t (pre.length : Int) 0 ms k j
    simp only [hr] at e0
    simp only [W, W1, W2, W3, if_pos (show (pre.length : Int) < (edits.length : Int) by omega), if_pos (nat_ge _)] at e0
    refine Ev2.step e0 (Ev2.bind (within_ev t e ht) ?_)
    simp only [editRun]
    cases hw : within t e with
    | false => simp only [W1]; exact Ev2.now _
    | true =>
      have hb := behind_size hw
      have hw' := hw
      simp only [within, decide_eq_true_eq] at hw'
      have a1 : subI .i64 (t.size : Int) e.2.1 = (t.size : Int) - e.2.1 := subI_i64 (by omega) (by omega)
      have a2 : addI .i64 ((t.size : Int) - e.2.1) (e.2.2.size : Int) = (t.size : Int) - e.2.1 + (e.2.2.size : Int) := addI_i64 (by omega) (by omega)
      have a3 : addI .i64 e.1 e.2.1 = e.1 + e.2.1 := addI_i64 (by omega) (by omega)
      simp only [W1, a1, a2, a3, ← hb, if_true]
      by_cases c : 65536 < (behind t e).size
      · rw [if_pos c]
        simp only [if_pos (show (65536 : Int) < ((behind t e).size : Int) by omega)]
        exact Ev2.now _
      · rw [if_neg c]
        have s1 : ((t.extract 0 e.1.toNat).size : Int) + (e.2.2.size : Int) ≤ 9223372036854775807 := by rw [ByteArray.size_extract]; omega
        have s2 : (((t.extract 0 e.1.toNat ++ e.2.2).size : Nat) : Int) + ((t.extract (e.1 + e.2.1).toNat t.size).size : Int) ≤ 9223372036854775807 := by rw [ByteArray.size_append, ByteArray.size_extract, ByteArray.size_extract]; omega
        simp only [if_neg (show ¬ (65536 : Int) < ((behind t e).size : Int) by omega), if_pos (show (0 : Int) ≤ e.1 by omega), if_pos (show e.1 ≤ (t.size : Int) by omega), Int.toNat_zero, Int.toNat_natCast, if_pos s1, if_pos (show (0 : Int) ≤ e.1 + e.2.1 by omega), if_pos (show e.1 + e.2.1 ≤ (t.size : Int) by omega), if_pos s2]
        have hrest := ih (pre ++ [e]) (behind t e) (ms.map (mv e)) (by rw [hp]; simp) (by omega) (by simpa using hm) (in_map hw hin) (fun q hq => he q (by simp [hq]))
        have hin2 := inner_loop hw ht hsz edits (behind t e) (pre.length : Int) 0 (editRun (behind t e) (ms.map (mv e)) suf) ms [] (by simpa using hm) hin (by
          rw [next_i pre e (by omega)]
          simpa using hrest)
        exact hin2.two
theorem implEdit_loop (edits : List T_iis) (hl : edits.length ≤ 1048576) (x3 : Int) : ∀ (suf pre : List T_iis) (t : ByteArray) (ms : List T_sib), edits = pre ++ suf → t.size ≤ 65536 → ms.length ≤ 1048576 → In t ms → (∀ e ∈ suf, e.2.2.size ≤ 1048576) →
    Ev2 (fun k j => impl_EditRope_L7 k j t edits (edits.length : Int) (pre.length : Int) x3 ms) (editRun t ms suf) := by
  intro suf
  induction suf with
  | nil =>
    intro pre t ms hp ht hm hin he
    have e0 := fun k j => impl_EditRope_L7.eq t edits (edits.length : Int) (pre.length : Int) x3 ms k j
    simp only [W, W1, W2, W3, if_neg (show ¬ (pre.length : Int) < (edits.length : Int) by rw [hp]; exact end_nlt pre)] at e0
    exact Ev2.step e0 (Ev2.bind (implTree1 t ms ht) (Ev2.now _))
  | cons e suf ih =>
    intro pre t ms hp ht hm hin he
    have hle : pre.length + 1 ≤ edits.length := by rw [hp, List.length_append, List.length_cons]; omega
    have hsz := he e (by simp)
    have hr : rd edits (pre.length : Int) (0, (0, (bs []))) = e := by rw [hp]; exact rd_mid pre suf e _
    have e0 := fun k j => impl_EditRope_L7.eq t edits (edits.length : Int) (pre.length : Int) x3 ms k j
    simp only [hr, impl_EditRope_J12.eq] at e0
    simp only [W, W1, W2, W3, if_pos (show (pre.length : Int) < (edits.length : Int) by omega), if_pos (nat_ge _)] at e0
    refine Ev2.step e0 ?_
    simp only [editRun]
    have hbad : within t e = false → editRun t ms (e :: suf) = (5, [], []) := fun h => by simp [editRun, h]
    simp only [editRun] at hbad
    by_cases c1 : e.1 < 0
    · rw [hbad (by simp [within]; omega)]; simp only [if_pos c1]; exact Ev2.now _
    by_cases c2 : (t.size : Int) < e.1
    · rw [hbad (by simp [within]; omega)]; simp only [if_neg c1, if_pos c2]; exact Ev2.now _
    by_cases c3 : e.2.1 < 0
    · rw [hbad (by simp [within]; omega)]; simp only [if_neg c1, if_neg c2, if_pos c3]; exact Ev2.now _
    have a1 : subI .i64 (t.size : Int) e.1 = (t.size : Int) - e.1 := subI_i64 (by omega) (by omega)
    by_cases c4 : (t.size : Int) - e.1 < e.2.1
    · rw [hbad (by simp [within]; omega)]; simp only [a1, if_neg c1, if_neg c2, if_neg c3, if_pos c4]; exact Ev2.now _
    have hw : within t e = true := by simp [within]; omega
    have hb := behind_size hw
    have a3 : addI .i64 e.1 e.2.1 = e.1 + e.2.1 := addI_i64 (by omega) (by omega)
    have s1 : ((t.extract 0 e.1.toNat).size : Int) + (e.2.2.size : Int) ≤ 9223372036854775807 := by rw [ByteArray.size_extract]; omega
    have s2 : (((t.extract 0 e.1.toNat ++ e.2.2).size : Nat) : Int) + ((t.extract (e.1 + e.2.1).toNat t.size).size : Int) ≤ 9223372036854775807 := by rw [ByteArray.size_append, ByteArray.size_extract, ByteArray.size_extract]; omega
    simp only [a1, a3, if_neg c1, if_neg c2, if_neg c3, if_neg c4, if_pos (show (0 : Int) ≤ e.1 by omega), if_pos (show e.1 ≤ (t.size : Int) by omega), Int.toNat_zero, Int.toNat_natCast, if_pos s1, if_pos (show (0 : Int) ≤ e.1 + e.2.1 by omega), if_pos (show e.1 + e.2.1 ≤ (t.size : Int) by omega), if_pos s2]
    rw [if_pos hw]
    have hlong : Ev (fun k => impl_long k (behind t e)) (decide ((65536 : Int) < ((behind t e).size : Int))) := Ev.ret fun k => by simp only [impl_long.eq, W]
    refine Ev2.bind hlong ?_
    by_cases c : 65536 < (behind t e).size
    · rw [if_pos c]
      simp only [W1, if_pos (show (65536 : Int) < ((behind t e).size : Int) by omega)]
      exact Ev2.now _
    · rw [if_neg c]
      simp only [W1, if_neg (show ¬ (65536 : Int) < ((behind t e).size : Int) by omega)]
      refine Ev2.bind (move_ev hw ht hsz ms hm hin) ?_
      rw [next_i pre e (by omega)]
      exact ih (pre ++ [e]) (behind t e) (ms.map (mv e)) (by rw [hp]; simp) (by omega) (by simpa using hm) (in_map hw hin) (fun q hq => he q (by simp [hq]))
/-! ### the two functions -/
noncomputable def edited (r : List T_siiii) (ms : List T_sib) (edits : List T_iis) : Int × List T_siiii × List T_sib :=
  if 1000 < edits.length then (2, [], []) else brB (good r ms) (editRun (textOf r) ms edits) (1, [], [])
theorem mFrom_all (n : Nat) : ∀ (l : List T_sib) (p : Option ByteArray), mFrom n p l = true → ∀ m ∈ l, 0 ≤ m.2.1 ∧ m.2.1 ≤ (n : Int) := by
  intro l
  induction l with
  | nil => intro p _ m hm; cases hm
  | cons x l ih =>
    intro p h m hm
    have h1 : mOk n x = true ∧ mFrom n (some x.1) l = true := by
      cases p with
      | none => simpa [mFrom] using h
      | some q => simp only [mFrom, Bool.and_eq_true] at h; exact ⟨h.1, h.2.2⟩
    rcases List.mem_cons.1 hm with rfl | hm
    · have := h1.1; simp only [mOk, Bool.and_eq_true, decide_eq_true_eq] at this; exact this.2
    · exact ih _ h1.2 m hm
theorem good_in {r : List T_siiii} {ms : List T_sib} (h : good r ms = true) : In (textOf r) ms := by
  simp only [good, Bool.and_eq_true, decide_eq_true_eq] at h
  exact mFrom_all _ ms none h.2.2.2
theorem specEdit {r : List T_siiii} {ms : List T_sib} (h : Fits r ms) (edits : List T_iis) (he : ∀ e ∈ edits, e.2.2.size ≤ 1048576) : Ev (fun k => spec_EditRope k r ms edits) (edited r ms edits) := by
  have e := fun k => spec_EditRope.eq r ms edits k
  simp only [W, W1, W2, W3] at e
  unfold edited
  by_cases c : 1000 < edits.length
  · rw [if_pos c]
    simp only [if_pos (show (1000 : Int) < (edits.length : Int) by omega)] at e
    exact Ev.ret e
  · rw [if_neg c]
    simp only [if_neg (show ¬ (1000 : Int) < (edits.length : Int) by omega)] at e
    refine Ev.step e (Ev.bind (specFault h) ?_)
    rcases fault_cases r ms with ⟨h1, h2⟩ | ⟨h1, h2⟩
    · rw [h1, h2]
      simp only [if_true, W1]
      have hl := (specEdit_loop edits (by omega) edits [] (textOf r) ms rfl (good_size h1) h.l2 (good_in h1) he).ev
      have e2 := fun k => spec_l20Edit.eq r ms edits k
      simp only [W, W1, W2, W3, List.nil_append, List.length_nil] at e2
      simp only [if_pos (show ((0 : Nat) : Int) * 1 + (ms.length : Int) * 32 < 140737488355328 by have := h.l2; omega), if_pos (show (((0 : Nat) : Int) + (ms.length : Int)) * 32 < 140737488355328 by have := h.l2; omega)] at e2
      refine Ev.bind (Ev.step e2 (Ev.bind (specText r h.l1 h.t) hl)) ?_
      exact Ev.now _
    · rw [h1, h2]
      simp only [if_neg (show ¬ (1 : Int) = 0 by omega), W1]
      exact Ev.now _
theorem implEdit {r : List T_siiii} {ms : List T_sib} (h : Fits r ms) (edits : List T_iis) (he : ∀ e ∈ edits, e.2.2.size ≤ 1048576) : Ev (fun k => impl_EditRope k r ms edits) (edited r ms edits) := by
  have e := fun k => impl_EditRope.eq r ms edits k
  simp only [W, W1, W2, W3] at e
  unfold edited
  by_cases c : 1000 < edits.length
  · rw [if_pos c]
    simp only [if_pos (show (1000 : Int) < (edits.length : Int) by omega)] at e
    exact Ev.ret e
  · rw [if_neg c]
    simp only [if_neg (show ¬ (1000 : Int) < (edits.length : Int) by omega)] at e
    refine Ev.step e (Ev.bind (implFault h) ?_)
    rcases fault_cases r ms with ⟨h1, h2⟩ | ⟨h1, h2⟩
    · rw [h1, h2]
      simp only [if_true, W1]
      refine Ev.bind (implText r ms h.l1 h.t) (Ev.bind (clone_ev ms h.l2) ?_)
      exact (implEdit_loop edits (by omega) 0 edits [] (textOf r) ms rfl (good_size h1) h.l2 (good_in h1) he).ev
    · rw [h1, h2]
      simp only [if_neg (show ¬ (1 : Int) = 0 by omega), W1]
      exact Ev.now _
theorem editRun_len : ∀ (es : List T_iis) (t : ByteArray) (ms : List T_sib), t.size ≤ 65536 → ms.length ≤ 1048576 → (editRun t ms es).2.1.length ≤ 1048576 ∧ (editRun t ms es).2.2.length ≤ 1048576 := by
  intro es
  induction es with
  | nil => intro t ms ht hm; exact ⟨treeOf_len t ht, hm⟩
  | cons e es ih =>
    intro t ms ht hm
    simp only [editRun]
    split
    · split
      · exact ⟨by simp, by simp⟩
      · exact ih _ _ (by omega) (by simpa using hm)
    · exact ⟨by simp, by simp⟩
theorem edited_len {r : List T_siiii} {ms : List T_sib} (h : Fits r ms) (edits : List T_iis) : (edited r ms edits).2.1.length ≤ 1048576 ∧ (edited r ms edits).2.2.length ≤ 1048576 := by
  unfold edited
  split
  · exact ⟨by simp, by simp⟩
  · rcases fault_cases r ms with ⟨h1, _⟩ | ⟨h1, _⟩
    · rw [h1]; exact editRun_len edits _ _ (good_size h1) h.l2
    · rw [h1]; exact ⟨by simp [brB], by simp [brB]⟩
/-! ### the law -/
theorem eqOut (v : Int × List T_siiii × List T_sib) (h1 : v.2.1.length ≤ 1048576) (h2 : v.2.2.length ≤ 1048576) : Ev (fun k => laws_eqRopeOut k v.1 v.2.1 v.2.2 v.1 v.2.1 v.2.2) true := by
  have e := fun k => laws_eqRopeOut.eq v.1 v.2.1 v.2.2 v.1 v.2.1 v.2.2 k
  simp only [W, W1, W3, if_true] at e
  refine Ev.step e (Ev.bind (eqRope h1 h2) ?_)
  simp only [W1]
  exact Ev.now _
theorem markOut (v : Int × List T_siiii × List T_sib) (h1 : v.2.1.length ≤ 1048576) (h2 : v.2.2.length ≤ 1048576) : Ev (fun k => laws_markRopeOut k v.1 1 v.2.1 v.2.2) (((1 + 5 * v.2.1.length + 3 * v.2.2.length : Nat) : Int), (rowsV vNode 5 1 v.2.1.length, rowsV vMark 3 (1 + 5 * v.2.1.length) v.2.2.length)) :=
  Ev.step (fun k => laws_markRopeOut.eq v.1 1 v.2.1 v.2.2 k) (Ev.opt (markRope _ _ h1 h2) (Ev.now _))
theorem heldOut (c : Int) (n m : Nat) (h1 : n ≤ 1048576) (h2 : m ≤ 1048576) : Ev (fun k => laws_heldRopeOut k c (rowsV vNode 5 1 n) (rowsV vMark 3 (1 + 5 * n) m) 1) ((1 + 5 * n + 3 * m : Nat) : Int) := by
  have e := fun k => laws_heldRopeOut.eq c (rowsV vNode 5 1 n) (rowsV vMark 3 (1 + 5 * n) m) 1 k
  simp only [W, W1, W3] at e
  refine Ev.step e (Ev.bind (heldRope n m h1 h2) ?_)
  simp only [if_neg (show ¬ ((1 + 5 * n + 3 * m : Nat) : Int) < 0 by omega)]
  exact Ev.now _
theorem pure_FnExactEditRope (r : List T_siiii) (ms : List T_sib) (edits : List T_iis) (h1 : CT.good (.row e_siiii) r) (h2 : CT.good (.row e_sib) ms) (h3 : CT.good (.row e_iis) edits) : ∃ k, laws_FnExactEditRope k r ms edits = some true := by
  refine Ev.has (r := true) ?_
  have e := fun k => laws_FnExactEditRope.eq r ms edits k
  simp only [W, W1, W3] at e
  refine Ev.step e (Ev.bind (szRope r ms 1048576 (Nat.le_refl _) h1 h2) ?_)
  by_cases c : 1048576 < wRope r ms
  · rw [if_pos c]
    simp only [if_pos (show (-1 : Int) < 0 by omega)]
    exact Ev.now _
  rw [if_neg c]
  simp only [if_neg (show ¬ ((1048576 - wRope r ms : Nat) : Int) < 0 by omega)]
  refine Ev.bind (szEdits edits (1048576 - wRope r ms) (by omega) h3.1 (fun x hx => (h3.2 x hx).2.2)) ?_
  by_cases c2 : 1048576 - wRope r ms < wEdits edits
  · rw [if_pos c2]
    simp only [if_pos (show (-1 : Int) < 0 by omega)]
    exact Ev.now _
  rw [if_neg c2]
  simp only [if_neg (show ¬ ((1048576 - wRope r ms - wEdits edits : Nat) : Int) < 0 by omega)]
  have hf := fits_of (r := r) (ms := ms) (by omega)
  have hwe : edits.length + wsum (fun x : T_iis => x.2.2.size) edits ≤ 1048576 := by unfold wEdits at c2; omega
  have he : ∀ q ∈ edits, q.2.2.size ≤ 1048576 := fun q hq => by have := wsum_le (wt := fun x : T_iis => x.2.2.size) hq; omega
  obtain ⟨l1, l2⟩ := edited_len hf edits
  have hspec := specEdit hf edits he
  have himpl := implEdit hf edits he
  generalize edited r ms edits = v at *
  refine Ev.bind (toRope hf) (Ev.bind (toEdits edits (by omega)) (Ev.bind hspec (Ev.bind (toRope hf) (Ev.bind (toEdits edits (by omega)) (Ev.bind himpl (Ev.bind (eqOut v l1 l2) ?_))))))
  simp only [W1]
  refine Ev.bind (toRope hf) (Ev.bind (eqRope hf.l1 hf.l2) ?_)
  simp only [W1]
  refine Ev.bind (toEdits edits (by omega)) (Ev.bind (eqEdits edits edits (by omega)) ?_)
  simp only [W1, if_true]
  have hk1 := hf.l1
  have hk2 := hf.l2
  refine Ev.bind (markRope r ms hk1 hk2) (Ev.bind (markEdits edits (1 + 5 * r.length + 3 * ms.length) (by omega) (by omega)) ?_)
  simp only [if_neg (show ¬ ((1 + 5 * r.length + 3 * ms.length + 3 * edits.length : Nat) : Int) < 0 by omega)]
  refine Ev.bind (eqOut v l1 l2) ?_
  simp only [W1]
  have e23 := fun k => laws_FnExactEditRope_J23.eq edits r ms v.1 v.2.1 v.2.2 v.1 v.2.1 v.2.2 k
  simp only [W, W1, W3] at e23
  refine Ev.congr e23 (Ev.bind (markOut v l1 l2) (Ev.bind (heldOut v.1 _ _ l1 l2) ?_))
  have c9 : ¬ (((1 + 5 * v.2.1.length + 3 * v.2.2.length : Nat) : Int) < 0) := by omega
  simp only [if_neg c9, if_true]
  refine Ev.bind (toRope hf) (Ev.bind (toEdits edits (by omega)) (Ev.bind himpl (Ev.bind (eqOut v l1 l2) ?_)))
  simp only [W1]
  refine Ev.bind (heldOut v.1 _ _ l1 l2) ?_
  simp only [if_neg c9, if_true]
  exact Ev.now _
#print axioms pure_FnExactEditRope
end Go.Proofs.YtkghicadebeceaaDoor.RG
