/- A mark put among others: both programs; the law. -/
import Derived.Test.YtfbhkkedmfbgbaaDoorPPutB
namespace Go.Proofs.YtfbhkkedmfbgbaaDoor.PM
open Go.Eng Go.RowKit Go.Sort
set_option linter.unusedVariables false
set_option linter.unusedSimpArgs false
/-- what PutMark answers -/
noncomputable def putOut (r : List T_siiii) (ms : List T_sib) (m : T_sib) : Int × List T_siiii × List T_sib :=
  if good r ms = true ∧ mOk (textOf r).size m = true then (if (bare m ms).length = 100 then (4, [], []) else (0, r, put m ms)) else (1, [], [])
theorem room (a b : List T_sib) (h : a.length + b.length ≤ 2097152) : ((a.length : Int) + (b.length : Int)) * 32 < 140737488355328 := by omega
theorem bare_len (m : T_sib) (l : List T_sib) : (bare m l).length ≤ l.length := List.length_filter_le _ _
theorem put_len (m : T_sib) (l : List T_sib) : (put m l).length = (bare m l).length + 1 := by rw [(put_perm m l).length_eq]; simp
theorem good_asc {r : List T_siiii} {ms : List T_sib} (h : good r ms = true) : ms.Pairwise ltM ∧ ms.length ≤ 100 ∧ mFrom (textOf r).size none ms = true := by
  simp only [good, Bool.and_eq_true, decide_eq_true_eq] at h
  exact ⟨(mFrom_asc _ _ _ h.2.2.2).1, h.2.1, h.2.2.2⟩
theorem cloneM (l : List T_sib) (hl : l.length ≤ 1048576) : Ev (fun k => slices_Clone_Mark_Mark k l) l := by
  refine Ev.ret fun k => ?_
  have e : slices_Clone_Mark_Mark (k + 1) l = chk (ltI (mulZ (addZ (ln ([] : List T_sib)) (ln l)) 32) 140737488355328) (some (catL [] l)) := by kernel_rfl
  rw [e]
  simp only [W, W1, W2, List.length_nil]
  rw [if_pos (by simp; omega)]
  rfl
theorem cloneN (l : List T_siiii) (hl : l.length ≤ 1048576) : Ev (fun k => slices_Clone_RopeNode_RopeNode k l) l := by
  refine Ev.ret fun k => ?_
  have e : slices_Clone_RopeNode_RopeNode (k + 1) l = chk (ltI (mulZ (addZ (ln ([] : List T_siiii)) (ln l)) 48) 140737488355328) (some (catL [] l)) := by kernel_rfl
  rw [e]
  simp only [W, W1, W2, List.length_nil]
  rw [if_pos (by simp; omega)]
  rfl
theorem implPut {r : List T_siiii} {ms : List T_sib} (h : Fits r ms) (m : T_sib) (hm : m.1.size ≤ 1048576) : Ev (fun k => impl_PutMark k r ms m.1 m.2.1 m.2.2) (putOut r ms m) := by
  have e := fun k => impl_PutMark.eq r ms m.1 m.2.1 m.2.2 k
  simp only [W, W1, W3] at e
  refine Ev.step e (Ev.bind (implFault h) ?_)
  unfold putOut
  rcases fault_cases r ms with ⟨g, f⟩ | ⟨g, f⟩
  · obtain ⟨ha, hl, hf⟩ := good_asc g
    have hts := good_size g
    rw [f, g]
    simp only [if_true, true_and]
    refine Ev.bind (implName m.1 (by omega)) ?_
    unfold mOk
    cases hn : nameOk m.1 with
    | false => simp only [W1, Bool.false_and, Bool.false_eq_true, if_false]; exact Ev.now _
    | true =>
      simp only [W1, Bool.true_and]
      by_cases c1 : m.2.1 < 0
      · simp only [if_pos c1]
        rw [if_neg (by simp; omega)]
        exact Ev.now _
      simp only [if_neg c1]
      refine Ev.bind (implText r ms h.l1 h.t) ?_
      by_cases c2 : ((textOf r).size : Int) < m.2.1
      · simp only [if_pos c2]
        rw [if_neg (by simp; omega)]
        exact Ev.now _
      simp only [if_neg c2]
      rw [if_pos (by simp; omega)]
      have e3 := fun k => impl_PutMark_J3.eq r ms m.1 m.2.1 m.2.2 0 k
      simp only [W, W1, W2, W3] at e3
      refine Ev.congr e3 (Ev.bind (cloneM ms h.l2) (Ev.bind (delete_ev m ms h.l2) ?_))
      have hb := bare_len m ms
      by_cases c3 : (bare m ms).length = 100
      · rw [if_pos c3]
        simp only [if_pos (show ((bare m ms).length : Int) = 100 by omega)]
        exact Ev.now _
      · rw [if_neg c3]
        simp only [if_neg (show ¬ ((bare m ms).length : Int) = 100 by omega), if_pos (room (bare m ms) [(m.1, m.2.1, m.2.2)] (by simp; omega))]
        refine Ev.bind (sort_ev (bare m ms ++ [m]) (by simp) (by simp; omega)) (Ev.bind (cloneN r h.l1) ?_)
        rw [srt_put m ha]
        exact Ev.now _
  · rw [f, if_neg (show ¬ (good r ms = true ∧ _) from fun q => by rw [g] at q; cases q.1)]
    exact Ev.of fun k => by rw [if_neg (by decide)]
theorem specJ15 (r : List T_siiii) (ms marks : List T_sib) (h : r.length ≤ 1048576) : Ev (fun k => spec_PutMark_J15 k r ms 0 marks) (if 100 < marks.length then (4, [], []) else (0, r, marks)) := by
  have e := fun k => spec_PutMark_J15.eq r ms 0 marks k
  simp only [W, W1, W2] at e
  refine Ev.of fun k => ?_
  rw [e]
  by_cases c : 100 < marks.length
  · rw [if_pos (show (100 : Int) < (marks.length : Int) by omega), if_pos c]
  · rw [if_neg (show ¬ (100 : Int) < (marks.length : Int) by omega), if_neg c, if_pos (by simp; omega)]
    rfl
theorem specPut_in (r : List T_siiii) (l : List T_sib) (m : T_sib) (hr : r.length ≤ 1048576) (hl : l.length ≤ 1048576) : ∀ (suf pre marks : List T_sib), l = pre ++ suf → marks.length ≤ pre.length + 1 →
    Ev2 (fun k j => spec_PutMark_L6 k j true (pre.length : Int) r l m.1 m.2.1 m.2.2 0 marks) (if 100 < (marks ++ bare m suf).length then (4, [], []) else (0, r, marks ++ bare m suf))
  | [], pre, marks, hs, hm => by
    have e := fun k j => spec_PutMark_L6.eq true (pre.length : Int) r l m.1 m.2.1 m.2.2 0 marks k j
    rw [List.append_nil] at hs
    subst hs
    simp only [W, W1, W2, if_neg (Int.lt_irrefl _)] at e
    refine Ev2.step e ?_
    have := (specJ15 r l marks hr).two
    simpa [bare] using this
  | x :: suf, pre, marks, hs, hm => by
    have e := fun k j => spec_PutMark_L6.eq true (pre.length : Int) r l m.1 m.2.1 m.2.2 0 marks k j
    have hlen : pre.length + 1 ≤ l.length := by rw [hs]; simp
    have hr2 : rd l (pre.length : Int) (bs [], (0, false)) = x := by rw [hs]; exact rd_mid pre suf x _
    simp only [W, W1, W2, W3, hr2, if_pos (show (pre.length : Int) < (l.length : Int) by omega), if_pos (nat_ge _)] at e
    have ej := fun k j => spec_PutMark_J11.eq true (pre.length : Int) r l m.1 m.2.1 m.2.2 0 marks k j
    simp only [W, W1, W2, W3, hr2, if_pos (show (pre.length : Int) < (l.length : Int) by omega), if_pos (nat_ge _), next_i pre x (by omega)] at ej
    refine Ev2.step e (Ev2.congr ej ?_)
    by_cases c : x.1 = m.1
    · simp only [if_pos c]
      rw [bare_cons_eq c]
      exact specPut_in r l m hr hl suf (pre ++ [x]) marks (by rw [hs]; simp) (by simp; omega)
    · simp only [if_neg c]
      rw [bare_cons_ne c]
      simp only [if_pos (room marks [(x.1, x.2.1, x.2.2)] (by simp; omega))]
      have ih := specPut_in r l m hr hl suf (pre ++ [x]) (marks ++ [x]) (by rw [hs]; simp) (by simp; omega)
      simp only [List.append_assoc, List.cons_append, List.nil_append] at ih ⊢
      exact ih
theorem specPut_out (r : List T_siiii) (l : List T_sib) (m : T_sib) (hr : r.length ≤ 1048576) (hl : l.length ≤ 1048576) : ∀ (suf pre : List T_sib), l = pre ++ suf → 
    Ev2 (fun k j => spec_PutMark_L6 k j false (pre.length : Int) r l m.1 m.2.1 m.2.2 0 pre) (if 100 < (pre ++ put m suf).length then (4, [], []) else (0, r, pre ++ put m suf))
  | [], pre, hs => by
    have e := fun k j => spec_PutMark_L6.eq false (pre.length : Int) r l m.1 m.2.1 m.2.2 0 pre k j
    rw [List.append_nil] at hs
    subst hs
    simp only [W, W1, W2, if_neg (Int.lt_irrefl _), if_pos (room l [(m.1, m.2.1, m.2.2)] (by simp; omega))] at e
    exact Ev2.step e (specJ15 r l (l ++ [m]) hr).two
  | x :: suf, pre, hs => by
    have e := fun k j => spec_PutMark_L6.eq false (pre.length : Int) r l m.1 m.2.1 m.2.2 0 pre k j
    have hlen : pre.length + 1 ≤ l.length := by rw [hs]; simp
    have hr2 : rd l (pre.length : Int) (bs [], (0, false)) = x := by rw [hs]; exact rd_mid pre suf x _
    simp only [W, W1, W2, W3, hr2, if_pos (show (pre.length : Int) < (l.length : Int) by omega), if_pos (nat_ge _)] at e
    have hlx : Op.bytesLess x.1.toList m.1.toList = less x.1 m.1 := rfl
    rw [hlx] at e
    unfold put
    cases c : less x.1 m.1 with
    | true =>
      simp only [c, W1, if_true] at e ⊢
      have ej := fun k j => spec_PutMark_J11.eq false (pre.length : Int) r l m.1 m.2.1 m.2.2 0 pre k j
      simp only [W, W1, W2, W3, hr2, if_pos (show (pre.length : Int) < (l.length : Int) by omega), if_pos (nat_ge _), next_i pre x (by omega), if_neg (ne_of_less c)] at ej
      refine Ev2.step e (Ev2.congr ej ?_)
      simp only [if_pos (room pre [(x.1, x.2.1, x.2.2)] (by simp; omega))]
      have ih := specPut_out r l m hr hl suf (pre ++ [x]) (by rw [hs]; simp)
      simp only [List.append_assoc, List.cons_append, List.nil_append] at ih ⊢
      exact ih
    | false =>
      simp only [c, W1, Bool.false_eq_true, if_false, if_pos (room pre [(m.1, m.2.1, m.2.2)] (by simp; omega))] at e ⊢
      have ej := fun k j => spec_PutMark_J11.eq true (pre.length : Int) r l m.1 m.2.1 m.2.2 0 (pre ++ [m]) k j
      simp only [W, W1, W2, W3, hr2, if_pos (show (pre.length : Int) < (l.length : Int) by omega), if_pos (nat_ge _), next_i pre x (by omega)] at ej
      refine Ev2.step e (Ev2.congr ej ?_)
      by_cases d : x.1 = m.1
      · simp only [if_pos d]
        rw [bare_cons_eq d]
        have ih := specPut_in r l m hr hl suf (pre ++ [x]) (pre ++ [m]) (by rw [hs]; simp) (by simp)
        simp only [List.append_assoc, List.cons_append, List.nil_append] at ih ⊢
        exact ih
      · simp only [if_neg d]
        rw [bare_cons_ne d]
        simp only [if_pos (room (pre ++ [m]) [(x.1, x.2.1, x.2.2)] (by simp; omega))]
        have ih := specPut_in r l m hr hl suf (pre ++ [x]) (pre ++ [m] ++ [x]) (by rw [hs]; simp) (by simp)
        simp only [List.append_assoc, List.cons_append, List.nil_append] at ih ⊢
        exact ih
theorem specPutM {r : List T_siiii} {ms : List T_sib} (h : Fits r ms) (m : T_sib) (hm : m.1.size ≤ 1048576) : Ev (fun k => spec_PutMark k r ms m.1 m.2.1 m.2.2) (putOut r ms m) := by
  have e := fun k => spec_PutMark.eq r ms m.1 m.2.1 m.2.2 k
  simp only [W, W1, W3] at e
  refine Ev.step e (Ev.bind (specFault h) ?_)
  unfold putOut
  rcases fault_cases r ms with ⟨g, f⟩ | ⟨g, f⟩
  · obtain ⟨ha, hl, hf⟩ := good_asc g
    rw [f, g]
    simp only [if_true, true_and]
    refine Ev.bind (specText r h.l1 h.t) (Ev.bind (specMark m (textOf r).size (by omega)) ?_)
    cases hk : mOk (textOf r).size m with
    | false => simp only [W1, Bool.false_eq_true, if_false]; exact Ev.now _
    | true =>
      simp only [W1, if_true]
      have := (specPut_out r ms m h.l1 h.l2 ms [] rfl).ev
      simp only [List.nil_append, put_len] at this
      have hb := bare_len m ms
      by_cases c : (bare m ms).length = 100
      · rw [if_pos (by omega)] at this
        rw [if_pos c]
        exact this
      · rw [if_neg (by omega)] at this
        rw [if_neg c]
        exact this
  · rw [f, if_neg (show ¬ (good r ms = true ∧ _) from fun q => by rw [g] at q; cases q.1)]
    exact Ev.of fun k => by rw [if_neg (by decide)]
theorem putOut_len {r : List T_siiii} {ms : List T_sib} (h : Fits r ms) (m : T_sib) : (putOut r ms m).2.1.length ≤ 1048576 ∧ (putOut r ms m).2.2.length ≤ 1048576 := by
  unfold putOut
  have hb := bare_len m ms
  split
  · rename_i hg
    obtain ⟨ha, hl, hf⟩ := good_asc hg.1
    split
    · exact ⟨by simp, by simp⟩
    · exact ⟨h.l1, by rw [put_len]; omega⟩
  · exact ⟨by simp, by simp⟩
/-! ### the law -/
theorem eqOutP (v : Int × List T_siiii × List T_sib) (h1 : v.2.1.length ≤ 1048576) (h2 : v.2.2.length ≤ 1048576) : Ev (fun k => laws_eqRopeOut k v.1 v.2.1 v.2.2 v.1 v.2.1 v.2.2) true := by
  have e := fun k => laws_eqRopeOut.eq v.1 v.2.1 v.2.2 v.1 v.2.1 v.2.2 k
  simp only [W, W1, W3, if_true] at e
  refine Ev.step e (Ev.bind (eqRope h1 h2) ?_)
  simp only [W1]
  exact Ev.now _
theorem markOutP (v : Int × List T_siiii × List T_sib) (h1 : v.2.1.length ≤ 1048576) (h2 : v.2.2.length ≤ 1048576) : Ev (fun k => laws_markRopeOut k v.1 1 v.2.1 v.2.2) (((1 + 5 * v.2.1.length + 3 * v.2.2.length : Nat) : Int), (rowsV vNode 5 1 v.2.1.length, rowsV vMark 3 (1 + 5 * v.2.1.length) v.2.2.length)) :=
  Ev.step (fun k => laws_markRopeOut.eq v.1 1 v.2.1 v.2.2 k) (Ev.opt (markRope _ _ h1 h2) (Ev.now _))
theorem heldOutP (c : Int) (n m : Nat) (h1 : n ≤ 1048576) (h2 : m ≤ 1048576) : Ev (fun k => laws_heldRopeOut k c (rowsV vNode 5 1 n) (rowsV vMark 3 (1 + 5 * n) m) 1) ((1 + 5 * n + 3 * m : Nat) : Int) := by
  have e := fun k => laws_heldRopeOut.eq c (rowsV vNode 5 1 n) (rowsV vMark 3 (1 + 5 * n) m) 1 k
  simp only [W, W1, W3] at e
  refine Ev.step e (Ev.bind (heldRope n m h1 h2) ?_)
  simp only [if_neg (show ¬ ((1 + 5 * n + 3 * m : Nat) : Int) < 0 by omega)]
  exact Ev.now _
end Go.Proofs.YtfbhkkedmfbgbaaDoor.PM
