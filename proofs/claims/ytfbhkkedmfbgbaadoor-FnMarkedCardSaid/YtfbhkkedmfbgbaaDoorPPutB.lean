/- A mark put among others: what the two programs compute. -/
import Derived.Test.YtfbhkkedmfbgbaaDoorPPut
namespace Go.Proofs.YtfbhkkedmfbgbaaDoor.PM
open Go.Eng Go.RowKit Go.Sort
set_option linter.unusedVariables false
set_option linter.unusedSimpArgs false
/-! ### the order that the sort is given -/
def cmpN (x y : T_sib) : Int := Lib.compareBytes x.1.data.toList y.1.data.toList
theorem cmpB_neg : ∀ (a b : List UInt8), decide (Lib.compareBytes a b < 0) = decide (a < b)
  | [], [] => by simp [Lib.compareBytes]
  | _ :: _, [] => by simp [Lib.compareBytes]
  | [], _ :: _ => by simp [Lib.compareBytes]
  | a :: x, b :: y => by
    unfold Lib.compareBytes
    by_cases h1 : a < b
    · rw [if_pos h1]; simp [List.cons_lt_cons_iff, h1]
    · rw [if_neg h1]
      by_cases h2 : b < a
      · rw [if_pos h2]
        have : ¬ a = b := fun h => by subst h; exact h1 h2
        simp [List.cons_lt_cons_iff, h1, this]
      · rw [if_neg h2]
        have hab : a = b := by
          have h1' : ¬ a.toNat < b.toNat := h1
          have h2' : ¬ b.toNat < a.toNat := h2
          exact UInt8.toNat_inj.1 (by omega)
        subst hab
        rw [cmpB_neg x y]
        simp [List.cons_lt_cons_iff, h1]
theorem lt_less (x y : T_sib) : Go.Proofs.ltOf cmpN x y = less x.1 y.1 := by
  unfold Go.Proofs.ltOf cmpN
  rw [cmpB_neg, less_dec]
theorem swoM : SWO (Go.Proofs.ltOf cmpN) where
  irrefl x := by rw [lt_less]; exact less_irr _
  trans x y z h1 h2 := by rw [lt_less] at *; exact less_trans h1 h2
  ntrans x y z h1 h2 := by
    rw [lt_less] at *
    cases h : less x.1 z.1 with
    | false => rfl
    | true =>
      exfalso
      cases hyx : less y.1 x.1 with
      | true => have q := less_trans hyx h; rw [h2] at q; cases q
      | false =>
        have e := less_tri h1 hyx
        rw [e] at h
        rw [h] at h2
        cases h2
theorem srt_put (m : T_sib) {l : List T_sib} (h : l.Pairwise ltM) : srtF cmpN (bare m l ++ [m]) = put m l := by
  obtain ⟨h1, h2⟩ := srtF_perm swoM (bare m l ++ [m])
  refine (sorted_uniq _ _ ((put_perm m l).trans h1.symm) (put_asc m l h) (h2.imp fun {a b} hab => ?_)).symm
  rw [lt_less] at hab
  exact hab
theorem sort_ev (l : List T_sib) (h0 : 0 < l.length) (hl : l.length ≤ 1048576) : Ev (fun k => slices_SortFunc_Mark_Mark k l) ((), srtF cmpN l) := by
  refine Ev.ret fun k => ?_
  have e : slices_SortFunc_Mark_Mark (k + 1) l = if 0 < List.length (α := T_sib) l ∧ List.length (α := T_sib) l < 4611686018427387904 then some ((), srtF cmpN l) else none := by rfl
  rw [e, if_pos ⟨h0, by omega⟩]
/-! ### slices.DeleteFunc -/
theorem delOne_ev (x m : T_sib) : Ev (fun k => impl_PutMark_1 k x.1 x.2.1 x.2.2 m.1 m.2.1 m.2.2) (decide (x.1 = m.1), m) := by
  refine Ev.ret fun k => ?_
  rw [impl_PutMark_1.eq, bytesEq_dec]
theorem index_loop (m : T_sib) (l : List T_sib) (hl : l.length ≤ 1048576) : ∀ (suf pre : List T_sib), l = pre ++ suf → bare m pre = pre →
    ∃ r : Int, Ev2 (fun k j => slices_IndexFunc_Mark_Mark_L2 k j l (l.length : Int) (pre.length : Int) m.1 m.2.1 m.2.2) (r, m) ∧ ((r = -1 ∧ bare m l = l) ∨ ∃ A x B, l = A ++ x :: B ∧ x.1 = m.1 ∧ bare m A = A ∧ r = (A.length : Int))
  | [], pre, hs, hb => by
    have e := fun k j => slices_IndexFunc_Mark_Mark_L2.eq l (l.length : Int) (pre.length : Int) m.1 m.2.1 m.2.2 k j
    rw [List.append_nil] at hs
    subst hs
    simp only [W, W1, W2, W3, if_neg (Int.lt_irrefl _)] at e
    exact ⟨-1, Ev2.ret e, .inl ⟨rfl, hb⟩⟩
  | x :: suf, pre, hs, hb => by
    have e := fun k j => slices_IndexFunc_Mark_Mark_L2.eq l (l.length : Int) (pre.length : Int) m.1 m.2.1 m.2.2 k j
    have hlen : pre.length + 1 ≤ l.length := by rw [hs]; simp
    have hr : rd l (pre.length : Int) (bs [], (0, false)) = x := by rw [hs]; exact rd_mid pre suf x _
    simp only [W, W1, W2, W3, hr, if_pos (show (pre.length : Int) < (l.length : Int) by omega), if_pos (nat_ge _), next_i pre x (by omega)] at e
    by_cases c : x.1 = m.1
    · refine ⟨(pre.length : Int), Ev2.step e (Ev2.bind (delOne_ev x m) ?_), .inr ⟨pre, x, suf, hs, c, hb, rfl⟩⟩
      simp only [decide_eq_true c, W1]
      exact Ev2.now _
    · obtain ⟨r, h1, h2⟩ := index_loop m l hl suf (pre ++ [x]) (by rw [hs]; simp) (by simp only [bare, List.filter_append] at hb ⊢; rw [hb]; simp [c])
      refine ⟨r, Ev2.step e (Ev2.bind (delOne_ev x m) ?_), h2⟩
      simp only [decide_eq_false c, W1]
      exact h1
theorem cut_end (A B : List T_sib) (z : T_sib) : (A ++ B).take A.length ++ List.replicate (((A ++ B).length : Int) - (A.length : Int)).toNat z ++ (A ++ B).drop (A ++ B).length = A ++ List.replicate B.length z := by
  simp
  omega
theorem del_loop (m : T_sib) : ∀ (suf A B : List T_sib) (b : T_sib), (A ++ b :: B ++ suf).length ≤ 1048576 →
    Ev2 (fun k j => slices_DeleteFunc_Mark_Mark_L5 k j (A.length : Int) ((A ++ b :: B).length : Int) (A ++ b :: B ++ suf) m.1 m.2.1 m.2.2) (A ++ bare m suf, ((), m))
  | [], A, B, b, hl => by
    have e := fun k j => slices_DeleteFunc_Mark_Mark_L5.eq (A.length : Int) ((A ++ b :: B).length : Int) (A ++ b :: B ++ []) m.1 m.2.1 m.2.2 k j
    rw [List.append_nil] at e hl ⊢
    refine Ev2.ret fun k j => ?_
    rw [e]
    simp only [W, W1, W2, if_neg (Int.lt_irrefl _), Int.toNat_natCast, if_pos (nat_ge _)]
    rw [if_pos (show (A.length : Int) ≤ ((A ++ b :: B).length : Int) by simp; omega)]
    rw [cut_end A (b :: B)]
    rw [if_pos (show (A.length : Int) ≤ ((A ++ List.replicate (b :: B).length _ : List T_sib).length : Int) by simp only [List.length_append]; omega)]
    simp [bare]
  | x :: suf, A, B, b, hl => by
    have e := fun k j => slices_DeleteFunc_Mark_Mark_L5.eq (A.length : Int) ((A ++ b :: B).length : Int) (A ++ b :: B ++ x :: suf) m.1 m.2.1 m.2.2 k j
    have hlen : (A ++ b :: B).length + 1 ≤ (A ++ b :: B ++ x :: suf).length := by simp only [List.length_append, List.length_cons]; omega
    have hlA : A.length + 1 ≤ (A ++ b :: B ++ x :: suf).length := by simp only [List.length_append, List.length_cons]; omega
    have hr : rd (A ++ b :: B ++ x :: suf) ((A ++ b :: B).length : Int) (bs [], (0, false)) = x := rd_mid (A ++ b :: B) suf x _
    have hs : (A ++ b :: B ++ x :: suf).set ((A.length : Int)).toNat x = A ++ x :: B ++ x :: suf := by simp
    simp only [W, W1, W2, W3, hr, if_pos (show ((A ++ b :: B).length : Int) < ((A ++ b :: B ++ x :: suf).length : Int) by omega), if_pos (nat_ge _), next_i (A ++ b :: B) x (by omega), if_pos (show (A.length : Int) < ((A ++ b :: B ++ x :: suf).length : Int) by omega), hs, next_i A x (by omega)] at e
    refine Ev2.step e (Ev2.bind (delOne_ev x m) ?_)
    by_cases c : x.1 = m.1
    · simp only [decide_eq_true c, W1]
      rw [bare_cons_eq c]
      have ih := del_loop m suf A (B ++ [x]) b (by simp at hl ⊢; omega)
      simp only [List.append_assoc, List.cons_append, List.nil_append] at ih ⊢
      exact ih
    · simp only [decide_eq_false c, W1]
      rw [bare_cons_ne c]
      cases B with
      | nil =>
        have ih := del_loop m suf (A ++ [x]) [] x (by simp at hl ⊢; omega)
        simp only [List.append_assoc, List.cons_append, List.nil_append] at ih ⊢
        simpa using ih
      | cons b' B =>
        have ih := del_loop m suf (A ++ [x]) (B ++ [x]) b' (by simp at hl ⊢; omega)
        simp only [List.append_assoc, List.cons_append, List.nil_append] at ih ⊢
        simpa using ih
theorem delete_ev (m : T_sib) (l : List T_sib) (hl : l.length ≤ 1048576) : Ev (fun k => slices_DeleteFunc_Mark_Mark k l m.1 m.2.1 m.2.2) (bare m l, ((), m)) := by
  obtain ⟨r, h1, h2⟩ := index_loop m l hl l [] rfl rfl
  have e := fun k => slices_DeleteFunc_Mark_Mark.eq l m.1 m.2.1 m.2.2 k
  have ei := fun k => slices_IndexFunc_Mark_Mark.eq l m.1 m.2.1 m.2.2 k
  simp only [W2] at ei
  simp only [W, W1, W3] at e
  refine Ev.step e (Ev.bind (Ev.step ei h1.ev) ?_)
  rcases h2 with ⟨rfl, hb⟩ | ⟨A, x, B, rfl, hx, hA, rfl⟩
  · refine Ev.of fun k => ?_
    rw [if_pos rfl, hb]
  · simp only [if_neg (show ¬ (A.length : Int) = -1 by omega), next_i A x (by simp at hl; omega)]
    have := del_loop m B A [] x (by simpa using hl)
    have hb : bare m (A ++ x :: B) = A ++ bare m B := by
      show List.filter _ _ = _
      rw [List.filter_append]
      show bare m A ++ bare m (x :: B) = _
      rw [hA, bare_cons_eq hx]
    rw [hb]
    simpa using this.ev
end Go.Proofs.YtfbhkkedmfbgbaaDoor.PM
