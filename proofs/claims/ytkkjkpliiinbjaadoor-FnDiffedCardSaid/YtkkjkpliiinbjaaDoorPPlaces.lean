/- Points alone. -/
import Derived.Test.YtkkjkpliiinbjaaDoorPRows
import Derived.Test.YtkkjkpliiinbjaaDoorPChar
namespace Go.Proofs.YtkkjkpliiinbjaaDoor.DF
open Go.Eng Go.RowKit
set_option linter.unusedVariables false
set_option linter.unusedSimpArgs false
theorem only_loop (x : List T_iiib) (hl : x.length ≤ 1048576) : ∀ (suf pre : List T_iiib), x = pre ++ suf → Ev2 (fun k j => impl_onlyPoints_L3 k j x (x.length : Int) (pre.length : Int) (pre.map (·.1) ++ List.replicate suf.length 0)) (x.map (·.1)) := by
  intro suf
  induction suf with
  | nil =>
    intro pre hp
    have e := fun k j => impl_onlyPoints_L3.eq x (x.length : Int) (pre.length : Int) (pre.map (·.1) ++ List.replicate ([] : List T_iiib).length 0) k j
    simp only [W, W1, if_neg (show ¬ (pre.length : Int) < (x.length : Int) by rw [hp]; exact end_nlt pre)] at e
    have : x.map (·.1) = pre.map (·.1) ++ List.replicate ([] : List T_iiib).length 0 := by rw [hp]; simp
    rw [this]
    exact Ev2.ret e
  | cons q suf ih =>
    intro pre hp
    have hle : pre.length + 1 ≤ x.length := by rw [hp, List.length_append, List.length_cons]; omega
    have hr : rd x (pre.length : Int) (0, (0, (0, false))) = q := by rw [hp]; exact rd_mid pre suf q _
    have e := fun k j => impl_onlyPoints_L3.eq x (x.length : Int) (pre.length : Int) (pre.map (·.1) ++ List.replicate (q :: suf).length 0) k j
    have hlen : ((pre.map (·.1) ++ List.replicate (q :: suf).length (0 : Int)).length : Int) = (x.length : Int) := by rw [hp]; simp
    have hset : (pre.map (·.1) ++ List.replicate (q :: suf).length (0 : Int)).set ((pre.length : Int)).toNat q.1 = (pre ++ [q]).map (·.1) ++ List.replicate suf.length 0 := by
      rw [Int.toNat_natCast, List.set_append_right _ _ (by simp)]
      simp [List.replicate_succ]
    simp only [W, W1, W2, W3, hr, hlen, hset, if_pos (nat_ge pre.length), if_pos (show (pre.length : Int) < (x.length : Int) by omega), next_i pre q (by omega)] at e
    exact Ev2.step e (ih (pre ++ [q]) (by rw [hp]; simp))
theorem implOnly (x : List T_iiib) (hl : x.length ≤ 1048576) : Ev (fun k => impl_onlyPoints k x) (x.map (·.1)) := by
  have e := fun k => impl_onlyPoints.eq x k
  simp only [W, W1, W2, W3, if_pos (nat_ge x.length), if_pos (Int.le_refl _), if_pos (show (x.length : Int) * 8 < 140737488355328 by omega)] at e
  have h := (only_loop x hl x [] rfl).ev
  refine Ev.step e ?_
  simpa using h
def pcs (t : ByteArray) : List Int → List ByteArray
  | a :: b :: r => t.extract a.toNat b.toNat :: pcs t (b :: r)
  | _ => []
def Rise (n : Int) : List Int → Prop
  | a :: b :: r => 0 ≤ a ∧ a ≤ b ∧ b ≤ n ∧ Rise n (b :: r)
  | _ => True
theorem specPieces_loop (t : ByteArray) (cuts : List Int) (hl : cuts.length ≤ 1048576) : ∀ (suf pre : List Int) (out : List ByteArray), cuts = pre ++ suf → out.length ≤ pre.length → Rise (t.size : Int) suf → Ev2 (fun k j => spec_l07Pieces_L3 k j t cuts (pre.length : Int) out) (out ++ pcs t suf) := by
  intro suf
  induction suf with
  | nil =>
    intro pre out hp ho hr
    have e := fun k j => spec_l07Pieces_L3.eq t cuts (pre.length : Int) out k j
    have hle : pre.length = cuts.length := by rw [hp]; simp
    have hadd : addI .i64 (pre.length : Int) 1 = (pre.length : Int) + 1 := addI_i64 (by omega) (by omega)
    simp only [W, W1, W2, hadd, if_neg (show ¬ (pre.length : Int) + 1 < (cuts.length : Int) by omega)] at e
    rw [show pcs t [] = [] from rfl, List.append_nil]
    exact Ev2.ret e
  | cons a suf ih =>
    intro pre out hp ho hr
    have e := fun k j => spec_l07Pieces_L3.eq t cuts (pre.length : Int) out k j
    have hle : pre.length + 1 + suf.length = cuts.length := by rw [hp, List.length_append, List.length_cons]; omega
    have hadd : addI .i64 (pre.length : Int) 1 = (pre.length : Int) + 1 := addI_i64 (by omega) (by omega)
    cases suf with
    | nil =>
      simp only [List.length_nil] at hle
      simp only [W, W1, W2, hadd, if_neg (show ¬ (pre.length : Int) + 1 < (cuts.length : Int) by omega)] at e
      rw [show pcs t [a] = [] from rfl, List.append_nil]
      exact Ev2.ret e
    | cons b r =>
      simp only [List.length_cons] at hle
      obtain ⟨h1, h2, h3, h4⟩ := hr
      have ra : rd cuts (pre.length : Int) 0 = a := by rw [hp]; exact rd_mid pre (b :: r) a _
      have hpl : (pre.length : Int) + 1 = ((pre ++ [a]).length : Int) := by simp
      have rb : rd cuts ((pre.length : Int) + 1) 0 = b := by
        rw [hpl, hp, show pre ++ a :: b :: r = (pre ++ [a]) ++ b :: r by simp]
        exact rd_mid (pre ++ [a]) r b _
      simp only [W, W1, W2, hadd, ra, rb, List.length_cons, List.length_nil, if_pos (show (pre.length : Int) + 1 < (cuts.length : Int) by omega), if_pos (nat_ge pre.length), if_pos (show (pre.length : Int) < (cuts.length : Int) by omega), if_pos (show (0 : Int) ≤ (pre.length : Int) + 1 by omega), if_pos h1, if_pos h2, if_pos h3, if_pos (show ((out.length : Int) + ((0 + 1 : Nat) : Int)) * 16 < 140737488355328 by omega)] at e
      have h := ih (pre ++ [a]) (out ++ [t.extract a.toNat b.toNat]) (by rw [hp]; simp) (by simp; omega) h4
      rw [← hpl, List.append_assoc] at h
      exact Ev2.step e h
theorem specPieces (t : ByteArray) (cuts : List Int) (hl : cuts.length ≤ 1048576) (hr : Rise (t.size : Int) cuts) : Ev (fun k => spec_l07Pieces k t cuts) (pcs t cuts) := by
  have h := (specPieces_loop t cuts hl cuts [] [] rfl (Nat.le_refl _) hr).ev
  exact Ev.step (fun k => spec_l07Pieces.eq t cuts k) h
theorem implPieces_loop (t : ByteArray) (cuts : List Int) (hl : cuts.length ≤ 1048576) : ∀ (suf pre : List Int) (a : Int) (out : List ByteArray), cuts = pre ++ a :: suf → out.length ≤ pre.length → Rise (t.size : Int) (a :: suf) → Ev2 (fun k j => impl_piecesOf_L3'1 k j t cuts ((pre.length : Int) + 1) out) (out ++ pcs t (a :: suf)) := by
  intro suf
  induction suf with
  | nil =>
    intro pre a out hp ho hr
    have hle : pre.length + 1 = cuts.length := by rw [hp]; simp
    have e := fun k j => impl_piecesOf_L3'1.eq t cuts ((pre.length : Int) + 1) out k j
    simp only [W, W1, W2, if_neg (show ¬ (pre.length : Int) + 1 < (cuts.length : Int) by omega)] at e
    rw [show pcs t [a] = [] from rfl, List.append_nil]
    exact Ev2.ret e
  | cons b r ih =>
    intro pre a out hp ho hr
    have hle : pre.length + 2 + r.length = cuts.length := by rw [hp, List.length_append, List.length_cons, List.length_cons]; omega
    obtain ⟨h1, h2, h3, h4⟩ := hr
    have hsub : subI .i64 ((pre.length : Int) + 1) 1 = (pre.length : Int) := by rw [subI_i64 (by omega) (by omega)]; omega
    have hadd : addI .i64 ((pre.length : Int) + 1) 1 = ((pre ++ [a]).length : Int) + 1 := by rw [addI_i64 (by omega) (by omega)]; simp
    have ra : rd cuts (pre.length : Int) 0 = a := by rw [hp]; exact rd_mid pre (b :: r) a _
    have hpl : (pre.length : Int) + 1 = ((pre ++ [a]).length : Int) := by simp
    have rb : rd cuts ((pre.length : Int) + 1) 0 = b := by
      rw [hpl, hp, show pre ++ a :: b :: r = (pre ++ [a]) ++ b :: r by simp]
      exact rd_mid (pre ++ [a]) r b _
    have e := fun k j => impl_piecesOf_L3'1.eq t cuts ((pre.length : Int) + 1) out k j
    simp only [W, W1, W2, hadd, hsub, ra, rb, List.length_cons, List.length_nil, if_pos (show (pre.length : Int) + 1 < (cuts.length : Int) by omega), if_pos (nat_ge pre.length), if_pos (show (pre.length : Int) < (cuts.length : Int) by omega), if_pos (show (0 : Int) ≤ (pre.length : Int) + 1 by omega), if_pos h1, if_pos h2, if_pos h3, if_pos (show ((out.length : Int) + ((0 + 1 : Nat) : Int)) * 16 < 140737488355328 by omega)] at e
    have h := ih (pre ++ [a]) b (out ++ [t.extract a.toNat b.toNat]) (by rw [hp]; simp) (by simp; omega) h4
    rw [List.append_assoc] at h
    exact Ev2.step e h
end Go.Proofs.YtkkjkpliiinbjaaDoor.DF
