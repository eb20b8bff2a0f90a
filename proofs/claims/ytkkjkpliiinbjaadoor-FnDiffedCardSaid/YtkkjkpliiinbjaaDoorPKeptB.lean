/- What two rows keep of each other: the way through the table, by both sides. -/
import Derived.Test.YtkkjkpliiinbjaaDoorPKeptA
namespace Go.Proofs.YtkkjkpliiinbjaaDoor.DF
open Go.Eng Go.RowKit
set_option linter.unusedVariables false
set_option linter.unusedSimpArgs false
def low (m : List (List Int)) (i j : Nat) : Bool := decide (rd (rd m (i : Int) []) ((j + 1 : Nat) : Int) 0 ≤ rd (rd m ((i + 1 : Nat) : Int) []) (j : Int) 0)
section
variable (a b : List ByteArray) (m : List (List Int))
def same (i j : Nat) : Prop := rd a (i : Int) (bs []) = rd b (j : Int) (bs [])
noncomputable def kp : Nat → Nat → Nat → List (Int × Int)
  | 0, _, _ => []
  | f + 1, i, j => if i < a.length ∧ j < b.length then (if rd a (i : Int) (bs []) = rd b (j : Int) (bs []) then ((i : Int), (j : Int)) :: kp f (i + 1) (j + 1) else if low m i j = true then kp f (i + 1) j else kp f i (j + 1)) else []
noncomputable def sp : Nat → Nat → Nat → List Int
  | 0, _, _ => []
  | f + 1, i, j => if i < a.length then (if j < b.length ∧ rd a (i : Int) (bs []) = rd b (j : Int) (bs []) then (j : Int) :: sp f (i + 1) (j + 1) else if j = b.length then (-1) :: sp f (i + 1) j else if low m i j = true then (-1) :: sp f (i + 1) j else sp f i (j + 1)) else []
variable (ha : a.length ≤ 1000) (hb : b.length ≤ 1000) (hm : m.length = a.length + 1) (hr : ∀ r ∈ m, r.length = b.length + 1)
include ha hb hm hr
omit ha hb in
theorem row_len (i : Nat) (hi : i ≤ a.length) : (rd m (i : Int) []).length = b.length + 1 := by
  rw [rd_nat m i [] (by omega)]
  exact hr _ (List.getElem_mem _)
theorem impl_path1 : ∀ (f i j : Nat) (out : List T_ii), a.length - i + (b.length - j) ≤ f → i ≤ a.length → j ≤ b.length → out.length ≤ i → Ev2 (fun k q => impl_kept_L14'1 k q a b (i : Int) (j : Int) m out) (out ++ kp a b m f i j) := by
  intro f
  induction f with
  | zero =>
    intro i j out h1 h2 h3 h4
    have e := fun k q => impl_kept_L14'1.eq a b (i : Int) (j : Int) m out k q
    simp only [W, W1, W2, if_neg (show ¬ (i : Int) < (a.length : Int) by omega)] at e
    rw [show kp a b m 0 i j = [] from rfl, List.append_nil]
    exact Ev2.ret e
  | succ f ih =>
    intro i j out h1 h2 h3 h4
    have e := fun k q => impl_kept_L14'1.eq a b (i : Int) (j : Int) m out k q
    simp only [impl_kept_J16'1.eq] at e
    unfold kp
    by_cases c : i < a.length ∧ j < b.length
    · rw [if_pos c]
      obtain ⟨c1, c2⟩ := c
      have haddi : addI .i64 (i : Int) 1 = ((i + 1 : Nat) : Int) := by rw [addI_i64 (by omega) (by omega)]; omega
      have haddj : addI .i64 (j : Int) 1 = ((j + 1 : Nat) : Int) := by rw [addI_i64 (by omega) (by omega)]; omega
      have l1 := row_len a b m hm hr i h2
      have l2 := row_len a b m hm hr (i + 1) c1
      simp only [W, W1, W2, haddi, haddj, l1, l2, hm, List.length_cons, List.length_nil, if_pos (show (i : Int) < (a.length : Int) by omega), if_pos (show (j : Int) < (b.length : Int) by omega), if_pos (nat_ge i), if_pos (nat_ge j), if_pos (nat_ge (i + 1)), if_pos (nat_ge (j + 1)), if_pos (show (i : Int) < ((a.length + 1 : Nat) : Int) by omega), if_pos (show ((i + 1 : Nat) : Int) < ((a.length + 1 : Nat) : Int) by omega), if_pos (show (j : Int) < ((b.length + 1 : Nat) : Int) by omega), if_pos (show ((j + 1 : Nat) : Int) < ((b.length + 1 : Nat) : Int) by omega), if_pos (show ((out.length : Int) + ((0 + 1 : Nat) : Int)) * 16 < 140737488355328 by omega)] at e
      by_cases d : rd a (i : Int) (bs []) = rd b (j : Int) (bs [])
      · rw [if_pos d]
        simp only [if_pos d] at e
        have h := ih (i + 1) (j + 1) (out ++ [((i : Int), (j : Int))]) (by omega) (by omega) (by omega) (by simp; omega)
        rw [List.append_assoc] at h
        exact Ev2.step e h
      · rw [if_neg d]
        simp only [if_neg d] at e
        by_cases q : rd (rd m (i : Int) []) ((j + 1 : Nat) : Int) 0 ≤ rd (rd m ((i + 1 : Nat) : Int) []) (j : Int) 0
        · rw [show low m i j = true from decide_eq_true q, if_pos rfl]
          simp only [if_pos q] at e
          exact Ev2.step e (ih (i + 1) j out (by omega) (by omega) h3 (by omega))
        · rw [show low m i j = false from decide_eq_false q, if_neg (by simp)]
          simp only [if_neg q] at e
          exact Ev2.step e (ih i (j + 1) out (by omega) h2 (by omega) h4)
    · rw [if_neg c, List.append_nil]
      by_cases c1 : i < a.length
      · simp only [W, W1, W2, if_pos (show (i : Int) < (a.length : Int) by omega), if_neg (show ¬ (j : Int) < (b.length : Int) by omega)] at e
        exact Ev2.ret e
      · simp only [W, W1, W2, if_neg (show ¬ (i : Int) < (a.length : Int) by omega)] at e
        exact Ev2.ret e
theorem impl_path : ∀ (f i j : Nat), a.length - i + (b.length - j) ≤ f → i ≤ a.length → j ≤ b.length → Ev2 (fun k q => impl_kept_L14 k q a b (i : Int) (j : Int) m) (kp a b m f i j) := by
  intro f
  induction f with
  | zero =>
    intro i j h1 h2 h3
    have e := fun k q => impl_kept_L14.eq a b (i : Int) (j : Int) m k q
    simp only [W, W1, W2, if_neg (show ¬ (i : Int) < (a.length : Int) by omega)] at e
    exact Ev2.ret e
  | succ f ih =>
    intro i j h1 h2 h3
    have e := fun k q => impl_kept_L14.eq a b (i : Int) (j : Int) m k q
    simp only [impl_kept_J16.eq] at e
    unfold kp
    by_cases c : i < a.length ∧ j < b.length
    · rw [if_pos c]
      obtain ⟨c1, c2⟩ := c
      have haddi : addI .i64 (i : Int) 1 = ((i + 1 : Nat) : Int) := by rw [addI_i64 (by omega) (by omega)]; omega
      have haddj : addI .i64 (j : Int) 1 = ((j + 1 : Nat) : Int) := by rw [addI_i64 (by omega) (by omega)]; omega
      have l1 := row_len a b m hm hr i h2
      have l2 := row_len a b m hm hr (i + 1) c1
      simp only [W, W1, W2, haddi, haddj, l1, l2, hm, List.length_cons, List.length_nil, List.nil_append, if_pos (show (i : Int) < (a.length : Int) by omega), if_pos (show (j : Int) < (b.length : Int) by omega), if_pos (nat_ge i), if_pos (nat_ge j), if_pos (nat_ge (i + 1)), if_pos (nat_ge (j + 1)), if_pos (show (i : Int) < ((a.length + 1 : Nat) : Int) by omega), if_pos (show ((i + 1 : Nat) : Int) < ((a.length + 1 : Nat) : Int) by omega), if_pos (show (j : Int) < ((b.length + 1 : Nat) : Int) by omega), if_pos (show ((j + 1 : Nat) : Int) < ((b.length + 1 : Nat) : Int) by omega), if_pos (show (((0 : Nat) : Int) + ((0 + 1 : Nat) : Int)) * 16 < 140737488355328 by omega)] at e
      by_cases d : rd a (i : Int) (bs []) = rd b (j : Int) (bs [])
      · rw [if_pos d]
        simp only [if_pos d] at e
        have h := impl_path1 a b m ha hb hm hr f (i + 1) (j + 1) [((i : Int), (j : Int))] (by omega) (by omega) (by omega) (by simp)
        exact Ev2.step e h
      · rw [if_neg d]
        simp only [if_neg d] at e
        by_cases q : rd (rd m (i : Int) []) ((j + 1 : Nat) : Int) 0 ≤ rd (rd m ((i + 1 : Nat) : Int) []) (j : Int) 0
        · rw [show low m i j = true from decide_eq_true q, if_pos rfl]
          simp only [if_pos q] at e
          exact Ev2.step e (ih (i + 1) j (by omega) (by omega) h3)
        · rw [show low m i j = false from decide_eq_false q, if_neg (by simp)]
          simp only [if_neg q] at e
          exact Ev2.step e (ih i (j + 1) (by omega) h2 (by omega))
    · rw [if_neg c]
      by_cases c1 : i < a.length
      · simp only [W, W1, W2, if_pos (show (i : Int) < (a.length : Int) by omega), if_neg (show ¬ (j : Int) < (b.length : Int) by omega)] at e
        exact Ev2.ret e
      · simp only [W, W1, W2, if_neg (show ¬ (i : Int) < (a.length : Int) by omega)] at e
        exact Ev2.ret e
theorem spec_path : ∀ (f i j : Nat) (out : List Int), a.length - i + (b.length - j) ≤ f → i ≤ a.length → j ≤ b.length → out.length ≤ i → Ev2 (fun k q => spec_l21Kept_L17 k q a b (j : Int) (i : Int) m out) (out ++ sp a b m f i j) := by
  intro f
  induction f with
  | zero =>
    intro i j out h1 h2 h3 h4
    have e := fun k q => spec_l21Kept_L17.eq a b (j : Int) (i : Int) m out k q
    simp only [W, W1, W2, if_neg (show ¬ (i : Int) < (a.length : Int) by omega)] at e
    rw [show sp a b m 0 i j = [] from rfl, List.append_nil]
    exact Ev2.ret e
  | succ f ih =>
    intro i j out h1 h2 h3 h4
    have e := fun k q => spec_l21Kept_L17.eq a b (j : Int) (i : Int) m out k q
    simp only [spec_l21Kept_J20.eq] at e
    unfold sp
    by_cases c1 : i < a.length
    · rw [if_pos c1]
      have haddi : addI .i64 (i : Int) 1 = ((i + 1 : Nat) : Int) := by rw [addI_i64 (by omega) (by omega)]; omega
      have haddj : addI .i64 (j : Int) 1 = ((j + 1 : Nat) : Int) := by rw [addI_i64 (by omega) (by omega)]; omega
      have l1 := row_len a b m hm hr i h2
      have l2 := row_len a b m hm hr (i + 1) c1
      have hneg : ∀ f' j', out ++ (-1) :: sp a b m f' (i + 1) j' = (out ++ [-1]) ++ sp a b m f' (i + 1) j' := fun _ _ => by simp
      by_cases c2 : j < b.length
      · simp only [W, W1, W2, haddi, haddj, l1, l2, hm, List.length_cons, List.length_nil, if_pos (show (i : Int) < (a.length : Int) by omega), if_pos (show (j : Int) < (b.length : Int) by omega), if_neg (show ¬ (j : Int) = (b.length : Int) by omega), if_pos (nat_ge i), if_pos (nat_ge j), if_pos (nat_ge (i + 1)), if_pos (nat_ge (j + 1)), if_pos (show (i : Int) < ((a.length + 1 : Nat) : Int) by omega), if_pos (show ((i + 1 : Nat) : Int) < ((a.length + 1 : Nat) : Int) by omega), if_pos (show (j : Int) < ((b.length + 1 : Nat) : Int) by omega), if_pos (show ((j + 1 : Nat) : Int) < ((b.length + 1 : Nat) : Int) by omega), if_pos (show ((out.length : Int) + ((0 + 1 : Nat) : Int)) * 8 < 140737488355328 by omega)] at e
        by_cases d : rd a (i : Int) (bs []) = rd b (j : Int) (bs [])
        · rw [if_pos ⟨c2, d⟩]
          simp only [if_pos d] at e
          have h := ih (i + 1) (j + 1) (out ++ [(j : Int)]) (by omega) (by omega) (by omega) (by simp; omega)
          rw [List.append_assoc] at h
          exact Ev2.step e h
        · rw [if_neg (fun h => d h.2), if_neg (show ¬ j = b.length by omega)]
          simp only [if_neg d] at e
          by_cases q : rd (rd m (i : Int) []) ((j + 1 : Nat) : Int) 0 ≤ rd (rd m ((i + 1 : Nat) : Int) []) (j : Int) 0
          · rw [show low m i j = true from decide_eq_true q, if_pos rfl, hneg]
            simp only [if_pos q] at e
            exact Ev2.step e (ih (i + 1) j (out ++ [-1]) (by omega) (by omega) h3 (by simp; omega))
          · rw [show low m i j = false from decide_eq_false q, if_neg (by simp)]
            simp only [if_neg q] at e
            exact Ev2.step e (ih i (j + 1) out (by omega) h2 (by omega) h4)
      · simp only [W, W1, W2, haddi, List.length_cons, List.length_nil, if_pos (show (i : Int) < (a.length : Int) by omega), if_neg (show ¬ (j : Int) < (b.length : Int) by omega), if_pos (show (j : Int) = (b.length : Int) by omega), if_pos (show ((out.length : Int) + ((0 + 1 : Nat) : Int)) * 8 < 140737488355328 by omega)] at e
        rw [if_neg (fun h => c2 h.1), if_pos (show j = b.length by omega), hneg]
        exact Ev2.step e (ih (i + 1) j (out ++ [-1]) (by omega) (by omega) h3 (by simp; omega))
    · rw [if_neg c1, List.append_nil]
      simp only [W, W1, W2, if_neg (show ¬ (i : Int) < (a.length : Int) by omega)] at e
      exact Ev2.ret e
end
/-! ### the two tell the same -/
def pairsOf : Nat → List Int → List (Int × Int)
  | _, [] => []
  | i, v :: r => if v < 0 then pairsOf (i + 1) r else ((i : Int), v) :: pairsOf (i + 1) r
/-- places that rise, below n -/
def VL (n : Nat) : Nat → List Int → Prop
  | k, [] => k ≤ n
  | k, v :: r => if v < 0 then VL n k r else ((k : Int) ≤ v ∧ v < (n : Int) ∧ VL n (v.toNat + 1) r)
theorem VL_mono (n : Nat) : ∀ (l : List Int) (k k' : Nat), k ≤ k' → VL n k' l → VL n k l
  | [], k, k', h, hv => Nat.le_trans h hv
  | v :: r, k, k', h, hv => by
    unfold VL at hv ⊢
    split at hv
    · rename_i c; rw [if_pos c]; exact VL_mono n r k k' h hv
    · rename_i c; rw [if_neg c]; exact ⟨by have := hv.1; omega, hv.2⟩
section
variable (a b : List ByteArray) (m : List (List Int))
theorem kp_end : ∀ f i j, b.length ≤ j → kp a b m f i j = []
  | 0, _, _, _ => rfl
  | f + 1, i, j, h => if_neg (fun g => by omega)
theorem kp_sp : ∀ (f i j : Nat), j ≤ b.length → kp a b m f i j = pairsOf i (sp a b m f i j) := by
  intro f
  induction f with
  | zero => intro i j h; rfl
  | succ f ih =>
    intro i j h
    unfold kp sp
    by_cases c1 : i < a.length
    · rw [if_pos c1]
      by_cases c2 : j < b.length
      · rw [if_pos ⟨c1, c2⟩]
        by_cases d : rd a (i : Int) (bs []) = rd b (j : Int) (bs [])
        · rw [if_pos d, if_pos ⟨c2, d⟩, ih (i + 1) (j + 1) (by omega)]
          exact (if_neg (by omega)).symm
        · rw [if_neg d, if_neg (show ¬ (j < b.length ∧ rd a (i : Int) (bs []) = rd b (j : Int) (bs [])) from fun h => d h.2), if_neg (show ¬ j = b.length by omega)]
          cases q : low m i j with
          | true =>
            rw [if_pos rfl, if_pos rfl, ih (i + 1) j h]
            exact (if_pos (by omega)).symm
          | false => rw [if_neg (by simp), if_neg (by simp), ih i (j + 1) (by omega)]
      · rw [if_neg (fun h => c2 h.2), if_neg (fun h => c2 h.1), if_pos (show j = b.length by omega)]
        have := ih (i + 1) j h
        rw [kp_end a b m f (i + 1) j (by omega)] at this
        rw [this]
        exact (if_pos (by omega)).symm
    · rw [if_neg c1, if_neg (fun h => c1 h.1)]
      rfl
theorem sp_len : ∀ (f i j : Nat), a.length - i + (b.length - j) ≤ f → j ≤ b.length → (sp a b m f i j).length = a.length - i := by
  intro f
  induction f with
  | zero => intro i j h1 h2; show 0 = _; omega
  | succ f ih =>
    intro i j h1 h2
    unfold sp
    by_cases c1 : i < a.length
    · rw [if_pos c1]
      split
      · rw [List.length_cons, ih _ _ (by omega) (by omega)]; omega
      · split
        · rw [List.length_cons, ih _ _ (by omega) (by omega)]; omega
        · split
          · rw [List.length_cons, ih _ _ (by omega) (by omega)]; omega
          · rw [ih _ _ (by omega) (by omega)]
    · rw [if_neg c1]; show 0 = _; omega
theorem sp_valid : ∀ (f i j : Nat), j ≤ b.length → VL b.length j (sp a b m f i j) := by
  intro f
  induction f with
  | zero => intro i j h; exact h
  | succ f ih =>
    intro i j h
    unfold sp
    by_cases c1 : i < a.length
    · rw [if_pos c1]
      split
      · rename_i c
        unfold VL
        rw [if_neg (by omega)]
        refine ⟨Int.le_refl _, by omega, ?_⟩
        rw [Int.toNat_natCast]
        exact ih _ _ (by omega)
      · split
        · unfold VL
          rw [if_pos (by omega)]
          exact ih _ _ h
        · split
          · unfold VL
            rw [if_pos (by omega)]
            exact ih _ _ h
          · exact VL_mono _ _ _ _ (by omega) (ih i (j + 1) (by omega))
    · rw [if_neg c1]; exact h
end
/-- what of a goes, and what is kept as which of b -/
noncomputable def keptL (a b : List ByteArray) : List Int := sp a b (tab b a) (a.length + b.length) 0 0
theorem implKept (a b : List ByteArray) (ha : a.length ≤ 1000) (hb : b.length ≤ 1000) : Ev (fun k => impl_kept k a b) (pairsOf 0 (keptL a b)) := by
  refine impl_table a b ha hb ?_
  have h := (impl_path a b (tab b a) ha hb (tab_len b a) (tab_rows b a) (a.length + b.length) 0 0 (by omega) (Nat.zero_le _) (Nat.zero_le _)).ev
  rw [kp_sp a b (tab b a) _ 0 0 (Nat.zero_le _)] at h
  exact h
theorem specKept (a b : List ByteArray) (ha : a.length ≤ 1000) (hb : b.length ≤ 1000) : Ev (fun k => spec_l21Kept k a b) (keptL a b) := by
  refine spec_table a b ha hb ?_
  exact (spec_path a b (tab b a) ha hb (tab_len b a) (tab_rows b a) (a.length + b.length) 0 0 [] (by omega) (Nat.zero_le _) (Nat.zero_le _) (Nat.le_refl _)).ev
theorem keptL_len (a b : List ByteArray) : (keptL a b).length = a.length := by
  unfold keptL
  rw [sp_len a b (tab b a) _ 0 0 (by omega) (Nat.zero_le _)]
  omega
theorem keptL_valid (a b : List ByteArray) : VL b.length 0 (keptL a b) := sp_valid a b (tab b a) _ 0 0 (Nat.zero_le _)
end Go.Proofs.YtkkjkpliiinbjaaDoor.DF
