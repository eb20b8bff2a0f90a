/- The steps between two texts, by both sides. -/
import Derived.Test.YtkkjkpliiinbjaaDoorPKeptB
import Derived.Test.YtkkjkpliiinbjaaDoorEH
namespace Go.Proofs.YtkkjkpliiinbjaaDoor.DF
open Go.Eng Go.RowKit
set_option linter.unusedVariables false
set_option linter.unusedSimpArgs false
/-! ### texts as one -/
def joinL (xs : List ByteArray) : ByteArray := xs.foldr (· ++ ·) (bs [])
theorem joinL_nil : joinL [] = bs [] := rfl
theorem joinL_cons (x : ByteArray) (xs : List ByteArray) : joinL (x :: xs) = x ++ joinL xs := rfl
theorem bs_app0 (x : ByteArray) : bs [] ++ x = x := by
  show ByteArray.empty ++ x = x
  exact ByteArray.empty_append
theorem app_bs0 (x : ByteArray) : x ++ bs [] = x := by
  show x ++ ByteArray.empty = x
  exact ByteArray.append_empty
theorem joinL_app (xs ys : List ByteArray) : joinL (xs ++ ys) = joinL xs ++ joinL ys := by
  induction xs with
  | nil => rw [List.nil_append, joinL_nil, bs_app0]
  | cons x xs ih => rw [List.cons_append, joinL_cons, joinL_cons, ih, ByteArray.append_assoc]
theorem joinL_one (x : ByteArray) : joinL [x] = x := by rw [joinL_cons, joinL_nil, app_bs0]
theorem joinL_data (xs : List ByteArray) : (joinL xs).data.toList = (xs.map (·.data.toList)).flatten := by
  induction xs with
  | nil => rfl
  | cons x xs ih => rw [joinL_cons, ByteArray.data_append, Array.toList_append, ih, List.map_cons, List.flatten_cons]
theorem join_flat (l : List (List UInt8)) : Lib.join l [] = l.flatten := by
  cases l with
  | nil => rfl
  | cons x r =>
    rw [Lib.join_cons, List.flatten_cons]
    unfold Lib.joinTail
    congr 2
    exact (List.map_congr_left (fun y _ => List.nil_append y)).trans (List.map_id r)
theorem joinS_L (xs : List ByteArray) : joinS xs (bs []) = joinL xs := by
  apply ByteArray.ext
  apply Array.toList_inj.1
  rw [joinL_data]
  show (Lib.join (xs.map (·.data.toList)) []).toArray.toList = _
  rw [join_flat]
theorem joinL_size (xs : List ByteArray) (h : ∀ s ∈ xs, s.size ≤ 65536) : (joinL xs).size ≤ xs.length * 65536 := by
  induction xs with
  | nil => exact Nat.zero_le _
  | cons x xs ih =>
    have h1 := ih (fun s hs => h s (List.mem_cons_of_mem _ hs))
    have h2 := h x List.mem_cons_self
    rw [joinL_cons, ByteArray.size_append, List.length_cons]
    omega
theorem join_ev (xs : List ByteArray) (hl : xs.length ≤ 1000) (h : ∀ s ∈ xs, s.size ≤ 65536) : Ev (fun k => strings_Join k xs (bs [])) (joinL xs) := by
  refine Ev.ret fun k => ?_
  have e : strings_Join (k + 1) xs (bs []) = xJoin [.ro (.one .str) xs, .str (bs [])] [] := by kernel_rfl
  rw [e]
  have hs := joinL_size xs h
  show (if List.length xs ≤ 140737488355328 ∧ (joinS xs (bs [])).size ≤ 140737488355328 then some (joinS xs (bs [])) else none) = _
  rw [joinS_L, if_pos ⟨by omega, by omega⟩]
theorem nums_app (x y : ByteArray) : numsOf (x ++ y) = numsOf x ++ numsOf y := by
  unfold numsOf
  rw [ByteArray.data_append, Array.toList_append, List.map_append]
theorem joined_loop (l : List ByteArray) (hl : l.length ≤ 1000) (h : ∀ s ∈ l, s.size ≤ 65536) : ∀ (suf pre : List ByteArray), l = pre ++ suf → Ev2 (fun k j => spec_l21Joined_L3 k j l (pre.length : Int) (numsOf (joinL pre))) (joinL l) := by
  intro suf
  induction suf with
  | nil =>
    intro pre hp
    have e := fun k j => spec_l21Joined_L3.eq l (pre.length : Int) (numsOf (joinL pre)) k j
    simp only [W, W1, W2, bytesOf_numsOf, if_neg (show ¬ (pre.length : Int) < (l.length : Int) by rw [hp]; exact end_nlt pre)] at e
    rw [show joinL l = joinL pre by rw [hp, List.append_nil]]
    exact Ev2.ret e
  | cons q suf ih =>
    intro pre hp
    have hle : pre.length + 1 ≤ l.length := by rw [hp, List.length_append, List.length_cons]; omega
    have hr : rd l (pre.length : Int) (bs []) = q := by rw [hp]; exact rd_mid pre suf q _
    have hq := h q (by rw [hp]; simp)
    have hpz := joinL_size pre (fun s hs => h s (by rw [hp]; exact List.mem_append_left _ hs))
    have e := fun k j => spec_l21Joined_L3.eq l (pre.length : Int) (numsOf (joinL pre)) k j
    simp only [W, W1, W2, hr, numsOf_length, if_pos (nat_ge pre.length), if_pos (show (pre.length : Int) < (l.length : Int) by omega), next_i pre q (by omega), if_pos (show (((joinL pre).size : Int) + (q.size : Int)) * 1 < 140737488355328 by omega)] at e
    have hh := ih (pre ++ [q]) (by rw [hp]; simp)
    rw [joinL_app, joinL_one, nums_app] at hh
    exact Ev2.step e hh
theorem joined_ev (l : List ByteArray) (hl : l.length ≤ 1000) (h : ∀ s ∈ l, s.size ≤ 65536) : Ev (fun k => spec_l21Joined k l) (joinL l) :=
  Ev.step (fun k => spec_l21Joined.eq l k) (joined_loop l hl h l [] rfl).ev
/-! ### the steps -/
abbrev Stp := Int × ByteArray × ByteArray × Int
noncomputable def impF (x y : List ByteArray) : List (Int × Int) → Int → Nat → Nat → List Stp
  | [], _, _, _ => []
  | (p, q) :: r, t, i, j => (if joinL ((x.take p.toNat).drop i) ++ joinL ((y.take q.toNat).drop j) = bs [] then [] else [(t, (joinL ((x.take p.toNat).drop i), (joinL ((y.take q.toNat).drop j), 0)))]) ++
      impF x y r (if p < (x.length : Int) then t + ((joinL ((y.take q.toNat).drop j)).size : Int) + ((rd x p (bs [])).size : Int) else t + ((joinL ((y.take q.toNat).drop j)).size : Int)) (p.toNat + 1) (q.toNat + 1)
noncomputable def spF (x y : List ByteArray) : List Int → Nat → Int → Nat → ByteArray → List Stp
  | [], _, _, _, _ => []
  | v :: r, i, t, k, gone => if v < 0 then spF x y r (i + 1) t k (gone ++ rd x (i : Int) (bs [])) else
      (if gone = bs [] ∧ joinL ((y.take v.toNat).drop k) = bs [] then [] else [(t, (gone, (joinL ((y.take v.toNat).drop k), 0)))]) ++
      spF x y r (i + 1) (if (i : Int) < (x.length : Int) then t + ((joinL ((y.take v.toNat).drop k)).size : Int) + ((rd x (i : Int) (bs [])).size : Int) else t + ((joinL ((y.take v.toNat).drop k)).size : Int)) (v.toNat + 1) (bs [])
theorem bs_nil' (w : ByteArray) : (w = bs []) ↔ w.size = 0 := by
  constructor
  · rintro rfl; rfl
  · intro h
    apply ByteArray.ext
    exact Array.eq_empty_of_size_eq_zero h
theorem both_nil (x y : ByteArray) : x ++ y = bs [] ↔ x = bs [] ∧ y = bs [] := by
  rw [bs_nil', bs_nil', bs_nil', ByteArray.size_append]
  omega
theorem drop_take_all (x : List ByteArray) (i : Nat) : (x.take i).drop i = [] := List.drop_eq_nil_of_le (by rw [List.length_take]; omega)
theorem drop_take_succ (x : List ByteArray) (i0 i : Nat) (h : i0 ≤ i) (hi : i < x.length) : (x.take (i + 1)).drop i0 = (x.take i).drop i0 ++ [rd x (i : Int) (bs [])] := by
  rw [rd_nat x i _ hi, List.take_succ_eq_append_getElem hi, List.drop_append_of_le_length (by rw [List.length_take]; omega)]
theorem imp_sp (x y : List ByteArray) : ∀ (kl : List Int) (i : Nat) (t : Int) (i0 j0 : Nat), i0 ≤ i → i + kl.length = x.length →
    impF x y (pairsOf i kl ++ [((x.length : Int), (y.length : Int))]) t i0 j0 = spF x y (kl ++ [(y.length : Int)]) i t j0 (joinL ((x.take i).drop i0)) := by
  intro kl
  induction kl with
  | nil =>
    intro i t i0 j0 h1 h2
    have hi : i = x.length := by simpa using h2
    subst hi
    show impF x y [((x.length : Int), (y.length : Int))] t i0 j0 = spF x y [(y.length : Int)] x.length t j0 _
    unfold impF spF impF spF
    rw [if_neg (show ¬ (y.length : Int) < 0 by omega), Int.toNat_natCast, Int.toNat_natCast]
    by_cases c : joinL ((x.take x.length).drop i0) = bs [] ∧ joinL ((y.take y.length).drop j0) = bs []
    · rw [if_pos c, if_pos ((both_nil _ _).2 c)]
    · rw [if_neg c, if_neg (fun h => c ((both_nil _ _).1 h))]
  | cons v kl ih =>
    intro i t i0 j0 h1 h2
    rw [List.length_cons] at h2
    have hi : i < x.length := by omega
    rw [List.cons_append]
    unfold pairsOf
    by_cases c : v < 0
    · rw [if_pos c]
      rw [ih (i + 1) t i0 j0 (by omega) (by omega), drop_take_succ x i0 i h1 hi, joinL_app, joinL_one]
      show _ = (if v < 0 then _ else _)
      rw [if_pos c]
    · rw [if_neg c, List.cons_append]
      show (_ ++ impF x y (pairsOf (i + 1) kl ++ _) _ _ _) = (if v < 0 then _ else _)
      rw [if_neg c, Int.toNat_natCast, ih (i + 1) _ (i + 1) _ (Nat.le_refl _) (by omega), drop_take_all, joinL_nil]
      congr 1
      by_cases d : joinL ((x.take i).drop i0) = bs [] ∧ joinL ((y.take v.toNat).drop j0) = bs []
      · rw [if_pos d, if_pos ((both_nil _ _).2 d)]
      · rw [if_neg d, if_neg (fun h => d ((both_nil _ _).1 h))]
/-- pairs that rise -/
def VP (nx ny : Nat) : Nat → Nat → List (Int × Int) → Prop
  | _, _, [] => True
  | i, j, (p, q) :: r => ((i : Int) ≤ p ∧ p ≤ (nx : Int)) ∧ ((j : Int) ≤ q ∧ q ≤ (ny : Int)) ∧ VP nx ny (p.toNat + 1) (q.toNat + 1) r
theorem vl_vp (nx ny : Nat) : ∀ (kl : List Int) (i i0 j0 : Nat), i0 ≤ i → i + kl.length = nx → VL ny j0 kl → VP nx ny i0 j0 (pairsOf i kl ++ [((nx : Int), (ny : Int))]) := by
  intro kl
  induction kl with
  | nil =>
    intro i i0 j0 h1 h2 h3
    have h2 : i = nx := by simpa using h2
    have h3 : j0 ≤ ny := h3
    exact ⟨⟨by omega, by omega⟩, ⟨by omega, by omega⟩, trivial⟩
  | cons v kl ih =>
    intro i i0 j0 h1 h2 h3
    rw [List.length_cons] at h2
    unfold VL at h3
    unfold pairsOf
    by_cases c : v < 0
    · rw [if_pos c] at h3 ⊢
      exact ih (i + 1) i0 j0 (by omega) (by omega) h3
    · rw [if_neg c] at h3 ⊢
      obtain ⟨k1, k2, k3⟩ := h3
      refine ⟨⟨by omega, by omega⟩, ⟨by omega, by omega⟩, ?_⟩
      rw [Int.toNat_natCast]
      exact ih (i + 1) (i + 1) (v.toNat + 1) (Nat.le_refl _) (by omega) k3
def VS (nx ny : Nat) : Nat → Nat → List Int → Prop
  | _, _, [] => True
  | i, k, v :: r => if v < 0 then i < nx ∧ VS nx ny (i + 1) k r else ((k : Int) ≤ v ∧ v ≤ (ny : Int)) ∧ VS nx ny (i + 1) (v.toNat + 1) r
theorem vl_vs (nx ny : Nat) : ∀ (kl : List Int) (i j0 : Nat), i + kl.length = nx → VL ny j0 kl → VS nx ny i j0 (kl ++ [(ny : Int)]) := by
  intro kl
  induction kl with
  | nil =>
    intro i j0 h2 h3
    have h3 : j0 ≤ ny := h3
    show (if (ny : Int) < 0 then _ else _)
    rw [if_neg (by omega)]
    exact ⟨⟨by omega, by omega⟩, trivial⟩
  | cons v kl ih =>
    intro i j0 h2 h3
    rw [List.length_cons] at h2
    unfold VL at h3
    show (if v < 0 then _ else _)
    by_cases c : v < 0
    · rw [if_pos c] at h3 ⊢
      exact ⟨by omega, ih (i + 1) j0 (by omega) h3⟩
    · rw [if_neg c] at h3 ⊢
      exact ⟨⟨h3.1, by omega⟩, ih (i + 1) (v.toNat + 1) (by omega) h3.2.2⟩
end Go.Proofs.YtkkjkpliiinbjaaDoor.DF
