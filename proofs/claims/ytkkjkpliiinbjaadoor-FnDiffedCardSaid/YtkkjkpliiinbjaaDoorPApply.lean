/- The steps between two texts, done: they make the second one of the first. -/
import Derived.Test.YtkkjkpliiinbjaaDoorPDiffB
import Derived.Test.YtkkjkpliiinbjaaDoorXHisI
import Derived.Test.YtkkjkpliiinbjaaDoorPGrp
namespace Go.Proofs.YtkkjkpliiinbjaaDoor.DF
open Go.Eng Go.RowKit
set_option linter.unusedVariables false
set_option linter.unusedSimpArgs false
/-- pairs of what is kept: kept at once where both are the same, and what is kept is the same -/
def Imm (x y : List ByteArray) : Nat → Nat → List (Int × Int) → Prop
  | _, _, [] => True
  | i, j, (p, q) :: r => (((i : Int) ≤ p ∧ p ≤ (x.length : Int)) ∧ ((j : Int) ≤ q ∧ q ≤ (y.length : Int))) ∧
      (i < x.length → j < y.length → rd x (i : Int) (bs []) = rd y (j : Int) (bs []) → p = (i : Int) ∧ q = (j : Int)) ∧
      (if r = [] then p = (x.length : Int) ∧ q = (y.length : Int) else p < (x.length : Int) ∧ q < (y.length : Int) ∧ rd x p (bs []) = rd y q (bs [])) ∧
      Imm x y (p.toNat + 1) (q.toNat + 1) r
theorem imm_back {x y : List ByteArray} {i j i' j' : Nat} {l : List (Int × Int)} (h : Imm x y i' j' l) (hi : i ≤ i') (hj : j ≤ j') (hn : ¬ rd x (i : Int) (bs []) = rd y (j : Int) (bs [])) : Imm x y i j l := by
  cases l with
  | nil => trivial
  | cons pq r =>
    obtain ⟨p, q⟩ := pq
    obtain ⟨⟨⟨h1, h2⟩, ⟨h3, h4⟩⟩, h5, h6, h7⟩ := h
    exact ⟨⟨⟨by omega, h2⟩, ⟨by omega, h4⟩⟩, fun _ _ g => absurd g hn, h6, h7⟩
theorem imm_kp (x y : List ByteArray) (m : List (List Int)) : ∀ (f i j : Nat), x.length - i + (y.length - j) ≤ f → i ≤ x.length → j ≤ y.length → Imm x y i j (kp x y m f i j ++ [((x.length : Int), (y.length : Int))]) := by
  intro f
  have last : ∀ i j : Nat, i ≤ x.length → j ≤ y.length → ¬ (i < x.length ∧ j < y.length) → Imm x y i j [((x.length : Int), (y.length : Int))] := fun i j hi hj hn =>
    ⟨⟨⟨by omega, by omega⟩, ⟨by omega, by omega⟩⟩, fun h1 h2 _ => absurd ⟨h1, h2⟩ hn, by rw [if_pos rfl]; exact ⟨rfl, rfl⟩, trivial⟩
  induction f with
  | zero =>
    intro i j h hi hj
    exact last i j hi hj (fun g => by omega)
  | succ f ih =>
    intro i j h hi hj
    unfold kp
    by_cases c : i < x.length ∧ j < y.length
    · rw [if_pos c]
      by_cases d : rd x (i : Int) (bs []) = rd y (j : Int) (bs [])
      · rw [if_pos d, List.cons_append]
        refine ⟨⟨⟨by omega, by omega⟩, ⟨by omega, by omega⟩⟩, fun _ _ _ => ⟨rfl, rfl⟩, ?_, ?_⟩
        · rw [if_neg (by simp)]
          exact ⟨by omega, by omega, d⟩
        · rw [Int.toNat_natCast, Int.toNat_natCast]
          exact ih (i + 1) (j + 1) (by omega) (by omega) (by omega)
      · rw [if_neg d]
        by_cases e : low m i j = true
        · rw [if_pos e]
          exact imm_back (ih (i + 1) j (by omega) (by omega) hj) (by omega) (Nat.le_refl _) d
        · rw [if_neg e]
          exact imm_back (ih i (j + 1) (by omega) hi (by omega)) (Nat.le_refl _) (by omega) d
    · rw [if_neg c]
      exact last i j hi hj c
/-! ### a step, done -/
theorem ext_first (x y : ByteArray) : (x ++ y).extract 0 x.size = x := by
  have := ext_mid (bs []) x y
  rw [bs_app0, show (bs []).size = 0 from rfl, Nat.zero_add] at this
  exact this
theorem ext_last (x y : ByteArray) : (x ++ y).extract x.size (x ++ y).size = y := by
  have := ext_mid x y (bs [])
  rw [app_bs0] at this
  rw [ByteArray.size_append]
  exact this
theorem step_fits (A G C D : ByteArray) : fitsAt (A ++ (G ++ D)) ((A.size : Int), (G, (C, 0))) = true ∧ done (A ++ (G ++ D)) ((A.size : Int), (G, (C, 0))) = (A ++ C) ++ D := by
  have hs : (A ++ (G ++ D)).size = A.size + (G.size + D.size) := by rw [ByteArray.size_append, ByteArray.size_append]
  have h1 : (A ++ (G ++ D)).extract A.size (A.size + G.size) = G := ext_mid A G D
  have h2 : (A ++ (G ++ D)).extract 0 A.size = A := ext_first _ _
  have h3 : (A ++ (G ++ D)).extract (A.size + G.size) (A ++ (G ++ D)).size = D := by
    rw [← ByteArray.append_assoc, ← ByteArray.size_append]
    exact ext_last _ _
  constructor
  · unfold fitsAt within
    simp only [Int.toNat_natCast, h1, hs]
    simp
    omega
  · unfold done
    simp only [Int.toNat_natCast, h2, h3]
theorem take_more (y : List ByteArray) (j q : Nat) (h : j ≤ q) : y.take q = y.take j ++ (y.take q).drop j := by
  have := List.take_append_drop j (y.take q)
  rw [List.take_take, Nat.min_eq_left h] at this
  exact this.symm
theorem drop_more (x : List ByteArray) (i p : Nat) (h : i ≤ p) : x.drop i = (x.take p).drop i ++ x.drop p := by
  have := List.take_append_drop p x
  conv => lhs; rw [← this]
  by_cases c : i ≤ x.length
  · by_cases d : p ≤ x.length
    · rw [List.drop_append_of_le_length (by rw [List.length_take]; omega)]
    · have e1 : x.drop p = [] := List.drop_eq_nil_of_le (by omega)
      rw [e1, List.append_nil, List.append_nil]
  · have e1 : x.drop p = [] := List.drop_eq_nil_of_le (by omega)
    rw [e1, List.append_nil, List.append_nil]
theorem join_part_le (y : List ByteArray) (q : Nat) : (joinL (y.take q)).size ≤ (joinL y).size ∧ (joinL (y.drop q)).size ≤ (joinL y).size := by
  have h : joinL y = joinL (y.take q) ++ joinL (y.drop q) := by rw [← joinL_app, List.take_append_drop]
  rw [h, ByteArray.size_append]
  omega
section
variable (x y : List ByteArray) (hne : ∀ i p j q : Nat, p ≤ x.length → q ≤ y.length → joinL ((x.take p).drop i) = joinL ((y.take q).drop j) → i < p ∨ j < q → i < p ∧ j < q ∧ rd x (i : Int) (bs []) = rd y (j : Int) (bs []))
  (hs : (joinL x).size + (joinL y).size ≤ 65536)
include hne hs in
theorem run_imp : ∀ (P : List (Int × Int)) (i j : Nat) (T : ByteArray), Imm x y i j P → P ≠ [] → T = joinL (y.take j) ++ joinL (x.drop i) →
    (impF x y P ((joinL (y.take j)).size : Int) i j).all okStep = true ∧ run T (impF x y P ((joinL (y.take j)).size : Int) i j) = some (joinL y) := by
  intro P
  induction P with
  | nil => intro i j T h hP; exact absurd rfl hP
  | cons pq r ih =>
    intro i j T hI hP hT
    obtain ⟨p, q⟩ := pq
    obtain ⟨⟨⟨h1, h2⟩, ⟨h3, h4⟩⟩, h5, h6, h7⟩ := hI
    obtain ⟨p, rfl⟩ := Int.eq_ofNat_of_zero_le (show 0 ≤ p by omega)
    obtain ⟨q, rfl⟩ := Int.eq_ofNat_of_zero_le (show 0 ≤ q by omega)
    rw [Int.toNat_natCast, Int.toNat_natCast] at h7
    have hip : i ≤ p := by omega
    have hjq : j ≤ q := by omega
    have hpx : p ≤ x.length := by omega
    have hqy : q ≤ y.length := by omega
    generalize hG : joinL ((x.take p).drop i) = G at *
    generalize hC : joinL ((y.take q).drop j) = C at *
    have hT0 : T = joinL (y.take j) ++ (G ++ joinL (x.drop p)) := by rw [hT, drop_more x i p hip, joinL_app, hG]
    have hT1 : joinL (y.take q) ++ joinL (x.drop p) = (joinL (y.take j) ++ C) ++ joinL (x.drop p) := by
      rw [take_more y j q hjq, joinL_app, hC]
    have hz1 : (joinL (y.take q)).size = (joinL (y.take j)).size + C.size := by
      rw [take_more y j q hjq, joinL_app, hC, ByteArray.size_append]
    have hz : ((joinL (y.take q) ++ joinL (x.drop p))).size ≤ 65536 := by
      have g1 := (join_part_le y q).1
      have g2 := (join_part_le x p).2
      rw [ByteArray.size_append]
      omega
    -- what comes behind
    have rest : (impF x y r (if (p : Int) < (x.length : Int) then ((joinL (y.take j)).size : Int) + (C.size : Int) + ((rd x (p : Int) (bs [])).size : Int) else ((joinL (y.take j)).size : Int) + (C.size : Int)) (p + 1) (q + 1)).all okStep = true ∧
        run (joinL (y.take q) ++ joinL (x.drop p)) (impF x y r (if (p : Int) < (x.length : Int) then ((joinL (y.take j)).size : Int) + (C.size : Int) + ((rd x (p : Int) (bs [])).size : Int) else ((joinL (y.take j)).size : Int) + (C.size : Int)) (p + 1) (q + 1)) = some (joinL y) := by
      by_cases c : r = []
      · rw [if_pos c] at h6
        subst c
        refine ⟨rfl, ?_⟩
        show some _ = some _
        have e1 : y.take q = y := List.take_of_length_le (by omega)
        have e2 : x.drop p = [] := List.drop_eq_nil_of_le (by omega)
        rw [e1, e2, joinL_nil, app_bs0]
      · rw [if_neg c] at h6
        obtain ⟨g1, g2, g3⟩ := h6
        have g1' : p < x.length := by omega
        have g2' : q < y.length := by omega
        rw [rd_nat x p _ g1', rd_nat y q _ g2'] at g3
        have e1 : joinL (y.take (q + 1)) = joinL (y.take q) ++ x[p] := by
          rw [List.take_succ_eq_append_getElem g2', joinL_app, joinL_one, g3]
        have e2 : joinL (x.drop p) = x[p] ++ joinL (x.drop (p + 1)) := by
          rw [List.drop_eq_getElem_cons g1', joinL_cons]
        have h := ih (p + 1) (q + 1) (joinL (y.take q) ++ joinL (x.drop p)) h7 c (by rw [e1, e2, ByteArray.append_assoc])
        have e3 : (if (p : Int) < (x.length : Int) then ((joinL (y.take j)).size : Int) + (C.size : Int) + ((rd x (p : Int) (bs [])).size : Int) else ((joinL (y.take j)).size : Int) + (C.size : Int)) = ((joinL (y.take (q + 1))).size : Int) := by
          rw [if_pos g1, rd_nat x p _ g1', e1, ByteArray.size_append, hz1]
          omega
        rw [e3]
        exact h
    have hF : impF x y (((p : Int), (q : Int)) :: r) ((joinL (y.take j)).size : Int) i j = (if G ++ C = bs [] then [] else [(((joinL (y.take j)).size : Int), (G, (C, 0)))]) ++
        impF x y r (if (p : Int) < (x.length : Int) then ((joinL (y.take j)).size : Int) + (C.size : Int) + ((rd x (p : Int) (bs [])).size : Int) else ((joinL (y.take j)).size : Int) + (C.size : Int)) (p + 1) (q + 1) := by
      rw [← hG, ← hC]; rfl
    show (impF x y (((p : Int), (q : Int)) :: r) _ i j).all okStep = true ∧ run T (impF x y (((p : Int), (q : Int)) :: r) _ i j) = _
    rw [hF]
    by_cases c : G ++ C = bs []
    · rw [if_pos c, List.nil_append]
      obtain ⟨c1, c2⟩ := (both_nil _ _).1 c
      have e : T = joinL (y.take q) ++ joinL (x.drop p) := by
        rw [hT1, hT0, c1, c2, bs_app0, app_bs0]
      rw [e]
      exact rest
    · rw [if_neg c]
      obtain ⟨f1, f2⟩ := step_fits (joinL (y.take j)) G C (joinL (x.drop p))
      have hne' : G ≠ C := fun g => by
        have hor : i < p ∨ j < q := by
          rcases Nat.lt_or_ge i p with k | k
          · exact .inl k
          · rcases Nat.lt_or_ge j q with k2 | k2
            · exact .inr k2
            · exfalso
              apply c
              rw [← hG, ← hC, List.drop_eq_nil_of_le (by rw [List.length_take]; omega), List.drop_eq_nil_of_le (by rw [List.length_take]; omega)]
              rfl
        obtain ⟨k1, k2, k3⟩ := hne i p j q hpx hqy (by rw [hG, hC, g]) hor
        have := h5 (by omega) (by omega) k3
        omega
      have ok : okStep (((joinL (y.take j)).size : Int), (G, (C, 0))) = true := by
        unfold okStep
        simp [hne']
      refine ⟨?_, ?_⟩
      · rw [List.all_append, List.all_cons, ok]
        simpa using rest.1
      · show (if _ && _ then run _ _ else none) = _
        rw [hT0, f1, f2, ← hT1]
        rw [if_pos (by rw [decide_eq_true hz]; rfl)]
        exact rest.2
end
theorem same_imp (x : List ByteArray) : ∀ (P : List (Int × Int)) (i : Nat) (t : Int), Imm x x i i P → i ≤ x.length → impF x x P t i i = [] := by
  intro P
  induction P with
  | nil => intro i t h hi; rfl
  | cons pq r ih =>
    intro i t hI hi
    obtain ⟨p, q⟩ := pq
    obtain ⟨⟨⟨h1, h2⟩, ⟨h3, h4⟩⟩, h5, h6, h7⟩ := hI
    have hpq : p = (i : Int) ∧ q = (i : Int) := by
      by_cases c : i < x.length
      · exact h5 c c rfl
      · omega
    obtain ⟨rfl, rfl⟩ := hpq
    have e : (x.take i).drop i = [] := drop_take_all x i
    have h7 : Imm x x (i + 1) (i + 1) r := h7
    have hF : ∀ t', impF x x r t' (i + 1) (i + 1) = [] := fun t' => by
      by_cases c : r = []
      · rw [c]; rfl
      · rw [if_neg c] at h6
        exact ih (i + 1) t' h7 (by omega)
    show (if joinL ((x.take ((i : Int)).toNat).drop i) ++ joinL ((x.take ((i : Int)).toNat).drop i) = bs [] then [] else _) ++ impF x x r _ (((i : Int)).toNat + 1) (((i : Int)).toNat + 1) = []
    rw [Int.toNat_natCast, e, hF, if_pos (show joinL [] ++ joinL [] = bs [] from bs_app0 _)]
    rfl
end Go.Proofs.YtkkjkpliiinbjaaDoor.DF
