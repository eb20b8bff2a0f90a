/- The reference's code point is the decoder's, plainly. -/
import Derived.Test.YtmmmlfndnoeedaaDoorPRune
import Derived.Test.YtmmmlfndnoeedaaDoorPRead
namespace Go.Proofs.YtmmmlfndnoeedaaDoor.IX
open Go.Eng Go.RowKit
set_option linter.unusedVariables false
set_option linter.unusedSimpArgs false
theorem fval1 (p : Nat) : (fin 1 p).1 = if 128 ≤ p ∧ p < 2048 then (p : Int) else 65533 := by
  unfold fin isPoint width inv
  simp only [Bool.and_eq_true, Bool.or_eq_true, decide_eq_true_eq]
  repeat' split
  all_goals first | rfl | (exfalso; omega)
theorem fval2 (p : Nat) : (fin 2 p).1 = if 2048 ≤ p ∧ p < 65536 ∧ (p < 55296 ∨ 57343 < p) then (p : Int) else 65533 := by
  unfold fin isPoint width inv
  simp only [Bool.and_eq_true, Bool.or_eq_true, decide_eq_true_eq]
  repeat' split
  all_goals first | rfl | (exfalso; omega)
theorem fval3 (p : Nat) : (fin 3 p).1 = if 65536 ≤ p ∧ p ≤ 1114111 then (p : Int) else 65533 := by
  unfold fin isPoint width inv
  simp only [Bool.and_eq_true, Bool.or_eq_true, decide_eq_true_eq]
  repeat' split
  all_goals first | rfl | (exfalso; omega)
theorem if_val (c : Prop) [Decidable c] (x y : Int × Int × Bool) : (if c then x else y).1 = if c then x.1 else y.1 := by split <;> rfl
theorem if_fst (c : Prop) [Decidable c] (x y : Nat × Nat) : (((if c then x else y).1 : Nat) : Int) = if c then (x.1 : Int) else (y.1 : Int) := by split <;> rfl
theorem inv_val : inv.1 = 65533 := rfl
set_option maxHeartbeats 4000000 in
theorem nx_val (t : ByteArray) (a : Nat) (ha : a < t.size) : (nx t a).1 = ((Utf8.decode t a).1 : Int) := by
  rw [Lib.decode_N]
  have e0 : ∀ i, (t.data.toList.getD i 0).toNat = B t i := fun _ => rfl
  have e1 : t.data.toList.length = t.size := rfl
  have h0 := B_lt t a
  have h1 := B_lt t (a + 1)
  have h2 := B_lt t (a + 2)
  have h3 := B_lt t (a + 3)
  simp only [e0, e1, nx, jn, cont, Lib.decodeN, if_val, if_fst, fval1, fval2, fval3, inv_val, Nat.reduceAdd]
  generalize B t a = b0 at *
  generalize B t (a + 1) = b1 at *
  generalize B t (a + 2) = b2 at *
  generalize B t (a + 3) = b3 at *
  generalize t.size = n at *
  by_cases d0 : b0 < 128
  · simp only [if_pos d0]
  · by_cases d1 : 194 ≤ b0 ∧ b0 < 224
    · simp only [if_neg d0, if_pos d1]
      repeat' split
      all_goals first | rfl | omega | (exfalso; omega)
    · by_cases d2 : 224 ≤ b0 ∧ b0 < 240
      · simp only [if_neg d0, if_neg d1, if_pos d2]
        repeat' split
        all_goals first | rfl | omega | (exfalso; omega)
      · by_cases d3 : 240 ≤ b0 ∧ b0 < 245
        · simp only [if_neg d0, if_neg d1, if_neg d2, if_pos d3]
          repeat' split
          all_goals first | rfl | omega | (exfalso; omega)
        · simp only [if_neg d0, if_neg d1, if_neg d2, if_neg d3]
          repeat' split
          all_goals first | rfl | omega | (exfalso; omega)
theorem nx_go (t : ByteArray) (a : Nat) (ha : a < t.size) : (nx t a).1 = ((Lib.decodeGo (t.extract a (min t.size (a + 4)))).1 : Int) := by rw [nx_val t a ha, win t a ha]
end Go.Proofs.YtmmmlfndnoeedaaDoor.IX
