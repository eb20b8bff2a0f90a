/- One code point of a text, plainly: the reference's reader is Go's decoder. -/
import Derived.Test.YtfbhkkedmfbgbaaDoorQPM0
import Derived.Test.YtfbhkkedmfbgbaaDoorEG
import Derived.Lib.TrimUEq
namespace Go.Proofs.YtfbhkkedmfbgbaaDoor.PM
open Go.Eng Go.RowKit
set_option linter.unusedVariables false
set_option linter.unusedSimpArgs false
/-- the byte at a place, 0 behind the end -/
def B (t : ByteArray) (i : Nat) : Nat := (t.data.toList.getD i 0).toNat
theorem B_lt (t : ByteArray) (i : Nat) : B t i < 256 := UInt8.toNat_lt _
theorem bt_B (t : ByteArray) (i : Nat) : bt t (i : Int) = (B t i : Int) := bt_nat t i
def isPoint (p : Nat) : Bool := decide (p ≤ 1114111) && (decide (p < 55296) || decide (57343 < p))
def width (p : Nat) : Nat := if p < 128 then 1 else if p < 2048 then 2 else if p < 65536 then 3 else 4
def inv : Int × Int × Bool := (65533, (1, false))
def fin (n p : Nat) : Int × Int × Bool := if isPoint p = true ∧ width p = n + 1 then ((p : Int), (((n : Int) + 1), true)) else inv
/-- the bytes that go on, from a place on -/
def cont (t : ByteArray) (a n : Nat) : Nat → Nat → Nat → Int × Int × Bool
  | 0, _, p => fin n p
  | m + 1, i, p => if B t (a + i) < 128 then inv else if 191 < B t (a + i) then inv else cont t a n m (i + 1) (p * 64 + B t (a + i) % 64)
theorem point_ev (p : Nat) : Ev (fun k => spec_l01IsPoint k (p : Int)) (isPoint p) := by
  refine Ev.ret fun k => ?_
  simp only [spec_l01IsPoint.eq, W, W1]
  unfold isPoint
  rw [if_pos (by omega)]
  by_cases c : p ≤ 1114111
  · rw [if_pos (by omega)]
    by_cases c2 : p < 55296
    · rw [if_pos (by omega)]; simp [c, c2]
    · rw [if_neg (by omega)]; simp only [c, c2, decide_true, decide_false, Bool.true_and, Bool.false_or]; congr 1; exact decide_eq_decide.2 ⟨fun h => by omega, fun h => by omega⟩
  · rw [if_neg (by omega)]; simp [c]
theorem bytesOf_len (l : List Int) : (bytesOf l).size = l.length := by simp [bytesOf, ByteArray.size]
theorem write_ev (p : Nat) (h : isPoint p = true) : ∃ b : ByteArray, b.size = width p ∧ Ev (fun k => spec_l01Write k (p : Int)) b := by
  have hp := point_ev p
  have e := fun k => spec_l01Write.eq (p : Int) k
  unfold width
  have z64 : ¬ ((64 : Int) = 0) := by omega
  have z4 : ¬ ((4096 : Int) = 0) := by omega
  have z2 : ¬ ((262144 : Int) = 0) := by omega
  by_cases c1 : p < 128
  · refine ⟨?b1, ?s1, Ev.step e (Ev.opt (r := ?b1) hp (Ev.of fun k => ?g1))⟩
    case g1 =>
      rw [h]
      simp only [spec_l01Write_J3.eq, W, W1]
      rw [if_pos (by omega)]
    case s1 => rw [bytesOf_len, if_pos c1]; rfl
  · by_cases c2 : p < 2048
    · refine ⟨?b2, ?s2, Ev.step e (Ev.opt (r := ?b2) hp (Ev.of fun k => ?g2))⟩
      case g2 =>
        rw [h]
        simp only [spec_l01Write_J3.eq, W, W1, if_neg z64]
        rw [if_neg (by omega), if_pos (by omega)]
      case s2 => rw [bytesOf_len, if_neg c1, if_pos c2]; rfl
    · by_cases c3 : p < 65536
      · refine ⟨?b3, ?s3, Ev.step e (Ev.opt (r := ?b3) hp (Ev.of fun k => ?g3))⟩
        case g3 =>
          rw [h]
          simp only [spec_l01Write_J3.eq, W, W1, if_neg z64, if_neg z4]
          rw [if_neg (by omega), if_neg (by omega), if_pos (by omega)]
        case s3 => rw [bytesOf_len, if_neg c1, if_neg c2, if_pos c3]; rfl
      · refine ⟨?b4, ?s4, Ev.step e (Ev.opt (r := ?b4) hp (Ev.of fun k => ?g4))⟩
        case g4 =>
          rw [h]
          simp only [spec_l01Write_J3.eq, W, W1, if_neg z64, if_neg z4, if_neg z2]
          rw [if_neg (by omega), if_neg (by omega), if_neg (by omega)]
        case s4 => rw [bytesOf_len, if_neg c1, if_neg c2, if_neg c3]; rfl
theorem cont_ev (t : ByteArray) (a n : Nat) (ha : a + n < t.size) (hn : t.size ≤ 1048576) : ∀ m i p : Nat, i + m = n + 1 → (p + 1) * 64 ^ m ≤ 1099511627776 →
    Ev2 (fun k j => spec_l01Next_L19 k j t (a : Int) (n : Int) (p : Int) (i : Int)) (cont t a n m i p) := by
  intro m
  induction m with
  | zero =>
    intro i p hi hp
    have e := fun k j => spec_l01Next_L19.eq t (a : Int) (n : Int) (p : Int) (i : Int) k j
    have c1 : ¬ (i : Int) ≤ (n : Int) := by omega
    have hw : addI .i64 (n : Int) 1 = (n : Int) + 1 := addI_i64 (by omega) (by omega)
    simp only [W, W1, W3, if_neg c1, hw] at e
    refine Ev2.step e (Ev2.bind (point_ev p) ?_)
    by_cases hq : isPoint p = true
    · obtain ⟨b, hb, h⟩ := write_ev p hq
      simp only [hq, W1]
      refine Ev2.bind h ?_
      by_cases hwd : width p = n + 1
      · have c2 : (b.size : Int) = (n : Int) + 1 := by omega
        simp only [if_pos c2]
        rw [show cont t a n 0 i p = ((p : Int), (((n : Int) + 1), true)) from if_pos ⟨hq, hwd⟩]
        exact Ev2.now _
      · have c2 : ¬ (b.size : Int) = (n : Int) + 1 := by omega
        simp only [if_neg c2]
        rw [show cont t a n 0 i p = inv from if_neg (fun h => hwd h.2)]
        exact Ev2.now _
    · have hq' : isPoint p = false := by simpa using hq
      simp only [hq', W1]
      rw [show cont t a n 0 i p = inv from if_neg (fun h => hq h.1)]
      exact Ev2.now _
  | succ m ih =>
    intro i p hi hp
    have e := fun k j => spec_l01Next_L19.eq t (a : Int) (n : Int) (p : Int) (i : Int) k j
    have hB := B_lt t (a + i)
    have h1 : 0 < 64 ^ m := Nat.pow_pos (by omega)
    have h2 : (p + 1) * 64 ≤ (p + 1) * 64 ^ (m + 1) := Nat.mul_le_mul_left _ (by rw [Nat.pow_succ]; omega)
    have h3 : (p * 64 + B t (a + i) % 64 + 1) * 64 ^ m ≤ (p + 1) * 64 ^ (m + 1) := by
      have := Nat.mul_le_mul_right (64 ^ m) (show p * 64 + B t (a + i) % 64 + 1 ≤ (p + 1) * 64 by omega)
      rw [Nat.mul_assoc, Nat.mul_comm 64, ← Nat.pow_succ] at this
      exact this
    have c1 : (i : Int) ≤ (n : Int) := by omega
    have hw : addI .i64 (a : Int) (i : Int) = ((a + i : Nat) : Int) := by rw [addI_i64 (by omega) (by omega)]; omega
    have hwr : wrI .i64 (B t (a + i) : Int) = (B t (a + i) : Int) := wrI_i64 (by omega) (by omega)
    have hr : remI (B t (a + i) : Int) 64 = ((B t (a + i) % 64 : Nat) : Int) := by rw [remI_eq]; rfl
    have hm : mulI .i64 (p : Int) 64 = ((p * 64 : Nat) : Int) := by rw [mulI_i64 (by omega) (by omega)]; omega
    have ha2 : addI .i64 ((p * 64 : Nat) : Int) ((B t (a + i) % 64 : Nat) : Int) = ((p * 64 + B t (a + i) % 64 : Nat) : Int) := by rw [addI_i64 (by omega) (by omega)]; omega
    have hi2 : addI .i64 (i : Int) 1 = ((i + 1 : Nat) : Int) := by rw [addI_i64 (by omega) (by omega)]; omega
    have c2 : (0 : Int) ≤ ((a + i : Nat) : Int) := by omega
    have c3 : ((a + i : Nat) : Int) < (t.size : Int) := by omega
    have z : ¬ ((64 : Int) = 0) := by omega
    simp only [W, W1, W3, hw, bt_B, hwr, hr, hm, ha2, hi2, if_pos c1, if_pos c2, if_pos c3, if_neg z] at e
    refine Ev2.step e ?_
    by_cases d1 : B t (a + i) < 128
    · rw [show cont t a n (m + 1) i p = inv from if_pos d1]
      simp only [if_pos (show ((B t (a + i) : Nat) : Int) < 128 by omega)]
      exact Ev2.now _
    · by_cases d2 : 191 < B t (a + i)
      · rw [show cont t a n (m + 1) i p = inv from (if_neg d1).trans (if_pos d2)]
        simp only [if_neg (show ¬ ((B t (a + i) : Nat) : Int) < 128 by omega), if_pos (show 191 < ((B t (a + i) : Nat) : Int) by omega)]
        exact Ev2.now _
      · rw [show cont t a n (m + 1) i p = cont t a n m (i + 1) (p * 64 + B t (a + i) % 64) from (if_neg d1).trans (if_neg d2)]
        simp only [if_neg (show ¬ ((B t (a + i) : Nat) : Int) < 128 by omega), if_neg (show ¬ 191 < ((B t (a + i) : Nat) : Int) by omega)]
        exact ih (i + 1) _ (by omega) (by omega)
def jn (t : ByteArray) (a n p : Nat) : Int × Int × Bool := if t.size ≤ a + n then inv else cont t a n n 1 p
theorem jn_ev (t : ByteArray) (a n p : Nat) (hn : t.size ≤ 1048576) (ha : a < t.size) (h3 : n ≤ 3) (hp : p ≤ 31) : Ev (fun k => spec_l01Next_J16 k t (a : Int) (n : Int) (p : Int)) (jn t a n p) := by
  have hw : addI .i64 (a : Int) (n : Int) = ((a + n : Nat) : Int) := by rw [addI_i64 (by omega) (by omega)]; omega
  have e := fun k => spec_l01Next_J16.eq t (a : Int) (n : Int) (p : Int) k
  simp only [W, W1, hw] at e
  refine Ev.congr e ?_
  unfold jn
  by_cases c : t.size ≤ a + n
  · simp only [if_pos c, if_pos (show (t.size : Int) ≤ ((a + n : Nat) : Int) by omega)]
    exact Ev.now _
  · simp only [if_neg c, if_neg (show ¬ (t.size : Int) ≤ ((a + n : Nat) : Int) by omega)]
    have h64 : 64 ^ n ≤ 64 ^ 3 := Nat.pow_le_pow_right (by omega) h3
    have hb : (p + 1) * 64 ^ n ≤ 32 * 64 ^ 3 := Nat.mul_le_mul (by omega) h64
    exact (cont_ev t a n (by omega) hn n 1 p (by omega) (by omega)).ev
def nx (t : ByteArray) (a : Nat) : Int × Int × Bool :=
  if B t a < 128 then ((B t a : Int), (1, true)) else if 194 ≤ B t a ∧ B t a < 224 then jn t a 1 (B t a % 32) else if 224 ≤ B t a ∧ B t a < 240 then jn t a 2 (B t a % 16) else if 240 ≤ B t a ∧ B t a < 245 then jn t a 3 (B t a % 8) else inv
theorem nx_ev (t : ByteArray) (a : Nat) (hn : t.size ≤ 1048576) (ha : a < t.size) : Ev (fun k => spec_l01Next k t (a : Int)) (nx t a) := by
  have e := fun k => spec_l01Next.eq t (a : Int) k
  have hB := B_lt t a
  have hwr : wrI .i64 (B t a : Int) = (B t a : Int) := wrI_i64 (by omega) (by omega)
  have r1 : remI (B t a : Int) 32 = ((B t a % 32 : Nat) : Int) := by rw [remI_eq]; rfl
  have r2 : remI (B t a : Int) 16 = ((B t a % 16 : Nat) : Int) := by rw [remI_eq]; rfl
  have r3 : remI (B t a : Int) 8 = ((B t a % 8 : Nat) : Int) := by rw [remI_eq]; rfl
  have c2 : (0 : Int) ≤ (a : Int) := by omega
  have c3 : (a : Int) < (t.size : Int) := by omega
  have z1 : ¬ ((32 : Int) = 0) := by omega
  have z2 : ¬ ((16 : Int) = 0) := by omega
  have z3 : ¬ ((8 : Int) = 0) := by omega
  simp only [W, W1, W3, bt_B, hwr, r1, r2, r3, if_pos c2, if_pos c3, if_neg z1, if_neg z2, if_neg z3] at e
  refine Ev.step e ?_
  unfold nx
  by_cases d0 : B t a < 128
  · simp only [if_pos d0, if_pos (show ((B t a : Nat) : Int) < 128 by omega)]
    exact Ev.now _
  · simp only [if_neg d0, if_neg (show ¬ ((B t a : Nat) : Int) < 128 by omega)]
    by_cases d1 : 194 ≤ B t a ∧ B t a < 224
    · simp only [if_pos d1, if_pos (show (194 : Int) ≤ ((B t a : Nat) : Int) by omega), if_pos (show ((B t a : Nat) : Int) < 224 by omega)]
      exact jn_ev t a 1 _ hn ha (by omega) (by omega)
    · by_cases d2 : 224 ≤ B t a ∧ B t a < 240
      · simp only [if_neg d1, if_pos d2, if_pos (show (194 : Int) ≤ ((B t a : Nat) : Int) by omega), if_neg (show ¬ ((B t a : Nat) : Int) < 224 by omega), if_pos (show (224 : Int) ≤ ((B t a : Nat) : Int) by omega), if_pos (show ((B t a : Nat) : Int) < 240 by omega)]
        exact jn_ev t a 2 _ hn ha (by omega) (by omega)
      · by_cases d3 : 240 ≤ B t a ∧ B t a < 245
        · simp only [if_neg d1, if_neg d2, if_pos d3, if_pos (show (194 : Int) ≤ ((B t a : Nat) : Int) by omega), if_neg (show ¬ ((B t a : Nat) : Int) < 224 by omega), if_pos (show (224 : Int) ≤ ((B t a : Nat) : Int) by omega), if_neg (show ¬ ((B t a : Nat) : Int) < 240 by omega), if_pos (show (240 : Int) ≤ ((B t a : Nat) : Int) by omega), if_pos (show ((B t a : Nat) : Int) < 245 by omega)]
          exact jn_ev t a 3 _ hn ha (by omega) (by omega)
        · simp only [if_neg d1, if_neg d2, if_neg d3]
          by_cases d4 : B t a < 194
          · simp only [if_neg (show ¬ (194 : Int) ≤ ((B t a : Nat) : Int) by omega), if_neg (show ¬ (224 : Int) ≤ ((B t a : Nat) : Int) by omega), if_neg (show ¬ (240 : Int) ≤ ((B t a : Nat) : Int) by omega)]
            exact Ev.now _
          · simp only [if_pos (show (194 : Int) ≤ ((B t a : Nat) : Int) by omega), if_neg (show ¬ ((B t a : Nat) : Int) < 224 by omega), if_pos (show (224 : Int) ≤ ((B t a : Nat) : Int) by omega), if_neg (show ¬ ((B t a : Nat) : Int) < 240 by omega), if_pos (show (240 : Int) ≤ ((B t a : Nat) : Int) by omega), if_neg (show ¬ ((B t a : Nat) : Int) < 245 by omega)]
            exact Ev.now _
theorem fin1 (p : Nat) : (fin 1 p).2.1 = if 128 ≤ p ∧ p < 2048 then 2 else 1 := by
  unfold fin isPoint width inv
  simp only [Bool.and_eq_true, Bool.or_eq_true, decide_eq_true_eq]
  repeat' split
  all_goals first | rfl | (exfalso; omega)
theorem fin2 (p : Nat) : (fin 2 p).2.1 = if 2048 ≤ p ∧ p < 65536 ∧ (p < 55296 ∨ 57343 < p) then 3 else 1 := by
  unfold fin isPoint width inv
  simp only [Bool.and_eq_true, Bool.or_eq_true, decide_eq_true_eq]
  repeat' split
  all_goals first | rfl | (exfalso; omega)
theorem fin3 (p : Nat) : (fin 3 p).2.1 = if 65536 ≤ p ∧ p ≤ 1114111 then 4 else 1 := by
  unfold fin isPoint width inv
  simp only [Bool.and_eq_true, Bool.or_eq_true, decide_eq_true_eq]
  repeat' split
  all_goals first | rfl | (exfalso; omega)
theorem if_size (c : Prop) [Decidable c] (x y : Int × Int × Bool) : (if c then x else y).2.1 = if c then x.2.1 else y.2.1 := by split <;> rfl
theorem if_snd (c : Prop) [Decidable c] (x y : Nat × Nat) : (((if c then x else y).2 : Nat) : Int) = if c then (x.2 : Int) else (y.2 : Int) := by split <;> rfl
theorem inv_size : inv.2.1 = 1 := rfl
set_option maxHeartbeats 4000000 in
theorem nx_size (t : ByteArray) (a : Nat) (ha : a < t.size) : (nx t a).2.1 = ((Utf8.decode t a).2 : Int) := by
  rw [Lib.decode_N]
  have e0 : ∀ i, (t.data.toList.getD i 0).toNat = B t i := fun _ => rfl
  have e1 : t.data.toList.length = t.size := rfl
  have h0 := B_lt t a
  have h1 := B_lt t (a + 1)
  have h2 := B_lt t (a + 2)
  have h3 := B_lt t (a + 3)
  simp only [e0, e1, nx, jn, cont, Lib.decodeN, if_size, if_snd, fin1, fin2, fin3, inv_size, Nat.reduceAdd]
  generalize B t a = b0 at *
  generalize B t (a + 1) = b1 at *
  generalize B t (a + 2) = b2 at *
  generalize B t (a + 3) = b3 at *
  generalize t.size = n at *
  by_cases d0 : b0 < 128
  · simp only [if_pos d0]; rfl
  · by_cases d1 : 194 ≤ b0 ∧ b0 < 224
    · simp only [if_neg d0, if_pos d1]
      repeat' split
      all_goals first | rfl | (exfalso; omega)
    · by_cases d2 : 224 ≤ b0 ∧ b0 < 240
      · simp only [if_neg d0, if_neg d1, if_pos d2]
        repeat' split
        all_goals first | rfl | (exfalso; omega)
      · by_cases d3 : 240 ≤ b0 ∧ b0 < 245
        · simp only [if_neg d0, if_neg d1, if_neg d2, if_pos d3]
          repeat' split
          all_goals first | rfl | (exfalso; omega)
        · simp only [if_neg d0, if_neg d1, if_neg d2, if_neg d3]
          repeat' split
          all_goals first | rfl | (exfalso; omega)
end Go.Proofs.YtfbhkkedmfbgbaaDoor.PM
