/- A text's points and their places, read by the program and by the reference. -/
import Derived.Test.YtmmmlfndnoeedaaDoorPPoint
namespace Go.Proofs.YtmmmlfndnoeedaaDoor.IX
open Go.Eng Go.RowKit
set_option linter.unusedVariables false
set_option linter.unusedSimpArgs false
theorem sufGo (t : ByteArray) (i : Nat) (h : i < t.size) : Lib.decodeGo (t.extract i t.size) = Utf8.decode t i := by
  have hs : (t.extract i t.size).size = t.size - i := by rw [ByteArray.size_extract]; omega
  unfold Lib.decodeGo
  rw [if_neg (by omega), Lib.decode_N, Lib.decode_N]
  have hl : (t.extract i t.size).data.toList.length = t.size - i := hs
  have e1 : t.data.toList.length = t.size := rfl
  have hk : ∀ k, (t.extract i t.size).data.toList.getD k 0 = t.data.toList.getD (i + k) 0 := fun k => by
    rw [ext_list]
    simp only [List.getD, List.getElem?_drop, List.getElem?_take]
    by_cases c : i + k < t.size
    · rw [if_pos (by omega)]
    · rw [if_neg (by omega), List.getElem?_eq_none (by rw [e1]; omega)]
  rw [hl, e1, hk 0, hk (0 + 1), hk (0 + 2), hk (0 + 3)]
  exact decodeN_cap _ _ _ _ _ _ (by omega) (by omega) (by omega)
set_option maxHeartbeats 4000000 in
theorem point_le (t : ByteArray) (i : Nat) : (Utf8.decode t i).1 ≤ 1114111 := by
  rw [Lib.decode_N]
  have h0 : (t.data.toList.getD i 0).toNat < 256 := UInt8.toNat_lt _
  generalize (t.data.toList.getD i 0).toNat = b0 at *
  generalize (t.data.toList.getD (i + 1) 0).toNat = b1 at *
  generalize (t.data.toList.getD (i + 2) 0).toNat = b2 at *
  generalize (t.data.toList.getD (i + 3) 0).toNat = b3 at *
  unfold Lib.decodeN
  repeat' split
  all_goals first | (show (_ : Nat) ≤ 1114111; omega) | decide
def wid (t : ByteArray) (i : Nat) : Nat := (Utf8.decode t i).2
theorem wid_pos (t : ByteArray) (i : Nat) (h : i < t.size) : 1 ≤ wid t i ∧ i + wid t i ≤ t.size := by
  have hs : (t.extract i t.size).size = t.size - i := by rw [ByteArray.size_extract]; omega
  have g := go_ge (t.extract i t.size) (by omega)
  rw [sufGo t i h, hs] at g
  exact ⟨g.1, by unfold wid; omega⟩
/-- a point, where it begins, where it ends, is it broken -/
def item (t : ByteArray) (i : Nat) : T_iiib := (((Utf8.decode t i).1 : Int), ((i : Int), (((i + wid t i : Nat) : Int), decide ((Utf8.decode t i).1 = 65533) && decide (wid t i = 1))))
def items (t : ByteArray) : Nat → Nat → List T_iiib
  | 0, _ => []
  | m + 1, i => if i < t.size then item t i :: items t m (i + wid t i) else []
theorem implRead_loop (t : ByteArray) (ht : t.size ≤ 1048576) : ∀ (m i : Nat) (out : List T_iiib), t.size ≤ i + m → out.length ≤ i → i ≤ t.size → Ev2 (fun k j => impl_read_L3'1 k j t (i : Int) out) (out ++ items t m i) := by
  intro m
  induction m with
  | zero =>
    intro i out hi ho hle
    refine Ev2.ret fun k j => ?_
    simp only [impl_read_L3'1.eq, W, W1]
    rw [if_neg (by omega), show items t 0 i = [] from rfl, List.append_nil]
  | succ m ih =>
    intro i out hi ho hle
    by_cases c : i < t.size
    · have hr := rune_ev (t.extract i t.size)
      rw [sufGo t i c] at hr
      obtain ⟨w1, w2⟩ := wid_pos t i c
      have pl := point_le t i
      have e := fun k j => impl_read_L3'1.eq t (i : Int) out k j
      have hadd : addI .i64 (i : Int) ((Utf8.decode t i).2 : Int) = ((i + wid t i : Nat) : Int) := by
        show addI .i64 (i : Int) (wid t i : Int) = _
        rw [addI_i64 (by omega) (by omega)]; omega
      have hwr : wrI .i64 ((Utf8.decode t i).1 : Int) = ((Utf8.decode t i).1 : Int) := wrI_i64 (by omega) (by omega)
      have c5 : ∀ x : T_iiib, ((out.length : Int) + (([x] : List T_iiib).length : Int)) * 32 < 140737488355328 := fun x => by simp; omega
      simp only [W, W1, W2, W3, Int.toNat_natCast, if_pos (show (i : Int) < (t.size : Int) by omega), if_pos (nat_ge i), if_pos (show (i : Int) ≤ (t.size : Int) by omega)] at e
      have h := ih (i + wid t i) (out ++ [item t i]) (by omega) (by simp; omega) (by omega)
      rw [List.append_assoc] at h
      rw [show items t (m + 1) i = item t i :: items t m (i + wid t i) from if_pos c]
      refine Ev2.step e (Ev2.bind hr ?_)
      by_cases q : ((Utf8.decode t i).1 : Int) = 65533
      · have hit : item t i = (((Utf8.decode t i).1 : Int), ((i : Int), (((i + wid t i : Nat) : Int), decide (((Utf8.decode t i).2 : Int) = 1)))) := by
          unfold item
          rw [decide_eq_true (show (Utf8.decode t i).1 = 65533 by omega), Bool.true_and]
          congr 3
          exact decide_eq_decide.2 ⟨fun h => by show ((wid t i : Nat) : Int) = 1; omega, fun h => by have h : ((wid t i : Nat) : Int) = 1 := h; omega⟩
        simp only [if_pos q, if_pos (c5 _), hadd, hwr]
        rw [← hit]
        exact h
      · have hit : item t i = (((Utf8.decode t i).1 : Int), ((i : Int), (((i + wid t i : Nat) : Int), false))) := by
          unfold item
          rw [decide_eq_false (show ¬ (Utf8.decode t i).1 = 65533 by omega), Bool.false_and]
        simp only [if_neg q, if_pos (c5 _), hadd, hwr]
        rw [← hit]
        exact h
    · refine Ev2.ret fun k j => ?_
      simp only [impl_read_L3'1.eq, W, W1]
      rw [if_neg (by omega), show items t (m + 1) i = [] from if_neg c, List.append_nil]
end Go.Proofs.YtmmmlfndnoeedaaDoor.IX
