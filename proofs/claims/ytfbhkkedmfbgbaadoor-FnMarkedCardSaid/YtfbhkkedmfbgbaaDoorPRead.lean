/- The program's reader of code points, plainly: where the first of a window ends. -/
import Derived.Test.YtfbhkkedmfbgbaaDoorPRune
import Derived.Lib.QuoteLoop
import Derived.ProofKit
namespace Go.Proofs.YtfbhkkedmfbgbaaDoor.PM
open Go.Eng Go.RowKit
set_option linter.unusedVariables false
set_option linter.unusedSimpArgs false
theorem rune_ev (s : ByteArray) : Ev (fun k => unicode_utf8_DecodeRuneInString k s) (((Lib.decodeGo s).1 : Int), ((Lib.decodeGo s).2 : Int)) := by
  refine Ev.ret fun k => ?_
  have : unicode_utf8_DecodeRuneInString (k + 1) s = some (((Lib.decodeGo s).1 : Int), ((Lib.decodeGo s).2 : Int)) := by kernel_rfl
  exact this
theorem go_ge (s : ByteArray) (h : 0 < s.size) : 1 ≤ (Lib.decodeGo s).2 ∧ (Lib.decodeGo s).2 ≤ s.size := by
  unfold Lib.decodeGo
  rw [if_neg (by omega)]
  exact ⟨Lib.width_pos s 0, Lib.width_le s h⟩
theorem decodeN_cap (n m b0 b1 b2 b3 : Nat) (h1 : 1 < n ↔ 1 < m) (h2 : 2 < n ↔ 2 < m) (h3 : 3 < n ↔ 3 < m) : Lib.decodeN n b0 b1 b2 b3 = Lib.decodeN m b0 b1 b2 b3 := by
  unfold Lib.decodeN
  simp only [h1, h2, h3]
theorem ext_list (t : ByteArray) (i j : Nat) : (t.extract i j).data.toList = (t.data.toList.take j).drop i := by
  simp [ByteArray.extract, ByteArray.copySlice, List.drop_take]
theorem win (t : ByteArray) (i : Nat) (h : i < t.size) : Lib.decodeGo (t.extract i (min t.size (i + 4))) = Utf8.decode t i := by
  have hs : (t.extract i (min t.size (i + 4))).size = min t.size (i + 4) - i := by rw [ByteArray.size_extract]; omega
  unfold Lib.decodeGo
  rw [if_neg (by omega), Lib.decode_N, Lib.decode_N]
  have hl : (t.extract i (min t.size (i + 4))).data.toList.length = min t.size (i + 4) - i := hs
  have e1 : t.data.toList.length = t.size := rfl
  have hk : ∀ k, k < 4 → (t.extract i (min t.size (i + 4))).data.toList.getD k 0 = t.data.toList.getD (i + k) 0 := fun k hk => by
    rw [ext_list]
    simp only [List.getD, List.getElem?_drop, List.getElem?_take]
    by_cases c : i + k < t.size
    · rw [if_pos (by omega)]
    · rw [if_neg (by omega), List.getElem?_eq_none (by rw [e1]; omega)]
  rw [hl, e1, hk 0 (by omega), hk (0 + 1) (by omega), hk (0 + 2) (by omega), hk (0 + 3) (by omega)]
  exact decodeN_cap _ _ _ _ _ _ (by omega) (by omega) (by omega)
theorem readL (w : ByteArray) (hw : w.size ≤ 1048576) : ∀ (m i : Nat) (out : List T_iiib), w.size ≤ i + m → out.length ≤ i → i ≤ w.size → ∃ suf, Ev2 (fun k j => impl_read_L3'1 k j w (i : Int) out) (out ++ suf) := by
  intro m
  induction m with
  | zero =>
    intro i out hi ho hle
    refine ⟨[], Ev2.ret fun k j => ?_⟩
    simp only [impl_read_L3'1.eq, W, W1]
    rw [if_neg (by omega), List.append_nil]
  | succ m ih =>
    intro i out hi ho hle
    by_cases c : i < w.size
    · have hs : (w.extract i w.size).size = w.size - i := by rw [ByteArray.size_extract]; omega
      have g := go_ge (w.extract i w.size) (by omega)
      have hr := rune_ev (w.extract i w.size)
      generalize Lib.decodeGo (w.extract i w.size) = d at g hr
      have e := fun k j => impl_read_L3'1.eq w (i : Int) out k j
      have c1 : (i : Int) < (w.size : Int) := by omega
      have c2 : (0 : Int) ≤ (i : Int) := by omega
      have c3 : (i : Int) ≤ (w.size : Int) := by omega
      have hadd : addI .i64 (i : Int) (d.2 : Int) = ((i + d.2 : Nat) : Int) := by rw [addI_i64 (by omega) (by omega)]; omega
      have c5 : ∀ x : T_iiib, ((out.length : Int) + (([x] : List T_iiib).length : Int)) * 32 < 140737488355328 := fun x => by simp; omega
      simp only [W, W1, W2, W3, Int.toNat_natCast, if_pos c1, if_pos c2, if_pos c3] at e
      by_cases q : (d.1 : Int) = 65533
      · obtain ⟨suf, h⟩ := ih (i + d.2) (out ++ [(wrI .i64 (d.1 : Int), ((i : Int), (((i + d.2 : Nat) : Int), decide ((d.2 : Int) = 1))))]) (by omega) (by simp; omega) (by omega)
        rw [List.append_assoc] at h
        refine ⟨[(wrI .i64 (d.1 : Int), ((i : Int), (((i + d.2 : Nat) : Int), decide ((d.2 : Int) = 1))))] ++ suf, Ev2.step e (Ev2.bind hr ?_)⟩
        · simp only [if_pos q, if_pos (c5 _), hadd]
          exact h
      · obtain ⟨suf, h⟩ := ih (i + d.2) (out ++ [(wrI .i64 (d.1 : Int), ((i : Int), (((i + d.2 : Nat) : Int), false)))]) (by omega) (by simp; omega) (by omega)
        rw [List.append_assoc] at h
        refine ⟨[(wrI .i64 (d.1 : Int), ((i : Int), (((i + d.2 : Nat) : Int), false)))] ++ suf, Ev2.step e (Ev2.bind hr ?_)⟩
        · simp only [if_neg q, if_pos (c5 _), hadd]
          exact h
    · refine ⟨[], Ev2.ret fun k j => ?_⟩
      simp only [impl_read_L3'1.eq, W, W1]
      rw [if_neg (by omega), List.append_nil]
/-- Of a window that is not empty: the first code point begins at 0 and ends where Go's decoder says. -/
theorem read_ev (w : ByteArray) (h0 : 0 < w.size) (hw : w.size ≤ 1048576) : ∃ (x : Int) (f : Bool) (suf : List T_iiib), Ev (fun k => impl_read k w) ((x, (0, (((Lib.decodeGo w).2 : Int), f))) :: suf) := by
  have g := go_ge w h0
  have hr := rune_ev w
  generalize Lib.decodeGo w = d at g hr
  have e := fun k j => impl_read_L3.eq w 0 k j
  have c1 : (0 : Int) < (w.size : Int) := by omega
  have c2 : (0 : Int) ≤ 0 := by omega
  have c3 : (0 : Int) ≤ (w.size : Int) := by omega
  have hadd : addI .i64 0 (d.2 : Int) = (d.2 : Int) := by rw [addI_i64 (by omega) (by omega)]; omega
  have c5 : ∀ x : T_iiib, ((([] : List T_iiib).length : Int) + (([x] : List T_iiib).length : Int)) * 32 < 140737488355328 := fun x => by simp
  have hx : w.extract 0 w.size = w := by apply ByteArray.ext; simp [ByteArray.data_extract]
  simp only [W, W1, W2, W3, Int.toNat_natCast, Int.toNat_zero, hx, if_pos c1, if_pos c2, if_pos c3] at e
  by_cases q : (d.1 : Int) = 65533
  · obtain ⟨suf, h⟩ := readL w hw w.size d.2 [(wrI .i64 (d.1 : Int), (0, ((d.2 : Int), decide ((d.2 : Int) = 1))))] (by omega) (by simp; omega) (by omega)
    have key : Ev2 (fun k j => impl_read_L3 k j w 0) ((wrI .i64 (d.1 : Int), (0, ((d.2 : Int), decide ((d.2 : Int) = 1)))) :: suf) := by
      refine Ev2.step e (Ev2.bind hr ?_)
      simp only [if_pos q, if_pos (c5 _), hadd, List.nil_append]
      exact h
    exact ⟨_, _, suf, Ev.step (fun k => impl_read.eq w k) key.ev⟩
  · obtain ⟨suf, h⟩ := readL w hw w.size d.2 [(wrI .i64 (d.1 : Int), (0, ((d.2 : Int), false)))] (by omega) (by simp; omega) (by omega)
    have key : Ev2 (fun k j => impl_read_L3 k j w 0) ((wrI .i64 (d.1 : Int), (0, ((d.2 : Int), false))) :: suf) := by
      refine Ev2.step e (Ev2.bind hr ?_)
      simp only [if_neg q, if_pos (c5 _), hadd, List.nil_append]
      exact h
    exact ⟨_, _, suf, Ev.step (fun k => impl_read.eq w k) key.ev⟩
end Go.Proofs.YtfbhkkedmfbgbaaDoor.PM
