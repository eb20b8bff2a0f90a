/- Code points that are written, plainly. -/
import Derived.Test.YtjgcpfdgneeleaaQUN0
import Derived.Test.YtjgcpfdgneeleaaEG
namespace Go.Proofs.Ytjgcpfdgneeleaa.UN
open Go.Eng Go.RowKit
set_option linter.unusedVariables false
set_option linter.unusedSimpArgs false
def isPoint (p : Nat) : Bool := decide (p ≤ 1114111) && (decide (p < 55296) || decide (57343 < p))
def width (p : Nat) : Nat := if p < 128 then 1 else if p < 2048 then 2 else if p < 65536 then 3 else 4
theorem point_ev (p : Nat) : Ev (fun k => spec_l01IsPoint k (p : Int)) (isPoint p) := by
  refine Ev.ret fun k => ?_
  simp only [spec_l01IsPoint.eq, W, W1]
  unfold isPoint
  rw [if_pos (by omega)]
  by_cases c : p ≤ 1114111
  · rw [if_pos (by omega)]
    by_cases c2 : p < 55296
    · rw [if_pos (by omega)]; simp [c, c2]
    · rw [if_neg (by omega)]; simp only [c, c2, decide_true, decide_false, Bool.true_and, Bool.false_or]; congr 1; exact decide_eq_decide.2 ⟨fun h => by omega, fun h => by omega⟩
  · rw [if_neg (by omega)]; simp [c]
theorem bytesOf_len (l : List Int) : (bytesOf l).size = l.length := by simp [bytesOf, ByteArray.size]
theorem write_ev (p : Nat) (h : isPoint p = true) : ∃ b : ByteArray, b.size = width p ∧ Ev (fun k => spec_l01Write k (p : Int)) b := by
  have hp := point_ev p
  have e := fun k => spec_l01Write.eq (p : Int) k
  unfold width
  have z64 : ¬ ((64 : Int) = 0) := by omega
  have z4 : ¬ ((4096 : Int) = 0) := by omega
  have z2 : ¬ ((262144 : Int) = 0) := by omega
  by_cases c1 : p < 128
  · refine ⟨?b1, ?s1, Ev.step e (Ev.opt (r := ?b1) hp (Ev.of fun k => ?g1))⟩
    case g1 =>
      rw [h]
      simp only [spec_l01Write_J3.eq, W, W1]
      rw [if_pos (by omega)]
    case s1 => rw [bytesOf_len, if_pos c1]; rfl
  · by_cases c2 : p < 2048
    · refine ⟨?b2, ?s2, Ev.step e (Ev.opt (r := ?b2) hp (Ev.of fun k => ?g2))⟩
      case g2 =>
        rw [h]
        simp only [spec_l01Write_J3.eq, W, W1, if_neg z64]
        rw [if_neg (by omega), if_pos (by omega)]
      case s2 => rw [bytesOf_len, if_neg c1, if_pos c2]; rfl
    · by_cases c3 : p < 65536
      · refine ⟨?b3, ?s3, Ev.step e (Ev.opt (r := ?b3) hp (Ev.of fun k => ?g3))⟩
        case g3 =>
          rw [h]
          simp only [spec_l01Write_J3.eq, W, W1, if_neg z64, if_neg z4]
          rw [if_neg (by omega), if_neg (by omega), if_pos (by omega)]
        case s3 => rw [bytesOf_len, if_neg c1, if_neg c2, if_pos c3]; rfl
      · refine ⟨?b4, ?s4, Ev.step e (Ev.opt (r := ?b4) hp (Ev.of fun k => ?g4))⟩
        case g4 =>
          rw [h]
          simp only [spec_l01Write_J3.eq, W, W1, if_neg z64, if_neg z4, if_neg z2]
          rw [if_neg (by omega), if_neg (by omega), if_neg (by omega)]
        case s4 => rw [bytesOf_len, if_neg c1, if_neg c2, if_neg c3]; rfl
end Go.Proofs.Ytjgcpfdgneeleaa.UN
