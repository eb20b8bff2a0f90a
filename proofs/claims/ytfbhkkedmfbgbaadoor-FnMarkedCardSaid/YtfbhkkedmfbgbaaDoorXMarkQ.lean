/- Marks in texts, plainly. -/
import Derived.Test.YtfbhkkedmfbgbaaDoorQPM0
import Derived.Test.YtfbhkkedmfbgbaaDoorEG
namespace Go.Proofs.YtfbhkkedmfbgbaaDoor.PM
open Go.Eng Go.RowKit
set_option linter.unusedVariables false
set_option linter.unusedSimpArgs false
theorem Ev2.of_eq {α : Type} {g f : Nat → Nat → Option α} {r : α} (h : ∃ n, ∀ k j, n ≤ k → g k j = f k j) (hf : Ev2 f r) : Ev2 g r := by
  obtain ⟨n, h⟩ := h
  obtain ⟨m, hm⟩ := hf
  exact ⟨n + m, fun k j hk hj => (h k j (by omega)).trans (hm k j (by omega) (by omega))⟩
theorem quo10 {k : Int} (h0 : 0 ≤ k) (h1 : k ≤ 1099511627776) : quoI .i64 k 10 = ((k.toNat / 10 : Nat) : Int) := by
  rw [quoI_eq]
  have : k.tdiv 10 = ((k.toNat / 10 : Nat) : Int) := by
    obtain ⟨n, rfl⟩ := Int.eq_ofNat_of_zero_le h0
    simp
  rw [this]
  exact wrap_i64 (by omega) (by omega)
theorem markText_loop : ∀ (n : Nat) (out : ByteArray), n + out.size ≤ 1099511627776 → ∃ s : ByteArray, Ev2 (fun k j => laws_markText_L4 k j (n : Int) out) s := by
  intro n
  induction n using Nat.strongRecOn with
  | _ n ih =>
    intro out hn
    by_cases c : n = 0
    · subst c
      refine ⟨bs [109] ++ out, Ev2.ret fun k j => ?_⟩
      simp only [laws_markText_L4.eq, W, W1]
      rw [if_neg (by omega), if_pos (by show ((1 : Nat) : Int) + _ ≤ _; omega)]
    · obtain ⟨s, hs⟩ := ih (n / 10) (by omega) (bytesOf [wrI .u8 (addI .i64 48 (remI (n : Int) 10))] ++ out) (by
        rw [ByteArray.size_append]
        have : (bytesOf [wrI .u8 (addI .i64 48 (remI (n : Int) 10))]).size = 1 := rfl
        omega)
      refine ⟨s, Ev2.step (fun k j => ?_) hs⟩
      have hq : quoI .i64 (n : Int) 10 = ((n / 10 : Nat) : Int) := quo10 (by omega) (by omega)
      simp only [laws_markText_L4.eq, W, W1, hq]
      rw [if_pos (by omega), if_neg (by omega), if_pos (by show ((1 : Nat) : Int) + _ ≤ _; omega), if_neg (by omega)]
theorem markText_ev (n : Nat) (hn : n ≤ 1000000000) : ∃ s : ByteArray, Ev (fun k => laws_markText k (n : Int)) s := by
  by_cases c : n = 0
  · subst c
    refine ⟨bs [109, 48], Ev.ret fun k => ?_⟩
    simp only [laws_markText.eq, W, W1]
    rw [if_pos (by omega)]
  · obtain ⟨s, hs⟩ := markText_loop n (bs []) (by show n + 0 ≤ _; omega)
    refine ⟨s, Ev.step (fun k => ?_) hs.ev⟩
    simp only [laws_markText.eq, W, W1]
    rw [if_neg (by omega)]
end Go.Proofs.YtfbhkkedmfbgbaaDoor.PM
