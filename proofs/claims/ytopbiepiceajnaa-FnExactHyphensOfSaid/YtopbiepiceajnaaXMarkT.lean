/- Marks in texts and lists of strings, plainly. -/
import Derived.Test.YtopbiepiceajnaaQS0
import Derived.Test.YtopbiepiceajnaaE30
namespace Go.Proofs.Ytopbiepiceajnaa.S
open Go.Eng Go.RowKit
set_option linter.unusedVariables false
set_option linter.unusedSimpArgs false
theorem Ev2.of_eq {α : Type} {g f : Nat → Nat → Option α} {r : α} (h : ∃ n, ∀ k j, n ≤ k → g k j = f k j) (hf : Ev2 f r) : Ev2 g r := by
  obtain ⟨n, h⟩ := h
  obtain ⟨m, hm⟩ := hf
  exact ⟨n + m, fun k j hk hj => (h k j (by omega)).trans (hm k j (by omega) (by omega))⟩
theorem quo10 {k : Int} (h0 : 0 ≤ k) (h1 : k ≤ 1099511627776) : quoI .i64 k 10 = ((k.toNat / 10 : Nat) : Int) := by
  rw [quoI_eq]
  have : k.tdiv 10 = ((k.toNat / 10 : Nat) : Int) := by
    obtain ⟨n, rfl⟩ := Int.eq_ofNat_of_zero_le h0
    simp
  rw [this]
  exact wrap_i64 (by omega) (by omega)
theorem markText_loop : ∀ (n : Nat) (out : ByteArray), n + out.size ≤ 1099511627776 → ∃ s : ByteArray, Ev2 (fun k j => laws_markText_L4 k j (n : Int) out) s := by
  intro n
  induction n using Nat.strongRecOn with
  | _ n ih =>
    intro out hn
    by_cases c : n = 0
    · subst c
      refine ⟨bs [109] ++ out, Ev2.ret fun k j => ?_⟩
      simp only [laws_markText_L4.eq, W, W1]
      rw [if_neg (by omega), if_pos (by show ((1 : Nat) : Int) + _ ≤ _; omega)]
    · obtain ⟨s, hs⟩ := ih (n / 10) (by omega) (bytesOf [wrI .u8 (addI .i64 48 (remI (n : Int) 10))] ++ out) (by
        rw [ByteArray.size_append]
        have : (bytesOf [wrI .u8 (addI .i64 48 (remI (n : Int) 10))]).size = 1 := rfl
        omega)
      refine ⟨s, Ev2.step (fun k j => ?_) hs⟩
      have hq : quoI .i64 (n : Int) 10 = ((n / 10 : Nat) : Int) := quo10 (by omega) (by omega)
      simp only [laws_markText_L4.eq, W, W1, hq]
      rw [if_pos (by omega), if_neg (by omega), if_pos (by show ((1 : Nat) : Int) + _ ≤ _; omega), if_neg (by omega)]
theorem markText_ev (n : Nat) (hn : n ≤ 1000000000) : ∃ s : ByteArray, Ev (fun k => laws_markText k (n : Int)) s := by
  by_cases c : n = 0
  · subst c
    refine ⟨bs [109, 48], Ev.ret fun k => ?_⟩
    simp only [laws_markText.eq, W, W1]
    rw [if_pos (by omega)]
  · obtain ⟨s, hs⟩ := markText_loop n (bs []) (by show n + 0 ≤ _; omega)
    refine ⟨s, Ev.step (fun k => ?_) hs.ev⟩
    simp only [laws_markText.eq, W, W1]
    rw [if_neg (by omega)]
theorem markStrs_loop (n : Nat) (hn : n ≤ 1048576) : ∀ (m i : Nat) (l : List ByteArray) (k0 : Nat), l.length = n → i + m = n → k0 ≤ i + 1 → ∃ l' : List ByteArray, Ev2 (fun k j => laws_markStringS_L2 k j (k0 : Int) (i : Int) l) (((k0 + m : Nat) : Int), l') := by
  intro m
  induction m with
  | zero =>
    intro i l k0 hl hi hk
    refine ⟨l, Ev2.ret fun k j => ?_⟩
    simp only [laws_markStringS_L2.eq, W, W1, W2]
    rw [if_neg (by omega)]
    rfl
  | succ m ih =>
    intro i l k0 hl hi hk
    obtain ⟨s, hs⟩ := markText_ev k0 (by omega)
    obtain ⟨l', h⟩ := ih (i + 1) (l.set i s) (k0 + 1) (by simp [hl]) (by omega) (by omega)
    have e1 : addI .i64 (k0 : Int) 1 = ((k0 + 1 : Nat) : Int) := by rw [addI_i64 (by omega) (by omega)]; omega
    have e2 : addI .i64 (i : Int) 1 = ((i + 1 : Nat) : Int) := by rw [addI_i64 (by omega) (by omega)]; omega
    refine ⟨l', Ev2.step (f := fun k j => (laws_markText k (k0 : Int)).bind fun r0 => laws_markStringS_L2 k j ((k0 + 1 : Nat) : Int) ((i + 1 : Nat) : Int) (l.set i r0)) (fun k j => ?_) ?_⟩
    · simp only [laws_markStringS_L2.eq, W, W1, W2, W3, e1, e2]
      have c1 : (i : Int) < (l.length : Int) := by omega
      have c2 : (0 : Int) ≤ (i : Int) := by omega
      simp only [if_pos c1, if_pos c2]
      rfl
    · refine Ev2.bind hs ?_
      have : k0 + (m + 1) = k0 + 1 + m := by omega
      rw [this]
      exact h
theorem markStrs (l : List ByteArray) (hl : l.length ≤ 1048576) : ∃ (r : Int) (l' : List ByteArray), 0 ≤ r ∧ Ev (fun k => laws_markStringS k 1 l) (r, l') := by
  obtain ⟨l', h⟩ := markStrs_loop l.length hl l.length 0 l 1 rfl (by omega) (by omega)
  exact ⟨_, l', by omega, Ev.step (fun k => laws_markStringS.eq 1 l k) h.ev⟩
end Go.Proofs.Ytopbiepiceajnaa.S
