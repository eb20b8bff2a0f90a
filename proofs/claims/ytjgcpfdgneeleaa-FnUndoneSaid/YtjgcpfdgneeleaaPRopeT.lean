/- Texts that are drawn for ropes and histories. -/
import Derived.Test.YtjgcpfdgneeleaaPWrite
import Derived.Test.YtjgcpfdgneeleaaXDraw
namespace Go.Proofs.Ytjgcpfdgneeleaa.UN
open Go.Eng Go.RowKit
set_option linter.unusedVariables false
set_option linter.unusedSimpArgs false
/-! ### the drawn text -/
theorem write_of (p w : Nat) (h : isPoint p = true) (hw : width p = w) : ∃ b : ByteArray, b.size = w ∧ Ev (fun k => spec_l01Write k (p : Int)) b := hw ▸ write_ev p h
theorem ropeText_loop (s : List Int) (z : Int) (a0 : Int) (hs0 : Src s a0 z) : ∀ (f : Nat) (out : ByteArray) (a m : Int), 0 ≤ a ∧ a ≤ (s.length : Int) → out.size + 40 * f ≤ 1000000 →
    ∃ (v : ByteArray) (a' m' : Int), Ev2 (fun k j => spec_l01Src_ropeText_L3 k j out (f : Int) s a m z) (v, (s, (a', (m', z)))) ∧ v.size ≤ 1000000 ∧ 0 ≤ a' ∧ a' ≤ (s.length : Int) := by
  obtain ⟨b0, z0, w0⟩ := write_of 512 2 (by decide) (by decide)
  obtain ⟨b1, z1, w1⟩ := write_of 24576 3 (by decide) (by decide)
  obtain ⟨b2, z2, w2⟩ := write_of 24577 3 (by decide) (by decide)
  obtain ⟨b3, z3, w3⟩ := write_of 65536 4 (by decide) (by decide)
  intro f
  induction f with
  | zero =>
    intro out a m ha hout
    have e := fun k j => spec_l01Src_ropeText_L3.eq out 0 s a m z k j
    simp only [W, W1, W3, if_neg (show ¬ (0 : Int) < 0 by omega)] at e
    obtain ⟨v1, a1, m1, e1, ha1, _⟩ := one_ev 60 (by omega) (m := m) (hs0.at ha)
    cases v1 with
    | false =>
      refine ⟨out, a1, m1, Ev2.step e (Ev2.bind e1 ?_), by omega, ha1⟩
      simp only [W1]
      exact Ev2.now _
    | true =>
      obtain ⟨v2, a2, m2, e2, ha2, hv2⟩ := n_ev 5 (by omega) (m := m1) (hs0.at ha1)
      have hadd : addI .i64 65533 v2 = 65533 + v2 := addI_i64 (by omega) (by omega)
      obtain ⟨v3, a3, m3, e3, ha3, hv3⟩ := long_ev (bs [97, 98, 99, 10]) (65533 + v2) (by decide) (by decide) (by omega) (by omega) (m := m2) (hs0.at ha2)
      refine ⟨v3, a3, m3, Ev2.step e (Ev2.bind e1 ?_), by omega, ha3⟩
      simp only [W1]
      refine Ev2.bind e2 ?_
      simp only [hadd]
      exact Ev2.bind e3 (Ev2.now _)
  | succ f ih =>
    intro out a m ha hout
    have e := fun k j => spec_l01Src_ropeText_L3.eq out ((f + 1 : Nat) : Int) s a m z k j
    have hsub : subI .i64 ((f + 1 : Nat) : Int) 1 = (f : Int) := by rw [subI_i64 (by omega) (by omega)]; omega
    simp only [W, W1, W3, hsub, if_pos (show (0 : Int) < ((f + 1 : Nat) : Int) by omega)] at e
    generalize hlist : ((bs [97, 98, 99, 100, 101, 102, 103, 104, 105, 106]) :: ((bs [10]) :: ((bs [120, 121]) :: (b0 :: ((b1 ++ b2) :: ((bs [255]) :: ((bs [119, 111, 114, 100, 32]) :: ((bs [10, 10]) :: (b3 :: ((bs [48, 49, 50, 51, 52, 53, 54, 55, 56, 57, 48, 49, 50, 51, 52, 53, 54, 55, 56, 57, 48, 49, 50, 51, 52, 53, 54, 55, 56, 57, 48, 49, 50, 51, 52, 53, 54, 55, 56, 57]) :: ([] : List ByteArray))))))))))) = L
    have hall : ∀ x ∈ L, x.size ≤ 40 := by
      subst hlist
      intro x hx
      simp only [List.mem_cons, List.not_mem_nil, or_false] at hx
      rcases hx with rfl | rfl | rfl | rfl | rfl | rfl | rfl | rfl | rfl | rfl
      · decide
      · decide
      · decide
      · omega
      · rw [ByteArray.size_append]; omega
      · decide
      · decide
      · decide
      · omega
      · decide
    have hne : L ≠ [] := by subst hlist; simp
    have hll : L.length ≤ 1048576 := by subst hlist; simp
    obtain ⟨v1, a1, m1, e1, ha1, hv1⟩ := pick_ev L hne hll (m := m) (hs0.at ha)
    have hsz := hall v1 hv1
    obtain ⟨v, a', m', h1, h2⟩ := ih (out ++ v1) a1 m1 ha1 (by rw [ByteArray.size_append]; omega)
    refine ⟨v, a', m', Ev2.step e (Ev2.bind w0 (Ev2.bind w1 (Ev2.bind w2 ?_))), h2⟩
    simp only [if_pos (show (b1.size : Int) + (b2.size : Int) ≤ 9223372036854775807 by omega)]
    refine Ev2.bind w3 ?_
    simp only [hlist]
    refine Ev2.bind e1 ?_
    simp only [if_pos (show (out.size : Int) + (v1.size : Int) ≤ 9223372036854775807 by omega)]
    exact h1
theorem ropeText_ev {s : List Int} {a m z : Int} (h : Src s a z) : Drw (fun k => spec_l01Src_ropeText k s a m z) s z (fun v => v.size ≤ 1000000) := by
  have hz0 := h.z0
  have hz1 := h.z1
  have e0 := fun k => spec_l01Src_ropeText.eq s a m z k
  have hadd : addI .i64 6 z = 6 + z := addI_i64 (by omega) (by omega)
  simp only [W, W1, W2, W3, hadd] at e0
  refine Drw.step e0 (Drw.bind (n_ev (6 + z) (by omega) h) fun v a1 m1 ha1 hv => ?_)
  obtain ⟨f, rfl⟩ := Int.eq_ofNat_of_zero_le hv.1
  obtain ⟨v, a2, m2, h1, h2⟩ := ropeText_loop s z a h f (bs []) a1 m1 ha1 (by show 0 + 40 * f ≤ 1000000; omega)
  exact ⟨v, a2, m2, h1.ev, h2.2, h2.1⟩
end Go.Proofs.Ytjgcpfdgneeleaa.UN
