/- Draws, plainly: a number drawn is below the one asked for, a pick is one of the list. -/
import Derived.Test.YtfbhkkedmfbgbaaDoorQPM0
import Derived.Test.YtfbhkkedmfbgbaaDoorEG
namespace Go.Proofs.YtfbhkkedmfbgbaaDoor.PM
open Go.Eng Go.RowKit
set_option linter.unusedVariables false
set_option linter.unusedSimpArgs false
/-- a draw out of the bytes s: it answers, it stands within the bytes, its size stays -/
def Drw {α : Type} (g : Nat → Option (α × List Int × Int × Int × Int)) (s : List Int) (z : Int) (Q : α → Prop) : Prop := ∃ v a m, Ev g (v, (s, (a, (m, z)))) ∧ (0 ≤ a ∧ a ≤ (s.length : Int)) ∧ Q v
/-- what is drawn from -/
structure Src (s : List Int) (a z : Int) : Prop where
  l : s.length ≤ 1048576
  a0 : 0 ≤ a
  a1 : a ≤ (s.length : Int)
  z0 : 0 ≤ z
  z1 : z ≤ 12
theorem Src.at {s : List Int} {a z : Int} (h : Src s a z) {a' : Int} (h' : 0 ≤ a' ∧ a' ≤ (s.length : Int)) : Src s a' z := ⟨h.l, h'.1, h'.2, h.z0, h.z1⟩
theorem Drw.imp {α : Type} {g : Nat → Option (α × List Int × Int × Int × Int)} {s : List Int} {z : Int} {Q Q' : α → Prop} (h : Drw g s z Q) (hq : ∀ v, Q v → Q' v) : Drw g s z Q' := by
  obtain ⟨v, a, m, h1, h2, h3⟩ := h
  exact ⟨v, a, m, h1, h2, hq v h3⟩
theorem Drw.step {α : Type} {g f : Nat → Option (α × List Int × Int × Int × Int)} {s : List Int} {z : Int} {Q : α → Prop} (he : ∀ k, g (k + 1) = f k) (h : Drw f s z Q) : Drw g s z Q := by
  obtain ⟨v, a, m, h1, h2, h3⟩ := h
  exact ⟨v, a, m, Ev.step he h1, h2, h3⟩
theorem Drw.congr {α : Type} {g f : Nat → Option (α × List Int × Int × Int × Int)} {s : List Int} {z : Int} {Q : α → Prop} (he : ∀ k, g k = f k) (h : Drw f s z Q) : Drw g s z Q := by
  obtain ⟨v, a, m, h1, h2, h3⟩ := h
  exact ⟨v, a, m, Ev.congr he h1, h2, h3⟩
/-- a draw, then another one -/
theorem Drw.bind {α β : Type} {g : Nat → Option (α × List Int × Int × Int × Int)} {f : Nat → α × List Int × Int × Int × Int → Option (β × List Int × Int × Int × Int)} {s : List Int} {z : Int} {Q : α → Prop} {Q' : β → Prop} (h : Drw g s z Q)
    (hf : ∀ v a m, 0 ≤ a ∧ a ≤ (s.length : Int) → Q v → Drw (fun k => f k (v, (s, (a, (m, z))))) s z Q') : Drw (fun k => (g k).bind (f k)) s z Q' := by
  obtain ⟨v, a, m, h1, h2, h3⟩ := h
  obtain ⟨v', a', m', k1, k2, k3⟩ := hf v a m h2 h3
  exact ⟨v', a', m', Ev.bind h1 k1, k2, k3⟩
/-- something else, then a draw -/
theorem Drw.pre {α β : Type} {g : Nat → Option α} {f : Nat → α → Option (β × List Int × Int × Int × Int)} {s : List Int} {z : Int} {a : α} {Q : β → Prop} (h : Ev g a) (hf : Drw (fun k => f k a) s z Q) : Drw (fun k => (g k).bind (f k)) s z Q := by
  obtain ⟨v', a', m', k1, k2, k3⟩ := hf
  exact ⟨v', a', m', Ev.bind h k1, k2, k3⟩
theorem Drw.now {α : Type} {s : List Int} {a m z : Int} {v : α} {Q : α → Prop} (h : 0 ≤ a ∧ a ≤ (s.length : Int)) (hq : Q v) : Drw (fun _ => some (v, (s, (a, (m, z))))) s z Q := ⟨v, a, m, Ev.now _, h, hq⟩
theorem wrapU64 (a : Int) : 0 ≤ IntKind.u64.wrap a ∧ IntKind.u64.wrap a < 18446744073709551616 := by
  have h := IntKind.wrap_u64 a
  rw [h]
  omega
theorem n_ev (most : Int) (hm : most ≤ 1099511627776) {s : List Int} {a m z : Int} (h : Src s a z) : Drw (fun k => spec_l01Src_n k most s a m z) s z (fun v => 0 ≤ v ∧ (v < most ∨ v = 0)) := by
  have e := fun k => spec_l01Src_n.eq most s a m z k
  by_cases c : most ≤ 1
  · simp only [W, W1, if_pos c] at e
    exact Drw.step e (Drw.now ⟨h.a0, h.a1⟩ ⟨by omega, .inr rfl⟩)
  · have hw : wrI .u64 most = most := by rw [wrI_eq, IntKind.wrap_u64]; omega
    have key : ∀ (v a' : Int), 0 ≤ a' ∧ a' ≤ (s.length : Int) → Drw (fun k => spec_l01Src_n_J7 k most v s a' m z) s z (fun v => 0 ≤ v ∧ (v < most ∨ v = 0)) := fun v a' ha => by
      have e7 := fun k => spec_l01Src_n_J7.eq most v s a' m z k
      simp only [W, W1, hw, if_pos (show (0 : Int) ≤ 13 by omega), if_pos (show (0 : Int) ≤ 7 by omega), if_pos (show (0 : Int) ≤ 17 by omega), if_pos (show (0 : Int) ≤ 20 by omega), if_neg (show ¬ most = 0 by omega)] at e7
      refine Drw.congr e7 (Drw.now ha ?_)
      generalize shrI .u64 _ 20 = q
      rw [addI_eq]
      obtain ⟨w1, w2⟩ := wrapU64 (v + q)
      generalize IntKind.u64.wrap (v + q) = y at *
      have r0 : 0 ≤ remI y most := by rw [remI_eq]; exact Int.tmod_nonneg _ w1
      have r1 : remI y most < most := by rw [remI_eq]; exact Int.tmod_lt_of_pos _ (by omega)
      rw [wrI_i64 (by omega) (by omega)]
      exact ⟨r0, .inl r1⟩
    simp only [W, W1, W2, if_neg c] at e
    refine Drw.step e ?_
    by_cases c2 : a < (s.length : Int)
    · have ha := h.a0
      have hl := h.l
      have hadd : addI .i64 a 1 = a + 1 := addI_i64 (by omega) (by omega)
      simp only [if_pos c2, if_pos ha, hadd]
      exact key _ _ ⟨by omega, by omega⟩
    · simp only [if_neg c2]
      exact key _ _ ⟨h.a0, h.a1⟩
theorem one_ev (o : Int) (ho : o ≤ 1099511627776) {s : List Int} {a m z : Int} (h : Src s a z) : Drw (fun k => spec_l01Src_one k o s a m z) s z (fun _ => True) := by
  have e := fun k => spec_l01Src_one.eq o s a m z k
  simp only [W3] at e
  exact Drw.step e (Drw.bind (n_ev o ho h) fun v a m ha _ => Drw.now ha trivial)
theorem pick_ev (l : List ByteArray) (h0 : l ≠ []) (hl : l.length ≤ 1048576) {s : List Int} {a m z : Int} (h : Src s a z) : Drw (fun k => spec_l01Src_pick k l s a m z) s z (fun v => v ∈ l) := by
  have e := fun k => spec_l01Src_pick.eq l s a m z k
  have hp := List.length_pos_iff.2 h0
  simp only [W, W1, W2, W3] at e
  refine Drw.step e (Drw.bind (n_ev (l.length : Int) (by omega) h) fun v a m ha hv => ?_)
  have h1 : v < (l.length : Int) := by omega
  simp only [if_pos hv.1, if_pos h1]
  refine Drw.now ha ?_
  obtain ⟨n, rfl⟩ := Int.eq_ofNat_of_zero_le hv.1
  have h2 : n < l.length := by omega
  have : rd l (Int.ofNat n) (bs []) = l[n] := rd_nat l n (bs []) h2
  show rd l (Int.ofNat n) (bs []) ∈ l
  rw [this]
  exact List.getElem_mem h2
theorem long_loop (c : ByteArray) (n : Nat) (hc : 0 < c.size) (hc2 : c.size ≤ 1000) (hn : n ≤ 1000000) (x : List Int) (a m z : Int) : ∀ (f : Nat) (b : List Int), n ≤ b.length + f → b.length ≤ n + 1000 →
    ∃ t : ByteArray, t.size = n ∧ Ev2 (fun k j => spec_l01Src_long_L2 k j c (n : Int) x a m z b) (t, (x, (a, (m, z)))) := by
  have done : ∀ b : List Int, n ≤ b.length → b.length ≤ n + 1000 → ∃ t : ByteArray, t.size = n ∧ Ev2 (fun k j => spec_l01Src_long_L2 k j c (n : Int) x a m z b) (t, (x, (a, (m, z)))) := fun b h1 h2 => by
    refine ⟨bytesOf (b.take n), ?_, Ev2.ret fun k j => ?_⟩
    · simp [bytesOf, ByteArray.size]; omega
    · simp only [spec_l01Src_long_L2.eq, W, W1, W2]
      rw [if_neg (by omega), if_pos (by omega), if_pos (by omega)]
      simp
  intro f
  induction f with
  | zero => intro b h1 h2; exact done b (by omega) h2
  | succ f ih =>
    intro b h1 h2
    by_cases c1 : n ≤ b.length
    · exact done b c1 h2
    · obtain ⟨t, ht, h⟩ := ih (b ++ numsOf c) (by rw [List.length_append, numsOf_length]; omega) (by rw [List.length_append, numsOf_length]; omega)
      refine ⟨t, ht, Ev2.step (fun k j => ?_) h⟩
      simp only [spec_l01Src_long_L2.eq, W, W1, W2, numsOf_length]
      rw [if_pos (by omega), if_pos (by omega)]
theorem long_ev (c : ByteArray) (n : Int) (hc : 0 < c.size) (hc2 : c.size ≤ 1000) (h0 : 0 ≤ n) (hn : n ≤ 1000000) {s : List Int} {a m z : Int} (h : Src s a z) : Drw (fun k => spec_l01Src_long k c n s a m z) s z (fun t => (t.size : Int) = n) := by
  obtain ⟨q, rfl⟩ := Int.eq_ofNat_of_zero_le h0
  obtain ⟨t, ht, he⟩ := long_loop c q hc hc2 (by omega) s a m z q [] (by simp) (by simp)
  exact ⟨t, a, m, Ev.step (fun k => spec_l01Src_long.eq c (q : Int) s a m z k) he.ev, ⟨h.a0, h.a1⟩, by show (t.size : Int) = q; rw [ht]⟩
theorem source_ev (code : List Int) (hl : code.length ≤ 1048576) : ∃ m z, Ev (fun k => spec_l01Source k code) (code, (0, (m, z))) ∧ Src code 0 z := by
  have hq : ∃ q : Nat, quoI .i64 (code.length : Int) 20 = (q : Int) := by
    refine ⟨code.length / 20, ?_⟩
    rw [quoI_eq, show ((code.length : Int)).tdiv 20 = ((code.length / 20 : Nat) : Int) from rfl]
    exact wrap_i64 (by omega) (by omega)
  obtain ⟨q, hq⟩ := hq
  have hz : ∃ z : Int, (0 ≤ z ∧ z ≤ 12) ∧ ∀ m : Int, (if (12 : Int) < (q : Int) then some (code, ((0 : Int), (m, (12 : Int)))) else some (code, (0, (m, (q : Int))))) = some (code, (0, (m, z))) := by
    by_cases c : 12 < q
    · exact ⟨12, by omega, fun m => by rw [if_pos (by omega)]⟩
    · exact ⟨q, by omega, fun m => by rw [if_neg (by omega)]⟩
  obtain ⟨z, hz0, hz⟩ := hz
  have key : ∀ (f i : Nat) (m : Int), i + f = 64 → ∃ m', Ev2 (fun k j => spec_l01Source_L3 k j code (i : Int) code 0 m 0) (code, (0, (m', z))) := by
    have stop : ∀ (i : Nat) (m : Int), ¬ (i < code.length ∧ i < 64) → ∃ m', Ev2 (fun k j => spec_l01Source_L3 k j code (i : Int) code 0 m 0) (code, (0, (m', z))) := fun i m h => by
      refine ⟨m, Ev2.ret fun k j => ?_⟩
      rw [spec_l01Source_L3.eq]
      simp only [W, W1, W2, hq, if_neg (show ¬ (20 : Int) = 0 by omega), hz]
      by_cases c : i < code.length
      · rw [if_pos (by omega), if_neg (by omega)]
      · rw [if_neg (by omega)]
    intro f
    induction f with
    | zero => intro i m h; exact stop i m (by omega)
    | succ f ih =>
      intro i m h
      by_cases c : i < code.length ∧ i < 64
      · obtain ⟨m', h'⟩ := ih (i + 1) (mulI .u64 (xorI .u64 m (wrI .u64 (rd code (i : Int) 0))) 1099511628211) (by omega)
        refine ⟨m', Ev2.step (fun k j => ?_) h'⟩
        have hw : addI .i64 (i : Int) 1 = ((i + 1 : Nat) : Int) := by rw [addI_i64 (by omega) (by omega)]; omega
        rw [spec_l01Source_L3.eq]
        simp only [W, W1, W2, hw]
        rw [if_pos (by omega), if_pos (by omega), if_pos (by omega), if_pos (by omega)]
      · exact stop i m c
  obtain ⟨m, h⟩ := key 64 0 88172645463325252 rfl
  exact ⟨m, z, Ev.step (fun k => spec_l01Source.eq code k) h.ev, ⟨hl, by omega, by omega, hz0.1, hz0.2⟩⟩
/-! ### draws in loops -/
def Drw2 {α : Type} (g : Nat → Nat → Option (α × List Int × Int × Int × Int)) (s : List Int) (z : Int) (Q : α → Prop) : Prop := ∃ v a m, Ev2 g (v, (s, (a, (m, z)))) ∧ (0 ≤ a ∧ a ≤ (s.length : Int)) ∧ Q v
section
variable {α β : Type} {s : List Int} {z : Int} {Q : α → Prop} {Q' : β → Prop}
theorem Drw2.step {g f : Nat → Nat → Option (α × List Int × Int × Int × Int)} (he : ∀ k j, g k (j + 1) = f k j) (h : Drw2 f s z Q) : Drw2 g s z Q := by
  obtain ⟨v, a, m, h1, h2, h3⟩ := h
  exact ⟨v, a, m, Ev2.step he h1, h2, h3⟩
theorem Drw2.congr {g f : Nat → Nat → Option (α × List Int × Int × Int × Int)} (he : ∀ k j, g k j = f k j) (h : Drw2 f s z Q) : Drw2 g s z Q := by
  have : g = f := funext fun k => funext fun j => he k j
  rw [this]; exact h
theorem Drw2.bind {g : Nat → Option (β × List Int × Int × Int × Int)} {f : Nat → Nat → β × List Int × Int × Int × Int → Option (α × List Int × Int × Int × Int)} (h : Drw g s z Q')
    (hf : ∀ v a m, 0 ≤ a ∧ a ≤ (s.length : Int) → Q' v → Drw2 (fun k j => f k j (v, (s, (a, (m, z))))) s z Q) : Drw2 (fun k j => (g k).bind (f k j)) s z Q := by
  obtain ⟨v, a, m, h1, h2, h3⟩ := h
  obtain ⟨v', a', m', k1, k2, k3⟩ := hf v a m h2 h3
  exact ⟨v', a', m', Ev2.bind h1 k1, k2, k3⟩
theorem Drw2.pre {g : Nat → Option β} {f : Nat → Nat → β → Option (α × List Int × Int × Int × Int)} {b : β} (h : Ev g b) (hf : Drw2 (fun k j => f k j b) s z Q) : Drw2 (fun k j => (g k).bind (f k j)) s z Q := by
  obtain ⟨v', a', m', k1, k2, k3⟩ := hf
  exact ⟨v', a', m', Ev2.bind h k1, k2, k3⟩
theorem Drw2.now {a m : Int} {v : α} (h : 0 ≤ a ∧ a ≤ (s.length : Int)) (hq : Q v) : Drw2 (fun _ _ => some (v, (s, (a, (m, z))))) s z Q := ⟨v, a, m, Ev2.now _, h, hq⟩
theorem Drw2.one {g : Nat → Nat → Option (α × List Int × Int × Int × Int)} (h : Drw2 g s z Q) : Drw (fun k => g k k) s z Q := by
  obtain ⟨v, a, m, h1, h2, h3⟩ := h
  exact ⟨v, a, m, h1.ev, h2, h3⟩
end
end Go.Proofs.YtfbhkkedmfbgbaaDoor.PM
