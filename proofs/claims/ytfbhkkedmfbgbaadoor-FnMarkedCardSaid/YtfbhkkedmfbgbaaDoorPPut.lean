/- A mark put among others: plain lists. -/
import Derived.Test.YtfbhkkedmfbgbaaDoorPFault
import Derived.Test.YtfbhkkedmfbgbaaDoorET
import Derived.Test.YtfbhkkedmfbgbaaDoorPHeld
namespace Go.Proofs.YtfbhkkedmfbgbaaDoor.PM
open Go.Eng Go.RowKit
set_option linter.unusedVariables false
set_option linter.unusedSimpArgs false
theorem bytesLess_dec : ∀ (x y : List UInt8), Op.bytesLess x y = decide (x < y)
  | [], [] => by simp [Op.bytesLess]
  | _ :: _, [] => by simp [Op.bytesLess]
  | [], _ :: _ => by simp [Op.bytesLess]
  | a :: x, b :: y => by
    rw [Op.bytesLess, bytesLess_dec x y]
    simp only [List.cons_lt_cons_iff]
    by_cases h1 : a < b <;> by_cases h2 : a = b <;> by_cases h3 : x < y <;> simp [h1, h2, h3]
theorem less_dec (a b : ByteArray) : less a b = decide (a.data.toList < b.data.toList) := by
  unfold less
  rw [bytesLess_dec, Lib.toList_data, Lib.toList_data]
theorem less_irr (a : ByteArray) : less a a = false := by
  rw [less_dec]
  exact decide_eq_false (List.lt_irrefl _)
theorem less_trans {a b c : ByteArray} (h1 : less a b = true) (h2 : less b c = true) : less a c = true := by
  rw [less_dec] at *
  exact decide_eq_true (List.lt_trans (of_decide_eq_true h1) (of_decide_eq_true h2))
theorem less_tri {a b : ByteArray} (h1 : less a b = false) (h2 : less b a = false) : a = b := by
  rw [less_dec] at *
  have h := List.le_antisymm (show a.data.toList ≤ b.data.toList from of_decide_eq_false h2) (show b.data.toList ≤ a.data.toList from of_decide_eq_false h1)
  exact ByteArray.ext (Array.toList_inj.1 h)
theorem less_asymm {a b : ByteArray} (h : less a b = true) : less b a = false := by
  cases hb : less b a with
  | false => rfl
  | true => have q := less_trans h hb; rw [less_irr] at q; cases q
def ltM (x y : T_sib) : Prop := less x.1 y.1 = true
def bare (m : T_sib) (l : List T_sib) : List T_sib := l.filter fun x => decide (x.1 ≠ m.1)
def put (m : T_sib) : List T_sib → List T_sib
  | [] => [m]
  | x :: l => if less x.1 m.1 then x :: put m l else m :: bare m (x :: l)
theorem mFrom_asc (n : Nat) : ∀ (l : List T_sib) (p : Option ByteArray), mFrom n p l = true → l.Pairwise ltM ∧ ∀ q, p = some q → ∀ x ∈ l, less q x.1 = true
  | [], _, _ => ⟨List.Pairwise.nil, fun _ _ _ h => by cases h⟩
  | m :: l, none, h => by
    simp only [mFrom, Bool.and_eq_true] at h
    obtain ⟨h1, h2⟩ := mFrom_asc n l _ h.2
    exact ⟨List.pairwise_cons.2 ⟨fun x hx => h2 _ rfl x hx, h1⟩, fun q hq => by cases hq⟩
  | m :: l, some q, h => by
    simp only [mFrom, Bool.and_eq_true] at h
    obtain ⟨h1, h2⟩ := mFrom_asc n l _ h.2.2
    refine ⟨List.pairwise_cons.2 ⟨fun x hx => h2 _ rfl x hx, h1⟩, fun q' hq x hx => ?_⟩
    obtain rfl := Option.some.inj hq
    rcases List.mem_cons.1 hx with rfl | hx
    · exact h.2.1
    · exact less_trans h.2.1 (h2 _ rfl x hx)
theorem bare_cons_ne {m x : T_sib} {l : List T_sib} (h : x.1 ≠ m.1) : bare m (x :: l) = x :: bare m l := by simp [bare, h]
theorem bare_cons_eq {m x : T_sib} {l : List T_sib} (h : x.1 = m.1) : bare m (x :: l) = bare m l := by simp [bare, h]
theorem ne_of_less {a b : ByteArray} (h : less a b = true) : a ≠ b := fun e => by subst e; rw [less_irr] at h; cases h
theorem put_perm (m : T_sib) : ∀ l : List T_sib, (put m l).Perm (bare m l ++ [m])
  | [] => List.Perm.refl _
  | x :: l => by
    unfold put
    cases h : less x.1 m.1 with
    | true => rw [if_pos rfl, bare_cons_ne (ne_of_less h)]; exact (put_perm m l).cons x
    | false => rw [if_neg (by decide)]; exact (List.perm_append_comm (l₁ := bare m (x :: l)) (l₂ := [m])).symm
theorem mem_put {m y : T_sib} : ∀ {l : List T_sib}, y ∈ put m l → y = m ∨ y ∈ l := fun {l} h => by
  have := (put_perm m l).mem_iff.1 h
  rcases List.mem_append.1 this with h | h
  · exact .inr (List.mem_filter.1 h).1
  · exact .inl (by simpa using h)
theorem put_asc (m : T_sib) : ∀ l : List T_sib, l.Pairwise ltM → (put m l).Pairwise ltM
  | [], _ => List.pairwise_singleton _ _
  | x :: l, h => by
    obtain ⟨h1, h2⟩ := List.pairwise_cons.1 h
    unfold put
    cases hx : less x.1 m.1 with
    | true =>
      rw [if_pos rfl]
      refine List.pairwise_cons.2 ⟨fun y hy => ?_, put_asc m l h2⟩
      rcases mem_put hy with rfl | hy
      · exact hx
      · exact h1 y hy
    | false =>
      rw [if_neg (by decide)]
      refine List.pairwise_cons.2 ⟨fun y hy => ?_, h.filter _⟩
      obtain ⟨hy, hne⟩ := List.mem_filter.1 hy
      have hne : y.1 ≠ m.1 := of_decide_eq_true hne
      cases hmy : less m.1 y.1 with
      | true => exact hmy
      | false =>
        exfalso
        cases hym : less y.1 m.1 with
        | false => exact hne (less_tri hym hmy)
        | true =>
          rcases List.mem_cons.1 hy with rfl | hy
          · rw [hx] at hym; cases hym
          · have q := less_trans (h1 y hy) hym
            rw [hx] at q
            cases q
theorem sorted_uniq : ∀ l r : List T_sib, l.Perm r → l.Pairwise ltM → r.Pairwise (fun b a => less a.1 b.1 = false) → l = r
  | [], r, h, _, _ => (List.Perm.nil_eq h)
  | a :: l, [], h, _, _ => by simpa using h.length_eq
  | a :: l, b :: r, h, h1, h2 => by
    obtain ⟨p1, p2⟩ := List.pairwise_cons.1 h1
    obtain ⟨q1, q2⟩ := List.pairwise_cons.1 h2
    have hab : a = b := by
      rcases List.mem_cons.1 (h.mem_iff.1 (List.mem_cons_self (a := a) (l := l))) with e | ha
      · exact e
      · rcases List.mem_cons.1 (h.mem_iff.2 (List.mem_cons_self (a := b) (l := r))) with e | hb
        · exact e.symm
        · have e1 : less a.1 b.1 = true := p1 b hb
          rw [q1 a ha] at e1
          cases e1
    subst hab
    rw [sorted_uniq l r h.cons_inv p2 q2]
end Go.Proofs.YtfbhkkedmfbgbaaDoor.PM
