/- Rows that are put in order: sorted by a key, those of one key as they stood. -/
import Derived.Test.YtfbhkkedmfbgbaaDoorEG
namespace Go.Proofs.YtfbhkkedmfbgbaaDoor.PM
set_option linter.unusedVariables false
set_option linter.unusedSimpArgs false
section
variable {α : Type} (kf : α → Int)
def Srt (l : List α) : Prop := l.Pairwise fun p q => kf p ≤ kf q
/-- the same elements, those of one key in the same order -/
def Same (l r : List α) : Prop := l.length = r.length ∧ ∀ c : Int, l.filter (fun x => decide (kf x = c)) = r.filter (fun x => decide (kf x = c))
variable {kf}
theorem Same.refl (l : List α) : Same kf l l := ⟨rfl, fun _ => rfl⟩
theorem Same.symm {l r : List α} (h : Same kf l r) : Same kf r l := ⟨h.1.symm, fun c => (h.2 c).symm⟩
theorem Same.trans {l r s : List α} (h : Same kf l r) (g : Same kf r s) : Same kf l s := ⟨h.1.trans g.1, fun c => (h.2 c).trans (g.2 c)⟩
theorem Same.app {a b c d : List α} (h : Same kf a b) (g : Same kf c d) : Same kf (a ++ c) (b ++ d) := by
  refine ⟨by rw [List.length_append, List.length_append, h.1, g.1], fun k => ?_⟩
  rw [List.filter_append, List.filter_append, h.2 k, g.2 k]
theorem Same.mem {l r : List α} (h : Same kf l r) (x : α) : x ∈ l ↔ x ∈ r := by
  have e : ∀ s : List α, x ∈ s ↔ x ∈ s.filter (fun y => decide (kf y = kf x)) := fun s => by simp
  rw [e l, e r, h.2 (kf x)]
theorem Same.turn {x y : List α} (h : ∀ p ∈ x, ∀ q ∈ y, kf q < kf p) : Same kf (x ++ y) (y ++ x) := by
  refine ⟨by rw [List.length_append, List.length_append, Nat.add_comm], fun c => ?_⟩
  rw [List.filter_append, List.filter_append]
  by_cases g : ∃ p ∈ x, kf p = c
  · obtain ⟨p, hp, hc⟩ := g
    have e : y.filter (fun z => decide (kf z = c)) = [] := List.filter_eq_nil_iff.2 fun q hq => by
      have := h p hp q hq
      simp; omega
    rw [e, List.append_nil, List.nil_append]
  · have e : x.filter (fun z => decide (kf z = c)) = [] := List.filter_eq_nil_iff.2 fun q hq => by
      simp only [decide_eq_true_eq]
      exact fun hc => g ⟨q, hq, hc⟩
    rw [e, List.append_nil, List.nil_append]
theorem srt_app {a b : List α} : Srt kf (a ++ b) ↔ Srt kf a ∧ Srt kf b ∧ ∀ p ∈ a, ∀ q ∈ b, kf p ≤ kf q := List.pairwise_append
theorem srt_nil : Srt kf ([] : List α) := List.Pairwise.nil
theorem srt_one (x : α) : Srt kf [x] := List.pairwise_singleton _ _
theorem srt_cons {x : α} {l : List α} : Srt kf (x :: l) ↔ (∀ q ∈ l, kf x ≤ kf q) ∧ Srt kf l := List.pairwise_cons
/-- there is one row in order only -/
theorem Same.one : ∀ {l r : List α}, Same kf l r → Srt kf l → Srt kf r → l = r
  | [], [], _, _, _ => rfl
  | [], y :: r, h, _, _ => by cases h.1
  | x :: l, [], h, _, _ => by cases h.1
  | x :: l, y :: r, h, h1, h2 => by
    have hx : x ∈ y :: r := (h.mem x).1 List.mem_cons_self
    have hy : y ∈ x :: l := (h.mem y).2 List.mem_cons_self
    obtain ⟨g1, g2⟩ := srt_cons.1 h1
    obtain ⟨g3, g4⟩ := srt_cons.1 h2
    have k1 : kf y ≤ kf x := by
      rcases List.mem_cons.1 hx with e | e
      · rw [e]; omega
      · exact g3 x e
    have k2 : kf x ≤ kf y := by
      rcases List.mem_cons.1 hy with e | e
      · rw [e]; omega
      · exact g1 y e
    have e : kf x = kf y := by omega
    have f := h.2 (kf x)
    rw [List.filter_cons_of_pos (by simp), List.filter_cons_of_pos (by simp [e])] at f
    obtain ⟨rfl, -⟩ := List.cons.inj f
    have ht : Same kf l r := by
      refine ⟨by have := h.1; rw [List.length_cons, List.length_cons] at this; omega, fun c => ?_⟩
      have f := h.2 c
      by_cases hc : kf x = c
      · rw [List.filter_cons_of_pos (by simp [hc]), List.filter_cons_of_pos (by simp [hc])] at f
        exact (List.cons.inj f).2
      · rw [List.filter_cons_of_neg (by simp [hc]), List.filter_cons_of_neg (by simp [hc])] at f
        exact f
    rw [ht.one g2 g4]
/-- runs of n, each in order, the last one not longer -/
inductive Chk (kf : α → Int) (n : Nat) : List α → Prop where
  | last (l : List α) : l.length ≤ n → Srt kf l → Chk kf n l
  | more (l r : List α) : l.length = n → Srt kf l → Chk kf n r → Chk kf n (l ++ r)
theorem Chk.all {n : Nat} {l : List α} (h : Chk kf n l) (hl : l.length ≤ n) : Srt kf l := by
  cases h with
  | last _ _ h => exact h
  | more a b ha h1 h2 =>
    rw [List.length_append] at hl
    have : b = [] := List.length_eq_zero_iff.1 (by omega)
    rw [this, List.append_nil]
    exact h1
/-- two rows in order, cut so that all ahead stands not behind the rest -/
theorem cut_srt {x1 x2 y1 y2 u v : List α} (hx : Srt kf (x1 ++ x2)) (hy : Srt kf (y1 ++ y2)) (h1 : ∀ p ∈ x1, ∀ q ∈ y2, kf p ≤ kf q) (h2 : ∀ p ∈ x2, ∀ q ∈ y1, kf q < kf p)
    (hu : Same kf (x1 ++ y1) u) (hv : Same kf (x2 ++ y2) v) (su : Srt kf u) (sv : Srt kf v) : Same kf ((x1 ++ x2) ++ (y1 ++ y2)) (u ++ v) ∧ Srt kf (u ++ v) := by
  obtain ⟨a1, a2, a3⟩ := srt_app.1 hx
  obtain ⟨b1, b2, b3⟩ := srt_app.1 hy
  constructor
  · have e : Same kf (x1 ++ (x2 ++ y1) ++ y2) (x1 ++ (y1 ++ x2) ++ y2) := ((Same.refl x1).app (Same.turn h2)).app (Same.refl y2)
    have e2 : (x1 ++ x2) ++ (y1 ++ y2) = x1 ++ (x2 ++ y1) ++ y2 := by simp
    have e3 : x1 ++ (y1 ++ x2) ++ y2 = (x1 ++ y1) ++ (x2 ++ y2) := by simp
    rw [e2]
    rw [e3] at e
    exact e.trans (hu.app hv)
  · refine srt_app.2 ⟨su, sv, fun p hp q hq => ?_⟩
    have hp := (hu.mem p).2 hp
    have hq := (hv.mem q).2 hq
    rcases List.mem_append.1 hp with hp | hp <;> rcases List.mem_append.1 hq with hq | hq
    · exact a3 p hp q hq
    · exact h1 p hp q hq
    · have := h2 q hq p hp; omega
    · exact b3 p hp q hq
end
end Go.Proofs.YtfbhkkedmfbgbaaDoor.PM
