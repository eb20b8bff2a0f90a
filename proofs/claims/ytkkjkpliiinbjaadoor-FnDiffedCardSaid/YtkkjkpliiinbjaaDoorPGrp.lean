/- Characters of near texts tell where they end: parts that are the same text begin with the same character. -/
import Derived.Test.YtkkjkpliiinbjaaDoorPEnc
namespace Go.Proofs.YtkkjkpliiinbjaaDoor.DF
open Go.Eng Go.RowKit
set_option linter.unusedVariables false
set_option linter.unusedSimpArgs false
theorem gr_flat : ∀ (r acc : List Int), (gr acc r).flatten = acc ++ r
  | [], acc => by show [acc].flatten = _; simp
  | p :: r, acc => by
    by_cases c : mkA p = true
    · rw [gr_mk c, gr_flat r (acc ++ [p])]; simp
    · rw [Bool.not_eq_true] at c
      rw [gr_no c, List.flatten_cons, gr_flat r [p]]; simp
theorem grs_flat : ∀ l : List Int, (grs l).flatten = l
  | [] => rfl
  | p :: r => by show (gr [p] r).flatten = _; rw [gr_flat]; rfl
def Hd (g : List Int) : Prop := ∃ h ms, g = h :: ms ∧ ∀ p ∈ ms, mkA p = true
def Hn (g : List Int) : Prop := ∃ h ms, g = h :: ms ∧ mkA h = false
theorem gr_hd : ∀ (r acc : List Int), Hd acc → ∀ g ∈ gr acc r, Hd g
  | [], acc, h, g, hg => by
    have : g = acc := by simpa [gr] using hg
    rw [this]; exact h
  | p :: r, acc, h, g, hg => by
    by_cases c : mkA p = true
    · rw [gr_mk c] at hg
      refine gr_hd r (acc ++ [p]) ?_ g hg
      obtain ⟨x, ms, rfl, hm⟩ := h
      refine ⟨x, ms ++ [p], rfl, fun q hq => ?_⟩
      rcases List.mem_append.1 hq with hq | hq
      · exact hm q hq
      · rw [List.mem_singleton] at hq; rw [hq]; exact c
    · rw [Bool.not_eq_true] at c
      rw [gr_no c] at hg
      rcases List.mem_cons.1 hg with rfl | hg
      · exact h
      · exact gr_hd r [p] ⟨p, [], rfl, fun q hq => by cases hq⟩ g hg
/-- all but the first begin with no mark -/
theorem gr_hn : ∀ (r acc : List Int), (Hn acc → ∀ g ∈ gr acc r, Hn g) ∧ (∀ g ∈ (gr acc r).tail, Hn g)
  | [], acc => by
    refine ⟨fun h g hg => ?_, fun g hg => by cases hg⟩
    have : g = acc := by simpa [gr] using hg
    rw [this]; exact h
  | p :: r, acc => by
    by_cases c : mkA p = true
    · rw [gr_mk c]
      obtain ⟨h1, h2⟩ := gr_hn r (acc ++ [p])
      refine ⟨fun h => h1 ?_, h2⟩
      obtain ⟨x, ms, rfl, hm⟩ := h
      exact ⟨x, ms ++ [p], rfl, hm⟩
    · rw [Bool.not_eq_true] at c
      rw [gr_no c]
      obtain ⟨h1, h2⟩ := gr_hn r [p]
      have h1 := h1 ⟨p, [], rfl, c⟩
      refine ⟨fun h g hg => ?_, fun g hg => h1 g hg⟩
      rcases List.mem_cons.1 hg with rfl | hg
      · exact h
      · exact h1 g hg
structure Grp (X : List (List Int)) : Prop where
  hd : ∀ g ∈ X, Hd g
  hn : ∀ g ∈ X.tail, Hn g
  al : Als X.flatten
theorem grs_grp {l : List Int} (h : Als l) : Grp (grs l) := by
  refine ⟨?_, ?_, by rw [grs_flat]; exact h⟩
  · cases l with
    | nil => intro g hg; cases hg
    | cons p r => exact gr_hd r [p] ⟨p, [], rfl, fun q hq => by cases hq⟩
  · cases l with
    | nil => intro g hg; cases hg
    | cons p r => exact (gr_hn r [p]).2
/-- a part of them -/
theorem Grp.part {X : List (List Int)} (h : Grp X) (p i : Nat) : Grp ((X.take p).drop i) := by
  have hsub : ∀ g ∈ (X.take p).drop i, g ∈ X := fun g hg => List.mem_of_mem_take (List.mem_of_mem_drop hg)
  refine ⟨fun g hg => h.hd g (hsub g hg), fun g hg => h.hn g ?_, fun q hq => ?_⟩
  · rw [List.tail_drop] at hg
    have h2 : g ∈ (X.take p).tail := by
      have : (X.take p).drop (i + 1) = (X.take p).tail.drop i := by rw [List.drop_tail]
      rw [this] at hg
      exact List.mem_of_mem_drop hg
    cases p with
    | zero => rw [List.take_zero] at h2; cases h2
    | succ p =>
      cases X with
      | nil => cases h2
      | cons x X => exact List.mem_of_mem_take h2
  · obtain ⟨g, hg, hq⟩ := List.mem_flatten.1 hq
    exact h.al q (List.mem_flatten.2 ⟨g, hsub g hg, hq⟩)
theorem take_marks (p : Int → Bool) : ∀ (ms : List Int) (r : List Int), (∀ q ∈ ms, p q = true) → (r.takeWhile p = []) → (ms ++ r).takeWhile p = ms
  | [], r, _, h => h
  | m :: ms, r, hm, h => by
    rw [List.cons_append, List.takeWhile_cons_of_pos (hm m List.mem_cons_self), take_marks p ms r (fun q hq => hm q (List.mem_cons_of_mem _ hq)) h]
theorem tail_stop {X : List (List Int)} (h : ∀ g ∈ X, Hn g) : X.flatten.takeWhile mkA = [] := by
  cases X with
  | nil => rfl
  | cons g X =>
    obtain ⟨x, ms, rfl, hx⟩ := h g List.mem_cons_self
    rw [List.flatten_cons, List.cons_append]
    exact List.takeWhile_cons_of_neg (by rw [hx]; decide)
theorem first_same {s t : List Int} {S T : List (List Int)} (h1 : Grp (s :: S)) (h2 : Grp (t :: T)) (h : (s :: S).flatten = (t :: T).flatten) : s = t := by
  obtain ⟨x, ms, rfl, hx⟩ := h1.hd s List.mem_cons_self
  obtain ⟨y, ns, rfl, hy⟩ := h2.hd t List.mem_cons_self
  rw [List.flatten_cons, List.flatten_cons, List.cons_append, List.cons_append] at h
  obtain ⟨rfl, h'⟩ := List.cons.inj h
  have e1 := take_marks mkA ms S.flatten hx (tail_stop h1.hn)
  have e2 := take_marks mkA ns T.flatten hy (tail_stop h2.hn)
  rw [h', e2] at e1
  rw [e1]
theorem part_cons {X : List (List Int)} {p i : Nat} (h : i < p) (hp : p ≤ X.length) : (X.take p).drop i = X[i] :: (X.take p).drop (i + 1) := by
  have hl : i < (X.take p).length := by rw [List.length_take]; omega
  rw [List.drop_eq_getElem_cons hl, List.getElem_take]
theorem part_nil {X : List (List Int)} {p i : Nat} (h : p ≤ i) : (X.take p).drop i = [] := List.drop_eq_nil_of_le (by rw [List.length_take]; omega)
theorem map_part (X : List (List Int)) (p i : Nat) : ((X.map enc).take p).drop i = ((X.take p).drop i).map enc := by
  rw [← List.map_take, ← List.map_drop]
/-- parts that are the same text -/
theorem part_same {X Y : List (List Int)} (hX : Grp X) (hY : Grp Y) {i p j q : Nat} (hp : p ≤ X.length) (hq : q ≤ Y.length) (h : joinL (((X.map enc).take p).drop i) = joinL (((Y.map enc).take q).drop j)) (hne : i < p ∨ j < q) :
    i < p ∧ j < q ∧ rd (X.map enc) (i : Int) (bs []) = rd (Y.map enc) (j : Int) (bs []) := by
  rw [map_part, map_part, joinL_enc, joinL_enc] at h
  have gX := hX.part p i
  have gY := hY.part q j
  have h := enc_inj gX.al gY.al h
  have one : ∀ {X : List (List Int)} (_ : Grp X) (p i : Nat), i < p → p ≤ X.length → ((X.take p).drop i).flatten ≠ [] := fun {X} hX p i h1 h2 => by
    have g := hX.part p i
    rw [part_cons h1 h2] at g ⊢
    obtain ⟨x, ms, hx, _⟩ := g.hd _ List.mem_cons_self
    rw [hx]
    exact fun h => by cases h
  by_cases c1 : i < p
  · by_cases c2 : j < q
    · refine ⟨c1, c2, ?_⟩
      rw [part_cons c1 hp] at gX h
      rw [part_cons c2 hq] at gY h
      have := first_same gX gY h
      rw [rd_nat (X.map enc) i _ (by rw [List.length_map]; omega), rd_nat (Y.map enc) j _ (by rw [List.length_map]; omega), List.getElem_map, List.getElem_map, this]
    · rw [part_nil (show q ≤ j by omega)] at h
      exact absurd h (one hX p i c1 hp)
  · rw [part_nil (show p ≤ i by omega)] at h
    have c2 : j < q := by omega
    exact absurd h.symm (one hY q j c2 hq)
end Go.Proofs.YtkkjkpliiinbjaaDoor.DF
