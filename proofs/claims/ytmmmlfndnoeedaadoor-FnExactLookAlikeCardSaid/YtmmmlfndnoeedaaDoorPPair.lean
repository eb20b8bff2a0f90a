/- Pairs put together, by both sides. -/
import Derived.Test.YtmmmlfndnoeedaaDoorPDec
namespace Go.Proofs.YtmmmlfndnoeedaaDoor.IX
open Go.Eng Go.RowKit
set_option linter.unusedVariables false
set_option linter.unusedSimpArgs false
def lnum (a : Int) : Int := if 65 ≤ a ∧ a ≤ 90 then a - 65 else if 97 ≤ a ∧ a ≤ 122 then a - 71 else -1
def prC (a b : Int) : Int :=
  if (8704 ≤ a ∧ a ≤ 9119) ∧ b = 4096 then a + 512
  else if (1792 ≤ a ∧ a ≤ 1810) ∧ (1824 ≤ b ∧ b ≤ 1844) then 12288 + ((a - 1792) * 21 + b - 1824) * 28
  else if ((12288 ≤ a ∧ a ≤ 23459) ∧ (a - 12288) % 28 = 0) ∧ (1857 ≤ b ∧ b ≤ 1883) then a + b - 1856 else -1
def prB2 (i a b : Int) : Int := if 0 ≤ i ∧ (4112 ≤ b ∧ b ≤ 4119) then 8704 + 8 * i + b - 4112 else prC a b
def prA (i a b : Int) : Int := if 0 ≤ i ∧ (4096 ≤ b ∧ b ≤ 4103) then 8192 + 8 * i + b - 4096 else prB2 i a b
def pr (a b : Int) : Int := prA (lnum a) a b
theorem lnum_b (a : Int) : -1 ≤ lnum a ∧ lnum a ≤ 51 := by
  unfold lnum
  repeat' split
  all_goals omega
theorem pr_pt (a b : Int) (h : 0 ≤ pr a b) : Pt (pr a b) := by
  have hi := lnum_b a
  revert h
  unfold pr prA prB2 prC Pt
  repeat' split
  all_goals omega
theorem rem_nn (a : Int) (h : 0 ≤ a) (b : Nat) : remI a (b : Int) = a % (b : Int) := by
  rw [remI_eq]
  exact Int.tmod_eq_emod_of_nonneg h
theorem ar4 (c d i b : Int) (hi : -1 ≤ i ∧ i ≤ 51) (hb : 0 ≤ b ∧ b ≤ 1114111) (hc : 0 ≤ c ∧ c ≤ 10000) (hd : 0 ≤ d ∧ d ≤ 10000) : subI .i64 (addI .i64 (addI .i64 c (mulI .i64 8 i)) b) d = c + 8 * i + b - d := by
  rw [show mulI .i64 8 i = 8 * i from mulI_i64 (by omega) (by omega), show addI .i64 c (8 * i) = c + 8 * i from addI_i64 (by omega) (by omega), show addI .i64 (c + 8 * i) b = c + 8 * i + b from addI_i64 (by omega) (by omega), subI_i64 (by omega) (by omega)]
section
variable (a b : Int) (ha : Pt a) (hb : Pt b)
include ha in
theorem open_ev : Ev (fun k => impl_isOpen k a) (decide ((12288 ≤ a ∧ a ≤ 23459) ∧ (a - 12288) % 28 = 0)) := by
  unfold Pt at ha
  have e := fun k => impl_isOpen.eq a k
  have h1 : subI .i64 a 12288 = a - 12288 := subI_i64 (by omega) (by omega)
  simp only [W, W1, W3, h1, if_neg (show ¬ (28 : Int) = 0 by omega)] at e
  refine Ev.step e (Ev.bind (Ev.step (fun k => impl_isSyllable.eq a k) (Ev.opt (in_dec _ 12288 23459) (Ev.now _))) ?_)
  by_cases c : 12288 ≤ a ∧ a ≤ 23459
  · simp only [decide_eq_true c, W1]
    have h2 := rem_nn (a - 12288) (by omega) 28
    simp only [clit] at h2
    simp only [h2]
    refine Ev.of fun _ => ?_
    congr 1
    exact decide_eq_decide.2 ⟨fun h => ⟨c, h⟩, fun h => h.2⟩
  · simp only [decide_eq_false c, W1]
    rw [decide_eq_false (fun h => c h.1)]
    exact Ev.now _
include ha hb in
theorem implC : Ev (fun k => impl_Compose_J9 k a b (-1) false) (prC a b) ∧ ∀ i, Ev (fun k => impl_Compose_J9 k a b i false) (prC a b) := by
  have key : ∀ i, Ev (fun k => impl_Compose_J9 k a b i false) (prC a b) := by
    intro i
    have ha' := ha
    have hb' := hb
    unfold Pt at ha' hb'
    have e := fun k => impl_Compose_J9.eq a b i false k
    have h1 : addI .i64 a 512 = a + 512 := addI_i64 (by omega) (by omega)
    have h3 : subI .i64 a 1792 = a - 1792 := subI_i64 (by omega) (by omega)
    have h4 : mulI .i64 21 (a - 1792) = 21 * (a - 1792) := mulI_i64 (by omega) (by omega)
    have h5 : addI .i64 (21 * (a - 1792)) b = 21 * (a - 1792) + b := addI_i64 (by omega) (by omega)
    have h6 : subI .i64 (21 * (a - 1792) + b) 1824 = 21 * (a - 1792) + b - 1824 := subI_i64 (by omega) (by omega)
    have h7 : mulI .i64 (21 * (a - 1792) + b - 1824) 28 = (21 * (a - 1792) + b - 1824) * 28 := mulI_i64 (by omega) (by omega)
    have h8 : addI .i64 12288 ((21 * (a - 1792) + b - 1824) * 28) = 12288 + (21 * (a - 1792) + b - 1824) * 28 := addI_i64 (by omega) (by omega)
    have h9 : addI .i64 a b = a + b := addI_i64 (by omega) (by omega)
    have h10 : subI .i64 (a + b) 1856 = a + b - 1856 := subI_i64 (by omega) (by omega)
    simp only [W, W1, W3, h1, h3, h4, h5, h6, h7, h8, h9, h10] at e
    have last : ∀ v : Int, v = (if ((12288 ≤ a ∧ a ≤ 23459) ∧ (a - 12288) % 28 = 0) ∧ (1857 ≤ b ∧ b ≤ 1883) then a + b - 1856 else -1) →
        Ev (fun k => (impl_isOpen k a).bind fun r3 => brB r3 ((impl_in k b 1857 1883).bind fun r4 => brB r4 (some (a + b - 1856)) (some (-1))) (some (-1))) v := by
      intro v hv
      refine Ev.bind (open_ev a ha) ?_
      by_cases c : (12288 ≤ a ∧ a ≤ 23459) ∧ (a - 12288) % 28 = 0
      · simp only [decide_eq_true c, W1]
        refine Ev.bind (in_dec _ 1857 1883) ?_
        by_cases c2 : 1857 ≤ b ∧ b ≤ 1883
        · simp only [decide_eq_true c2, W1]; rw [hv, if_pos ⟨c, c2⟩]; exact Ev.now _
        · simp only [decide_eq_false c2, W1]; rw [hv, if_neg (fun h => c2 h.2)]; exact Ev.now _
      · simp only [decide_eq_false c, W1]; rw [hv, if_neg (fun h => c h.1)]; exact Ev.now _
    have mid : ∀ v : Int, v = (if (1792 ≤ a ∧ a ≤ 1810) ∧ (1824 ≤ b ∧ b ≤ 1844) then 12288 + ((a - 1792) * 21 + b - 1824) * 28 else if ((12288 ≤ a ∧ a ≤ 23459) ∧ (a - 12288) % 28 = 0) ∧ (1857 ≤ b ∧ b ≤ 1883) then a + b - 1856 else -1) →
        Ev (fun k => (impl_in k a 1792 1810).bind fun r1 => brB r1 ((impl_in k b 1824 1844).bind fun r2 => brB r2 (some (12288 + (21 * (a - 1792) + b - 1824) * 28)) ((impl_isOpen k a).bind fun r3 => brB r3 ((impl_in k b 1857 1883).bind fun r4 => brB r4 (some (a + b - 1856)) (some (-1))) (some (-1))))
          ((impl_isOpen k a).bind fun r2 => brB r2 ((impl_in k b 1857 1883).bind fun r3 => brB r3 (some (a + b - 1856)) (some (-1))) (some (-1)))) v := by
      intro v hv
      refine Ev.bind (in_dec _ 1792 1810) ?_
      by_cases c : 1792 ≤ a ∧ a ≤ 1810
      · simp only [decide_eq_true c, W1]
        refine Ev.bind (in_dec _ 1824 1844) ?_
        by_cases c2 : 1824 ≤ b ∧ b ≤ 1844
        · simp only [decide_eq_true c2, W1]; rw [hv, if_pos ⟨c, c2⟩, Int.mul_comm 21]; exact Ev.now _
        · simp only [decide_eq_false c2, W1]; exact last v (by rw [hv, if_neg (fun h => c2 h.2)])
      · simp only [decide_eq_false c, W1]; exact last v (by rw [hv, if_neg (fun h => c h.1)])
    refine Ev.congr e (Ev.bind (in_dec _ 8704 9119) ?_)
    unfold prC
    by_cases c : 8704 ≤ a ∧ a ≤ 9119
    · simp only [decide_eq_true c, W1]
      by_cases c2 : b = 4096
      · simp only [if_pos c2, if_pos (show (8704 ≤ a ∧ a ≤ 9119) ∧ b = 4096 from ⟨c, c2⟩)]; exact Ev.now _
      · simp only [if_neg c2, if_neg (show ¬ ((8704 ≤ a ∧ a ≤ 9119) ∧ b = 4096) from fun h => c2 h.2)]; exact mid _ rfl
    · simp only [decide_eq_false c, W1, if_neg (show ¬ ((8704 ≤ a ∧ a ≤ 9119) ∧ b = 4096) from fun h => c h.1)]; exact mid _ rfl
  exact ⟨key _, key⟩
include ha hb in
theorem implB2 (i : Int) (hi : -1 ≤ i ∧ i ≤ 51) (x : Bool) (hx : (x = true ∧ 0 ≤ i ∧ (4112 ≤ b ∧ b ≤ 4119)) ∨ (x = false ∧ ¬ (0 ≤ i ∧ (4112 ≤ b ∧ b ≤ 4119)))) : Ev (fun k => impl_Compose_J9 k a b i x) (prB2 i a b) := by
  unfold prB2
  have hb' := hb
  unfold Pt at hb'
  rcases hx with ⟨rfl, hx⟩ | ⟨rfl, hx⟩
  · rw [if_pos hx]
    refine Ev.of fun k => ?_
    rw [impl_Compose_J9.eq]
    simp only [W1]
    rw [ar4 _ _ _ _ (by omega) (by omega) (by omega) (by omega)]
  · rw [if_neg hx]
    exact (implC a b ha hb).2 i
include ha hb in
theorem implA2 (i : Int) (hi : -1 ≤ i ∧ i ≤ 51) : Ev (fun k => impl_Compose_J6 k a b i) (prA i a b) := by
  have hb' := hb
  unfold Pt at hb'
  have e := fun k => impl_Compose_J6.eq a b i k
  simp only [W, W1, W3] at e
  have j7 : ∀ x : Bool, (x = true ∧ 0 ≤ i ∧ (4096 ≤ b ∧ b ≤ 4103)) ∨ (x = false ∧ ¬ (0 ≤ i ∧ (4096 ≤ b ∧ b ≤ 4103))) → Ev (fun k => impl_Compose_J7 k a b i x) (prA i a b) := by
    intro x hx
    unfold prA
    rcases hx with ⟨rfl, hx⟩ | ⟨rfl, hx⟩
    · rw [if_pos hx]
      refine Ev.of fun k => ?_
      rw [impl_Compose_J7.eq]
      simp only [W1]
      rw [ar4 _ _ _ _ (by omega) (by omega) (by omega) (by omega)]
    · rw [if_neg hx]
      have e := fun k => impl_Compose_J7.eq a b i false k
      simp only [W, W1, W3] at e
      refine Ev.congr e ?_
      by_cases c : 0 ≤ i
      · simp only [if_pos c]
        refine Ev.bind (in_dec _ 4112 4119) (implB2 a b ha hb i hi _ ?_)
        by_cases c2 : 4112 ≤ b ∧ b ≤ 4119
        · exact .inl ⟨decide_eq_true c2, c, c2⟩
        · exact .inr ⟨decide_eq_false c2, fun h => c2 h.2⟩
      · simp only [if_neg c]
        exact implB2 a b ha hb i hi false (.inr ⟨rfl, fun h => c h.1⟩)
  refine Ev.congr e ?_
  by_cases c : 0 ≤ i
  · simp only [if_pos c]
    refine Ev.bind (in_dec _ 4096 4103) (j7 _ ?_)
    by_cases c2 : 4096 ≤ b ∧ b ≤ 4103
    · exact .inl ⟨decide_eq_true c2, c, c2⟩
    · exact .inr ⟨decide_eq_false c2, fun h => c2 h.2⟩
  · simp only [if_neg c]
    exact j7 false (.inr ⟨rfl, fun h => c h.1⟩)
include ha hb in
theorem implPair : Ev (fun k => impl_Compose k a b) (pr a b) := by
  have ha' := ha
  unfold Pt at ha'
  have j4 : ∀ i : Int, (65 ≤ a ∧ a ≤ 90 → i = a - 65) → (¬ (65 ≤ a ∧ a ≤ 90) → i = -1) → Ev (fun k => impl_Compose_J4 k a b i) (pr a b) := by
    intro i h1 h2
    have e := fun k => impl_Compose_J4.eq a b i k
    have g1 : addI .i64 (subI .i64 a 97) 26 = a - 71 := by rw [subI_i64 (by omega) (by omega), addI_i64 (by omega) (by omega)]; omega
    simp only [W, W1, W3, g1] at e
    refine Ev.congr e (Ev.bind (in_dec _ 97 122) ?_)
    unfold pr lnum
    by_cases c : 97 ≤ a ∧ a ≤ 122
    · simp only [decide_eq_true c, W1]
      rw [if_neg (by omega), if_pos c]
      exact implA2 a b ha hb _ (by omega)
    · simp only [decide_eq_false c, W1]
      by_cases c2 : 65 ≤ a ∧ a ≤ 90
      · rw [if_pos c2, h1 c2]; exact implA2 a b ha hb _ (by omega)
      · rw [if_neg c2, if_neg c, h2 c2]; exact implA2 a b ha hb _ (by omega)
  have e := fun k => impl_Compose.eq a b k
  have g1 : subI .i64 a 65 = a - 65 := subI_i64 (by omega) (by omega)
  simp only [W, W1, W3, g1] at e
  refine Ev.step e (Ev.bind (in_dec _ 65 90) ?_)
  by_cases c : 65 ≤ a ∧ a ≤ 90
  · simp only [decide_eq_true c, W1]; exact j4 _ (fun _ => rfl) (fun h => absurd c h)
  · simp only [decide_eq_false c, W1]; exact j4 _ (fun h => absurd h c) (fun _ => rfl)
/-! ### the reference -/
include ha hb in
theorem specC2 (x : Bool) (hx : (x = true ∧ (8704 ≤ a ∧ a ≤ 9119) ∧ b = 4096) ∨ (x = false ∧ ¬ ((8704 ≤ a ∧ a ≤ 9119) ∧ b = 4096))) : Ev (fun k => spec_l05Pair_J7 k a b x) (prC a b) := by
  have ha' := ha
  have hb' := hb
  unfold Pt at ha' hb'
  unfold prC
  rcases hx with ⟨rfl, hx⟩ | ⟨rfl, hx⟩
  · rw [if_pos hx]
    refine Ev.of fun k => ?_
    rw [spec_l05Pair_J7.eq]
    simp only [W1]
    rw [addI_i64 (by omega) (by omega)]
  · rw [if_neg hx]
    have e := fun k => spec_l05Pair_J7.eq a b false k
    simp only [W, W1] at e
    refine Ev.congr e ?_
    have h3 : subI .i64 a 1792 = a - 1792 := subI_i64 (by omega) (by omega)
    have h4 : mulI .i64 (a - 1792) 21 = (a - 1792) * 21 := mulI_i64 (by omega) (by omega)
    have h5 : addI .i64 ((a - 1792) * 21) b = (a - 1792) * 21 + b := addI_i64 (by omega) (by omega)
    have h6 : subI .i64 ((a - 1792) * 21 + b) 1824 = (a - 1792) * 21 + b - 1824 := subI_i64 (by omega) (by omega)
    have h7 : mulI .i64 ((a - 1792) * 21 + b - 1824) 28 = ((a - 1792) * 21 + b - 1824) * 28 := mulI_i64 (by omega) (by omega)
    have h8 : addI .i64 12288 (((a - 1792) * 21 + b - 1824) * 28) = 12288 + ((a - 1792) * 21 + b - 1824) * 28 := addI_i64 (by omega) (by omega)
    have h9 : addI .i64 a b = a + b := addI_i64 (by omega) (by omega)
    have h10 : subI .i64 (a + b) 1856 = a + b - 1856 := subI_i64 (by omega) (by omega)
    have h11 : subI .i64 a 12288 = a - 12288 := subI_i64 (by omega) (by omega)
    have j9 : ∀ x : Bool, (x = true ∧ (1792 ≤ a ∧ a ≤ 1810) ∧ (1824 ≤ b ∧ b ≤ 1844)) ∨ (x = false ∧ ¬ ((1792 ≤ a ∧ a ≤ 1810) ∧ (1824 ≤ b ∧ b ≤ 1844))) →
        Ev (fun k => spec_l05Pair_J9 k a b x) (if (1792 ≤ a ∧ a ≤ 1810) ∧ (1824 ≤ b ∧ b ≤ 1844) then 12288 + ((a - 1792) * 21 + b - 1824) * 28 else if ((12288 ≤ a ∧ a ≤ 23459) ∧ (a - 12288) % 28 = 0) ∧ (1857 ≤ b ∧ b ≤ 1883) then a + b - 1856 else -1) := by
      intro x hx
      refine Ev.of fun k => ?_
      rw [spec_l05Pair_J9.eq]
      simp only [spec_l05Pair_J12.eq, W, W1, h3, h4, h5, h6, h7, h8, h9, h10, h11, if_neg (show ¬ (28 : Int) = 0 by omega)]
      rcases hx with ⟨rfl, hx⟩ | ⟨rfl, hx⟩
      · simp only [W1]; rw [if_pos hx]
      · simp only [W1]; rw [if_neg hx]
        by_cases c1 : 12288 ≤ a
        · have hr := rem_nn (a - 12288) (by omega) 28
          simp only [clit] at hr
          simp only [hr]
          repeat' split
          all_goals first | rfl | (exfalso; omega)
        · rw [if_neg c1, if_neg (fun h => c1 h.1.1.1)]
    by_cases c : 1792 ≤ a
    · by_cases c2 : a ≤ 1810
      · by_cases c3 : 1824 ≤ b
        · simp only [if_pos c, if_pos c2, if_pos c3]
          refine j9 _ ?_
          by_cases c4 : b ≤ 1844
          · exact .inl ⟨decide_eq_true c4, ⟨c, c2⟩, c3, c4⟩
          · exact .inr ⟨decide_eq_false c4, fun h => c4 h.2.2⟩
        · simp only [if_pos c, if_pos c2, if_neg c3]
          exact j9 false (.inr ⟨rfl, fun h => c3 h.2.1⟩)
      · simp only [if_pos c, if_neg c2]
        exact j9 false (.inr ⟨rfl, fun h => c2 h.1.2⟩)
    · simp only [if_neg c]
      exact j9 false (.inr ⟨rfl, fun h => c h.1.1⟩)
include ha hb in
theorem specB2 (i : Int) (hi : -1 ≤ i ∧ i ≤ 51) (x : Bool) (hx : (x = true ∧ 0 ≤ i ∧ (4112 ≤ b ∧ b ≤ 4119)) ∨ (x = false ∧ ¬ (0 ≤ i ∧ (4112 ≤ b ∧ b ≤ 4119)))) : Ev (fun k => spec_l05Pair_J5 k a b i x) (prB2 i a b) := by
  unfold prB2
  have hb' := hb
  unfold Pt at hb'
  rcases hx with ⟨rfl, hx⟩ | ⟨rfl, hx⟩
  · rw [if_pos hx]
    refine Ev.of fun k => ?_
    rw [spec_l05Pair_J5.eq]
    simp only [W1]
    rw [ar4 _ _ _ _ (by omega) (by omega) (by omega) (by omega)]
  · rw [if_neg hx]
    have e := fun k => spec_l05Pair_J5.eq a b i false k
    simp only [W, W1] at e
    refine Ev.congr e ?_
    by_cases c : 8704 ≤ a
    · by_cases c2 : a < 9120
      · simp only [if_pos c, if_pos c2]
        refine specC2 a b ha hb _ ?_
        by_cases c3 : b = 4096
        · exact .inl ⟨decide_eq_true c3, ⟨c, by omega⟩, c3⟩
        · exact .inr ⟨decide_eq_false c3, fun h => c3 h.2⟩
      · simp only [if_pos c, if_neg c2]
        exact specC2 a b ha hb false (.inr ⟨rfl, fun h => c2 (by omega)⟩)
    · simp only [if_neg c]
      exact specC2 a b ha hb false (.inr ⟨rfl, fun h => c h.1.1⟩)
include ha hb in
theorem specPair : Ev (fun k => spec_l05Pair k a b) (pr a b) := by
  have ha' := ha
  have hb' := hb
  unfold Pt at ha' hb'
  have hlet : Ev (fun k => spec_l05LetterAt k a) (lnum a) := by
    refine Ev.ret fun k => ?_
    rw [spec_l05LetterAt.eq, subI_i64 (by omega) (by omega), subI_i64 (by omega) (by omega), addI_i64 (by omega) (by omega)]
    simp only [W, W1]
    unfold lnum
    repeat' split
    all_goals first | rfl | (exfalso; omega) | (congr 1; omega)
  have hi := lnum_b a
  have j3 : ∀ x : Bool, (x = true ∧ 0 ≤ lnum a ∧ (4096 ≤ b ∧ b ≤ 4103)) ∨ (x = false ∧ ¬ (0 ≤ lnum a ∧ (4096 ≤ b ∧ b ≤ 4103))) → Ev (fun k => spec_l05Pair_J3 k a b (lnum a) x) (pr a b) := by
    intro x hx
    unfold pr prA
    rcases hx with ⟨rfl, hx⟩ | ⟨rfl, hx⟩
    · rw [if_pos hx]
      refine Ev.of fun k => ?_
      rw [spec_l05Pair_J3.eq]
      simp only [W1]
      rw [ar4 _ _ _ _ (by omega) (by omega) (by omega) (by omega)]
    · rw [if_neg hx]
      have e := fun k => spec_l05Pair_J3.eq a b (lnum a) false k
      simp only [W, W1] at e
      refine Ev.congr e ?_
      by_cases c : 0 ≤ lnum a
      · by_cases c2 : 4112 ≤ b
        · simp only [if_pos c, if_pos c2]
          refine specB2 a b ha hb _ hi _ ?_
          by_cases c3 : b ≤ 4119
          · exact .inl ⟨decide_eq_true c3, c, c2, c3⟩
          · exact .inr ⟨decide_eq_false c3, fun h => c3 h.2.2⟩
        · simp only [if_pos c, if_neg c2]
          exact specB2 a b ha hb _ hi false (.inr ⟨rfl, fun h => c2 h.2.1⟩)
      · simp only [if_neg c]
        exact specB2 a b ha hb _ hi false (.inr ⟨rfl, fun h => c h.1⟩)
  have e := fun k => spec_l05Pair.eq a b k
  simp only [W, W1, W3] at e
  refine Ev.step e (Ev.bind hlet ?_)
  by_cases c : 0 ≤ lnum a
  · by_cases c2 : 4096 ≤ b
    · simp only [if_pos c, if_pos c2]
      refine j3 _ ?_
      by_cases c3 : b ≤ 4103
      · exact .inl ⟨decide_eq_true c3, c, c2, c3⟩
      · exact .inr ⟨decide_eq_false c3, fun h => c3 h.2.2⟩
    · simp only [if_pos c, if_neg c2]
      exact j3 false (.inr ⟨rfl, fun h => c2 h.2.1⟩)
  · simp only [if_neg c]
    exact j3 false (.inr ⟨rfl, fun h => c h.1⟩)
end
end Go.Proofs.YtmmmlfndnoeedaaDoor.IX
