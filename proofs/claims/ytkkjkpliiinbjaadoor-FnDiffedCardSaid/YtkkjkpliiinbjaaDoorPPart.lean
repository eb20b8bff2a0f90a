/- Parts of syllables, plainly: the reference's parts are the program's classes. -/
import Derived.Test.YtkkjkpliiinbjaaDoorPClass
namespace Go.Proofs.YtkkjkpliiinbjaaDoor.DF
open Go.Eng Go.RowKit
set_option linter.unusedVariables false
set_option linter.unusedSimpArgs false
def part (p : Int) : Int := if 1792 ≤ p ∧ p ≤ 1810 then 1 else if 1824 ≤ p ∧ p ≤ 1844 then 2 else if 1857 ≤ p ∧ p ≤ 1883 then 3 else if opn p = true then 4 else if syl p = true then 5 else 0
theorem specPart (p : Int) (hp : 0 ≤ p) (hp2 : p ≤ 1114111) : Ev (fun k => spec_l07Part k p) (part p) := by
  have e := fun k => spec_l07Part.eq p k
  simp only [spec_l07Part_J11.eq] at e
  simp only [W, W1, W3, if_neg (show ¬ (28 : Int) = 0 by omega)] at e
  refine Ev.ret fun k => ?_
  rw [e k]
  unfold part
  by_cases a : 1792 ≤ p ∧ p ≤ 1810
  · rw [if_pos a]; simp only [if_pos a.1, if_pos a.2]
  rw [if_neg a]
  by_cases b : 1824 ≤ p ∧ p ≤ 1844
  · rw [if_pos b]; simp only [if_pos b.1, if_pos b.2, if_pos (show 1792 ≤ p by omega), if_neg (show ¬ p ≤ 1810 by omega)]
  rw [if_neg b]
  by_cases c : 1857 ≤ p ∧ p ≤ 1883
  · rw [if_pos c]; simp only [if_pos c.1, if_pos c.2, if_pos (show 1792 ≤ p by omega), if_neg (show ¬ p ≤ 1810 by omega), if_pos (show 1824 ≤ p by omega), if_neg (show ¬ p ≤ 1844 by omega)]
  rw [if_neg c]
  by_cases d : 12288 ≤ p ∧ p ≤ 23459
  · have hr : remI (subI .i64 p 12288) 28 = (p - 12288) % 28 := by rw [subI_i64 (by omega) (by omega), remI_eq, Int.tmod_eq_emod_of_nonneg (by omega)]
    have hs : syl p = true := decide_eq_true d
    simp only [if_pos d.1, if_pos d.2, if_pos (show 1792 ≤ p by omega), if_neg (show ¬ p ≤ 1810 by omega), if_pos (show 1824 ≤ p by omega), if_neg (show ¬ p ≤ 1844 by omega), if_pos (show 1857 ≤ p by omega), if_neg (show ¬ p ≤ 1883 by omega), hr]
    by_cases q : (p - 12288) % 28 = 0
    · have ho : opn p = true := by unfold opn; rw [hs, decide_eq_true q]; rfl
      rw [if_pos q, if_pos ho]
    · have ho : ¬ opn p = true := by unfold opn; rw [hs, decide_eq_false q]; simp
      rw [if_neg q, if_neg ho, if_pos hs]
  · have hs : ¬ syl p = true := by simpa [syl] using d
    have ho : ¬ opn p = true := fun h => hs (by unfold opn at h; rw [Bool.and_eq_true] at h; exact h.1)
    rw [if_neg ho, if_neg hs]
    by_cases x1 : 1792 ≤ p
    · by_cases x2 : p ≤ 1810
      · exact absurd ⟨x1, x2⟩ a
      by_cases x3 : 1824 ≤ p
      · by_cases x4 : p ≤ 1844
        · exact absurd ⟨x3, x4⟩ b
        by_cases x5 : 1857 ≤ p
        · by_cases x6 : p ≤ 1883
          · exact absurd ⟨x5, x6⟩ c
          by_cases x7 : 12288 ≤ p
          · simp only [if_pos x1, if_neg x2, if_pos x3, if_neg x4, if_pos x5, if_neg x6, if_pos x7, if_neg (show ¬ p ≤ 23459 from fun h => d ⟨x7, h⟩)]
          · simp only [if_pos x1, if_neg x2, if_pos x3, if_neg x4, if_pos x5, if_neg x6, if_neg x7]
        · simp only [if_pos x1, if_neg x2, if_pos x3, if_neg x4, if_neg x5, if_neg (show ¬ 12288 ≤ p by omega)]
      · simp only [if_pos x1, if_neg x2, if_neg x3, if_neg (show ¬ 1857 ≤ p by omega), if_neg (show ¬ 12288 ≤ p by omega)]
    · simp only [if_neg x1, if_neg (show ¬ 1824 ≤ p by omega), if_neg (show ¬ 1857 ≤ p by omega), if_neg (show ¬ 12288 ≤ p by omega)]
/-! ### kinds within a stretch -/
theorem kind_flat {a b : Int} (ha : 1280 ≤ a) (h8 : b < 8192 ∨ 9728 ≤ a) (he : ∀ c ∈ edges SR, c ≤ a ∨ b < c) {p : Int} (h1 : a ≤ p) (h2 : p ≤ b) : kindOf p = look SR (0, 0) a := by
  unfold kindOf kind1
  rw [if_neg (by omega), if_neg (by omega)]
  exact edges_at (l := edges SR) h1 (fun c hc hcp => by rcases he c hc with h | h <;> omega) (fun c hc => hc)
theorem cat_lead {p : Int} (h : 1792 ≤ p ∧ p ≤ 1810) : cat p = 7 := by unfold cat; rw [kind_flat (a := 1792) (b := 1810) (by decide) (by decide) (by decide +kernel) h.1 h.2]; decide +kernel
theorem cat_vowel {p : Int} (h : 1824 ≤ p ∧ p ≤ 1844) : cat p = 7 := by unfold cat; rw [kind_flat (a := 1824) (b := 1844) (by decide) (by decide) (by decide +kernel) h.1 h.2]; decide +kernel
theorem cat_tail {p : Int} (h : 1857 ≤ p ∧ p ≤ 1883) : cat p = 7 := by unfold cat; rw [kind_flat (a := 1857) (b := 1883) (by decide) (by decide) (by decide +kernel) h.1 h.2]; decide +kernel
theorem cat_syl {p : Int} (h : 12288 ≤ p ∧ p ≤ 23459) : cat p = 7 := by unfold cat; rw [kind_flat (a := 12288) (b := 23459) (by decide) (by decide) (by decide +kernel) h.1 h.2]; decide +kernel
theorem cat_sign {p : Int} (h : 7680 ≤ p ∧ p ≤ 7748) : cat p = 10 := by unfold cat; rw [kind_flat (a := 7680) (b := 7748) (by decide) (by decide) (by decide +kernel) h.1 h.2]; decide +kernel
theorem cat_flag {p : Int} (h : 7760 ≤ p ∧ p ≤ 7785) : cat p = 10 := by unfold cat; rw [kind_flat (a := 7760) (b := 7785) (by decide) (by decide) (by decide +kernel) h.1 h.2]; decide +kernel
/-- a point that is a part of a syllable is neither a control nor a mark -/
theorem cls_part {p : Int} (h : part p ≠ 0) : ctl p = false ∧ mk p = false := by
  have key : cat p = 7 ∧ p ≠ 7954 ∧ p ≠ 7936 ∧ ¬ (7744 ≤ p ∧ p ≤ 7748) := by
    unfold part at h
    by_cases a : 1792 ≤ p ∧ p ≤ 1810
    · exact ⟨cat_lead a, by omega, by omega, by omega⟩
    by_cases b : 1824 ≤ p ∧ p ≤ 1844
    · exact ⟨cat_vowel b, by omega, by omega, by omega⟩
    by_cases c : 1857 ≤ p ∧ p ≤ 1883
    · exact ⟨cat_tail c, by omega, by omega, by omega⟩
    by_cases d : 12288 ≤ p ∧ p ≤ 23459
    · exact ⟨cat_syl d, by omega, by omega, by omega⟩
    · have hs : ¬ syl p = true := by simpa [syl] using d
      have ho : ¬ opn p = true := fun h => hs (by unfold opn at h; rw [Bool.and_eq_true] at h; exact h.1)
      rw [if_neg a, if_neg b, if_neg c, if_neg ho, if_neg hs] at h
      exact absurd rfl h
  obtain ⟨h1, h2, h3, h4⟩ := key
  constructor
  · unfold ctl; rw [h1, decide_eq_false h2]; rfl
  · unfold mk; rw [h1, decide_eq_false h3, decide_eq_false h4]; rfl
end Go.Proofs.YtkkjkpliiinbjaaDoor.DF
