/-
  The law's marks, plainly: what is marked is found again.
-/
import Derived.Test.YtopbiepiceajnaaQx7
import Derived.Test.YtopbiepiceajnaaXPre
namespace Go.Proofs.Ytopbiepiceajnaa.XMark
open Go.RowKit Go.Proofs.Ytopbiepiceajnaa.Q Go.Proofs.YtopbiepiceajnaaW.PrintWords Go.Proofs.Ytopbiepiceajnaa.XPre
set_option linter.unusedVariables false
set_option linter.unusedSimpArgs false

theorem strOfNums_one (n : Int) : (strOfNums [n]).size = 1 := by simp [strOfNums, ByteArray.size]
theorem markLoop (n : Nat) : ∀ (x : Int) (s : ByteArray), 0 ≤ x → x < 10 ^ n → x ≤ 9223372036854775807 → s.size + n ≤ 1000 → ∃ r, Ev (fun k => laws_markText.l0 k x s) r := by
  induction n with
  | zero =>
    intro x s h0 h1 hb hs
    refine ⟨(⟨#[109]⟩ : ByteArray) ++ s, Ev.ret fun k => ?_⟩
    simp only [laws_markText.l0]
    rw [if_neg (by simp at h1; omega), if_pos (by omega)]
  | succ n ih =>
    intro x s h0 h1 hb hs
    by_cases c : x > 0
    · have ht : Int.tdiv x 10 = x / 10 := Int.tdiv_eq_ediv_of_nonneg h0
      have hp : (10 : Int) ^ (n + 1) = 10 ^ n * 10 := Int.pow_succ 10 n
      rw [hp] at h1
      obtain ⟨r, hr⟩ := ih (x / 10) (strOfNums [(wrap64 (48 + (Int.tmod x 10))) % 256] ++ s) (by omega) (by omega) (by omega) (by rw [ByteArray.size_append, strOfNums_one]; omega)
      refine ⟨r, Ev.step (fun k => ?_) hr⟩
      simp only [laws_markText.l0]
      rw [if_pos c, Option.bind_some, if_pos (by rw [strOfNums_one]; omega), ht, w64 (by omega) (by omega)]
    · refine ⟨(⟨#[109]⟩ : ByteArray) ++ s, Ev.ret fun k => ?_⟩
      simp only [laws_markText.l0]
      rw [if_neg c, if_pos (by omega)]
theorem markText_some (x : Int) (h : x ≤ 9223372036854775807) : ∃ r, Ev (fun k => laws_markText.f k x) r := by
  unfold laws_markText.f
  by_cases c : x ≤ 0
  · exact ⟨_, Ev.congr (fun k => if_pos c) (Ev.now _)⟩
  · obtain ⟨r, hr⟩ := markLoop 19 x ⟨#[]⟩ (by omega) (by omega) h (by simp [ByteArray.size])
    exact ⟨r, Ev.congr (fun k => if_neg c) hr⟩
open Classical in
/-- The text of a mark. -/
noncomputable def mt (x : Int) : ByteArray := if h : ∃ r, Ev (fun k => laws_markText.f k x) r then h.choose else ByteArray.empty
theorem markText_ev (x : Int) (h : x ≤ 9223372036854775807) : Ev (fun k => laws_markText.f k x) (mt x) := by
  have hx := markText_some x h
  have e : mt x = hx.choose := by unfold mt; exact dif_pos hx
  rw [e]
  exact hx.choose_spec
end Go.Proofs.Ytopbiepiceajnaa.XMark
