/- StyleFault, plainly: the program's answer and the reference's are one. -/
import Derived.Test.YtopbiepiceajnaaXPat
import Derived.Test.YtopbiepiceajnaaXStrs
namespace Go.Proofs.Ytopbiepiceajnaa.S
open Go.Eng Go.RowKit
set_option linter.unusedVariables false
set_option linter.unusedSimpArgs false
/-- What a list of patterns gets, from a place on. -/
def pfault (l : List ByteArray) : Nat → Nat → Int
  | 0, _ => 0
  | m + 1, i => if (pat (rd l (i : Int) (bs []))).2.2 = true then (if 0 < i then (if Op.bytesLess ((rd l ((i : Int) - 1) (bs [])).toList) ((rd l (i : Int) (bs [])).toList) = true then pfault l m (i + 1) else 1) else pfault l m (i + 1)) else 1
theorem size_at (l : List ByteArray) (hs : ∀ x ∈ l, x.size ≤ 1048576) (i : Nat) (h : i < l.length) : (rd l (i : Int) (bs [])).size ≤ 1048576 := by
  rw [rd_nat l i _ h]
  exact hs _ (List.getElem_mem h)
theorem specP_loop (l : List ByteArray) (hl : l.length ≤ 1048576) (hs : ∀ x ∈ l, x.size ≤ 1048576) : ∀ m i : Nat, i + m = l.length → Ev2 (fun k j => spec_PatternsFault_L4 k j l (i : Int)) (pfault l m i) := by
  intro m
  induction m with
  | zero =>
    intro i hi
    refine Ev2.ret fun k j => ?_
    simp only [spec_PatternsFault_L4.eq, W, W1, W2]
    rw [if_neg (by omega)]
    rfl
  | succ m ih =>
    intro i hi
    have hp := specPat_ev (rd l (i : Int) (bs [])) (size_at l hs i (by omega))
    have hn := ih (i + 1) (by omega)
    have hw : addI .i64 (i : Int) 1 = ((i + 1 : Nat) : Int) := by rw [addI_i64 (by omega) (by omega)]; omega
    have hw2 : subI .i64 (i : Int) 1 = (i : Int) - 1 := subI_i64 (by omega) (by omega)
    refine Ev2.step (fun k j => by simp only [spec_PatternsFault_L4.eq, hw, hw2, W, W1, W2, W3]; rw [if_pos (by omega), if_pos (by omega), if_pos (by omega)]) ?_
    refine Ev2.bind hp ?_
    simp only [pfault, brB_b]
    by_cases c : (pat (rd l (i : Int) (bs []))).2.2 = true
    · simp only [if_pos c]
      by_cases c2 : 0 < i
      · have c3 : (0 : Int) < (i : Int) := by omega
        have c4 : (0 : Int) ≤ (i : Int) - 1 := by omega
        have c5 : (i : Int) - 1 < (l.length : Int) := by omega
        have c6 : (0 : Int) ≤ (i : Int) := by omega
        have c7 : (i : Int) < (l.length : Int) := by omega
        simp only [if_pos c2, if_pos c3, if_pos c4, if_pos c5, if_pos c6, if_pos c7]
        by_cases c8 : Op.bytesLess ((rd l ((i : Int) - 1) (bs [])).toList) ((rd l (i : Int) (bs [])).toList) = true
        · simp only [if_pos c8]; exact hn
        · simp only [if_neg c8]; exact Ev2.now _
      · have c3 : ¬ (0 : Int) < (i : Int) := by omega
        simp only [if_neg c2, if_neg c3]
        exact hn
    · simp only [if_neg c]
      exact Ev2.now _
theorem implP_loop (l : List ByteArray) (hl : l.length ≤ 1048576) (hs : ∀ x ∈ l, x.size ≤ 1048576) : ∀ m i : Nat, i + m = l.length → Ev2 (fun k j => impl_PatternsFault_L4 k j l l (l.length : Int) (i : Int)) (pfault l m i) := by
  intro m
  induction m with
  | zero =>
    intro i hi
    refine Ev2.ret fun k j => ?_
    simp only [impl_PatternsFault_L4.eq, W, W1, W2]
    rw [if_neg (by omega)]
    rfl
  | succ m ih =>
    intro i hi
    obtain ⟨v, hp, hv, _⟩ := implPat_ev (rd l (i : Int) (bs [])) (size_at l hs i (by omega))
    have hn := ih (i + 1) (by omega)
    have hw : addI .i64 (i : Int) 1 = ((i + 1 : Nat) : Int) := by rw [addI_i64 (by omega) (by omega)]; omega
    have hw2 : subI .i64 (i : Int) 1 = (i : Int) - 1 := subI_i64 (by omega) (by omega)
    refine Ev2.step (fun k j => by simp only [impl_PatternsFault_L4.eq, hw, hw2, W, W1, W2, W3]; rw [if_pos (by omega), if_pos (by omega), if_pos (by omega)]) ?_
    refine Ev2.bind hp ?_
    simp only [pfault, brB_b, hv]
    by_cases c : (pat (rd l (i : Int) (bs []))).2.2 = true
    · simp only [if_pos c]
      by_cases c2 : 0 < i
      · have c3 : (0 : Int) < (i : Int) := by omega
        have c4 : (0 : Int) ≤ (i : Int) - 1 := by omega
        have c5 : (i : Int) - 1 < (l.length : Int) := by omega
        simp only [if_pos c2, if_pos c3, if_pos c4, if_pos c5]
        by_cases c8 : Op.bytesLess ((rd l ((i : Int) - 1) (bs [])).toList) ((rd l (i : Int) (bs [])).toList) = true
        · simp only [if_pos c8]; exact hn
        · simp only [if_neg c8]; exact Ev2.now _
      · have c3 : ¬ (0 : Int) < (i : Int) := by omega
        simp only [if_neg c2, if_neg c3]
        exact hn
    · simp only [if_neg c]
      exact Ev2.now _
theorem patterns_same (l : List ByteArray) (hl : l.length ≤ 1048576) (hs : ∀ x ∈ l, x.size ≤ 1048576) : ∃ v : Int, Ev (fun k => spec_PatternsFault k l) v ∧ Ev (fun k => impl_PatternsFault k l) v ∧ (v = 0 → v = pfault l l.length 0 ∧ l.length ≤ 1000) := by
  by_cases c : 1000 < (l.length : Int)
  · refine ⟨1, Ev.ret fun k => ?_, Ev.ret fun k => ?_, by omega⟩
    · simp only [spec_PatternsFault.eq, W, W1, W2, if_pos c]
    · simp only [impl_PatternsFault.eq, W, W1, W2, if_pos c]
  · refine ⟨pfault l l.length 0, Ev.step (fun k => ?_) (specP_loop l hl hs l.length 0 (by omega)).ev, Ev.step (fun k => ?_) (implP_loop l hl hs l.length 0 (by omega)).ev, fun _ => ⟨rfl, by omega⟩⟩
    · simp only [spec_PatternsFault.eq, W, W1, W2, if_neg c]
      rfl
    · simp only [impl_PatternsFault.eq, W, W1, W2, if_neg c]
      rfl
theorem style_same (a b c : Int) (l : List ByteArray) (hl : l.length ≤ 1048576) (hs : ∀ x ∈ l, x.size ≤ 1048576) :
    ∃ v : Int, Ev (fun k => spec_StyleFault k a b c l) v ∧ Ev (fun k => impl_StyleFault k a b c l) v := by
  obtain ⟨v, h1, h2, _⟩ := patterns_same l hl hs
  have e1 := fun k => spec_StyleFault.eq a b c l k
  have e2 := fun k => impl_StyleFault.eq a b c l k
  simp only [W, W1, W3] at e1 e2
  by_cases c0 : a < 1 ∨ 200 < a ∨ b < 0 ∨ a < b ∨ c < 0 ∨ 1000000 < c
  · refine ⟨1, Ev.ret fun k => ?_, Ev.ret fun k => ?_⟩
    · rw [e1]
      repeat (split; · rfl)
      omega
    · rw [e2]
      repeat (split; · rfl)
      omega
  · refine ⟨v, Ev.step (fun k => ?_) (Ev.bind h1 (Ev.now _)), Ev.step (fun k => ?_) (Ev.bind h2 (Ev.now _))⟩
    · rw [e1]
      rw [if_neg (by omega), if_neg (by omega), if_neg (by omega), if_neg (by omega), if_neg (by omega), if_neg (by omega)]
    · rw [e2]
      rw [if_neg (by omega), if_neg (by omega), if_neg (by omega), if_neg (by omega), if_neg (by omega), if_neg (by omega)]
theorem pure_FnExactStyleFault (a b d : Int) (l : List ByteArray) (ha : CT.good (.int .i64) a) (hb : CT.good (.int .i64) b) (hd : CT.good (.int .i64) d) (hl : CT.good (.row e_s) l) : ∃ k, laws_FnExactStyleFault k a b d l = some true := by
  obtain ⟨r, hr, hfit⟩ := szStrs l 1048576 (by omega) (by omega) hl.1 hl.2
  have hsz : Ev (fun k => laws_szStyle k a b d l 1048576) (if r < 0 then -1 else r) := by
    refine Ev.step (fun k => laws_szStyle.eq a b d l _ k) (Ev.opt hr ?_)
    simp only [W, W1]
    split <;> exact Ev.now _
  refine Ev.has (r := true) ?_
  refine Ev.step (fun k => laws_FnExactStyleFault.eq a b d l k) (Ev.opt hsz ?_)
  simp only [W, W1]
  by_cases c : r < 0
  · simp only [if_pos c]
    exact Ev.now _
  · simp only [if_neg c]
    obtain ⟨hl1, hs1, _⟩ := hfit (by omega)
    have hto : Ev (fun k => laws_toStyle k a b d l) (a, b, d, l) := Ev.step (fun k => laws_toStyle.eq a b d l k) (Ev.opt (toStrs l hl1) (Ev.now _))
    obtain ⟨v, h1, h2⟩ := style_same a b d l hl1 hs1
    have heq : Ev (fun k => laws_eqStyle k a b d l a b d l) true := by
      refine Ev.step (f := fun k => optB (laws_eqStringS k l l) fun r0 => brB (notB r0) (some false) (some true)) (fun k => ?_) (Ev.opt (eqStrs l hl1) (Ev.now _))
      simp only [laws_eqStyle.eq, W, W1, if_true]
    refine Ev.opt hto ?_
    refine Ev.opt h1 ?_
    refine Ev.opt hto ?_
    refine Ev.opt h2 ?_
    simp only [if_true]
    refine Ev.opt hto ?_
    refine Ev.opt heq ?_
    exact Ev.now _
end Go.Proofs.Ytopbiepiceajnaa.S
