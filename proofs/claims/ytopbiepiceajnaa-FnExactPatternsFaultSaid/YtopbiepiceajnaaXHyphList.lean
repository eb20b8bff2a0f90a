/-
  Lists of strings, plainly: sizes, copies and comparisons; what the program and the reference find wrong with a list of patterns.
-/
import Derived.Test.YtopbiepiceajnaaHx1
import Derived.Test.YtopbiepiceajnaaHx2
import Derived.Test.YtopbiepiceajnaaHx4
import Derived.Test.YtopbiepiceajnaaXPre
import Derived.Test.YtopbiepiceajnaaXHyph
namespace Go.Proofs.Ytopbiepiceajnaa.XHyph
open Go.RowKit Go.Proofs.Ytopbiepiceajnaa.H Go.Proofs.YtopbiepiceajnaaW.PrintWords Go.Proofs.Ytopbiepiceajnaa.XPre
set_option linter.unusedVariables false
set_option linter.unusedSimpArgs false

theorem rdStr (l pre suf : List ByteArray) (x : ByteArray) (h : l = pre ++ x :: suf) : rdOf ByteArray.empty l (pre.length : Int) = x := by unfold rdOf; rw [h]; exact getD_mid _ _ _ _
theorem szStrs_loop (l : List ByteArray) (hl : l.length ≤ 1048576) : ∀ (suf pre : List ByteArray) (a : Int), l = pre ++ suf → 0 ≤ a → a ≤ 1048576 → (∀ x ∈ suf, x.size ≤ maxLen) →
    ∃ r, Ev (fun k => laws_szStringS.l0 k l a (pre.length : Int)) r ∧ (0 ≤ r → ∀ x ∈ suf, x.size ≤ 1048576) := by
  intro suf
  induction suf with
  | nil =>
    intro pre a hlp h0 h1 hs
    subst hlp
    refine ⟨a, Ev.ret fun k => ?_, fun _ x hx => by cases hx⟩
    simp only [laws_szStringS.l0]
    rw [if_neg (by simp)]
  | cons x suf ih =>
    intro pre a hlp h0 h1 hs
    have hle : pre.length + 1 ≤ l.length := by rw [hlp, List.length_append, List.length_cons]; omega
    have hx := hs x (by simp)
    simp only [maxLen] at hx
    have hr := rdStr l pre suf x hlp
    have hw : wrap64 (a - (x.size : Int)) = a - (x.size : Int) := w64 (by omega) (by omega)
    by_cases c : a - (x.size : Int) < 0
    · refine ⟨-1, Ev.ret fun k => ?_, by omega⟩
      simp only [laws_szStringS.l0, hr, hw]
      rw [if_pos (by omega), if_pos (by omega), if_pos c]
    · obtain ⟨r, h2, h3⟩ := ih (pre ++ [x]) (a - (x.size : Int)) (by rw [hlp]; simp) (by omega) (by omega) (fun y hy => hs y (by simp [hy]))
      refine ⟨r, Ev.step (fun k => ?_) h2, fun h y hy => ?_⟩
      · simp only [laws_szStringS.l0, hr, hw]
        rw [if_pos (by omega), if_pos (by omega), if_neg c, w64 (by omega) (by omega), len_snoc pre x]
      · rcases List.mem_cons.1 hy with rfl | hy
        · omega
        · exact h3 h y hy
theorem szStrs (l : List ByteArray) (hl : l.length ≤ maxLen) (hs : ∀ x ∈ l, x.size ≤ maxLen) :
    ∃ r, Ev (fun k => laws_szStringS.f k l 1048576) r ∧ (0 ≤ r → l.length ≤ 1048576 ∧ ∀ x ∈ l, x.size ≤ 1048576) := by
  simp only [maxLen] at hl
  have hw : wrap64 (1048576 - (l.length : Int)) = 1048576 - (l.length : Int) := w64 (by omega) (by omega)
  unfold laws_szStringS.f
  by_cases c : 1048576 - (l.length : Int) < 0
  · refine ⟨-1, ?_, by omega⟩
    simp only [hw, if_pos c]
    exact Ev.now _
  · obtain ⟨r, h1, h2⟩ := szStrs_loop l (by omega) l [] (1048576 - (l.length : Int)) rfl (by omega) (by omega) hs
    refine ⟨r, ?_, fun h => ⟨by omega, h2 h⟩⟩
    simp only [hw, if_neg c]
    exact h1
theorem toStrs_loop (l : List ByteArray) (hl : l.length ≤ 1048576) : ∀ (suf pre : List ByteArray), l = pre ++ suf →
    Ev (fun k => laws_toStringS.l0 k l (pre ++ List.replicate suf.length (⟨#[]⟩ : ByteArray)) (pre.length : Int)) l := by
  intro suf
  induction suf with
  | nil =>
    intro pre hlp
    subst hlp
    refine Ev.ret fun k => ?_
    simp only [laws_toStringS.l0]
    rw [if_neg (by simp)]
    simp
  | cons x suf ih =>
    intro pre hlp
    have hle : pre.length + 1 ≤ l.length := by rw [hlp, List.length_append, List.length_cons]; omega
    have hr := rdStr l pre suf x hlp
    refine Ev.step (fun k => ?_) (ih (pre ++ [x]) (by rw [hlp]; simp))
    simp only [laws_toStringS.l0, hr]
    rw [if_pos (by omega), if_pos (by omega), if_pos (by simp; omega), w64 (by omega) (by omega), len_snoc pre x]
    congr 1
    simp only [List.length_cons, List.replicate_succ]
    exact set_mid pre _ _ x
theorem toStrs (l : List ByteArray) (hl : l.length ≤ 1048576) : Ev (fun k => laws_toStringS.f k l) l := by
  have h := toStrs_loop l hl l [] rfl
  refine Ev.congr (fun k => ?_) h
  unfold laws_toStringS.f
  rw [if_pos (by omega), if_pos (by simp; omega)]
  rfl
theorem eqStrs_loop (l : List ByteArray) (hl : l.length ≤ 1048576) : ∀ (suf pre : List ByteArray), l = pre ++ suf → Ev (fun k => laws_eqStringS.l0 k l l (pre.length : Int)) true := by
  intro suf
  induction suf with
  | nil =>
    intro pre hlp
    subst hlp
    refine Ev.ret fun k => ?_
    simp only [laws_eqStringS.l0]
    rw [if_neg (by simp)]
  | cons x suf ih =>
    intro pre hlp
    have hle : pre.length + 1 ≤ l.length := by rw [hlp, List.length_append, List.length_cons]; omega
    refine Ev.step (fun k => ?_) (ih (pre ++ [x]) (by rw [hlp]; simp))
    simp only [laws_eqStringS.l0]
    rw [if_pos (by omega), if_pos (by omega), if_pos (by omega), if_pos True.intro, w64 (by omega) (by omega), len_snoc pre x]
theorem eqStrs (l : List ByteArray) (hl : l.length ≤ 1048576) : Ev (fun k => laws_eqStringS.f k l l) true := by
  unfold laws_eqStringS.f
  simp only [if_true]
  exact eqStrs_loop l hl l [] rfl
/-- What a list of patterns gets, from a place on. -/
def pfault (l : List ByteArray) : Nat → Nat → Int
  | 0, _ => 0
  | m + 1, i => if (pat (rdOf ByteArray.empty l (i : Int))).2.2 = true then (if 0 < i then (if Op.bytesLess ((rdOf ByteArray.empty l ((i : Int) - 1)).toList) ((rdOf ByteArray.empty l (i : Int)).toList) = true then pfault l m (i + 1) else 1) else pfault l m (i + 1)) else 1
theorem size_at (l : List ByteArray) (hs : ∀ x ∈ l, x.size ≤ 1048576) (i : Nat) (h : i < l.length) : (rdOf ByteArray.empty l (i : Int)).size ≤ 1048576 := by
  unfold rdOf
  rw [List.getD_eq_getElem?_getD, Int.toNat_natCast, List.getElem?_eq_getElem h]
  exact hs _ (List.getElem_mem h)
theorem specP_loop (l : List ByteArray) (hl : l.length ≤ 1048576) (hs : ∀ x ∈ l, x.size ≤ 1048576) : ∀ m i : Nat, i + m = l.length → Ev (fun k => spec_PatternsFault.l0 k l (i : Int)) (pfault l m i) := by
  intro m
  induction m with
  | zero =>
    intro i hi
    refine Ev.ret fun k => ?_
    simp only [spec_PatternsFault.l0]
    rw [if_neg (by omega)]
    rfl
  | succ m ih =>
    intro i hi
    have hp := specPat_ev (rdOf ByteArray.empty l (i : Int)) (size_at l hs i (by omega))
    have hn := ih (i + 1) (by omega)
    have hw : wrap64 ((i : Int) + 1) = ((i + 1 : Nat) : Int) := by rw [w64 (by omega) (by omega)]; omega
    refine Ev.step (fun k => by simp only [spec_PatternsFault.l0, hw]; rw [if_pos (by omega), if_pos (by omega)]) ?_
    refine Ev.bind hp ?_
    simp only [pfault]
    by_cases c : (pat (rdOf ByteArray.empty l (i : Int))).2.2 = true
    · simp only [if_pos c]
      by_cases c2 : 0 < i
      · have hw2 : wrap64 ((i : Int) - 1) = (i : Int) - 1 := w64 (by omega) (by omega)
        have c3 : (i : Int) > 0 := by omega
        have c4 : (0 : Int) ≤ (i : Int) - 1 := by omega
        have c5 : (i : Int) - 1 < (l.length : Int) := by omega
        simp only [if_pos c2, if_pos c3, hw2, if_pos c4, if_pos c5]
        by_cases c6 : Op.bytesLess ((rdOf ByteArray.empty l ((i : Int) - 1)).toList) ((rdOf ByteArray.empty l (i : Int)).toList) = true
        · simp only [if_pos c6]; exact hn
        · simp only [if_neg c6]; exact Ev.now _
      · have c3 : ¬ (i : Int) > 0 := by omega
        simp only [if_neg c2, if_neg c3]
        exact hn
    · simp only [if_neg c]
      exact Ev.now _
theorem implP_loop (l : List ByteArray) (hl : l.length ≤ 1048576) (hs : ∀ x ∈ l, x.size ≤ 1048576) : ∀ m i : Nat, i + m = l.length → Ev (fun k => impl_PatternsFault.l0 k l l (l.length : Int) (i : Int)) (pfault l m i) := by
  intro m
  induction m with
  | zero =>
    intro i hi
    refine Ev.ret fun k => ?_
    simp only [impl_PatternsFault.l0]
    rw [if_neg (by omega)]
    rfl
  | succ m ih =>
    intro i hi
    obtain ⟨v, hp, hv, _⟩ := implPat_ev (rdOf ByteArray.empty l (i : Int)) (size_at l hs i (by omega))
    have hn := ih (i + 1) (by omega)
    have hw : wrap64 ((i : Int) + 1) = ((i + 1 : Nat) : Int) := by rw [w64 (by omega) (by omega)]; omega
    refine Ev.step (fun k => by simp only [impl_PatternsFault.l0, hw]; rw [if_pos (by omega), if_pos (by omega), if_pos (by omega)]) ?_
    refine Ev.bind hp ?_
    simp only [pfault, hv]
    by_cases c : (pat (rdOf ByteArray.empty l (i : Int))).2.2 = true
    · simp only [if_pos c]
      by_cases c2 : 0 < i
      · have hw2 : wrap64 ((i : Int) - 1) = (i : Int) - 1 := w64 (by omega) (by omega)
        have c3 : (i : Int) > 0 := by omega
        have c4 : (0 : Int) ≤ (i : Int) - 1 := by omega
        have c5 : (i : Int) - 1 < (l.length : Int) := by omega
        simp only [if_pos c2, if_pos c3, hw2, if_pos c4, if_pos c5]
        by_cases c6 : Op.bytesLess ((rdOf ByteArray.empty l ((i : Int) - 1)).toList) ((rdOf ByteArray.empty l (i : Int)).toList) = true
        · simp only [if_pos c6]; exact hn
        · simp only [if_neg c6]; exact Ev.now _
      · have c3 : ¬ (i : Int) > 0 := by omega
        simp only [if_neg c2, if_neg c3]
        exact hn
    · simp only [if_neg c]
      exact Ev.now _
theorem patterns_same (l : List ByteArray) (hl : l.length ≤ 1048576) (hs : ∀ x ∈ l, x.size ≤ 1048576) : ∃ v, Ev (fun k => spec_PatternsFault.f k l) v ∧ Ev (fun k => impl_PatternsFault.f k l) v := by
  unfold spec_PatternsFault.f impl_PatternsFault.f
  by_cases c : (l.length : Int) > 1000
  · refine ⟨1, ?_, ?_⟩
    · simp only [if_pos c]; exact Ev.now _
    · simp only [if_pos c]; exact Ev.now _
  · refine ⟨pfault l l.length 0, ?_, ?_⟩
    · simp only [if_neg c]; exact specP_loop l hl hs l.length 0 (by omega)
    · simp only [if_neg c]; exact implP_loop l hl hs l.length 0 (by omega)
end Go.Proofs.Ytopbiepiceajnaa.XHyph
