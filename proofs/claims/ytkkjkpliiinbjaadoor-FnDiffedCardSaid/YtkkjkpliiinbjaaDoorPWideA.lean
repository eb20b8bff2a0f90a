/- The characters of a text, by both sides. -/
import Derived.Test.YtkkjkpliiinbjaaDoorPPlaceB
namespace Go.Proofs.YtkkjkpliiinbjaaDoor.DF
open Go.Eng Go.RowKit
set_option linter.unusedVariables false
set_option linter.unusedSimpArgs false
theorem items_len (t : ByteArray) : ∀ m i, (items t m i).length ≤ m := by
  intro m
  induction m with
  | zero => intro i; exact Nat.le_refl _
  | succ m ih =>
    intro i
    unfold items
    split
    · have := ih (i + wid t i)
      simp only [List.length_cons]; omega
    · exact Nat.zero_le _
theorem its_len (t : ByteArray) : (its t).length ≤ t.size := items_len t t.size 0
/-- the points of a text -/
def pts (t : ByteArray) : List Int := (its t).map (·.1)
theorem pts_len (t : ByteArray) : (pts t).length = (its t).length := List.length_map ..
theorem pts_ok (t : ByteArray) : Points (pts t) := by
  intro x hx
  obtain ⟨y, hy, rfl⟩ := List.mem_map.1 hx
  exact items_points t t.size 0 y hy
/-- the places of a text's characters, with both ends -/
def cuts (t : ByteArray) : List Int := if t.size = 0 then [] else 0 :: (cutsFrom (pts t) 0 (its t) ++ [(t.size : Int)])
theorem cutsFrom_len (l : List Int) : ∀ (x : List T_iiib) (i : Nat), (cutsFrom l i x).length ≤ x.length := by
  intro x
  induction x with
  | nil => intro i; exact Nat.le_refl _
  | cons q x ih =>
    intro i
    have := ih (i + 1)
    unfold cutsFrom
    split
    · simp only [List.length_cons]; omega
    · simp only [List.length_cons]; omega
theorem cuts_len (t : ByteArray) : (cuts t).length ≤ t.size + 2 := by
  unfold cuts
  split
  · exact Nat.zero_le _
  · have h1 := cutsFrom_len (pts t) (its t) 0
    have h2 := its_len t
    simp only [List.length_cons, List.length_append, List.length_nil]
    omega
theorem implPlaces (t : ByteArray) (ht : t.size ≤ 65536) : Ev (fun k => impl_placesOf k (its t) (t.size : Int) ((List.range (pts t).length).map (cutAt (pts t)))) (cuts t) := by
  have e := fun k => impl_placesOf.eq (its t) (t.size : Int) ((List.range (pts t).length).map (cutAt (pts t))) k
  have hl := its_len t
  unfold cuts
  by_cases c : t.size = 0
  · rw [if_pos c]
    simp only [W, W1, if_pos (show (t.size : Int) = 0 by omega)] at e
    exact Ev.ret e
  · rw [if_neg c]
    simp only [W, W1, if_neg (show ¬ (t.size : Int) = 0 by omega)] at e
    have h := (places_loop (pts t) (t.size : Int) (its t) (by omega) (pts_len t) (its t) [] [0] rfl (Nat.le_refl _)).ev
    exact Ev.step e h
theorem implCharPlaces (t : ByteArray) (ht : t.size ≤ 65536) : Ev (fun k => impl_charPlaces k t) (cuts t) := by
  have e := fun k => impl_charPlaces.eq t k
  simp only [W3] at e
  have hl := its_len t
  refine Ev.step e (Ev.bind (implRead t (by omega)) (Ev.bind (implOnly (its t) (by omega)) (Ev.bind (implCharCuts (pts t) (by rw [pts_len]; omega) (pts_ok t)) (Ev.bind (implPlaces t ht) (Ev.now _)))))
theorem specChars (t : ByteArray) (ht : t.size ≤ 65536) : Ev (fun k => spec_l07Chars k t) (cuts t) := by
  have e := fun k => spec_l07Chars.eq t k
  simp only [W3] at e
  have hl := its_len t
  refine Ev.step e (Ev.bind (specRowOf t (by omega)) ?_)
  unfold cuts
  by_cases c : t.size = 0
  · rw [if_pos c]
    have h0 : its t = [] := by
      unfold its; rw [c]; rfl
    rw [h0]
    have key : Ev2 (fun k j => spec_l07Chars_L4 k j t 0 ([] : List Int) [(t.size : Int)] []) [] := by
      have e := fun k j => spec_l07Chars_L4.eq t 0 ([] : List Int) [(t.size : Int)] [] k j
      simp only [W, W1, List.length_nil, if_neg (show ¬ (0 : Int) < ((0 : Nat) : Int) by omega), if_neg (show ¬ (0 : Int) < (t.size : Int) by omega)] at e
      exact Ev2.ret e
    exact key.ev
  · rw [if_neg c]
    have hp : 0 < t.size := by omega
    have hP := pts_ok t
    have key : Ev2 (fun k j => spec_l07Chars_L4 k j t 0 ((its t).map (·.1)) ((its t).map (·.2.1) ++ [(t.size : Int)]) []) (0 :: (cutsFrom (pts t) 0 (its t) ++ [(t.size : Int)])) := by
      have e := fun k j => spec_l07Chars_L4.eq t 0 ((its t).map (·.1)) ((its t).map (·.2.1) ++ [(t.size : Int)]) [] k j
      have hi := its_cons t hp
      have hr : rd ((its t).map (·.2.1) ++ [(t.size : Int)]) 0 0 = 0 := by rw [hi]; exact rd_mid [] _ (0 : Int) 0
      have hlen : ((its t).length : Int) = (((items t (t.size - 1) (0 + wid t 0)).length + 1 : Nat) : Int) := by rw [hi]; rfl
      have hal : ((((its t).map (·.2.1) ++ [(t.size : Int)]).length : Nat) : Int) = ((its t).length : Int) + 1 := by simp
      have hadd : addI .i64 0 1 = (1 : Int) := by rw [addI_i64 (by omega) (by omega)]; rfl
      simp only [W, W1, W2, hr, hal, hadd, List.length_map, List.length_cons, List.length_nil, List.nil_append, if_pos (show (0 : Int) < ((its t).length : Int) by omega), if_pos (Int.le_refl 0), if_pos (show (0 : Int) < ((its t).length : Int) + 1 by omega), if_pos (show (((0 : Nat) : Int) + ((0 + 1 : Nat) : Int)) * 8 < 140737488355328 by omega), if_true] at e
      refine Ev2.step e ?_
      have h := chars_loop t hp (its t) (by omega) hP (items t (t.size - 1) (0 + wid t 0)) [item t 0] [0] hi (by simp) (by simp)
      have hc : cutsFrom (pts t) 0 (its t) = cutsFrom (pts t) 1 (items t (t.size - 1) (0 + wid t 0)) := by
        rw [hi]
        rfl
      rw [hc]
      exact h
    exact key.ev
/-- rising, no two alike -/
def SRise (n : Int) : List Int → Prop
  | a :: b :: r => 0 ≤ a ∧ a < b ∧ b ≤ n ∧ SRise n (b :: r)
  | _ => True
theorem SRise.rise {n : Int} : ∀ {l : List Int}, SRise n l → Rise n l
  | [], _ => trivial
  | [_], _ => trivial
  | _ :: _ :: _, h => ⟨h.1, Int.le_of_lt h.2.1, h.2.2.1, SRise.rise h.2.2.2⟩
theorem srise_two {n a : Int} (h0 : 0 ≤ a) (h : a < n) : SRise n [a, n] := ⟨h0, h, Int.le_refl _, trivial⟩
theorem srise_cons {n a b : Int} {r : List Int} (h0 : 0 ≤ a) (h1 : a < b) (h2 : b ≤ n) (h : SRise n (b :: r)) : SRise n (a :: b :: r) := ⟨h0, h1, h2, h⟩
theorem from_rise (t : ByteArray) (l : List Int) : ∀ (m i j : Nat) (a : Int), 0 ≤ a → a < (i : Int) → i ≤ t.size → SRise (t.size : Int) (a :: (cutsFrom l j (items t m i) ++ [(t.size : Int)])) := by
  intro m
  induction m with
  | zero =>
    intro i j a h0 h1 h2
    exact srise_two h0 (by omega)
  | succ m ih =>
    intro i j a h0 h1 h2
    unfold items
    by_cases c : i < t.size
    · rw [if_pos c]
      obtain ⟨w1, w2⟩ := wid_pos t i c
      unfold cutsFrom
      split
      · exact srise_cons h0 h1 (show (i : Int) ≤ _ by omega) (ih (i + wid t i) (j + 1) (i : Int) (by omega) (by omega) w2)
      · exact ih (i + wid t i) (j + 1) a h0 (by omega) w2
    · rw [if_neg c]
      exact srise_two h0 (by omega)
theorem cuts_rise (t : ByteArray) : SRise (t.size : Int) (cuts t) := by
  unfold cuts
  by_cases c : t.size = 0
  · rw [if_pos c]; trivial
  · rw [if_neg c]
    have hp : 0 < t.size := by omega
    obtain ⟨w1, w2⟩ := wid_pos t 0 hp
    have hc : cutsFrom (pts t) 0 (its t) = cutsFrom (pts t) 1 (items t (t.size - 1) (0 + wid t 0)) := by
      rw [its_cons t hp]
      rfl
    rw [hc]
    exact from_rise t (pts t) _ _ _ 0 (Int.le_refl 0) (by omega) w2
theorem implPieces (t : ByteArray) (c : List Int) (hl : c.length ≤ 1048576) (hr : Rise (t.size : Int) c) : Ev (fun k => impl_piecesOf k t c) (pcs t c) := by
  refine Ev.step (fun k => impl_piecesOf.eq t c k) ?_
  have key : Ev2 (fun k j => impl_piecesOf_L3 k j t c 1) (pcs t c) := by
    have e := fun k j => impl_piecesOf_L3.eq t c 1 k j
    have hsub : subI .i64 1 1 = (0 : Int) := by rw [subI_i64 (by omega) (by omega)]; rfl
    have hadd : addI .i64 1 1 = (2 : Int) := by rw [addI_i64 (by omega) (by omega)]; rfl
    rcases c with _ | ⟨a, _ | ⟨b, r⟩⟩
    · simp only [W, W1, List.length_nil, if_neg (show ¬ (1 : Int) < ((0 : Nat) : Int) by omega)] at e
      exact Ev2.ret e
    · simp only [W, W1, List.length_cons, List.length_nil, if_neg (show ¬ (1 : Int) < ((0 + 1 : Nat) : Int) by omega)] at e
      exact Ev2.ret e
    · obtain ⟨h1, h2, h3, h4⟩ := hr
      have ra : rd (a :: b :: r) 0 0 = a := rd_mid [] (b :: r) a 0
      have rb : rd (a :: b :: r) 1 0 = b := rd_mid [a] r b 0
      have hlen : ((a :: b :: r).length : Int) = ((r.length + 1 + 1 : Nat) : Int) := rfl
      simp only [W, W1, W2, hsub, hadd, ra, rb, hlen, List.length_cons, List.length_nil, if_pos (show (1 : Int) < ((r.length + 1 + 1 : Nat) : Int) by omega), if_pos (show (0 : Int) < ((r.length + 1 + 1 : Nat) : Int) by omega), if_pos (Int.le_refl 0), if_pos (show (0 : Int) ≤ 1 by omega), if_pos h1, if_pos h2, if_pos h3, if_pos (show (((0 : Nat) : Int) + ((0 + 1 : Nat) : Int)) * 16 < 140737488355328 by omega), List.nil_append] at e
      have h := implPieces_loop t (a :: b :: r) hl r [a] b [t.extract a.toNat b.toNat] rfl (Nat.le_refl _) h4
      exact Ev2.step e h
  exact key.ev
/-- the characters of a text -/
def chs (t : ByteArray) : List ByteArray := pcs t (cuts t)
theorem implChars (t : ByteArray) (ht : t.size ≤ 65536) : Ev (fun k => impl_chars k t) (chs t) := by
  have e := fun k => impl_chars.eq t k
  simp only [W3] at e
  have hl := cuts_len t
  exact Ev.step e (Ev.bind (implCharPlaces t ht) (Ev.bind (implPieces t (cuts t) (by omega) (cuts_rise t).rise) (Ev.now _)))
theorem pcs_ok (t : ByteArray) (ht : t.size ≤ 65536) : ∀ c : List Int, SRise (t.size : Int) c → ∀ s ∈ pcs t c, 0 < s.size ∧ s.size ≤ 65536
  | [], _, s, hs => by cases hs
  | [_], _, s, hs => by cases hs
  | a :: b :: r, h, s, hs => by
    obtain ⟨h1, h2, h3, h4⟩ := h
    rcases List.mem_cons.1 hs with rfl | hs
    · rw [ByteArray.size_extract]
      constructor <;> omega
    · exact pcs_ok t ht (b :: r) h4 s hs
theorem pcs_len (t : ByteArray) : ∀ c : List Int, (pcs t c).length ≤ c.length
  | [] => Nat.le_refl _
  | [_] => Nat.zero_le _
  | a :: b :: r => by
    have := pcs_len t (b :: r)
    simp only [pcs, List.length_cons] at this ⊢
    omega
theorem chs_ok (t : ByteArray) (ht : t.size ≤ 65536) : (chs t).length ≤ 65538 ∧ ∀ s ∈ chs t, 0 < s.size ∧ s.size ≤ 65536 := by
  refine ⟨?_, pcs_ok t ht _ (cuts_rise t)⟩
  have h1 := pcs_len t (cuts t)
  have h2 := cuts_len t
  unfold chs
  omega
end Go.Proofs.YtkkjkpliiinbjaaDoor.DF
