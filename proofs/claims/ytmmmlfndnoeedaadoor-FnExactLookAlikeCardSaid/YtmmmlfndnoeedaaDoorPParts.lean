/- Parts of points, classes of marks, pairs: the program and the reference tell the same. -/
import Derived.Test.YtmmmlfndnoeedaaDoorQIX0
import Derived.Test.YtmmmlfndnoeedaaDoorEG
namespace Go.Proofs.YtmmmlfndnoeedaaDoor.IX
open Go.Eng Go.RowKit
set_option linter.unusedVariables false
set_option linter.unusedSimpArgs false
theorem quo_nat (a b : Nat) (h : a ≤ 1099511627776) : quoI .i64 (a : Int) (b : Int) = ((a / b : Nat) : Int) := by
  rw [quoI_eq, show (a : Int).tdiv (b : Int) = ((a / b : Nat) : Int) from rfl]
  have : a / b ≤ a := Nat.div_le_self a b
  generalize a / b = c at *
  exact wrap_i64 (by omega) (by omega)
theorem rem_nat (a b : Nat) : remI (a : Int) (b : Int) = ((a % b : Nat) : Int) := by
  rw [remI_eq]; rfl
theorem sub_nat (a b : Nat) (h : b ≤ a) (ha : a ≤ 1099511627776) : subI .i64 (a : Int) (b : Int) = ((a - b : Nat) : Int) := by
  rw [subI_i64 (by omega) (by omega)]; omega
theorem add_nat (a b : Nat) (ha : a ≤ 1099511627776) (hb : b ≤ 1099511627776) : addI .i64 (a : Int) (b : Int) = ((a + b : Nat) : Int) := by
  rw [addI_i64 (by omega) (by omega)]; omega
theorem mul_nat (a b : Nat) (h : a * b ≤ 1099511627776) : mulI .i64 (a : Int) (b : Int) = ((a * b : Nat) : Int) := by
  have e : (a : Int) * (b : Int) = ((a * b : Nat) : Int) := by simp
  rw [mulI_i64 (by rw [e]; omega) (by rw [e]; omega), e]
theorem clit (n : Nat) : ((no_index (OfNat.ofNat n) : Nat) : Int) = OfNat.ofNat n := rfl
theorem in_dec (p a b : Int) : Ev (fun k => impl_in k p a b) (decide (a ≤ p ∧ p ≤ b)) := by
  refine Ev.ret fun k => ?_
  rw [impl_in.eq]
  simp only [W, W1]
  by_cases c1 : a ≤ p
  · by_cases c2 : p ≤ b
    · simp [c1, c2]
    · simp [c1, c2]
  · simp [c1]
/-! ### classes of marks -/
def mcl (p : Int) : Int := if p = 1584 then 9 else if p = 1585 then 7 else if p < 4096 ∨ 4159 < p then 0 else if p < 4112 then 230 else if p < 4128 then 220 else if p < 4136 then 202 else if p < 4144 then 1 else if p < 4152 then 232 else 0
theorem mcl_nn (p : Int) : 0 ≤ mcl p ∧ mcl p ≤ 232 := by
  unfold mcl
  repeat' split
  all_goals omega
theorem implClass (p : Int) : Ev (fun k => impl_MarkClass k p) (mcl p) := by
  have e := fun k => impl_MarkClass.eq p k
  simp only [W, W1, W3] at e
  unfold mcl
  by_cases c1 : p = 1584
  · simp only [if_pos c1] at e ⊢; exact Ev.ret e
  by_cases c2 : p = 1585
  · simp only [if_neg c1, if_pos c2] at e ⊢; exact Ev.ret e
  simp only [if_neg c1, if_neg c2] at e ⊢
  refine Ev.step e (Ev.bind (in_dec p 4096 4159) ?_)
  by_cases c3 : 4096 ≤ p ∧ p ≤ 4159
  · rw [if_neg (show ¬ (p < 4096 ∨ 4159 < p) by omega)]
    simp only [decide_eq_true c3, W1]
    refine Ev.of fun k => ?_
    repeat' split
    all_goals first | (exfalso; omega) | rfl
  · rw [if_pos (show p < 4096 ∨ 4159 < p by omega)]
    simp only [decide_eq_false c3, W1]
    exact Ev.now _
theorem specClass (p : Int) (h0 : 0 ≤ p) (h1 : p ≤ 1114111) : Ev (fun k => spec_l01Class k p) (mcl p) := by
  refine Ev.ret fun k => ?_
  rw [spec_l01Class.eq]
  simp only [W, W1, subI_i64 (show (-9223372036854775808 : Int) ≤ p - 4096 by omega) (by omega)]
  unfold mcl
  repeat' split
  all_goals first | (exfalso; omega) | rfl
/-! ### parts -/
def ltr (n : Nat) : Int := if n < 26 then ((65 + n : Nat) : Int) else ((71 + n : Nat) : Int)
theorem implLetter (n : Nat) (h : n ≤ 1000) : Ev (fun k => impl_letter k (n : Int)) (ltr n) := by
  refine Ev.ret fun k => ?_
  rw [impl_letter.eq]
  have e1 := add_nat 65 n (by omega) (by omega)
  have e2 := add_nat 97 n (by omega) (by omega)
  have e3 := sub_nat (97 + n) 26 (by omega) (by omega)
  simp only [clit] at e1 e2 e3
  unfold ltr
  by_cases c : n < 26
  · simp only [W, W1, if_pos (show (n : Int) < 26 by omega), if_pos c]; rw [e1]
  · simp only [W, W1, if_neg (show ¬ (n : Int) < 26 by omega), if_neg c]
    rw [e2, e3]
    congr 2
    omega
theorem specLetter (n : Nat) (h : n ≤ 1000) : Ev (fun k => spec_l05Letter k (n : Int)) (ltr n) := by
  refine Ev.ret fun k => ?_
  rw [spec_l05Letter.eq]
  have e1 := add_nat 65 n (by omega) (by omega)
  have e2 := add_nat 97 n (by omega) (by omega)
  have e3 := sub_nat (97 + n) 26 (by omega) (by omega)
  simp only [clit] at e1 e2 e3
  unfold ltr
  by_cases c : n < 26
  · simp only [W, W1, if_pos (show (n : Int) < 26 by omega), if_pos c]; rw [e1]
  · simp only [W, W1, if_neg (show ¬ (n : Int) < 26 by omega), if_neg c]
    rw [e2, e3]
    congr 2
    omega
/-- the parts with K alone -/
def wd (p : Nat) : List Int :=
  if 9984 ≤ p ∧ p ≤ 10009 then [((p - 9919 : Nat) : Int)]
  else if 10016 ≤ p ∧ p ≤ 10025 then [((p - 9968 : Nat) : Int)]
  else if p = 8064 ∨ p = 160 then [32]
  else if p = 10032 then [102, 102]
  else if p = 10033 then [102, 105]
  else if p = 10034 then [102, 108]
  else if p = 10035 then [115, 116]
  else []
def prt (k : Bool) (p : Nat) : List Int :=
  if (8192 ≤ p ∧ p ≤ 9631) ∧ (p - 8192) % 512 < 416 then
    (if (p - 8192) / 512 = 0 then [ltr ((p - 8192) % 512 / 8), ((4096 + (p - 8192) % 512 % 8 : Nat) : Int)]
     else if (p - 8192) / 512 = 1 then [ltr ((p - 8192) % 512 / 8), ((4112 + (p - 8192) % 512 % 8 : Nat) : Int)]
     else [((8704 + (p - 8192) % 512 : Nat) : Int), 4096])
  else if 9728 ≤ p ∧ p ≤ 9753 then [((p - 9663 : Nat) : Int)]
  else if 12288 ≤ p ∧ p ≤ 23459 then
    (if 0 < (p - 12288) % 28 then [((p - (p - 12288) % 28 : Nat) : Int), ((1856 + (p - 12288) % 28 : Nat) : Int)]
     else [((1792 + (p - 12288) / 28 / 21 : Nat) : Int), ((1824 + (p - 12288) / 28 % 21 : Nat) : Int)])
  else if k = false then []
  else wd p
section
variable (n : Nat) (hn : n ≤ 1114111) (k : Bool)
theorem prt_a (h : (8192 ≤ n ∧ n ≤ 9631) ∧ (n - 8192) % 512 < 416) : prt k n = (if (n - 8192) / 512 = 0 then [ltr ((n - 8192) % 512 / 8), ((4096 + (n - 8192) % 512 % 8 : Nat) : Int)]
     else if (n - 8192) / 512 = 1 then [ltr ((n - 8192) % 512 / 8), ((4112 + (n - 8192) % 512 % 8 : Nat) : Int)]
     else [((8704 + (n - 8192) % 512 : Nat) : Int), 4096]) := if_pos h
include hn in
theorem implA (h : (8192 ≤ n ∧ n ≤ 9631) ∧ (n - 8192) % 512 < 416) : Ev (fun f => impl_parts_J2 f (n : Int) k true) (prt k n, false) := by
  have e := fun f => impl_parts_J2.eq (n : Int) k true f
  have h1 := sub_nat n 8192 (by omega) (by omega)
  have h2 := rem_nat (n - 8192) 512
  have h3 := quo_nat (n - 8192) 512 (by omega)
  have h4 := quo_nat ((n - 8192) % 512) 8 (by omega)
  have h5 := rem_nat ((n - 8192) % 512) 8
  have h6 := add_nat 4096 ((n - 8192) % 512 % 8) (by omega) (by omega)
  have h7 := add_nat 4112 ((n - 8192) % 512 % 8) (by omega) (by omega)
  have h8 := add_nat 8704 ((n - 8192) % 512) (by omega) (by omega)
  simp only [clit] at h1 h2 h3 h4 h5 h6 h7 h8
  simp only [W, W1, W3, h1, h2, h3, h4, h5, h6, h7, h8, if_neg (show ¬ (512 : Int) = 0 by omega), if_neg (show ¬ (8 : Int) = 0 by omega)] at e
  rw [prt_a n k h]
  refine Ev.congr e ?_
  by_cases c1 : (n - 8192) / 512 = 0
  · simp only [if_pos c1, if_pos (show (((n - 8192) / 512 : Nat) : Int) = 0 by omega)]
    exact Ev.bind (implLetter _ (by omega)) (Ev.now _)
  by_cases c2 : (n - 8192) / 512 = 1
  · simp only [if_neg c1, if_pos c2, if_neg (show ¬ (((n - 8192) / 512 : Nat) : Int) = 0 by omega), if_pos (show (((n - 8192) / 512 : Nat) : Int) = 1 by omega)]
    exact Ev.bind (implLetter _ (by omega)) (Ev.now _)
  · simp only [if_neg c1, if_neg c2, if_neg (show ¬ (((n - 8192) / 512 : Nat) : Int) = 0 by omega), if_neg (show ¬ (((n - 8192) / 512 : Nat) : Int) = 1 by omega)]
    exact Ev.now _
include hn in
theorem implB (h : ¬ ((8192 ≤ n ∧ n ≤ 9631) ∧ (n - 8192) % 512 < 416)) : Ev (fun f => impl_parts_J2 f (n : Int) k false) (prt k n, decide (prt k n = [])) := by
  have e := fun f => impl_parts_J2.eq (n : Int) k false f
  simp only [W, W1, W3] at e
  unfold prt
  rw [if_neg h]
  refine Ev.congr e (Ev.bind (in_dec _ 9728 9753) ?_)
  by_cases c1 : 9728 ≤ n ∧ n ≤ 9753
  · have h1 := add_nat 65 n (by omega) (by omega)
    have h2 := sub_nat (65 + n) 9728 (by omega) (by omega)
    simp only [clit] at h1 h2
    simp only [decide_eq_true (show 9728 ≤ (n : Int) ∧ (n : Int) ≤ 9753 by omega), W1, if_pos c1, h1, h2]
    rw [show 65 + n - 9728 = n - 9663 by omega]
    exact Ev.now _
  simp only [decide_eq_false (show ¬ (9728 ≤ (n : Int) ∧ (n : Int) ≤ 9753) by omega), W1, if_neg c1]
  refine Ev.bind (in_dec _ 12288 23459) ?_
  by_cases c2 : 12288 ≤ n ∧ n ≤ 23459
  · have h1 := sub_nat n 12288 (by omega) (by omega)
    have h2 := rem_nat (n - 12288) 28
    have h3 := quo_nat (n - 12288) 28 (by omega)
    have h4 := sub_nat n ((n - 12288) % 28) (by omega) (by omega)
    have h5 := add_nat 1856 ((n - 12288) % 28) (by omega) (by omega)
    have h6 := quo_nat ((n - 12288) / 28) 21 (by omega)
    have h7 := rem_nat ((n - 12288) / 28) 21
    have h8 := add_nat 1792 ((n - 12288) / 28 / 21) (by omega) (by omega)
    have h9 := add_nat 1824 ((n - 12288) / 28 % 21) (by omega) (by omega)
    simp only [clit] at h1 h2 h3 h4 h5 h6 h7 h8 h9
    simp only [decide_eq_true (show 12288 ≤ (n : Int) ∧ (n : Int) ≤ 23459 by omega), W1, if_pos c2, h1, h2, h3, h4, h5, h6, h7, h8, h9, if_neg (show ¬ (28 : Int) = 0 by omega), if_neg (show ¬ (21 : Int) = 0 by omega)]
    by_cases c3 : 0 < (n - 12288) % 28
    · simp only [if_pos c3, if_pos (show (0 : Int) < (((n - 12288) % 28 : Nat) : Int) by omega)]
      exact Ev.now _
    · simp only [if_neg c3, if_neg (show ¬ (0 : Int) < (((n - 12288) % 28 : Nat) : Int) by omega)]
      exact Ev.now _
  simp only [decide_eq_false (show ¬ (12288 ≤ (n : Int) ∧ (n : Int) ≤ 23459) by omega), W1, if_neg c2]
  cases k with
  | false =>
    simp only [W1, Bool.not_false, if_true]
    exact Ev.now _
  | true =>
    simp only [W1, Bool.not_true, Bool.true_eq_false, if_false]
    unfold wd
    refine Ev.bind (in_dec _ 9984 10009) ?_
    by_cases c3 : 9984 ≤ n ∧ n ≤ 10009
    · have h1 := add_nat 65 n (by omega) (by omega)
      have h2 := sub_nat (65 + n) 9984 (by omega) (by omega)
      simp only [clit] at h1 h2
      simp only [decide_eq_true (show 9984 ≤ (n : Int) ∧ (n : Int) ≤ 10009 by omega), W1, if_pos c3, h1, h2]
      rw [show 65 + n - 9984 = n - 9919 by omega]
      exact Ev.now _
    simp only [decide_eq_false (show ¬ (9984 ≤ (n : Int) ∧ (n : Int) ≤ 10009) by omega), W1, if_neg c3]
    refine Ev.bind (in_dec _ 10016 10025) ?_
    by_cases c4 : 10016 ≤ n ∧ n ≤ 10025
    · have h1 := add_nat 48 n (by omega) (by omega)
      have h2 := sub_nat (48 + n) 10016 (by omega) (by omega)
      simp only [clit] at h1 h2
      simp only [decide_eq_true (show 10016 ≤ (n : Int) ∧ (n : Int) ≤ 10025 by omega), W1, if_pos c4, h1, h2]
      rw [show 48 + n - 10016 = n - 9968 by omega]
      exact Ev.now _
    simp only [decide_eq_false (show ¬ (10016 ≤ (n : Int) ∧ (n : Int) ≤ 10025) by omega), W1, if_neg c4]
    by_cases c5 : n = 8064 ∨ n = 160
    · simp only [if_pos c5]
      rcases c5 with c5 | c5
      · simp only [if_pos (show (n : Int) = 8064 by omega)]; exact Ev.now _
      · simp only [if_neg (show ¬ (n : Int) = 8064 by omega), if_pos (show (n : Int) = 160 by omega)]; exact Ev.now _
    simp only [if_neg c5, if_neg (show ¬ (n : Int) = 8064 by omega), if_neg (show ¬ (n : Int) = 160 by omega)]
    refine Ev.bind (in_dec _ 10032 10035) ?_
    by_cases c6 : 10032 ≤ n ∧ n ≤ 10035
    · have h1 := sub_nat n 10032 (by omega) (by omega)
      simp only [clit] at h1
      simp only [decide_eq_true (show 10032 ≤ (n : Int) ∧ (n : Int) ≤ 10035 by omega), W1, h1, if_pos (nat_ge _), if_pos (show ((n - 10032 : Nat) : Int) < 4 by omega)]
      have : n = 10032 ∨ n = 10033 ∨ n = 10034 ∨ n = 10035 := by omega
      rcases this with c | c | c | c <;> subst c <;> exact Ev.now _
    · simp only [decide_eq_false (show ¬ (10032 ≤ (n : Int) ∧ (n : Int) ≤ 10035) by omega), W1, if_neg (show ¬ n = 10032 by omega), if_neg (show ¬ n = 10033 by omega), if_neg (show ¬ n = 10034 by omega), if_neg (show ¬ n = 10035 by omega)]
      exact Ev.now _
include hn in
theorem implParts : Ev (fun f => impl_parts f (n : Int) k) (prt k n, decide (prt k n = [])) := by
  have e := fun f => impl_parts.eq (n : Int) k f
  simp only [W, W1, W3, if_neg (show ¬ (512 : Int) = 0 by omega)] at e
  refine Ev.step e (Ev.bind (in_dec _ 8192 9631) ?_)
  by_cases c1 : 8192 ≤ n ∧ n ≤ 9631
  · have h1 := sub_nat n 8192 (by omega) (by omega)
    have h2 := rem_nat (n - 8192) 512
    simp only [clit] at h1 h2
    simp only [decide_eq_true (show 8192 ≤ (n : Int) ∧ (n : Int) ≤ 9631 by omega), W1, h1, h2]
    by_cases c2 : (n - 8192) % 512 < 416
    · simp only [decide_eq_true (show (((n - 8192) % 512 : Nat) : Int) < 416 by omega)]
      rw [show decide (prt k n = []) = false by
        rw [prt_a n k ⟨c1, c2⟩]
        repeat' split
        all_goals simp]
      exact implA n hn k ⟨c1, c2⟩
    · simp only [decide_eq_false (show ¬ (((n - 8192) % 512 : Nat) : Int) < 416 by omega)]
      exact implB n hn k fun h => c2 h.2
  · simp only [decide_eq_false (show ¬ (8192 ≤ (n : Int) ∧ (n : Int) ≤ 9631) by omega), W1]
    exact implB n hn k fun h => c1 h.1
/-! ### the reference -/
include hn in
theorem specWideJ (x : Bool) (hx : (x = true ∧ 9984 ≤ n ∧ n ≤ 10009) ∨ (x = false ∧ ¬ (9984 ≤ n ∧ n ≤ 10009))) : Ev (fun f => spec_l05Wide_J2 f (n : Int) x) (wd n) := by
  have e := fun f => spec_l05Wide_J2.eq (n : Int) x f
  unfold wd
  rcases hx with ⟨rfl, hx⟩ | ⟨rfl, hx⟩
  · have h1 := sub_nat n 9984 (by omega) (by omega)
    have h2 := add_nat (n - 9984) 65 (by omega) (by omega)
    simp only [clit] at h1 h2
    simp only [W, W1, h1, h2] at e
    rw [if_pos hx]
    refine Ev.congr e ?_
    rw [show n - 9984 + 65 = n - 9919 by omega]
    exact Ev.now _
  · simp only [W, W1] at e
    rw [if_neg hx]
    refine Ev.congr e ?_
    by_cases c1 : 10016 ≤ n ∧ n ≤ 10025
    · have h1 := sub_nat n 10016 (by omega) (by omega)
      have h2 := add_nat (n - 10016) 48 (by omega) (by omega)
      simp only [clit] at h1 h2
      simp only [if_pos c1, if_pos (show 10016 ≤ (n : Int) by omega), if_pos (show (n : Int) ≤ 10025 by omega), h1, h2]
      rw [show n - 10016 + 48 = n - 9968 by omega]
      exact Ev.now _
    · by_cases c2 : n = 8064 ∨ n = 160
      · have : Ev (fun f : Nat => (some [(32 : Int)] : Option (List Int))) [32] := Ev.now _
        rcases c2 with c2 | c2 <;> subst c2 <;> exact this
      · by_cases c3 : 10032 ≤ n ∧ n ≤ 10035
        · have : n = 10032 ∨ n = 10033 ∨ n = 10034 ∨ n = 10035 := by omega
          have h1 := sub_nat n 10032 (by omega) (by omega)
          have h2 := mul_nat 2 (n - 10032) (by omega)
          have h3 := add_nat (2 * (n - 10032)) 2 (by omega) (by omega)
          simp only [clit] at h1 h2 h3
          simp only [if_neg c1, if_neg c2, if_pos (show 10016 ≤ (n : Int) by omega), if_neg (show ¬ (n : Int) ≤ 10025 by omega), if_neg (show ¬ (n : Int) = 8064 by omega), if_neg (show ¬ (n : Int) = 160 by omega), if_pos (show 10032 ≤ (n : Int) by omega), if_pos (show (n : Int) ≤ 10035 by omega), h1, h2, h3, wrI_eq]
          rcases this with c | c | c | c <;> subst c <;> exact Ev.of fun _ => by decide +kernel
        · simp only [if_neg c1, if_neg c2, if_neg (show ¬ n = 10032 by omega), if_neg (show ¬ n = 10033 by omega), if_neg (show ¬ n = 10034 by omega), if_neg (show ¬ n = 10035 by omega), if_neg (show ¬ (n : Int) = 8064 by omega), if_neg (show ¬ (n : Int) = 160 by omega)]
          refine Ev.of fun _ => ?_
          by_cases d1 : 10016 ≤ (n : Int)
          · simp only [if_pos d1, if_neg (show ¬ (n : Int) ≤ 10025 by omega)]
            by_cases d2 : 10032 ≤ (n : Int)
            · simp only [if_pos d2, if_neg (show ¬ (n : Int) ≤ 10035 by omega)]
            · simp only [if_neg d2]
          · simp only [if_neg d1, if_neg (show ¬ 10032 ≤ (n : Int) by omega)]
include hn in
theorem specWide : Ev (fun f => spec_l05Wide f (n : Int)) (wd n) := by
  have e := fun f => spec_l05Wide.eq (n : Int) f
  simp only [W, W1] at e
  by_cases c1 : 9984 ≤ n
  · simp only [if_pos (show 9984 ≤ (n : Int) by omega)] at e
    refine Ev.step e (specWideJ n hn _ ?_)
    by_cases c2 : n ≤ 10009
    · exact .inl ⟨decide_eq_true (by omega), c1, c2⟩
    · exact .inr ⟨decide_eq_false (by omega), fun h => c2 h.2⟩
  · simp only [if_neg (show ¬ 9984 ≤ (n : Int) by omega)] at e
    exact Ev.step e (specWideJ n hn false (.inr ⟨rfl, fun h => c1 h.1⟩))
/-- what is told behind the letters' blocks -/
def prB (p : Nat) : List Int :=
  if 9728 ≤ p ∧ p ≤ 9753 then [((p - 9663 : Nat) : Int)]
  else if 12288 ≤ p ∧ p ≤ 23459 then
    (if 0 < (p - 12288) % 28 then [((p - (p - 12288) % 28 : Nat) : Int), ((1856 + (p - 12288) % 28 : Nat) : Int)]
     else [((1792 + (p - 12288) / 28 / 21 : Nat) : Int), ((1824 + (p - 12288) / 28 % 21 : Nat) : Int)])
  else if k = false then []
  else wd p
theorem prt_b (h : ¬ ((8192 ≤ n ∧ n ≤ 9631) ∧ (n - 8192) % 512 < 416)) : prt k n = prB k n := if_neg h
include hn in
theorem specJ10 (x : Bool) (hx : (x = true ∧ 9728 ≤ n ∧ n ≤ 9753) ∨ (x = false ∧ ¬ (9728 ≤ n ∧ n ≤ 9753))) : Ev (fun f => spec_l05Parts_J10 f (n : Int) k x) (prB k n) := by
  have e := fun f => spec_l05Parts_J10.eq (n : Int) k x f
  unfold prB
  rcases hx with ⟨rfl, hx⟩ | ⟨rfl, hx⟩
  · have h1 := sub_nat n 9728 (by omega) (by omega)
    have h2 := add_nat (n - 9728) 65 (by omega) (by omega)
    simp only [clit] at h1 h2
    simp only [W, W1, h1, h2] at e
    rw [if_pos hx]
    refine Ev.congr e ?_
    rw [show n - 9728 + 65 = n - 9663 by omega]
    exact Ev.now _
  · simp only [W, W1, W3, if_neg (show ¬ (28 : Int) = 0 by omega), if_neg (show ¬ (21 : Int) = 0 by omega), if_neg (show ¬ (588 : Int) = 0 by omega)] at e
    rw [if_neg hx]
    refine Ev.congr e ?_
    by_cases c2 : 12288 ≤ n ∧ n ≤ 23459
    · have h1 := sub_nat n 12288 (by omega) (by omega)
      have h2 := rem_nat (n - 12288) 28
      have h3 := quo_nat (n - 12288) 28 (by omega)
      have h4 := sub_nat n ((n - 12288) % 28) (by omega) (by omega)
      have h5 := add_nat 1856 ((n - 12288) % 28) (by omega) (by omega)
      have h6 := quo_nat (n - 12288) 588 (by omega)
      have h7 := rem_nat ((n - 12288) / 28) 21
      have h8 := add_nat 1792 ((n - 12288) / 588) (by omega) (by omega)
      have h9 := add_nat 1824 ((n - 12288) / 28 % 21) (by omega) (by omega)
      simp only [clit] at h1 h2 h3 h4 h5 h6 h7 h8 h9
      simp only [if_pos c2, if_pos (show 12288 ≤ (n : Int) by omega), if_pos (show (n : Int) ≤ 23459 by omega), h1, h2, h3, h4, h5, h6, h7, h8, h9]
      by_cases c3 : 0 < (n - 12288) % 28
      · simp only [if_pos c3, if_pos (show (0 : Int) < (((n - 12288) % 28 : Nat) : Int) by omega)]
        exact Ev.now _
      · simp only [if_neg c3, if_neg (show ¬ (0 : Int) < (((n - 12288) % 28 : Nat) : Int) by omega)]
        rw [show (n - 12288) / 28 / 21 = (n - 12288) / 588 by rw [Nat.div_div_eq_div_mul]]
        exact Ev.now _
    · have hin : ∀ (α : Type) (x y z : α), (if 12288 ≤ (n : Int) then if (n : Int) ≤ 23459 then x else y else y) = y := fun α x y z => by
        by_cases d : 12288 ≤ (n : Int)
        · rw [if_pos d, if_neg (by omega)]
        · rw [if_neg d]
      simp only [if_neg c2]
      have key : Ev (fun f : Nat => if k = true then (spec_l05Wide f (n : Int)).bind fun r0 => some r0 else some ([] : List Int)) (if k = false then [] else wd n) := by
        cases k with
        | false => exact Ev.now _
        | true =>
          simp only [if_true, Bool.true_eq_false, if_false]
          exact Ev.bind (specWide n hn) (Ev.now _)
      refine Ev.congr (fun f => ?_) key
      simp only [brB_b]
      exact hin _ _ _ (none : Option (List Int))
include hn in
theorem specParts : Ev (fun f => spec_l05Parts f (n : Int) k) (prt k n) := by
  have e := fun f => spec_l05Parts.eq (n : Int) k f
  have h2 := rem_nat n 512
  simp only [clit] at h2
  simp only [W, W1, W3, if_neg (show ¬ (512 : Int) = 0 by omega), h2] at e
  have hJ : ∀ x : Bool, ((x = true ∧ ((8192 ≤ n ∧ n ≤ 9631) ∧ (n - 8192) % 512 < 416)) ∨ (x = false ∧ ¬ ((8192 ≤ n ∧ n ≤ 9631) ∧ (n - 8192) % 512 < 416))) → Ev (fun f => spec_l05Parts_J3 f (n : Int) k ((n % 512 : Nat) : Int) x) (prt k n) := by
    intro x hx
    have e := fun f => spec_l05Parts_J3.eq (n : Int) k ((n % 512 : Nat) : Int) x f
    rcases hx with ⟨rfl, hx⟩ | ⟨rfl, hx⟩
    · have g1 := quo_nat n 512 (by omega)
      have g2 := quo_nat (n % 512) 8 (by omega)
      have g3 := rem_nat (n % 512) 8
      have g4 := add_nat 4096 (n % 512 % 8) (by omega) (by omega)
      have g5 := add_nat 4112 (n % 512 % 8) (by omega) (by omega)
      have g6 := add_nat 8704 (n % 512) (by omega) (by omega)
      simp only [clit] at g1 g2 g3 g4 g5 g6
      simp only [W, W1, W3, g1, g2, g3, g4, g5, g6, if_neg (show ¬ (512 : Int) = 0 by omega), if_neg (show ¬ (8 : Int) = 0 by omega)] at e
      rw [prt_a n k hx, show (n - 8192) % 512 = n % 512 by omega]
      refine Ev.congr e ?_
      by_cases c1 : (n - 8192) / 512 = 0
      · simp only [if_pos c1, if_pos (show ((n / 512 : Nat) : Int) = 16 by omega)]
        exact Ev.bind (specLetter _ (by omega)) (Ev.now _)
      by_cases c2 : (n - 8192) / 512 = 1
      · simp only [if_neg c1, if_pos c2, if_neg (show ¬ ((n / 512 : Nat) : Int) = 16 by omega), if_pos (show ((n / 512 : Nat) : Int) = 17 by omega)]
        exact Ev.bind (specLetter _ (by omega)) (Ev.now _)
      · simp only [if_neg c1, if_neg c2, if_neg (show ¬ ((n / 512 : Nat) : Int) = 16 by omega), if_neg (show ¬ ((n / 512 : Nat) : Int) = 17 by omega)]
        exact Ev.now _
    · simp only [W, W1, W3] at e
      rw [prt_b n k hx]
      refine Ev.congr e ?_
      by_cases c1 : 9728 ≤ n
      · simp only [if_pos (show 9728 ≤ (n : Int) by omega)]
        refine specJ10 n hn k _ ?_
        by_cases c2 : n ≤ 9753
        · exact .inl ⟨decide_eq_true (by omega), c1, c2⟩
        · exact .inr ⟨decide_eq_false (by omega), fun h => c2 h.2⟩
      · simp only [if_neg (show ¬ 9728 ≤ (n : Int) by omega)]
        exact specJ10 n hn k false (.inr ⟨rfl, fun h => c1 h.1⟩)
  by_cases c1 : 8192 ≤ n
  · by_cases c2 : n < 9728
    · simp only [if_pos (show 8192 ≤ (n : Int) by omega), if_pos (show (n : Int) < 9728 by omega)] at e
      refine Ev.step e (hJ _ ?_)
      by_cases c3 : n % 512 < 416
      · exact .inl ⟨decide_eq_true (by omega), by omega⟩
      · exact .inr ⟨decide_eq_false (by omega), by omega⟩
    · simp only [if_pos (show 8192 ≤ (n : Int) by omega), if_neg (show ¬ (n : Int) < 9728 by omega)] at e
      exact Ev.step e (hJ false (.inr ⟨rfl, by omega⟩))
  · simp only [if_neg (show ¬ 8192 ≤ (n : Int) by omega)] at e
    exact Ev.step e (hJ false (.inr ⟨rfl, by omega⟩))
end
end Go.Proofs.YtmmmlfndnoeedaaDoor.IX
