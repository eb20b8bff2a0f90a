/- The reference's cuts between characters are the program's, plainly. -/
import Derived.Test.YtkkjkpliiinbjaaDoorPCuts
namespace Go.Proofs.YtkkjkpliiinbjaaDoor.DF
open Go.Eng Go.RowKit
set_option linter.unusedVariables false
set_option linter.unusedSimpArgs false
theorem cat_7954 : cat 7954 = 11 := by decide +kernel
theorem mk_ctl {p : Int} (h : mk p = true) : ctl p = false := by
  unfold mk at h
  unfold ctl
  have h7 : p ≠ 7954 := by
    rintro rfl
    rw [cat_7954] at h
    revert h; decide
  rw [decide_eq_false h7, Bool.or_false]
  apply decide_eq_false
  intro h1
  rw [h1] at h
  simp only [Bool.or_eq_true, decide_eq_true_eq] at h
  rcases h with h | h | h
  · omega
  · subst h; revert h1; decide +kernel
  · rw [cat_sign ⟨by omega, h.2⟩] at h1; omega
theorem cls_mk {p : Int} (h : mk p = true) : cls p = 2 := by
  unfold cls
  rw [mk_ctl h]
  simp [h]
theorem rest_part {p : Int} (h : part p ≠ 0) : rest p = part p + 2 := by
  unfold rest part at *
  by_cases a : 1792 ≤ p ∧ p ≤ 1810
  · rw [if_pos a, if_pos a]; rfl
  rw [if_neg a] at h ⊢
  rw [if_neg a]
  by_cases b : 1824 ≤ p ∧ p ≤ 1844
  · rw [if_pos b, if_pos b]; rfl
  rw [if_neg b] at h ⊢
  rw [if_neg b]
  by_cases c : 1857 ≤ p ∧ p ≤ 1883
  · rw [if_pos c, if_pos c]; rfl
  rw [if_neg c] at h ⊢
  rw [if_neg c]
  by_cases d : opn p = true
  · rw [if_pos d, if_pos d]; rfl
  rw [if_neg d] at h ⊢
  rw [if_neg d]
  by_cases e : syl p = true
  · rw [if_pos e, if_pos e]; rfl
  · rw [if_neg e] at h; exact absurd rfl h
theorem rest_none {p : Int} (h : part p = 0) : rest p = if pic p = true then 8 else if flg p = true then 9 else 0 := by
  unfold rest
  unfold part at h
  by_cases a : 1792 ≤ p ∧ p ≤ 1810
  · rw [if_pos a] at h; exact absurd h (by decide)
  rw [if_neg a] at h ⊢
  by_cases b : 1824 ≤ p ∧ p ≤ 1844
  · rw [if_pos b] at h; exact absurd h (by decide)
  rw [if_neg b] at h ⊢
  by_cases c : 1857 ≤ p ∧ p ≤ 1883
  · rw [if_pos c] at h; exact absurd h (by decide)
  rw [if_neg c] at h ⊢
  by_cases d : opn p = true
  · rw [if_pos d] at h; exact absurd h (by decide)
  rw [if_neg d] at h ⊢
  by_cases e : syl p = true
  · rw [if_pos e] at h; exact absurd h (by decide)
  rw [if_neg e]
theorem part_range (p : Int) : 0 ≤ part p ∧ part p ≤ 5 := by
  unfold part
  repeat' split
  all_goals omega
/-- the class, by its parts -/
theorem cls_eq (p : Int) : cls p = if ctl p = true then 1 else if part p ≠ 0 then part p + 2 else if mk p = true then 2 else if pic p = true then 8 else if flg p = true then 9 else 0 := by
  by_cases h : part p = 0
  · unfold cls
    rw [rest_none h]
    simp only [ne_eq, h, not_true_eq_false, if_false]
  · obtain ⟨h1, h2⟩ := cls_part h
    unfold cls
    rw [h1, h2, rest_part h]
    simp [h]
theorem pic_plain {p : Int} (h : pic p = true) : ctl p = false ∧ part p = 0 ∧ mk p = false := by
  have h' : 7680 ≤ p ∧ p ≤ 7743 := by simpa [pic] using h
  have hc := cat_sign (p := p) ⟨h'.1, by omega⟩
  refine ⟨?_, ?_, ?_⟩
  · unfold ctl; rw [hc, decide_eq_false (show ¬ p = 7954 by omega)]; rfl
  · unfold part opn syl
    rw [if_neg (by omega), if_neg (by omega), if_neg (by omega)]
    rw [decide_eq_false (show ¬ (12288 ≤ p ∧ p ≤ 23459) by omega)]
    simp
  · unfold mk; rw [hc, decide_eq_false (show ¬ p = 7936 by omega), decide_eq_false (show ¬ (7744 ≤ p ∧ p ≤ 7748) by omega)]; rfl
theorem flg_plain {p : Int} (h : flg p = true) : ctl p = false ∧ part p = 0 ∧ mk p = false ∧ pic p = false := by
  have h' : 7760 ≤ p ∧ p ≤ 7785 := by simpa [flg] using h
  have hc := cat_flag (p := p) h'
  refine ⟨?_, ?_, ?_, ?_⟩
  · unfold ctl; rw [hc, decide_eq_false (show ¬ p = 7954 by omega)]; rfl
  · unfold part opn syl
    rw [if_neg (by omega), if_neg (by omega), if_neg (by omega)]
    rw [decide_eq_false (show ¬ (12288 ≤ p ∧ p ≤ 23459) by omega)]
    simp
  · unfold mk; rw [hc, decide_eq_false (show ¬ p = 7936 by omega), decide_eq_false (show ¬ (7744 ≤ p ∧ p ≤ 7748) by omega)]; rfl
  · unfold pic; exact decide_eq_false (by omega)
theorem cls_8 (p : Int) : decide (cls p = 8) = pic p := by
  by_cases h : pic p = true
  · obtain ⟨h1, h2, h3⟩ := pic_plain h
    rw [cls_eq, h1, h2, h3, h]; simp
  · have hr := part_range p
    rw [show pic p = false by simpa using h]
    apply decide_eq_false
    rw [cls_eq]
    repeat' split
    all_goals first | omega | exact absurd ‹pic p = true› h
theorem cls_9 (p : Int) : cls p = 9 ↔ flg p = true := by
  constructor
  · intro h
    have hr := part_range p
    rw [cls_eq] at h
    by_cases hf : flg p = true
    · exact hf
    · exfalso
      revert h
      repeat' split
      all_goals omega
  · intro h
    obtain ⟨h1, h2, h3, h4⟩ := flg_plain h
    rw [cls_eq, h1, h2, h3, h4, h]; simp
/-! ### looks back -/
theorem bound_loop (l : List Int) (hl : l.length ≤ 1048576) : ∀ i : Nat, i < l.length → Ev2 (fun k j => spec_l07Bound_L1 k j l (i : Int)) (bindS l (i + 1)) := by
  intro i
  induction i with
  | zero =>
    intro hi
    have e := fun k j => spec_l07Bound_L1.eq l ((0 : Nat) : Int) k j
    have hr : rd l ((0 : Nat) : Int) 0 = pt l 0 := rfl
    simp only [W, W1, W2, hr, if_neg (show ¬ (0 : Int) < ((0 : Nat) : Int) by omega), if_pos (nat_ge 0), if_pos (show ((0 : Nat) : Int) < (l.length : Int) by omega)] at e
    have : bindS l 1 = decide (pt l 0 = 1584) := by
      simp only [bindS]
      by_cases c : pt l 0 = 1584
      · simp [c]
      · simp [c]
    rw [this]
    exact Ev2.ret e
  | succ i ih =>
    intro hi
    have e := fun k j => spec_l07Bound_L1.eq l ((i + 1 : Nat) : Int) k j
    have hr : rd l ((i + 1 : Nat) : Int) 0 = pt l (i + 1) := rfl
    have hsub : subI .i64 ((i + 1 : Nat) : Int) 1 = (i : Int) := by rw [subI_i64 (by omega) (by omega)]; omega
    simp only [W, W1, W2, hr, hsub, if_pos (show (0 : Int) < ((i + 1 : Nat) : Int) by omega), if_pos (nat_ge (i + 1)), if_pos (show ((i + 1 : Nat) : Int) < (l.length : Int) by omega)] at e
    have h := ih (by omega)
    rw [show bindS l (i + 1 + 1) = if pt l (i + 1) = 1584 then true else if pt l (i + 1) = 1585 then bindS l (i + 1) else false from rfl]
    by_cases c : pt l (i + 1) = 1585
    · simp only [if_pos c] at e
      rw [if_neg (by omega), if_pos c]
      exact Ev2.step e h
    · simp only [if_neg c] at e
      rw [if_neg c, show (if pt l (i + 1) = 1584 then true else false) = decide (pt l (i + 1) = 1584) by by_cases q : pt l (i + 1) = 1584 <;> simp [q]]
      exact Ev2.ret e
theorem marks_back (l : List Int) (hl : l.length ≤ 1048576) (hP : Points l) : ∀ i : Nat, i ≤ l.length → Ev2 (fun k j => spec_l07Char_L13 k j l ((i : Int) - 1)) (!picS l i) := by
  intro i
  induction i with
  | zero =>
    intro hi
    have e := fun k j => spec_l07Char_L13.eq l (((0 : Nat) : Int) - 1) k j
    simp only [W, W1, W2, if_neg (show ¬ (0 : Int) ≤ ((0 : Nat) : Int) - 1 by omega), if_pos (show ((0 : Nat) : Int) - 1 < 0 by omega)] at e
    exact Ev2.ret e
  | succ i ih =>
    intro hi
    have hk : ((i + 1 : Nat) : Int) - 1 = (i : Int) := by omega
    rw [hk]
    obtain ⟨p0, p1⟩ := pt_ok hP (show i < l.length by omega)
    have e := fun k j => spec_l07Char_L13.eq l (i : Int) k j
    have hr : rd l (i : Int) 0 = pt l i := rfl
    have hsub : subI .i64 (i : Int) 1 = (i : Int) - 1 := subI_i64 (by omega) (by omega)
    simp only [W, W1, W2, W3, hr, hsub, if_pos (nat_ge i), if_pos (show (i : Int) < (l.length : Int) by omega), if_neg (show ¬ (i : Int) < 0 by omega)] at e
    refine Ev2.step e (Ev2.bind (specMark p0 p1) ?_)
    by_cases c : mk (pt l i) = true
    · simp only [c, W1]
      rw [show picS l (i + 1) = picS l i by simp only [picS]; rw [if_pos (cls_mk c)]]
      exact ih (by omega)
    · have c' : mk (pt l i) = false := by simpa using c
      simp only [c', W1]
      have h2 : cls (pt l i) ≠ 2 := by
        intro h2
        have hr := part_range (pt l i)
        rw [cls_eq] at h2
        revert h2
        rw [c']
        repeat' split
        all_goals first | omega | (intro h; omega) | simp_all
      rw [show picS l (i + 1) = pic (pt l i) by simp only [picS]; rw [if_neg h2, cls_8]]
      exact Ev2.bind (specPicture (pt l i)) (Ev2.now _)
theorem flags_loop (l : List Int) (hl : l.length ≤ 1048576) (at' : Nat) (ha : at' < l.length) : ∀ (m n : Nat), m + n = at' + 1 → Ev2 (fun k j => spec_l07Flags_L2 k j l (at' : Int) (n : Int)) ((n + flagS l m : Nat) : Int) := by
  intro m
  induction m with
  | zero =>
    intro n hn
    have hsub : subI .i64 (at' : Int) (n : Int) = (at' : Int) - n := subI_i64 (by omega) (by omega)
    have e := fun k j => spec_l07Flags_L2.eq l (at' : Int) (n : Int) k j
    simp only [W, W1, W2, hsub, if_neg (show ¬ (0 : Int) ≤ (at' : Int) - n by omega)] at e
    exact Ev2.ret e
  | succ m ih =>
    intro n hn
    have hsub : subI .i64 (at' : Int) (n : Int) = (m : Int) := by rw [subI_i64 (by omega) (by omega)]; omega
    have hadd : addI .i64 (n : Int) 1 = ((n + 1 : Nat) : Int) := by rw [addI_i64 (by omega) (by omega)]; omega
    have hr : rd l (m : Int) 0 = pt l m := rfl
    have e := fun k j => spec_l07Flags_L2.eq l (at' : Int) (n : Int) k j
    simp only [W, W1, W2, W3, hsub, hadd, hr, if_pos (nat_ge m), if_pos (show (m : Int) < (l.length : Int) by omega)] at e
    refine Ev2.step e (Ev2.bind (specFlag (pt l m)) ?_)
    by_cases c : flg (pt l m) = true
    · simp only [c, W1]
      rw [show flagS l (m + 1) = flagS l m + 1 by simp only [flagS]; rw [if_pos ((cls_9 _).2 c)], show n + (flagS l m + 1) = n + 1 + flagS l m by omega]
      exact ih (n + 1) (by omega)
    · have c' : flg (pt l m) = false := by simpa using c
      simp only [c', W1]
      rw [show flagS l (m + 1) = 0 by simp only [flagS]; rw [if_neg (fun h => c ((cls_9 _).1 h))]]
      exact Ev2.now _
/-! ### syllables -/
def SP (a b : Int) : Prop := (a = 1 ∧ (b = 1 ∨ b = 2 ∨ b = 4 ∨ b = 5)) ∨ ((a = 2 ∨ a = 4) ∧ (b = 2 ∨ b = 3)) ∨ ((a = 3 ∨ a = 5) ∧ b = 3)
def FP (d c : Int) : Prop := (d = 3 ∧ (c = 3 ∨ c = 4 ∨ c = 6 ∨ c = 7)) ∨ ((d = 4 ∨ d = 6) ∧ (c = 4 ∨ c = 5)) ∨ ((d = 5 ∨ d = 7) ∧ c = 5)
instance (a b : Int) : Decidable (SP a b) := by unfold SP; infer_instance
instance (a b : Int) : Decidable (FP a b) := by unfold FP; infer_instance
theorem f4_eq (q p c d : Int) (bind pict : Bool) (flags : Int) : f4 q p c d bind pict flags = if FP d c then false else f10 q p c d bind pict flags := by
  unfold f4 f6 f8
  by_cases h1 : d = 3 ∧ (c = 3 ∨ c = 4 ∨ c = 6 ∨ c = 7)
  · rw [if_pos h1, if_pos (show FP d c from .inl h1)]
  rw [if_neg h1]
  by_cases h2 : (d = 4 ∨ d = 6) ∧ (c = 4 ∨ c = 5)
  · rw [if_pos h2, if_pos (show FP d c from .inr (.inl h2))]
  rw [if_neg h2]
  by_cases h3 : (d = 5 ∨ d = 7) ∧ c = 5
  · rw [if_pos h3, if_pos (show FP d c from .inr (.inr h3))]
  · rw [if_neg h3, if_neg (show ¬ FP d c from fun h => by rcases h with h | h | h; exact h1 h; exact h2 h; exact h3 h)]
theorem cls_facts {p : Int} (h : ctl p = false) : (part p ≠ 0 → cls p = part p + 2) ∧ (part p = 0 → cls p = 0 ∨ cls p = 2 ∨ cls p = 8 ∨ cls p = 9) ∧ cls p ≠ 1 := by
  have hr := part_range p
  rw [cls_eq, h]
  simp only [Bool.false_eq_true, if_false]
  refine ⟨fun hp => by rw [if_pos hp], fun hp => ?_, ?_⟩
  · rw [if_neg (by simpa using hp)]
    repeat' split
    all_goals omega
  · repeat' split
    all_goals omega
theorem SP_FP {q p : Int} (hq : ctl q = false) (hp : ctl p = false) : FP (cls q) (cls p) ↔ SP (part q) (part p) := by
  obtain ⟨a1, a2, a3⟩ := cls_facts hq
  obtain ⟨b1, b2, b3⟩ := cls_facts hp
  have r1 := part_range q
  have r2 := part_range p
  unfold FP SP
  by_cases c1 : part q = 0 <;> by_cases c2 : part p = 0
  · have := a2 c1; have := b2 c2; omega
  · have := a2 c1; have := b1 c2; omega
  · have := a1 c1; have := b2 c2; omega
  · have := a1 c1; have := b1 c2; omega
theorem cls_two {p : Int} (h : ctl p = false) : cls p = 2 ↔ mk p = true := by
  constructor
  · intro h2
    have hr := part_range p
    rw [cls_eq, h] at h2
    by_cases c : mk p = true
    · exact c
    · exfalso
      revert h2
      have c' : mk p = false := by simpa using c
      rw [c']
      simp only [Bool.false_eq_true, if_false]
      repeat' split
      all_goals omega
  · exact cls_mk
theorem specSyllable (q p : Int) (hq : 0 ≤ q ∧ q ≤ 1114111) (hp : 0 ≤ p ∧ p ≤ 1114111) : Ev (fun k => spec_l07Syllable k q p) (decide (SP (part q) (part p))) := by
  have e := fun k => spec_l07Syllable.eq q p k
  simp only [spec_l07Syllable_J8.eq] at e
  simp only [W, W1, W3] at e
  refine Ev.step e (Ev.bind (specPart q hq.1 hq.2) (Ev.bind (specPart p hp.1 hp.2) ?_))
  have r1 := part_range q
  have r2 := part_range p
  generalize part q = a at *
  generalize part p = b at *
  have ha : a = 0 ∨ a = 1 ∨ a = 2 ∨ a = 3 ∨ a = 4 ∨ a = 5 := by omega
  have hb : b = 0 ∨ b = 1 ∨ b = 2 ∨ b = 3 ∨ b = 4 ∨ b = 5 := by omega
  refine Ev.of fun k => ?_
  rcases ha with rfl | rfl | rfl | rfl | rfl | rfl <;> rcases hb with rfl | rfl | rfl | rfl | rfl | rfl <;> simp [SP, W1]
/-! ### the question -/
theorem specChar (l : List Int) (hl : l.length ≤ 1048576) (hP : Points l) (i : Nat) (hi : i + 1 < l.length) : Ev (fun k => spec_l07Char k l ((i + 1 : Nat) : Int)) (cutAt l (i + 1)) := by
  have hs1 : subI .i64 ((i + 1 : Nat) : Int) 1 = (i : Int) := by rw [subI_i64 (by omega) (by omega)]; omega
  have hs2 : subI .i64 ((i + 1 : Nat) : Int) 2 = (i : Int) - 1 := by rw [subI_i64 (by omega) (by omega)]; omega
  have hq := pt_ok hP (show i < l.length by omega)
  have hp := pt_ok hP hi
  have r1 : rd l (i : Int) 0 = pt l i := rfl
  have r2 : rd l ((i + 1 : Nat) : Int) 0 = pt l (i + 1) := rfl
  have e := fun k => spec_l07Char.eq l ((i + 1 : Nat) : Int) k
  simp only [W, W1, W2, hs1, r1, r2, if_pos (nat_ge i), if_pos (nat_ge (i + 1)), if_pos (show (i : Int) < (l.length : Int) by omega), if_pos (show ((i + 1 : Nat) : Int) < (l.length : Int) by omega)] at e
  show Ev _ (cutF (pt l i) (pt l (i + 1)) (cls (pt l (i + 1))) (cls (pt l i)) (bindS l (i + 1)) (picS l (i + 1)) (flagS l (i + 1)))
  have hB := (bound_loop l hl i (by omega)).ev
  have hM := (marks_back l hl hP i (by omega)).ev
  have hF := (flags_loop l hl i (by omega) (i + 1) 0 (by omega)).ev
  have hpic : cls (pt l i) = 2 → picS l (i + 1) = picS l i := fun h => by simp only [picS]; rw [if_pos h]
  generalize bindS l (i + 1) = bd at *
  generalize hpc : picS l (i + 1) = pc at *
  generalize flagS l (i + 1) = fl at *
  generalize pt l i = q at *
  generalize pt l (i + 1) = p at *
  -- behind the strokes that bind
  have j10 : ∀ x : Bool, ctl q = false → ctl p = false → Ev (fun k => spec_l07Char_J10 k l ((i + 1 : Nat) : Int) q p x) (if x = true then false else if q = 7936 ∧ cls p = 8 ∧ pc = true then false else if cls p = 9 ∧ cls q = 9 ∧ (fl : Int) % 2 = 1 then false else true) := fun x cq cp => by
    have e := fun k => spec_l07Char_J10.eq l ((i + 1 : Nat) : Int) q p x k
    have hr : remI ((0 + fl : Nat) : Int) 2 = (fl : Int) % 2 := by rw [remI_eq, Int.tmod_eq_emod_of_nonneg (by omega)]; omega
    simp only [spec_l07Char_J18.eq] at e
    simp only [W, W1, W3, hs1, hs2, if_neg (show ¬ (2 : Int) = 0 by omega)] at e
    refine Ev.congr e ?_
    have tailE : Ev (fun k => (spec_l07Flag k q).bind fun r1 => brB r1 ((spec_l07Flag k p).bind fun r2 => brB r2 ((spec_l07Flags k l (i : Int)).bind fun r3 => some (decide (remI r3 2 = 0))) (some true)) (some true)) (if cls p = 9 ∧ cls q = 9 ∧ (fl : Int) % 2 = 1 then false else true) := by
      refine Ev.bind (specFlag q) ?_
      by_cases c1 : flg q = true
      · simp only [c1, W1]
        refine Ev.bind (specFlag p) ?_
        by_cases c2 : flg p = true
        · simp only [c2, W1]
          refine Ev.bind (Ev.step (fun k => spec_l07Flags.eq l (i : Int) k) hF) ?_
          simp only [hr]
          by_cases c3 : (fl : Int) % 2 = 1
          · rw [if_pos ⟨(cls_9 p).2 c2, (cls_9 q).2 c1, c3⟩, decide_eq_false (show ¬ (fl : Int) % 2 = 0 by omega)]; exact Ev.now _
          · rw [if_neg (fun h => c3 h.2.2), decide_eq_true (show (fl : Int) % 2 = 0 by omega)]; exact Ev.now _
        · have c2' : flg p = false := by simpa using c2
          simp only [c2', W1]
          rw [if_neg (fun h => c2 ((cls_9 p).1 h.1))]; exact Ev.now _
      · have c1' : flg q = false := by simpa using c1
        simp only [c1', W1]
        rw [if_neg (fun h => c1 ((cls_9 q).1 h.2.1))]; exact Ev.now _
    cases x with
    | true => simp only [W1, if_true]; exact Ev.now _
    | false =>
      simp only [W1, Bool.false_eq_true, if_false]
      have h8 : cls p = 8 ↔ pic p = true := by rw [← cls_8]; simp
      by_cases c1 : q = 7936
      · simp only [if_pos c1]
        refine Ev.bind (specPicture p) ?_
        by_cases c2 : pic p = true
        · simp only [c2, W1]
          have hq2 : cls q = 2 := by subst c1; exact cls_mk (by unfold mk; simp)
          have hpe := hpic hq2
          rw [← hpe] at hM
          have hv : (if q = 7936 ∧ cls p = 8 ∧ pc = true then false else if cls p = 9 ∧ cls q = 9 ∧ (fl : Int) % 2 = 1 then false else true) = !pc := by
            cases hpcv : pc with
            | true => rw [if_pos ⟨c1, h8.2 c2, rfl⟩]; rfl
            | false =>
              rw [if_neg (fun h => by cases h.2.2), if_neg (fun h => by have := h8.2 c2; omega)]; rfl
          rw [hv]
          exact hM
        · have c2' : pic p = false := by simpa using c2
          simp only [c2', W1]
          rw [if_neg (show ¬ (q = 7936 ∧ cls p = 8 ∧ pc = true) from fun h => c2 (h8.1 h.2.1))]
          exact tailE
      · simp only [if_neg c1]
        rw [if_neg (show ¬ (q = 7936 ∧ cls p = 8 ∧ pc = true) from fun h => c1 h.1)]
        exact tailE
  have j6 : ∀ x : Bool, ctl q = false → (x = false → ctl p = false) → Ev (fun k => spec_l07Char_J6 k l ((i + 1 : Nat) : Int) q p x) (if x = true then true else f4 q p (cls p) (cls q) bd pc fl) := fun x cq cp => by
    have e := fun k => spec_l07Char_J6.eq l ((i + 1 : Nat) : Int) q p x k
    simp only [W, W1, W3, hs1] at e
    refine Ev.congr e ?_
    cases x with
    | true => simp only [W1, if_true]; exact Ev.now _
    | false =>
      have cp := cp rfl
      simp only [W1, Bool.false_eq_true, if_false]
      rw [f4_eq]
      refine Ev.bind (specSyllable q p hq hp) ?_
      by_cases c1 : SP (part q) (part p)
      · simp only [decide_eq_true c1, W1]
        rw [if_pos ((SP_FP cq cp).2 c1)]; exact Ev.now _
      · simp only [decide_eq_false c1, W1]
        rw [if_neg (fun h => c1 ((SP_FP cq cp).1 h))]
        refine Ev.bind (specMark hp.1 hp.2) ?_
        unfold f10
        by_cases c2 : mk p = true
        · simp only [c2, W1]
          rw [if_pos ((cls_two cp).2 c2)]; exact Ev.now _
        · have c2' : mk p = false := by simpa using c2
          simp only [c2', W1]
          rw [if_neg (fun h => c2 ((cls_two cp).1 h))]
          have hn := j10 false cq cp
          simp only [Bool.false_eq_true, if_false] at hn
          by_cases c3 : 1536 ≤ p
          · by_cases c4 : p ≤ 1567
            · simp only [if_pos c3, if_pos c4]
              refine Ev.bind (Ev.step (fun k => spec_l07Bound.eq l (i : Int) k) hB) ?_
              cases bd with
              | true => rw [if_pos ⟨⟨c3, c4⟩, rfl⟩]; exact j10 true cq cp
              | false => rw [if_neg (fun h => by cases h.2)]; exact hn
            · simp only [if_pos c3, if_neg c4]
              rw [if_neg (fun h => c4 h.1.2)]; exact hn
          · simp only [if_neg c3]
            rw [if_neg (fun h => c3 h.1.1)]; exact hn
  have j4 : ∀ x : Bool, Ev (fun k => spec_l07Char_J4 k l ((i + 1 : Nat) : Int) q p x) (if x = true then false else if cls p = 1 ∨ cls q = 1 then true else f4 q p (cls p) (cls q) bd pc fl) := fun x => by
    have e := fun k => spec_l07Char_J4.eq l ((i + 1 : Nat) : Int) q p x k
    simp only [W3] at e
    refine Ev.congr e ?_
    have one : ∀ y : Int, ctl y = true → cls y = 1 := fun y h => by unfold cls; rw [if_pos h]
    cases x with
    | true => simp only [W1, if_true]; exact Ev.now _
    | false =>
      simp only [W1, Bool.false_eq_true, if_false]
      refine Ev.bind (specControl hq.1 hq.2) ?_
      by_cases c1 : ctl q = true
      · simp only [c1, W1]
        rw [if_pos (.inr (one q c1))]
        have e6 := fun k => spec_l07Char_J6.eq l ((i + 1 : Nat) : Int) q p true k
        simp only [W1] at e6
        exact Ev.of e6
      · have c1' : ctl q = false := by simpa using c1
        simp only [c1', W1]
        refine Ev.bind (specControl hp.1 hp.2) ?_
        by_cases c2 : ctl p = true
        · rw [if_pos (.inl (one p c2)), c2]
          exact j6 true c1' (fun h => by cases h)
        · have c2' : ctl p = false := by simpa using c2
          rw [if_neg (fun h => h.elim (cls_facts c2').2.2 (cls_facts c1').2.2), c2']
          have := j6 false c1' (fun _ => c2')
          simpa using this
  refine Ev.step e ?_
  unfold cutF
  by_cases c : q = 13
  · simp only [if_pos c]
    have h := j4 (decide (p = 10))
    simp only [decide_eq_true_eq] at h
    rw [show (if q = 13 ∧ p = 10 then false else if cls p = 1 ∨ cls q = 1 then true else f4 q p (cls p) (cls q) bd pc fl) = (if p = 10 then false else if cls p = 1 ∨ cls q = 1 then true else f4 q p (cls p) (cls q) bd pc fl) by simp only [c, true_and]]
    exact h
  · simp only [if_neg c]
    rw [if_neg (fun h => c h.1)]
    have h := j4 false
    simp only [Bool.false_eq_true, if_false] at h
    exact h
end Go.Proofs.YtkkjkpliiinbjaaDoor.DF
