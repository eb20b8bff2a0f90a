/- What points show, by both sides. -/
import Derived.Test.YtmmmlfndnoeedaaDoorPForm
import Derived.Test.YtmmmlfndnoeedaaDoorPCat
namespace Go.Proofs.YtmmmlfndnoeedaaDoor.IX
open Go.Eng Go.RowKit
set_option linter.unusedVariables false
set_option linter.unusedSimpArgs false
/-! ### digits -/
def Dg (p : Int) : Prop := (48 ≤ p ∧ p ≤ 57) ∨ (592 ≤ p ∧ p ≤ 601) ∨ (848 ≤ p ∧ p ≤ 857) ∨ (1104 ≤ p ∧ p ≤ 1113) ∨ (1360 ≤ p ∧ p ≤ 1369) ∨ (1616 ≤ p ∧ p ≤ 1625) ∨ (10016 ≤ p ∧ p ≤ 10025)
def dg (p : Int) : Int := p % 16 % 10
instance (p : Int) : Decidable (Dg p) := by unfold Dg; infer_instance
theorem look_mem (p : Int) (d : Int × Int) : ∀ rows : List RowK, look rows d p = d ∨ ∃ r ∈ rows, r.1 ≤ p ∧ p ≤ r.2.1 ∧ look rows d p = r.2.2
  | [] => .inl rfl
  | r :: rows => by
    have e : look (r :: rows) d p = if r.1 ≤ p ∧ p ≤ r.2.1 then r.2.2 else look rows d p := rfl
    by_cases c : r.1 ≤ p ∧ p ≤ r.2.1
    · rw [if_pos c] at e
      exact .inr ⟨r, List.mem_cons_self, c.1, c.2, e⟩
    · rw [if_neg c] at e
      rcases look_mem p d rows with h | ⟨r', h1, h2, h3, h4⟩
      · exact .inl (e.trans h)
      · exact .inr ⟨r', List.mem_cons_of_mem _ h1, h2, h3, e.trans h4⟩
theorem look_hit {pre suf rows : List RowK} {d v : Int × Int} {p a b : Int} (e : rows = pre ++ (a, b, v) :: suf) (h : ∀ r ∈ pre, ¬ (r.1 ≤ p ∧ p ≤ r.2.1)) (hab : a ≤ p ∧ p ≤ b) : look rows d p = v := by
  rw [e, look_append, look_miss h]
  exact if_pos hab
theorem look_hit' {pre suf rows : List RowK} {d v : Int × Int} {p a b : Int} (e : rows = pre ++ (a, b, v) :: suf) (h : ∀ r ∈ pre, r.2.1 < a ∨ b < r.1) (hab : a ≤ p ∧ p ≤ b) : look rows d p = v :=
  look_hit e (fun r hr g => by have := h r hr; omega) hab
theorem sr8 : ∀ r ∈ SR, r.2.2.1 = 8 → (r.1, r.2.1) ∈ [((48 : Int), (57 : Int)), (1360, 1369), (1616, 1625), (10016, 10025)] := by decide
theorem cr8 : ∀ r ∈ CR, r.2.2.1 = 8 → (r.1, r.2.1) ∈ [((80 : Int), (89 : Int))] := by decide
theorem kind_out {p : Int} (h1 : ¬ (512 ≤ p ∧ p < 1280)) (h2 : ¬ (8192 ≤ p ∧ p < 9728)) : kindOf p = look SR (0, 0) p := by
  unfold kindOf kind1
  rw [if_neg h1, if_neg h2]
theorem cat_dig {p : Int} (h : Pt p) : cat p = 8 ↔ Dg p := by
  unfold Pt at h
  by_cases c : 512 ≤ p ∧ p < 1280
  · have e : kindOf p = look (casedRows (p / 256)) (0, 0) (p % 256) := if_pos c
    unfold cat
    rw [e]
    constructor
    · intro g
      rcases look_mem (p % 256) (0, 0) (casedRows (p / 256)) with h1 | ⟨r, h1, h2, h3, h4⟩
      · rw [h1] at g; cases g
      · rw [h4] at g
        unfold casedRows at h1
        simp only [List.mem_cons, List.not_mem_nil, or_false] at h1
        unfold Dg
        rcases h1 with rfl | rfl | rfl | rfl | rfl | rfl | rfl
        all_goals
          dsimp only at g h2 h3
          omega
    · intro g
      unfold Dg at g
      have hm : 80 ≤ p % 256 ∧ p % 256 ≤ 89 := by omega
      rw [look_hit (rows := casedRows (p / 256)) (pre := [(0, 31, 4, p / 256), (32, 63, 5, p / 256), (64, 67, 4, p / 256), (68, 71, 6, p / 256), (72, 75, 5, p / 256)]) (suf := [(96, 97, 5, p / 256)]) (a := 80) (b := 89) (v := (8, p / 256)) rfl (by
        intro r hr
        simp only [List.mem_cons, List.not_mem_nil, or_false] at hr
        rcases hr with rfl | rfl | rfl | rfl | rfl <;> dsimp only <;> omega) hm]
  · by_cases c2 : 8192 ≤ p ∧ p < 9728
    · have e : kindOf p = mid p := by unfold kindOf kind1; rw [if_neg c, if_pos c2]
      unfold cat
      rw [e]
      unfold mid Dg
      by_cases d1 : 416 ≤ p % 512
      · rw [if_pos d1]; dsimp only; omega
      · by_cases d2 : p % 512 < 208
        · rw [if_neg d1, if_pos d2]; dsimp only; omega
        · rw [if_neg d1, if_neg d2]; dsimp only; omega
    · unfold cat
      rw [kind_out c c2]
      constructor
      · intro g
        rcases look_mem p (0, 0) SR with h1 | ⟨r, h1, h2, h3, h4⟩
        · rw [h1] at g; cases g
        · rw [h4] at g
          have := sr8 r h1 g
          simp only [List.mem_cons, List.not_mem_nil, or_false, Prod.mk.injEq] at this
          unfold Dg
          omega
      · intro g
        unfold Dg at g
        have hs : (48 ≤ p ∧ p ≤ 57) ∨ (1360 ≤ p ∧ p ≤ 1369) ∨ (1616 ≤ p ∧ p ≤ 1625) ∨ (10016 ≤ p ∧ p ≤ 10025) := by omega
        rcases hs with k | k | k | k
        · rw [look_hit' (rows := SR) (pre := SR.take 2) (suf := SR.drop 3) (a := 48) (b := 57) (v := (8, 0)) rfl (by decide) k]
        · rw [look_hit' (rows := SR) (pre := SR.take 11) (suf := SR.drop 12) (a := 1360) (b := 1369) (v := (8, 5)) rfl (by decide) k]
        · rw [look_hit' (rows := SR) (pre := SR.take 15) (suf := SR.drop 16) (a := 1616) (b := 1625) (v := (8, 6)) rfl (by decide) k]
        · rw [look_hit' (rows := SR) (pre := SR.take 28) (suf := SR.drop 29) (a := 10016) (b := 10025) (v := (8, 0)) rfl (by decide) k]
/-- signs that are wide -/
def Wd (p : Int) : Prop := (9984 ≤ p ∧ p ≤ 10009) ∨ (10032 ≤ p ∧ p ≤ 10035)
instance (p : Int) : Decidable (Wd p) := by unfold Wd; infer_instance
theorem cat_wide {p : Int} (h : Wd p) : cat p = 10 := by
  unfold Wd at h
  unfold cat
  rw [kind_out (by omega) (by omega)]
  rcases h with k | k
  · rw [look_hit' (rows := SR) (pre := SR.take 27) (suf := SR.drop 28) (a := 9984) (b := 10009) (v := (10, 0)) rfl (by decide) k]
  · rw [look_hit' (rows := SR) (pre := SR.take 29) (suf := SR.drop 30) (a := 10032) (b := 10035) (v := (10, 0)) rfl (by decide) k]
theorem cat_letter {p : Int} (h : 65 ≤ p ∧ p ≤ 90) : cat p = 4 := by
  unfold cat
  rw [kind_out (by omega) (by omega), look_hit' (rows := SR) (pre := SR.take 3) (suf := SR.drop 4) (a := 65) (b := 90) (v := (4, 1)) rfl (by decide) h]
theorem cat_small {p : Int} (h : 97 ≤ p ∧ p ≤ 122) : cat p = 5 := by
  unfold cat
  rw [kind_out (by omega) (by omega), look_hit' (rows := SR) (pre := SR.take 4) (suf := SR.drop 5) (a := 97) (b := 122) (v := (5, 1)) rfl (by decide) h]
theorem cat_space {p : Int} (h : p = 8064 ∨ p = 160) : cat p = 2 := by
  rcases h with rfl | rfl <;> decide +kernel
def sysF (p : Int) : List Int → Int → Int × Int
  | [], _ => (-1, -1)
  | r :: l, i => if r ≤ p ∧ p ≤ r + 9 then (i, p - r) else sysF p l (i + 1)
theorem sys_loop {p : Int} (h : Pt p) (x : List Int) (hx : ∀ r ∈ x, 0 ≤ r ∧ r ≤ 100000) (hl : x.length ≤ 1000) : ∀ (suf pre : List Int), x = pre ++ suf → Ev2 (fun k j => impl_systemOf_L2 k j p x (x.length : Int) (pre.length : Int)) (sysF p suf (pre.length : Int))
  | [], pre, hs => by
    refine Ev2.ret fun k j => ?_
    rw [impl_systemOf_L2.eq, hs]
    simp only [W, W1]
    rw [if_neg (end_nlt pre)]
    rfl
  | r :: suf, pre, hs => by
    have hle : pre.length + 1 ≤ x.length := by rw [hs]; simp
    have hrd : rd x (pre.length : Int) 0 = r := by rw [hs]; exact rd_mid pre suf r _
    have hr := hx r (by rw [hs]; simp)
    have ha : addI .i64 r 9 = r + 9 := addI_i64 (by omega) (by omega)
    have hsb : subI .i64 p r = p - r := subI_i64 (by unfold Pt at h; omega) (by unfold Pt at h; omega)
    have e := fun k j => impl_systemOf_L2.eq p x (x.length : Int) (pre.length : Int) k j
    simp only [W, W1, W2, W3, hrd, ha, hsb, if_pos (nat_ge _), if_pos (show (pre.length : Int) < (x.length : Int) by omega), next_i pre r (by omega)] at e
    refine Ev2.step e (Ev2.bind (in_dec _ _ _) ?_)
    unfold sysF
    by_cases c : r ≤ p ∧ p ≤ r + 9
    · simp only [decide_eq_true c, W1]
      rw [if_pos c]
      exact Ev2.now _
    · simp only [decide_eq_false c, W1]
      rw [if_neg c]
      have := sys_loop h x hx hl suf (pre ++ [r]) (by rw [hs]; simp)
      rw [show ((((pre ++ [r]).length : Nat)) : Int) = (pre.length : Int) + 1 by simp] at this
      simpa using this
theorem sys_ev {p : Int} (h : Pt p) : ∃ s, Ev (fun k => impl_systemOf k p) (s, if Dg p then dg p else -1) := by
  have hl := sys_loop h [48, 592, 848, 1104, 1360, 1616, 10016] (by simp) (by simp) _ [] rfl
  have e : Ev (fun k => impl_systemOf k p) (sysF p [48, 592, 848, 1104, 1360, 1616, 10016] 0) := Ev.step (fun k => impl_systemOf.eq p k) hl.ev
  refine ⟨(sysF p [48, 592, 848, 1104, 1360, 1616, 10016] 0).1, ?_⟩
  have : (sysF p [48, 592, 848, 1104, 1360, 1616, 10016] 0).2 = if Dg p then dg p else -1 := by
    unfold Dg dg
    simp only [sysF]
    repeat' split
    all_goals try dsimp only
    all_goals omega
  rw [← this]
  exact e
theorem specDig {p : Int} (h : Pt p) : Ev (fun k => spec_DigitOf k p) (if Dg p then dg p else -1) := by
  have e := fun k => spec_DigitOf.eq p k
  simp only [W, W1, W3, if_neg (show ¬ (16 : Int) = 0 by omega), if_neg (show ¬ (10 : Int) = 0 by omega)] at e
  refine Ev.step e (Ev.bind (specCat p h.1 h.2) ?_)
  have h1 := rem_nn p h.1 16
  simp only [clit] at h1
  have h2 := rem_nn (p % 16) (by omega) 10
  simp only [clit] at h2
  by_cases c : Dg p
  · simp only [if_pos ((cat_dig h).2 c), if_pos c, h1, h2]
    exact Ev.now _
  · simp only [if_neg (fun g => c ((cat_dig h).1 g)), if_neg c]
    exact Ev.now _
/-! ### blocks -/
def bk (p : Int) : Int := if 512 ≤ p ∧ p < 1280 then p / 256 * 256 else 0
def bj (p : Int) : Int := if 512 ≤ p ∧ p < 1280 then p % 256 else 0
theorem implBlk {p : Int} (h : Pt p) : Ev (fun k => impl_block k p) (bk p, bj p) := by
  unfold Pt at h
  refine Ev.ret fun k => ?_
  rw [impl_block.eq]
  simp only [W, W1]
  unfold bk bj
  by_cases c1 : 512 ≤ p
  · by_cases c2 : p < 1280
    · obtain ⟨m, rfl⟩ : ∃ m : Nat, p = (m : Int) := ⟨p.toNat, by omega⟩
      obtain ⟨h1, h2⟩ := block_bits m (by omega) (by omega)
      rw [if_pos c1, if_pos c2, if_pos ⟨c1, c2⟩, if_pos ⟨c1, c2⟩, h1, h2]
      rfl
    · rw [if_pos c1, if_neg c2, if_neg (fun h => c2 h.2), if_neg (fun h => c2 h.2)]
  · rw [if_neg c1, if_neg (fun h => c1 h.1), if_neg (fun h => c1 h.1)]
theorem specBlk {p : Int} (h : Pt p) : Ev (fun k => spec_l06Block k p) (bk p) := by
  unfold Pt at h
  obtain ⟨m, rfl⟩ : ∃ m : Nat, p = (m : Int) := ⟨p.toNat, by omega⟩
  have h1 := quo_nat m 256 (by omega)
  have h2 := mul_nat (m / 256) 256 (by omega)
  simp only [clit] at h1 h2
  refine Ev.ret fun k => ?_
  rw [spec_l06Block.eq]
  simp only [W, W1, h1, h2, if_neg (show ¬ (256 : Int) = 0 by omega)]
  unfold bk
  by_cases c1 : (m : Int) < 512
  · rw [if_pos c1, if_neg (by omega)]
  · by_cases c2 : 1280 ≤ (m : Int)
    · rw [if_neg c1, if_pos c2, if_neg (by omega)]
    · rw [if_neg c1, if_neg c2, if_pos (by omega)]
      congr 1
/-! ### what a point shows -/
/-- behind the blocks of letters -/
def snT (p : Int) : List Int :=
  if (Dg p ∧ dg p = 0) ∨ p = 1280 then [111] else if (Dg p ∧ dg p = 1) ∨ p = 73 ∨ p = 1281 then [108] else if Dg p then [48 + dg p] else if cat p = 2 then [32] else [p]
def sn0 (p : Int) : List Int :=
  if cat p = 1 ∨ cat p = 11 then [] else if 0 < bk p ∧ bj p ≤ 5 then [65 + bj p] else if 0 < bk p ∧ (32 ≤ bj p ∧ bj p ≤ 37) then [65 + bj p] else if 0 < bk p ∧ bj p = 97 then [102] else snT p
def sn (p : Int) : List Int := if Wd p then (wd p.toNat).flatMap sn0 else sn0 p
theorem dg_b (p : Int) (h : 0 ≤ p) : 0 ≤ dg p ∧ dg p ≤ 9 := by unfold dg; omega
section
variable {p : Int} (h : Pt p) (hw : ¬ Wd p)
include h hw
theorem implT : Ev (fun k => impl_looks_J11 k p (cat p) (if Dg p then dg p else -1) false) (snT p) := by
  have hp := h
  unfold Pt at hp
  have hd := dg_b p h.1
  have e := fun k => impl_looks_J11.eq p (cat p) (if Dg p then dg p else -1) false k
  simp only [W, W1, W3] at e
  refine Ev.congr e ?_
  unfold snT
  by_cases c : Dg p
  · have hne : p ≠ 1280 ∧ p ≠ 73 ∧ p ≠ 1281 := by unfold Dg at c; omega
    simp only [if_pos c]
    by_cases d0 : dg p = 0
    · simp only [if_pos d0, if_pos (show (Dg p ∧ dg p = 0) ∨ p = 1280 from .inl ⟨c, d0⟩)]; exact Ev.now _
    have n0 : ¬ ((Dg p ∧ dg p = 0) ∨ p = 1280) := fun g => g.elim (fun g => d0 g.2) hne.1
    by_cases d1 : dg p = 1
    · simp only [if_neg d0, if_pos d1, if_neg n0, if_pos (show (Dg p ∧ dg p = 1) ∨ p = 73 ∨ p = 1281 from .inl ⟨c, d1⟩)]; exact Ev.now _
    have n1 : ¬ ((Dg p ∧ dg p = 1) ∨ p = 73 ∨ p = 1281) := fun g => g.elim (fun g => d1 g.2) (fun g => g.elim hne.2.1 hne.2.2)
    simp only [if_neg d0, if_neg d1, if_neg n0, if_neg n1, if_pos (show 1 < dg p by omega)]
    rw [addI_i64 (by omega) (by omega)]
    exact Ev.now _
  · simp only [if_neg c, if_neg (show ¬ (-1 : Int) = 0 by omega), if_neg (show ¬ (-1 : Int) = 1 by omega), if_neg (show ¬ (1 : Int) < -1 by omega)]
    by_cases d1 : p = 73
    · simp only [if_pos d1, if_neg (show ¬ ((Dg p ∧ dg p = 0) ∨ p = 1280) from fun g => g.elim (fun g => c g.1) (fun g => by omega)), if_pos (show (Dg p ∧ dg p = 1) ∨ p = 73 ∨ p = 1281 from .inr (.inl d1))]; exact Ev.now _
    by_cases d2 : p = 1281
    · simp only [if_neg d1, if_pos d2, if_neg (show ¬ ((Dg p ∧ dg p = 0) ∨ p = 1280) from fun g => g.elim (fun g => c g.1) (fun g => by omega)), if_pos (show (Dg p ∧ dg p = 1) ∨ p = 73 ∨ p = 1281 from .inr (.inr d2))]; exact Ev.now _
    by_cases d3 : p = 1280
    · simp only [if_neg d1, if_neg d2, if_pos d3, if_pos (show (Dg p ∧ dg p = 0) ∨ p = 1280 from .inr d3)]; exact Ev.now _
    simp only [if_neg d1, if_neg d2, if_neg d3, if_neg (show ¬ ((Dg p ∧ dg p = 0) ∨ p = 1280) from fun g => g.elim (fun g => c g.1) d3), if_neg (show ¬ ((Dg p ∧ dg p = 1) ∨ p = 73 ∨ p = 1281) from fun g => g.elim (fun g => c g.1) (fun g => g.elim d1 d2))]
    refine Ev.bind (in_dec _ 9984 10009) ?_
    simp only [decide_eq_false (show ¬ (9984 ≤ p ∧ p ≤ 10009) from fun g => hw (.inl g)), W1]
    refine Ev.bind (in_dec _ 10032 10035) ?_
    simp only [decide_eq_false (show ¬ (10032 ≤ p ∧ p ≤ 10035) from fun g => hw (.inr g)), W1]
    by_cases d4 : cat p = 2
    · simp only [if_pos d4]; exact Ev.now _
    · simp only [if_neg d4]
      exact Ev.of fun k => impl_looks_J32.eq p k
/-- out of the blocks -/
theorem implOut (hb : ¬ (512 ≤ p ∧ p < 1280)) : Ev (fun k => impl_looks k p) (sn0 p) := by
  obtain ⟨s, hs⟩ := sys_ev h
  have hbk : bk p = 0 := if_neg hb
  have hbj : bj p = 0 := if_neg hb
  have e := fun k => impl_looks.eq p k
  simp only [W, W1, W3] at e
  refine Ev.step e (Ev.bind (implCategory p h.1 h.2) (Ev.bind (implBlk h) (Ev.bind hs ?_)))
  have j5 : ∀ x : Bool, x = decide (cat p = 1 ∨ cat p = 11) → Ev (fun k => impl_looks_J5 k p (cat p) (bk p, bj p).1 (bk p, bj p).2 (s, if Dg p then dg p else -1).2 x) (sn0 p) := by
    intro x hx
    subst hx
    have e5 := fun k => impl_looks_J5.eq p (cat p) (bk p) (bj p) (if Dg p then dg p else -1) (decide (cat p = 1 ∨ cat p = 11)) k
    have e7 := fun k => impl_looks_J7.eq p (cat p) (bk p) (bj p) (if Dg p then dg p else -1) false k
    have e9 := fun k => impl_looks_J9.eq p (cat p) (bk p) (bj p) (if Dg p then dg p else -1) false k
    simp only [W, W1, hbk, hbj, if_neg (Int.lt_irrefl 0)] at e5 e7 e9
    simp only [hbk, hbj]
    by_cases c : cat p = 1 ∨ cat p = 11
    · simp only [if_pos c] at e5
      have hs0 : sn0 p = [] := if_pos c
      rw [hs0]
      exact Ev.congr e5 (Ev.now _)
    · simp only [if_neg c] at e5
      have hs0 : sn0 p = snT p := by
        unfold sn0
        rw [hbk, hbj, if_neg c, if_neg (show ¬ ((0 : Int) < 0 ∧ (0 : Int) ≤ 5) from fun g => absurd g.1 (by omega)), if_neg (show ¬ ((0 : Int) < 0 ∧ ((32 : Int) ≤ 0 ∧ (0 : Int) ≤ 37)) from fun g => absurd g.1 (by omega)), if_neg (show ¬ ((0 : Int) < 0 ∧ (0 : Int) = 97) from fun g => absurd g.1 (by omega))]
      rw [hs0]
      exact Ev.congr (fun k => (e5 k).trans ((e7 k).trans (e9 k))) (implT h hw)
  by_cases c1 : cat p = 1
  · simp only [if_pos c1]
    exact j5 true (by simp [c1])
  · simp only [if_neg c1]
    exact j5 _ (decide_eq_decide.2 ⟨fun g => .inr g, fun g => g.resolve_left c1⟩)
end
theorem sn0_letter {q : Int} (h : 65 ≤ q ∧ q ≤ 70) : sn0 q = [q] := by
  have hc := cat_letter (p := q) (by omega)
  have hb : bk q = 0 := if_neg (by omega)
  have hd : ¬ Dg q := by unfold Dg; omega
  unfold sn0 snT
  rw [hc, hb, if_neg (by omega), if_neg (by omega), if_neg (by omega), if_neg (by omega), if_neg (fun g => g.elim (fun g => hd g.1) (by omega)), if_neg (fun g => g.elim (fun g => hd g.1) (by omega)), if_neg hd, if_neg (by omega)]
section
variable {p : Int} (h : Pt p) (hw : ¬ Wd p)
include h hw
theorem implNW : Ev (fun k => impl_looks k p) (sn0 p) := by
  by_cases hb : 512 ≤ p ∧ p < 1280
  rotate_left
  · exact implOut h hw hb
  obtain ⟨s, hs⟩ := sys_ev h
  have hbk : bk p = p / 256 * 256 := if_pos hb
  have hbj : bj p = p % 256 := if_pos hb
  have hb0 : 0 < bk p := by rw [hbk]; omega
  have hj0 : 0 ≤ bj p ∧ bj p ≤ 255 := by rw [hbj]; omega
  have e := fun k => impl_looks.eq p k
  simp only [W, W1, W3] at e
  refine Ev.step e (Ev.bind (implCategory p h.1 h.2) (Ev.bind (implBlk h) (Ev.bind hs ?_)))
  have j5 : ∀ x : Bool, x = decide (cat p = 1 ∨ cat p = 11) → Ev (fun k => impl_looks_J5 k p (cat p) (bk p, bj p).1 (bk p, bj p).2 (s, if Dg p then dg p else -1).2 x) (sn0 p) := by
    intro x hx
    subst hx
    have e5 := fun k => impl_looks_J5.eq p (cat p) (bk p) (bj p) (if Dg p then dg p else -1) (decide (cat p = 1 ∨ cat p = 11)) k
    simp only [W, W1, if_pos hb0] at e5
    unfold sn0
    refine Ev.congr e5 ?_
    by_cases c : cat p = 1 ∨ cat p = 11
    · simp only [if_pos c]
      exact Ev.now _
    simp only [if_neg c]
    by_cases d1 : bj p ≤ 5
    · simp only [decide_eq_true d1]
      rw [if_pos (show 0 < bk p ∧ bj p ≤ 5 from ⟨hb0, d1⟩)]
      have e7 := fun k => impl_looks_J7.eq p (cat p) (bk p) (bj p) (if Dg p then dg p else -1) true k
      have ha : addI .i64 65 (bj p) = 65 + bj p := addI_i64 (by omega) (by omega)
      simp only [W1, W3, ha] at e7
      have hq : Pt (65 + bj p) := by unfold Pt; omega
      have := implOut hq (by unfold Wd; omega) (by omega)
      rw [sn0_letter (by omega)] at this
      exact Ev.congr e7 (Ev.bind this (Ev.now _))
    simp only [decide_eq_false d1]
    rw [if_neg (show ¬ (0 < bk p ∧ bj p ≤ 5) from fun g => d1 g.2)]
    have e7 := fun k => impl_looks_J7.eq p (cat p) (bk p) (bj p) (if Dg p then dg p else -1) false k
    simp only [W, W1, W3, if_pos hb0] at e7
    refine Ev.congr e7 (Ev.bind (in_dec _ 32 37) ?_)
    by_cases d2 : 32 ≤ bj p ∧ bj p ≤ 37
    · simp only [decide_eq_true d2]
      rw [if_pos (show 0 < bk p ∧ (32 ≤ bj p ∧ bj p ≤ 37) from ⟨hb0, d2⟩)]
      have e9 := fun k => impl_looks_J9.eq p (cat p) (bk p) (bj p) (if Dg p then dg p else -1) true k
      have ha : subI .i64 (addI .i64 97 (bj p)) 32 = 65 + bj p := by rw [show addI .i64 97 (bj p) = 97 + bj p from addI_i64 (by omega) (by omega), subI_i64 (by omega) (by omega)]; omega
      simp only [W1, ha] at e9
      exact Ev.congr e9 (Ev.now _)
    simp only [decide_eq_false d2]
    rw [if_neg (show ¬ (0 < bk p ∧ (32 ≤ bj p ∧ bj p ≤ 37)) from fun g => d2 g.2)]
    have e9 := fun k => impl_looks_J9.eq p (cat p) (bk p) (bj p) (if Dg p then dg p else -1) false k
    simp only [W, W1, if_pos hb0] at e9
    refine Ev.congr e9 ?_
    by_cases d3 : bj p = 97
    · simp only [decide_eq_true d3]
      rw [if_pos (show 0 < bk p ∧ bj p = 97 from ⟨hb0, d3⟩)]
      refine Ev.of fun k => ?_
      rw [impl_looks_J11.eq]
      simp only [W1]
    · simp only [decide_eq_false d3]
      rw [if_neg (show ¬ (0 < bk p ∧ bj p = 97) from fun g => d3 g.2)]
      exact implT h hw
  by_cases c1 : cat p = 1
  · simp only [if_pos c1]
    exact j5 true (by simp [c1])
  · simp only [if_neg c1]
    exact j5 _ (decide_eq_decide.2 ⟨fun g => .inr g, fun g => g.resolve_left c1⟩)
end
theorem wd_len (n : Nat) : (wd n).length ≤ 2 := by
  unfold wd
  repeat' split
  all_goals simp
theorem wd_small {n : Nat} (h : Wd (n : Int)) : ∀ q ∈ wd n, Pt q ∧ ¬ Wd q ∧ ((65 ≤ q ∧ q ≤ 90) ∨ (97 ≤ q ∧ q ≤ 122)) := by
  unfold Wd at h
  unfold wd
  by_cases c1 : 9984 ≤ n ∧ n ≤ 10009
  · rw [if_pos c1]
    exact one ⟨⟨by omega, by omega⟩, by unfold Wd; omega, .inl (by omega)⟩
  · rw [if_neg c1, if_neg (by omega), if_neg (by omega)]
    have key : ∀ a b : Int, (97 ≤ a ∧ a ≤ 122) → (97 ≤ b ∧ b ≤ 122) → ∀ q ∈ [a, b], Pt q ∧ ¬ Wd q ∧ ((65 ≤ q ∧ q ≤ 90) ∨ (97 ≤ q ∧ q ≤ 122)) := fun a b ha hb =>
      two ⟨⟨by omega, by omega⟩, by unfold Wd; omega, .inr ha⟩ ⟨⟨by omega, by omega⟩, by unfold Wd; omega, .inr hb⟩
    by_cases d0 : n = 10032
    · rw [if_pos d0]; exact key _ _ (by omega) (by omega)
    by_cases d1 : n = 10033
    · rw [if_neg d0, if_pos d1]; exact key _ _ (by omega) (by omega)
    by_cases d2 : n = 10034
    · rw [if_neg d0, if_neg d1, if_pos d2]; exact key _ _ (by omega) (by omega)
    by_cases d3 : n = 10035
    · rw [if_neg d0, if_neg d1, if_neg d2, if_pos d3]; exact key _ _ (by omega) (by omega)
    · omega
theorem sn0_len (p : Int) : (sn0 p).length ≤ 1 := by
  unfold sn0 snT
  repeat' split
  all_goals simp
theorem implL25 (Nil : Bool) (l : List Int) (hl : l.length ≤ 2) (h : ∀ q ∈ l, Pt q ∧ ¬ Wd q) : ∀ (suf pre out : List Int), l = pre ++ suf → out.length ≤ pre.length → Ev2 (fun k j => impl_looks_L25 k j (l.length : Int) (pre.length : Int) out Nil l) (out ++ suf.flatMap sn0)
  | [], pre, out, hs, ho => by
    refine Ev2.ret fun k j => ?_
    rw [impl_looks_L25.eq, hs]
    simp only [W, W1]
    rw [if_neg (end_nlt pre)]
    simp
  | q :: suf, pre, out, hs, ho => by
    have hle : pre.length + 1 ≤ l.length := by rw [hs]; simp
    have hrd : rd l (pre.length : Int) 0 = q := by rw [hs]; exact rd_mid pre suf q _
    have hq := h q (by rw [hs]; simp)
    have hsl := sn0_len q
    have e := fun k j => impl_looks_L25.eq (l.length : Int) (pre.length : Int) out Nil l k j
    simp only [W, W1, W2, W3, hrd, if_pos (nat_ge _), if_pos (show (pre.length : Int) < (l.length : Int) by omega), next_i pre q (by omega)] at e
    refine Ev2.step e (Ev2.bind (implNW hq.1 hq.2) ?_)
    simp only [if_pos (show (((out.length : Nat) : Int) + (((sn0 q).length : Nat) : Int)) * 8 < 140737488355328 by omega)]
    have := implL25 Nil l hl h suf (pre ++ [q]) (out ++ sn0 q) (by rw [hs]; simp) (by simp; omega)
    simpa using this
theorem implSeen {p : Int} (h : Pt p) : Ev (fun k => impl_looks k p) (sn p) := by
  unfold sn
  by_cases hw : Wd p
  rotate_left
  · rw [if_neg hw]; exact implNW h hw
  rw [if_pos hw]
  have hp := h
  unfold Pt at hp
  obtain ⟨n, rfl⟩ : ∃ n : Nat, p = (n : Int) := ⟨p.toNat, by omega⟩
  rw [Int.toNat_natCast]
  have hw' := hw
  unfold Wd at hw'
  have hc := cat_wide hw
  have hbk : bk (n : Int) = 0 := if_neg (by omega)
  have hbj : bj (n : Int) = 0 := if_neg (by omega)
  have hnd : ¬ Dg (n : Int) := by unfold Dg; omega
  obtain ⟨s, hs⟩ := sys_ev h
  rw [if_neg hnd] at hs
  have hprt : prt true n = wd n := by
    rw [prt_b n true (by omega)]
    unfold prB
    rw [if_neg (by omega), if_neg (by omega), if_neg (by decide)]
  have hI := implParts n (by omega) true
  rw [hprt] at hI
  have hL := (implL25 (decide (wd n = [])) (wd n) (wd_len n) (fun q hq => ⟨(wd_small hw q hq).1, (wd_small hw q hq).2.1⟩) (wd n) [] [] rfl (by simp)).ev
  rw [List.nil_append] at hL
  have e := fun k => impl_looks.eq (n : Int) k
  simp only [W, W1, W3] at e
  refine Ev.step e (Ev.bind (implCategory _ h.1 h.2) (Ev.bind (implBlk h) (Ev.bind hs ?_)))
  simp only [hc, hbk, hbj, if_neg (show ¬ (10 : Int) = 1 by omega), decide_eq_false (show ¬ (10 : Int) = 11 by omega)]
  have e5 := fun k => impl_looks_J5.eq (n : Int) 10 0 0 (-1) false k
  have e7 := fun k => impl_looks_J7.eq (n : Int) 10 0 0 (-1) false k
  have e9 := fun k => impl_looks_J9.eq (n : Int) 10 0 0 (-1) false k
  have e11 := fun k => impl_looks_J11.eq (n : Int) 10 (-1) false k
  simp only [W, W1, W2, W3, if_neg (Int.lt_irrefl 0), if_neg (show ¬ (-1 : Int) = 0 by omega), if_neg (show ¬ (-1 : Int) = 1 by omega), if_neg (show ¬ (1 : Int) < -1 by omega), if_neg (show ¬ (n : Int) = 73 by omega), if_neg (show ¬ (n : Int) = 1281 by omega), if_neg (show ¬ (n : Int) = 1280 by omega)] at e5 e7 e9 e11
  refine Ev.congr (fun k => (e5 k).trans ((e7 k).trans ((e9 k).trans (e11 k)))) ?_
  refine Ev.bind (in_dec _ 9984 10009) ?_
  by_cases d : 9984 ≤ (n : Int) ∧ (n : Int) ≤ 10009
  · simp only [decide_eq_true d, W1]
    exact Ev.bind hI hL
  · simp only [decide_eq_false d, W1]
    refine Ev.bind (in_dec _ 10032 10035) ?_
    simp only [decide_eq_true (show 10032 ≤ (n : Int) ∧ (n : Int) ≤ 10035 by omega), W1]
    exact Ev.bind hI hL
/-! ### the reference -/
theorem wd_spec {p : Int} (h : Pt p) : Ev (fun k => spec_l05Wide k p) (wd p.toNat) := by
  unfold Pt at h
  obtain ⟨n, rfl⟩ : ∃ n : Nat, p = (n : Int) := ⟨p.toNat, by omega⟩
  rw [Int.toNat_natCast]
  exact specWide n (by omega)
theorem specT {p : Int} (h : Pt p) (w : List Int) {last : List Int} (hlast : ¬ Dg p → cat p ≠ 2 → Ev (fun k => if 0 < (w.length : Int) then spec_l19Seen_L23 k k 0 w [] else spec_l19Seen_J27 k p) last) :
    Ev (fun k => spec_l19Seen_J11 k p (cat p) false w) (if (Dg p ∧ dg p = 0) ∨ p = 1280 then [111] else if (Dg p ∧ dg p = 1) ∨ p = 73 ∨ p = 1281 then [108] else if Dg p then [48 + dg p] else if cat p = 2 then [32] else last) := by
  have hd := dg_b p h.1
  have e15 := fun (x : Bool) k => spec_l19Seen_J15.eq p (cat p) x w k
  have e13 := fun (x : Bool) k => spec_l19Seen_J13.eq p (cat p) x w k
  have e11 := fun k => spec_l19Seen_J11.eq p (cat p) false w k
  simp only [W, W1, W2, W3] at e15 e13 e11
  have t15 := e15 true
  have t13 := e13 true
  have f15 := e15 false
  have f13 := e13 false
  simp only [W1] at t15 t13 f15 f13
  by_cases c : Dg p
  · have hne : p ≠ 1280 ∧ p ≠ 73 ∧ p ≠ 1281 := by unfold Dg at c; omega
    have hc8 := (cat_dig h).2 c
    have hD := specDig h
    simp only [if_pos c] at hD
    simp only [if_pos hc8, if_neg hne.1, if_neg hne.2.1, if_neg hne.2.2, decide_eq_false hne.1, decide_eq_false hne.2.2] at e11 f13 f15
    refine Ev.congr e11 (Ev.bind hD ?_)
    by_cases d0 : dg p = 0
    · simp only [if_pos d0, if_pos (show (Dg p ∧ dg p = 0) ∨ p = 1280 from .inl ⟨c, d0⟩)]
      exact Ev.congr t13 (Ev.now _)
    have n0 : ¬ ((Dg p ∧ dg p = 0) ∨ p = 1280) := fun g => g.elim (fun g => d0 g.2) hne.1
    simp only [if_neg d0, if_neg n0]
    refine Ev.congr f13 (Ev.bind hD ?_)
    by_cases d1 : dg p = 1
    · simp only [if_pos d1, if_pos (show (Dg p ∧ dg p = 1) ∨ p = 73 ∨ p = 1281 from .inl ⟨c, d1⟩)]
      exact Ev.congr t15 (Ev.now _)
    have n1 : ¬ ((Dg p ∧ dg p = 1) ∨ p = 73 ∨ p = 1281) := fun g => g.elim (fun g => d1 g.2) (fun g => g.elim hne.2.1 hne.2.2)
    simp only [if_neg d1, if_neg n1, if_pos c]
    refine Ev.congr f15 (Ev.bind hD ?_)
    rw [addI_i64 (by omega) (by omega)]
    exact Ev.now _
  · have hc8 : ¬ cat p = 8 := fun g => c ((cat_dig h).1 g)
    simp only [if_neg hc8] at e11 f13 f15
    refine Ev.congr e11 ?_
    by_cases d3 : p = 1280
    · simp only [decide_eq_true d3, if_pos (show (Dg p ∧ dg p = 0) ∨ p = 1280 from .inr d3)]
      exact Ev.congr t13 (Ev.now _)
    simp only [decide_eq_false d3, if_neg (show ¬ ((Dg p ∧ dg p = 0) ∨ p = 1280) from fun g => g.elim (fun g => c g.1) d3)]
    refine Ev.congr f13 ?_
    by_cases d1 : p = 73
    · simp only [if_pos d1, if_pos (show (Dg p ∧ dg p = 1) ∨ p = 73 ∨ p = 1281 from .inr (.inl d1))]
      exact Ev.congr t15 (Ev.now _)
    simp only [if_neg d1]
    by_cases d2 : p = 1281
    · simp only [decide_eq_true d2, if_pos (show (Dg p ∧ dg p = 1) ∨ p = 73 ∨ p = 1281 from .inr (.inr d2))]
      exact Ev.congr t15 (Ev.now _)
    simp only [decide_eq_false d2, if_neg (show ¬ ((Dg p ∧ dg p = 1) ∨ p = 73 ∨ p = 1281) from fun g => g.elim (fun g => c g.1) (fun g => g.elim d1 d2)), if_neg c]
    refine Ev.congr f15 ?_
    by_cases d4 : cat p = 2
    · simp only [if_pos d4]; exact Ev.now _
    · simp only [if_neg d4]; exact hlast c d4
theorem specBl {p : Int} (h : Pt p) (w : List Int) (hww : Ev (fun k => spec_l05Wide k p) w) {last : List Int} (hlast : ¬ Dg p → cat p ≠ 2 → Ev (fun k => if 0 < (w.length : Int) then spec_l19Seen_L23 k k 0 w [] else spec_l19Seen_J27 k p) last) :
    Ev (fun k => spec_l19Seen k p) (if cat p = 1 ∨ cat p = 11 then [] else if 0 < bk p ∧ bj p ≤ 5 then [65 + bj p] else if 0 < bk p ∧ (32 ≤ bj p ∧ bj p ≤ 37) then [65 + bj p] else if 0 < bk p ∧ bj p = 97 then [102]
      else (if (Dg p ∧ dg p = 0) ∨ p = 1280 then [111] else if (Dg p ∧ dg p = 1) ∨ p = 73 ∨ p = 1281 then [108] else if Dg p then [48 + dg p] else if cat p = 2 then [32] else last)) := by
  have hp := h
  unfold Pt at hp
  have e := fun k => spec_l19Seen.eq p k
  simp only [W, W1, W3] at e
  have hT := specT h w hlast
  refine Ev.step e (Ev.bind (specCat p h.1 h.2) (Ev.bind (specBlk h) (Ev.bind hww ?_)))
  have hbr : (0 < bk p ∧ bk p = p / 256 * 256 ∧ bj p = p % 256 ∧ 512 ≤ p ∧ p < 1280) ∨ (bk p = 0 ∧ bj p = 0) := by
    unfold bk bj
    by_cases c : 512 ≤ p ∧ p < 1280
    · rw [if_pos c, if_pos c]; exact .inl ⟨by omega, rfl, rfl, c⟩
    · rw [if_neg c, if_neg c]; exact .inr ⟨rfl, rfl⟩
  have j5 : ∀ x : Bool, x = decide (cat p = 1 ∨ cat p = 11) → Ev (fun k => spec_l19Seen_J5 k p (cat p) (bk p) x w) (if cat p = 1 ∨ cat p = 11 then [] else if 0 < bk p ∧ bj p ≤ 5 then [65 + bj p] else if 0 < bk p ∧ (32 ≤ bj p ∧ bj p ≤ 37) then [65 + bj p] else if 0 < bk p ∧ bj p = 97 then [102]
      else (if (Dg p ∧ dg p = 0) ∨ p = 1280 then [111] else if (Dg p ∧ dg p = 1) ∨ p = 73 ∨ p = 1281 then [108] else if Dg p then [48 + dg p] else if cat p = 2 then [32] else last)) := by
    intro x hx
    subst hx
    have e5 := fun k => spec_l19Seen_J5.eq p (cat p) (bk p) (decide (cat p = 1 ∨ cat p = 11)) w k
    have e7 := fun (x : Bool) k => spec_l19Seen_J7.eq p (cat p) (bk p) x w k
    have e9 := fun (x : Bool) k => spec_l19Seen_J9.eq p (cat p) (bk p) x w k
    simp only [W, W1] at e5 e7 e9
    refine Ev.congr e5 ?_
    by_cases c : cat p = 1 ∨ cat p = 11
    · simp only [if_pos c]
      exact Ev.now _
    simp only [if_neg c]
    rcases hbr with ⟨b1, b2, b3, b4, b5⟩ | ⟨b1, b2⟩
    · have a1 : addI .i64 (bk p) 5 = bk p + 5 := addI_i64 (by omega) (by omega)
      have a2 : addI .i64 (bk p) 32 = bk p + 32 := addI_i64 (by omega) (by omega)
      have a3 : addI .i64 (bk p) 37 = bk p + 37 := addI_i64 (by omega) (by omega)
      have a4 : addI .i64 (bk p) 97 = bk p + 97 := addI_i64 (by omega) (by omega)
      have a5 : subI .i64 (addI .i64 65 p) (bk p) = 65 + bj p := by rw [show addI .i64 65 p = 65 + p from addI_i64 (by omega) (by omega), subI_i64 (by omega) (by omega)]; omega
      have a6 : subI .i64 (subI .i64 (addI .i64 97 p) (bk p)) 32 = 65 + bj p := by rw [show addI .i64 97 p = 97 + p from addI_i64 (by omega) (by omega), show subI .i64 (97 + p) (bk p) = 97 + p - bk p from subI_i64 (by omega) (by omega), subI_i64 (by omega) (by omega)]; omega
      simp only [if_pos b1, a1, a2, a3, a4, a5, a6] at e7 e9 ⊢
      by_cases d1 : bj p ≤ 5
      · simp only [decide_eq_true (show p ≤ bk p + 5 by omega)]
        rw [if_pos (show 0 < bk p ∧ bj p ≤ 5 from ⟨b1, d1⟩)]
        have := e7 true
        simp only [W1] at this
        exact Ev.congr this (Ev.now _)
      simp only [decide_eq_false (show ¬ p ≤ bk p + 5 by omega)]
      rw [if_neg (show ¬ (0 < bk p ∧ bj p ≤ 5) from fun g => d1 g.2)]
      have g7 := e7 false
      simp only [W1] at g7
      refine Ev.congr g7 ?_
      have g9 := e9 false
      have t9 := e9 true
      simp only [W1] at g9 t9
      have rest : Ev (fun k => spec_l19Seen_J9 k p (cat p) (bk p) false w) (if 0 < bk p ∧ bj p = 97 then [102] else (if (Dg p ∧ dg p = 0) ∨ p = 1280 then [111] else if (Dg p ∧ dg p = 1) ∨ p = 73 ∨ p = 1281 then [108] else if Dg p then [48 + dg p] else if cat p = 2 then [32] else last)) := by
        refine Ev.congr g9 ?_
        by_cases d3 : bj p = 97
        · simp only [decide_eq_true (show p = bk p + 97 by omega)]
          rw [if_pos (show 0 < bk p ∧ bj p = 97 from ⟨b1, d3⟩)]
          refine Ev.of fun k => ?_
          rw [spec_l19Seen_J11.eq]
          simp only [W1]
        · simp only [decide_eq_false (show ¬ p = bk p + 97 by omega)]
          rw [if_neg (show ¬ (0 < bk p ∧ bj p = 97) from fun g => d3 g.2)]
          exact hT
      by_cases d2 : 32 ≤ bj p
      · simp only [if_pos (show bk p + 32 ≤ p by omega)]
        by_cases d2' : bj p ≤ 37
        · simp only [decide_eq_true (show p ≤ bk p + 37 by omega)]
          rw [if_pos (show 0 < bk p ∧ (32 ≤ bj p ∧ bj p ≤ 37) from ⟨b1, d2, d2'⟩)]
          exact Ev.congr t9 (Ev.now _)
        · simp only [decide_eq_false (show ¬ p ≤ bk p + 37 by omega)]
          rw [if_neg (show ¬ (0 < bk p ∧ (32 ≤ bj p ∧ bj p ≤ 37)) from fun g => d2' g.2.2)]
          exact rest
      · simp only [if_neg (show ¬ bk p + 32 ≤ p by omega)]
        rw [if_neg (show ¬ (0 < bk p ∧ (32 ≤ bj p ∧ bj p ≤ 37)) from fun g => d2 g.2.1)]
        exact rest
    · have nb : ¬ 0 < bk p := by omega
      have g7 := e7 false
      have g9 := e9 false
      simp only [W1, if_neg nb] at g7 g9
      simp only [if_neg nb]
      rw [if_neg (show ¬ (0 < bk p ∧ bj p ≤ 5) from fun g => nb g.1), if_neg (show ¬ (0 < bk p ∧ (32 ≤ bj p ∧ bj p ≤ 37)) from fun g => nb g.1), if_neg (show ¬ (0 < bk p ∧ bj p = 97) from fun g => nb g.1)]
      exact Ev.congr (fun k => (g7 k).trans (g9 k)) hT
  by_cases c1 : cat p = 1
  · simp only [if_pos c1]
    exact j5 true (by simp [c1])
  · simp only [if_neg c1]
    exact j5 _ (decide_eq_decide.2 ⟨fun g => .inr g, fun g => g.resolve_left c1⟩)
/-- a point without parts of its own -/
theorem specN0 {p : Int} (h : Pt p) (hw : ¬ Wd p) : Ev (fun k => spec_l19Seen k p) (sn0 p) := by
  refine specBl h _ (wd_spec h) (last := [p]) (fun hd hc => ?_)
  have hp := h
  unfold Pt at hp
  have : wd p.toNat = [] := by
    unfold Wd at hw
    unfold Dg at hd
    have hs : ¬ (p = 8064 ∨ p = 160) := fun g => hc (cat_space g)
    unfold wd
    rw [if_neg (by omega), if_neg (by omega), if_neg (by omega), if_neg (by omega), if_neg (by omega), if_neg (by omega), if_neg (by omega)]
  rw [this]
  simp only [List.length_nil, if_neg (show ¬ (0 : Int) < ((0 : Nat) : Int) by omega)]
  exact Ev.of fun k => spec_l19Seen_J27.eq p k
theorem specL23 (l : List Int) (hl : l.length ≤ 2) (h : ∀ q ∈ l, Pt q ∧ ¬ Wd q) : ∀ (suf pre out : List Int), l = pre ++ suf → out.length ≤ pre.length → Ev2 (fun k j => spec_l19Seen_L23 k j (pre.length : Int) l out) (out ++ suf.flatMap sn0)
  | [], pre, out, hs, ho => by
    refine Ev2.ret fun k j => ?_
    rw [spec_l19Seen_L23.eq, hs]
    simp only [W, W1, W2]
    rw [if_neg (end_nlt pre)]
    simp
  | q :: suf, pre, out, hs, ho => by
    have hle : pre.length + 1 ≤ l.length := by rw [hs]; simp
    have hrd : rd l (pre.length : Int) 0 = q := by rw [hs]; exact rd_mid pre suf q _
    have hq := h q (by rw [hs]; simp)
    have hsl := sn0_len q
    have e := fun k j => spec_l19Seen_L23.eq (pre.length : Int) l out k j
    simp only [W, W1, W2, W3, hrd, if_pos (nat_ge _), if_pos (show (pre.length : Int) < (l.length : Int) by omega), next_i pre q (by omega)] at e
    refine Ev2.step e (Ev2.bind (specN0 hq.1 hq.2) ?_)
    simp only [if_pos (show (((out.length : Nat) : Int) + (((sn0 q).length : Nat) : Int)) * 8 < 140737488355328 by omega)]
    have := specL23 l hl h suf (pre ++ [q]) (out ++ sn0 q) (by rw [hs]; simp) (by simp; omega)
    simpa using this
theorem specSeen {p : Int} (h : Pt p) : Ev (fun k => spec_l19Seen k p) (sn p) := by
  unfold sn
  by_cases hw : Wd p
  rotate_left
  · rw [if_neg hw]; exact specN0 h hw
  rw [if_pos hw]
  have hp := h
  unfold Pt at hp
  obtain ⟨n, rfl⟩ : ∃ n : Nat, p = (n : Int) := ⟨p.toNat, by omega⟩
  have hw' := hw
  unfold Wd at hw'
  have hc := cat_wide hw
  have hbk : bk (n : Int) = 0 := if_neg (by omega)
  have hnd : ¬ Dg (n : Int) := by unfold Dg; omega
  have hS := specBl h _ (wd_spec h) (last := (wd (n : Int).toNat).flatMap sn0) (fun _ _ => by
    rw [Int.toNat_natCast]
    have hne : (wd n).length ≠ 0 := fun g => by
      have g := List.length_eq_zero_iff.1 g
      unfold wd at g
      by_cases c1 : 9984 ≤ n ∧ n ≤ 10009
      · rw [if_pos c1] at g; cases g
      rw [if_neg c1, if_neg (by omega), if_neg (by omega)] at g
      by_cases d0 : n = 10032
      · rw [if_pos d0] at g; cases g
      by_cases d1 : n = 10033
      · rw [if_neg d0, if_pos d1] at g; cases g
      by_cases d2 : n = 10034
      · rw [if_neg d0, if_neg d1, if_pos d2] at g; cases g
      rw [if_neg d0, if_neg d1, if_neg d2, if_pos (by omega)] at g
      cases g
    simp only [if_pos (show (0 : Int) < ((wd n).length : Int) by omega)]
    have := (specL23 (wd n) (wd_len n) (fun q hq => ⟨(wd_small hw q hq).1, (wd_small hw q hq).2.1⟩) (wd n) [] [] rfl (by simp)).ev
    rw [List.nil_append] at this
    exact this)
  have e : (if cat (n : Int) = 1 ∨ cat (n : Int) = 11 then [] else if 0 < bk (n : Int) ∧ bj (n : Int) ≤ 5 then [65 + bj (n : Int)] else if 0 < bk (n : Int) ∧ (32 ≤ bj (n : Int) ∧ bj (n : Int) ≤ 37) then [65 + bj (n : Int)] else if 0 < bk (n : Int) ∧ bj (n : Int) = 97 then [102]
      else (if (Dg (n : Int) ∧ dg (n : Int) = 0) ∨ (n : Int) = 1280 then [111] else if (Dg (n : Int) ∧ dg (n : Int) = 1) ∨ (n : Int) = 73 ∨ (n : Int) = 1281 then [108] else if Dg (n : Int) then [48 + dg (n : Int)] else if cat (n : Int) = 2 then [32] else (wd (n : Int).toNat).flatMap sn0)) = (wd (n : Int).toNat).flatMap sn0 := by
    rw [hc, hbk, if_neg (by omega), if_neg (by omega), if_neg (by omega), if_neg (by omega), if_neg (fun g => g.elim (fun g => hnd g.1) (by omega)), if_neg (fun g => g.elim (fun g => hnd g.1) (by omega)), if_neg hnd, if_neg (by omega)]
  rw [e] at hS
  exact hS
end Go.Proofs.YtmmmlfndnoeedaaDoor.IX
