/- slices.SortStableFunc, plainly, second part: searches, merges, runs; the row in order. -/
import Derived.Test.YtfbhkkedmfbgbaaDoorPSort
namespace Go.Proofs.YtfbhkkedmfbgbaaDoor.PM.St
open Go.Eng Go.RowKit
set_option linter.unusedVariables false
set_option linter.unusedSimpArgs false
/-- a search by halves: where it ends all ahead of it has told yes, all behind it no -/
theorem halves {β : Type} {L : Nat → Nat → Int → Int → Option β} {nxt : Nat → Int → Option β} {Q : Nat → Prop} (lo hi : Nat)
    (hend : ∀ i : Nat, ∀ r, Ev (fun k => nxt k (i : Int)) r → Ev2 (fun k q => L k q (i : Int) (i : Int)) r)
    (hyes : ∀ i j : Nat, lo ≤ i → i < j → j ≤ hi → ∀ h, h = (i + j) / 2 → Q h → ∀ r, Ev2 (fun k q => L k q ((h + 1 : Nat) : Int) (j : Int)) r → Ev2 (fun k q => L k q (i : Int) (j : Int)) r)
    (hno : ∀ i j : Nat, lo ≤ i → i < j → j ≤ hi → ∀ h, h = (i + j) / 2 → ¬ Q h → ∀ r, Ev2 (fun k q => L k q (i : Int) (h : Int)) r → Ev2 (fun k q => L k q (i : Int) (j : Int)) r) :
    ∀ (n i j : Nat), j - i ≤ n → lo ≤ i → i ≤ j → j ≤ hi → (i = lo ∨ Q (i - 1)) → (j = hi ∨ ¬ Q j) → ∃ s, lo ≤ s ∧ s ≤ hi ∧ (s = lo ∨ Q (s - 1)) ∧ (s = hi ∨ ¬ Q s) ∧ ∀ r, Ev (fun k => nxt k (s : Int)) r → Ev2 (fun k q => L k q (i : Int) (j : Int)) r
  | n, i, j, hn, h1, h2, h3, h4, h5 => by
    by_cases e : i = j
    · subst e
      exact ⟨i, h1, h3, h4, h5, fun r hr => hend i r hr⟩
    · cases n with
      | zero => omega
      | succ n =>
        by_cases g : Q ((i + j) / 2)
        · obtain ⟨s, s1, s2, s3, s4, s5⟩ := halves lo hi hend hyes hno n ((i + j) / 2 + 1) j (by omega) (by omega) (by omega) h3 (.inr (by rw [Nat.add_sub_cancel]; exact g)) h5
          exact ⟨s, s1, s2, s3, s4, fun r hr => hyes i j h1 (by omega) h3 _ rfl g r (s5 r hr)⟩
        · obtain ⟨s, s1, s2, s3, s4, s5⟩ := halves lo hi hend hyes hno n i ((i + j) / 2) (by omega) h1 (by omega) (by omega) h4 (.inr g)
          exact ⟨s, s1, s2, s3, s4, fun r hr => hno i j h1 (by omega) h3 _ rfl g r (s5 r hr)⟩
section
variable {α : Type} {z : α} {kf : α → Int} {ix : Int → Int} {nn : List α → Int} {cmp : Nat → α → α → Option Int}
theorem split_at (l : List α) (i : Nat) (h : i ≤ l.length) : ∃ a b, l = a ++ b ∧ a.length = i := ⟨l.take i, l.drop i, (List.take_append_drop _ _).symm, by rw [List.length_take]; omega⟩
theorem rd_get1 (A l B : List α) (i : Nat) (z : α) (h : i < l.length) : rd (A ++ (l ++ B)) ((A.length + i : Nat) : Int) z = l[i] := by
  obtain ⟨a, b, rfl, ha⟩ := split_at l i (by omega)
  cases b with
  | nil => simp at h; omega
  | cons y b =>
    have := rd_mid (A ++ a) (b ++ B) y z
    rw [List.length_append, ha] at this
    rw [show A ++ (a ++ y :: b ++ B) = A ++ a ++ y :: (b ++ B) by simp, this]
    subst ha
    simp
theorem srt_get {l : List α} (h : Srt kf l) (i j : Nat) (hj : j < l.length) (hij : i ≤ j) : kf (l[i]'(by omega)) ≤ kf l[j] := by
  rcases Nat.lt_or_ge i j with g | g
  · exact List.pairwise_iff_getElem.1 h i j (by omega) hj g
  · obtain rfl : i = j := by omega
    exact Int.le_refl _
variable (S : SEq z ix nn cmp) (o w : Nat) (hix : ∀ i, ix i = (o : Int) + i) (T : Nat) (hnn : ∀ l : List α, l.length = T → nn l = (w : Int)) (hw : w ≤ 549755813888)
  (hcmp : ∀ x y, ∃ c, Ev (fun k => cmp k x y) c ∧ (c < 0 ↔ kf x < kf y))
include hix hnn hw hcmp
/-- an element ahead of a row in order -/
theorem one_up (a : Nat) (A Y B : List α) (x : α) (hA : A.length = o + a) (hl : a + 1 + Y.length ≤ w) (hT : (A ++ x :: (Y ++ B)).length = T) (hs : Srt kf Y) :
    ∃ out, Same kf (x :: Y) out ∧ Srt kf out ∧ Ev2 (fun k q => S.symL3 k q (a : Int) ((a + 1 : Nat) : Int) ((a + 1 + Y.length : Nat) : Int) (A ++ x :: (Y ++ B))) ((), A ++ (out ++ B)) := by
  have hat : ∀ h, (h0 : a + 1 ≤ h) → (h' : h < a + 1 + Y.length) → rd (A ++ x :: (Y ++ B)) (ix (h : Int)) z = Y[h - (a + 1)]'(by omega) := fun h h1 h2 => by
    rw [hix, show ((o : Int) + (h : Int)) = (((A ++ [x]).length + (h - (a + 1)) : Nat) : Int) by simp; omega]
    have := rd_get1 (A ++ [x]) Y B (h - (a + 1)) z (by omega)
    rw [← this]
    simp
  have hx : rd (A ++ x :: (Y ++ B)) (ix (a : Int)) z = x := by
    rw [hix, show ((o : Int) + (a : Int)) = (A.length : Int) by omega]; exact rd_mid _ _ _ _
  obtain ⟨Q, hQ⟩ : ∃ Q : Nat → Prop, ∀ h, Q h ↔ (∃ h' : h - (a + 1) < Y.length, kf Y[h - (a + 1)] < kf x) := ⟨fun h => _, fun h => Iff.rfl⟩
  have step : ∀ i j : Nat, a + 1 ≤ i → i < j → j ≤ a + 1 + Y.length → ∀ h, h = (i + j) / 2 → ∃ c, (c < 0 ↔ Q h) ∧ Ev (fun k => cmp k (rd (A ++ x :: (Y ++ B)) (ix (h : Int)) z) (rd (A ++ x :: (Y ++ B)) (ix (a : Int)) z)) c ∧
      ∀ k q, S.symL3 k (q + 1) (a : Int) (i : Int) (j : Int) (A ++ x :: (Y ++ B)) = (cmp k (rd (A ++ x :: (Y ++ B)) (ix (h : Int)) z) (rd (A ++ x :: (Y ++ B)) (ix (a : Int)) z)).bind fun r0 => if r0 < 0 then S.symL3 k q (a : Int) ((h + 1 : Nat) : Int) (j : Int) (A ++ x :: (Y ++ B)) else S.symL3 k q (a : Int) (i : Int) (h : Int) (A ++ x :: (Y ++ B)) := by
    intro i j h1 h2 h3 h hh
    obtain ⟨c, hc, hc2⟩ := hcmp (Y[h - (a + 1)]'(by omega)) x
    refine ⟨c, (Iff.intro (fun g => ⟨by omega, hc2.1 g⟩) (fun ⟨_, g⟩ => hc2.2 g)).trans (hQ h).symm, ?_, fun k q => ?_⟩
    · rw [hat h (by omega) (by omega), hx]; exact hc
    · rw [S.symL3_eq, mdI_nat i j (by omega) (by omega), ← hh]
      have ea : addI .i64 (h : Int) 1 = ((h + 1 : Nat) : Int) := by rw [addI_i64 (by omega) (by omega)]; omega
      simp only [W, W1, W3, hnn _ hT, ea, if_pos (show (i : Int) < (j : Int) by omega), if_pos (show (0 : Int) ≤ 1 by omega), if_pos (nat_ge h), if_pos (nat_ge a), if_pos (show (h : Int) < (w : Int) by omega), if_pos (show (a : Int) < (w : Int) by omega)]
  obtain ⟨s, s1, s2, s3, s4, s5⟩ := halves (L := fun k q i j => S.symL3 k q (a : Int) i j (A ++ x :: (Y ++ B))) (nxt := fun k i => S.symL9 k k i (a : Int) (A ++ x :: (Y ++ B))) (Q := Q) (a + 1) (a + 1 + Y.length)
    (fun i r hr => Ev2.step (fun k q => by rw [S.symL3_eq]; simp only [W, W1, if_neg (Int.lt_irrefl _)]) hr.two)
    (fun i j h1 h2 h3 h hh hq r hr => by
      obtain ⟨c, c1, c2, c3⟩ := step i j h1 h2 h3 h hh
      refine Ev2.step c3 (Ev2.bind c2 ?_)
      simp only [if_pos (c1.2 hq)]
      exact hr)
    (fun i j h1 h2 h3 h hh hq r hr => by
      obtain ⟨c, c1, c2, c3⟩ := step i j h1 h2 h3 h hh
      refine Ev2.step c3 (Ev2.bind c2 ?_)
      simp only [if_neg (fun g => hq (c1.1 g))]
      exact hr) (a + 1 + Y.length) (a + 1) (a + 1 + Y.length) (by omega) (Nat.le_refl _) (by omega) (Nat.le_refl _) (.inl rfl) (.inl rfl)
  rw [hQ] at s3 s4
  obtain ⟨Y1, Y2, hY12, hY1⟩ := split_at Y (s - (a + 1)) (by omega)
  have hsY : s = a + Y1.length + 1 := by omega
  have lY : Y.length = Y1.length + Y2.length := by rw [hY12, List.length_append]
  have hsw : s ≤ w := by omega
  obtain ⟨p1, p2, p3⟩ := srt_app.1 (hY12 ▸ hs)
  have h1 : ∀ y ∈ Y1, kf y < kf x := fun y hy => by
    obtain ⟨i, hi, rfl⟩ := List.getElem_of_mem hy
    have e1 : Y1[i] = Y[i]'(by omega) := by simp only [hY12]; rw [List.getElem_append_left]
    rcases s3 with g | ⟨g1, g2⟩
    · omega
    · have := srt_get hs i (s - 1 - (a + 1)) (by omega) (by omega)
      rw [e1]
      omega
  have h2 : ∀ y ∈ Y2, kf x ≤ kf y := fun y hy => by
    obtain ⟨i, hi, rfl⟩ := List.getElem_of_mem hy
    have e1 : Y2[i] = Y[Y1.length + i]'(by omega) := by simp only [hY12]; rw [List.getElem_append_right (by omega)]; simp
    rcases s4 with g | g
    · omega
    · have hlt : s - (a + 1) < Y.length := by omega
      have h3 := srt_get hs (s - (a + 1)) (Y1.length + i) (by omega) (by omega)
      have h4 : ¬ kf (Y[s - (a + 1)]) < kf x := fun q => g ⟨hlt, q⟩
      rw [e1]
      omega
  clear s3 s4 hs hQ step hat
  subst hY12
  refine ⟨Y1 ++ x :: Y2, ?_, ?_, ?_⟩
  · have t : Same kf ([x] ++ Y1) (Y1 ++ [x]) := Same.turn fun p hp q hq => by rw [List.mem_singleton.1 hp]; exact h1 q hq
    have := t.app (Same.refl Y2)
    simpa using this
  · refine srt_app.2 ⟨p1, srt_cons.2 ⟨h2, p2⟩, fun p hp q hq => ?_⟩
    rcases List.mem_cons.1 hq with e | e
    · rw [e]; have := h1 p hp; omega
    · exact p3 p hp q e
  · refine s5 _ (Ev2.ev (g := fun k q => S.symL9 k q (s : Int) (a : Int) (A ++ x :: (Y1 ++ Y2 ++ B))) ?_)
    have := up_ev S o w hix T hnn (by omega) Y1 A (Y2 ++ B) x a s hA hsY hsw (by simpa using hT)
    simpa using this
/-- an element behind a row in order -/
theorem one_down (a : Nat) (A X B : List α) (y : α) (hA : A.length = o + a) (hl : a + X.length < w) (hT : (A ++ (X ++ y :: B)).length = T) (hs : Srt kf X) :
    ∃ out, Same kf (X ++ [y]) out ∧ Srt kf out ∧ Ev2 (fun k q => S.symL15 k q ((a + X.length : Nat) : Int) (a : Int) ((a + X.length : Nat) : Int) (A ++ (X ++ y :: B))) ((), A ++ (out ++ B)) := by
  have hat : ∀ h, (h0 : a ≤ h) → (h' : h < a + X.length) → rd (A ++ (X ++ y :: B)) (ix (h : Int)) z = X[h - a]'(by omega) := fun h h1 h2 => by
    rw [hix, show ((o : Int) + (h : Int)) = ((A.length + (h - a) : Nat) : Int) by omega]
    exact rd_get1 A X (y :: B) (h - a) z (by omega)
  have hy : rd (A ++ (X ++ y :: B)) (ix ((a + X.length : Nat) : Int)) z = y := by
    rw [hix, show ((o : Int) + ((a + X.length : Nat) : Int)) = ((A ++ X).length : Int) by simp; omega, ← List.append_assoc]; exact rd_mid _ _ _ _
  obtain ⟨Q, hQ⟩ : ∃ Q : Nat → Prop, ∀ h, Q h ↔ (∃ h' : h - a < X.length, ¬ kf y < kf X[h - a]) := ⟨fun h => _, fun h => Iff.rfl⟩
  have step : ∀ i j : Nat, a ≤ i → i < j → j ≤ a + X.length → ∀ h, h = (i + j) / 2 → ∃ c, (¬ c < 0 ↔ Q h) ∧ Ev (fun k => cmp k (rd (A ++ (X ++ y :: B)) (ix ((a + X.length : Nat) : Int)) z) (rd (A ++ (X ++ y :: B)) (ix (h : Int)) z)) c ∧
      ∀ k q, S.symL15 k (q + 1) ((a + X.length : Nat) : Int) (i : Int) (j : Int) (A ++ (X ++ y :: B)) = (cmp k (rd (A ++ (X ++ y :: B)) (ix ((a + X.length : Nat) : Int)) z) (rd (A ++ (X ++ y :: B)) (ix (h : Int)) z)).bind fun r0 => if r0 < 0 then S.symL15 k q ((a + X.length : Nat) : Int) (i : Int) (h : Int) (A ++ (X ++ y :: B)) else S.symL15 k q ((a + X.length : Nat) : Int) ((h + 1 : Nat) : Int) (j : Int) (A ++ (X ++ y :: B)) := by
    intro i j h1 h2 h3 h hh
    obtain ⟨c, hc, hc2⟩ := hcmp y (X[h - a]'(by omega))
    refine ⟨c, (Iff.intro (fun g => ⟨by omega, fun g2 => g (hc2.2 g2)⟩) (fun ⟨_, g⟩ g2 => g (hc2.1 g2))).trans (hQ h).symm, ?_, fun k q => ?_⟩
    · rw [hat h (by omega) (by omega), hy]; exact hc
    · rw [S.symL15_eq, mdI_nat i j (by omega) (by omega), ← hh]
      have ea : addI .i64 (h : Int) 1 = ((h + 1 : Nat) : Int) := by rw [addI_i64 (by omega) (by omega)]; omega
      simp only [W, W1, W3, hnn _ hT, ea, if_pos (show (i : Int) < (j : Int) by omega), if_pos (show (0 : Int) ≤ 1 by omega), if_pos (nat_ge h), if_pos (nat_ge (a + X.length)), if_pos (show (h : Int) < (w : Int) by omega), if_pos (show ((a + X.length : Nat) : Int) < (w : Int) by omega)]
  obtain ⟨s, s1, s2, s3, s4, s5⟩ := halves (L := fun k q i j => S.symL15 k q ((a + X.length : Nat) : Int) i j (A ++ (X ++ y :: B))) (nxt := fun k i => S.symL21 k k i ((a + X.length : Nat) : Int) (A ++ (X ++ y :: B))) (Q := Q) a (a + X.length)
    (fun i r hr => Ev2.step (fun k q => by rw [S.symL15_eq]; simp only [W, W1, if_neg (Int.lt_irrefl _)]) hr.two)
    (fun i j h1 h2 h3 h hh hq r hr => by
      obtain ⟨c, c1, c2, c3⟩ := step i j h1 h2 h3 h hh
      refine Ev2.step c3 (Ev2.bind c2 ?_)
      simp only [if_neg (c1.2 hq)]
      exact hr)
    (fun i j h1 h2 h3 h hh hq r hr => by
      obtain ⟨c, c1, c2, c3⟩ := step i j h1 h2 h3 h hh
      refine Ev2.step c3 (Ev2.bind c2 ?_)
      have : c < 0 := Decidable.byContradiction fun g => hq (c1.1 g)
      simp only [if_pos this]
      exact hr) (a + X.length) a (a + X.length) (by omega) (Nat.le_refl _) (by omega) (Nat.le_refl _) (.inl rfl) (.inl rfl)
  rw [hQ] at s3 s4
  obtain ⟨X1, X2, hX12, hX1⟩ := split_at X (s - a) (by omega)
  have hsX : s = a + X1.length := by omega
  have lX : X.length = X1.length + X2.length := by rw [hX12, List.length_append]
  obtain ⟨p1, p2, p3⟩ := srt_app.1 (hX12 ▸ hs)
  have h1 : ∀ x ∈ X1, kf x ≤ kf y := fun x hx => by
    obtain ⟨i, hi, rfl⟩ := List.getElem_of_mem hx
    have e1 : X1[i] = X[i]'(by omega) := by simp only [hX12]; rw [List.getElem_append_left]
    rcases s3 with g | ⟨g1, g2⟩
    · omega
    · have := srt_get hs i (s - 1 - a) (by omega) (by omega)
      rw [e1]
      omega
  have h2 : ∀ x ∈ X2, kf y < kf x := fun x hx => by
    obtain ⟨i, hi, rfl⟩ := List.getElem_of_mem hx
    have e1 : X2[i] = X[X1.length + i]'(by omega) := by simp only [hX12]; rw [List.getElem_append_right (by omega)]; simp
    rcases s4 with g | g
    · omega
    · have hlt : s - a < X.length := by omega
      have h3 := srt_get hs (s - a) (X1.length + i) (by omega) (by omega)
      have h4 : kf y < kf (X[s - a]) := Decidable.byContradiction fun q => g ⟨hlt, q⟩
      rw [e1]
      omega
  clear s3 s4 hs hQ step hat
  subst hX12
  refine ⟨X1 ++ y :: X2, ?_, ?_, ?_⟩
  · have t : Same kf (X2 ++ [y]) ([y] ++ X2) := Same.turn fun p hp q hq => by rw [List.mem_singleton.1 hq]; exact h2 p hp
    have := (Same.refl (kf := kf) X1).app t
    simpa using this
  · refine srt_app.2 ⟨p1, srt_cons.2 ⟨fun q hq => Int.le_of_lt (h2 q hq), p2⟩, fun p hp q hq => ?_⟩
    rcases List.mem_cons.1 hq with e | e
    · rw [e]; exact h1 p hp
    · exact p3 p hp q e
  · refine s5 _ (Ev2.ev (g := fun k q => S.symL21 k q (s : Int) ((a + (X1 ++ X2).length : Nat) : Int) (A ++ (X1 ++ X2 ++ y :: B))) ?_)
    have := down_ev S o w hix T hnn (by omega) s X2.length X2 (A ++ X1) B y (a + (X1 ++ X2).length) rfl (by rw [List.length_append]; omega) (by rw [List.length_append, hsX]; omega) hl (by simpa using hT)
    simpa using this
/-- where two rows in order are cut -/
theorem cut_ev (a : Nat) (A X Y B : List α) (hA : A.length = o + a) (hX : 2 ≤ X.length) (hY : 2 ≤ Y.length) (hl : a + X.length + Y.length ≤ w) (hT : (A ++ (X ++ (Y ++ B))).length = T) (sX : Srt kf X) (sY : Srt kf Y)
    (mid n s0 r0 : Nat) (hmid : mid = (a + (a + X.length + Y.length)) / 2) (hn : n = mid + (a + X.length)) (hs0 : (mid < a + X.length ∧ s0 = n - (a + X.length + Y.length) ∧ r0 = mid) ∨ (a + X.length ≤ mid ∧ s0 = a ∧ r0 = a + X.length)) :
    ∃ s, s0 ≤ s ∧ s ≤ r0 ∧ (∀ r, Ev (fun k => brB (ltI (s : Int) ((a + X.length : Nat) : Int)) (brB (ltI ((a + X.length : Nat) : Int) (subI .i64 (n : Int) (s : Int))) (optB (S.rotF k (s : Int) ((a + X.length : Nat) : Int) (subI .i64 (n : Int) (s : Int)) (A ++ (X ++ (Y ++ B)))) fun r0 => S.symJ41 k (a : Int) ((a + X.length + Y.length : Nat) : Int) (mid : Int) (s : Int) (subI .i64 (n : Int) (s : Int)) r0.2)
        (S.symJ41 k (a : Int) ((a + X.length + Y.length : Nat) : Int) (mid : Int) (s : Int) (subI .i64 (n : Int) (s : Int)) (A ++ (X ++ (Y ++ B))))) (S.symJ41 k (a : Int) ((a + X.length + Y.length : Nat) : Int) (mid : Int) (s : Int) (subI .i64 (n : Int) (s : Int)) (A ++ (X ++ (Y ++ B))))) r →
        Ev2 (fun k q => S.symL33 k q (a : Int) ((a + X.length : Nat) : Int) ((a + X.length + Y.length : Nat) : Int) (mid : Int) (n : Int) (s0 : Int) (r0 : Int) ((n - 1 : Nat) : Int) (A ++ (X ++ (Y ++ B)))) r) ∧
      ∃ X1 X2 Y1 Y2, X = X1 ++ X2 ∧ Y = Y1 ++ Y2 ∧ X1.length = s - a ∧ a ≤ s ∧ Y1.length = mid - s ∧ (∀ p ∈ X1, ∀ q ∈ Y2, kf p ≤ kf q) ∧ (∀ p ∈ X2, ∀ q ∈ Y1, kf q < kf p) := by
  have hatX : ∀ h, (h0 : a ≤ h) → (h' : h < a + X.length) → rd (A ++ (X ++ (Y ++ B))) (ix (h : Int)) z = X[h - a]'(by omega) := fun h h1 h2 => by
    rw [hix, show ((o : Int) + (h : Int)) = ((A.length + (h - a) : Nat) : Int) by omega]
    exact rd_get1 A X (Y ++ B) (h - a) z (by omega)
  have hatY : ∀ h, (h0 : a + X.length ≤ h) → (h' : h < a + X.length + Y.length) → rd (A ++ (X ++ (Y ++ B))) (ix (h : Int)) z = Y[h - (a + X.length)]'(by omega) := fun h h1 h2 => by
    rw [hix, show ((o : Int) + (h : Int)) = (((A ++ X).length + (h - (a + X.length)) : Nat) : Int) by simp; omega, ← List.append_assoc]
    exact rd_get1 (A ++ X) Y B (h - (a + X.length)) z (by omega)
  obtain ⟨Q, hQ⟩ : ∃ Q : Nat → Prop, ∀ h, Q h ↔ (∃ (h' : h - a < X.length) (h'' : n - 1 - h - (a + X.length) < Y.length), ¬ kf Y[n - 1 - h - (a + X.length)] < kf X[h - a]) := ⟨fun h => _, fun h => Iff.rfl⟩
  have bnd : a ≤ s0 ∧ r0 ≤ a + X.length ∧ s0 ≤ r0 ∧ r0 ≤ mid ∧ n - s0 ≤ a + X.length + Y.length ∧ n ≤ 2199023255552 := by
    rcases hs0 with ⟨h1, h2, h3⟩ | ⟨h1, h2, h3⟩ <;> omega
  obtain ⟨b1, b2, b3, b4, b5, b6⟩ := bnd
  have step : ∀ i j : Nat, s0 ≤ i → i < j → j ≤ r0 → ∀ h, h = (i + j) / 2 → ∃ c, (¬ c < 0 ↔ Q h) ∧ Ev (fun k => cmp k (rd (A ++ (X ++ (Y ++ B))) (ix ((n - 1 - h : Nat) : Int)) z) (rd (A ++ (X ++ (Y ++ B))) (ix (h : Int)) z)) c ∧
      ∀ k q, S.symL33 k (q + 1) (a : Int) ((a + X.length : Nat) : Int) ((a + X.length + Y.length : Nat) : Int) (mid : Int) (n : Int) (i : Int) (j : Int) ((n - 1 : Nat) : Int) (A ++ (X ++ (Y ++ B))) = (cmp k (rd (A ++ (X ++ (Y ++ B))) (ix ((n - 1 - h : Nat) : Int)) z) (rd (A ++ (X ++ (Y ++ B))) (ix (h : Int)) z)).bind fun r0 => if r0 < 0 then S.symL33 k q (a : Int) ((a + X.length : Nat) : Int) ((a + X.length + Y.length : Nat) : Int) (mid : Int) (n : Int) (i : Int) (h : Int) ((n - 1 : Nat) : Int) (A ++ (X ++ (Y ++ B)))
        else S.symL33 k q (a : Int) ((a + X.length : Nat) : Int) ((a + X.length + Y.length : Nat) : Int) (mid : Int) (n : Int) ((h + 1 : Nat) : Int) (j : Int) ((n - 1 : Nat) : Int) (A ++ (X ++ (Y ++ B))) := by
    intro i j h1 h2 h3 h hh
    obtain ⟨c, hc, hc2⟩ := hcmp (Y[n - 1 - h - (a + X.length)]'(by omega)) (X[h - a]'(by omega))
    refine ⟨c, (Iff.intro (fun g => ⟨by omega, by omega, fun g2 => g (hc2.2 g2)⟩) (fun ⟨_, _, g⟩ g2 => g (hc2.1 g2))).trans (hQ h).symm, ?_, fun k q => ?_⟩
    · rw [hatY (n - 1 - h) (by omega) (by omega), hatX h (by omega) (by omega)]; exact hc
    · rw [S.symL33_eq, mdI_nat i j (by omega) (by omega), ← hh]
      have ea : addI .i64 (h : Int) 1 = ((h + 1 : Nat) : Int) := by rw [addI_i64 (by omega) (by omega)]; omega
      have es : subI .i64 ((n - 1 : Nat) : Int) (h : Int) = ((n - 1 - h : Nat) : Int) := by rw [subI_i64 (by omega) (by omega)]; omega
      simp only [W, W1, W3, hnn _ hT, ea, es, if_pos (show (i : Int) < (j : Int) by omega), if_pos (show (0 : Int) ≤ 1 by omega), if_pos (nat_ge h), if_pos (nat_ge (n - 1 - h)), if_pos (show (h : Int) < (w : Int) by omega), if_pos (show ((n - 1 - h : Nat) : Int) < (w : Int) by omega)]
  obtain ⟨s, s1, s2, s3, s4, s5⟩ := halves (L := fun k q i j => S.symL33 k q (a : Int) ((a + X.length : Nat) : Int) ((a + X.length + Y.length : Nat) : Int) (mid : Int) (n : Int) i j ((n - 1 : Nat) : Int) (A ++ (X ++ (Y ++ B))))
    (nxt := fun k s => brB (ltI s ((a + X.length : Nat) : Int)) (brB (ltI ((a + X.length : Nat) : Int) (subI .i64 (n : Int) s)) (optB (S.rotF k s ((a + X.length : Nat) : Int) (subI .i64 (n : Int) s) (A ++ (X ++ (Y ++ B)))) fun r0 => S.symJ41 k (a : Int) ((a + X.length + Y.length : Nat) : Int) (mid : Int) s (subI .i64 (n : Int) s) r0.2)
        (S.symJ41 k (a : Int) ((a + X.length + Y.length : Nat) : Int) (mid : Int) s (subI .i64 (n : Int) s) (A ++ (X ++ (Y ++ B))))) (S.symJ41 k (a : Int) ((a + X.length + Y.length : Nat) : Int) (mid : Int) s (subI .i64 (n : Int) s) (A ++ (X ++ (Y ++ B))))) (Q := Q) s0 r0
    (fun i r hr => Ev2.step (fun k q => by rw [S.symL33_eq, ltI_eq (i : Int) (i : Int), decide_eq_false (Int.lt_irrefl _)]; rfl) hr.two)
    (fun i j h1 h2 h3 h hh hq r hr => by
      obtain ⟨c, c1, c2, c3⟩ := step i j h1 h2 h3 h hh
      refine Ev2.step c3 (Ev2.bind c2 ?_)
      simp only [if_neg (c1.2 hq)]
      exact hr)
    (fun i j h1 h2 h3 h hh hq r hr => by
      obtain ⟨c, c1, c2, c3⟩ := step i j h1 h2 h3 h hh
      refine Ev2.step c3 (Ev2.bind c2 ?_)
      have : c < 0 := Decidable.byContradiction fun g => hq (c1.1 g)
      simp only [if_pos this]
      exact hr) r0 s0 r0 (by omega) (Nat.le_refl _) b3 (Nat.le_refl _) (.inl rfl) (.inl rfl)
  have has : a ≤ s := by omega
  have hbX : s - a ≤ X.length := by omega
  have hbY : mid - s ≤ Y.length := by omega
  refine ⟨s, s1, s2, s5, ?_⟩
  rw [hQ] at s3 s4
  obtain ⟨X1, X2, hX12, hX1⟩ := split_at X (s - a) hbX
  obtain ⟨Y1, Y2, hY12, hY1⟩ := split_at Y (mid - s) hbY
  refine ⟨X1, X2, Y1, Y2, hX12, hY12, hX1, has, hY1, fun p hp q hq => ?_, fun p hp q hq => ?_⟩
  · obtain ⟨i, hi, rfl⟩ := List.getElem_of_mem hp
    obtain ⟨j, hj, rfl⟩ := List.getElem_of_mem hq
    have lX : X.length = X1.length + X2.length := by rw [hX12, List.length_append]
    have lY : Y.length = Y1.length + Y2.length := by rw [hY12, List.length_append]
    have e1 : X1[i] = X[i]'(by omega) := by simp only [hX12]; rw [List.getElem_append_left]
    have e2 : Y2[j] = Y[Y1.length + j]'(by omega) := by simp only [hY12]; rw [List.getElem_append_right (by omega)]; simp
    rcases s3 with g | ⟨g1, g2, g3⟩
    · rcases hs0 with ⟨k1, k2, k3⟩ | ⟨k1, k2, k3⟩ <;> omega
    · have f1 := srt_get sX i (s - 1 - a) (by omega) (by omega)
      have f2 := srt_get sY (n - 1 - (s - 1) - (a + X.length)) (Y1.length + j) (by omega) (by omega)
      rw [e1, e2]
      exact Int.le_trans f1 (Int.le_trans (Int.not_lt.1 g3) f2)
  · obtain ⟨i, hi, rfl⟩ := List.getElem_of_mem hp
    obtain ⟨j, hj, rfl⟩ := List.getElem_of_mem hq
    have lX : X.length = X1.length + X2.length := by rw [hX12, List.length_append]
    have lY : Y.length = Y1.length + Y2.length := by rw [hY12, List.length_append]
    have e1 : X2[i] = X[X1.length + i]'(by omega) := by simp only [hX12]; rw [List.getElem_append_right (by omega)]; simp
    have e2 : Y1[j] = Y[j]'(by omega) := by simp only [hY12]; rw [List.getElem_append_left]
    rcases s4 with g | g
    · rcases hs0 with ⟨k1, k2, k3⟩ | ⟨k1, k2, k3⟩ <;> omega
    · have h4 : kf (Y[n - 1 - s - (a + X.length)]'(by omega)) < kf (X[s - a]'(by omega)) := Decidable.byContradiction fun q => g ⟨by omega, by omega, q⟩
      have f1 := srt_get sX (s - a) (X1.length + i) (by omega) (by omega)
      have f2 := srt_get sY j (n - 1 - s - (a + X.length)) (by omega) (by omega)
      rw [e1, e2]
      omega
end
end Go.Proofs.YtfbhkkedmfbgbaaDoor.PM.St
