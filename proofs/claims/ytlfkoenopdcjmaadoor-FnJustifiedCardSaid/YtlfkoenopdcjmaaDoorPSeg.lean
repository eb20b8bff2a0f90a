/- Points of texts laid end to end; how wide a text is, point by point. -/
import Derived.Test.YtlfkoenopdcjmaaDoorPJust
namespace Go.Proofs.YtlfkoenopdcjmaaDoor.JF
open Go.Eng Go.RowKit
set_option linter.unusedVariables false
set_option linter.unusedSimpArgs false
/-! ### one point, in a part of a text -/
theorem dec_B (t : ByteArray) (i : Nat) : Utf8.decode t i = Lib.decodeN (t.size - i) (B t i) (B t (i + 1)) (B t (i + 2)) (B t (i + 3)) := Lib.decode_N t i
theorem decodeN_same (n m b0 b1 b2 b3 c1 c2 c3 : Nat) (e1 : (1 < n ∧ b1 / 64 = 2) ↔ (1 < m ∧ c1 / 64 = 2)) (f1 : (1 < n ∧ b1 / 64 = 2) → b1 = c1)
    (e2 : (1 < n ∧ b1 / 64 = 2) → ((2 < n ∧ b2 / 64 = 2) ↔ (2 < m ∧ c2 / 64 = 2))) (f2 : (1 < n ∧ b1 / 64 = 2) → (2 < n ∧ b2 / 64 = 2) → b2 = c2)
    (e3 : (1 < n ∧ b1 / 64 = 2) → (2 < n ∧ b2 / 64 = 2) → ((3 < n ∧ b3 / 64 = 2) ↔ (3 < m ∧ c3 / 64 = 2))) (f3 : (1 < n ∧ b1 / 64 = 2) → (2 < n ∧ b2 / 64 = 2) → (3 < n ∧ b3 / 64 = 2) → b3 = c3) : Lib.decodeN n b0 b1 b2 b3 = Lib.decodeN m b0 c1 c2 c3 := by
  unfold Lib.decodeN
  by_cases p1 : 1 < n ∧ b1 / 64 = 2
  · have q1 := e1.1 p1
    obtain rfl := f1 p1
    by_cases p2 : 2 < n ∧ b2 / 64 = 2
    · have q2 := (e2 p1).1 p2
      obtain rfl := f2 p1 p2
      by_cases p3 : 3 < n ∧ b3 / 64 = 2
      · have q3 := (e3 p1 p2).1 p3
        obtain rfl := f3 p1 p2 p3
        simp only [p1.1, p1.2, q1.1, p2.1, p2.2, q2.1, p3.1, p3.2, q3.1]
      · have q3 : ¬ (3 < m ∧ c3 / 64 = 2) := fun h => p3 ((e3 p1 p2).2 h)
        simp only [p1.1, p1.2, q1.1, p2.1, p2.2, q2.1, p3, q3, and_false, if_false]
    · have q2 : ¬ (2 < m ∧ c2 / 64 = 2) := fun h => p2 ((e2 p1).2 h)
      simp only [p1.1, p1.2, q1.1, p2, q2, and_false, false_and, if_false]
  · have q1 : ¬ (1 < m ∧ c1 / 64 = 2) := fun h => p1 (e1.2 h)
    simp only [p1, q1, and_false, false_and, if_false]
/-- behind a byte below 128 nothing counts -/
theorem decodeN_stop (n m b0 b1 b2 b3 c0 c1 c2 c3 : Nat) (h0 : b0 = c0) (hn : 0 < n) (hm : 0 < m)
    (h : (n = 1 ∧ b0 < 128) ∨ (n = 2 ∧ 1 < m ∧ b1 = c1 ∧ b1 < 128) ∨ (n = 3 ∧ 2 < m ∧ b1 = c1 ∧ b2 = c2 ∧ b2 < 128) ∨ (3 < n ∧ 3 < m ∧ b1 = c1 ∧ b2 = c2 ∧ b3 = c3)) : Lib.decodeN n b0 b1 b2 b3 = Lib.decodeN m c0 c1 c2 c3 := by
  subst h0
  rcases h with ⟨h1, h2⟩ | ⟨h1, h2, h3, h4⟩ | ⟨h1, h2, h3, h4, h5⟩ | ⟨h1, h2, h3, h4, h5⟩
  · unfold Lib.decodeN; rw [if_pos h2, if_pos h2]
  · exact decodeN_same _ _ _ _ _ _ _ _ _ (by omega) (fun _ => h3) (fun h => by omega) (fun h => by omega) (fun h => by omega) (fun h => by omega)
  · exact decodeN_same _ _ _ _ _ _ _ _ _ (by omega) (fun _ => h3) (fun h => by omega) (fun _ _ => h4) (fun _ h => by omega) (fun _ h => by omega)
  · exact decodeN_same _ _ _ _ _ _ _ _ _ (by omega) (fun _ => h3) (fun h => by omega) (fun _ _ => h4) (fun _ h => by omega) (fun _ _ _ => h5)
theorem B_left (x y : ByteArray) (i : Nat) (h : i < x.size) : B (x ++ y) i = B x i := by
  unfold B
  rw [ByteArray.data_append, Array.toList_append]
  congr 1
  simp only [List.getD]
  rw [List.getElem?_append_left (by exact h)]
theorem B_right (x y : ByteArray) (i : Nat) : B (x ++ y) (x.size + i) = B y i := by
  unfold B
  rw [ByteArray.data_append, Array.toList_append]
  congr 1
  simp only [List.getD]
  have : x.size = x.data.toList.length := rfl
  rw [List.getElem?_append_right (by omega)]
  congr 2
  omega
theorem dec_right (x y : ByteArray) (i : Nat) : Utf8.decode (x ++ y) (x.size + i) = Utf8.decode y i := by
  rw [dec_B, dec_B, Nat.add_assoc, Nat.add_assoc, Nat.add_assoc, B_right, B_right, B_right, B_right, ByteArray.size_append]
  congr 1
  omega
theorem dec_left (x y : ByteArray) (h : B x (x.size - 1) < 128) (i : Nat) (hi : i < x.size) : Utf8.decode (x ++ y) i = Utf8.decode x i := by
  rw [dec_B, dec_B]
  have hs : (x ++ y).size = x.size + y.size := ByteArray.size_append
  refine (decodeN_stop _ _ _ _ _ _ _ _ _ _ (B_left x y i hi).symm (by omega) (by omega) ?_).symm
  by_cases c1 : x.size - i = 1
  · exact .inl ⟨c1, by rw [show i = x.size - 1 by omega]; exact h⟩
  by_cases c2 : x.size - i = 2
  · exact .inr (.inl ⟨c2, by omega, (B_left x y _ (by omega)).symm, by rw [show i + 1 = x.size - 1 by omega]; exact h⟩)
  by_cases c3 : x.size - i = 3
  · exact .inr (.inr (.inl ⟨c3, by omega, (B_left x y _ (by omega)).symm, (B_left x y _ (by omega)).symm, by rw [show i + 2 = x.size - 1 by omega]; exact h⟩))
  · exact .inr (.inr (.inr ⟨by omega, by omega, (B_left x y _ (by omega)).symm, (B_left x y _ (by omega)).symm, (B_left x y _ (by omega)).symm⟩))
def V2 (n b0 b1 : Nat) : Prop := b0 / 32 = 6 ∧ (1 < n ∧ b1 / 64 = 2) ∧ b0 % 32 * 64 + b1 % 64 ≥ 128
def V3 (n b0 b1 b2 : Nat) : Prop := b0 / 16 = 14 ∧ (1 < n ∧ b1 / 64 = 2) ∧ (2 < n ∧ b2 / 64 = 2) ∧ (b0 % 16 * 4096 + b1 % 64 * 64 + b2 % 64 ≥ 2048 ∧ (b0 % 16 * 4096 + b1 % 64 * 64 + b2 % 64 < 55296 ∨ (57344 ≤ b0 % 16 * 4096 + b1 % 64 * 64 + b2 % 64 ∧ b0 % 16 * 4096 + b1 % 64 * 64 + b2 % 64 ≤ 1114111)))
def V4 (n b0 b1 b2 b3 : Nat) : Prop := b0 / 8 = 30 ∧ (1 < n ∧ b1 / 64 = 2) ∧ (2 < n ∧ b2 / 64 = 2) ∧ (3 < n ∧ b3 / 64 = 2) ∧ (b0 % 8 * 262144 + b1 % 64 * 4096 + b2 % 64 * 64 + b3 % 64 ≥ 65536 ∧ (b0 % 8 * 262144 + b1 % 64 * 4096 + b2 % 64 * 64 + b3 % 64 < 55296 ∨ (57344 ≤ b0 % 8 * 262144 + b1 % 64 * 4096 + b2 % 64 * 64 + b3 % 64 ∧ b0 % 8 * 262144 + b1 % 64 * 4096 + b2 % 64 * 64 + b3 % 64 ≤ 1114111)))
section
variable {n b0 b1 b2 b3 : Nat}
theorem decodeN_V2 (h : V2 n b0 b1) : Lib.decodeN n b0 b1 b2 b3 = (b0 % 32 * 64 + b1 % 64, 2) := by
  unfold Lib.decodeN
  rw [if_neg (show ¬ b0 < 128 by have := h.1; omega), if_pos ⟨h.1, h.2.1⟩, if_pos h.2.2]
theorem decodeN_V3 (h : V3 n b0 b1 b2) : Lib.decodeN n b0 b1 b2 b3 = (b0 % 16 * 4096 + b1 % 64 * 64 + b2 % 64, 3) := by
  unfold Lib.decodeN
  have := h.1
  rw [if_neg (show ¬ b0 < 128 by omega), if_neg (fun g => absurd g.1 (by omega)), if_pos ⟨h.1, h.2.1, h.2.2.1⟩, if_pos h.2.2.2]
theorem decodeN_V4 (h : V4 n b0 b1 b2 b3) : Lib.decodeN n b0 b1 b2 b3 = (b0 % 8 * 262144 + b1 % 64 * 4096 + b2 % 64 * 64 + b3 % 64, 4) := by
  unfold Lib.decodeN
  have := h.1
  rw [if_neg (show ¬ b0 < 128 by omega), if_neg (fun g => absurd g.1 (by omega)), if_neg (fun g => absurd g.1 (by omega)), if_pos ⟨h.1, h.2.1, h.2.2.1, h.2.2.2.1⟩, if_pos h.2.2.2.2]
theorem decodeN_no (h0 : ¬ b0 < 128) (h2 : ¬ V2 n b0 b1) (h3 : ¬ V3 n b0 b1 b2) (h4 : ¬ V4 n b0 b1 b2 b3) : Lib.decodeN n b0 b1 b2 b3 = (65533, 1) := by
  unfold Lib.decodeN
  rw [if_neg h0]
  by_cases a : b0 / 32 = 6 ∧ (1 < n ∧ b1 / 64 = 2)
  · rw [if_pos a, if_neg (fun h => h2 ⟨a.1, a.2, h⟩)]
  rw [if_neg a]
  by_cases b : b0 / 16 = 14 ∧ (1 < n ∧ b1 / 64 = 2) ∧ (2 < n ∧ b2 / 64 = 2)
  · rw [if_pos b, if_neg (fun h => h3 ⟨b.1, b.2.1, b.2.2, h⟩)]
  rw [if_neg b]
  by_cases c : b0 / 8 = 30 ∧ (1 < n ∧ b1 / 64 = 2) ∧ (2 < n ∧ b2 / 64 = 2) ∧ (3 < n ∧ b3 / 64 = 2)
  · rw [if_pos c, if_neg (fun h => h4 ⟨c.1, c.2.1, c.2.2.1, c.2.2.2, h⟩)]
  rw [if_neg c]
end
/-- a point's own bytes tell it -/
theorem decodeN_cut (n m b0 b1 b2 b3 c1 c2 c3 : Nat) (hm : (Lib.decodeN n b0 b1 b2 b3).2 ≤ m) (hmn : m ≤ n) (h1 : 1 < m → b1 = c1) (h2 : 2 < m → b2 = c2) (h3 : 3 < m → b3 = c3) : Lib.decodeN m b0 c1 c2 c3 = Lib.decodeN n b0 b1 b2 b3 := by
  by_cases a0 : b0 < 128
  · unfold Lib.decodeN
    rw [if_pos a0, if_pos a0]
  by_cases a2 : V2 n b0 b1
  · rw [decodeN_V2 a2] at hm ⊢
    have hm : 2 ≤ m := hm
    obtain rfl := h1 (by omega)
    exact decodeN_V2 ⟨a2.1, ⟨by omega, a2.2.1.2⟩, a2.2.2⟩
  by_cases a3 : V3 n b0 b1 b2
  · rw [decodeN_V3 a3] at hm ⊢
    have hm : 3 ≤ m := hm
    obtain rfl := h1 (by omega)
    obtain rfl := h2 (by omega)
    exact decodeN_V3 ⟨a3.1, ⟨by omega, a3.2.1.2⟩, ⟨by omega, a3.2.2.1.2⟩, a3.2.2.2⟩
  by_cases a4 : V4 n b0 b1 b2 b3
  · rw [decodeN_V4 a4] at hm ⊢
    have hm : 4 ≤ m := hm
    obtain rfl := h1 (by omega)
    obtain rfl := h2 (by omega)
    obtain rfl := h3 (by omega)
    exact decodeN_V4 ⟨a4.1, ⟨by omega, a4.2.1.2⟩, ⟨by omega, a4.2.2.1.2⟩, ⟨by omega, a4.2.2.2.1.2⟩, a4.2.2.2.2⟩
  rw [decodeN_no a0 a2 a3 a4]
  refine decodeN_no a0 (fun g => a2 ?_) (fun g => a3 ?_) (fun g => a4 ?_)
  · obtain rfl := h1 g.2.1.1
    exact ⟨g.1, ⟨by have := g.2.1.1; omega, g.2.1.2⟩, g.2.2⟩
  · obtain rfl := h1 g.2.1.1
    obtain rfl := h2 g.2.2.1.1
    exact ⟨g.1, ⟨by have := g.2.1.1; omega, g.2.1.2⟩, ⟨by have := g.2.2.1.1; omega, g.2.2.1.2⟩, g.2.2.2⟩
  · obtain rfl := h1 g.2.1.1
    obtain rfl := h2 g.2.2.1.1
    obtain rfl := h3 g.2.2.2.1.1
    exact ⟨g.1, ⟨by have := g.2.1.1; omega, g.2.1.2⟩, ⟨by have := g.2.2.1.1; omega, g.2.2.1.2⟩, ⟨by have := g.2.2.2.1.1; omega, g.2.2.2.1.2⟩, g.2.2.2.2⟩
theorem dec_part (t : ByteArray) (a b : Nat) (h : a + wid t a ≤ b) (hb : b ≤ t.size) : Utf8.decode (t.extract a b) 0 = Utf8.decode t a := by
  have hs : (t.extract a b).size = b - a := by rw [ByteArray.size_extract]; omega
  have hw : 1 ≤ wid t a := by unfold wid; exact Lib.width_pos t a
  have hw2 : (Utf8.decode t a).2 = wid t a := rfl
  rw [dec_B t a] at hw2
  rw [dec_B, dec_B, hs, B_ext t a b 0 (by omega), Nat.add_zero]
  refine decodeN_cut _ _ _ _ _ _ _ _ _ (by rw [hw2]; omega) (by omega) (fun h => ?_) (fun h => ?_) (fun h => ?_)
  · rw [Nat.zero_add, B_ext t a b 1 (by omega)]
  · rw [Nat.zero_add, B_ext t a b 2 (by omega)]
  · rw [Nat.zero_add, B_ext t a b 3 (by omega)]
/-! ### texts laid end to end -/
theorem items_right (x y : ByteArray) : ∀ m i, (items (x ++ y) m (x.size + i)).map (·.1) = (items y m i).map (·.1) := by
  intro m
  induction m with
  | zero => intro i; rfl
  | succ m ih =>
    intro i
    have hs : (x ++ y).size = x.size + y.size := ByteArray.size_append
    have hd := dec_right x y i
    unfold items
    by_cases c : i < y.size
    · rw [if_pos c, if_pos (by omega)]
      have hw : wid (x ++ y) (x.size + i) = wid y i := by unfold wid; rw [hd]
      rw [hw, Nat.add_assoc, List.map_cons, List.map_cons, ih]
      congr 1
      show ((Utf8.decode (x ++ y) (x.size + i)).1 : Int) = ((Utf8.decode y i).1 : Int)
      rw [hd]
    · rw [if_neg c, if_neg (by omega)]
theorem items_more (t : ByteArray) : ∀ (m i k : Nat), t.size ≤ i + m → items t (m + k) i = items t m i := by
  intro m
  induction m with
  | zero =>
    intro i k h
    show items t (0 + k) i = []
    cases k with
    | zero => rfl
    | succ k => rw [Nat.zero_add]; unfold items; rw [if_neg (by omega)]
  | succ m ih =>
    intro i k h
    rw [show m + 1 + k = (m + k) + 1 by omega]
    unfold items
    by_cases c : i < t.size
    · rw [if_pos c, if_pos c, ih (i + wid t i) k (by have := (wid_pos t i c).1; omega)]
    · rw [if_neg c, if_neg c]
theorem items_left (x y : ByteArray) (hdec : ∀ i, i < x.size → Utf8.decode (x ++ y) i = Utf8.decode x i) : ∀ m i, x.size ≤ i + m → i ≤ x.size → (items (x ++ y) (m + y.size) i).map (·.1) = (items x m i).map (·.1) ++ (its y).map (·.1) := by
  intro m
  induction m with
  | zero =>
    intro i h1 h2
    have : i = x.size + 0 := by omega
    rw [this, items_right, Nat.zero_add]
    rfl
  | succ m ih =>
    intro i h1 h2
    have hs : (x ++ y).size = x.size + y.size := ByteArray.size_append
    by_cases c : i < x.size
    · have hd := hdec i c
      have hw : wid (x ++ y) i = wid x i := by unfold wid; rw [hd]
      obtain ⟨w1, w2⟩ := wid_pos x i c
      rw [show m + 1 + y.size = (m + y.size) + 1 by omega]
      unfold items
      rw [if_pos c, if_pos (by omega), hw, List.map_cons, List.map_cons, ih (i + wid x i) (by omega) w2, List.cons_append]
      congr 1
      show ((Utf8.decode (x ++ y) i).1 : Int) = ((Utf8.decode x i).1 : Int)
      rw [hd]
    · have : i = x.size + 0 := by omega
      rw [this, items_right, show items x (m + 1) (x.size + 0) = [] from if_neg (by omega), List.map_nil, List.nil_append]
      rw [show m + 1 + y.size = y.size + (m + 1) by omega, items_more y y.size 0 (m + 1) (by omega)]
      rfl
theorem pts_app' (x y : ByteArray) (hdec : ∀ i, i < x.size → Utf8.decode (x ++ y) i = Utf8.decode x i) : pts (x ++ y) = pts x ++ pts y := by
  have := items_left x y hdec x.size 0 (by omega) (Nat.zero_le _)
  unfold pts
  rw [← show items x x.size 0 = its x from rfl, ← this]
  unfold its
  rw [ByteArray.size_append]
theorem pts_app (x y : ByteArray) (h : B x (x.size - 1) < 128) : pts (x ++ y) = pts x ++ pts y := pts_app' x y (fun i hi => dec_left x y h i hi)
theorem decodeN_next (n m b0 b1 b2 b3 c0 c1 c2 c3 : Nat) (h0 : b0 = c0) (hn : 0 < n) (hm : n ≤ m)
    (h1 : 1 < n → b1 = c1) (h2 : 2 < n → b2 = c2) (h3 : 3 < n → b3 = c3) (g1 : n = 1 → c1 < 128) (g2 : n = 2 → c2 < 128) (g3 : n = 3 → c3 < 128) : Lib.decodeN n b0 b1 b2 b3 = Lib.decodeN m c0 c1 c2 c3 := by
  subst h0
  refine decodeN_same _ _ _ _ _ _ _ _ _ ?_ (fun p => h1 p.1) (fun p => ?_) (fun _ p => h2 p.1) (fun _ p => ?_) (fun _ _ p => h3 p.1)
  · by_cases k : n = 1
    · have := g1 k; omega
    · have := h1 (by omega); omega
  · by_cases k : n = 2
    · have := g2 k; omega
    · have := h2 (by omega); omega
  · by_cases k : n = 3
    · have := g3 k; omega
    · have := h3 (by omega); omega
theorem dec_next (x y : ByteArray) (h : B y 0 < 128) (i : Nat) (hi : i < x.size) : Utf8.decode (x ++ y) i = Utf8.decode x i := by
  rw [dec_B, dec_B]
  have hs : (x ++ y).size = x.size + y.size := ByteArray.size_append
  have hb : ∀ k, i + k = x.size → B (x ++ y) (i + k) < 128 := fun k hk => by
    rw [hk, show x.size = x.size + 0 from rfl, B_right]
    exact h
  exact (decodeN_next _ _ _ _ _ _ _ _ _ _ (B_left x y i hi).symm (by omega) (by omega) (fun _ => (B_left x y _ (by omega)).symm) (fun _ => (B_left x y _ (by omega)).symm) (fun _ => (B_left x y _ (by omega)).symm) (fun k => hb 1 (by omega)) (fun k => hb 2 (by omega)) (fun k => hb 3 (by omega))).symm
theorem pts_one (y : ByteArray) (hs : y.size = 1) (hb : B y 0 = 32) : pts y = [32] := by
  unfold pts its
  rw [hs]
  show (items y (0 + 1) 0).map (·.1) = [32]
  unfold items
  rw [if_pos (by omega)]
  show [((Utf8.decode y 0).1 : Int)] = [32]
  rw [dec_B, hb, show Lib.decodeN (y.size - 0) 32 (B y (0 + 1)) (B y (0 + 2)) (B y (0 + 3)) = (32, 1) from if_pos (by omega)]
  rfl
/-- a text that ends with a blank -/
theorem pts_end (x : ByteArray) (hs : 0 < x.size) (hb : B x (x.size - 1) = 32) : ∃ l, pts x = l ++ [32] := by
  have hx : x.extract 0 (x.size - 1) ++ x.extract (x.size - 1) x.size = x := by
    rw [ext_join x 0 (x.size - 1) x.size (by omega) (by omega)]
    apply ByteArray.ext; simp [ByteArray.data_extract]
  have hy : (x.extract (x.size - 1) x.size).size = 1 := by rw [ByteArray.size_extract]; omega
  have hb0 : B (x.extract (x.size - 1) x.size) 0 = 32 := by rw [B_ext x _ _ 0 (by omega), Nat.add_zero]; exact hb
  refine ⟨pts (x.extract 0 (x.size - 1)), ?_⟩
  have := pts_app' (x.extract 0 (x.size - 1)) (x.extract (x.size - 1) x.size) (fun i hi => dec_next _ _ (by rw [hb0]; omega) i hi)
  rw [hx, pts_one _ hy hb0] at this
  exact this
theorem B_blk (n i : Nat) (h : i < n) : B (blk n) i = 32 := by
  unfold B blk
  simp [List.getD, h]
theorem pts_blk : ∀ n, pts (blk n) = List.replicate n 32 := by
  intro n
  induction n with
  | zero => rfl
  | succ n ih =>
    have h1 : blk (n + 1) = blk 1 ++ blk n := by
      apply ByteArray.ext
      rw [ByteArray.data_append]
      show (List.replicate (n + 1) (32 : UInt8)).toArray = (List.replicate 1 32).toArray ++ (List.replicate n 32).toArray
      rw [List.append_toArray, List.replicate_append_replicate, Nat.add_comm]
    rw [h1, pts_app (blk 1) (blk n) (by rw [B_blk 1 _ (by rw [blk_size]; omega)]; omega), ih]
    rw [pts_one (blk 1) (blk_size 1) (B_blk 1 0 (by omega))]
    rw [List.replicate_succ]
    rfl
/-! ### how wide, point by point -/
def wl (q : Int) (bd pc : Bool) (fl : Nat) : List Int → Int
  | [] => 0
  | p :: r => (if cutF q p (cls p) (cls q) bd pc fl = true then wpt p else 0) + wl p (if p = 1584 then true else if p = 1585 then bd else false) (if cls p = 2 then pc else decide (cls p = 8)) (if cls p = 9 then fl + 1 else 0) r
def wT : List Int → Int
  | [] => 0
  | p :: r => wpt p + wl p (if p = 1584 then true else if p = 1585 then false else false) (if cls p = 2 then false else decide (cls p = 8)) (if cls p = 9 then 0 + 1 else 0) r
def wFrom (l : List Int) : Nat → List Int → Int
  | _, [] => 0
  | i, p :: r => (if cutAt l i = true then wpt p else 0) + wFrom l (i + 1) r
theorem wFrom_wl (l : List Int) : ∀ (suf pre : List Int) (q : Int), l = pre ++ q :: suf → wFrom l (pre.length + 1) suf = wl q (bindS l (pre.length + 1)) (picS l (pre.length + 1)) (flagS l (pre.length + 1)) suf := by
  intro suf
  induction suf with
  | nil => intro pre q h; rfl
  | cons p suf ih =>
    intro pre q h
    have h2 : l = (pre ++ [q]) ++ p :: suf := by rw [h]; simp
    have hp : pt l pre.length = q := by unfold pt; rw [h]; exact rd_mid pre (p :: suf) q 0
    have hp2 : pt l (pre.length + 1) = p := by
      unfold pt
      rw [h2, show ((pre.length + 1 : Nat) : Int) = ((pre ++ [q]).length : Int) by simp]
      exact rd_mid (pre ++ [q]) suf p 0
    have hi := ih (pre ++ [q]) p h2
    rw [List.length_append] at hi
    have hc : cutAt l (pre.length + 1) = cutF q p (cls p) (cls q) (bindS l (pre.length + 1)) (picS l (pre.length + 1)) (flagS l (pre.length + 1)) := by
      show cutF (pt l pre.length) (pt l (pre.length + 1)) (cls (pt l (pre.length + 1))) (cls (pt l pre.length)) _ _ _ = _
      rw [hp, hp2]
    show (if cutAt l (pre.length + 1) = true then wpt p else 0) + wFrom l (pre.length + 1 + 1) suf = _
    have hi' : wFrom l (pre.length + 1 + 1) suf = wl p (bindS l (pre.length + 1 + 1)) (picS l (pre.length + 1 + 1)) (flagS l (pre.length + 1 + 1)) suf := hi
    rw [hi', hc]
    have e1 : bindS l (pre.length + 1 + 1) = (if p = 1584 then true else if p = 1585 then bindS l (pre.length + 1) else false) := by
      show (if pt l (pre.length + 1) = 1584 then true else if pt l (pre.length + 1) = 1585 then bindS l (pre.length + 1) else false) = _
      rw [hp2]
    have e2 : picS l (pre.length + 1 + 1) = (if cls p = 2 then picS l (pre.length + 1) else decide (cls p = 8)) := by
      show (if cls (pt l (pre.length + 1)) = 2 then picS l (pre.length + 1) else decide (cls (pt l (pre.length + 1)) = 8)) = _
      rw [hp2]
    have e3 : flagS l (pre.length + 1 + 1) = (if cls p = 9 then flagS l (pre.length + 1) + 1 else 0) := by
      show (if cls (pt l (pre.length + 1)) = 9 then flagS l (pre.length + 1) + 1 else 0) = _
      rw [hp2]
    rw [e1, e2, e3]
    rfl
theorem wsum_cuts (t : ByteArray) (l : List Int) : ∀ (m i j a : Nat), a + wid t a ≤ i → i ≤ t.size →
    wsum (pcs t ((a : Int) :: (cutsFrom l j (items t m i) ++ [(t.size : Int)]))) = wpt ((Utf8.decode t a).1 : Int) + wFrom l j ((items t m i).map (·.1)) := by
  intro m
  induction m with
  | zero =>
    intro i j a h1 h2
    show wpt (p0 (t.extract ((a : Int)).toNat ((t.size : Int)).toNat)) + 0 = _ + 0
    unfold p0
    rw [Int.toNat_natCast, Int.toNat_natCast, dec_part t a t.size (by omega) (Nat.le_refl _)]
  | succ m ih =>
    intro i j a h1 h2
    have done : wsum (pcs t ((a : Int) :: (cutsFrom l j [] ++ [(t.size : Int)]))) = wpt ((Utf8.decode t a).1 : Int) + wFrom l j (([] : List T_iiib).map (·.1)) := by
      show wpt (p0 (t.extract ((a : Int)).toNat ((t.size : Int)).toNat)) + 0 = _ + 0
      unfold p0
      rw [Int.toNat_natCast, Int.toNat_natCast, dec_part t a t.size (by omega) (Nat.le_refl _)]
    unfold items
    by_cases c : i < t.size
    · rw [if_pos c]
      obtain ⟨w1, w2⟩ := wid_pos t i c
      unfold cutsFrom
      show _ = _ + ((if cutAt l j = true then wpt ((Utf8.decode t i).1 : Int) else 0) + wFrom l (j + 1) ((items t m (i + wid t i)).map (·.1)))
      by_cases q : cutAt l j = true
      · rw [if_pos q, if_pos q]
        have h := ih (i + wid t i) (j + 1) i (Nat.le_refl _) w2
        rw [← h]
        show wpt (p0 (t.extract ((a : Int)).toNat ((i : Int)).toNat)) + _ = _
        unfold p0
        rw [Int.toNat_natCast, Int.toNat_natCast, dec_part t a i h1 h2]
        rfl
      · rw [if_neg q, if_neg q, Int.zero_add]
        exact ih (i + wid t i) (j + 1) a (by omega) w2
    · rw [if_neg c]
      exact done
theorem wide_pts (t : ByteArray) : wide t = wT (pts t) := by
  unfold wide chs cuts
  by_cases c : t.size = 0
  · rw [if_pos c]
    have h0 : pts t = [] := by unfold pts its; rw [c]; rfl
    rw [h0]
    rfl
  · rw [if_neg c]
    have hp : 0 < t.size := by omega
    have hi := its_cons t hp
    obtain ⟨w1, w2⟩ := wid_pos t 0 hp
    have hP : pts t = ((Utf8.decode t 0).1 : Int) :: (items t (t.size - 1) (0 + wid t 0)).map (·.1) := by unfold pts; rw [hi]; rfl
    have hc : cutsFrom (pts t) 0 (its t) = cutsFrom (pts t) 1 (items t (t.size - 1) (0 + wid t 0)) := by rw [hi]; rfl
    rw [hc]
    have h := wsum_cuts t (pts t) (t.size - 1) (0 + wid t 0) 1 0 (by omega) w2
    refine h.trans ?_
    have h2' : ∀ Z, pts t = ((Utf8.decode t 0).1 : Int) :: Z → wFrom (pts t) 1 Z = wl ((Utf8.decode t 0).1 : Int) (bindS (pts t) 1) (picS (pts t) 1) (flagS (pts t) 1) Z := fun Z hZ => wFrom_wl (pts t) Z [] ((Utf8.decode t 0).1 : Int) hZ
    rw [h2' _ hP]
    have hpt : pt (pts t) 0 = ((Utf8.decode t 0).1 : Int) := by unfold pt; rw [hP]; exact rd_mid [] _ _ 0
    have e1 : bindS (pts t) 1 = (if ((Utf8.decode t 0).1 : Int) = 1584 then true else if ((Utf8.decode t 0).1 : Int) = 1585 then false else false) := by
      show (if pt (pts t) 0 = 1584 then true else if pt (pts t) 0 = 1585 then false else false) = _
      rw [hpt]
    have e2 : picS (pts t) 1 = (if cls ((Utf8.decode t 0).1 : Int) = 2 then false else decide (cls ((Utf8.decode t 0).1 : Int) = 8)) := by
      show (if cls (pt (pts t) 0) = 2 then false else decide (cls (pt (pts t) 0) = 8)) = _
      rw [hpt]
    have e3 : flagS (pts t) 1 = (if cls ((Utf8.decode t 0).1 : Int) = 9 then 0 + 1 else 0) := by
      show (if cls (pt (pts t) 0) = 9 then 0 + 1 else 0) = _
      rw [hpt]
    rw [e1, e2, e3]
    conv => rhs; rw [hP]
    rfl
/-! ### behind a blank -/
theorem cls32 : cls 32 = 0 := by decide +kernel
theorem wpt32 : wpt 32 = 1 := by decide +kernel
theorem cut32 : cutF 32 32 0 0 false false ((0 : Nat) : Int) = true := by decide +kernel
theorem wl_blanks (r : List Int) : ∀ n, wl 32 false false 0 (List.replicate n 32 ++ r) = (n : Int) + wl 32 false false 0 r := by
  intro n
  induction n with
  | zero => show wl 32 false false 0 r = _; omega
  | succ n ih =>
    rw [List.replicate_succ, List.cons_append]
    have : wl 32 false false 0 (32 :: (List.replicate n 32 ++ r)) = (if cutF 32 32 (cls 32) (cls 32) false false ((0 : Nat) : Int) = true then wpt 32 else 0) + wl 32 false (if cls 32 = 2 then false else decide (cls 32 = 8)) (if cls 32 = 9 then 0 + 1 else 0) (List.replicate n 32 ++ r) := rfl
    rw [this, cls32, cut32, wpt32]
    show 1 + wl 32 false false 0 (List.replicate n 32 ++ r) = _
    rw [ih]
    omega
theorem wl_cons (q : Int) (bd pc : Bool) (fl : Nat) (p : Int) (r : List Int) : wl q bd pc fl (p :: r) = (if cutF q p (cls p) (cls q) bd pc fl = true then wpt p else 0) + wl p (if p = 1584 then true else if p = 1585 then bd else false) (if cls p = 2 then pc else decide (cls p = 8)) (if cls p = 9 then fl + 1 else 0) r := rfl
theorem wT_cons (p : Int) (r : List Int) : wT (p :: r) = wpt p + wl p (if p = 1584 then true else if p = 1585 then false else false) (if cls p = 2 then false else decide (cls p = 8)) (if cls p = 9 then 0 + 1 else 0) r := rfl
theorem wl_nil (q : Int) (bd pc : Bool) (fl : Nat) : wl q bd pc fl [] = 0 := rfl
theorem wl_32 (q : Int) (bd pc : Bool) (fl : Nat) (r : List Int) : wl q bd pc fl (32 :: r) = (if cutF q 32 0 (cls q) bd pc fl = true then wpt 32 else 0) + wl 32 false false 0 r := by
  rw [wl_cons, cls32]
  rfl
theorem wT_32 (r : List Int) : wT (32 :: r) = wpt 32 + wl 32 false false 0 r := by
  rw [wT_cons, cls32]
  rfl
theorem wl_app (y : List Int) : ∀ (x : List Int) (q : Int) (bd pc : Bool) (fl : Nat), wl q bd pc fl (x ++ 32 :: y) = wl q bd pc fl (x ++ [32]) + wl 32 false false 0 y := by
  intro x
  induction x with
  | nil =>
    intro q bd pc fl
    rw [List.nil_append, List.nil_append, wl_32, wl_32, wl_nil]
    omega
  | cons p x ih =>
    intro q bd pc fl
    rw [List.cons_append, List.cons_append, wl_cons, wl_cons, ih]
    omega
theorem wT_app (x y : List Int) : wT (x ++ 32 :: y) = wT (x ++ [32]) + wl 32 false false 0 y := by
  cases x with
  | nil =>
    rw [List.nil_append, List.nil_append, wT_32, wT_32, wl_nil]
    omega
  | cons p x =>
    rw [List.cons_append, List.cons_append, wT_cons, wT_cons, wl_app]
    omega
end Go.Proofs.YtlfkoenopdcjmaaDoor.JF
