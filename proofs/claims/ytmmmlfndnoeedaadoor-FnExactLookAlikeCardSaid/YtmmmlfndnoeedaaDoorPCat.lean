/- The kind of a code point, plainly: the program's tests and the reference's rows tell the same. -/
import Derived.Test.YtmmmlfndnoeedaaDoorQIX0
import Derived.Test.YtmmmlfndnoeedaaDoorEG
namespace Go.Proofs.YtmmmlfndnoeedaaDoor.IX
open Go.Eng Go.RowKit
set_option linter.unusedVariables false
set_option linter.unusedSimpArgs false
abbrev RowK : Type := Int × Int × Int × Int
/-- the first row that has a point -/
def look : List RowK → Int × Int → Int → Int × Int
  | [], d, _ => d
  | r :: rs, d, p => if r.1 ≤ p ∧ p ≤ r.2.1 then r.2.2 else look rs d p
theorem look_append (a b : List RowK) (d : Int × Int) (p : Int) : look (a ++ b) d p = look a (look b d p) p := by
  induction a with
  | nil => rfl
  | cons r a ih => simp only [List.cons_append, look, ih]
theorem look_same {rows : List RowK} {d : Int × Int} {p q : Int} (h : ∀ r ∈ rows, (r.1 ≤ p ↔ r.1 ≤ q) ∧ (p ≤ r.2.1 ↔ q ≤ r.2.1)) : look rows d p = look rows d q := by
  induction rows with
  | nil => rfl
  | cons r rows ih =>
    have h1 := h r (by simp)
    simp only [look]
    rw [ih (fun x hx => h x (by simp [hx]))]
    by_cases c : r.1 ≤ p ∧ p ≤ r.2.1
    · rw [if_pos c, if_pos ⟨h1.1.1 c.1, h1.2.1 c.2⟩]
    · rw [if_neg c, if_neg (fun c2 => c ⟨h1.1.2 c2.1, h1.2.2 c2.2⟩)]
theorem look_miss {rows : List RowK} {d : Int × Int} {p : Int} (h : ∀ r ∈ rows, ¬ (r.1 ≤ p ∧ p ≤ r.2.1)) : look rows d p = d := by
  induction rows with
  | nil => rfl
  | cons r rows ih =>
    simp only [look]
    rw [if_neg (h r (by simp))]
    exact ih fun x hx => h x (by simp [hx])
/-- the last point of a list that is not above -/
theorem below_max (l : List Int) (p : Int) : (∀ c ∈ l, p < c) ∨ ∃ q ∈ l, q ≤ p ∧ ∀ c ∈ l, c ≤ p → c ≤ q := by
  induction l with
  | nil => exact .inl fun c hc => by cases hc
  | cons x l ih =>
    rcases ih with h | ⟨q, h1, h2, h3⟩
    · by_cases c : x ≤ p
      · refine .inr ⟨x, by simp, c, fun y hy hp => ?_⟩
        rcases List.mem_cons.1 hy with rfl | hy
        · exact Int.le_refl _
        · have := h y hy; omega
      · refine .inl fun y hy => ?_
        rcases List.mem_cons.1 hy with rfl | hy
        · omega
        · exact h y hy
    · by_cases c : x ≤ p ∧ q < x
      · refine .inr ⟨x, by simp, c.1, fun y hy hp => ?_⟩
        rcases List.mem_cons.1 hy with rfl | hy
        · exact Int.le_refl _
        · have := h3 y hy hp; omega
      · refine .inr ⟨q, by simp [h1], h2, fun y hy hp => ?_⟩
        rcases List.mem_cons.1 hy with rfl | hy
        · omega
        · exact h3 y hy hp
def edges (rows : List RowK) : List Int := 0 :: (rows.map (·.1) ++ rows.map (fun r => r.2.1 + 1))
theorem edges_at {rows : List RowK} {l : List Int} {d : Int × Int} {p q : Int} (hq : q ≤ p) (hm : ∀ c ∈ l, c ≤ p → c ≤ q) (hs : ∀ c ∈ edges rows, c ∈ l) : look rows d p = look rows d q := by
  refine look_same fun r hr => ?_
  have e1 : r.1 ∈ l := hs _ (List.mem_cons_of_mem _ (List.mem_append_left _ (List.mem_map.2 ⟨r, hr, rfl⟩)))
  have e2 : r.2.1 + 1 ∈ l := hs _ (List.mem_cons_of_mem _ (List.mem_append_right _ (List.mem_map.2 ⟨r, hr, rfl⟩)))
  have h1 := hm _ e1
  have h2 := hm _ e2
  constructor
  · constructor
    · intro h; exact h1 h
    · intro h; omega
  · constructor
    · intro h; omega
    · intro h
      rcases Int.lt_or_le r.2.1 p with h3 | h3
      · have := h2 (by omega); omega
      · exact h3
/-- two tables that tell the same at their edges tell the same -/
theorem rows_same {a b : List RowK} {d : Int × Int} (h : ∀ q ∈ edges a ++ edges b, look a d q = look b d q) {p : Int} (hp : 0 ≤ p) : look a d p = look b d p := by
  rcases below_max (edges a ++ edges b) p with h1 | ⟨q, h1, h2, h3⟩
  · have := h1 0 (by simp [edges]); omega
  · rw [edges_at (l := edges a ++ edges b) h2 h3 (fun c hc => List.mem_append_left _ hc), edges_at (rows := b) (l := edges a ++ edges b) h2 h3 (fun c hc => List.mem_append_right _ hc)]
    exact h q h1
/-! ### the program's tests, one after the other -/
theorem in_ev (p a b : Int) : Ev (fun k => impl_in k p a b) (decide (a ≤ p ∧ p ≤ b)) := by
  refine Ev.ret fun k => ?_
  simp only [impl_in.eq, W, W1]
  by_cases c : a ≤ p
  · rw [if_pos c]; simp [c]
  · rw [if_neg c]; simp [c]
section
variable {p a b : Int} {g1 g2 : Nat → Option (Int × Int)} {v d : Int × Int} {rs : List RowK}
theorem in_step (h1 : Ev g1 v) (h2 : Ev g2 (look rs d p)) : Ev (fun k => (impl_in k p a b).bind fun r => brB r (g1 k) (g2 k)) (look ((a, b, v) :: rs) d p) := by
  refine Ev.bind (in_ev p a b) ?_
  simp only [look]
  by_cases c : a ≤ p ∧ p ≤ b
  · rw [if_pos c]; simp only [decide_eq_true c, W1]; exact h1
  · rw [if_neg c]; simp only [decide_eq_false c, W1]; exact h2
theorem eq_step (h1 : Ev g1 v) (h2 : Ev g2 (look rs d p)) : Ev (fun k => if p = a then g1 k else g2 k) (look ((a, a, v) :: rs) d p) := by
  simp only [look]
  by_cases c : p = a
  · rw [if_pos ⟨by omega, by omega⟩]; simp only [if_pos c]; exact h1
  · rw [if_neg (by omega)]; simp only [if_neg c]; exact h2
/-- a test's answer, handed on -/
theorem in_join {J : Nat → Bool → Option (Int × Int)} (hJ : ∀ x, Ev (fun k => J k x) (if x = true then v else d)) : Ev (fun k => (impl_in k p a b).bind fun r => J k r) (look [(a, b, v)] d p) := by
  refine Ev.bind (in_ev p a b) ?_
  have h := hJ (decide (a ≤ p ∧ p ≤ b))
  simp only [look]
  simpa using h
theorem eq_join {J : Nat → Bool → Option (Int × Int)} (hJ : ∀ x, Ev (fun k => J k x) (if x = true then v else d)) : Ev (fun k => J k (decide (p = a))) (look [(a, a, v)] d p) := by
  have h := hJ (decide (p = a))
  simp only [look]
  by_cases c : p = a
  · rw [if_pos ⟨by omega, by omega⟩]; simpa [c] using h
  · rw [if_neg (by omega)]; simpa [c] using h
end
def R48 : List RowK := [(9728, 9753, 4, 1), (9984, 10009, 10, 0), (10032, 10035, 10, 0), (10016, 10025, 8, 0), (24576, 26623, 7, 9)]
def R46 : List RowK := [(7936, 7947, 11, 0), (7953, 7953, 11, 0), (7954, 7954, 11, 0)]
def R40 : List RowK := [(2048, 2095, 7, 8), (4096, 4159, 3, 0), (7680, 7748, 10, 0), (7760, 7785, 10, 0)]
def R36 : List RowK := [(1616, 1625, 8, 6), (1792, 1810, 7, 7), (1824, 1844, 7, 7), (1857, 1883, 7, 7), (12288, 23459, 7, 7)]
def R16 : List RowK := [(48, 57, 8, 0), (65, 90, 4, 1), (97, 122, 5, 1), (33, 126, 9, 0), (173, 173, 11, 0), (161, 191, 10, 0), (1280, 1311, 7, 5), (1360, 1369, 8, 5), (1536, 1567, 7, 6), (1568, 1579, 3, 6), (1584, 1584, 3, 6), (1585, 1585, 3, 6)]
def R14 : List RowK := [(32, 32, 2, 0), (160, 160, 2, 0), (8064, 8064, 2, 0)]
def R0 : List RowK := [(0, 31, 1, 0), (127, 159, 1, 0)]
/-- letters of a block by halves -/
def mid (p : Int) : Int × Int := if 416 ≤ p % 512 then (0, 0) else if p % 512 < 208 then (4, 1) else (5, 1)
def d48 (p : Int) : Int × Int := if (8192 ≤ p ∧ p ≤ 9631) ∧ p % 512 < 416 then mid p else look R48 (0, 0) p
theorem j48 (p : Int) (hp : 0 ≤ p) (hp2 : p ≤ 1114111) (x : Bool) : Ev (fun k => impl_kind_J48 k p x) (if x = true then (11, 0) else d48 p) := by
  have e := fun k => impl_kind_J48.eq p x k
  have hs : subI .i64 p 8192 = p - 8192 := subI_i64 (by omega) (by omega)
  simp only [impl_kind_J61.eq] at e
  simp only [W, W1, W3, hs, if_neg (show ¬ (512 : Int) = 0 by omega)] at e
  refine Ev.congr e ?_
  cases x with
  | true => simp only [W1, if_true]; exact Ev.now _
  | false =>
    simp only [W1, Bool.false_eq_true, if_false]
    have rest : Ev (fun k => (impl_in k p 9728 9753).bind fun r => brB r (some (4, 1)) ((impl_in k p 9984 10009).bind fun r => brB r (some (10, 0)) ((impl_in k p 10032 10035).bind fun r => brB r (some (10, 0)) ((impl_in k p 10016 10025).bind fun r => brB r (some (8, 0)) ((impl_in k p 24576 26623).bind fun r => brB r (some (7, 9)) (some (0, 0))))))) (look R48 (0, 0) p) :=
      in_step (Ev.now _) (in_step (Ev.now _) (in_step (Ev.now _) (in_step (Ev.now _) (in_step (rs := []) (Ev.now _) (Ev.now _)))))
    refine Ev.bind (in_ev p 8192 9631) ?_
    unfold d48
    by_cases c : 8192 ≤ p ∧ p ≤ 9631
    · have hr : remI (p - 8192) 512 = p % 512 := by rw [remI_eq, Int.tmod_eq_emod_of_nonneg (by omega)]; omega
      simp only [decide_eq_true c, W1, hr]
      by_cases c2 : p % 512 < 416
      · rw [if_pos (show (8192 ≤ p ∧ p ≤ 9631) ∧ p % 512 < 416 from ⟨c, c2⟩)]
        simp only [if_pos c2]
        unfold mid
        rw [if_neg (show ¬ 416 ≤ p % 512 by omega)]
        by_cases c3 : p % 512 < 208
        · simp only [if_pos c3]; exact Ev.now _
        · simp only [if_neg c3]; exact Ev.now _
      · rw [if_neg (show ¬ ((8192 ≤ p ∧ p ≤ 9631) ∧ p % 512 < 416) from fun h => c2 h.2)]
        simp only [if_neg c2]
        exact rest
    · rw [if_neg (show ¬ ((8192 ≤ p ∧ p ≤ 9631) ∧ p % 512 < 416) from fun h => c h.1)]
      simp only [decide_eq_false c, W1]
      exact rest
theorem j46 (p : Int) (hp : 0 ≤ p) (hp2 : p ≤ 1114111) (x : Bool) : Ev (fun k => impl_kind_J46 k p x) (if x = true then (10, 0) else look R46 (d48 p) p) := by
  have e := fun k => impl_kind_J46.eq p x k
  simp only [W, W1, W3] at e
  refine Ev.congr e ?_
  have hJ := j48 p hp hp2
  cases x with
  | true => simp only [W1, if_true]; exact Ev.now _
  | false =>
    simp only [W1, Bool.false_eq_true, if_false]
    unfold R46
    exact in_step (by have := hJ true; simpa using this) (eq_step (by have := hJ true; simpa using this) (eq_join hJ))
theorem j40 (p : Int) (hp : 0 ≤ p) (hp2 : p ≤ 1114111) (x : Bool) : Ev (fun k => impl_kind_J40 k p x) (if x = true then (7, 7) else look R40 (look R46 (d48 p) p) p) := by
  have e := fun k => impl_kind_J40.eq p x k
  simp only [W, W1, W3] at e
  refine Ev.congr e ?_
  have hJ := j46 p hp hp2
  cases x with
  | true => simp only [W1, if_true]; exact Ev.now _
  | false =>
    simp only [W1, Bool.false_eq_true, if_false]
    unfold R40
    exact in_step (Ev.now _) (in_step (Ev.now _) (in_step (by have := hJ true; simpa using this) (in_join hJ)))
theorem j36 (p : Int) (hp : 0 ≤ p) (hp2 : p ≤ 1114111) (x : Bool) : Ev (fun k => impl_kind_J36 k p x) (if x = true then (3, 6) else look R36 (look R40 (look R46 (d48 p) p) p) p) := by
  have e := fun k => impl_kind_J36.eq p x k
  simp only [W, W1, W3] at e
  refine Ev.congr e ?_
  have hJ := j40 p hp hp2
  have hT : Ev (fun k => impl_kind_J40 k p true) (7, 7) := by have := hJ true; simpa using this
  cases x with
  | true => simp only [W1, if_true]; exact Ev.now _
  | false =>
    simp only [W1, Bool.false_eq_true, if_false]
    unfold R36
    exact in_step (Ev.now _) (in_step hT (in_step hT (in_step hT (in_join hJ))))
theorem j16 (p : Int) (hp : 0 ≤ p) (hp2 : p ≤ 1114111) (x : Bool) : Ev (fun k => impl_kind_J16 k p x) (if x = true then (2, 0) else look R16 (look R36 (look R40 (look R46 (d48 p) p) p) p) p) := by
  have e := fun k => impl_kind_J16.eq p x k
  simp only [W, W1, W3] at e
  refine Ev.congr e ?_
  have hJ := j36 p hp hp2
  have hT : Ev (fun k => impl_kind_J36 k p true) (3, 6) := by have := hJ true; simpa using this
  cases x with
  | true => simp only [W1, if_true]; exact Ev.now _
  | false =>
    simp only [W1, Bool.false_eq_true, if_false]
    unfold R16
    exact in_step (Ev.now _) (in_step (Ev.now _) (in_step (Ev.now _) (in_step (Ev.now _) (eq_step (Ev.now _) (in_step (Ev.now _) (in_step (Ev.now _) (in_step (Ev.now _) (in_step (Ev.now _) (in_step hT (eq_step hT (eq_join hJ)))))))))))
theorem j14 (p : Int) (hp : 0 ≤ p) (hp2 : p ≤ 1114111) (x : Bool) : Ev (fun k => impl_kind_J14 k p x) (if x = true then (1, 0) else look R14 (look R16 (look R36 (look R40 (look R46 (d48 p) p) p) p) p) p) := by
  have e := fun k => impl_kind_J14.eq p x k
  simp only [W, W1, W3] at e
  refine Ev.congr e ?_
  have hJ := j16 p hp hp2
  have hT : Ev (fun k => impl_kind_J16 k p true) (2, 0) := by have := hJ true; simpa using this
  cases x with
  | true => simp only [W1, if_true]; exact Ev.now _
  | false =>
    simp only [W1, Bool.false_eq_true, if_false]
    unfold R14
    exact eq_step hT (eq_step hT (eq_join hJ))
/-- the rows of the reference -/
def SR : List RowK := [(0, 31, 1, 0), (32, 32, 2, 0), (48, 57, 8, 0), (65, 90, 4, 1), (97, 122, 5, 1), (33, 126, 9, 0), (127, 159, 1, 0), (160, 160, 2, 0), (173, 173, 11, 0), (161, 191, 10, 0), (1280, 1311, 7, 5), (1360, 1369, 8, 5), (1536, 1567, 7, 6), (1568, 1579, 3, 6), (1584, 1585, 3, 6), (1616, 1625, 8, 6), (1792, 1810, 7, 7), (1824, 1844, 7, 7), (1857, 1883, 7, 7), (2048, 2095, 7, 8), (4096, 4159, 3, 0), (7680, 7748, 10, 0), (7760, 7785, 10, 0), (7936, 7947, 11, 0), (7953, 7954, 11, 0), (8064, 8064, 2, 0), (9728, 9753, 4, 1), (9984, 10009, 10, 0), (10016, 10025, 8, 0), (10032, 10035, 10, 0), (12288, 23459, 7, 7), (24576, 26623, 7, 9)]
def CR : List RowK := [(0, 31, 4, 0), (32, 63, 5, 0), (64, 67, 4, 0), (68, 71, 6, 0), (72, 75, 5, 0), (80, 89, 8, 0), (96, 97, 5, 0)]
def IR : List RowK := R0 ++ (R14 ++ (R16 ++ (R36 ++ (R40 ++ (R46 ++ R48)))))
set_option maxRecDepth 100000 in
theorem ir_sr : ∀ q ∈ edges IR ++ edges SR, look IR (0, 0) q = look SR (0, 0) q := by decide +kernel
/-- what a point is, outside of the cased blocks -/
def kind1 (p : Int) : Int × Int := if 8192 ≤ p ∧ p < 9728 then mid p else look SR (0, 0) p
theorem chain_eq (p : Int) (hp : 0 ≤ p) : look R0 (look R14 (look R16 (look R36 (look R40 (look R46 (d48 p) p) p) p) p) p) p = kind1 p := by
  unfold kind1
  by_cases c : 8192 ≤ p ∧ p < 9728
  · rw [if_pos c]
    have m : ∀ rows : List RowK, (∀ r ∈ rows, r.2.1 < 8192 ∨ 9728 ≤ r.1) → ∀ d, look rows d p = d := fun rows h d => look_miss fun r hr => by
      rcases h r hr with h | h <;> omega
    rw [m R0 (by decide), m R14 (by decide), m R16 (by decide), m R36 (by decide), m R40 (by decide), m R46 (by decide)]
    unfold d48
    by_cases c2 : (8192 ≤ p ∧ p ≤ 9631) ∧ p % 512 < 416
    · rw [if_pos c2]
    · rw [if_neg c2, m R48 (by decide)]
      unfold mid
      rw [if_pos (by omega)]
  · rw [if_neg c]
    have e : d48 p = look R48 (0, 0) p := by
      unfold d48
      rw [if_neg (by omega)]
    rw [e, ← look_append, ← look_append, ← look_append, ← look_append, ← look_append, ← look_append]
    exact rows_same ir_sr hp
/-! ### the cased blocks -/
def blockRows (s : Int) : List RowK := [(0, 31, 4, s), (64, 67, 4, s), (0, 63, 5, s), (72, 75, 5, s), (96, 97, 5, s), (68, 71, 6, s), (80, 89, 8, s)]
def casedRows (s : Int) : List RowK := [(0, 31, 4, s), (32, 63, 5, s), (64, 67, 4, s), (68, 71, 6, s), (72, 75, 5, s), (80, 89, 8, s), (96, 97, 5, s)]
set_option maxRecDepth 100000 in
theorem bits_raw : ∀ n : Nat, n < 768 → IntKind.i64.wrap (((BitVec.ofInt IntKind.i64.bits (((512 + n : Nat) : Int)) &&& ~~~ BitVec.ofInt IntKind.i64.bits 255).toNat : Nat) : Int) = ((((512 + n) / 256 * 256 : Nat)) : Int) ∧ IntKind.i64.wrap (((BitVec.ofInt IntKind.i64.bits (((512 + n : Nat) : Int)) &&& BitVec.ofInt IntKind.i64.bits 255).toNat : Nat) : Int) = ((((512 + n) % 256 : Nat)) : Int) := by decide +kernel
theorem block_bits (m : Nat) (h1 : 512 ≤ m) (h2 : m < 1280) : andNotI .i64 (m : Int) 255 = ((m / 256 * 256 : Nat) : Int) ∧ andI .i64 (m : Int) 255 = ((m % 256 : Nat) : Int) := by
  have h := bits_raw (m - 512) (by omega)
  rw [show 512 + (m - 512) = m by omega] at h
  rw [andNotI_eq, andI_eq]
  exact h
theorem blocks_same (s k : Int) (hs : s = 2 ∨ s = 3 ∨ s = 4) (hk : 0 ≤ k) : look (blockRows s) (0, 0) k = look (casedRows s) (0, 0) k := by
  rcases hs with rfl | rfl | rfl
  · exact rows_same (by decide +kernel) hk
  · exact rows_same (by decide +kernel) hk
  · exact rows_same (by decide +kernel) hk
def kindOf (p : Int) : Int × Int := if 512 ≤ p ∧ p < 1280 then look (casedRows (p / 256)) (0, 0) (p % 256) else kind1 p
theorem implKind (p : Int) (hp : 0 ≤ p) (hp2 : p ≤ 1114111) : Ev (fun k => impl_kind k p) (kindOf p) := by
  have e := fun k => impl_kind.eq p k
  have eB := fun k => impl_block.eq p k
  simp only [W, W1, W3, if_pos (show (0 : Int) ≤ 8 by omega)] at e eB
  unfold kindOf
  by_cases c : 512 ≤ p ∧ p < 1280
  · rw [if_pos c]
    obtain ⟨m, rfl⟩ := Int.eq_ofNat_of_zero_le hp
    obtain ⟨b1, b2⟩ := block_bits m (by omega) (by omega)
    simp only [if_pos c.1, if_pos c.2, b1, b2] at eB
    refine Ev.step e (Ev.bind (Ev.ret eB) ?_)
    have hs : shrI .i64 ((m / 256 * 256 : Nat) : Int) 8 = (m : Int) / 256 := by
      rw [shrI_eq]
      have hb : min (8 : Int).toNat IntKind.i64.bits = 8 := by decide
      rw [hb]
      rw [Int.fdiv_eq_ediv_of_nonneg _ (by decide)]
      show ((m / 256 * 256 : Nat) : Int) / 256 = (m : Int) / 256
      omega
    have hm : ((m % 256 : Nat) : Int) = (m : Int) % 256 := by omega
    simp only [if_pos (show (0 : Int) < ((m / 256 * 256 : Nat) : Int) by omega), hs, hm]
    rw [← blocks_same ((m : Int) / 256) ((m : Int) % 256) (by omega) (by omega)]
    unfold blockRows
    have k0 : 0 ≤ (m : Int) % 256 := by omega
    generalize (m : Int) % 256 = q at *
    generalize (m : Int) / 256 = s at *
    have lt_step : ∀ {b : Int} {g1 g2 : Nat → Option (Int × Int)} {v d : Int × Int} {rs : List RowK}, Ev g1 v → Ev g2 (look rs d q) → Ev (fun k => if q < b + 1 then g1 k else g2 k) (look ((0, b, v) :: rs) d q) := fun {b g1 g2 v d rs} h1 h2 => by
      simp only [look]
      by_cases c : q < b + 1
      · rw [if_pos ⟨k0, by omega⟩]; simp only [if_pos c]; exact h1
      · rw [if_neg (by omega)]; simp only [if_neg c]; exact h2
    exact lt_step (b := 31) (Ev.now _) (in_step (Ev.now _) (lt_step (b := 63) (Ev.now _) (in_step (Ev.now _) (in_step (Ev.now _) (in_step (Ev.now _) (in_step (rs := []) (Ev.now _) (Ev.now _)))))))
  · rw [if_neg c, ← chain_eq p hp]
    have hb : Ev (fun k => impl_block k p) (0, 0) := by
      by_cases c1 : 512 ≤ p
      · simp only [if_pos c1, if_neg (show ¬ p < 1280 by omega)] at eB
        exact Ev.ret eB
      · simp only [if_neg c1] at eB
        exact Ev.ret eB
    refine Ev.step e (Ev.bind hb ?_)
    simp only [if_neg (show ¬ (0 : Int) < 0 by omega)]
    have hJ := j14 p hp hp2
    unfold R0
    exact in_step (by have := hJ true; simpa using this) (in_join hJ)
theorem rows_loop (rows : List RowK) (p : Int) (hl : rows.length ≤ 1048576) : ∀ (suf pre : List RowK), rows = pre ++ suf → Ev2 (fun k j => spec_l01Known_L18 k j p (pre.length : Int) rows) (look suf (0, 0) p) := by
  intro suf
  induction suf with
  | nil =>
    intro pre hp
    refine Ev2.ret fun k j => ?_
    simp only [spec_l01Known_L18.eq, W, W1, W2]
    rw [if_neg (by rw [hp]; exact end_nlt pre)]
    rfl
  | cons r suf ih =>
    intro pre hp
    have hle : pre.length + 1 ≤ rows.length := by rw [hp, List.length_append, List.length_cons]; omega
    have hr : rd rows (pre.length : Int) (0, (0, (0, 0))) = r := by rw [hp]; exact rd_mid pre suf r _
    have e := fun k j => spec_l01Known_L18.eq p (pre.length : Int) rows k j
    simp only [W, W1, W2, W3, hr, if_pos (nat_ge pre.length), if_pos (show (pre.length : Int) < (rows.length : Int) by omega), next_i pre r (by omega)] at e
    have h := ih (pre ++ [r]) (by rw [hp]; simp)
    refine Ev2.step e ?_
    simp only [look]
    by_cases c1 : r.1 ≤ p
    · by_cases c2 : p ≤ r.2.1
      · rw [if_pos ⟨c1, c2⟩]; simp only [if_pos c1, if_pos c2]; exact Ev2.now _
      · rw [if_neg (fun h => c2 h.2)]; simp only [if_pos c1, if_neg c2]; exact h
    · rw [if_neg (fun h => c1 h.1)]; simp only [if_neg c1]; exact h
theorem cased_loop (rows : List RowK) (p : Int) (hp0 : 0 ≤ p) (hp1 : p ≤ 1114111) (hl : rows.length ≤ 1048576) : ∀ (suf pre : List RowK), rows = pre ++ suf → Ev2 (fun k j => spec_l01Known_L4 k j p (pre.length : Int) rows) (look (suf.map fun r => (r.1, r.2.1, r.2.2.1, p / 256)) (0, 0) (p % 256)) := by
  have hrem : remI p 256 = p % 256 := by rw [remI_eq, Int.tmod_eq_emod_of_nonneg hp0]
  have hquo : quoI .i64 p 256 = p / 256 := by
    rw [quoI_eq, Int.tdiv_eq_ediv_of_nonneg hp0]
    exact wrap_i64 (by omega) (by omega)
  intro suf
  induction suf with
  | nil =>
    intro pre hp
    refine Ev2.ret fun k j => ?_
    simp only [spec_l01Known_L4.eq, W, W1, W2]
    rw [if_neg (by rw [hp]; exact end_nlt pre)]
    rfl
  | cons r suf ih =>
    intro pre hp
    have hle : pre.length + 1 ≤ rows.length := by rw [hp, List.length_append, List.length_cons]; omega
    have hr : rd rows (pre.length : Int) (0, (0, (0, 0))) = r := by rw [hp]; exact rd_mid pre suf r _
    have e := fun k j => spec_l01Known_L4.eq p (pre.length : Int) rows k j
    simp only [W, W1, W2, W3, hr, hrem, hquo, if_neg (show ¬ (256 : Int) = 0 by omega), if_pos (nat_ge pre.length), if_pos (show (pre.length : Int) < (rows.length : Int) by omega), next_i pre r (by omega)] at e
    have h := ih (pre ++ [r]) (by rw [hp]; simp)
    refine Ev2.step e ?_
    simp only [List.map_cons, look]
    by_cases c1 : r.1 ≤ p % 256
    · by_cases c2 : p % 256 ≤ r.2.1
      · rw [if_pos ⟨c1, c2⟩]; simp only [if_pos c1, if_pos c2]; exact Ev2.now _
      · rw [if_neg (fun h => c2 h.2)]; simp only [if_pos c1, if_neg c2]; exact h
    · rw [if_neg (fun h => c1 h.1)]; simp only [if_neg c1]; exact h
theorem specKnown (p : Int) (hp : 0 ≤ p) (hp2 : p ≤ 1114111) : Ev (fun k => spec_l01Known k p) (kindOf p) := by
  have e := fun k => spec_l01Known.eq p k
  have hR : Ev (fun k => spec_l01Rows k) SR := Ev.ret fun k => spec_l01Rows.eq k
  have hC : Ev (fun k => spec_l01Cased k) CR := Ev.ret fun k => spec_l01Cased.eq k
  have hrem : remI p 512 = p % 512 := by rw [remI_eq, Int.tmod_eq_emod_of_nonneg hp]
  simp only [W, W1, W2, W3, hrem, if_neg (show ¬ (512 : Int) = 0 by omega)] at e
  have h18 := (rows_loop SR p (by decide) SR [] rfl).ev
  unfold kindOf
  by_cases c : 512 ≤ p ∧ p < 1280
  · rw [if_pos c]
    have h4 := (cased_loop CR p hp hp2 (by decide) CR [] rfl).ev
    simp only [if_pos c.1, if_pos c.2] at e
    exact Ev.step e (Ev.bind hC h4)
  · rw [if_neg c]
    have key : Ev (fun k => if 8192 ≤ p then (if p < 9728 then (if 416 ≤ p % 512 then some (0, 0) else if p % 512 < 208 then some (4, 1) else some (5, 1)) else (spec_l01Rows k).bind fun r0 => spec_l01Known_L18 k k p 0 r0) else (spec_l01Rows k).bind fun r0 => spec_l01Known_L18 k k p 0 r0) (kind1 p) := by
      unfold kind1
      by_cases c1 : 8192 ≤ p
      · by_cases c2 : p < 9728
        · rw [if_pos (show 8192 ≤ p ∧ p < 9728 from ⟨c1, c2⟩)]
          simp only [if_pos c1, if_pos c2]
          unfold mid
          by_cases c3 : 416 ≤ p % 512
          · simp only [if_pos c3]; exact Ev.now _
          · by_cases c4 : p % 512 < 208
            · simp only [if_neg c3, if_pos c4]; exact Ev.now _
            · simp only [if_neg c3, if_neg c4]; exact Ev.now _
        · rw [if_neg (show ¬ (8192 ≤ p ∧ p < 9728) from fun h => c2 h.2)]
          simp only [if_pos c1, if_neg c2]
          exact Ev.bind hR h18
      · rw [if_neg (show ¬ (8192 ≤ p ∧ p < 9728) from fun h => c1 h.1)]
        simp only [if_neg c1]
        exact Ev.bind hR h18
    by_cases c1 : 512 ≤ p
    · simp only [if_pos c1, if_neg (show ¬ p < 1280 from fun h => c ⟨c1, h⟩)] at e
      exact Ev.step e key
    · simp only [if_neg c1] at e
      exact Ev.step e key
def cat (p : Int) : Int := (kindOf p).1
theorem implCategory (p : Int) (hp : 0 ≤ p) (hp2 : p ≤ 1114111) : Ev (fun k => impl_Category k p) (cat p) := by
  have e := fun k => impl_Category.eq p k
  simp only [W3] at e
  exact Ev.step e (Ev.bind (implKind p hp hp2) (Ev.now _))
theorem specCat (p : Int) (hp : 0 ≤ p) (hp2 : p ≤ 1114111) : Ev (fun k => spec_l01Cat k p) (cat p) := by
  have e := fun k => spec_l01Cat.eq p k
  simp only [W3] at e
  exact Ev.step e (Ev.bind (specKnown p hp hp2) (Ev.now _))
#print axioms specCat
#print axioms implCategory
end Go.Proofs.YtmmmlfndnoeedaaDoor.IX
