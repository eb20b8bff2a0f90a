/- slices.SortStableFunc, plainly: out of its functions' equations, whatever the elements are, and whether a row or a window of it is sorted. -/
import Derived.Test.YtfbhkkedmfbgbaaDoorPStab
import Derived.Test.YtfbhkkedmfbgbaaDoorEG
namespace Go.Proofs.YtfbhkkedmfbgbaaDoor.PM.St
open Go.Eng Go.RowKit
set_option linter.unusedVariables false
set_option linter.unusedSimpArgs false
/-- the middle, as the library writes it -/
noncomputable def mdI (i j : Int) : Int := wrI .i64 (shrI .u64 (wrI .u64 (addI .i64 i j)) 1)
theorem mdI_nat (i j : Nat) (hi : i ≤ 1099511627776) (hj : j ≤ 1099511627776) : mdI (i : Int) (j : Int) = (((i + j) / 2 : Nat) : Int) := by
  unfold mdI
  rw [addI_i64 (by omega) (by omega), wrI_eq, wrI_eq, shrI_eq]
  have e : IntKind.u64.wrap ((i : Int) + (j : Int)) = (i : Int) + (j : Int) := by rw [IntKind.wrap_u64]; omega
  rw [e, show (1 : Int).toNat = 1 from rfl, show min 1 IntKind.u64.bits = 1 from rfl]
  rw [show ((i : Int) + (j : Int)).fdiv (2 ^ 1) = ((i : Int) + (j : Int)) / 2 by rw [Int.fdiv_eq_ediv_of_nonneg _ (by omega)]; rfl]
  rw [IntKind.wrap_i64]
  omega
structure SEq {α : Type} (z : α) (ix : Int → Int) (nn : List α → Int) (cmp : Nat → α → α → Option Int) where
  swapF : Nat → Int → Int → Int → List α → Option (Unit × List α)
  swapL : Nat → Nat → Int → Int → Int → Int → List α → Option (Unit × List α)
  rotF : Nat → Int → Int → Int → List α → Option (Unit × List α)
  rotL : Nat → Nat → Int → Int → Int → List α → Option (Unit × List α)
  symF : Nat → Int → Int → Int → List α → Option (Unit × List α)
  symL3 : Nat → Nat → Int → Int → Int → List α → Option (Unit × List α)
  symL9 : Nat → Nat → Int → Int → List α → Option (Unit × List α)
  symL15 : Nat → Nat → Int → Int → Int → List α → Option (Unit × List α)
  symL21 : Nat → Nat → Int → Int → List α → Option (Unit × List α)
  symL33 : Nat → Nat → Int → Int → Int → Int → Int → Int → Int → Int → List α → Option (Unit × List α)
  symJ41 : Nat → Int → Int → Int → Int → Int → List α → Option (Unit × List α)
  symJ43 : Nat → Int → Int → Int → List α → Option (Unit × List α)
  insF : Nat → Int → Int → List α → Option (Unit × List α)
  insL1 : Nat → Nat → Int → Int → Int → List α → Option (Unit × List α)
  insL4 : Nat → Nat → Nat → Int → Int → Int → Int → List α → Option (Unit × List α)
  stF : Nat → Int → List α → Option (Unit × List α)
  stL2 : Nat → Nat → Int → Int → Int → Int → List α → Option (Unit × List α)
  stL7 : Nat → Nat → Int → Int → List α → Option (Unit × List α)
  stL9 : Nat → Nat → Nat → Int → Int → Int → Int → List α → Option (Unit × List α)
  swapF_eq : ∀ k a b n d, swapF (k + 1) a b n d = swapL k k a b n 0 d
  swapL_eq : ∀ k j a b n i d, swapL k (j + 1) a b n i d = brB (ltI i n)
    (chk (leI 0 (addI .i64 b i)) <| chk (ltI (addI .i64 b i) (nn d)) <| chk (leI 0 (addI .i64 a i)) <| chk (ltI (addI .i64 a i) (nn d)) <| chk (leI 0 (addI .i64 a i)) <| chk (ltI (addI .i64 a i) (nn d)) <| chk (leI 0 (addI .i64 b i)) <|
     chk (ltI (addI .i64 b i) (nn (setI d (ix (addI .i64 a i)) (rd d (ix (addI .i64 b i)) z)))) <| swapL k j a b n (addI .i64 i 1) (setI (setI d (ix (addI .i64 a i)) (rd d (ix (addI .i64 b i)) z)) (ix (addI .i64 b i)) (rd d (ix (addI .i64 a i)) z))) (some ((), d))
  rotF_eq : ∀ k a m b d, rotF (k + 1) a m b d = rotL k k m (subI .i64 m a) (subI .i64 b m) d
  rotL_eq : ∀ k q m i j d, rotL k (q + 1) m i j d = brB (notB (eqI i j)) (brB (ltI j i) (optB (swapF k (subI .i64 m i) m j d) fun r0 => rotL k q m (subI .i64 i j) j r0.2)
    (optB (swapF k (subI .i64 m i) (subI .i64 (addI .i64 m j) i) i d) fun r0 => rotL k q m i (subI .i64 j i) r0.2)) (optB (swapF k (subI .i64 m i) m i d) fun r0 => some ((), r0.2))
  symF_eq : ∀ k a m b d, symF (k + 1) a m b d = brB (eqI (subI .i64 m a) 1) (symL3 k k a m b d) (brB (eqI (subI .i64 b m) 1) (symL15 k k m a m d) (chk (leI 0 1) <| brB (ltI (mdI a b) m)
    (symL33 k k a m b (mdI a b) (addI .i64 (mdI a b) m) (subI .i64 (addI .i64 (mdI a b) m) b) (mdI a b) (subI .i64 (addI .i64 (mdI a b) m) 1) d)
    (symL33 k k a m b (mdI a b) (addI .i64 (mdI a b) m) a m (subI .i64 (addI .i64 (mdI a b) m) 1) d)))
  symL3_eq : ∀ k q a i j d, symL3 k (q + 1) a i j d = brB (ltI i j) (chk (leI 0 1) <| chk (leI 0 (mdI i j)) <| chk (ltI (mdI i j) (nn d)) <| chk (leI 0 a) <| chk (ltI a (nn d)) <| optB (cmp k (rd d (ix (mdI i j)) z) (rd d (ix a) z)) fun r0 =>
    brB (ltI r0 0) (symL3 k q a (addI .i64 (mdI i j) 1) j d) (symL3 k q a i (mdI i j) d)) (symL9 k k i a d)
  symL9_eq : ∀ k q i t d, symL9 k (q + 1) i t d = brB (ltI t (subI .i64 i 1)) (chk (leI 0 (addI .i64 t 1)) <| chk (ltI (addI .i64 t 1) (nn d)) <| chk (leI 0 t) <| chk (ltI t (nn d)) <| chk (leI 0 t) <| chk (ltI t (nn d)) <| chk (leI 0 (addI .i64 t 1)) <|
    chk (ltI (addI .i64 t 1) (nn (setI d (ix t) (rd d (ix (addI .i64 t 1)) z)))) <| symL9 k q i (addI .i64 t 1) (setI (setI d (ix t) (rd d (ix (addI .i64 t 1)) z)) (ix (addI .i64 t 1)) (rd d (ix t) z))) (some ((), d))
  symL15_eq : ∀ k q m i j d, symL15 k (q + 1) m i j d = brB (ltI i j) (chk (leI 0 1) <| chk (leI 0 m) <| chk (ltI m (nn d)) <| chk (leI 0 (mdI i j)) <| chk (ltI (mdI i j) (nn d)) <| optB (cmp k (rd d (ix m) z) (rd d (ix (mdI i j)) z)) fun r0 =>
    brB (notB (ltI r0 0)) (symL15 k q m (addI .i64 (mdI i j) 1) j d) (symL15 k q m i (mdI i j) d)) (symL21 k k i m d)
  symL21_eq : ∀ k q i t d, symL21 k (q + 1) i t d = brB (ltI i t) (chk (leI 0 (subI .i64 t 1)) <| chk (ltI (subI .i64 t 1) (nn d)) <| chk (leI 0 t) <| chk (ltI t (nn d)) <| chk (leI 0 t) <| chk (ltI t (nn d)) <| chk (leI 0 (subI .i64 t 1)) <|
    chk (ltI (subI .i64 t 1) (nn (setI d (ix t) (rd d (ix (subI .i64 t 1)) z)))) <| symL21 k q i (subI .i64 t 1) (setI (setI d (ix t) (rd d (ix (subI .i64 t 1)) z)) (ix (subI .i64 t 1)) (rd d (ix t) z))) (some ((), d))
  symL33_eq : ∀ k q a m b mid n s r p d, symL33 k (q + 1) a m b mid n s r p d = brB (ltI s r) (chk (leI 0 1) <| chk (leI 0 (subI .i64 p (mdI s r))) <| chk (ltI (subI .i64 p (mdI s r)) (nn d)) <| chk (leI 0 (mdI s r)) <| chk (ltI (mdI s r) (nn d)) <|
    optB (cmp k (rd d (ix (subI .i64 p (mdI s r))) z) (rd d (ix (mdI s r)) z)) fun r0 => brB (notB (ltI r0 0)) (symL33 k q a m b mid n (addI .i64 (mdI s r) 1) r p d) (symL33 k q a m b mid n s (mdI s r) p d))
    (brB (ltI s m) (brB (ltI m (subI .i64 n s)) (optB (rotF k s m (subI .i64 n s) d) fun r0 => symJ41 k a b mid s (subI .i64 n s) r0.2) (symJ41 k a b mid s (subI .i64 n s) d)) (symJ41 k a b mid s (subI .i64 n s) d))
  symJ41_eq : ∀ k a b mid s e d, symJ41 k a b mid s e d = brB (ltI a s) (brB (ltI s mid) (optB (symF k a s mid d) fun r0 => symJ43 k b mid e r0.2) (symJ43 k b mid e d)) (symJ43 k b mid e d)
  symJ43_eq : ∀ k b mid e d, symJ43 k b mid e d = brB (ltI mid e) (brB (ltI e b) (optB (symF k mid e b d) fun r0 => some ((), r0.2)) (some ((), d))) (some ((), d))
  insF_eq : ∀ k a b d, insF (k + 1) a b d = insL1 k k a b (addI .i64 a 1) d
  insL1_eq : ∀ k q a b i d, insL1 k (q + 1) a b i d = brB (ltI i b) (insL4 k q k a b i i d) (some ((), d))
  insL4_eq : ∀ k q p a b i j d, insL4 k q (p + 1) a b i j d = brB (ltI a j) (chk (leI 0 j) <| chk (ltI j (nn d)) <| chk (leI 0 (subI .i64 j 1)) <| chk (ltI (subI .i64 j 1) (nn d)) <| optB (cmp k (rd d (ix j) z) (rd d (ix (subI .i64 j 1)) z)) fun r0 => brB (ltI r0 0)
    (chk (leI 0 (subI .i64 j 1)) <| chk (ltI (subI .i64 j 1) (nn d)) <| chk (leI 0 j) <| chk (ltI j (nn d)) <| chk (leI 0 j) <| chk (ltI j (nn d)) <| chk (leI 0 (subI .i64 j 1)) <| chk (ltI (subI .i64 j 1) (nn (setI d (ix j) (rd d (ix (subI .i64 j 1)) z)))) <|
     insL4 k q p a b i (subI .i64 j 1) (setI (setI d (ix j) (rd d (ix (subI .i64 j 1)) z)) (ix (subI .i64 j 1)) (rd d (ix j) z))) (insL1 k q a b (addI .i64 i 1) d)) (insL1 k q a b (addI .i64 i 1) d)
  stF_eq : ∀ k n d, stF (k + 1) n d = stL2 k k n 20 0 20 d
  stL2_eq : ∀ k q n bs a b d, stL2 k (q + 1) n bs a b d = brB (leI b n) (optB (insF k a b d) fun r0 => stL2 k q n bs b (addI .i64 b bs) r0.2) (optB (insF k a n d) fun r0 => stL7 k k n bs r0.2)
  stL7_eq : ∀ k q n bs d, stL7 k (q + 1) n bs d = brB (ltI bs n) (stL9 k q k n bs 0 (mulI .i64 2 bs) d) (some ((), d))
  stL9_eq : ∀ k q p n bs a b d, stL9 k q (p + 1) n bs a b d = brB (leI b n) (optB (symF k a (addI .i64 a bs) b d) fun r0 => stL9 k q p n bs b (addI .i64 b (mulI .i64 2 bs)) r0.2)
    (brB (ltI (addI .i64 a bs) n) (optB (symF k a (addI .i64 a bs) n d) fun r0 => stL7 k q n (mulI .i64 bs 2) r0.2) (stL7 k q n (mulI .i64 bs 2) d))
section
variable {α : Type} {z : α} {kf : α → Int} {ix : Int → Int} {nn : List α → Int} {cmp : Nat → α → α → Option Int}
/-- what stands at a place -/
theorem sw_lo (A M B : List α) (x y : α) : ((A ++ x :: (M ++ y :: B)).set A.length y).set (A.length + 1 + M.length) x = A ++ y :: (M ++ x :: B) := by
  rw [List.set_append_right _ _ (Nat.le_refl _), Nat.sub_self, List.set_cons_zero, List.set_append_right _ _ (by omega), show A.length + 1 + M.length - A.length = M.length + 1 by omega, List.set_cons_succ, List.set_append_right _ _ (Nat.le_refl _), Nat.sub_self, List.set_cons_zero]
theorem sw_hi (A M B : List α) (x y : α) : ((A ++ x :: (M ++ y :: B)).set (A.length + 1 + M.length) x).set A.length y = A ++ y :: (M ++ x :: B) := by
  rw [List.set_append_right _ _ (by omega), show A.length + 1 + M.length - A.length = M.length + 1 by omega, List.set_cons_succ, List.set_append_right _ _ (Nat.le_refl _), Nat.sub_self, List.set_cons_zero, List.set_append_right _ _ (Nat.le_refl _), Nat.sub_self, List.set_cons_zero]
theorem rd_lo (A M B : List α) (x y z : α) : rd (A ++ x :: (M ++ y :: B)) (A.length : Int) z = x := rd_mid _ _ _ _
theorem rd_hi (A M B : List α) (x y z : α) : rd (A ++ x :: (M ++ y :: B)) ((A.length + 1 + M.length : Nat) : Int) z = y := by
  have := rd_mid (A ++ x :: M) B y z
  rw [List.length_append, List.length_cons, List.append_assoc, List.cons_append] at this
  rw [show A.length + 1 + M.length = A.length + (M.length + 1) by omega]
  exact this
variable (S : SEq z ix nn cmp) (o w : Nat) (hix : ∀ i, ix i = (o : Int) + i) (T : Nat) (hnn : ∀ l : List α, l.length = T → nn l = (w : Int)) (hw : w ≤ 1099511627776)
  (hcmp : ∀ x y, ∃ c, Ev (fun k => cmp k x y) c ∧ (c < 0 ↔ kf x < kf y))
include hix hnn hw
/-! ### ranges swapped -/
theorem swapL_ev (a b n : Nat) (hb : b + n ≤ w) (hab : a + n ≤ b) : ∀ (U2 V2 A U1 V1 M B : List α), U2.length = V2.length → U1.length = V1.length → A.length = o + a → U1.length + U2.length = n → a + n + M.length = b → (A ++ V1 ++ (U2 ++ (M ++ (U1 ++ (V2 ++ B))))).length = T →
    Ev2 (fun k j => S.swapL k j (a : Int) (b : Int) (n : Int) (U1.length : Int) (A ++ V1 ++ (U2 ++ (M ++ (U1 ++ (V2 ++ B)))))) ((), A ++ (V1 ++ V2) ++ (M ++ ((U1 ++ U2) ++ B)))
  | [], [], A, U1, V1, M, B, _, h2, h3, h4, h5, hT => by
    refine Ev2.ret fun k j => ?_
    rw [S.swapL_eq]
    simp only [List.length_nil, Nat.add_zero] at h4
    simp only [W, W1, W2, h4, if_neg (Int.lt_irrefl _)]
    simp
  | x :: U2, y :: V2, A, U1, V1, M, B, h1, h2, h3, h4, h5, hT => by
    simp only [List.length_cons] at h1 h4
    have ea : addI .i64 (a : Int) (U1.length : Int) = ((a + U1.length : Nat) : Int) := by rw [addI_i64 (by omega) (by omega)]; omega
    have eb : addI .i64 (b : Int) (U1.length : Int) = ((b + U1.length : Nat) : Int) := by rw [addI_i64 (by omega) (by omega)]; omega
    have ei : addI .i64 (U1.length : Int) 1 = (((U1 ++ [x]).length : Nat) : Int) := by rw [addI_i64 (by omega) (by omega)]; simp
    have hl : (A ++ V1).length = o + (a + U1.length) := by rw [List.length_append]; omega
    have hm : (A ++ V1).length + 1 + (U2 ++ (M ++ U1)).length = o + (b + U1.length) := by simp only [List.length_append]; omega
    have xa : ix ((a + U1.length : Nat) : Int) = (((A ++ V1).length : Nat) : Int) := by rw [hix, hl]; omega
    have xb : ix ((b + U1.length : Nat) : Int) = (((A ++ V1).length + 1 + (U2 ++ (M ++ U1)).length : Nat) : Int) := by rw [hix, hm]; omega
    have hd : A ++ V1 ++ (x :: U2 ++ (M ++ (U1 ++ (y :: V2 ++ B)))) = (A ++ V1) ++ x :: ((U2 ++ (M ++ U1)) ++ y :: (V2 ++ B)) := by simp
    rw [hd] at hT ⊢
    have e := fun k j => S.swapL_eq k j (a : Int) (b : Int) (n : Int) (U1.length : Int) ((A ++ V1) ++ x :: ((U2 ++ (M ++ U1)) ++ y :: (V2 ++ B)))
    simp only [W, W1, W2, ea, eb, xa, xb, rd_lo, rd_hi, Int.toNat_natCast, sw_lo, hnn _ hT, hnn (((A ++ V1) ++ x :: ((U2 ++ (M ++ U1)) ++ y :: (V2 ++ B))).set (A ++ V1).length y) (by rw [List.length_set]; exact hT),
      if_pos (show ((U1.length : Nat) : Int) < (n : Int) by omega), if_pos (nat_ge (b + U1.length)), if_pos (nat_ge (a + U1.length)), if_pos (show ((b + U1.length : Nat) : Int) < (w : Int) by omega), if_pos (show ((a + U1.length : Nat) : Int) < (w : Int) by omega), ei] at e
    have ih := swapL_ev a b n hb hab U2 V2 A (U1 ++ [x]) (V1 ++ [y]) M B (by omega) (by simp; omega) h3 (by simp; omega) h5 (by
      rw [← hT]; simp only [List.length_append, List.length_cons, List.length_nil]; omega)
    refine Ev2.step e ?_
    have e2 : A ++ (V1 ++ [y]) ++ (U2 ++ (M ++ (U1 ++ [x] ++ (V2 ++ B)))) = (A ++ V1) ++ y :: ((U2 ++ (M ++ U1)) ++ x :: (V2 ++ B)) := by simp
    rw [e2] at ih
    have e3 : A ++ (V1 ++ y :: V2) ++ (M ++ ((U1 ++ x :: U2) ++ B)) = A ++ (V1 ++ [y] ++ V2) ++ (M ++ ((U1 ++ [x] ++ U2) ++ B)) := by simp
    rw [e3]
    exact ih
theorem swap_ev (a b : Nat) (A U M V B : List α) (h1 : U.length = V.length) (hA : A.length = o + a) (hb : a + U.length + M.length = b) (hbw : b + U.length ≤ w) (hT : (A ++ (U ++ (M ++ (V ++ B)))).length = T) :
    Ev (fun k => S.swapF k (a : Int) (b : Int) (U.length : Int) (A ++ (U ++ (M ++ (V ++ B))))) ((), A ++ (V ++ (M ++ (U ++ B)))) := by
  have := swapL_ev S o w hix T hnn hw a b U.length hbw (by omega) U V A [] [] M B h1 rfl hA (by simp) hb (by simpa using hT)
  simp only [List.append_nil, List.nil_append, List.length_nil, List.append_assoc] at this
  refine Ev.step (fun k => S.swapF_eq k _ _ _ _) (Ev2.ev (g := fun k j => S.swapL k j _ _ _ _ _) ?_)
  exact this
/-! ### two neighbours turned -/
theorem rotL_ev (m : Nat) (hm : m ≤ w) : ∀ (t : Nat) (A U V B : List α), U.length + V.length ≤ t → 0 < U.length → 0 < V.length → A.length + U.length = o + m → o ≤ A.length → m + V.length ≤ w → (A ++ (U ++ (V ++ B))).length = T →
    Ev2 (fun k q => S.rotL k q (m : Int) (U.length : Int) (V.length : Int) (A ++ (U ++ (V ++ B)))) ((), A ++ (V ++ (U ++ B)))
  | 0, A, U, V, B, ht, hu, hv, _, _, _, _ => by omega
  | t + 1, A, U, V, B, ht, hu, hv, hA, hoA, hV, hT => by
    have es : subI .i64 (m : Int) (U.length : Int) = ((m - U.length : Nat) : Int) := by rw [subI_i64 (by omega) (by omega)]; omega
    have hA' : A.length = o + (m - U.length) := by omega
    have e := fun k q => S.rotL_eq k q (m : Int) (U.length : Int) (V.length : Int) (A ++ (U ++ (V ++ B)))
    simp only [W, W1, es] at e
    by_cases c : U.length = V.length
    · simp only [c, if_pos trivial, eq_self_iff_true, if_true] at e
      have := swap_ev S o w hix T hnn hw (m - U.length) m A U [] V B c hA' (by simp; omega) (by omega) (by simpa using hT)
      simp only [List.nil_append] at this
      rw [c] at this
      rw [c]
      exact Ev2.step e (Ev2.bind this (Ev2.now _))
    · have c' : ¬ ((U.length : Int) = (V.length : Int)) := by omega
      simp only [if_neg c'] at e
      by_cases c2 : V.length < U.length
      · have c2' : (V.length : Int) < (U.length : Int) := by omega
        have esub : subI .i64 (U.length : Int) (V.length : Int) = ((U.length - V.length : Nat) : Int) := by rw [subI_i64 (by omega) (by omega)]; omega
        simp only [if_pos c2', esub] at e
        obtain ⟨U1, U2, rfl, hU1⟩ : ∃ U1 U2, U = U1 ++ U2 ∧ U1.length = V.length := ⟨U.take V.length, U.drop V.length, (List.take_append_drop _ _).symm, by rw [List.length_take]; omega⟩
        simp only [List.length_append] at e hA ht hu c2 es hA'
        have hsw := swap_ev S o w hix T hnn hw (m - (U1.length + U2.length)) m A U1 U2 V B hU1 (by omega) (by omega) (by omega) (by simpa using hT)
        rw [hU1] at hsw
        have ih := rotL_ev m hm t (A ++ V) U2 U1 B (by omega) (by omega) (by omega) (by rw [List.length_append]; omega) (by rw [List.length_append]; omega) (by omega) (by rw [← hT]; simp only [List.length_append]; omega)
        have e1 : A ++ (U1 ++ U2 ++ (V ++ B)) = A ++ (U1 ++ (U2 ++ (V ++ B))) := by simp
        rw [e1] at e ⊢
        simp only [List.length_append]
        refine Ev2.step e ?_
        rw [hU1] at ih ⊢
        refine Ev2.bind hsw ?_
        rw [show V.length + U2.length - V.length = U2.length by omega]
        have e2 : A ++ V ++ (U2 ++ (U1 ++ B)) = A ++ (V ++ (U2 ++ (U1 ++ B))) := by simp
        have e3 : A ++ V ++ (U1 ++ (U2 ++ B)) = A ++ (V ++ (U1 ++ U2 ++ B)) := by simp
        rw [e2, e3] at ih
        exact ih
      · have c2' : ¬ ((V.length : Int) < (U.length : Int)) := by omega
        have esub : subI .i64 (V.length : Int) (U.length : Int) = ((V.length - U.length : Nat) : Int) := by rw [subI_i64 (by omega) (by omega)]; omega
        have eadd : subI .i64 (addI .i64 (m : Int) (V.length : Int)) (U.length : Int) = ((m + V.length - U.length : Nat) : Int) := by rw [addI_i64 (by omega) (by omega), subI_i64 (by omega) (by omega)]; omega
        simp only [if_neg c2', esub, eadd] at e
        obtain ⟨V1, V2, rfl, hV2⟩ : ∃ V1 V2, V = V1 ++ V2 ∧ V2.length = U.length := ⟨V.take (V.length - U.length), V.drop (V.length - U.length), (List.take_append_drop _ _).symm, by rw [List.length_drop]; omega⟩
        simp only [List.length_append] at e ht hv c c2 hV eadd
        have hsw := swap_ev S o w hix T hnn hw (m - U.length) (m + (V1.length + V2.length) - U.length) A U V1 V2 B hV2.symm (by omega) (by omega) (by omega) (by simpa using hT)
        have ih := rotL_ev m hm t A V2 V1 (U ++ B) (by omega) (by omega) (by omega) (by omega) hoA (by omega) (by rw [← hT]; simp only [List.length_append]; omega)
        have e1 : A ++ (U ++ (V1 ++ V2 ++ B)) = A ++ (U ++ (V1 ++ (V2 ++ B))) := by simp
        rw [e1] at e ⊢
        simp only [List.length_append]
        refine Ev2.step e ?_
        refine Ev2.bind hsw ?_
        rw [show V1.length + V2.length - U.length = V1.length by omega]
        rw [hV2] at ih
        have e3 : A ++ (V1 ++ (V2 ++ (U ++ B))) = A ++ (V1 ++ V2 ++ (U ++ B)) := by simp
        rw [e3] at ih
        exact ih
theorem rot_ev (a m b : Nat) (A U V B : List α) (hu : 0 < U.length) (hv : 0 < V.length) (hA : A.length = o + a) (hm : a + U.length = m) (hb : m + V.length = b) (hbw : b ≤ w) (hT : (A ++ (U ++ (V ++ B))).length = T) :
    Ev (fun k => S.rotF k (a : Int) (m : Int) (b : Int) (A ++ (U ++ (V ++ B)))) ((), A ++ (V ++ (U ++ B))) := by
  have := rotL_ev S o w hix T hnn hw m (by omega) _ A U V B (Nat.le_refl _) hu hv (by omega) (by omega) (by omega) hT
  have e := fun k => S.rotF_eq k (a : Int) (m : Int) (b : Int) (A ++ (U ++ (V ++ B)))
  rw [show subI .i64 (m : Int) (a : Int) = (U.length : Int) by rw [subI_i64 (by omega) (by omega)]; omega, show subI .i64 (b : Int) (m : Int) = (V.length : Int) by rw [subI_i64 (by omega) (by omega)]; omega] at e
  exact Ev.step e (Ev2.ev (g := fun k q => S.rotL k q _ _ _ _) this)
/-! ### one element pushed on, and back -/
theorem up_ev : ∀ (Y A B : List α) (x : α) (t i : Nat), A.length = o + t → i = t + Y.length + 1 → i ≤ w → (A ++ x :: (Y ++ B)).length = T → Ev2 (fun k q => S.symL9 k q (i : Int) (t : Int) (A ++ x :: (Y ++ B))) ((), A ++ (Y ++ x :: B))
  | [], A, B, x, t, i, hA, hi, hw', hT => by
    refine Ev2.ret fun k q => ?_
    rw [S.symL9_eq]
    have : subI .i64 (i : Int) 1 = (t : Int) := by rw [subI_i64 (by omega) (by omega)]; simp at hi; omega
    simp only [W, W1, this, if_neg (Int.lt_irrefl _), List.nil_append]
  | y :: Y, A, B, x, t, i, hA, hi, hw', hT => by
    simp only [List.length_cons] at hi
    have es : subI .i64 (i : Int) 1 = ((i - 1 : Nat) : Int) := by rw [subI_i64 (by omega) (by omega)]; omega
    have ea : addI .i64 (t : Int) 1 = ((t + 1 : Nat) : Int) := by rw [addI_i64 (by omega) (by omega)]; omega
    have x0 : ix (t : Int) = (A.length : Int) := by rw [hix]; omega
    have x1 : ix ((t + 1 : Nat) : Int) = ((A.length + 1 + ([] : List α).length : Nat) : Int) := by rw [hix, List.length_nil]; omega
    have r0 := rd_lo A [] (Y ++ B) x y z
    have r1 := rd_hi A [] (Y ++ B) x y z
    have sw := sw_lo A [] (Y ++ B) x y
    have hd : A ++ x :: (y :: Y ++ B) = A ++ x :: ([] ++ y :: (Y ++ B)) := by simp
    rw [hd] at hT ⊢
    have e := fun k q => S.symL9_eq k q (i : Int) (t : Int) (A ++ x :: ([] ++ y :: (Y ++ B)))
    simp only [W, W1, W2, es, ea, x0, x1, r0, r1, Int.toNat_natCast, sw, hnn _ hT, hnn ((A ++ x :: ([] ++ y :: (Y ++ B))).set A.length y) (by rw [List.length_set]; exact hT), if_pos (nat_ge (t + 1)), if_pos (nat_ge t), if_pos (show (t : Int) < ((i - 1 : Nat) : Int) by omega),
      if_pos (show ((t + 1 : Nat) : Int) < (w : Int) by omega), if_pos (show (t : Int) < (w : Int) by omega)] at e
    have ih := up_ev Y (A ++ [y]) B x (t + 1) i (by simp; omega) (by omega) hw' (by rw [← hT]; simp only [List.length_append, List.length_cons, List.length_nil]; omega)
    refine Ev2.step e ?_
    have e2 : A ++ [y] ++ x :: (Y ++ B) = A ++ y :: ([] ++ x :: (Y ++ B)) := by simp
    have e3 : A ++ [y] ++ (Y ++ x :: B) = A ++ (y :: Y ++ x :: B) := by simp
    rw [e2, e3] at ih
    exact ih
theorem down_ev (i : Nat) : ∀ (n : Nat) (Y A B : List α) (x : α) (t : Nat), Y.length = n → A.length = o + i → t = i + Y.length → t < w → (A ++ (Y ++ x :: B)).length = T → Ev2 (fun k q => S.symL21 k q (i : Int) (t : Int) (A ++ (Y ++ x :: B))) ((), A ++ x :: (Y ++ B))
  | 0, Y, A, B, x, t, hn, hA, ht, hw', hT => by
    obtain rfl := List.length_eq_zero_iff.1 hn
    refine Ev2.ret fun k q => ?_
    rw [S.symL21_eq]
    simp only [List.length_nil, Nat.add_zero] at ht
    subst ht
    simp only [W, W1, if_neg (Int.lt_irrefl _), List.nil_append]
  | n + 1, Y, A, B, x, t, hn, hA, ht, hw', hT => by
    obtain ⟨Y, y, rfl⟩ : ∃ Y' y, Y = Y' ++ [y] := ⟨Y.dropLast, Y.getLast (fun h => by rw [h] at hn; cases hn), (List.dropLast_concat_getLast _).symm⟩
    simp only [List.length_append, List.length_cons, List.length_nil] at hn ht
    have es : subI .i64 (t : Int) 1 = ((t - 1 : Nat) : Int) := by rw [subI_i64 (by omega) (by omega)]; omega
    have hl : (A ++ Y).length = o + (t - 1) := by rw [List.length_append]; omega
    have x0 : ix ((t - 1 : Nat) : Int) = ((A ++ Y).length : Int) := by rw [hix]; omega
    have x1 : ix (t : Int) = (((A ++ Y).length + 1 + ([] : List α).length : Nat) : Int) := by rw [hix, List.length_nil]; omega
    have r0 := rd_lo (A ++ Y) [] B y x z
    have r1 := rd_hi (A ++ Y) [] B y x z
    have sw := sw_hi (A ++ Y) [] B y x
    have hd : A ++ (Y ++ [y] ++ x :: B) = (A ++ Y) ++ y :: ([] ++ x :: B) := by simp
    rw [hd] at hT ⊢
    have e := fun k q => S.symL21_eq k q (i : Int) (t : Int) ((A ++ Y) ++ y :: ([] ++ x :: B))
    simp only [W, W1, W2, es, x0, x1, r0, r1, Int.toNat_natCast, sw, hnn _ hT, hnn (((A ++ Y) ++ y :: ([] ++ x :: B)).set ((A ++ Y).length + 1 + ([] : List α).length) y) (by rw [List.length_set]; exact hT), if_pos (nat_ge (t - 1)), if_pos (nat_ge t), if_pos (show (i : Int) < (t : Int) by omega),
      if_pos (show ((t - 1 : Nat) : Int) < (w : Int) by omega), if_pos (show (t : Int) < (w : Int) by omega)] at e
    have ih := down_ev i n Y A ([y] ++ B) x (t - 1) (by omega) hA (by omega) (by omega) (by rw [← hT]; simp only [List.length_append, List.length_cons, List.length_nil]; omega)
    refine Ev2.step e ?_
    have e2 : A ++ (Y ++ x :: ([y] ++ B)) = (A ++ Y) ++ x :: ([] ++ y :: B) := by simp
    have e3 : A ++ x :: (Y ++ ([y] ++ B)) = A ++ x :: (Y ++ [y] ++ B) := by simp
    rw [e2, e3] at ih
    exact ih
end
end Go.Proofs.YtfbhkkedmfbgbaaDoor.PM.St
