/- HyphensOf, plainly: the program's answer and the reference's are one. -/
import Derived.Test.YtopbiepiceajnaaPStyle
import Derived.Test.YtopbiepiceajnaaXMarkT
import Derived.Test.YtopbiepiceajnaaXInts
namespace Go.Proofs.Ytopbiepiceajnaa.S
open Go.Eng Go.RowKit
set_option linter.unusedVariables false
set_option linter.unusedSimpArgs false
/-- the greater of what stands and the digits, from a place on -/
def mxs : List Int → Nat → List Int → List Int
  | best, _, [] => best
  | best, i, d :: ds => mxs (best.set i (if rd best (i : Int) 0 < d then d else rd best (i : Int) 0)) (i + 1) ds
theorem mxs_len : ∀ (ds best : List Int) (i : Nat), (mxs best i ds).length = best.length
  | [], _, _ => rfl
  | d :: ds, best, i => by simp only [mxs]; rw [mxs_len ds]; simp
theorem set_self (l : List Int) (i : Nat) (h : i < l.length) : l.set i (rd l (i : Int) 0) = l := by
  rw [rd_nat l i 0 h]
  exact List.set_getElem_self h
theorem specIn (pats : List ByteArray) (word t : ByteArray) (i : Int) (letters : ByteArray) (a : Nat) (digits : List Int) (ha : a ≤ 1048576) (hd : digits.length ≤ 1048576) : ∀ (suf pre best : List Int), digits = pre ++ suf → a + digits.length ≤ best.length →
    ∀ fu fu1 fu2 fu3, suf.length < fu3 → spec_l22Hyphens_L12 fu fu1 fu2 fu3 pats word t i letters (a : Int) (pre.length : Int) best digits = spec_l22Hyphens_L8 fu fu1 fu2 pats word t i letters ((a + 1 : Nat) : Int) (mxs best (a + pre.length) suf) digits := by
  intro suf
  induction suf with
  | nil =>
    intro pre best hp hb fu fu1 fu2 fu3 hf
    obtain ⟨f, rfl⟩ : ∃ f, fu3 = f + 1 := ⟨fu3 - 1, by omega⟩
    have e1 : addI .i64 (a : Int) 1 = ((a + 1 : Nat) : Int) := by rw [addI_i64 (by omega) (by omega)]; omega
    subst hp
    simp only [spec_l22Hyphens_L12.eq, W, W1, W2, e1, List.append_nil]
    rw [if_neg (by omega)]
    rfl
  | cons d suf ih =>
    intro pre best hp hb fu fu1 fu2 fu3 hf
    obtain ⟨f, rfl⟩ : ∃ f, fu3 = f + 1 := ⟨fu3 - 1, by omega⟩
    have hl : pre.length + 1 + suf.length = digits.length := by rw [hp]; simp; omega
    have hr : rd digits (pre.length : Int) (0 : Int) = d := by rw [hp]; exact rd_mid pre suf d 0
    have e1 : addI .i64 (a : Int) (pre.length : Int) = ((a + pre.length : Nat) : Int) := by rw [addI_i64 (by omega) (by omega)]; omega
    have e2 : addI .i64 (pre.length : Int) 1 = ((pre ++ [d]).length : Int) := by rw [addI_i64 (by omega) (by omega)]; exact len_snoc pre d
    have h := ih (pre ++ [d]) (best.set (a + pre.length) (if rd best ((a + pre.length : Nat) : Int) 0 < d then d else rd best ((a + pre.length : Nat) : Int) 0)) (by rw [hp]; simp) (by simp; omega) fu fu1 fu2 f (by simp at hf; omega)
    have e4 : a + (pre ++ [d]).length = a + pre.length + 1 := by simp; omega
    rw [e4] at h
    simp only [mxs]
    rw [← h]
    simp only [spec_l22Hyphens_L12.eq, W, W1, W2, e1, e2, hr]
    rw [if_pos (by omega), if_pos (by omega), if_pos (by omega), if_pos (by omega), if_pos (by omega)]
    by_cases c : rd best ((a + pre.length : Nat) : Int) 0 < d
    · rw [if_pos c, if_pos c, if_pos (by omega), if_pos (by omega), if_pos (by omega), if_pos (by omega)]
      rfl
    · rw [if_neg c, if_neg c, set_self best _ (by omega)]
theorem implIn (word s : ByteArray) (x : List ByteArray) (x1 x2 : Int) (p : ByteArray) (a : Nat) (digits : List Int) (ha : a ≤ 1048576) (hd : digits.length ≤ 1048576) : ∀ (suf pre best : List Int), digits = pre ++ suf → a + digits.length ≤ best.length →
    ∀ fu fu1 fu2 fu3, suf.length < fu3 → impl_hyphens_L12 fu fu1 fu2 fu3 word s (a : Int) x x1 x2 (digits.length : Int) (pre.length : Int) best p digits = impl_hyphens_L8 fu fu1 fu2 word s ((a + 1 : Nat) : Int) x x1 x2 (mxs best (a + pre.length) suf) p digits := by
  intro suf
  induction suf with
  | nil =>
    intro pre best hp hb fu fu1 fu2 fu3 hf
    obtain ⟨f, rfl⟩ : ∃ f, fu3 = f + 1 := ⟨fu3 - 1, by omega⟩
    have e1 : addI .i64 (a : Int) 1 = ((a + 1 : Nat) : Int) := by rw [addI_i64 (by omega) (by omega)]; omega
    subst hp
    simp only [impl_hyphens_L12.eq, W, W1, W2, e1, List.append_nil]
    rw [if_neg (by omega)]
    rfl
  | cons d suf ih =>
    intro pre best hp hb fu fu1 fu2 fu3 hf
    obtain ⟨f, rfl⟩ : ∃ f, fu3 = f + 1 := ⟨fu3 - 1, by omega⟩
    have hl : pre.length + 1 + suf.length = digits.length := by rw [hp]; simp; omega
    have hr : rd digits (pre.length : Int) (0 : Int) = d := by rw [hp]; exact rd_mid pre suf d 0
    have e1 : addI .i64 (a : Int) (pre.length : Int) = ((a + pre.length : Nat) : Int) := by rw [addI_i64 (by omega) (by omega)]; omega
    have e2 : addI .i64 (pre.length : Int) 1 = ((pre ++ [d]).length : Int) := by rw [addI_i64 (by omega) (by omega)]; exact len_snoc pre d
    have h := ih (pre ++ [d]) (best.set (a + pre.length) (if rd best ((a + pre.length : Nat) : Int) 0 < d then d else rd best ((a + pre.length : Nat) : Int) 0)) (by rw [hp]; simp) (by simp; omega) fu fu1 fu2 f (by simp at hf; omega)
    have e4 : a + (pre ++ [d]).length = a + pre.length + 1 := by simp; omega
    rw [e4] at h
    simp only [mxs]
    rw [← h]
    simp only [impl_hyphens_L12.eq, W, W1, W2, e1, e2, hr, maxI_eq]
    rw [if_pos (by omega), if_pos (by omega), if_pos (by omega), if_pos (by omega), if_pos (by omega), if_pos (by omega), if_pos (by omega)]
    rfl
/-- the digits of a pattern, laid over all places where its letters stand -/
def slide (t letters : ByteArray) (digits : List Int) : Nat → Nat → List Int → List Int
  | 0, _, best => best
  | m + 1, a, best => slide t letters digits m (a + 1) (if t.extract a (a + letters.size) = letters then mxs best a digits else best)
theorem slide_len (t letters : ByteArray) (digits : List Int) : ∀ (m a : Nat) (best : List Int), (slide t letters digits m a best).length = best.length
  | 0, _, _ => rfl
  | m + 1, a, best => by
    simp only [slide]
    rw [slide_len t letters digits m]
    split
    · exact mxs_len _ _ _
    · rfl
theorem specMid (pats : List ByteArray) (word t : ByteArray) (i : Int) (letters : ByteArray) (digits : List Int) (ht : t.size ≤ 1048576) (hd : digits.length = letters.size + 1) (hls : letters.size ≤ 1048575) : ∀ (m a : Nat) (best : List Int), t.size + 1 - (letters.size + a) = m → a ≤ 1048577 → best.length = t.size + 1 →
    ∀ fu fu1 fu2, digits.length < fu → m < fu2 → spec_l22Hyphens_L8 fu fu1 fu2 pats word t i letters (a : Int) best digits = spec_l22Hyphens_L4 fu fu1 pats word t (addI .i64 i 1) (slide t letters digits m a best) := by
  intro m
  induction m with
  | zero =>
    intro a best hm ha hb fu fu1 fu2 hf hf2
    obtain ⟨f, rfl⟩ : ∃ f, fu2 = f + 1 := ⟨fu2 - 1, by omega⟩
    have e1 : addI .i64 (a : Int) (letters.size : Int) = ((a + letters.size : Nat) : Int) := by rw [addI_i64 (by omega) (by omega)]; omega
    simp only [spec_l22Hyphens_L8.eq, W, W1, W2, e1]
    rw [if_neg (by omega)]
    rfl
  | succ m ih =>
    intro a best hm ha hb fu fu1 fu2 hf hf2
    obtain ⟨f, rfl⟩ : ∃ f, fu2 = f + 1 := ⟨fu2 - 1, by omega⟩
    have e1 : addI .i64 (a : Int) (letters.size : Int) = ((a + letters.size : Nat) : Int) := by rw [addI_i64 (by omega) (by omega)]; omega
    have e2 : addI .i64 (a : Int) 1 = ((a + 1 : Nat) : Int) := by rw [addI_i64 (by omega) (by omega)]; omega
    simp only [spec_l22Hyphens_L8.eq, W, W1, W2, e1, e2, Int.toNat_natCast]
    rw [if_pos (by omega), if_pos (by omega), if_pos (by omega), if_pos (by omega)]
    simp only [slide]
    by_cases c : t.extract a (a + letters.size) = letters
    · rw [if_pos c, if_pos c, ← ih (a + 1) (mxs best a digits) (by omega) (by omega) (by rw [mxs_len]; exact hb) fu fu1 f hf (by omega)]
      have := specIn pats word t i letters a digits (by omega) (by omega) digits [] best rfl (by omega) fu fu1 f fu (by omega)
      simpa using this
    · rw [if_neg c, if_neg c]
      exact ih (a + 1) best (by omega) (by omega) hb fu fu1 f hf (by omega)
theorem implMid (word s : ByteArray) (x : List ByteArray) (x1 x2 : Int) (letters : ByteArray) (digits : List Int) (ht : s.size ≤ 1048576) (hd : digits.length = letters.size + 1) (hls : letters.size ≤ 1048575) : ∀ (m a : Nat) (best : List Int), s.size + 1 - (letters.size + a) = m → a ≤ 1048577 → best.length = s.size + 1 →
    ∀ fu fu1 fu2, digits.length < fu → m < fu2 → impl_hyphens_L8 fu fu1 fu2 word s (a : Int) x x1 x2 best letters digits = impl_hyphens_L4 fu fu1 word s x x1 (addI .i64 x2 1) (slide s letters digits m a best) := by
  intro m
  induction m with
  | zero =>
    intro a best hm ha hb fu fu1 fu2 hf hf2
    obtain ⟨f, rfl⟩ : ∃ f, fu2 = f + 1 := ⟨fu2 - 1, by omega⟩
    have e1 : addI .i64 (a : Int) (letters.size : Int) = ((a + letters.size : Nat) : Int) := by rw [addI_i64 (by omega) (by omega)]; omega
    simp only [impl_hyphens_L8.eq, W, W1, W2, e1]
    rw [if_neg (by omega)]
    rfl
  | succ m ih =>
    intro a best hm ha hb fu fu1 fu2 hf hf2
    obtain ⟨f, rfl⟩ : ∃ f, fu2 = f + 1 := ⟨fu2 - 1, by omega⟩
    have e1 : addI .i64 (a : Int) (letters.size : Int) = ((a + letters.size : Nat) : Int) := by rw [addI_i64 (by omega) (by omega)]; omega
    have e2 : addI .i64 (a : Int) 1 = ((a + 1 : Nat) : Int) := by rw [addI_i64 (by omega) (by omega)]; omega
    simp only [impl_hyphens_L8.eq, W, W1, W2, e1, e2, Int.toNat_natCast]
    rw [if_pos (by omega), if_pos (by omega), if_pos (by omega), if_pos (by omega)]
    simp only [slide]
    by_cases c : s.extract a (a + letters.size) = letters
    · rw [if_pos c, if_pos c, ← ih (a + 1) (mxs best a digits) (by omega) (by omega) (by rw [mxs_len]; exact hb) fu fu1 f hf (by omega)]
      have := implIn word s x x1 x2 letters a digits (by omega) (by omega) digits [] best rfl (by omega) fu fu1 f fu (by omega)
      simpa using this
    · rw [if_neg c, if_neg c]
      exact ih (a + 1) best (by omega) (by omega) hb fu fu1 f hf (by omega)
/-! ### what a valid pattern is like -/
theorem pscan_len : ∀ (l ls ds : List Int) (h : Bool) (r : List Int × List Int × Bool), pscan l ls ds h = some r → ds.length = ls.length + 1 → r.2.1.length = r.1.length + 1
  | [], ls, ds, h, r, he, hd => by
    simp only [pscan, Option.some.injEq] at he
    subst he
    exact hd
  | n :: l, ls, ds, h, r, he, hd => by
    simp only [pscan] at he
    split at he
    · exact pscan_len l ls (pset ds n) true r he (by simp [pset, hd])
    · split at he
      · exact pscan_len l (ls ++ [n]) (ds ++ [0]) h r he (by simp [hd])
      · cases he
theorem pat_len (x : ByteArray) (h : (pat x).2.2 = true) : (pat x).2.1.length = (pat x).1.size + 1 ∧ (pat x).1.size ≤ 20 := by
  unfold pat at h ⊢
  cases hp : pscan (nums x) [] [0] false with
  | none => rw [hp] at h; cases h
  | some r =>
    obtain ⟨ls, ds, b⟩ := r
    have hl := pscan_len _ _ _ _ _ hp rfl
    rw [hp] at h
    simp only [specV] at h ⊢
    split at h
    · cases h
    · rename_i c
      rw [if_neg c]
      simp only [sane, Bool.and_eq_true, decide_eq_true_eq] at h
      simp only at hl ⊢
      rw [bytesOf_size]
      exact ⟨hl, h.2⟩
theorem pfault_ok (l : List ByteArray) : ∀ (m i : Nat), pfault l m i = 0 → ∀ j, i ≤ j → j < i + m → (pat (rd l (j : Int) (bs []))).2.2 = true
  | 0, i, _, j, h1, h2 => by omega
  | m + 1, i, h, j, h1, h2 => by
    simp only [pfault] at h
    split at h
    · rename_i c
      have hrest : pfault l m (i + 1) = 0 := by
        split at h
        · split at h
          · exact h
          · omega
        · exact h
      rcases Nat.lt_or_ge i j with hj | hj
      · exact pfault_ok l m (i + 1) hrest j (by omega) (by omega)
      · obtain rfl : j = i := by omega
        exact c
    · omega
/-! ### the places that are told -/
def picks (best : List Int) : Nat → Nat → List Int → List Int
  | 0, _, out => out
  | m + 1, k, out => picks best m (k + 1) (if (rd best ((k + 1 : Nat) : Int) 0).tmod 2 = 1 then out ++ [(k : Int)] else out)
theorem picks_len (best : List Int) : ∀ (m k : Nat) (out : List Int), (picks best m k out).length ≤ out.length + m
  | 0, _, _ => Nat.le_refl _
  | m + 1, k, out => by
    simp only [picks]
    refine Nat.le_trans (picks_len best m (k + 1) _) ?_
    split
    · simp; omega
    · omega
theorem specPick (word : ByteArray) (best : List Int) (hw : word.size ≤ 1048576) (hb : best.length = word.size + 3) : ∀ (m k : Nat) (out : List Int), word.size - 2 - k = m → k ≤ 1048577 → out.length ≤ k → Ev2 (fun f j => spec_l22Hyphens_L18 f j word (k : Int) best out) (picks best m k out) := by
  intro m
  induction m with
  | zero =>
    intro k out hm hk ho
    have e1 : addI .i64 (k : Int) 3 = (k : Int) + 3 := addI_i64 (by omega) (by omega)
    refine Ev2.ret fun f j => ?_
    simp only [spec_l22Hyphens_L18.eq, W, W1, W2, e1]
    rw [if_neg (by omega)]
    rfl
  | succ m ih =>
    intro k out hm hk ho
    have e1 : addI .i64 (k : Int) 3 = (k : Int) + 3 := addI_i64 (by omega) (by omega)
    have e2 : addI .i64 (k : Int) 1 = ((k + 1 : Nat) : Int) := by rw [addI_i64 (by omega) (by omega)]; omega
    simp only [picks]
    by_cases c : (rd best ((k + 1 : Nat) : Int) 0).tmod 2 = 1
    · rw [if_pos c]
      refine Ev2.step (fun f j => ?_) (ih (k + 1) (out ++ [(k : Int)]) (by omega) (by omega) (by simp; omega))
      simp only [spec_l22Hyphens_L18.eq, W, W1, W2, e1, e2, remI_eq, List.length_cons, List.length_nil]
      rw [if_pos (by omega), if_pos (by omega), if_pos (by omega), if_neg (by omega), if_pos c, if_pos (by omega)]
    · rw [if_neg c]
      refine Ev2.step (fun f j => ?_) (ih (k + 1) out (by omega) (by omega) (by omega))
      simp only [spec_l22Hyphens_L18.eq, W, W1, W2, e1, e2, remI_eq]
      rw [if_pos (by omega), if_pos (by omega), if_pos (by omega), if_neg (by omega), if_neg c]
theorem implPick1 (word : ByteArray) (best : List Int) (hw : word.size ≤ 1048576) (hb : best.length = word.size + 3) : ∀ (m k : Nat) (out : List Int), word.size - 2 - k = m → k ≤ 1048577 → out.length ≤ k → Ev2 (fun f j => impl_hyphens_L19'1 f j word (k : Int) best out) (picks best m k out) := by
  intro m
  induction m with
  | zero =>
    intro k out hm hk ho
    have e1 : addI .i64 (k : Int) 3 = (k : Int) + 3 := addI_i64 (by omega) (by omega)
    refine Ev2.ret fun f j => ?_
    simp only [impl_hyphens_L19'1.eq, W, W1, W2, e1]
    rw [if_neg (by omega)]
    rfl
  | succ m ih =>
    intro k out hm hk ho
    have e1 : addI .i64 (k : Int) 3 = (k : Int) + 3 := addI_i64 (by omega) (by omega)
    have e2 : addI .i64 (k : Int) 1 = ((k + 1 : Nat) : Int) := by rw [addI_i64 (by omega) (by omega)]; omega
    simp only [picks]
    by_cases c : (rd best ((k + 1 : Nat) : Int) 0).tmod 2 = 1
    · rw [if_pos c]
      refine Ev2.step (fun f j => ?_) (ih (k + 1) (out ++ [(k : Int)]) (by omega) (by omega) (by simp; omega))
      simp only [impl_hyphens_L19'1.eq, W, W1, W2, e1, e2, remI_eq, List.length_cons, List.length_nil]
      rw [if_pos (by omega), if_pos (by omega), if_pos (by omega), if_neg (by omega), if_pos c, if_pos (by omega)]
    · rw [if_neg c]
      refine Ev2.step (fun f j => ?_) (ih (k + 1) out (by omega) (by omega) (by omega))
      simp only [impl_hyphens_L19'1.eq, W, W1, W2, e1, e2, remI_eq]
      rw [if_pos (by omega), if_pos (by omega), if_pos (by omega), if_neg (by omega), if_neg c]
theorem implPick (word : ByteArray) (best : List Int) (hw : word.size ≤ 1048576) (hb : best.length = word.size + 3) : ∀ (m k : Nat), word.size - 2 - k = m → k ≤ 1048577 → Ev2 (fun f j => impl_hyphens_L19 f j word (k : Int) best) (picks best m k []) := by
  intro m
  induction m with
  | zero =>
    intro k hm hk
    have e1 : addI .i64 (k : Int) 3 = (k : Int) + 3 := addI_i64 (by omega) (by omega)
    refine Ev2.ret fun f j => ?_
    simp only [impl_hyphens_L19.eq, W, W1, W2, e1]
    rw [if_neg (by omega)]
    rfl
  | succ m ih =>
    intro k hm hk
    have e1 : addI .i64 (k : Int) 3 = (k : Int) + 3 := addI_i64 (by omega) (by omega)
    have e2 : addI .i64 (k : Int) 1 = ((k + 1 : Nat) : Int) := by rw [addI_i64 (by omega) (by omega)]; omega
    simp only [picks]
    by_cases c : (rd best ((k + 1 : Nat) : Int) 0).tmod 2 = 1
    · rw [if_pos c]
      refine Ev2.step (fun f j => ?_) (implPick1 word best hw hb m (k + 1) ([] ++ [(k : Int)]) (by omega) (by omega) (by simp))
      simp only [impl_hyphens_L19.eq, W, W1, W2, e1, e2, remI_eq, List.length_cons, List.length_nil]
      rw [if_pos (by omega), if_pos (by omega), if_pos (by omega), if_neg (by omega), if_pos c, if_pos (by omega)]
    · rw [if_neg c]
      refine Ev2.step (fun f j => ?_) (ih (k + 1) (by omega) (by omega))
      simp only [impl_hyphens_L19.eq, W, W1, W2, e1, e2, remI_eq]
      rw [if_pos (by omega), if_pos (by omega), if_pos (by omega), if_neg (by omega), if_neg c]
/-! ### all patterns -/
def laid (t : ByteArray) : List ByteArray → List Int → List Int
  | [], best => best
  | x :: xs, best => laid t xs (slide t (pat x).1 (pat x).2.1 (t.size + 1 - (pat x).1.size) 0 best)
theorem laid_len (t : ByteArray) : ∀ (l : List ByteArray) (best : List Int), (laid t l best).length = best.length
  | [], _ => rfl
  | x :: xs, best => by simp only [laid]; rw [laid_len t xs, slide_len]
theorem specOut (l : List ByteArray) (word t : ByteArray) (hl : l.length ≤ 1048576) (hw : word.size ≤ 1048574) (ht : t.size = word.size + 2) (hs : ∀ x ∈ l, x.size ≤ 1048576) : ∀ (suf pre : List ByteArray) (best : List Int), l = pre ++ suf → best.length = t.size + 1 → (∀ x ∈ suf, (pat x).2.2 = true) →
    Ev2 (fun k j => spec_l22Hyphens_L4 k j l word t (pre.length : Int) best) (picks (laid t suf best) (word.size - 2 - 2) 2 []) := by
  intro suf
  induction suf with
  | nil =>
    intro pre best hp hb hv
    refine Ev2.step (f := fun k _ => spec_l22Hyphens_L18 k k word ((2 : Nat) : Int) best []) (fun k j => ?_) (specPick word best (by omega) (by omega) _ 2 [] rfl (by omega) (by simp)).ev.two
    subst hp
    simp only [spec_l22Hyphens_L4.eq, W, W1, W2]
    rw [if_neg (by simp)]
    rfl
  | cons x suf ih =>
    intro pre best hp hb hv
    have hle : pre.length + 1 ≤ l.length := by rw [hp, List.length_append, List.length_cons]; omega
    have hr : rd l (pre.length : Int) (bs []) = x := by rw [hp]; exact rd_mid pre suf x _
    have hw2 : addI .i64 (pre.length : Int) 1 = ((pre ++ [x]).length : Int) := by rw [addI_i64 (by omega) (by omega)]; exact len_snoc pre x
    have hx := hv x (by simp)
    obtain ⟨hd, hls⟩ := pat_len x hx
    refine Ev2.step (f := fun k j => (spec_l22Pattern k x).bind fun r0 => spec_l22Hyphens_L8 k j k l word t (pre.length : Int) r0.1 0 best r0.2.1) (fun k j => ?_) (Ev2.bind (specPat_ev x (hs x (by rw [hp]; simp))) (Ev2.of_eq ⟨t.size + 30, fun k j hk => ?_⟩ (ih (pre ++ [x]) (slide t (pat x).1 (pat x).2.1 (t.size + 1 - (pat x).1.size) 0 best) (by rw [hp]; simp) (by rw [slide_len]; exact hb) (fun y hy => hv y (by simp [hy])))))
    · simp only [spec_l22Hyphens_L4.eq, W, W1, W2, W3, hr]
      rw [if_pos (by omega), if_pos (by omega), if_pos (by omega)]
    · rw [← hw2]
      exact specMid l word t (pre.length : Int) (pat x).1 (pat x).2.1 (by omega) hd (by omega) (t.size + 1 - (pat x).1.size) 0 best (by omega) (by omega) hb k j k (by omega) (by omega)
theorem implOut (l : List ByteArray) (word t : ByteArray) (hl : l.length ≤ 1048576) (hw : word.size ≤ 1048574) (ht : t.size = word.size + 2) (hs : ∀ x ∈ l, x.size ≤ 1048576) : ∀ (suf pre : List ByteArray) (best : List Int), l = pre ++ suf → best.length = t.size + 1 → (∀ x ∈ suf, (pat x).2.2 = true) →
    Ev2 (fun k j => impl_hyphens_L4 k j word t l (l.length : Int) (pre.length : Int) best) (picks (laid t suf best) (word.size - 2 - 2) 2 []) := by
  intro suf
  induction suf with
  | nil =>
    intro pre best hp hb hv
    refine Ev2.step (f := fun k _ => impl_hyphens_L19 k k word ((2 : Nat) : Int) best) (fun k j => ?_) (implPick word best (by omega) (by omega) _ 2 rfl (by omega)).ev.two
    subst hp
    simp only [impl_hyphens_L4.eq, W, W1, W2]
    rw [if_neg (by simp)]
    rfl
  | cons x suf ih =>
    intro pre best hp hb hv
    have hle : pre.length + 1 ≤ l.length := by rw [hp, List.length_append, List.length_cons]; omega
    have hr : rd l (pre.length : Int) (bs []) = x := by rw [hp]; exact rd_mid pre suf x _
    have hw2 : addI .i64 (pre.length : Int) 1 = ((pre ++ [x]).length : Int) := by rw [addI_i64 (by omega) (by omega)]; exact len_snoc pre x
    have hx := hv x (by simp)
    obtain ⟨hd, hls⟩ := pat_len x hx
    obtain ⟨v, h1, h2, h3⟩ := implPat_ev x (hs x (by rw [hp]; simp))
    have hv1 : v.1.1 = (pat x).1 := by rw [← h3 (by rw [h2]; exact hx)]
    have hv2 : v.1.2 = (pat x).2.1 := by rw [← h3 (by rw [h2]; exact hx)]
    refine Ev2.step (f := fun k j => (impl_readHyphens k x).bind fun r0 => impl_hyphens_L8 k j k word t 0 l (l.length : Int) (pre.length : Int) best r0.1.1 r0.1.2) (fun k j => ?_) (Ev2.bind h1 (Ev2.of_eq ⟨t.size + 30, fun k j hk => ?_⟩ (ih (pre ++ [x]) (slide t (pat x).1 (pat x).2.1 (t.size + 1 - (pat x).1.size) 0 best) (by rw [hp]; simp) (by rw [slide_len]; exact hb) (fun y hy => hv y (by simp [hy])))))
    · simp only [impl_hyphens_L4.eq, W, W1, W2, W3, hr]
      rw [if_pos (by omega), if_pos (by omega), if_pos (by omega)]
    · rw [← hw2, hv1, hv2]
      exact implMid word t l (l.length : Int) (pre.length : Int) (pat x).1 (pat x).2.1 (by omega) hd (by omega) (t.size + 1 - (pat x).1.size) 0 best (by omega) (by omega) hb k j k (by omega) (by omega)
theorem hyphens_same (l : List ByteArray) (word : ByteArray) (hl : l.length ≤ 1048576) (hw : word.size ≤ 65536) (hs : ∀ x ∈ l, x.size ≤ 1048576) (hv : ∀ x ∈ l, (pat x).2.2 = true) :
    ∃ r : List Int, Ev (fun k => spec_l22Hyphens k l word) r ∧ Ev (fun k => impl_hyphens k l word) r ∧ r.length ≤ 65536 := by
  have hz : (bs [46] ++ word ++ bs [46]).size = word.size + 2 := by
    rw [ByteArray.size_append, ByteArray.size_append]
    show 1 + word.size + 1 = _
    omega
  have hz1 : (bs [46] ++ word).size = word.size + 1 := by
    rw [ByteArray.size_append]
    show 1 + word.size = _
    omega
  have hz0 : (bs [46]).size = 1 := rfl
  have e1 : addI .i64 ((word.size + 2 : Nat) : Int) 1 = ((word.size + 3 : Nat) : Int) := by rw [addI_i64 (by omega) (by omega)]; omega
  refine ⟨picks (laid (bs [46] ++ word ++ bs [46]) l (List.replicate (word.size + 3) 0)) (word.size - 2 - 2) 2 [], Ev.step (fun k => ?_) (specOut l word (bs [46] ++ word ++ bs [46]) hl (by omega) hz hs l [] (List.replicate (word.size + 3) 0) rfl (by rw [hz]; simp) hv).ev,
    Ev.step (fun k => ?_) (implOut l word (bs [46] ++ word ++ bs [46]) hl (by omega) hz hs l [] (List.replicate (word.size + 3) 0) rfl (by rw [hz]; simp) hv).ev, ?_⟩
  · simp only [spec_l22Hyphens.eq, W, W1, W2, hz, hz1, hz0, e1, Int.toNat_natCast]
    rw [if_pos (by omega), if_pos (by omega), if_pos (by omega), if_pos (by omega), if_pos (by omega)]
    rfl
  · simp only [impl_hyphens.eq, W, W1, W2, hz, hz1, hz0, e1, Int.toNat_natCast]
    rw [if_pos (by omega), if_pos (by omega), if_pos (by omega), if_pos (by omega), if_pos (by omega)]
    rfl
  · have := picks_len (laid (bs [46] ++ word ++ bs [46]) l (List.replicate (word.size + 3) 0)) (word.size - 2 - 2) 2 []
    simp at this
    omega
theorem small_ev (c : Int) : Ev (fun k => spec_l22Small k c) (decide (97 ≤ c) && decide (c ≤ 122)) := by
  refine Ev.ret fun k => ?_
  simp only [spec_l22Small.eq, W, W1]
  by_cases h : 97 ≤ c
  · rw [if_pos h]; simp [h]
  · rw [if_neg h]; simp [h]
theorem letters_loop (l : List ByteArray) (word : ByteArray) (hw : word.size ≤ 65536) (r : List Int) (hr : r.length ≤ 65536) (h1 : Ev (fun k => spec_l22Hyphens k l word) r) (h2 : Ev (fun k => impl_hyphens k l word) r) : ∀ (m i : Nat), i + m = word.size →
    ∃ v : List Int, Ev2 (fun k j => spec_HyphensOf_L4 k j l word (i : Int)) v ∧ Ev2 (fun k j => impl_HyphensOf_L4 k j l word (word.size : Int) (i : Int)) v ∧ v.length ≤ 65536 := by
  intro m
  induction m with
  | zero =>
    intro i hi
    refine ⟨r, Ev2.step (f := fun k _ => (spec_l22Hyphens k l word).bind some) (fun k j => ?_) (Ev.two (Ev.bind h1 (Ev.now _))), Ev2.step (f := fun k _ => (impl_hyphens k l word).bind some) (fun k j => ?_) (Ev.two (Ev.bind h2 (Ev.now _))), hr⟩
    · simp only [spec_HyphensOf_L4.eq, W, W1, W3]
      rw [if_neg (by omega)]
    · simp only [impl_HyphensOf_L4.eq, W, W1, W3]
      rw [if_neg (by omega)]
  | succ m ih =>
    intro i hi
    obtain ⟨v, g1, g2, g3⟩ := ih (i + 1) (by omega)
    have e2 : addI .i64 (i : Int) 1 = ((i + 1 : Nat) : Int) := by rw [addI_i64 (by omega) (by omega)]; omega
    have s1 : ∀ k j, spec_HyphensOf_L4 k (j + 1) l word (i : Int) = (spec_l22Small k (bt word (i : Int))).bind fun r0 => brB r0 (spec_HyphensOf_L4 k j l word ((i + 1 : Nat) : Int)) (some ([] : List Int)) := fun k j => by
      simp only [spec_HyphensOf_L4.eq, W, W1, W3, e2]
      rw [if_pos (by omega), if_pos (by omega), if_pos (by omega)]
    have s2 : ∀ k j, impl_HyphensOf_L4 k (j + 1) l word (word.size : Int) (i : Int) = (impl_letterAZ k (bt word (i : Int))).bind fun r0 => brB r0 (impl_HyphensOf_L4 k j l word (word.size : Int) ((i + 1 : Nat) : Int)) (some ([] : List Int)) := fun k j => by
      simp only [impl_HyphensOf_L4.eq, W, W1, W3, e2]
      rw [if_pos (by omega), if_pos (by omega), if_pos (by omega)]
    cases c : (decide (97 ≤ bt word (i : Int)) && decide (bt word (i : Int) ≤ 122)) with
    | true =>
      refine ⟨v, Ev2.step s1 (Ev2.bind (small_ev _) ?_), Ev2.step s2 (Ev2.bind (letterAZ_ev _) ?_), g3⟩
      · simp only [c, W1]; exact g1
      · simp only [c, W1]; exact g2
    | false =>
      refine ⟨[], Ev2.step s1 (Ev2.bind (small_ev _) ?_), Ev2.step s2 (Ev2.bind (letterAZ_ev _) ?_), by simp⟩
      · simp only [c, W1]; exact Ev2.now _
      · simp only [c, W1]; exact Ev2.now _
theorem hyphensOf_same (l : List ByteArray) (word : ByteArray) (hl : l.length ≤ 1048576) (hs : ∀ x ∈ l, x.size ≤ 1048576) :
    ∃ r : List Int, Ev (fun k => spec_HyphensOf k l word) r ∧ Ev (fun k => impl_HyphensOf k l word) r ∧ r.length ≤ 65536 := by
  obtain ⟨v, h1, h2, h3⟩ := patterns_same l hl hs
  have hlong : Ev (fun k => impl_long k word) (decide (65536 < (word.size : Int))) := Ev.ret fun k => by simp only [impl_long.eq, W]
  by_cases c : 65536 < (word.size : Int)
  · refine ⟨[], Ev.ret fun k => ?_, Ev.step (fun k => impl_HyphensOf.eq l word k) (Ev.opt hlong ?_), by simp⟩
    · simp only [spec_HyphensOf.eq, W, W1]
      rw [if_pos c]
    · simp only [W1, if_pos c]
      exact Ev.now _
  · have t1 : ∀ k, spec_HyphensOf (k + 1) l word = (spec_PatternsFault k l).bind fun r0 => if r0 = 0 then spec_HyphensOf_L4 k k l word ((0 : Nat) : Int) else some [] := fun k => by
      simp only [spec_HyphensOf.eq, W, W1, W3]
      rw [if_neg c]
      rfl
    have t2 : ∀ k, impl_HyphensOf (k + 1) l word = (impl_long k word).bind fun b => brB b (some []) ((impl_PatternsFault k l).bind fun r0 => if r0 = 0 then impl_HyphensOf_L4 k k l word (word.size : Int) ((0 : Nat) : Int) else some []) := fun k => by
      simp only [impl_HyphensOf.eq, W, W1, W3]
      rfl
    by_cases c0 : v = 0
    · subst c0
      obtain ⟨hv0, hl0⟩ := h3 rfl
      have hval : ∀ x ∈ l, (pat x).2.2 = true := by
        intro x hx
        obtain ⟨i, hi, rfl⟩ := List.mem_iff_getElem.1 hx
        have := pfault_ok l l.length 0 hv0.symm i (by omega) (by omega)
        rw [rd_nat l i _ hi] at this
        exact this
      obtain ⟨r, g1, g2, g3⟩ := hyphens_same l word hl (by omega) hs hval
      obtain ⟨u, k1, k2, k3⟩ := letters_loop l word (by omega) r g3 g1 g2 word.size 0 (by omega)
      refine ⟨u, Ev.step t1 (Ev.bind h1 ?_), Ev.step t2 (Ev.bind hlong ?_), k3⟩
      · simp only [if_true]; exact k1.ev
      · simp only [W1, if_neg c]
        refine Ev.bind h2 ?_
        simp only [if_true]; exact k2.ev
    · refine ⟨[], Ev.step t1 (Ev.bind h1 ?_), Ev.step t2 (Ev.bind hlong ?_), by simp⟩
      · simp only [if_neg c0]; exact Ev.now _
      · simp only [W1, if_neg c]
        refine Ev.bind h2 ?_
        simp only [if_neg c0]; exact Ev.now _
theorem pure_FnExactHyphensOf (l : List ByteArray) (word : ByteArray) (hl : CT.good (.row e_s) l) (hw : CT.good .str word) : ∃ k, laws_FnExactHyphensOf k l word = some true := by
  obtain ⟨r, hr, hfit⟩ := szStrs l 1048576 (by omega) (by omega) hl.1 hl.2
  refine Ev.has (r := true) ?_
  have e := fun k => laws_FnExactHyphensOf.eq l word k
  simp only [W, W1] at e
  by_cases c0 : 1048576 < (word.size : Int)
  · refine Ev.ret fun k => ?_
    rw [e, if_pos c0]
  simp only [if_neg c0] at e
  refine Ev.step e (Ev.opt hr ?_)
  by_cases c : r < 0
  · simp only [if_pos c]
    exact Ev.now _
  · simp only [if_neg c]
    obtain ⟨hl1, hs1, _⟩ := hfit (by omega)
    have hto := toStrs l hl1
    obtain ⟨v, h1, h2, h3⟩ := hyphensOf_same l word hl1 hs1
    have heqv := eqInts v (by omega)
    obtain ⟨r8, l8, h8, hm⟩ := markStrs l hl1
    have hmark := markInts v (by omega)
    have hheld := heldInts v.length (by omega)
    refine Ev.opt hto (Ev.opt h1 (Ev.opt hto (Ev.opt h2 (Ev.opt heqv ?_))))
    simp only [W1]
    refine Ev.opt hto (Ev.opt (eqStrs l hl1) ?_)
    simp only [W1]
    refine Ev.opt hm ?_
    have c8 : ¬ r8 < 0 := by omega
    simp only [if_neg c8]
    refine Ev.opt heqv ?_
    simp only [W1]
    have e18 := fun k => laws_FnExactHyphensOf_J18.eq l word v v k
    simp only [W, W1] at e18
    refine Ev.congr e18 ?_
    refine Ev.opt hmark (Ev.opt hheld ?_)
    have c9 : ¬ (1 + (v.length : Int)) < 0 := by omega
    simp only [if_neg c9, if_true]
    refine Ev.opt hto (Ev.opt h2 (Ev.opt heqv ?_))
    simp only [W1]
    refine Ev.opt hheld ?_
    simp only [if_neg c9, if_true]
    exact Ev.now _
end Go.Proofs.Ytopbiepiceajnaa.S
