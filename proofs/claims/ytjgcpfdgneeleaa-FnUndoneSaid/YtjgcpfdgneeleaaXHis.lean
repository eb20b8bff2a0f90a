/- Histories, plainly: their texts, told by the program and by the reference. -/
import Derived.Test.YtjgcpfdgneeleaaQUN0
import Derived.Test.YtjgcpfdgneeleaaEG
namespace Go.Proofs.Ytjgcpfdgneeleaa.UN
open Go.Eng Go.RowKit
set_option linter.unusedVariables false
set_option linter.unusedSimpArgs false

/-! ### what a history's texts are -/
def okStep (x : T_issi) : Bool := decide (x.2.1 ≠ x.2.2.1) && decide (0 ≤ x.2.2.2) && decide (x.2.2.2 ≤ 1000000)
def within (t : ByteArray) (x : T_issi) : Bool := decide (0 ≤ x.1) && decide (x.1 ≤ t.size) && decide ((x.2.1.size : Int) ≤ t.size - x.1)
def fitsAt (t : ByteArray) (x : T_issi) : Bool := within t x && decide (t.extract x.1.toNat (x.1.toNat + x.2.1.size) = x.2.1)
def done (t : ByteArray) (x : T_issi) : ByteArray := (t.extract 0 x.1.toNat ++ x.2.2.1) ++ t.extract (x.1.toNat + x.2.1.size) t.size
/-- All texts of the steps, from t on; none: a step can't be done. -/
def scan : ByteArray → List T_issi → Option (List ByteArray)
  | t, [] => some [t]
  | t, x :: xs => if fitsAt t x && okStep x && decide ((done t x).size ≤ 65536) then (scan (done t x) xs).map (t :: ·) else none
/-- The text behind them, with no look at the steps' own rules. -/
def run : ByteArray → List T_issi → Option ByteArray
  | t, [] => some t
  | t, x :: xs => if fitsAt t x && decide ((done t x).size ≤ 65536) then run (done t x) xs else none
def valid (b : ByteArray) (l : List T_issi) (d : Int) : Bool := decide (b.size ≤ 65536) && decide (l.length ≤ 300) && decide (0 ≤ d) && decide (d ≤ l.length) && (scan b l).isSome
def textsOf (b : ByteArray) (l : List T_issi) (d : Int) : List ByteArray × Bool := if valid b l d then ((scan b l).getD [], false) else ([], true)
def Small (x : T_issi) : Prop := x.2.1.size ≤ 1048576 ∧ x.2.2.1.size ≤ 1048576
theorem size_done (t : ByteArray) (x : T_issi) (h : within t x = true) : (done t x).size + x.2.1.size = t.size + x.2.2.1.size := by
  simp [within] at h
  simp [done, ByteArray.size_append, ByteArray.size_extract]
  omega
theorem scan_len (l : List T_issi) : ∀ (t : ByteArray) (r : List ByteArray), scan t l = some r → r.length = l.length + 1 := by
  induction l with
  | nil => intro t r h; simp [scan] at h; subst h; rfl
  | cons x l ih =>
    intro t r h
    simp only [scan] at h
    split at h
    · obtain ⟨r', h', rfl⟩ := Option.map_eq_some_iff.1 h
      simp [ih _ _ h']
    · cases h
theorem scan_run (l : List T_issi) : ∀ (t : ByteArray), (scan t l).isSome = ((l.all okStep) && (run t l).isSome) := by
  induction l with
  | nil => intro t; simp [scan, run]
  | cons x l ih =>
    intro t
    simp only [scan, run, List.all_cons]
    by_cases c1 : fitsAt t x = true <;> by_cases c2 : okStep x = true <;> by_cases c3 : (done t x).size ≤ 65536 <;> simp [c1, c2, c3, ih]
theorem scan_at (l : List T_issi) : ∀ (t : ByteArray) (r : List ByteArray) (n : Nat), scan t l = some r → n ≤ l.length → ∃ u, r[n]? = some u ∧ run t (l.take n) = some u := by
  induction l with
  | nil =>
    intro t r n h hn
    simp [scan] at h
    subst h
    obtain rfl : n = 0 := by simpa using hn
    exact ⟨t, rfl, rfl⟩
  | cons x l ih =>
    intro t r n h hn
    simp only [scan] at h
    split at h
    · rename_i hc
      obtain ⟨r', h', rfl⟩ := Option.map_eq_some_iff.1 h
      cases n with
      | zero => exact ⟨t, rfl, rfl⟩
      | succ n =>
        obtain ⟨u, h1, h2⟩ := ih _ r' n h' (by simpa using hn)
        refine ⟨u, by simpa using h1, ?_⟩
        simp only [List.take_succ_cons, run]
        simp at hc
        rw [if_pos (by simp [hc])]
        exact h2
    · cases h
theorem valid_scan (b : ByteArray) (l : List T_issi) (d : Int) (h : valid b l d = true) : ∃ r, scan b l = some r ∧ textsOf b l d = (r, false) ∧ r.length = l.length + 1 ∧ b.size ≤ 65536 ∧ 0 ≤ d ∧ d ≤ l.length ∧ l.length ≤ 300 := by
  have h' := h
  simp only [valid, Bool.and_eq_true, decide_eq_true_eq] at h'
  obtain ⟨r, hr⟩ := Option.isSome_iff_exists.1 h'.2
  exact ⟨r, hr, by simp [textsOf, h, hr], scan_len l b r hr, h'.1.1.1.1, h'.1.1.2, h'.1.2, h'.1.1.1.2⟩
/-! ### the program's texts -/
theorem tooLong_ev (s : ByteArray) : Ev (fun k => impl_long k s) (decide (65536 < (s.size : Int))) := Ev.ret fun k => by simp only [impl_long.eq, W]
theorem ext2 (t : ByteArray) (a n : Nat) (h : a + n ≤ t.size) : ((t.extract a t.size).extract 0 n) = t.extract a (a + n) := by
  rw [ByteArray.extract_extract]
  congr 1
  omega
theorem hasPrefix_ev (s p : ByteArray) : Ev (fun k => strings_HasPrefix k s p) (decide (p.size ≤ s.size) && decide (s.extract 0 p.size = p)) := by
  have h0 : Ev (fun k => internal_stringslite_HasPrefix k s p) (decide (p.size ≤ s.size) && decide (s.extract 0 p.size = p)) := by
    refine Ev.ret fun k => ?_
    simp only [internal_stringslite_HasPrefix.eq, W, W1, Int.toNat_zero, Int.toNat_natCast]
    by_cases c : p.size ≤ s.size
    · rw [if_pos (by omega), if_pos (by omega), if_pos (by omega)]; simp [c]
    · rw [if_neg (by omega)]; simp [c]
  exact Ev.step (fun k => strings_HasPrefix.eq s p k) (Ev.opt h0 (Ev.now _))
theorem prefix_at (t : ByteArray) (x : T_issi) (h0 : 0 ≤ x.1) (h1 : x.1 ≤ t.size) : Ev (fun k => strings_HasPrefix k (t.extract x.1.toNat t.size) x.2.1) (fitsAt t x) := by
  have hs : (t.extract x.1.toNat t.size).size = t.size - x.1.toNat := by simp [ByteArray.size_extract]
  have h := hasPrefix_ev (t.extract x.1.toNat t.size) x.2.1
  have e : (decide (x.2.1.size ≤ (t.extract x.1.toNat t.size).size) && decide ((t.extract x.1.toNat t.size).extract 0 x.2.1.size = x.2.1)) = fitsAt t x := by
    unfold fitsAt within
    by_cases c : (x.2.1.size : Int) ≤ t.size - x.1
    · rw [ext2 _ _ _ (by omega), hs]
      have c2 : x.2.1.size ≤ t.size - x.1.toNat := by omega
      simp [h0, h1, c, c2]
    · have c2 : ¬ x.2.1.size ≤ t.size - x.1.toNat := by omega
      rw [hs]
      simp [c, c2]
  rw [e] at h
  exact h
theorem do_ev (t : ByteArray) (x : T_issi) (h : within t x = true) (ht : t.size ≤ 65536) (hx : x.2.2.1.size ≤ 1048576) : Ev (fun k => impl_do k t x.1 x.2.1 x.2.2.1 x.2.2.2) (done t x) := by
  have hz := size_done t x h
  simp [within] at h
  have e1 : addI .i64 x.1 (x.2.1.size : Int) = x.1 + x.2.1.size := addI_i64 (by omega) (by omega)
  have e2 : (x.1 + (x.2.1.size : Int)).toNat = x.1.toNat + x.2.1.size := by omega
  have e3 : ((t.extract 0 x.1.toNat).size : Int) + (x.2.2.1.size : Int) ≤ 9223372036854775807 := by simp [ByteArray.size_extract]; omega
  have e4 : ((t.extract 0 x.1.toNat ++ x.2.2.1).size : Int) + ((t.extract (x.1.toNat + x.2.1.size) t.size).size : Int) ≤ 9223372036854775807 := by simp [ByteArray.size_extract, ByteArray.size_append]; omega
  refine Ev.ret fun k => ?_
  simp only [impl_do.eq, W, W1, e1, e2, Int.toNat_zero, Int.toNat_natCast]
  rw [if_pos (by omega), if_pos (by omega), if_pos e3, if_pos (by omega), if_pos (by omega), if_pos e4]
  rfl
theorem texts_loop (l : List T_issi) (hl : l.length ≤ 1048576) (hs : ∀ x ∈ l, Small x) : ∀ (suf pre : List T_issi) (acc : List ByteArray) (t : ByteArray), l = pre ++ suf → acc.length = pre.length → t.size ≤ 65536 →
    Ev2 (fun k j => impl_texts_L6 k j t l (l.length : Int) (pre.length : Int) (acc ++ [t])) (match scan t suf with | some r => (acc ++ r, false) | none => ([], true)) := by
  intro suf
  induction suf with
  | nil =>
    intro pre acc t hlp ha ht
    subst hlp
    refine Ev2.ret fun k j => ?_
    simp only [impl_texts_L6.eq, W, W1, W2]
    rw [if_neg (by simp)]
    rfl
  | cons x suf ih =>
    intro pre acc t hlp ha ht
    have hle : pre.length + 1 ≤ l.length := by rw [hlp, List.length_append, List.length_cons]; omega
    have hr : rd l (pre.length : Int) (0, ((bs []), ((bs []), 0))) = x := by rw [hlp]; exact rd_mid pre suf x _
    have hw2 : addI .i64 (pre.length : Int) 1 = ((pre ++ [x]).length : Int) := by rw [addI_i64 (by omega) (by omega)]; exact len_snoc pre x
    have hx := hs x (by rw [hlp]; simp)
    have e := fun k j => impl_texts_L6.eq t l (l.length : Int) (pre.length : Int) (acc ++ [t]) k j
    simp only [W, W1, W2, W3, hr, Int.toNat_natCast] at e
    have a1 : (pre.length : Int) < (l.length : Int) := by omega
    have a2 : (0 : Int) ≤ (pre.length : Int) := by omega
    simp only [if_pos a1, if_pos a2] at e
    have hnone : (fitsAt t x && okStep x) = false → scan t (x :: suf) = none := fun h => by simp only [scan, h, Bool.false_and]; rfl
    by_cases c1 : x.1 < 0
    · rw [hnone (by simp [fitsAt, within]; omega)]
      refine Ev2.ret fun k j => ?_
      rw [e, if_pos c1]
    simp only [if_neg c1] at e
    by_cases c2 : (t.size : Int) < x.1
    · rw [hnone (by simp [fitsAt, within]; omega)]
      refine Ev2.ret fun k j => ?_
      rw [e, if_pos c2]
    have a3 : (0 : Int) ≤ x.1 := by omega
    have a4 : x.1 ≤ (t.size : Int) := by omega
    simp only [if_neg c2, if_pos a3, if_pos a4] at e
    refine Ev2.step e (Ev2.bind (prefix_at t x a3 a4) ?_)
    by_cases c3 : fitsAt t x = true
    · simp only [brB_b, c3, if_true]
      by_cases c4 : x.2.1 = x.2.2.1
      · rw [hnone (by simp [okStep, c4])]
        simp only [if_pos c4]; exact Ev2.now _
      simp only [if_neg c4]
      by_cases c5 : x.2.2.2 < 0
      · rw [hnone (by simp [okStep]; omega)]
        simp only [if_pos c5]; exact Ev2.now _
      simp only [if_neg c5]
      by_cases c6 : 1000000 < x.2.2.2
      · rw [hnone (by simp [okStep]; omega)]
        simp only [if_pos c6]; exact Ev2.now _
      simp only [if_neg c6]
      have hok : okStep x = true := by simp [okStep, c4]; omega
      have hw : within t x = true := by simp only [fitsAt, Bool.and_eq_true] at c3; exact c3.1
      have ej := fun k j => impl_texts_J10.eq t l (l.length : Int) (pre.length : Int) (acc ++ [t]) x.1 x.2.1 x.2.2.1 x.2.2.2 k j
      simp only [W, W1, W2, W3, hw2] at ej
      refine Ev2.congr ej (Ev2.bind (do_ev t x hw ht hx.2) (Ev2.bind (tooLong_ev _) ?_))
      by_cases c7 : 65536 < ((done t x).size : Int)
      · have hn : scan t (x :: suf) = none := by simp only [scan]; rw [if_neg (by simp; omega)]
        rw [hn]
        simp only [W1, if_pos c7]; exact Ev2.now _
      · have hsc : scan t (x :: suf) = (scan (done t x) suf).map (t :: ·) := by simp only [scan]; rw [if_pos (by simp [c3, hok]; omega)]
        have a5 : (((acc ++ [t]).length : Int) + (([done t x] : List ByteArray).length : Int)) * 16 < 140737488355328 := by simp; omega
        simp only [W1, if_neg c7, if_pos a5]
        have h := ih (pre ++ [x]) (acc ++ [t]) (done t x) (by rw [hlp]; simp) (by simp; omega) (by omega)
        have er : (match scan (done t x) suf with | some r => ((acc ++ [t]) ++ r, false) | none => ([], true)) = (match scan t (x :: suf) with | some r => (acc ++ r, false) | none => ([], true)) := by
          rw [hsc]
          cases scan (done t x) suf <;> simp
        rw [← er]
        exact h
    · rw [hnone (by simp [c3])]
      have c3' : fitsAt t x = false := by simpa using c3
      simp only [brB_b, c3', Bool.false_eq_true, if_false]
      exact Ev2.now _
theorem texts_ev (b : ByteArray) (l : List T_issi) (d : Int) (hl : l.length ≤ 1048576) (hs : ∀ x ∈ l, Small x) : Ev (fun k => impl_texts k b l d) (textsOf b l d) := by
  refine Ev.step (fun k => impl_texts.eq b l d k) (Ev.opt (tooLong_ev b) ?_)
  unfold textsOf valid
  simp only [W, W1, W2]
  by_cases c1 : 65536 < (b.size : Int)
  · have c1' : ¬ b.size ≤ 65536 := by omega
    simp only [if_pos c1, c1', decide_false, Bool.false_and]; exact Ev.now _
  have c1' : b.size ≤ 65536 := by omega
  simp only [if_neg c1, c1', decide_true, Bool.true_and]
  by_cases c2 : 300 < (l.length : Int)
  · have c2' : ¬ l.length ≤ 300 := by omega
    simp only [if_pos c2, c2', decide_false, Bool.false_and]; exact Ev.now _
  have c2' : l.length ≤ 300 := by omega
  simp only [if_neg c2, c2', decide_true, Bool.true_and]
  by_cases c3 : d < 0
  · have c3' : ¬ 0 ≤ d := by omega
    simp only [if_pos c3, c3', decide_false, Bool.false_and]; exact Ev.now _
  have c3' : 0 ≤ d := by omega
  simp only [if_neg c3, c3', decide_true, Bool.true_and]
  by_cases c4 : (l.length : Int) < d
  · have c4' : ¬ d ≤ (l.length : Int) := by omega
    simp only [if_pos c4, c4', decide_false, Bool.false_and]; exact Ev.now _
  have c4' : d ≤ (l.length : Int) := by omega
  simp only [if_neg c4, c4', decide_true, Bool.true_and]
  have h := (texts_loop l hl hs l [] [] b rfl rfl c1').ev
  cases hsc : scan b l with
  | none => rw [hsc] at h; exact h
  | some r => rw [hsc] at h; exact h
/-! ### the reference -/
theorem within_ev (t : ByteArray) (a n : Int) (ht : t.size ≤ 1048576) : Ev (fun k => spec_l20Within k t a n) (decide (0 ≤ a) && decide (a ≤ t.size) && decide (0 ≤ n) && decide (n ≤ t.size - a)) := by
  refine Ev.ret fun k => ?_
  simp only [spec_l20Within.eq, W, W1]
  by_cases c1 : 0 ≤ a
  · by_cases c2 : a ≤ t.size
    · by_cases c3 : 0 ≤ n
      · rw [if_pos c1, if_pos c2, if_pos c3, subI_i64 (by omega) (by omega)]
        simp [c1, c2, c3]
      · rw [if_pos c1, if_pos c2, if_neg c3]
        simp [c3]
    · rw [if_pos c1, if_neg c2]
      simp [c2]
  · rw [if_neg c1]
    simp [c1]
theorem put_ev (t : ByteArray) (x : T_issi) (ht : t.size ≤ 65536) (hx : Small x) : Ev (fun k => spec_l21Put k t x.1 x.2.1 x.2.2.1 x.2.2.2) (if fitsAt t x then (done t x, decide ((done t x).size ≤ 65536)) else (t, false)) := by
  have hw := within_ev t x.1 (x.2.1.size : Int) (by omega)
  have ew : (decide (0 ≤ x.1) && decide (x.1 ≤ t.size) && decide (0 ≤ (x.2.1.size : Int)) && decide ((x.2.1.size : Int) ≤ t.size - x.1)) = within t x := by
    have : (0 : Int) ≤ (x.2.1.size : Int) := by omega
    simp [within, this]
  rw [ew] at hw
  refine Ev.step (fun k => spec_l21Put.eq t x.1 x.2.1 x.2.2.1 x.2.2.2 k) (Ev.opt hw ?_)
  obtain ⟨hx1, hx2⟩ := hx
  by_cases c : within t x = true
  · have hz := size_done t x c
    have c' := c
    simp [within] at c'
    have e1 : addI .i64 x.1 (x.2.1.size : Int) = x.1 + x.2.1.size := addI_i64 (by omega) (by omega)
    have e2 : (x.1 + (x.2.1.size : Int)).toNat = x.1.toNat + x.2.1.size := by omega
    have e3 : ((t.extract 0 x.1.toNat).size : Int) + (x.2.2.1.size : Int) ≤ 9223372036854775807 := by simp [ByteArray.size_extract]; omega
    have e4 : ((t.extract 0 x.1.toNat ++ x.2.2.1).size : Int) + ((t.extract (x.1.toNat + x.2.1.size) t.size).size : Int) ≤ 9223372036854775807 := by simp [ByteArray.size_extract, ByteArray.size_append]; omega
    have b1 : (0 : Int) ≤ x.1 := by omega
    have b2 : x.1 ≤ x.1 + (x.2.1.size : Int) := by omega
    have b3 : x.1 + (x.2.1.size : Int) ≤ (t.size : Int) := by omega
    have b4 : x.1 ≤ (t.size : Int) := by omega
    have b5 : (0 : Int) ≤ x.1 + (x.2.1.size : Int) := by omega
    simp only [c, W, W1, e1, e2, Int.toNat_zero, Int.toNat_natCast, if_pos b1, if_pos b2, if_pos b3, if_pos b4, if_pos b5, if_pos e3, if_pos e4]
    by_cases c2 : t.extract x.1.toNat (x.1.toNat + x.2.1.size) = x.2.1
    · have hf : fitsAt t x = true := by simp [fitsAt, c, c2]
      simp only [if_pos c2, if_pos hf]
      have : decide (((t.extract 0 x.1.toNat ++ x.2.2.1 ++ t.extract (x.1.toNat + x.2.1.size) t.size).size : Int) ≤ 65536) = decide ((done t x).size ≤ 65536) := by
        unfold done
        rw [Bool.eq_iff_iff, decide_eq_true_eq, decide_eq_true_eq]
        omega
      rw [this]
      exact Ev.now _
    · have hf : ¬ (fitsAt t x = true) := by simp [fitsAt, c2]
      simp only [if_neg c2, if_neg hf]
      exact Ev.now _
  · have hf : ¬ (fitsAt t x = true) := by simp [fitsAt]; intro h; exact absurd h c
    have c' : within t x = false := by simpa using c
    simp only [c', W, W1, if_neg hf]
    exact Ev.now _
theorem text_loop (b : ByteArray) (l : List T_issi) (d : Int) (hl : l.length ≤ 1048576) (hs : ∀ x ∈ l, Small x) : ∀ (suf pre : List T_issi) (t : ByteArray) (m : Nat), l = pre ++ suf → m ≤ suf.length → t.size ≤ 65536 →
    ∃ t', Ev2 (fun k j => spec_l21Text_L4 k j ((pre.length + m : Nat) : Int) t true (pre.length : Int) b l d) (t', (run t (suf.take m)).isSome) ∧ ∀ u, run t (suf.take m) = some u → t' = u := by
  intro suf
  induction suf with
  | nil =>
    intro pre t m hlp hm ht
    obtain rfl : m = 0 := by simpa using hm
    refine ⟨t, Ev2.ret fun k j => ?_, fun u h => by simpa [run] using h⟩
    simp only [spec_l21Text_L4.eq, W, W1, W2]
    rw [if_neg (by simp)]
    simp [run]
  | cons x suf ih =>
    intro pre t m hlp hm ht
    cases m with
    | zero =>
      refine ⟨t, Ev2.ret fun k j => ?_, fun u h => by simpa [run] using h⟩
      simp only [spec_l21Text_L4.eq, W, W1, W2]
      rw [if_neg (by simp)]
      simp [run]
    | succ m =>
      have hle : pre.length + 1 ≤ l.length := by rw [hlp, List.length_append, List.length_cons]; omega
      have hr : rd l (pre.length : Int) (0, ((bs []), ((bs []), 0))) = x := by rw [hlp]; exact rd_mid pre suf x _
      have hw2 : addI .i64 (pre.length : Int) 1 = ((pre ++ [x]).length : Int) := by rw [addI_i64 (by omega) (by omega)]; exact len_snoc pre x
      have hp := put_ev t x ht (hs x (by rw [hlp]; simp))
      have e := fun k j => spec_l21Text_L4.eq ((pre.length + (m + 1) : Nat) : Int) t true (pre.length : Int) b l d k j
      simp only [W, W1, W2, W3, hr, hw2] at e
      have a1 : (pre.length : Int) < ((pre.length + (m + 1) : Nat) : Int) := by omega
      have a2 : (0 : Int) ≤ (pre.length : Int) := by omega
      have a3 : (pre.length : Int) < (l.length : Int) := by omega
      simp only [if_pos a1, if_pos a2, if_pos a3] at e
      have hstop : ∀ (t0 : ByteArray) (r : ByteArray × Bool), r = (t0, false) → Ev2 (fun k j => spec_l21Text_L4 k j ((pre.length + (m + 1) : Nat) : Int) t0 false ((pre ++ [x]).length : Int) b l d) r := by
        intro t0 r hr
        subst hr
        refine Ev2.ret fun k j => ?_
        simp only [spec_l21Text_L4.eq, W, W1, W2]
        split <;> rfl
      by_cases c : fitsAt t x = true
      · by_cases c2 : (done t x).size ≤ 65536
        · obtain ⟨t', h1, h2⟩ := ih (pre ++ [x]) (done t x) m (by rw [hlp]; simp) (by simpa using hm) c2
          refine ⟨t', Ev2.step e (Ev2.bind hp ?_), fun u hu => h2 u ?_⟩
          · simp only [c, c2, if_true, decide_true, List.take_succ_cons, run, Bool.and_true]
            have e : ((pre.length + (m + 1) : Nat) : Int) = (((pre ++ [x]).length + m : Nat) : Int) := by simp; omega
            rw [e]
            exact h1
          · simpa [List.take_succ_cons, run, c, c2] using hu
        · refine ⟨done t x, Ev2.step e (Ev2.bind hp ?_), fun u hu => ?_⟩
          · simp only [c, c2, if_true, decide_false, List.take_succ_cons, run, Bool.and_false]
            exact hstop _ _ rfl
          · simp [List.take_succ_cons, run, c2] at hu
      · refine ⟨t, Ev2.step e (Ev2.bind hp ?_), fun u hu => ?_⟩
        · simp only [c, List.take_succ_cons, run]
          exact hstop _ _ rfl
        · simp [List.take_succ_cons, run, c] at hu
theorem text_ev (b : ByteArray) (l : List T_issi) (d : Int) (n : Nat) (hl : l.length ≤ 1048576) (hn : n ≤ l.length) (hs : ∀ x ∈ l, Small x) :
    ∃ t', Ev (fun k => spec_l21Text k b l d (n : Int)) (t', decide (b.size ≤ 65536) && (run b (l.take n)).isSome) ∧ ∀ u, b.size ≤ 65536 → run b (l.take n) = some u → t' = u := by
  by_cases c : b.size ≤ 65536
  · obtain ⟨t', h1, h2⟩ := text_loop b l d hl hs l [] b n rfl hn c
    have ec : (decide (b.size ≤ 65536) && (run b (l.take n)).isSome) = (run b (l.take n)).isSome := by simp [c]
    rw [ec]
    refine ⟨t', Ev.step (fun k => ?_) h1.ev, fun u _ hu => h2 u hu⟩
    have e : decide ((b.size : Int) ≤ 65536) = true := by simp; omega
    simp only [spec_l21Text.eq, W, e]
    simp
  · refine ⟨b, Ev.step (f := fun k => spec_l21Text_L4 k k (n : Int) b false 0 b l d) (fun k => ?_) (Ev.ret fun k => ?_), fun u hb _ => absurd hb c⟩
    · have e : decide ((b.size : Int) ≤ 65536) = false := by simp; omega
      simp only [spec_l21Text.eq, W, e]
    · simp only [spec_l21Text_L4.eq, W, W1, W2, c, decide_false, Bool.false_and]
      split <;> rfl
theorem fault_loop (b : ByteArray) (l : List T_issi) (d : Int) (hl : l.length ≤ 1048576) (hs : ∀ x ∈ l, Small x) : ∀ (suf pre : List T_issi), l = pre ++ suf →
    Ev2 (fun k j => spec_HistoryFault_L4 k j (pre.length : Int) b l d) (if suf.all okStep && (decide (b.size ≤ 65536) && (run b l).isSome) then (0 : Int) else 1) := by
  intro suf
  induction suf with
  | nil =>
    intro pre hlp
    obtain ⟨t', h1, _⟩ := text_ev b l d l.length hl (Nat.le_refl _) hs
    rw [List.take_length] at h1
    refine Ev2.step (f := fun k _ => (spec_l21Text k b l d (l.length : Int)).bind fun bt => if bt.2 = true then some 0 else some 1) (fun k j => ?_) ?_
    · have : pre.length = l.length := by rw [hlp]; simp
      simp only [spec_HistoryFault_L4.eq, W, W1, W2, W3]
      rw [if_neg (by omega)]
      simp only [brB_b]
    · refine (Ev.bind (f := fun _ bt => if bt.2 = true then some (0 : Int) else some 1) h1 ?_).two
      simp only [List.all_nil, Bool.true_and]
      by_cases c : (decide (b.size ≤ 65536) && (run b l).isSome) = true
      · simp only [c, if_true]; exact Ev.now _
      · simp only [c]; exact Ev.now _
  | cons x suf ih =>
    intro pre hlp
    have hle : pre.length + 1 ≤ l.length := by rw [hlp, List.length_append, List.length_cons]; omega
    have hr : rd l (pre.length : Int) (0, ((bs []), ((bs []), 0))) = x := by rw [hlp]; exact rd_mid pre suf x _
    have hw2 : addI .i64 (pre.length : Int) 1 = ((pre ++ [x]).length : Int) := by rw [addI_i64 (by omega) (by omega)]; exact len_snoc pre x
    have h := ih (pre ++ [x]) (by rw [hlp]; simp)
    refine Ev2.step (f := fun k j => if okStep x then spec_HistoryFault_L4 k j ((pre ++ [x]).length : Int) b l d else some 1) (fun k j => ?_) ?_
    · simp only [spec_HistoryFault_L4.eq, W, W1, W2, hr, hw2]
      rw [if_pos (by omega), if_pos (by omega), if_pos (by omega)]
      by_cases c1 : x.2.1 = x.2.2.1
      · rw [if_pos c1, if_neg (by simp [okStep, c1])]
      · rw [if_neg c1]
        by_cases c2 : x.2.2.2 < 0
        · rw [if_pos c2, if_neg (by simp [okStep]; omega)]
        · rw [if_neg c2]
          by_cases c3 : 1000000 < x.2.2.2
          · rw [if_pos c3, if_neg (by simp [okStep]; omega)]
          · rw [if_neg c3, if_pos (by simp [okStep, c1]; omega)]
    · simp only [List.all_cons]
      by_cases c : okStep x = true
      · simp only [c, if_true, Bool.true_and]; exact h
      · simp only [c, Bool.false_and]; exact Ev2.now _
theorem specFault_ev (b : ByteArray) (l : List T_issi) (d : Int) (hl : l.length ≤ 1048576) (hs : ∀ x ∈ l, Small x) : Ev (fun k => spec_HistoryFault k b l d) (if valid b l d then 0 else 1) := by
  have e := fun k => spec_HistoryFault.eq b l d k
  simp only [W, W1, W2] at e
  by_cases c2 : 300 < (l.length : Int)
  · have : valid b l d = false := by simp [valid]; intros; omega
    rw [this]
    refine Ev.ret fun k => ?_
    rw [e, if_pos c2]
    rfl
  by_cases c3 : d < 0
  · have : valid b l d = false := by simp [valid]; intros; omega
    rw [this]
    refine Ev.ret fun k => ?_
    rw [e, if_neg c2, if_pos c3]
    rfl
  by_cases c4 : (l.length : Int) < d
  · have : valid b l d = false := by simp [valid]; intros; omega
    rw [this]
    refine Ev.ret fun k => ?_
    rw [e, if_neg c2, if_neg c3, if_pos c4]
    rfl
  have h := (fault_loop b l d hl hs l [] rfl).ev
  have c2' : l.length ≤ 300 := by omega
  have c3' : 0 ≤ d := by omega
  have c4' : d ≤ (l.length : Int) := by omega
  have ev : (l.all okStep && (decide (b.size ≤ 65536) && (run b l).isSome)) = valid b l d := by
    unfold valid
    rw [scan_run]
    simp only [c2', c3', c4', decide_true, Bool.and_true]
    cases l.all okStep <;> cases decide (b.size ≤ 65536) <;> simp
  rw [ev] at h
  refine Ev.step (fun k => ?_) h
  rw [e, if_neg c2, if_neg c3, if_neg c4]
  rfl
end Go.Proofs.Ytjgcpfdgneeleaa.UN
