/- Histories, the program side alone (XHis without the reference). -/
import Derived.Test.YtkkjkpliiinbjaaDoorQDF0
import Derived.Test.YtkkjkpliiinbjaaDoorEG
namespace Go.Proofs.YtkkjkpliiinbjaaDoor.DF
open Go.Eng Go.RowKit
set_option linter.unusedVariables false
set_option linter.unusedSimpArgs false

/-! ### what a history's texts are -/
def okStep (x : T_issi) : Bool := decide (x.2.1 ≠ x.2.2.1) && decide (0 ≤ x.2.2.2) && decide (x.2.2.2 ≤ 1000000)
def within (t : ByteArray) (x : T_issi) : Bool := decide (0 ≤ x.1) && decide (x.1 ≤ t.size) && decide ((x.2.1.size : Int) ≤ t.size - x.1)
def fitsAt (t : ByteArray) (x : T_issi) : Bool := within t x && decide (t.extract x.1.toNat (x.1.toNat + x.2.1.size) = x.2.1)
def done (t : ByteArray) (x : T_issi) : ByteArray := (t.extract 0 x.1.toNat ++ x.2.2.1) ++ t.extract (x.1.toNat + x.2.1.size) t.size
/-- All texts of the steps, from t on; none: a step can't be done. -/
def scan : ByteArray → List T_issi → Option (List ByteArray)
  | t, [] => some [t]
  | t, x :: xs => if fitsAt t x && okStep x && decide ((done t x).size ≤ 65536) then (scan (done t x) xs).map (t :: ·) else none
/-- The text behind them, with no look at the steps' own rules. -/
def run : ByteArray → List T_issi → Option ByteArray
  | t, [] => some t
  | t, x :: xs => if fitsAt t x && decide ((done t x).size ≤ 65536) then run (done t x) xs else none
def valid (b : ByteArray) (l : List T_issi) (d : Int) : Bool := decide (b.size ≤ 65536) && decide (l.length ≤ 300) && decide (0 ≤ d) && decide (d ≤ l.length) && (scan b l).isSome
def textsOf (b : ByteArray) (l : List T_issi) (d : Int) : List ByteArray × Bool := if valid b l d then ((scan b l).getD [], false) else ([], true)
def Small (x : T_issi) : Prop := x.2.1.size ≤ 1048576 ∧ x.2.2.1.size ≤ 1048576
theorem size_done (t : ByteArray) (x : T_issi) (h : within t x = true) : (done t x).size + x.2.1.size = t.size + x.2.2.1.size := by
  simp [within] at h
  simp [done, ByteArray.size_append, ByteArray.size_extract]
  omega
theorem scan_len (l : List T_issi) : ∀ (t : ByteArray) (r : List ByteArray), scan t l = some r → r.length = l.length + 1 := by
  induction l with
  | nil => intro t r h; simp [scan] at h; subst h; rfl
  | cons x l ih =>
    intro t r h
    simp only [scan] at h
    split at h
    · obtain ⟨r', h', rfl⟩ := Option.map_eq_some_iff.1 h
      simp [ih _ _ h']
    · cases h
theorem scan_run (l : List T_issi) : ∀ (t : ByteArray), (scan t l).isSome = ((l.all okStep) && (run t l).isSome) := by
  induction l with
  | nil => intro t; simp [scan, run]
  | cons x l ih =>
    intro t
    simp only [scan, run, List.all_cons]
    by_cases c1 : fitsAt t x = true <;> by_cases c2 : okStep x = true <;> by_cases c3 : (done t x).size ≤ 65536 <;> simp [c1, c2, c3, ih]
theorem scan_at (l : List T_issi) : ∀ (t : ByteArray) (r : List ByteArray) (n : Nat), scan t l = some r → n ≤ l.length → ∃ u, r[n]? = some u ∧ run t (l.take n) = some u := by
  induction l with
  | nil =>
    intro t r n h hn
    simp [scan] at h
    subst h
    obtain rfl : n = 0 := by simpa using hn
    exact ⟨t, rfl, rfl⟩
  | cons x l ih =>
    intro t r n h hn
    simp only [scan] at h
    split at h
    · rename_i hc
      obtain ⟨r', h', rfl⟩ := Option.map_eq_some_iff.1 h
      cases n with
      | zero => exact ⟨t, rfl, rfl⟩
      | succ n =>
        obtain ⟨u, h1, h2⟩ := ih _ r' n h' (by simpa using hn)
        refine ⟨u, by simpa using h1, ?_⟩
        simp only [List.take_succ_cons, run]
        simp at hc
        rw [if_pos (by simp [hc])]
        exact h2
    · cases h
theorem valid_scan (b : ByteArray) (l : List T_issi) (d : Int) (h : valid b l d = true) : ∃ r, scan b l = some r ∧ textsOf b l d = (r, false) ∧ r.length = l.length + 1 ∧ b.size ≤ 65536 ∧ 0 ≤ d ∧ d ≤ l.length ∧ l.length ≤ 300 := by
  have h' := h
  simp only [valid, Bool.and_eq_true, decide_eq_true_eq] at h'
  obtain ⟨r, hr⟩ := Option.isSome_iff_exists.1 h'.2
  exact ⟨r, hr, by simp [textsOf, h, hr], scan_len l b r hr, h'.1.1.1.1, h'.1.1.2, h'.1.2, h'.1.1.1.2⟩
/-! ### the program's texts -/
theorem tooLong_ev (s : ByteArray) : Ev (fun k => impl_long k s) (decide (65536 < (s.size : Int))) := Ev.ret fun k => by simp only [impl_long.eq, W]
theorem ext2 (t : ByteArray) (a n : Nat) (h : a + n ≤ t.size) : ((t.extract a t.size).extract 0 n) = t.extract a (a + n) := by
  rw [ByteArray.extract_extract]
  congr 1
  omega
theorem hasPrefix_ev (s p : ByteArray) : Ev (fun k => strings_HasPrefix k s p) (decide (p.size ≤ s.size) && decide (s.extract 0 p.size = p)) := by
  have h0 : Ev (fun k => internal_stringslite_HasPrefix k s p) (decide (p.size ≤ s.size) && decide (s.extract 0 p.size = p)) := by
    refine Ev.ret fun k => ?_
    simp only [internal_stringslite_HasPrefix.eq, W, W1, Int.toNat_zero, Int.toNat_natCast]
    by_cases c : p.size ≤ s.size
    · rw [if_pos (by omega), if_pos (by omega), if_pos (by omega)]; simp [c]
    · rw [if_neg (by omega)]; simp [c]
  exact Ev.step (fun k => strings_HasPrefix.eq s p k) (Ev.opt h0 (Ev.now _))
theorem prefix_at (t : ByteArray) (x : T_issi) (h0 : 0 ≤ x.1) (h1 : x.1 ≤ t.size) : Ev (fun k => strings_HasPrefix k (t.extract x.1.toNat t.size) x.2.1) (fitsAt t x) := by
  have hs : (t.extract x.1.toNat t.size).size = t.size - x.1.toNat := by simp [ByteArray.size_extract]
  have h := hasPrefix_ev (t.extract x.1.toNat t.size) x.2.1
  have e : (decide (x.2.1.size ≤ (t.extract x.1.toNat t.size).size) && decide ((t.extract x.1.toNat t.size).extract 0 x.2.1.size = x.2.1)) = fitsAt t x := by
    unfold fitsAt within
    by_cases c : (x.2.1.size : Int) ≤ t.size - x.1
    · rw [ext2 _ _ _ (by omega), hs]
      have c2 : x.2.1.size ≤ t.size - x.1.toNat := by omega
      simp [h0, h1, c, c2]
    · have c2 : ¬ x.2.1.size ≤ t.size - x.1.toNat := by omega
      rw [hs]
      simp [c, c2]
  rw [e] at h
  exact h
theorem do_ev (t : ByteArray) (x : T_issi) (h : within t x = true) (ht : t.size ≤ 65536) (hx : x.2.2.1.size ≤ 1048576) : Ev (fun k => impl_do k t x.1 x.2.1 x.2.2.1 x.2.2.2) (done t x) := by
  have hz := size_done t x h
  simp [within] at h
  have e1 : addI .i64 x.1 (x.2.1.size : Int) = x.1 + x.2.1.size := addI_i64 (by omega) (by omega)
  have e2 : (x.1 + (x.2.1.size : Int)).toNat = x.1.toNat + x.2.1.size := by omega
  have e3 : ((t.extract 0 x.1.toNat).size : Int) + (x.2.2.1.size : Int) ≤ 9223372036854775807 := by simp [ByteArray.size_extract]; omega
  have e4 : ((t.extract 0 x.1.toNat ++ x.2.2.1).size : Int) + ((t.extract (x.1.toNat + x.2.1.size) t.size).size : Int) ≤ 9223372036854775807 := by simp [ByteArray.size_extract, ByteArray.size_append]; omega
  refine Ev.ret fun k => ?_
  simp only [impl_do.eq, W, W1, e1, e2, Int.toNat_zero, Int.toNat_natCast]
  rw [if_pos (by omega), if_pos (by omega), if_pos e3, if_pos (by omega), if_pos (by omega), if_pos e4]
  rfl
theorem texts_loop (l : List T_issi) (hl : l.length ≤ 1048576) (hs : ∀ x ∈ l, Small x) : ∀ (suf pre : List T_issi) (acc : List ByteArray) (t : ByteArray), l = pre ++ suf → acc.length = pre.length → t.size ≤ 65536 →
    Ev2 (fun k j => impl_texts_L6 k j t l (l.length : Int) (pre.length : Int) (acc ++ [t])) (match scan t suf with | some r => (acc ++ r, false) | none => ([], true)) := by
  intro suf
  induction suf with
  | nil =>
    intro pre acc t hlp ha ht
    subst hlp
    refine Ev2.ret fun k j => ?_
    simp only [impl_texts_L6.eq, W, W1, W2]
    rw [if_neg (by simp)]
    rfl
  | cons x suf ih =>
    intro pre acc t hlp ha ht
    have hle : pre.length + 1 ≤ l.length := by rw [hlp, List.length_append, List.length_cons]; omega
    have hr : rd l (pre.length : Int) (0, ((bs []), ((bs []), 0))) = x := by rw [hlp]; exact rd_mid pre suf x _
    have hw2 : addI .i64 (pre.length : Int) 1 = ((pre ++ [x]).length : Int) := by rw [addI_i64 (by omega) (by omega)]; exact len_snoc pre x
    have hx := hs x (by rw [hlp]; simp)
    have e := fun k j => impl_texts_L6.eq t l (l.length : Int) (pre.length : Int) (acc ++ [t]) k j
    simp only [W, W1, W2, W3, hr, Int.toNat_natCast] at e
    have a1 : (pre.length : Int) < (l.length : Int) := by omega
    have a2 : (0 : Int) ≤ (pre.length : Int) := by omega
    simp only [if_pos a1, if_pos a2] at e
    have hnone : (fitsAt t x && okStep x) = false → scan t (x :: suf) = none := fun h => by simp only [scan, h, Bool.false_and]; rfl
    by_cases c1 : x.1 < 0
    · rw [hnone (by simp [fitsAt, within]; omega)]
      refine Ev2.ret fun k j => ?_
      rw [e, if_pos c1]
    simp only [if_neg c1] at e
    by_cases c2 : (t.size : Int) < x.1
    · rw [hnone (by simp [fitsAt, within]; omega)]
      refine Ev2.ret fun k j => ?_
      rw [e, if_pos c2]
    have a3 : (0 : Int) ≤ x.1 := by omega
    have a4 : x.1 ≤ (t.size : Int) := by omega
    simp only [if_neg c2, if_pos a3, if_pos a4] at e
    refine Ev2.step e (Ev2.bind (prefix_at t x a3 a4) ?_)
    by_cases c3 : fitsAt t x = true
    · simp only [brB_b, c3, if_true]
      by_cases c4 : x.2.1 = x.2.2.1
      · rw [hnone (by simp [okStep, c4])]
        simp only [if_pos c4]; exact Ev2.now _
      simp only [if_neg c4]
      by_cases c5 : x.2.2.2 < 0
      · rw [hnone (by simp [okStep]; omega)]
        simp only [if_pos c5]; exact Ev2.now _
      simp only [if_neg c5]
      by_cases c6 : 1000000 < x.2.2.2
      · rw [hnone (by simp [okStep]; omega)]
        simp only [if_pos c6]; exact Ev2.now _
      simp only [if_neg c6]
      have hok : okStep x = true := by simp [okStep, c4]; omega
      have hw : within t x = true := by simp only [fitsAt, Bool.and_eq_true] at c3; exact c3.1
      have ej := fun k j => impl_texts_J10.eq t l (l.length : Int) (pre.length : Int) (acc ++ [t]) x.1 x.2.1 x.2.2.1 x.2.2.2 k j
      simp only [W, W1, W2, W3, hw2] at ej
      refine Ev2.congr ej (Ev2.bind (do_ev t x hw ht hx.2) (Ev2.bind (tooLong_ev _) ?_))
      by_cases c7 : 65536 < ((done t x).size : Int)
      · have hn : scan t (x :: suf) = none := by simp only [scan]; rw [if_neg (by simp; omega)]
        rw [hn]
        simp only [W1, if_pos c7]; exact Ev2.now _
      · have hsc : scan t (x :: suf) = (scan (done t x) suf).map (t :: ·) := by simp only [scan]; rw [if_pos (by simp [c3, hok]; omega)]
        have a5 : (((acc ++ [t]).length : Int) + (([done t x] : List ByteArray).length : Int)) * 16 < 140737488355328 := by simp; omega
        simp only [W1, if_neg c7, if_pos a5]
        have h := ih (pre ++ [x]) (acc ++ [t]) (done t x) (by rw [hlp]; simp) (by simp; omega) (by omega)
        have er : (match scan (done t x) suf with | some r => ((acc ++ [t]) ++ r, false) | none => ([], true)) = (match scan t (x :: suf) with | some r => (acc ++ r, false) | none => ([], true)) := by
          rw [hsc]
          cases scan (done t x) suf <;> simp
        rw [← er]
        exact h
    · rw [hnone (by simp [c3])]
      have c3' : fitsAt t x = false := by simpa using c3
      simp only [brB_b, c3', Bool.false_eq_true, if_false]
      exact Ev2.now _
theorem texts_ev (b : ByteArray) (l : List T_issi) (d : Int) (hl : l.length ≤ 1048576) (hs : ∀ x ∈ l, Small x) : Ev (fun k => impl_texts k b l d) (textsOf b l d) := by
  refine Ev.step (fun k => impl_texts.eq b l d k) (Ev.opt (tooLong_ev b) ?_)
  unfold textsOf valid
  simp only [W, W1, W2]
  by_cases c1 : 65536 < (b.size : Int)
  · have c1' : ¬ b.size ≤ 65536 := by omega
    simp only [if_pos c1, c1', decide_false, Bool.false_and]; exact Ev.now _
  have c1' : b.size ≤ 65536 := by omega
  simp only [if_neg c1, c1', decide_true, Bool.true_and]
  by_cases c2 : 300 < (l.length : Int)
  · have c2' : ¬ l.length ≤ 300 := by omega
    simp only [if_pos c2, c2', decide_false, Bool.false_and]; exact Ev.now _
  have c2' : l.length ≤ 300 := by omega
  simp only [if_neg c2, c2', decide_true, Bool.true_and]
  by_cases c3 : d < 0
  · have c3' : ¬ 0 ≤ d := by omega
    simp only [if_pos c3, c3', decide_false, Bool.false_and]; exact Ev.now _
  have c3' : 0 ≤ d := by omega
  simp only [if_neg c3, c3', decide_true, Bool.true_and]
  by_cases c4 : (l.length : Int) < d
  · have c4' : ¬ d ≤ (l.length : Int) := by omega
    simp only [if_pos c4, c4', decide_false, Bool.false_and]; exact Ev.now _
  have c4' : d ≤ (l.length : Int) := by omega
  simp only [if_neg c4, c4', decide_true, Bool.true_and]
  have h := (texts_loop l hl hs l [] [] b rfl rfl c1').ev
  cases hsc : scan b l with
  | none => rw [hsc] at h; exact h
  | some r => rw [hsc] at h; exact h
end Go.Proofs.YtkkjkpliiinbjaaDoor.DF
