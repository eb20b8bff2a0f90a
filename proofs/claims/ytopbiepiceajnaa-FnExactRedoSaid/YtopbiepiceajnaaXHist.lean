/-
  Histories, plainly: sizes, copies and comparisons of steps; what the program and the reference make of a history's steps.
-/
import Derived.Test.YtopbiepiceajnaaQx1
import Derived.Test.YtopbiepiceajnaaQx2
import Derived.Test.YtopbiepiceajnaaQx3
import Derived.Test.YtopbiepiceajnaaQx4
import Derived.Test.YtopbiepiceajnaaXPre
namespace Go.Proofs.Ytopbiepiceajnaa.XHist
open Go.RowKit Go.Proofs.Ytopbiepiceajnaa.Q Go.Proofs.YtopbiepiceajnaaW.PrintWords Go.Proofs.Ytopbiepiceajnaa.XPre
set_option linter.unusedVariables false
set_option linter.unusedSimpArgs false

/-! ### sizes -/
def wt (x : S96) : Nat := x.f1.size + x.f2.size
def wts (l : List S96) : Nat := (l.map wt).sum
theorem wts_cons (x : S96) (l : List S96) : wts (x :: l) = wt x + wts l := by simp [wts]
def Small (x : S96) : Prop := x.f1.size ≤ maxLen ∧ x.f2.size ≤ maxLen
theorem szStep (x : S96) (a : Int) (h0 : 0 ≤ a) (h1 : a ≤ 1048576) (hx : Small x) : laws_szStep.f x.f0 x.f1 x.f2 x.f3 a = some (if a < wt x then -1 else a - wt x) := by
  obtain ⟨hx1, hx2⟩ := hx
  simp only [maxLen] at hx1 hx2
  unfold laws_szStep.f wt
  rw [w64 (n := a - (x.f1.size : Int)) (by omega) (by omega)]
  by_cases c : a - (x.f1.size : Int) < 0
  · rw [if_pos c, if_pos (by omega)]
  · rw [if_neg c, w64 (by omega) (by omega)]
    by_cases c2 : a - (x.f1.size : Int) - (x.f2.size : Int) < 0
    · rw [if_pos c2, if_pos (by omega)]
    · rw [if_neg c2, if_neg (by omega)]
      congr 1
      omega
theorem szSteps (l : List S96) (hl : l.length ≤ 1048576) : ∀ (suf pre : List S96) (a : Int), l = pre ++ suf → 0 ≤ a → a ≤ 1048576 → (∀ x ∈ suf, Small x) →
    Ev (fun k => laws_szStepS.l0 k l a (pre.length : Int)) (if a < wts suf then -1 else a - wts suf) := by
  intro suf
  induction suf with
  | nil =>
    intro pre a hlp h0 h1 hs
    subst hlp
    refine Ev.ret fun k => ?_
    simp only [laws_szStepS.l0]
    rw [if_neg (by simp)]
    simp [wts]
    omega
  | cons x suf ih =>
    intro pre a hlp h0 h1 hs
    have hx := szStep x a h0 h1 (hs x (by simp))
    have hle : pre.length + 1 ≤ l.length := by rw [hlp, List.length_append, List.length_cons]; omega
    refine Ev.step (f := fun k => if (if a < wt x then -1 else a - (wt x : Int)) < 0 then some (-1) else laws_szStepS.l0 k l (if a < wt x then -1 else a - (wt x : Int)) ((pre ++ [x]).length : Int)) (fun k => ?_) ?_
    · simp only [laws_szStepS.l0]
      rw [if_pos (by omega), if_pos (by omega), w64 (by omega) (by omega), len_snoc pre x]
      have hr : rd_T96 l (pre.length : Int) = x := by unfold rd_T96; rw [hlp]; exact getD_mid _ _ _ _
      rw [hr, hx]
      rfl
    · rw [wts_cons]
      by_cases c : a < wt x
      · simp only [if_pos c]
        rw [if_pos (by omega)]
        exact Ev.now _
      · simp only [if_neg c]
        have := ih (pre ++ [x]) (a - wt x) (by rw [hlp]; simp) (by omega) (by omega) (fun y hy => hs y (by simp [hy]))
        refine Ev.congr (fun k => if_neg (by omega)) ?_
        have e : (if a - (wt x : Int) < wts suf then (-1 : Int) else a - wt x - wts suf) = if a < ((wt x + wts suf : Nat) : Int) then -1 else a - ((wt x + wts suf : Nat) : Int) := by
          by_cases c2 : a - (wt x : Int) < wts suf
          · rw [if_pos c2, if_pos (by omega)]
          · rw [if_neg c2, if_neg (by omega)]; omega
        rw [← e]
        exact this
/-- What a law asks of its history: all within 2^20. -/
def Fits (b : ByteArray) (l : List S96) : Prop := b.size + l.length + wts l ≤ 1048576
theorem szHist (b : ByteArray) (l : List S96) (d : Int) (hb : b.size ≤ maxLen) (hl : l.length ≤ maxLen) (hs : ∀ x ∈ l, Small x) :
    ∃ r, Ev (fun k => laws_szHistory.f k b l d 1048576) r ∧ (0 ≤ r → Fits b l) := by
  simp only [maxLen] at hb hl
  unfold Fits
  by_cases c : (1048576 : Int) - b.size < 0
  · refine ⟨-1, ⟨0, fun k _ => ?_⟩, by omega⟩
    show laws_szHistory.f k b l d 1048576 = some (-1)
    unfold laws_szHistory.f
    rw [w64 (by omega) (by omega), if_pos c]
  · by_cases c2 : (1048576 : Int) - b.size - l.length < 0
    · refine ⟨-1, ⟨0, fun k _ => ?_⟩, by omega⟩
      show laws_szHistory.f k b l d 1048576 = some (-1)
      unfold laws_szHistory.f laws_szStepS.f
      rw [w64 (n := 1048576 - (b.size : Int)) (by omega) (by omega), if_neg c, w64 (by omega) (by omega), if_pos c2]
      rfl
    · have h := szSteps l (by omega) l [] (1048576 - b.size - l.length) rfl (by omega) (by omega) hs
      obtain ⟨r, hr⟩ : ∃ r : Int, (if (1048576 : Int) - b.size - l.length < wts l then -1 else (1048576 : Int) - b.size - l.length - wts l) = r := ⟨_, rfl⟩
      rw [hr] at h
      refine ⟨r, Ev.call (g := fun k => laws_szStepS.l0 k l (1048576 - b.size - l.length) 0) (f := fun _ t => if t < 0 then some (-1) else some t) (a := r) h (fun k => ?_) ?_, fun h0 => ?_⟩
      · unfold laws_szHistory.f laws_szStepS.f
        rw [w64 (n := 1048576 - (b.size : Int)) (by omega) (by omega), if_neg c, w64 (by omega) (by omega), if_neg c2]
      · by_cases c3 : (1048576 : Int) - b.size - l.length < wts l
        · rw [if_pos c3] at hr
          subst hr
          exact Ev.now _
        · rw [if_neg c3] at hr
          have : ¬ r < 0 := by omega
          simp only [if_neg this]
          exact Ev.now _
      · split at hr <;> omega

/-! ### copies -/
def conv (x : S96) : S68 := ⟨x.f0, x.f1, x.f2, x.f3⟩
theorem wts_mem (l : List S96) : ∀ x ∈ l, wt x ≤ wts l := by
  induction l with
  | nil => intro x hx; cases hx
  | cons y l ih =>
    intro x hx
    rw [wts_cons]
    rcases List.mem_cons.1 hx with rfl | hx
    · omega
    · have := ih x hx; omega
theorem fits_conv (b : ByteArray) (l : List S96) (h : Fits b l) : ∀ x ∈ l.map conv, x.f1.size ≤ 1048576 ∧ x.f2.size ≤ 1048576 := by
  intro x hx
  obtain ⟨y, hy, rfl⟩ := List.mem_map.1 hx
  have := wts_mem l y hy
  unfold Fits at h
  unfold wt at this
  simp only [conv]
  omega
theorem toSteps (l : List S96) (hl : l.length ≤ 1048576) : ∀ (suf pre : List S96), l = pre ++ suf →
    Ev (fun k => laws_toStepS.l0 k l (pre.map conv ++ List.replicate suf.length z68) (pre.length : Int)) (l.map conv) := by
  intro suf
  induction suf with
  | nil =>
    intro pre hlp
    subst hlp
    refine Ev.ret fun k => ?_
    simp only [laws_toStepS.l0]
    rw [if_neg (by simp)]
    simp
  | cons x suf ih =>
    intro pre hlp
    have hle : pre.length + 1 ≤ l.length := by rw [hlp, List.length_append, List.length_cons]; omega
    refine Ev.step (f := fun k => laws_toStepS.l0 k l ((pre ++ [x]).map conv ++ List.replicate suf.length z68) ((pre ++ [x]).length : Int)) (fun k => ?_) (ih (pre ++ [x]) (by rw [hlp]; simp))
    simp only [laws_toStepS.l0]
    have hr : rd_T96 l (pre.length : Int) = x := by unfold rd_T96; rw [hlp]; exact getD_mid _ _ _ _
    rw [if_pos (by omega), if_pos (by omega), w64 (by omega) (by omega), len_snoc pre x, hr]
    simp only [laws_toStep.f, Option.bind_some]
    rw [if_pos (by simp; omega)]
    congr 1
    have := set_mid (pre.map conv) (List.replicate suf.length z68) z68 (conv x)
    rw [List.length_map] at this
    simp only [List.length_cons, List.replicate_succ, List.map_append, List.map_cons, List.map_nil]
    exact this
theorem toHist (b : ByteArray) (l : List S96) (d : Int) (hl : l.length ≤ 1048576) : Ev (fun k => laws_toHistory.f k b l d) (b, l.map conv, d) := by
  have h := toSteps l hl l [] rfl
  refine Ev.call (g := fun k => laws_toStepS.l0 k l (List.replicate l.length z68) 0) (f := fun _ t => some (b, t, d)) h (fun k => ?_) (Ev.now _)
  unfold laws_toHistory.f laws_toStepS.f
  rw [if_pos (by omega), if_pos (by simp; omega)]
  rfl

/-! ### comparisons of what is equal -/
theorem eqSteps (l : List S68) (hl : l.length ≤ 1048576) : ∀ (suf pre : List S68), l = pre ++ suf → Ev (fun k => laws_eqStepS.l0 k l l (pre.length : Int)) true := by
  intro suf
  induction suf with
  | nil =>
    intro pre hlp
    subst hlp
    refine Ev.ret fun k => ?_
    simp only [laws_eqStepS.l0]
    rw [if_neg (by simp)]
  | cons x suf ih =>
    intro pre hlp
    have hle : pre.length + 1 ≤ l.length := by rw [hlp, List.length_append, List.length_cons]; omega
    refine Ev.step (f := fun k => laws_eqStepS.l0 k l l ((pre ++ [x]).length : Int)) (fun k => ?_) (ih (pre ++ [x]) (by rw [hlp]; simp))
    simp only [laws_eqStepS.l0]
    rw [if_pos (by omega), if_pos (by omega), w64 (by omega) (by omega), len_snoc pre x]
    simp [laws_eqStep.f]
    omega
theorem eqHist (b : ByteArray) (l : List S68) (d : Int) (hl : l.length ≤ 1048576) : Ev (fun k => laws_eqHistory.f k b l d b l d) true := by
  have h := eqSteps l hl l [] rfl
  unfold laws_eqHistory.f laws_eqStepS.f
  simp only [if_true]
  refine Ev.bind h ?_
  simp only [if_true]
  exact Ev.now _

/-! ### what a history's texts are -/
def okStep (x : S68) : Bool := decide (x.f1.toList ≠ x.f2.toList) && decide (0 ≤ x.f3) && decide (x.f3 ≤ 1000000)
def within (t : ByteArray) (x : S68) : Bool := decide (0 ≤ x.f0) && decide (x.f0 ≤ t.size) && decide ((x.f1.size : Int) ≤ t.size - x.f0)
def fitsAt (t : ByteArray) (x : S68) : Bool := within t x && decide ((t.extract x.f0.toNat (x.f0.toNat + x.f1.size)).toList = x.f1.toList)
def done (t : ByteArray) (x : S68) : ByteArray := (t.extract 0 x.f0.toNat ++ x.f2) ++ t.extract (x.f0.toNat + x.f1.size) t.size
/-- All texts of the steps, from t on; none: a step can't be done. -/
def scan : ByteArray → List S68 → Option (List ByteArray)
  | t, [] => some [t]
  | t, x :: xs => if fitsAt t x && okStep x && decide ((done t x).size ≤ 65536) then (scan (done t x) xs).map (t :: ·) else none
/-- The text behind them, with no look at the steps' own rules. -/
def run : ByteArray → List S68 → Option ByteArray
  | t, [] => some t
  | t, x :: xs => if fitsAt t x && decide ((done t x).size ≤ 65536) then run (done t x) xs else none
def valid (b : ByteArray) (l : List S68) (d : Int) : Bool := decide (b.size ≤ 65536) && decide (l.length ≤ 300) && decide (0 ≤ d) && decide (d ≤ l.length) && (scan b l).isSome
def textsOf (b : ByteArray) (l : List S68) (d : Int) : List ByteArray := if valid b l d then (scan b l).getD [] else []
def wt68 (x : S68) : Nat := x.f1.size + x.f2.size
def wts68 (l : List S68) : Nat := (l.map wt68).sum
theorem wts_conv (l : List S96) : wts68 (l.map conv) = wts l := by
  simp only [wts68, wts, List.map_map]
  rfl
theorem size_done (t : ByteArray) (x : S68) (h : within t x = true) : (done t x).size + x.f1.size = t.size + x.f2.size := by
  simp [within] at h
  simp [done, ByteArray.size_append, ByteArray.size_extract]
  omega
theorem scan_len (l : List S68) : ∀ (t : ByteArray) (r : List ByteArray), scan t l = some r → r.length = l.length + 1 := by
  induction l with
  | nil => intro t r h; simp [scan] at h; subst h; rfl
  | cons x l ih =>
    intro t r h
    simp only [scan] at h
    split at h
    · obtain ⟨r', h', rfl⟩ := Option.map_eq_some_iff.1 h
      simp [ih _ _ h']
    · cases h
theorem scan_run (l : List S68) : ∀ (t : ByteArray), (scan t l).isSome = ((l.all okStep) && (run t l).isSome) := by
  induction l with
  | nil => intro t; simp [scan, run]
  | cons x l ih =>
    intro t
    simp only [scan, run, List.all_cons]
    by_cases c1 : fitsAt t x = true <;> by_cases c2 : okStep x = true <;> by_cases c3 : (done t x).size ≤ 65536 <;> simp [c1, c2, c3, ih]
theorem scan_at (l : List S68) : ∀ (t : ByteArray) (r : List ByteArray) (n : Nat), scan t l = some r → n ≤ l.length → ∃ u, r[n]? = some u ∧ run t (l.take n) = some u := by
  induction l with
  | nil =>
            intro t r n h hn
            simp [scan] at h
            subst h
            obtain rfl : n = 0 := by simpa using hn
            exact ⟨t, rfl, rfl⟩
  | cons x l ih =>
    intro t r n h hn
    simp only [scan] at h
    split at h
    · rename_i hc
      obtain ⟨r', h', rfl⟩ := Option.map_eq_some_iff.1 h
      cases n with
      | zero => exact ⟨t, rfl, rfl⟩
      | succ n =>
        obtain ⟨u, h1, h2⟩ := ih _ r' n h' (by simpa using hn)
        refine ⟨u, by simpa using h1, ?_⟩
        simp only [List.take_succ_cons, run]
        simp at hc
        rw [if_pos (by simp [hc])]
        exact h2
    · cases h
/-! ### the printed functions -/
theorem Ev.step2 {α : Type} {g f : Nat → Option α} {r : α} (h : ∀ k, g (k + 2) = f k) (k : Ev f r) : Ev g r := Ev.step (f := fun k => g (k + 1)) (fun _ => rfl) (Ev.step (f := f) h k)
theorem ext2 (t : ByteArray) (a n : Nat) (h : a + n ≤ t.size) : ((t.extract a t.size).extract 0 n) = t.extract a (a + n) := by
  rw [ByteArray.extract_extract]
  congr 1
  omega
theorem prefix_at (t : ByteArray) (x : S68) (h0 : 0 ≤ x.f0) (h1 : x.f0 ≤ t.size) : strings_HasPrefix.f (t.extract x.f0.toNat t.size) x.f1 = some (fitsAt t x) := by
  unfold strings_HasPrefix.f stringslite_HasPrefix.f fitsAt within
  have hs : (t.extract x.f0.toNat t.size).size = t.size - x.f0.toNat := by simp [ByteArray.size_extract]
  by_cases c : (x.f1.size : Int) ≤ t.size - x.f0
  · rw [if_pos (by rw [hs]; omega), if_pos (by omega), if_pos (by rw [hs]; omega)]
    have e : ((x.f1.size : Int) : Int).toNat = x.f1.size := by omega
    rw [e, ext2 _ _ _ (by omega)]
    simp only [Option.bind_some, h0, h1, c, decide_true, Bool.and_true, Bool.true_and]
    congr 1
    rw [Bool.eq_iff_iff]
    simp
  · rw [if_neg (by rw [hs]; omega)]
    simp [c]
theorem do_at (t : ByteArray) (x : S68) (h : within t x = true) (ht : t.size ≤ 65536) (hx : x.f2.size ≤ 1048576) : impl_do.f t x.f0 x.f1 x.f2 x.f3 = some (done t x) := by
  have hz := size_done t x h
  simp [within] at h
  unfold impl_do.f
  have e1 : wrap64 (x.f0 + (x.f1.size : Int)) = x.f0 + x.f1.size := w64 (by omega) (by omega)
  have e2 : (x.f0 + (x.f1.size : Int)).toNat = x.f0.toNat + x.f1.size := by omega
  have e3 : (t.extract 0 x.f0.toNat).size + x.f2.size ≤ 9223372036854775807 := by simp [ByteArray.size_extract]; omega
  have e4 : (t.extract 0 x.f0.toNat ++ x.f2).size + (t.extract (x.f0.toNat + x.f1.size) t.size).size ≤ 9223372036854775807 := by simp [ByteArray.size_extract, ByteArray.size_append]; omega
  rw [e1, e2, if_pos (by omega), if_pos (by omega), if_pos e3, if_pos (by omega), if_pos (by omega), if_pos e4]
  rfl
theorem rd68 (l : List S68) (pre suf : List S68) (x : S68) (h : l = pre ++ x :: suf) : rd_T68 l (pre.length : Int) = x := by unfold rd_T68; rw [h]; exact getD_mid _ _ _ _
theorem texts_bad (l : List S68) (acc : List ByteArray) (t : ByteArray) (x : S68) (i : Int) (h0 : 0 ≤ i) (h1 : i < l.length) (hx : rd_T68 l i = x) (h : (fitsAt t x && okStep x) = false) (k : Nat) :
    impl_texts.l0 (k + 2) acc t l (l.length : Int) i = some [] := by
  simp only [impl_texts.l0, hx]
  rw [if_pos h1, if_pos h0, if_pos h1]
  by_cases c1 : x.f0 < 0
  · rw [if_pos c1]; simp [impl_texts.j2]
  rw [if_neg c1]
  by_cases c2 : x.f0 > (t.size : Int)
  · rw [if_pos c2]; simp [impl_texts.j2]
  rw [if_neg c2, if_pos (by omega), if_pos (by omega), prefix_at t x (by omega) (by omega), Option.bind_some]
  by_cases c3 : fitsAt t x = true
  · rw [if_pos c3]
    simp only [c3, Bool.true_and] at h
    by_cases c4 : x.f1.toList = x.f2.toList
    · rw [if_pos c4]; simp [impl_texts.j2]
    rw [if_neg c4]
    by_cases c5 : x.f3 < 0
    · rw [if_pos c5]; simp [impl_texts.j2]
    rw [if_neg c5]
    have c6 : x.f3 > 1000000 := by
      simp [okStep, c4] at h
      omega
    simp [impl_texts.j2, c6]
  · rw [if_neg c3]; simp [impl_texts.j2]
theorem texts_good (l : List S68) (acc : List ByteArray) (t : ByteArray) (x : S68) (i : Int) (h0 : 0 ≤ i) (h1 : i < l.length) (hl : l.length ≤ 1048576) (ha : acc.length ≤ 1048576) (hx : rd_T68 l i = x) (h : fitsAt t x = true) (ho : okStep x = true) (ht : t.size ≤ 65536) (hxs : x.f2.size ≤ 1048576) (k : Nat) :
    impl_texts.l0 (k + 2) acc t l (l.length : Int) i = if (done t x).size ≤ 65536 then impl_texts.l0 k (acc ++ [done t x]) (done t x) l (l.length : Int) (i + 1) else some [] := by
  have hw : within t x = true := by simp [fitsAt] at h; exact h.1
  have hw' := hw
  simp [within] at hw'
  simp [okStep] at ho
  simp only [impl_texts.l0, hx]
  rw [if_pos h1, if_pos h0, if_pos h1, if_neg (by omega), if_neg (by omega), if_pos (by omega), if_pos (by omega), prefix_at t x (by omega) (by omega), Option.bind_some, if_pos h, if_neg ho.1.1, if_neg (by omega)]
  have c6 : decide (x.f3 > 1000000) = false := by simp; omega
  rw [c6]
  simp only [impl_texts.j2, Bool.false_eq_true, if_false]
  rw [do_at t x hw ht hxs, Option.bind_some]
  simp only [impl_long.f, Option.bind_some]
  by_cases c : (done t x).size ≤ 65536
  · rw [if_pos c, if_neg (by simp; omega), if_pos (by omega), w64 (by omega) (by omega)]
  · rw [if_neg c, if_pos (by simp; omega)]
theorem texts_loop (l : List S68) (hl : l.length ≤ 1048576) (hs : ∀ x ∈ l, x.f2.size ≤ 1048576) : ∀ (suf pre : List S68) (acc : List ByteArray) (t : ByteArray), l = pre ++ suf → acc.length = pre.length → t.size ≤ 65536 →
    Ev (fun k => impl_texts.l0 k (acc ++ [t]) t l (l.length : Int) (pre.length : Int)) (match scan t suf with | some r => acc ++ r | none => []) := by
  intro suf
  induction suf with
  | nil =>
    intro pre acc t hlp ha ht
    subst hlp
    refine Ev.ret fun k => ?_
    simp only [impl_texts.l0]
    rw [if_neg (by simp), if_pos (by simp)]
    simp [scan]
  | cons x suf ih =>
    intro pre acc t hlp ha ht
    have hle : pre.length + 1 ≤ l.length := by rw [hlp, List.length_append, List.length_cons]; omega
    have hr := rd68 l pre suf x hlp
    by_cases c : (fitsAt t x && okStep x) = true
    · have c' := c
      simp at c'
      refine Ev.step2 (f := fun k => if (done t x).size ≤ 65536 then impl_texts.l0 k ((acc ++ [t]) ++ [done t x]) (done t x) l (l.length : Int) ((pre ++ [x]).length : Int) else some []) (fun k => ?_) ?_
      · rw [texts_good l (acc ++ [t]) t x (pre.length : Int) (by omega) (by omega) hl (by simp; omega) hr c'.1 c'.2 ht (hs x (by rw [hlp]; simp)) k, len_snoc pre x]
      · by_cases c2 : (done t x).size ≤ 65536
        · have := ih (pre ++ [x]) (acc ++ [t]) (done t x) (by rw [hlp]; simp) (by simp; omega) c2
          refine Ev.congr (fun k => if_pos c2) ?_
          have e : (match scan (done t x) suf with | some r => (acc ++ [t]) ++ r | none => []) = (match scan t (x :: suf) with | some r => acc ++ r | none => []) := by
            simp only [scan, c, c2, decide_true, Bool.and_true, if_true]
            cases scan (done t x) suf <;> simp
          rw [← e]
          exact this
        · refine Ev.congr (fun k => if_neg c2) ?_
          have e : scan t (x :: suf) = none := by simp [scan, c2]
          rw [e]
          exact Ev.now _
    · have c' : (fitsAt t x && okStep x) = false := by simpa using c
      have e : scan t (x :: suf) = none := by simp only [scan, c', Bool.false_and]; rfl
      rw [e]
      exact Ev.step2 (f := fun _ => some []) (fun k => texts_bad l (acc ++ [t]) t x (pre.length : Int) (by omega) (by omega) hr c' k) (Ev.now _)
theorem texts_ev (b : ByteArray) (l : List S68) (d : Int) (hl : l.length ≤ 1048576) (hs : ∀ x ∈ l, x.f2.size ≤ 1048576) : Ev (fun k => impl_texts.f k b l d) (textsOf b l d) := by
  have hbad : Ev (fun k => impl_texts.j0 k true b l d) [] := Ev.ret (fun k => by simp [impl_texts.j0])
  unfold impl_texts.f impl_long.f textsOf valid
  simp only [Option.bind_some]
  by_cases c1 : b.size ≤ 65536
  · by_cases c2 : l.length ≤ 300
    · by_cases c3 : 0 ≤ d
      · by_cases c4 : d ≤ l.length
        · have h := texts_loop l hl hs l [] [] b rfl rfl c1
          refine Ev.congr (g := _) (f := fun k => impl_texts.j0 k false b l d) (fun k => ?_) (Ev.step (f := fun k => impl_texts.l0 k ([] ++ [b]) b l (l.length : Int) (([] : List S68).length : Int)) (fun k => by simp [impl_texts.j0]) ?_)
          · rw [if_neg (by simp; omega), if_neg (by omega), if_neg (by omega)]
            congr 1
            simp; omega
          · simp only [c1, c2, c3, c4, decide_true, Bool.and_true, Bool.true_and]
            cases hsc : scan b l with
            | none => rw [hsc] at h; simpa using h
            | some r => rw [hsc] at h; simpa using h
        · refine Ev.congr (f := fun k => impl_texts.j0 k true b l d) (fun k => ?_) ?_
          · rw [if_neg (by simp; omega), if_neg (by omega), if_neg (by omega)]
            congr 1
            simp; omega
          · simp [c4]; exact hbad
      · refine Ev.congr (f := fun k => impl_texts.j0 k true b l d) (fun k => ?_) ?_
        · rw [if_neg (by simp; omega), if_neg (by omega), if_pos (by omega)]
        · simp [c3]; exact hbad
    · refine Ev.congr (f := fun k => impl_texts.j0 k true b l d) (fun k => ?_) ?_
      · rw [if_neg (by simp; omega), if_pos (by omega)]
      · simp [c2]; exact hbad
  · refine Ev.congr (f := fun k => impl_texts.j0 k true b l d) (fun k => ?_) ?_
    · rw [if_pos (by simp; omega)]
    · simp [c1]; exact hbad

/-! ### the reference -/
theorem put_ev (t : ByteArray) (x : S68) (ht : t.size ≤ 65536) (hx1 : x.f1.size ≤ 1048576) (hx : x.f2.size ≤ 1048576) : spec_l21Put.f t x.f0 x.f1 x.f2 x.f3 = some (if fitsAt t x then (done t x, decide ((done t x).size ≤ 65536)) else (t, false)) := by
  unfold spec_l21Put.f
  have hw : spec_l20Within.f t x.f0 (x.f1.size : Int) = some (within t x) := by
    unfold spec_l20Within.f within
    by_cases c1 : 0 ≤ x.f0
    · by_cases c2 : x.f0 ≤ t.size
      · rw [if_pos c1, if_pos c2, if_pos (by omega), w64 (by omega) (by omega)]
        simp [c1, c2]
      · rw [if_pos c1, if_neg c2]
        simp [c2]
    · rw [if_neg c1]
      simp [c1]
  rw [hw, Option.bind_some]
  by_cases c : within t x = true
  · have hz := size_done t x c
    have c' := c
    simp [within] at c'
    have e1 : wrap64 (x.f0 + (x.f1.size : Int)) = x.f0 + x.f1.size := w64 (by omega) (by omega)
    have e2 : (x.f0 + (x.f1.size : Int)).toNat = x.f0.toNat + x.f1.size := by omega
    have e3 : (t.extract 0 x.f0.toNat).size + x.f2.size ≤ 9223372036854775807 := by simp [ByteArray.size_extract]; omega
    have e4 : (t.extract 0 x.f0.toNat ++ x.f2).size + (t.extract (x.f0.toNat + x.f1.size) t.size).size ≤ 9223372036854775807 := by simp [ByteArray.size_extract, ByteArray.size_append]; omega
    rw [if_pos c, e1, e2, if_pos (by omega), if_pos (by omega), if_pos (by omega)]
    by_cases c2 : (t.extract x.f0.toNat (x.f0.toNat + x.f1.size)).toList = x.f1.toList
    · have hf : fitsAt t x = true := by simp [fitsAt, c, c2]
      rw [if_pos c2, if_pos (by omega), if_pos e3, if_pos (by omega), if_pos e4, if_pos hf]
      simp [done]
      omega
    · have hf : ¬ (fitsAt t x = true) := by simp [fitsAt, c2]
      rw [if_neg c2, if_neg hf]
  · have hf : ¬ (fitsAt t x = true) := by simp [fitsAt]; intro h; exact absurd h c
    rw [if_neg c, if_neg hf]
theorem text_loop (b : ByteArray) (l : List S68) (d : Int) (hl : l.length ≤ 1048576) (hs : ∀ x ∈ l, x.f1.size ≤ 1048576 ∧ x.f2.size ≤ 1048576) : ∀ (suf pre : List S68) (t : ByteArray) (m : Nat), l = pre ++ suf → m ≤ suf.length → t.size ≤ 65536 →
    ∃ t', Ev (fun k => spec_l21Text.l0 k ((pre.length + m : Nat) : Int) t true (pre.length : Int) b l d) (t', (run t (suf.take m)).isSome) ∧ ∀ u, run t (suf.take m) = some u → t' = u := by
  intro suf
  induction suf with
  | nil =>
    intro pre t m hlp hm ht
    obtain rfl : m = 0 := by simpa using hm
    refine ⟨t, Ev.ret fun k => ?_, fun u h => by simpa [run] using h⟩
    simp only [spec_l21Text.l0]
    rw [if_neg (by simp)]
    simp [run]
  | cons x suf ih =>
    intro pre t m hlp hm ht
    cases m with
    | zero =>
      refine ⟨t, Ev.ret fun k => ?_, fun u h => by simpa [run] using h⟩
      simp only [spec_l21Text.l0]
      rw [if_neg (by simp)]
      simp [run]
    | succ m =>
      have hle : pre.length + 1 ≤ l.length := by rw [hlp, List.length_append, List.length_cons]; omega
      have hr := rd68 l pre suf x hlp
      have hx := hs x (by rw [hlp]; simp)
      have hp := put_ev t x ht hx.1 hx.2
      have hstep : ∀ k, spec_l21Text.l0 (k + 1) ((pre.length + (m + 1) : Nat) : Int) t true (pre.length : Int) b l d = spec_l21Text.l0 k ((pre.length + (m + 1) : Nat) : Int) (if fitsAt t x then (done t x, decide ((done t x).size ≤ 65536)) else (t, false)).1 (if fitsAt t x then (done t x, decide ((done t x).size ≤ 65536)) else (t, false)).2 ((pre ++ [x]).length : Int) b l d := by
        intro k
        simp only [spec_l21Text.l0, hr]
        rw [if_pos (by omega), if_pos True.intro, if_pos (by omega), if_pos (by omega), hp, Option.bind_some, w64 (by omega) (by omega), len_snoc pre x]
      have hstop : ∀ (t0 : ByteArray) k, spec_l21Text.l0 (k + 1) ((pre.length + (m + 1) : Nat) : Int) t0 false ((pre ++ [x]).length : Int) b l d = some (t0, false) := by
        intro t0 k
        simp only [spec_l21Text.l0]
        split <;> simp
      by_cases c : fitsAt t x = true
      · by_cases c2 : (done t x).size ≤ 65536
        · obtain ⟨t', h1, h2⟩ := ih (pre ++ [x]) (done t x) m (by rw [hlp]; simp) (by simpa using hm) c2
          refine ⟨t', Ev.step hstep ?_, fun u hu => h2 u ?_⟩
          · simp only [c, c2, if_true, decide_true, List.take_succ_cons, run, Bool.and_true]
            have e : ((pre.length + (m + 1) : Nat) : Int) = (((pre ++ [x]).length + m : Nat) : Int) := by simp; omega
            rw [e]
            exact h1
          · simpa [List.take_succ_cons, run, c, c2] using hu
        · refine ⟨done t x, Ev.step hstep ?_, fun u hu => ?_⟩
          · simp only [c, c2, if_true, decide_false, List.take_succ_cons, run, Bool.and_false]
            exact Ev.ret (hstop _)
          · simp [List.take_succ_cons, run, c2] at hu
      · refine ⟨t, Ev.step hstep ?_, fun u hu => ?_⟩
        · simp only [c, List.take_succ_cons, run]
          exact Ev.ret (hstop _)
        · simp [List.take_succ_cons, run, c] at hu
theorem text_ev (b : ByteArray) (l : List S68) (d : Int) (n : Nat) (hl : l.length ≤ 1048576) (hn : n ≤ l.length) (hs : ∀ x ∈ l, x.f1.size ≤ 1048576 ∧ x.f2.size ≤ 1048576) :
    ∃ t', Ev (fun k => spec_l21Text.f k b l d (n : Int)) (t', decide (b.size ≤ 65536) && (run b (l.take n)).isSome) ∧ ∀ u, b.size ≤ 65536 → run b (l.take n) = some u → t' = u := by
  unfold spec_l21Text.f
  by_cases c : b.size ≤ 65536
  · obtain ⟨t', h1, h2⟩ := text_loop b l d hl hs l [] b n rfl hn c
    refine ⟨t', ?_, fun u _ hu => h2 u hu⟩
    have e : decide ((b.size : Int) ≤ 65536) = true := by simp; omega
    simp only [e, c, decide_true, Bool.true_and]
    simpa using h1
  · refine ⟨b, ?_, fun u hb _ => absurd hb c⟩
    have e : decide ((b.size : Int) ≤ 65536) = false := by simp; omega
    simp only [e, c, decide_false, Bool.false_and]
    refine Ev.ret fun k => ?_
    simp only [spec_l21Text.l0]
    split <;> simp
theorem fault_loop (b : ByteArray) (l : List S68) (d : Int) (hl : l.length ≤ 1048576) (hs : ∀ x ∈ l, x.f1.size ≤ 1048576 ∧ x.f2.size ≤ 1048576) : ∀ (suf pre : List S68), l = pre ++ suf →
    Ev (fun k => spec_HistoryFault.l0 k (pre.length : Int) b l d) (if suf.all okStep && (decide (b.size ≤ 65536) && (run b l).isSome) then (0 : Int) else 1) := by
  intro suf
  induction suf with
  | nil =>
    intro pre hlp
    obtain ⟨t', h1, _⟩ := text_ev b l d l.length hl (Nat.le_refl _) hs
    rw [List.take_length] at h1
    refine Ev.step (f := fun k => (spec_l21Text.f k b l d (l.length : Int)).bind fun bt => if bt.2 = true then some 0 else some 1) (fun k => ?_) ?_
    · simp only [spec_HistoryFault.l0]
      rw [if_neg (by rw [hlp]; simp)]
    · refine Ev.bind (f := fun _ bt => if bt.2 = true then some (0 : Int) else some 1) h1 ?_
      simp only [List.all_nil, Bool.true_and]
      by_cases c : (decide (b.size ≤ 65536) && (run b l).isSome) = true
      · simp only [c, if_true]; exact Ev.now _
      · simp only [c]; exact Ev.now _
  | cons x suf ih =>
    intro pre hlp
    have hle : pre.length + 1 ≤ l.length := by rw [hlp, List.length_append, List.length_cons]; omega
    have hr := rd68 l pre suf x hlp
    have h := ih (pre ++ [x]) (by rw [hlp]; simp)
    refine Ev.step (f := fun k => if okStep x then spec_HistoryFault.l0 k ((pre ++ [x]).length : Int) b l d else some 1) (fun k => ?_) ?_
    · simp only [spec_HistoryFault.l0, hr]
      rw [if_pos (by omega), if_pos (by omega), w64 (by omega) (by omega), len_snoc pre x]
      by_cases c1 : x.f1.toList = x.f2.toList
      · rw [if_pos c1, if_neg (by simp [okStep, c1])]
      · rw [if_neg c1]
        by_cases c2 : x.f3 < 0
        · rw [if_pos c2, if_neg (by simp [okStep]; omega)]
        · rw [if_neg c2]
          by_cases c3 : x.f3 > 1000000
          · rw [if_pos c3, if_neg (by simp [okStep]; omega)]
          · rw [if_neg c3, if_pos (by simp [okStep, c1]; omega)]
    · simp only [List.all_cons]
      by_cases c : okStep x = true
      · simp only [c, if_true, Bool.true_and]; exact h
      · simp only [c, Bool.false_and]; exact Ev.now _
theorem specFault_ev (b : ByteArray) (l : List S68) (d : Int) (hl : l.length ≤ 1048576) (hs : ∀ x ∈ l, x.f1.size ≤ 1048576 ∧ x.f2.size ≤ 1048576) : Ev (fun k => spec_HistoryFault.f k b l d) (if valid b l d then 0 else 1) := by
  have hbad : Ev (fun k => spec_HistoryFault.j0 k true b l d) 1 := Ev.ret (fun k => by simp [spec_HistoryFault.j0])
  unfold spec_HistoryFault.f valid
  by_cases c2 : l.length ≤ 300
  · by_cases c3 : 0 ≤ d
    · by_cases c4 : d ≤ l.length
      · have h := fault_loop b l d hl hs l [] rfl
        refine Ev.congr (f := fun k => spec_HistoryFault.j0 k false b l d) (fun k => ?_) (Ev.step (f := fun k => spec_HistoryFault.l0 k 0 b l d) (fun k => by simp [spec_HistoryFault.j0]) ?_)
        · rw [if_neg (by omega), if_neg (by omega)]
          congr 1
          simp; omega
        · have e : (l.all okStep && (decide (b.size ≤ 65536) && (run b l).isSome)) = (decide (b.size ≤ 65536) && decide (l.length ≤ 300) && decide (0 ≤ d) && decide (d ≤ l.length) && (scan b l).isSome) := by
            rw [scan_run]
            simp only [c2, c3, c4, decide_true, Bool.and_true]
            cases l.all okStep <;> cases decide (b.size ≤ 65536) <;> simp
          rw [← e]
          exact h
      · refine Ev.congr (f := fun k => spec_HistoryFault.j0 k true b l d) (fun k => ?_) ?_
        · rw [if_neg (by omega), if_neg (by omega)]
          congr 1
          simp; omega
        · simp [c4]; exact hbad
    · refine Ev.congr (f := fun k => spec_HistoryFault.j0 k true b l d) (fun k => ?_) ?_
      · rw [if_neg (by omega), if_pos (by omega)]
      · simp [c3]; exact hbad
  · refine Ev.congr (f := fun k => spec_HistoryFault.j0 k true b l d) (fun k => ?_) ?_
    · rw [if_pos (by omega)]
    · simp [c2]; exact hbad
theorem valid_scan (b : ByteArray) (l : List S68) (d : Int) (h : valid b l d = true) : ∃ r, scan b l = some r ∧ textsOf b l d = r ∧ r.length = l.length + 1 ∧ b.size ≤ 65536 ∧ 0 ≤ d ∧ d ≤ l.length ∧ l.length ≤ 300 := by
  have h' := h
  simp only [valid, Bool.and_eq_true, decide_eq_true_eq] at h'
  obtain ⟨r, hr⟩ := Option.isSome_iff_exists.1 h'.2
  exact ⟨r, hr, by simp [textsOf, h, hr], scan_len l b r hr, h'.1.1.1.1, h'.1.1.2, h'.1.2, h'.1.1.1.2⟩
theorem textsOf_nil (b : ByteArray) (l : List S68) (d : Int) : textsOf b l d = [] ↔ valid b l d = false := by
  by_cases h : valid b l d = true
  · obtain ⟨r, _, h1, h2, _⟩ := valid_scan b l d h
    rw [h1, h]
    constructor
    · intro e; rw [e] at h2; simp at h2
    · intro e; cases e
  · simp [textsOf, h]
end Go.Proofs.Ytopbiepiceajnaa.XHist
