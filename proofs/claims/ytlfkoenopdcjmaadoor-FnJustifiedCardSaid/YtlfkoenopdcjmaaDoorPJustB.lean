/- Justified, by both sides. -/
import Derived.Test.YtlfkoenopdcjmaaDoorPJustA
namespace Go.Proofs.YtlfkoenopdcjmaaDoor.JF
open Go.Eng Go.RowKit
set_option linter.unusedVariables false
set_option linter.unusedSimpArgs false
/-- a line with blanks beside its blanks -/
def jl (s : ByteArray) (q r0 : Nat) : Nat → Nat → List Int → ByteArray → ByteArray
  | _, a, [], out => out ++ s.extract a s.size
  | i, a, r :: rs, out => jl s q r0 (i + 1) r.toNat rs (out ++ (s.extract a r.toNat ++ blk (if i < r0 then q + 1 else q)))
def Up (n : Nat) : Nat → List Int → Prop
  | a, [] => a ≤ n
  | a, r :: rs => 0 ≤ r ∧ a ≤ r.toNat ∧ r.toNat ≤ n ∧ Up n r.toNat rs
theorem gaps_up (s : ByteArray) : ∀ m i a, a ≤ i → a ≤ s.size → m ≤ s.size - i → Up s.size a (gapsFrom s m i) := by
  intro m
  induction m with
  | zero => intro i a h1 h2 h3; exact h2
  | succ m ih =>
    intro i a h1 h2 h3
    unfold gapsFrom
    split
    · refine ⟨by omega, by rw [Int.toNat_natCast]; exact h1, by rw [Int.toNat_natCast]; omega, ?_⟩
      rw [Int.toNat_natCast]
      exact ih (i + 1) i (by omega) (by omega) (by omega)
    · exact ih (i + 1) a (by omega) h2 (by omega)
theorem gapsFrom_len (s : ByteArray) : ∀ m i, (gapsFrom s m i).length ≤ m := by
  intro m
  induction m with
  | zero => intro i; exact Nat.le_refl _
  | succ m ih =>
    intro i
    have := ih (i + 1)
    unfold gapsFrom
    split
    · simp only [List.length_cons]; omega
    · omega
theorem gaps_len (s : ByteArray) : (gaps s).length ≤ s.size := by
  have := gapsFrom_len s (s.size - 1) 1
  unfold gaps
  omega
theorem jl_size (s : ByteArray) (q r0 : Nat) : ∀ (rs : List Int) (i a : Nat) (out : ByteArray), Up s.size a rs → (jl s q r0 i a rs out).size ≤ out.size + (s.size - a) + rs.length * (q + 1) := by
  intro rs
  induction rs with
  | nil =>
    intro i a out h
    show (out ++ s.extract a s.size).size ≤ _
    rw [ByteArray.size_append, ByteArray.size_extract]
    omega
  | cons r rs ih =>
    intro i a out h
    obtain ⟨h1, h2, h3, h4⟩ := h
    have := ih (i + 1) r.toNat (out ++ (s.extract a r.toNat ++ blk (if i < r0 then q + 1 else q))) h4
    rw [ByteArray.size_append, ByteArray.size_append, ByteArray.size_extract, blk_size] at this
    show (jl s q r0 (i + 1) r.toNat rs _).size ≤ _
    have hb : (if i < r0 then q + 1 else q) ≤ q + 1 := by split <;> omega
    rw [List.length_cons, Nat.succ_mul]
    omega
theorem ext_join (s : ByteArray) (a b c : Nat) (h1 : a ≤ b) (h2 : b ≤ c) : s.extract a b ++ s.extract b c = s.extract a c := by
  apply ByteArray.ext
  simp only [ByteArray.data_append, ByteArray.data_extract, Array.extract_append_extract]
  rw [Nat.min_eq_left h1, Nat.max_eq_right h2]
theorem jl_zero (s : ByteArray) : ∀ (rs : List Int) (i a : Nat) (out : ByteArray), Up s.size a rs → jl s 0 0 i a rs out = out ++ s.extract a s.size := by
  intro rs
  induction rs with
  | nil => intro i a out h; rfl
  | cons r rs ih =>
    intro i a out h
    obtain ⟨h1, h2, h3, h4⟩ := h
    show jl s 0 0 (i + 1) r.toNat rs _ = _
    rw [ih _ _ _ h4, if_neg (Nat.not_lt_zero i), blk_zero, ByteArray.append_empty, ByteArray.append_assoc, ext_join s a r.toNat s.size h2 h3]
theorem short_ev (s : ByteArray) (h : s.size ≤ 65536) : Ev (fun k => impl_short k s) s := by
  have e := fun k => impl_short.eq s k
  have eL := fun k => impl_long.eq s k
  simp only [W, W1, W3] at e eL
  have hL : Ev (fun k => impl_long k s) (decide ((65536 : Int) < (s.size : Int))) := Ev.ret eL
  refine Ev.step e (Ev.bind hL ?_)
  simp only [decide_eq_false (show ¬ (65536 : Int) < (s.size : Int) by omega), W1]
  exact Ev.now _
section
variable (s : ByteArray) (rows : List Int) (extra q r0 : Nat) (hs : s.size ≤ 65536) (hl : rows.length ≤ 65536) (hq : q ≤ 1000)
  (hrem : remI (extra : Int) (rows.length : Int) = (r0 : Int)) (hquo : quoI .i64 (extra : Int) (rows.length : Int) = (q : Int))
include hs hl hq hrem hquo
theorem impl_just_loop : ∀ (suf pre : List Int) (a : Nat) (out : ByteArray), rows = pre ++ suf → Up s.size a suf → out.size ≤ a + pre.length * (q + 1) → (jl s q r0 pre.length a suf out).size ≤ 65536 →
    Ev2 (fun k j => impl_Justified_L19'1 k j s (extra : Int) (a : Int) (rows.length : Int) (pre.length : Int) rows out) (jl s q r0 pre.length a suf out) := by
  have hbig : rows.length * (q + 1) ≤ 65536 * 1001 := Nat.mul_le_mul hl (by omega)
  intro suf
  induction suf with
  | nil =>
    intro pre a out hp hu ho hz
    have hpl : pre.length = rows.length := by rw [hp]; simp
    have e := fun k j => impl_Justified_L19'1.eq s (extra : Int) (a : Int) (rows.length : Int) (pre.length : Int) rows out k j
    have hu' : a ≤ s.size := hu
    have hx : (s.extract a s.size).size = s.size - a := by rw [ByteArray.size_extract]; omega
    rw [hpl] at ho
    simp only [W, W1, W3, hx, Int.toNat_natCast, if_neg (show ¬ (pre.length : Int) < (rows.length : Int) by omega), if_pos (nat_ge a), if_pos (show (a : Int) ≤ (s.size : Int) by omega), if_pos (show (out.size : Int) + ((s.size - a : Nat) : Int) ≤ 140737488355328 by omega)] at e
    exact Ev2.step e (Ev2.bind (short_ev _ hz) (Ev2.now _))
  | cons r suf ih =>
    intro pre a out hp hu ho hz
    obtain ⟨h1, h2, h3, h4⟩ := hu
    obtain ⟨r, rfl⟩ := Int.eq_ofNat_of_zero_le h1
    rw [Int.toNat_natCast] at h2 h3 h4
    have hle : pre.length + 1 ≤ rows.length := by rw [hp, List.length_append, List.length_cons]; omega
    have hmul : pre.length * (q + 1) ≤ rows.length * (q + 1) := Nat.mul_le_mul_right _ (by omega)
    have hr : rd rows (pre.length : Int) 0 = (r : Int) := by rw [hp]; exact rd_mid pre suf (r : Int) 0
    have hx : (s.extract a r).size = r - a := by rw [ByteArray.size_extract]; omega
    have e := fun k j => impl_Justified_L19'1.eq s (extra : Int) (a : Int) (rows.length : Int) (pre.length : Int) rows out k j
    simp only [impl_Justified_J24.eq] at e
    have hq1 : addI .i64 (q : Int) 1 = ((q + 1 : Nat) : Int) := by rw [addI_i64 (by omega) (by omega)]; omega
    simp only [W, W1, W2, W3, hr, hrem, hquo, hq1, Int.toNat_natCast, if_pos (nat_ge pre.length), if_pos (show (pre.length : Int) < (rows.length : Int) by omega), if_neg (show ¬ (rows.length : Int) = 0 by omega), if_pos (nat_ge a), if_pos (show (a : Int) ≤ (r : Int) by omega), if_pos (show (r : Int) ≤ (s.size : Int) by omega), next_i pre (r : Int) (by omega)] at e
    have hn : (pre ++ [(r : Int)]).length = pre.length + 1 := by simp
    have hjl : ∀ x, jl s q r0 pre.length a ((r : Int) :: suf) out = x ↔ jl s q r0 (pre.length + 1) r suf (out ++ (s.extract a r ++ blk (if pre.length < r0 then q + 1 else q))) = x := fun x => by
      rw [show jl s q r0 pre.length a ((r : Int) :: suf) out = jl s q r0 (pre.length + 1) ((r : Int)).toNat suf (out ++ (s.extract a ((r : Int)).toNat ++ blk (if pre.length < r0 then q + 1 else q))) from rfl, Int.toNat_natCast]
    have hj := (hjl _).1 rfl
    rw [← hj] at hz ⊢
    refine Ev2.step e ?_
    by_cases c : pre.length < r0
    · simp only [if_pos (show (pre.length : Int) < (r0 : Int) by omega)]
      rw [if_pos c] at hz ⊢
      have ho2 : (out ++ (s.extract a r ++ blk (q + 1))).size ≤ r + (pre ++ [(r : Int)]).length * (q + 1) := by
        rw [hn, Nat.succ_mul, ByteArray.size_append, ByteArray.size_append, hx, blk_size]; omega
      have hmul2 : (pre ++ [(r : Int)]).length * (q + 1) ≤ rows.length * (q + 1) := Nat.mul_le_mul_right _ (by rw [hn]; omega)
      have hbs : (s.extract a r ++ blk (q + 1)).size = r - a + (q + 1) := by rw [ByteArray.size_append, hx, blk_size]
      have h := ih (pre ++ [(r : Int)]) r (out ++ (s.extract a r ++ blk (q + 1))) (by rw [hp]; simp) h4 ho2 (by rw [hn]; exact hz)
      rw [ByteArray.size_append, hbs] at ho2
      refine Ev2.bind (repeat_ev (q + 1) (by omega)) ?_
      simp only [hx, hbs, blk_size, if_pos (show ((r - a : Nat) : Int) + ((q + 1 : Nat) : Int) ≤ 9223372036854775807 by omega), if_pos (show (out.size : Int) + ((r - a + (q + 1) : Nat) : Int) ≤ 140737488355328 by omega)]
      rw [hn] at h
      rw [hn]
      exact h
    · simp only [if_neg (show ¬ (pre.length : Int) < (r0 : Int) by omega)]
      rw [if_neg c] at hz ⊢
      have ho2 : (out ++ (s.extract a r ++ blk q)).size ≤ r + (pre ++ [(r : Int)]).length * (q + 1) := by
        rw [hn, Nat.succ_mul, ByteArray.size_append, ByteArray.size_append, hx, blk_size]; omega
      have hmul2 : (pre ++ [(r : Int)]).length * (q + 1) ≤ rows.length * (q + 1) := Nat.mul_le_mul_right _ (by rw [hn]; omega)
      have hbs : (s.extract a r ++ blk q).size = r - a + q := by rw [ByteArray.size_append, hx, blk_size]
      have h := ih (pre ++ [(r : Int)]) r (out ++ (s.extract a r ++ blk q)) (by rw [hp]; simp) h4 ho2 (by rw [hn]; exact hz)
      rw [ByteArray.size_append, hbs] at ho2
      refine Ev2.bind (repeat_ev q (by omega)) ?_
      simp only [hx, hbs, blk_size, if_pos (show ((r - a : Nat) : Int) + (q : Int) ≤ 9223372036854775807 by omega), if_pos (show (out.size : Int) + ((r - a + q : Nat) : Int) ≤ 140737488355328 by omega)]
      rw [hn] at h
      rw [hn]
      exact h
theorem spec_just_loop : ∀ (suf pre : List Int) (a : Nat) (out : ByteArray), rows = pre ++ suf → Up s.size a suf → out.size ≤ a + pre.length * (q + 1) →
    Ev2 (fun k j => spec_Justified_L12 k j s (extra : Int) (rows.length : Int) out (a : Int) (pre.length : Int) rows) (jl s q r0 pre.length a suf out) := by
  have hbig : rows.length * (q + 1) ≤ 65536 * 1001 := Nat.mul_le_mul hl (by omega)
  intro suf
  induction suf with
  | nil =>
    intro pre a out hp hu ho
    have hpl : pre.length = rows.length := by rw [hp]; simp
    have e := fun k j => spec_Justified_L12.eq s (extra : Int) (rows.length : Int) out (a : Int) (pre.length : Int) rows k j
    have hu' : a ≤ s.size := hu
    have hx : (s.extract a s.size).size = s.size - a := by rw [ByteArray.size_extract]; omega
    rw [hpl] at ho
    simp only [W, W1, W3, hx, Int.toNat_natCast, if_neg (show ¬ (pre.length : Int) < (rows.length : Int) by omega), if_pos (nat_ge a), if_pos (show (a : Int) ≤ (s.size : Int) by omega), if_pos (show (out.size : Int) + ((s.size - a : Nat) : Int) ≤ 9223372036854775807 by omega)] at e
    exact Ev2.ret e
  | cons r suf ih =>
    intro pre a out hp hu ho
    obtain ⟨h1, h2, h3, h4⟩ := hu
    obtain ⟨r, rfl⟩ := Int.eq_ofNat_of_zero_le h1
    rw [Int.toNat_natCast] at h2 h3 h4
    have hle : pre.length + 1 ≤ rows.length := by rw [hp, List.length_append, List.length_cons]; omega
    have hmul : pre.length * (q + 1) ≤ rows.length * (q + 1) := Nat.mul_le_mul_right _ (by omega)
    have hr : rd rows (pre.length : Int) 0 = (r : Int) := by rw [hp]; exact rd_mid pre suf (r : Int) 0
    have hx : (s.extract a r).size = r - a := by rw [ByteArray.size_extract]; omega
    have e := fun k j => spec_Justified_L12.eq s (extra : Int) (rows.length : Int) out (a : Int) (pre.length : Int) rows k j
    simp only [spec_Justified_J18.eq] at e
    have hq1 : addI .i64 (q : Int) 1 = ((q + 1 : Nat) : Int) := by rw [addI_i64 (by omega) (by omega)]; omega
    have hos : (out ++ s.extract a r).size = out.size + (r - a) := by rw [ByteArray.size_append, hx]
    simp only [W, W1, W2, W3, hr, hrem, hquo, hq1, hx, hos, Int.toNat_natCast, if_pos (nat_ge pre.length), if_pos (show (pre.length : Int) < (rows.length : Int) by omega), if_neg (show ¬ (rows.length : Int) = 0 by omega), if_pos (nat_ge a), if_pos (show (a : Int) ≤ (r : Int) by omega), if_pos (show (r : Int) ≤ (s.size : Int) by omega), if_pos (show (out.size : Int) + ((r - a : Nat) : Int) ≤ 9223372036854775807 by omega), next_i pre (r : Int) (by omega)] at e
    have hn : (pre ++ [(r : Int)]).length = pre.length + 1 := by simp
    have hj : jl s q r0 pre.length a ((r : Int) :: suf) out = jl s q r0 (pre.length + 1) r suf (out ++ s.extract a r ++ blk (if pre.length < r0 then q + 1 else q)) := by
      rw [ByteArray.append_assoc]
      show jl s q r0 (pre.length + 1) ((r : Int)).toNat suf (out ++ (s.extract a ((r : Int)).toNat ++ blk (if pre.length < r0 then q + 1 else q))) = _
      rw [Int.toNat_natCast]
    rw [hj]
    refine Ev2.step e ?_
    by_cases c : pre.length < r0
    · simp only [if_pos (show (pre.length : Int) < (r0 : Int) by omega)]
      rw [if_pos c]
      have ho2 : (out ++ s.extract a r ++ blk (q + 1)).size ≤ r + (pre ++ [(r : Int)]).length * (q + 1) := by
        rw [hn, Nat.succ_mul, ByteArray.size_append, ByteArray.size_append, hx, blk_size]; omega
      have h := ih (pre ++ [(r : Int)]) r (out ++ s.extract a r ++ blk (q + 1)) (by rw [hp]; simp) h4 ho2
      refine Ev2.bind (blanks_ev (q + 1) (by omega)) ?_
      simp only [blk_size, if_pos (show ((out.size + (r - a) : Nat) : Int) + ((q + 1 : Nat) : Int) ≤ 9223372036854775807 by omega)]
      rw [hn] at h
      rw [hn]
      exact h
    · simp only [if_neg (show ¬ (pre.length : Int) < (r0 : Int) by omega)]
      rw [if_neg c]
      have ho2 : (out ++ s.extract a r ++ blk q).size ≤ r + (pre ++ [(r : Int)]).length * (q + 1) := by
        rw [hn, Nat.succ_mul, ByteArray.size_append, ByteArray.size_append, hx, blk_size]; omega
      have h := ih (pre ++ [(r : Int)]) r (out ++ s.extract a r ++ blk q) (by rw [hp]; simp) h4 ho2
      refine Ev2.bind (blanks_ev q (by omega)) ?_
      simp only [blk_size, if_pos (show ((out.size + (r - a) : Nat) : Int) + (q : Int) ≤ 9223372036854775807 by omega)]
      rw [hn] at h
      rw [hn]
      exact h
end
/-! ### the places, by the program -/
theorem rows_loop2 (s : ByteArray) (hs : s.size ≤ 65536) (width wd : Int) (e : Nat) (he : e ≤ s.size) (r : ByteArray) : ∀ (m i : Nat) (rows : List Int), m = e - i → 1 ≤ i → i ≤ 65537 → rows.length ≤ i → rows ≠ [] →
    Ev (fun k => impl_Justified_L19'1 k k s (subI .i64 width wd) 0 ((rows ++ gapsFrom s m i).length : Int) 0 (rows ++ gapsFrom s m i) (bs [])) r → Ev2 (fun k j => impl_Justified_L9'1 k j s width wd (e : Int) (i : Int) rows) r := by
  intro m
  induction m with
  | zero =>
    intro i rows hm hi hi2 hr hne hf
    have e1 := fun k j => impl_Justified_L9'1.eq s width wd (e : Int) (i : Int) rows k j
    have hlen : ¬ (rows.length : Int) = 0 := by
      intro h
      exact hne (List.length_eq_zero_iff.1 (by omega))
    simp only [W, W1, W2, if_neg (show ¬ (i : Int) < (e : Int) by omega), if_neg hlen] at e1
    rw [show gapsFrom s 0 i = [] from rfl, List.append_nil] at hf
    exact Ev2.step e1 hf.two
  | succ m ih =>
    intro i rows hm hi hi2 hr hne hf
    have e1 := fun k j => impl_Justified_L9'1.eq s width wd (e : Int) (i : Int) rows k j
    have hsub : subI .i64 (i : Int) 1 = ((i - 1 : Nat) : Int) := by rw [subI_i64 (by omega) (by omega)]; omega
    have hadd : addI .i64 (i : Int) 1 = ((i + 1 : Nat) : Int) := by rw [addI_i64 (by omega) (by omega)]; omega
    simp only [W, W1, W2, W3, hsub, hadd, bt_B, Int.toNat_natCast, Int.toNat_zero, List.length_cons, List.length_nil, if_pos (show (i : Int) < (e : Int) by omega), if_pos (nat_ge (i - 1)), if_pos (show ((i - 1 : Nat) : Int) < (s.size : Int) by omega), if_pos (show (i : Int) < (s.size : Int) by omega), if_pos (show (i : Int) ≤ (s.size : Int) by omega), if_pos (nat_ge i), if_pos (show ((rows.length : Int) + ((0 + 1 : Nat) : Int)) * 8 < 140737488355328 by omega)] at e1
    unfold gapsFrom at hf
    by_cases c : B s (i - 1) = 32
    · simp only [if_pos (show (B s (i - 1) : Int) = 32 by omega)] at e1
      by_cases d : B s i = 32
      · simp only [if_pos (show (B s i : Int) = 32 by omega)] at e1
        rw [show gp s i = false by unfold gp; rw [decide_eq_false (fun h => h.2 d)]; rfl] at hf
        exact Ev2.step e1 (ih (i + 1) rows (by omega) (by omega) (by omega) (by omega) hne hf)
      · simp only [if_neg (show ¬ (B s i : Int) = 32 by omega)] at e1
        have hg : gp s i = nb s i := by unfold gp; rw [decide_eq_true ⟨c, d⟩]; rfl
        rw [hg] at hf
        obtain ⟨v, hv, hvn⟩ := trim_ev s i (by omega) (by omega)
        refine Ev2.step e1 (Ev2.bind hv ?_)
        cases hnb : nb s i with
        | true =>
          have hvn' : ¬ v = bs [] := fun h => by rw [hvn.1 h] at hnb; cases hnb
          simp only [if_neg hvn']
          rw [hnb] at hf
          refine ih (i + 1) (rows ++ [(i : Int)]) (by omega) (by omega) (by omega) (by simp; omega) (by simp) ?_
          rw [List.append_assoc]
          exact hf
        | false =>
          simp only [if_pos (hvn.2 hnb)]
          rw [hnb] at hf
          exact ih (i + 1) rows (by omega) (by omega) (by omega) (by omega) hne hf
    · simp only [if_neg (show ¬ (B s (i - 1) : Int) = 32 by omega)] at e1
      rw [show gp s i = false by unfold gp; rw [decide_eq_false (fun h => c h.1)]; rfl] at hf
      exact Ev2.step e1 (ih (i + 1) rows (by omega) (by omega) (by omega) (by omega) hne hf)
theorem rows_loop1 (s : ByteArray) (hs : s.size ≤ 65536) (width wd : Int) (e : Nat) (he : e ≤ s.size) (r : ByteArray) : ∀ (m i : Nat), m = e - i → 1 ≤ i → i ≤ 65537 →
    (gapsFrom s m i ≠ [] → Ev (fun k => impl_Justified_L19'1 k k s (subI .i64 width wd) 0 ((gapsFrom s m i).length : Int) 0 (gapsFrom s m i) (bs [])) r) → Ev2 (fun k j => impl_Justified_L9 k j s width wd (e : Int) (i : Int)) (if gapsFrom s m i = [] then s else r) := by
  intro m
  induction m with
  | zero =>
    intro i hm hi hi2 hf
    have e1 := fun k j => impl_Justified_L9.eq s width wd (e : Int) (i : Int) k j
    simp only [W, W1, W2, if_neg (show ¬ (i : Int) < (e : Int) by omega), if_true] at e1
    rw [show gapsFrom s 0 i = [] from rfl, if_pos rfl]
    exact Ev2.ret e1
  | succ m ih =>
    intro i hm hi hi2 hf
    have e1 := fun k j => impl_Justified_L9.eq s width wd (e : Int) (i : Int) k j
    have hsub : subI .i64 (i : Int) 1 = ((i - 1 : Nat) : Int) := by rw [subI_i64 (by omega) (by omega)]; omega
    have hadd : addI .i64 (i : Int) 1 = ((i + 1 : Nat) : Int) := by rw [addI_i64 (by omega) (by omega)]; omega
    simp only [W, W1, W2, W3, hsub, hadd, bt_B, Int.toNat_natCast, Int.toNat_zero, List.length_cons, List.length_nil, List.nil_append, if_pos (show (i : Int) < (e : Int) by omega), if_pos (nat_ge (i - 1)), if_pos (show ((i - 1 : Nat) : Int) < (s.size : Int) by omega), if_pos (show (i : Int) < (s.size : Int) by omega), if_pos (show (i : Int) ≤ (s.size : Int) by omega), if_pos (nat_ge i), if_pos (show (((0 : Nat) : Int) + ((0 + 1 : Nat) : Int)) * 8 < 140737488355328 by omega)] at e1
    unfold gapsFrom at hf ⊢
    by_cases c : B s (i - 1) = 32
    · simp only [if_pos (show (B s (i - 1) : Int) = 32 by omega)] at e1
      by_cases d : B s i = 32
      · simp only [if_pos (show (B s i : Int) = 32 by omega)] at e1
        rw [show gp s i = false by unfold gp; rw [decide_eq_false (fun h => h.2 d)]; rfl] at hf ⊢
        exact Ev2.step e1 (ih (i + 1) (by omega) (by omega) (by omega) hf)
      · simp only [if_neg (show ¬ (B s i : Int) = 32 by omega)] at e1
        have hg : gp s i = nb s i := by unfold gp; rw [decide_eq_true ⟨c, d⟩]; rfl
        rw [hg] at hf ⊢
        obtain ⟨v, hv, hvn⟩ := trim_ev s i (by omega) (by omega)
        refine Ev2.step e1 (Ev2.bind hv ?_)
        cases hnb : nb s i with
        | true =>
          have hvn' : ¬ v = bs [] := fun h => by rw [hvn.1 h] at hnb; cases hnb
          simp only [if_neg hvn']
          rw [hnb] at hf
          rw [if_neg (show ¬ (if True then (i : Int) :: gapsFrom s m (i + 1) else gapsFrom s m (i + 1)) = [] by simp)]
          exact rows_loop2 s hs width wd e he r m (i + 1) [(i : Int)] (by omega) (by omega) (by omega) (by simp) (by simp) (hf (by simp))
        | false =>
          simp only [if_pos (hvn.2 hnb)]
          rw [hnb] at hf
          exact ih (i + 1) (by omega) (by omega) (by omega) hf
    · simp only [if_neg (show ¬ (B s (i - 1) : Int) = 32 by omega)] at e1
      rw [show gp s i = false by unfold gp; rw [decide_eq_false (fun h => c h.1)]; rfl] at hf ⊢
      exact Ev2.step e1 (ih (i + 1) (by omega) (by omega) (by omega) hf)
end Go.Proofs.YtlfkoenopdcjmaaDoor.JF
