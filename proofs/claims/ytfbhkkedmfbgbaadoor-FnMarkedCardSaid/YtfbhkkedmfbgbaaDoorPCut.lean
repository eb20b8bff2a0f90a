/- Line ends of a text, and where a long text is cut, plainly. -/
import Derived.Test.YtfbhkkedmfbgbaaDoorPRead
namespace Go.Proofs.YtfbhkkedmfbgbaaDoor.PM
open Go.Eng Go.RowKit
set_option linter.unusedVariables false
set_option linter.unusedSimpArgs false
theorem count_ev (s : ByteArray) : Ev (fun k => internal_bytealg_CountString k s 10) ((Lib.countByte s.data.toList 10 : Nat) : Int) := by
  refine Ev.ret fun k => ?_
  have : internal_bytealg_CountString (k + 1) s 10 = some ((Lib.countByte s.data.toList (10 : Int).toNat.toUInt8 : Nat) : Int) := by kernel_rfl
  exact this
def ends (t : ByteArray) : Nat := Lib.countByte t.data.toList 10
theorem ends_loop (t : ByteArray) (ht : t.size ≤ 1048576) : ∀ m i n : Nat, i + m = t.size → n ≤ i → Ev2 (fun k j => spec_l20Ends_L3 k j t (n : Int) (i : Int)) ((n + Lib.countByte (t.data.toList.drop i) 10 : Nat) : Int) := by
  intro m
  induction m with
  | zero =>
    intro i n hi hn
    refine Ev2.ret fun k j => ?_
    simp only [spec_l20Ends_L3.eq, W, W1]
    rw [if_neg (by omega), List.drop_eq_nil_of_le (by rw [show t.data.toList.length = t.size from rfl]; omega)]
    rfl
  | succ m ih =>
    intro i n hi hn
    have e := fun k j => spec_l20Ends_L3.eq t (n : Int) (i : Int) k j
    have c1 : (i : Int) < (t.size : Int) := by omega
    have c2 : (0 : Int) ≤ (i : Int) := by omega
    have hi2 : addI .i64 (i : Int) 1 = ((i + 1 : Nat) : Int) := by rw [addI_i64 (by omega) (by omega)]; omega
    have hn2 : addI .i64 (n : Int) 1 = ((n + 1 : Nat) : Int) := by rw [addI_i64 (by omega) (by omega)]; omega
    simp only [W, W1, bt_B, hi2, hn2, if_pos c1, if_pos c2] at e
    have hl : i < t.data.toList.length := by rw [show t.data.toList.length = t.size from rfl]; omega
    have hd := List.drop_eq_getElem_cons hl
    have hB : B t i = (t.data.toList[i]'hl).toNat := by unfold B; rw [List.getD_eq_getElem?_getD, List.getElem?_eq_getElem hl]; rfl
    refine Ev2.step e ?_
    by_cases c : B t i = 10
    · have hx : (t.data.toList[i]'hl) = 10 := UInt8.toNat_inj.1 (by rw [← hB, c]; rfl)
      have := ih (i + 1) (n + 1) (by omega) (by omega)
      simp only [if_pos (show ((B t i : Nat) : Int) = 10 by omega)]
      rw [hd, hx]
      unfold Lib.countByte at this ⊢
      rw [List.count_cons_self, show n + (List.count 10 (List.drop (i + 1) t.data.toList) + 1) = n + 1 + List.count 10 (List.drop (i + 1) t.data.toList) by omega]
      exact this
    · have hx : (t.data.toList[i]'hl) ≠ 10 := fun h => c (by rw [hB, h]; rfl)
      have := ih (i + 1) n (by omega) (by omega)
      simp only [if_neg (show ¬ ((B t i : Nat) : Int) = 10 by omega)]
      rw [hd]
      unfold Lib.countByte at this ⊢
      rw [List.count_cons_of_ne hx]
      exact this
theorem ends_ev (t : ByteArray) (ht : t.size ≤ 1048576) : Ev (fun k => spec_l20Ends k t) ((ends t : Nat) : Int) := by
  have h := ends_loop t ht t.size 0 0 (by omega) (by omega)
  rw [List.drop_zero, Nat.zero_add] at h
  exact Ev.step (fun k => spec_l20Ends.eq t k) h.ev
theorem sum_ev (t : ByteArray) : Ev (fun k => strings_Count k t (bs [10])) ((ends t : Nat) : Int) := by
  have e := fun k => strings_Count.eq t (bs [10]) k
  have h1 : ((bs [10]).size : Int) = 1 := rfl
  have h2 : bt (bs [10]) 0 = 10 := by rw [show (0 : Int) = ((0 : Nat) : Int) from rfl, bt_nat]; rfl
  have z1 : ¬ ((1 : Int) = 0) := by omega
  have z2 : (0 : Int) ≤ 0 := by omega
  have z3 : (0 : Int) < 1 := by omega
  have z4 : (1 : Int) = 1 := rfl
  simp only [W, W1, W3, h1, h2, if_neg z1, if_pos z2, if_pos z3, if_true] at e
  exact Ev.step e (Ev.bind (count_ev t) (Ev.now _))
/-! ### the cut -/
def cutF (t : ByteArray) (most : Nat) : Nat → Nat → Nat → Nat
  | 0, a, _ => a
  | m + 1, a, i => if i ≤ most then cutF t most m i (i + (Utf8.decode t i).2) else a
def cut (t : ByteArray) : Nat := cutF t ((t.size + 1) / 2) ((t.size + 1) / 2 + 1) 0 0
theorem dec_le4 (t : ByteArray) (i : Nat) : (Utf8.decode t i).2 ≤ 4 := by
  rw [Lib.decode_at]
  unfold Lib.decodeN
  repeat' split
  all_goals simp
theorem cutF_bounds (t : ByteArray) (most : Nat) : ∀ m a i : Nat, a ≤ i → a ≤ cutF t most m a i ∧ (a ≤ most → cutF t most m a i ≤ most) := by
  intro m
  induction m with
  | zero => intro a i h; exact ⟨Nat.le_refl _, fun h => h⟩
  | succ m ih =>
    intro a i h
    unfold cutF
    by_cases c : i ≤ most
    · rw [if_pos c]
      have := ih i (i + (Utf8.decode t i).2) (by omega)
      exact ⟨by omega, fun _ => this.2 c⟩
    · rw [if_neg c]; exact ⟨Nat.le_refl _, fun h => h⟩
theorem cut_bounds (t : ByteArray) (h : 64 < t.size) : 0 < cut t ∧ cut t < t.size := by
  have w1 := Lib.width_pos t 0
  have w4 := dec_le4 t 0
  have h2 : cut t = cutF t ((t.size + 1) / 2) ((t.size + 1) / 2 - 1) (Utf8.decode t 0).2 ((Utf8.decode t 0).2 + (Utf8.decode t (Utf8.decode t 0).2).2) := by
    unfold cut
    rw [cutF, if_pos (by omega), show (t.size + 1) / 2 = (t.size + 1) / 2 - 1 + 1 by omega, cutF, Nat.zero_add, if_pos (by omega)]
    rfl
  rw [h2]
  have := cutF_bounds t ((t.size + 1) / 2) ((t.size + 1) / 2 - 1) (Utf8.decode t 0).2 ((Utf8.decode t 0).2 + (Utf8.decode t (Utf8.decode t 0).2).2) (by omega)
  exact ⟨by omega, by have := this.2 (by omega); omega⟩
theorem cut_loop (t : ByteArray) (ht : t.size ≤ 1048576) (most : Nat) (hm : most < t.size) : ∀ m a i : Nat, most < i + m → i ≤ most + 4 → Ev2 (fun k j => spec_l20Cut_L4 k j t (most : Int) (a : Int) (i : Int)) ((cutF t most m a i : Nat) : Int) := by
  have done : ∀ m a i : Nat, ¬ i ≤ most → cutF t most m a i = a → Ev2 (fun k j => spec_l20Cut_L4 k j t (most : Int) (a : Int) (i : Int)) ((cutF t most m a i : Nat) : Int) := by
    intro m a i c h
    rw [h]
    refine Ev2.ret fun k j => ?_
    simp only [spec_l20Cut_L4.eq, W, W1]
    rw [if_neg (show ¬ (i : Int) ≤ (most : Int) by omega)]
    split <;> rfl
  intro m
  induction m with
  | zero => intro a i h1 h2; exact done 0 a i (by omega) rfl
  | succ m ih =>
    intro a i h1 h2
    by_cases c : i ≤ most
    · have e := fun k j => spec_l20Cut_L4.eq t (most : Int) (a : Int) (i : Int) k j
      have c1 : (i : Int) < (t.size : Int) := by omega
      have c2 : (i : Int) ≤ (most : Int) := by omega
      have w4 := dec_le4 t i
      have w1 := Lib.width_pos t i
      have hadd : addI .i64 (i : Int) ((Utf8.decode t i).2 : Int) = ((i + (Utf8.decode t i).2 : Nat) : Int) := by rw [addI_i64 (by omega) (by omega)]; omega
      simp only [W, W1, W3, if_pos c1, if_pos c2] at e
      refine Ev2.step e (Ev2.bind (nx_ev t i ht (by omega)) ?_)
      rw [nx_size t i (by omega), hadd, show cutF t most (m + 1) a i = cutF t most m i (i + (Utf8.decode t i).2) from if_pos c]
      exact ih i _ (by omega) (by omega)
    · exact done (m + 1) a i c (if_neg c)
theorem half (n : Nat) (h : n ≤ 1048576) : quoI .i64 (addI .i64 (n : Int) 1) 2 = (((n + 1) / 2 : Nat) : Int) := by
  rw [addI_i64 (by omega) (by omega), quoI_eq, show ((n : Int) + 1).tdiv 2 = (((n + 1) / 2 : Nat) : Int) from rfl]
  exact wrap_i64 (by omega) (by omega)
theorem cut_ev (t : ByteArray) (ht : t.size ≤ 1048576) (h : 64 < t.size) : Ev (fun k => spec_l20Cut k t) ((cut t : Nat) : Int) := by
  have e := fun k => spec_l20Cut.eq t k
  have z : ¬ ((2 : Int) = 0) := by omega
  simp only [W, W1, half t.size ht, if_neg z] at e
  exact Ev.step e (cut_loop t ht ((t.size + 1) / 2) (by omega) ((t.size + 1) / 2 + 1) 0 0 (by omega) (by omega)).ev
/-- what the program does once it knows where to cut -/
noncomputable def restF (fu : Nat) (s : ByteArray) (n lines cut : Int) (out : List T_siiii) : Option (List T_siiii × Unit) :=
  (chk (ltI (mulZ (addZ (ln out) (ln (((bs []), ((addI .i64 (ln out) 1), (0, (n, lines)))) :: ([] : List (ByteArray × Int × Int × Int × Int))))) 48) 140737488355328) <|
   chk (leI 0 cut) <|
   chk (leI cut (sz s)) <|
   optB (impl_ropeTree'1 fu (subs s 0 cut) (catL out (((bs []), ((addI .i64 (ln out) 1), (0, (n, lines)))) :: ([] : List (ByteArray × Int × Int × Int × Int))))) fun r0 =>
   chk (leI 0 (ln out)) <|
   chk (ltI (ln out) (ln r0.1)) <|
   chk (leI 0 cut) <|
   chk (leI cut (sz s)) <|
   optB (impl_ropeTree'1 fu (subs s cut (sz s)) (setI r0.1 (ln out) ((rd r0.1 (ln out) ((bs []), (0, (0, (0, 0))))).1, (((rd r0.1 (ln out) ((bs []), (0, (0, (0, 0))))).2).1, ((ln r0.1), (((rd r0.1 (ln out) ((bs []), (0, (0, (0, 0))))).2).2).2))))) fun r1 =>
   some (r1.1, ()))
theorem L7'1_eq (s : ByteArray) (n lines cut i : Int) (out : List T_siiii) (fu fu1 : Nat) : impl_ropeTree_L7'1 fu (fu1 + 1) s n lines cut i out =
  (chk (notB (eqI 2 0)) <|
  brB (leI i (quoI .i64 (addI .i64 (sz s) 1) 2))
   (chk (leI 0 i) <|
   chk (leI i (minI (sz s) (addI .i64 i 4))) <|
   chk (leI (minI (sz s) (addI .i64 i 4)) (sz s)) <|
   optB (impl_read fu (subs s i (minI (sz s) (addI .i64 i 4)))) fun r0 =>
   chk (leI 0 0) <|
   chk (ltI 0 (ln r0)) <|
   impl_ropeTree_L7'1 fu fu1 s n lines i (addI .i64 i ((((rd r0 0 (0, (0, (0, false)))).2).2).1)) out)
   (restF fu s n lines cut out)) := impl_ropeTree_L7'1.eq s n lines cut i out fu fu1
theorem L7'1_loop (t : ByteArray) (ht : t.size ≤ 1048576) (h64 : 64 < t.size) (n lines : Int) (out : List T_siiii) (r : List T_siiii × Unit) : ∀ m a i : Nat, (t.size + 1) / 2 < i + m → i ≤ (t.size + 1) / 2 + 4 →
    Ev (fun k => restF k t n lines ((cutF t ((t.size + 1) / 2) m a i : Nat) : Int) out) r → Ev2 (fun k j => impl_ropeTree_L7'1 k j t n lines (a : Int) (i : Int) out) r := by
  have z : ¬ ((2 : Int) = 0) := by omega
  have done : ∀ m a i : Nat, ¬ i ≤ (t.size + 1) / 2 → cutF t ((t.size + 1) / 2) m a i = a → Ev (fun k => restF k t n lines ((cutF t ((t.size + 1) / 2) m a i : Nat) : Int) out) r → Ev2 (fun k j => impl_ropeTree_L7'1 k j t n lines (a : Int) (i : Int) out) r := by
    intro m a i c h hr
    rw [h] at hr
    have e := fun k j => L7'1_eq t n lines (a : Int) (i : Int) out k j
    have c1 : ¬ (i : Int) ≤ (((t.size + 1) / 2 : Nat) : Int) := by omega
    simp only [W, W1, half t.size ht, if_neg z, if_neg c1] at e
    exact Ev2.step e hr.two
  intro m
  induction m with
  | zero => intro a i h1 h2 hr; exact done 0 a i (by omega) rfl hr
  | succ m ih =>
    intro a i h1 h2 hr
    by_cases c : i ≤ (t.size + 1) / 2
    · have e := fun k j => L7'1_eq t n lines (a : Int) (i : Int) out k j
      have c1 : (i : Int) ≤ (((t.size + 1) / 2 : Nat) : Int) := by omega
      have w4 := dec_le4 t i
      have w1 := Lib.width_pos t i
      have hadd : addI .i64 (i : Int) ((Utf8.decode t i).2 : Int) = ((i + (Utf8.decode t i).2 : Nat) : Int) := by rw [addI_i64 (by omega) (by omega)]; omega
      have hmin : minI (t.size : Int) (addI .i64 (i : Int) 4) = ((min t.size (i + 4) : Nat) : Int) := by rw [addI_i64 (by omega) (by omega), minI_eq]; split <;> omega
      have c2 : (0 : Int) ≤ (i : Int) := by omega
      have c3 : (i : Int) ≤ ((min t.size (i + 4) : Nat) : Int) := by omega
      have c4 : ((min t.size (i + 4) : Nat) : Int) ≤ (t.size : Int) := by omega
      have c5 : (0 : Int) ≤ 0 := by omega
      have hs : (t.extract i (min t.size (i + 4))).size = min t.size (i + 4) - i := by rw [ByteArray.size_extract]; omega
      obtain ⟨x, f, suf, hread⟩ := read_ev (t.extract i (min t.size (i + 4))) (by omega) (by omega)
      rw [win t i (by omega)] at hread
      simp only [W, W1, W2, W3, half t.size ht, hmin, Int.toNat_natCast, if_neg z, if_pos c1, if_pos c2, if_pos c3, if_pos c4, if_pos c5] at e
      refine Ev2.step e (Ev2.bind hread ?_)
      have c6 : (0 : Int) < ((((x, (0, (((Utf8.decode t i).2 : Int), f))) :: suf : List T_iiib).length : Nat) : Int) := by simp
      have hrd : rd ((x, (0, (((Utf8.decode t i).2 : Int), f))) :: suf : List T_iiib) 0 (0, (0, (0, false))) = (x, (0, (((Utf8.decode t i).2 : Int), f))) := rd_mid [] suf _ _
      simp only [if_pos c6, hrd, hadd]
      rw [show cutF t ((t.size + 1) / 2) (m + 1) a i = cutF t ((t.size + 1) / 2) m i (i + (Utf8.decode t i).2) from if_pos c] at hr
      exact ih i _ (by omega) (by omega) hr
    · exact done (m + 1) a i c (if_neg c) hr
theorem L7_eq (s : ByteArray) (n lines cut i : Int) (out : List T_siiii) (fu fu1 : Nat) : impl_ropeTree_L7 fu (fu1 + 1) s n lines cut i out =
  (chk (notB (eqI 2 0)) <|
  brB (leI i (quoI .i64 (addI .i64 (sz s) 1) 2))
   (chk (leI 0 i) <|
   chk (leI i (minI (sz s) (addI .i64 i 4))) <|
   chk (leI (minI (sz s) (addI .i64 i 4)) (sz s)) <|
   optB (impl_read fu (subs s i (minI (sz s) (addI .i64 i 4)))) fun r0 =>
   chk (leI 0 0) <|
   chk (ltI 0 (ln r0)) <|
   impl_ropeTree_L7 fu fu1 s n lines i (addI .i64 i ((((rd r0 0 (0, (0, (0, false)))).2).2).1)) out)
   (restF fu s n lines cut out)) := impl_ropeTree_L7.eq s n lines cut i out fu fu1
theorem L7_loop (t : ByteArray) (ht : t.size ≤ 1048576) (h64 : 64 < t.size) (n lines : Int) (out : List T_siiii) (r : List T_siiii × Unit) : ∀ m a i : Nat, (t.size + 1) / 2 < i + m → i ≤ (t.size + 1) / 2 + 4 →
    Ev (fun k => restF k t n lines ((cutF t ((t.size + 1) / 2) m a i : Nat) : Int) out) r → Ev2 (fun k j => impl_ropeTree_L7 k j t n lines (a : Int) (i : Int) out) r := by
  have z : ¬ ((2 : Int) = 0) := by omega
  have done : ∀ m a i : Nat, ¬ i ≤ (t.size + 1) / 2 → cutF t ((t.size + 1) / 2) m a i = a → Ev (fun k => restF k t n lines ((cutF t ((t.size + 1) / 2) m a i : Nat) : Int) out) r → Ev2 (fun k j => impl_ropeTree_L7 k j t n lines (a : Int) (i : Int) out) r := by
    intro m a i c h hr
    rw [h] at hr
    have e := fun k j => L7_eq t n lines (a : Int) (i : Int) out k j
    have c1 : ¬ (i : Int) ≤ (((t.size + 1) / 2 : Nat) : Int) := by omega
    simp only [W, W1, half t.size ht, if_neg z, if_neg c1] at e
    exact Ev2.step e hr.two
  intro m
  induction m with
  | zero => intro a i h1 h2 hr; exact done 0 a i (by omega) rfl hr
  | succ m ih =>
    intro a i h1 h2 hr
    by_cases c : i ≤ (t.size + 1) / 2
    · have e := fun k j => L7_eq t n lines (a : Int) (i : Int) out k j
      have c1 : (i : Int) ≤ (((t.size + 1) / 2 : Nat) : Int) := by omega
      have w4 := dec_le4 t i
      have w1 := Lib.width_pos t i
      have hadd : addI .i64 (i : Int) ((Utf8.decode t i).2 : Int) = ((i + (Utf8.decode t i).2 : Nat) : Int) := by rw [addI_i64 (by omega) (by omega)]; omega
      have hmin : minI (t.size : Int) (addI .i64 (i : Int) 4) = ((min t.size (i + 4) : Nat) : Int) := by rw [addI_i64 (by omega) (by omega), minI_eq]; split <;> omega
      have c2 : (0 : Int) ≤ (i : Int) := by omega
      have c3 : (i : Int) ≤ ((min t.size (i + 4) : Nat) : Int) := by omega
      have c4 : ((min t.size (i + 4) : Nat) : Int) ≤ (t.size : Int) := by omega
      have c5 : (0 : Int) ≤ 0 := by omega
      have hs : (t.extract i (min t.size (i + 4))).size = min t.size (i + 4) - i := by rw [ByteArray.size_extract]; omega
      obtain ⟨x, f, suf, hread⟩ := read_ev (t.extract i (min t.size (i + 4))) (by omega) (by omega)
      rw [win t i (by omega)] at hread
      simp only [W, W1, W2, W3, half t.size ht, hmin, Int.toNat_natCast, if_neg z, if_pos c1, if_pos c2, if_pos c3, if_pos c4, if_pos c5] at e
      refine Ev2.step e (Ev2.bind hread ?_)
      have c6 : (0 : Int) < ((((x, (0, (((Utf8.decode t i).2 : Int), f))) :: suf : List T_iiib).length : Nat) : Int) := by simp
      have hrd : rd ((x, (0, (((Utf8.decode t i).2 : Int), f))) :: suf : List T_iiib) 0 (0, (0, (0, false))) = (x, (0, (((Utf8.decode t i).2 : Int), f))) := rd_mid [] suf _ _
      simp only [if_pos c6, hrd, hadd]
      rw [show cutF t ((t.size + 1) / 2) (m + 1) a i = cutF t ((t.size + 1) / 2) m i (i + (Utf8.decode t i).2) from if_pos c] at hr
      exact ih i _ (by omega) (by omega) hr
    · exact done (m + 1) a i c (if_neg c) hr
end Go.Proofs.YtfbhkkedmfbgbaaDoor.PM
