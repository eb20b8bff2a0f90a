/- The table of what two rows can keep of each other, by both sides. -/
import Derived.Test.YtkkjkpliiinbjaaDoorPWideA
import Derived.Test.YtkkjkpliiinbjaaDoorEG
namespace Go.Proofs.YtkkjkpliiinbjaaDoor.DF
open Go.Eng Go.RowKit
set_option linter.unusedVariables false
set_option linter.unusedSimpArgs false
def gRow (x : ByteArray) : List ByteArray → List Int → List Int
  | y :: ys, n0 :: ns => (if x = y then ns.headD 0 + 1 else max n0 ((gRow x ys ns).headD 0)) :: gRow x ys ns
  | _, _ => [0]
def zer (n : Nat) : List Int := List.replicate n 0
def tab (b : List ByteArray) : List ByteArray → List (List Int)
  | [] => [zer (b.length + 1)]
  | x :: xs => gRow x b ((tab b xs).headD []) :: tab b xs
def Bd : Nat → List Int → Prop
  | 0, [z] => z = 0
  | n + 1, z :: r => (0 ≤ z ∧ z ≤ (n : Int) + 1) ∧ Bd n r
  | _, _ => False
theorem Bd_zero : ∀ n, Bd n (zer (n + 1))
  | 0 => rfl
  | n + 1 => ⟨⟨Int.le_refl 0, by omega⟩, Bd_zero n⟩
theorem Bd_cons : ∀ {n : Nat} {r : List Int}, Bd n r → ∃ z s, r = z :: s ∧ 0 ≤ z ∧ z ≤ (n : Int) ∧ s.length = n
  | 0, [z], h => by
    obtain rfl : z = 0 := h
    exact ⟨0, [], rfl, Int.le_refl 0, Int.le_refl 0, rfl⟩
  | 0, [], h => h.elim
  | 0, _ :: _ :: _, h => h.elim
  | n + 1, [], h => h.elim
  | n + 1, z :: r, h => by
    obtain ⟨z2, s, rfl, _, _, hl⟩ := Bd_cons h.2
    exact ⟨z, z2 :: s, rfl, h.1.1, h.1.2, by simp [hl]⟩
theorem Bd_len {n : Nat} {r : List Int} (h : Bd n r) : r.length = n + 1 := by
  obtain ⟨z, s, rfl, _, _, hl⟩ := Bd_cons h
  simp [hl]
theorem Bd_suf (m : Nat) (ns : List Int) : ∀ np : List Int, Bd (np.length + m) (np ++ ns) → Bd m ns
  | [], h => by simpa using h
  | n0 :: np, h => by
    rw [List.length_cons, show np.length + 1 + m = (np.length + m) + 1 by omega] at h
    exact Bd_suf m ns np h.2
theorem gRow_bd (x : ByteArray) : ∀ (ys : List ByteArray) (ns : List Int), Bd ys.length ns → Bd ys.length (gRow x ys ns)
  | [], ns, h => by
    obtain ⟨z, s, rfl, _, _, _⟩ := Bd_cons h
    exact (rfl : (0 : Int) = 0)
  | y :: ys, [], h => h.elim
  | y :: ys, n0 :: ns, h => by
    have h1 := gRow_bd x ys ns h.2
    obtain ⟨z, s, hz, h2, h3, _⟩ := Bd_cons h.2
    obtain ⟨z', s', hz', h2', h3', _⟩ := Bd_cons h1
    have h4 := h.1
    refine ⟨?_, h1⟩
    rw [hz', hz]
    simp only [List.headD_cons]
    split
    · omega
    · rw [Int.max_def]; split <;> omega
theorem tab_cons (b : List ByteArray) : ∀ xs, ∃ h t, tab b xs = h :: t ∧ Bd b.length h
  | [] => ⟨_, _, rfl, Bd_zero _⟩
  | x :: xs => by
    obtain ⟨h, t, e, hb⟩ := tab_cons b xs
    refine ⟨_, _, rfl, ?_⟩
    rw [e]
    exact gRow_bd x b h hb
theorem tab_len (b : List ByteArray) : ∀ xs, (tab b xs).length = xs.length + 1
  | [] => rfl
  | x :: xs => by show (_ :: tab b xs).length = _; rw [List.length_cons, tab_len b xs, List.length_cons]
theorem tab_rows (b : List ByteArray) : ∀ xs, ∀ r ∈ tab b xs, r.length = b.length + 1
  | [], r, h => by
    rw [List.mem_singleton.1 h]; simp [zer]
  | x :: xs, r, h => by
    rcases List.mem_cons.1 h with rfl | h
    · obtain ⟨h', t, e, hb⟩ := tab_cons b xs
      rw [e]
      exact Bd_len (gRow_bd x b h' hb)
    · exact tab_rows b xs r h
theorem zer_snoc (n : Nat) : zer (n + 1) = zer n ++ [0] := List.replicate_succ'
theorem zer_len (n : Nat) : (zer n).length = n := List.length_replicate
def emp (n : Nat) : List (List Int) := List.replicate n []
theorem emp_snoc (n : Nat) : emp (n + 1) = emp n ++ [[]] := List.replicate_succ'
theorem emp_len (n : Nat) : (emp n).length = n := List.length_replicate
theorem concat_of {α : Type} (l : List α) (n : Nat) (h : l.length = n + 1) : ∃ l' x, l = l' ++ [x] ∧ l'.length = n := by
  have hne : l ≠ [] := fun e => by rw [e] at h; cases h
  refine ⟨l.dropLast, l.getLast hne, (List.dropLast_concat_getLast hne).symm, by rw [List.length_dropLast, h]; rfl⟩
/-- what a look at the table tells while a row is filled -/
theorem rows_at (i : Nat) (row nxt : List Int) (T : List (List Int)) : rd (emp i ++ row :: nxt :: T) (i : Int) [] = row ∧ rd (emp i ++ row :: nxt :: T) ((i + 1 : Nat) : Int) [] = nxt ∧ ((emp i ++ row :: nxt :: T).length = i + 2 + T.length) ∧ ∀ r, (emp i ++ row :: nxt :: T).set ((i : Nat) : Int).toNat r = emp i ++ r :: nxt :: T := by
  have hl := emp_len i
  refine ⟨?_, ?_, by simp [hl]; omega, fun r => ?_⟩
  · have := rd_mid (emp i) (nxt :: T) row []
    rw [hl] at this
    exact this
  · have := rd_mid (emp i ++ [row]) T nxt []
    rw [List.length_append, hl, List.append_assoc] at this
    exact this
  · rw [Int.toNat_natCast, List.set_append_right _ _ (by omega), hl, Nat.sub_self]
    rfl
/-- .. and at a row -/
theorem row_at (n : Nat) (g : Int) (G : List Int) : rd (zer (n + 1) ++ g :: G) ((n + 1 : Nat) : Int) 0 = g ∧ (zer (n + 1) ++ g :: G).length = n + 2 + G.length ∧ ∀ v, (zer (n + 1) ++ g :: G).set ((n : Nat) : Int).toNat v = zer n ++ v :: g :: G := by
  have hl := zer_len (n + 1)
  refine ⟨?_, by simp [hl]; omega, fun v => ?_⟩
  · have := rd_mid (zer (n + 1)) G g 0
    rw [hl] at this
    exact this
  · rw [zer_snoc, List.append_assoc, Int.toNat_natCast, List.set_append_right _ _ (by rw [zer_len]; omega), zer_len, Nat.sub_self]
    rfl
theorem nxt_at (np ns : List Int) (n0 z : Int) (h : ns = z :: ns.tail) : rd (np ++ n0 :: ns) (np.length : Int) 0 = n0 ∧ rd (np ++ n0 :: ns) ((np.length + 1 : Nat) : Int) 0 = z := by
  refine ⟨rd_mid np ns n0 0, ?_⟩
  rw [h]
  have := rd_mid (np ++ [n0]) ns.tail z 0
  rw [List.length_append, List.append_assoc] at this
  exact this
section
variable (a b : List ByteArray) (ha : a.length ≤ 1000) (hb : b.length ≤ 1000)
include ha hb
theorem impl_fill (ap asuf : List ByteArray) (x : ByteArray) (hA : a = ap ++ x :: asuf) (nxt : List Int) (T : List (List Int)) (hT : T.length = asuf.length) (hBn : Bd b.length nxt) {r : List T_ii}
    (hr : Ev2 (fun k j => impl_kept_L3 k j a b ((ap.length : Int) - 1) (emp ap.length ++ gRow x b nxt :: nxt :: T)) r) : ∀ (n : Nat) (bp bs' : List ByteArray) (np ns : List Int), bp.length = n → b = bp ++ bs' → nxt = np ++ ns → np.length = n →
    Ev3 (fun k j i => impl_kept_L7 k j i a b (ap.length : Int) ((n : Int) - 1) (emp ap.length ++ (zer n ++ gRow x bs' ns) :: nxt :: T)) r := by
  have hal : a.length = ap.length + 1 + asuf.length := by rw [hA]; simp; omega
  have hsubi : subI .i64 (ap.length : Int) 1 = (ap.length : Int) - 1 := subI_i64 (by omega) (by omega)
  have haddi : addI .i64 (ap.length : Int) 1 = ((ap.length + 1 : Nat) : Int) := by rw [addI_i64 (by omega) (by omega)]; omega
  have hra : rd a (ap.length : Int) (bs []) = x := by rw [hA]; exact rd_mid ap asuf x _
  intro n
  induction n with
  | zero =>
    intro bp bs' np ns h1 h2 h3 h4
    have hbp : bp = [] := List.length_eq_zero_iff.1 h1
    have hnp : np = [] := List.length_eq_zero_iff.1 h4
    subst hbp; subst hnp
    have e := fun k j i => impl_kept_L7.eq a b (ap.length : Int) (((0 : Nat) : Int) - 1) (emp ap.length ++ (zer 0 ++ gRow x bs' ns) :: nxt :: T) k j i
    simp only [W, W1, hsubi, if_neg (show ¬ (0 : Int) ≤ ((0 : Nat) : Int) - 1 by omega)] at e
    rw [show b = bs' from h2, show nxt = ns from h3] at hr
    rw [show b = bs' from h2, show nxt = ns from h3] at e ⊢
    exact Ev3.step e hr.three
  | succ n ih =>
    intro bp bs' np ns h1 h2 h3 h4
    have h5 : Bd bs'.length ns := Bd_suf bs'.length ns np (by
      rw [h2, h3, List.length_append, h1, ← h4] at hBn
      exact hBn)
    obtain ⟨bp', y, rfl, hbl⟩ := concat_of bp n h1
    obtain ⟨np', n0, rfl, hnl⟩ := concat_of np n h4
    have hblen : b.length = n + 1 + bs'.length := by rw [h2]; simp [hbl]; omega
    obtain ⟨z, s, hz, hz0, hz1, hzl⟩ := Bd_cons h5
    obtain ⟨g, G, hg, hg0, hg1, hgl⟩ := Bd_cons (gRow_bd x bs' ns h5)
    have hrb : rd b (n : Int) (bs []) = y := by rw [h2, List.append_assoc, ← hbl]; exact rd_mid bp' bs' y _
    have hnx : nxt = np' ++ n0 :: ns := by rw [h3, List.append_assoc]; rfl
    have hnlen : nxt.length = n + 1 + 1 + bs'.length := by rw [hnx, hz]; simp [hnl, hzl]; omega
    obtain ⟨n1, n2⟩ := nxt_at np' ns n0 z (by rw [hz]; rfl)
    rw [← hnx, hnl] at n1 n2
    obtain ⟨r1, r2, r3⟩ := row_at n g G
    obtain ⟨t1, t2, t3, t4⟩ := rows_at ap.length (zer (n + 1) ++ g :: G) nxt T
    have hj : ((n + 1 : Nat) : Int) - 1 = (n : Int) := by omega
    rw [hj, hg]
    have hsub : subI .i64 (n : Int) 1 = (n : Int) - 1 := subI_i64 (by omega) (by omega)
    have hadd : addI .i64 (n : Int) 1 = ((n + 1 : Nat) : Int) := by rw [addI_i64 (by omega) (by omega)]; omega
    have hz1' : addI .i64 z 1 = z + 1 := addI_i64 (by omega) (by omega)
    have e := fun k j i => impl_kept_L7.eq a b (ap.length : Int) (n : Int) (emp ap.length ++ (zer (n + 1) ++ g :: G) :: nxt :: T) k j i
    simp only [impl_kept_J9.eq] at e
    simp only [W, W1, W2, hra, hrb, hsub, hadd, haddi, n1, n2, r1, r2, r3, t1, t2, t3, t4, hz1', hnlen, if_pos (nat_ge n), if_pos (nat_ge ap.length), if_pos (show (ap.length : Int) < (a.length : Int) by omega), if_pos (show (n : Int) < (b.length : Int) by omega), if_pos (show (ap.length : Int) < ((ap.length + 2 + T.length : Nat) : Int) by omega), if_pos (nat_ge (ap.length + 1)), if_pos (show ((ap.length + 1 : Nat) : Int) < ((ap.length + 2 + T.length : Nat) : Int) by omega), if_pos (nat_ge (n + 1)), if_pos (show ((n + 1 : Nat) : Int) < ((n + 1 + 1 + bs'.length : Nat) : Int) by omega), if_pos (show (n : Int) < ((n + 1 + 1 + bs'.length : Nat) : Int) by omega), if_pos (show ((n + 1 : Nat) : Int) < ((n + 2 + G.length : Nat) : Int) by omega), if_pos (show (n : Int) < ((n + 2 + G.length : Nat) : Int) by omega)] at e
    have hG : gRow x (y :: bs') (n0 :: ns) = (if x = y then z + 1 else max n0 g) :: g :: G := by
      show (if x = y then ns.headD 0 + 1 else max n0 ((gRow x bs' ns).headD 0)) :: gRow x bs' ns = _
      rw [hg, hz]; rfl
    have h := ih bp' (y :: bs') np' (n0 :: ns) hbl (by rw [h2, List.append_assoc]; rfl) hnx hnl
    rw [hG] at h
    have hmax : maxI n0 g = max n0 g := by rw [maxI_eq, Int.max_def]; split <;> split <;> omega
    by_cases c : x = y
    · simp only [if_pos c] at e
      rw [if_pos c] at h
      exact Ev3.step e h
    · simp only [if_neg c, hmax] at e
      rw [if_neg c] at h
      exact Ev3.step e h
theorem impl_rows {r : List T_ii} (hr : Ev (fun k => impl_kept_L14 k k a b 0 0 (tab b a)) r) : ∀ (n : Nat) (ap asuf : List ByteArray), ap.length = n → a = ap ++ asuf → Ev2 (fun k j => impl_kept_L3 k j a b ((n : Int) - 1) (emp n ++ tab b asuf)) r := by
  intro n
  induction n with
  | zero =>
    intro ap asuf h1 h2
    have hap : ap = [] := List.length_eq_zero_iff.1 h1
    subst hap
    have e := fun k j => impl_kept_L3.eq a b (((0 : Nat) : Int) - 1) (emp 0 ++ tab b asuf) k j
    simp only [W, W1, if_neg (show ¬ (0 : Int) ≤ ((0 : Nat) : Int) - 1 by omega)] at e
    rw [show a = asuf from h2] at hr
    rw [show a = asuf from h2] at e ⊢
    exact Ev2.step e hr.two
  | succ n ih =>
    intro ap asuf h1 h2
    obtain ⟨ap', x, rfl, hal⟩ := concat_of ap n h1
    have h2' : a = ap' ++ x :: asuf := by rw [h2, List.append_assoc]; rfl
    have hlen : a.length = n + 1 + asuf.length := by rw [h2']; simp [hal]; omega
    obtain ⟨h, t, ht, hB⟩ := tab_cons b asuf
    have htl : t.length = asuf.length := by
      have := tab_len b asuf
      rw [ht, List.length_cons] at this
      omega
    have hj : ((n + 1 : Nat) : Int) - 1 = (n : Int) := by omega
    rw [hj]
    obtain ⟨np, last, hnp, hnl⟩ := concat_of h b.length (Bd_len hB)
    have hset : (emp (n + 1) ++ tab b asuf).set ((n : Int)).toNat (zer (b.length + 1)) = emp n ++ zer (b.length + 1) :: h :: t := by
      rw [emp_snoc, List.append_assoc, ht, Int.toNat_natCast, List.set_append_right _ _ (by rw [emp_len]; omega), emp_len, Nat.sub_self]
      rfl
    have hml : (emp (n + 1) ++ tab b asuf).length = n + 2 + asuf.length := by rw [List.length_append, emp_len, tab_len]; omega
    have haddb : addI .i64 (b.length : Int) 1 = ((b.length + 1 : Nat) : Int) := by rw [addI_i64 (by omega) (by omega)]; omega
    have hsubb : subI .i64 (b.length : Int) 1 = (b.length : Int) - 1 := subI_i64 (by omega) (by omega)
    have hzer : List.replicate (b.length + 1) (0 : Int) = zer (b.length + 1) := rfl
    have e := fun k j => impl_kept_L3.eq a b (n : Int) (emp (n + 1) ++ tab b asuf) k j
    simp only [W, W1, W2, haddb, hsubb, hml, Int.toNat_natCast, hzer, if_pos (nat_ge n), if_pos (nat_ge (b.length + 1)), if_pos (Int.le_refl ((b.length + 1 : Nat) : Int)), if_pos (show ((b.length + 1 : Nat) : Int) * 8 < 140737488355328 by omega), if_pos (show (n : Int) < ((n + 2 + asuf.length : Nat) : Int) by omega)] at e
    rw [Int.toNat_natCast] at hset
    simp only [hset] at e
    have hnext := ih ap' (x :: asuf) hal h2'
    have htab : emp n ++ tab b (x :: asuf) = emp ap'.length ++ gRow x b h :: h :: t := by
      rw [hal]
      show emp n ++ gRow x b ((tab b asuf).headD []) :: tab b asuf = _
      rw [ht]; rfl
    rw [htab, ← hal] at hnext
    have hf := impl_fill a b ha hb ap' asuf x h2' h t htl hB hnext b.length b [] np [last] rfl (by simp) (by rw [hnp]) hnl
    have hz : zer b.length ++ gRow x [] [last] = zer (b.length + 1) := by rw [zer_snoc]; rfl
    rw [hz, hal] at hf
    exact Ev2.step e hf.two
theorem impl_table {r : List T_ii} (hr : Ev (fun k => impl_kept_L14 k k a b 0 0 (tab b a)) r) : Ev (fun k => impl_kept k a b) r := by
  have haddb : addI .i64 (b.length : Int) 1 = ((b.length + 1 : Nat) : Int) := by rw [addI_i64 (by omega) (by omega)]; omega
  have hsubb : subI .i64 (b.length : Int) 1 = (b.length : Int) - 1 := subI_i64 (by omega) (by omega)
  have hadda : addI .i64 (a.length : Int) 1 = ((a.length + 1 : Nat) : Int) := by rw [addI_i64 (by omega) (by omega)]; omega
  have hsuba : subI .i64 (a.length : Int) 1 = (a.length : Int) - 1 := subI_i64 (by omega) (by omega)
  have hemp : List.replicate (a.length + 1) ([] : List Int) = emp (a.length + 1) := rfl
  have hzer : List.replicate (b.length + 1) (0 : Int) = zer (b.length + 1) := rfl
  have e0 := fun k => impl_kept.eq a b k
  simp only [W, W1, W2, hadda, Int.toNat_natCast, hemp, if_pos (nat_ge (a.length + 1)), if_pos (Int.le_refl ((a.length + 1 : Nat) : Int)), if_pos (show ((a.length + 1 : Nat) : Int) * 24 < 140737488355328 by omega)] at e0
  refine Ev.step e0 (Ev2.ev (g := fun k j => impl_kept_L3 k j a b (a.length : Int) (emp (a.length + 1))) ?_)
  have hset : (emp (a.length + 1)).set a.length (zer (b.length + 1)) = emp a.length ++ tab b [] := by
    rw [emp_snoc, List.set_append_right _ _ (by rw [emp_len]; omega), emp_len, Nat.sub_self]
    rfl
  have e := fun k j => impl_kept_L3.eq a b (a.length : Int) (emp (a.length + 1)) k j
  simp only [W, W1, W2, haddb, hsubb, emp_len, Int.toNat_natCast, hzer, hset, if_pos (nat_ge a.length), if_pos (nat_ge (b.length + 1)), if_pos (Int.le_refl ((b.length + 1 : Nat) : Int)), if_pos (show ((b.length + 1 : Nat) : Int) * 8 < 140737488355328 by omega), if_pos (show (a.length : Int) < ((a.length + 1 : Nat) : Int) by omega)] at e
  have h7 : Ev3 (fun k j i => impl_kept_L7 k j i a b (a.length : Int) ((b.length : Int) - 1) (emp a.length ++ tab b [])) r := by
    have e7 := fun k j i => impl_kept_L7.eq a b (a.length : Int) ((b.length : Int) - 1) (emp a.length ++ tab b []) k j i
    have hrows := impl_rows a b ha hb hr a.length a [] rfl (by simp)
    simp only [W, W1, W2, hsuba, if_neg (Int.lt_irrefl (a.length : Int)), ite_self] at e7
    exact Ev3.step e7 hrows.three
  exact Ev2.step e h7.two
theorem spec_fill (ap asuf : List ByteArray) (x : ByteArray) (hA : a = ap ++ x :: asuf) (nxt : List Int) (T : List (List Int)) (hT : T.length = asuf.length) (hBn : Bd b.length nxt) {r : List T_i}
    (hr : Ev2 (fun k j => spec_l21Kept_L3 k j a b ((ap.length : Int) - 1) (emp ap.length ++ gRow x b nxt :: nxt :: T)) r) : ∀ (n : Nat) (bp bs' : List ByteArray) (np ns : List Int), bp.length = n → b = bp ++ bs' → nxt = np ++ ns → np.length = n →
    Ev3 (fun k j i => spec_l21Kept_L7 k j i a b (ap.length : Int) ((n : Int) - 1) (emp ap.length ++ (zer n ++ gRow x bs' ns) :: nxt :: T)) r := by
  have hal : a.length = ap.length + 1 + asuf.length := by rw [hA]; simp; omega
  have hsubi : subI .i64 (ap.length : Int) 1 = (ap.length : Int) - 1 := subI_i64 (by omega) (by omega)
  have haddi : addI .i64 (ap.length : Int) 1 = ((ap.length + 1 : Nat) : Int) := by rw [addI_i64 (by omega) (by omega)]; omega
  have hra : rd a (ap.length : Int) (bs []) = x := by rw [hA]; exact rd_mid ap asuf x _
  intro n
  induction n with
  | zero =>
    intro bp bs' np ns h1 h2 h3 h4
    have hbp : bp = [] := List.length_eq_zero_iff.1 h1
    have hnp : np = [] := List.length_eq_zero_iff.1 h4
    subst hbp; subst hnp
    have e := fun k j i => spec_l21Kept_L7.eq a b (ap.length : Int) (((0 : Nat) : Int) - 1) (emp ap.length ++ (zer 0 ++ gRow x bs' ns) :: nxt :: T) k j i
    simp only [W, W1, hsubi, if_neg (show ¬ (0 : Int) ≤ ((0 : Nat) : Int) - 1 by omega)] at e
    rw [show b = bs' from h2, show nxt = ns from h3] at hr
    rw [show b = bs' from h2, show nxt = ns from h3] at e ⊢
    exact Ev3.step e hr.three
  | succ n ih =>
    intro bp bs' np ns h1 h2 h3 h4
    have h5 : Bd bs'.length ns := Bd_suf bs'.length ns np (by
      rw [h2, h3, List.length_append, h1, ← h4] at hBn
      exact hBn)
    obtain ⟨bp', y, rfl, hbl⟩ := concat_of bp n h1
    obtain ⟨np', n0, rfl, hnl⟩ := concat_of np n h4
    have hblen : b.length = n + 1 + bs'.length := by rw [h2]; simp [hbl]; omega
    obtain ⟨z, s, hz, hz0, hz1, hzl⟩ := Bd_cons h5
    obtain ⟨g, G, hg, hg0, hg1, hgl⟩ := Bd_cons (gRow_bd x bs' ns h5)
    have hrb : rd b (n : Int) (bs []) = y := by rw [h2, List.append_assoc, ← hbl]; exact rd_mid bp' bs' y _
    have hnx : nxt = np' ++ n0 :: ns := by rw [h3, List.append_assoc]; rfl
    have hnlen : nxt.length = n + 1 + 1 + bs'.length := by rw [hnx, hz]; simp [hnl, hzl]; omega
    obtain ⟨n1, n2⟩ := nxt_at np' ns n0 z (by rw [hz]; rfl)
    rw [← hnx, hnl] at n1 n2
    obtain ⟨r1, r2, r3⟩ := row_at n g G
    obtain ⟨t1, t2, t3, t4⟩ := rows_at ap.length (zer (n + 1) ++ g :: G) nxt T
    have hj : ((n + 1 : Nat) : Int) - 1 = (n : Int) := by omega
    rw [hj, hg]
    have hsub : subI .i64 (n : Int) 1 = (n : Int) - 1 := subI_i64 (by omega) (by omega)
    have hadd : addI .i64 (n : Int) 1 = ((n + 1 : Nat) : Int) := by rw [addI_i64 (by omega) (by omega)]; omega
    have hz1' : addI .i64 z 1 = z + 1 := addI_i64 (by omega) (by omega)
    have e := fun k j i => spec_l21Kept_L7.eq a b (ap.length : Int) (n : Int) (emp ap.length ++ (zer (n + 1) ++ g :: G) :: nxt :: T) k j i
    simp only [spec_l21Kept_J10.eq] at e
    simp only [W, W1, W2, hra, hrb, hsub, hadd, haddi, n1, n2, r1, r2, r3, t1, t2, t3, t4, hz1', hnlen, if_pos (nat_ge n), if_pos (nat_ge ap.length), if_pos (show (ap.length : Int) < (a.length : Int) by omega), if_pos (show (n : Int) < (b.length : Int) by omega), if_pos (show (ap.length : Int) < ((ap.length + 2 + T.length : Nat) : Int) by omega), if_pos (nat_ge (ap.length + 1)), if_pos (show ((ap.length + 1 : Nat) : Int) < ((ap.length + 2 + T.length : Nat) : Int) by omega), if_pos (nat_ge (n + 1)), if_pos (show ((n + 1 : Nat) : Int) < ((n + 1 + 1 + bs'.length : Nat) : Int) by omega), if_pos (show (n : Int) < ((n + 1 + 1 + bs'.length : Nat) : Int) by omega), if_pos (show ((n + 1 : Nat) : Int) < ((n + 2 + G.length : Nat) : Int) by omega), if_pos (show (n : Int) < ((n + 2 + G.length : Nat) : Int) by omega)] at e
    have hG : gRow x (y :: bs') (n0 :: ns) = (if x = y then z + 1 else max n0 g) :: g :: G := by
      show (if x = y then ns.headD 0 + 1 else max n0 ((gRow x bs' ns).headD 0)) :: gRow x bs' ns = _
      rw [hg, hz]; rfl
    have h := ih bp' (y :: bs') np' (n0 :: ns) hbl (by rw [h2, List.append_assoc]; rfl) hnx hnl
    rw [hG] at h
    have hmax : maxI n0 g = max n0 g := by rw [maxI_eq, Int.max_def]; split <;> split <;> omega
    by_cases c : x = y
    · simp only [if_pos c] at e
      rw [if_pos c] at h
      exact Ev3.step e h
    · simp only [if_neg c] at e
      rw [if_neg c] at h
      refine Ev3.step e ?_
      by_cases q : g ≤ n0
      · simp only [if_pos q]
        rw [show max n0 g = n0 by rw [Int.max_def]; split <;> omega] at h
        exact h
      · simp only [if_neg q]
        rw [show max n0 g = g by rw [Int.max_def]; split <;> omega] at h
        exact h
theorem spec_rows {r : List T_i} (hr : Ev (fun k => spec_l21Kept_L17 k k a b 0 0 (tab b a) []) r) : ∀ (n : Nat) (ap asuf : List ByteArray), ap.length = n → a = ap ++ asuf → Ev2 (fun k j => spec_l21Kept_L3 k j a b ((n : Int) - 1) (emp n ++ tab b asuf)) r := by
  intro n
  induction n with
  | zero =>
    intro ap asuf h1 h2
    have hap : ap = [] := List.length_eq_zero_iff.1 h1
    subst hap
    have e := fun k j => spec_l21Kept_L3.eq a b (((0 : Nat) : Int) - 1) (emp 0 ++ tab b asuf) k j
    simp only [W, W1, if_neg (show ¬ (0 : Int) ≤ ((0 : Nat) : Int) - 1 by omega)] at e
    rw [show a = asuf from h2] at hr
    rw [show a = asuf from h2] at e ⊢
    exact Ev2.step e hr.two
  | succ n ih =>
    intro ap asuf h1 h2
    obtain ⟨ap', x, rfl, hal⟩ := concat_of ap n h1
    have h2' : a = ap' ++ x :: asuf := by rw [h2, List.append_assoc]; rfl
    have hlen : a.length = n + 1 + asuf.length := by rw [h2']; simp [hal]; omega
    obtain ⟨h, t, ht, hB⟩ := tab_cons b asuf
    have htl : t.length = asuf.length := by
      have := tab_len b asuf
      rw [ht, List.length_cons] at this
      omega
    have hj : ((n + 1 : Nat) : Int) - 1 = (n : Int) := by omega
    rw [hj]
    obtain ⟨np, last, hnp, hnl⟩ := concat_of h b.length (Bd_len hB)
    have hset : (emp (n + 1) ++ tab b asuf).set ((n : Int)).toNat (zer (b.length + 1)) = emp n ++ zer (b.length + 1) :: h :: t := by
      rw [emp_snoc, List.append_assoc, ht, Int.toNat_natCast, List.set_append_right _ _ (by rw [emp_len]; omega), emp_len, Nat.sub_self]
      rfl
    have hml : (emp (n + 1) ++ tab b asuf).length = n + 2 + asuf.length := by rw [List.length_append, emp_len, tab_len]; omega
    have haddb : addI .i64 (b.length : Int) 1 = ((b.length + 1 : Nat) : Int) := by rw [addI_i64 (by omega) (by omega)]; omega
    have hsubb : subI .i64 (b.length : Int) 1 = (b.length : Int) - 1 := subI_i64 (by omega) (by omega)
    have hzer : List.replicate (b.length + 1) (0 : Int) = zer (b.length + 1) := rfl
    have e := fun k j => spec_l21Kept_L3.eq a b (n : Int) (emp (n + 1) ++ tab b asuf) k j
    simp only [W, W1, W2, haddb, hsubb, hml, Int.toNat_natCast, hzer, if_pos (nat_ge n), if_pos (nat_ge (b.length + 1)), if_pos (Int.le_refl ((b.length + 1 : Nat) : Int)), if_pos (show ((b.length + 1 : Nat) : Int) * 8 < 140737488355328 by omega), if_pos (show (n : Int) < ((n + 2 + asuf.length : Nat) : Int) by omega)] at e
    rw [Int.toNat_natCast] at hset
    simp only [hset] at e
    have hnext := ih ap' (x :: asuf) hal h2'
    have htab : emp n ++ tab b (x :: asuf) = emp ap'.length ++ gRow x b h :: h :: t := by
      rw [hal]
      show emp n ++ gRow x b ((tab b asuf).headD []) :: tab b asuf = _
      rw [ht]; rfl
    rw [htab, ← hal] at hnext
    have hf := spec_fill a b ha hb ap' asuf x h2' h t htl hB hnext b.length b [] np [last] rfl (by simp) (by rw [hnp]) hnl
    have hz : zer b.length ++ gRow x [] [last] = zer (b.length + 1) := by rw [zer_snoc]; rfl
    rw [hz, hal] at hf
    exact Ev2.step e hf.two
theorem spec_table {r : List T_i} (hr : Ev (fun k => spec_l21Kept_L17 k k a b 0 0 (tab b a) []) r) : Ev (fun k => spec_l21Kept k a b) r := by
  have haddb : addI .i64 (b.length : Int) 1 = ((b.length + 1 : Nat) : Int) := by rw [addI_i64 (by omega) (by omega)]; omega
  have hsubb : subI .i64 (b.length : Int) 1 = (b.length : Int) - 1 := subI_i64 (by omega) (by omega)
  have hadda : addI .i64 (a.length : Int) 1 = ((a.length + 1 : Nat) : Int) := by rw [addI_i64 (by omega) (by omega)]; omega
  have hsuba : subI .i64 (a.length : Int) 1 = (a.length : Int) - 1 := subI_i64 (by omega) (by omega)
  have hemp : List.replicate (a.length + 1) ([] : List Int) = emp (a.length + 1) := rfl
  have hzer : List.replicate (b.length + 1) (0 : Int) = zer (b.length + 1) := rfl
  have e0 := fun k => spec_l21Kept.eq a b k
  simp only [W, W1, W2, hadda, Int.toNat_natCast, hemp, if_pos (nat_ge (a.length + 1)), if_pos (Int.le_refl ((a.length + 1 : Nat) : Int)), if_pos (show ((a.length + 1 : Nat) : Int) * 24 < 140737488355328 by omega)] at e0
  refine Ev.step e0 (Ev2.ev (g := fun k j => spec_l21Kept_L3 k j a b (a.length : Int) (emp (a.length + 1))) ?_)
  have hset : (emp (a.length + 1)).set a.length (zer (b.length + 1)) = emp a.length ++ tab b [] := by
    rw [emp_snoc, List.set_append_right _ _ (by rw [emp_len]; omega), emp_len, Nat.sub_self]
    rfl
  have e := fun k j => spec_l21Kept_L3.eq a b (a.length : Int) (emp (a.length + 1)) k j
  simp only [W, W1, W2, haddb, hsubb, emp_len, Int.toNat_natCast, hzer, hset, if_pos (nat_ge a.length), if_pos (nat_ge (b.length + 1)), if_pos (Int.le_refl ((b.length + 1 : Nat) : Int)), if_pos (show ((b.length + 1 : Nat) : Int) * 8 < 140737488355328 by omega), if_pos (show (a.length : Int) < ((a.length + 1 : Nat) : Int) by omega)] at e
  have h7 : Ev3 (fun k j i => spec_l21Kept_L7 k j i a b (a.length : Int) ((b.length : Int) - 1) (emp a.length ++ tab b [])) r := by
    have e7 := fun k j i => spec_l21Kept_L7.eq a b (a.length : Int) ((b.length : Int) - 1) (emp a.length ++ tab b []) k j i
    have hrows := spec_rows a b ha hb hr a.length a [] rfl (by simp)
    simp only [W, W1, W2, hsuba, if_neg (Int.lt_irrefl (a.length : Int)), ite_self] at e7
    exact Ev3.step e7 hrows.three
  exact Ev2.step e h7.two
end
end Go.Proofs.YtkkjkpliiinbjaaDoor.DF
