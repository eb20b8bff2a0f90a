/- Patterns of hyphens, plainly: what the program and the reference read of one. -/
import Derived.Test.YtopbiepiceajnaaQS0
import Derived.Test.YtopbiepiceajnaaE30
namespace Go.Proofs.Ytopbiepiceajnaa.S
open Go.Eng
set_option linter.unusedVariables false
set_option linter.unusedSimpArgs false

def nums (s : ByteArray) : List Int := s.data.toList.map fun c => (c.toNat : Int)
theorem nums_len (s : ByteArray) : (nums s).length = s.size := by rw [nums, List.length_map]; rfl
theorem nums_mem (s : ByteArray) : ∀ n ∈ nums s, 0 ≤ n ∧ n ≤ 255 := by
  intro n hn
  obtain ⟨c, _, rfl⟩ := List.mem_map.1 hn
  have := c.toNat_lt
  omega
theorem bt_at (s : ByteArray) (pre suf : List Int) (n : Int) (h : nums s = pre ++ n :: suf) : bt s (pre.length : Int) = n := by
  have h1 : (nums s)[pre.length]? = some n := by rw [h]; simp
  simp only [nums, List.getElem?_map, Option.map_eq_some_iff] at h1
  obtain ⟨c, hc, rfl⟩ := h1
  rw [bt_nat, List.getD_eq_getElem?_getD, hc]
  rfl
theorem bytesOf_size (ls : List Int) : (bytesOf ls).size = ls.length := by
  show ((ls.map fun n => UInt8.ofNat n.toNat).toArray).size = _
  simp
theorem bytesOf_data (ls : List Int) : (bytesOf ls).data.toList = ls.map fun n => UInt8.ofNat n.toNat := rfl
def pdig (n : Int) (ds : List Int) : Bool := decide (49 ≤ n) && decide (n ≤ 57) && decide (rd ds ((ds.length : Int) - 1) 0 = 0)
def plet (n : Int) : Bool := (decide (97 ≤ n) && decide (n ≤ 122)) || decide (n = 46)
def pset (ds : List Int) (n : Int) : List Int := ds.set ((ds.length : Int) - 1).toNat ((n - 48) % 256)
theorem dig_eq (n : Int) : wrI .i64 (subI .u8 n 48) = (n - 48) % 256 := by
  have : subI .u8 n 48 = (n - 48) % 256 := by rw [subI_eq, IntKind.wrap_u8]
  rw [this, wrI_i64 (by omega) (by omega)]
/-- Letters, digits, and whether there is a digit. -/
def pscan : List Int → List Int → List Int → Bool → Option (List Int × List Int × Bool)
  | [], ls, ds, h => some (ls, ds, h)
  | n :: r, ls, ds, h => if pdig n ds then pscan r ls (pset ds n) true else if plet n then pscan r (ls ++ [n]) (ds ++ [0]) h else none
def dots (ls : List Int) (i : Nat) : Bool := ((ls.drop i).take (ls.length - 1 - i)).any (· == 46)
def sane (ls : List Int) (h : Bool) : Bool := h && decide (1 ≤ ls.length) && decide (ls.length ≤ 20)
theorem dots_step (ls : List Int) (i : Nat) (h : i + 1 < ls.length) : dots ls i = (ls[i] == 46 || dots ls (i + 1)) := by
  unfold dots
  have e : ls.length - 1 - i = (ls.length - 1 - (i + 1)) + 1 := by omega
  rw [e, List.drop_eq_getElem_cons (by omega), List.take_succ_cons, List.any_cons]
theorem dots_end (ls : List Int) (i : Nat) (h : ¬ i + 1 < ls.length) : dots ls i = false := by
  unfold dots
  have e : ls.length - 1 - i = 0 := by omega
  rw [e]
  rfl
theorem spec_l1 (ls ds : List Int) (h : Bool) (hl : ls.length ≤ 1048576) : ∀ (m i : Nat), ls.length - 1 - i = m → i ≤ 1048576 →
    Ev2 (fun k j => spec_l22Pattern_L17 k j h (i : Int) ls ds) (if dots ls i then ((⟨#[]⟩ : ByteArray), ([] : List Int), false) else (bytesOf ls, ds, sane ls h)) := by
  intro m
  induction m with
  | zero =>
    intro i hm hi
    have hc : ¬ i + 1 < ls.length := by omega
    rw [dots_end ls i hc]
    refine Ev2.ret fun k j => ?_
    have hw : addI .i64 (i : Int) 1 = (i : Int) + 1 := addI_i64 (by omega) (by omega)
    simp only [spec_l22Pattern_L17.eq, hw, W, W1, W2]
    rw [if_neg (by omega), brB_b]
    unfold sane
    by_cases c1 : h = true
    · by_cases c2 : 1 ≤ ls.length
      · rw [if_pos c1, if_pos (by omega)]
        simp [c1, c2]
        omega
      · rw [if_pos c1, if_neg (by omega)]
        simp [c2]
    · rw [if_neg c1]
      simp [c1]
  | succ m ih =>
    intro i hm hi
    have hc : i + 1 < ls.length := by omega
    have hr : rd ls (i : Int) (0 : Int) = ls[i] := rd_nat ls i 0 (by omega)
    have hw : addI .i64 (i : Int) 1 = ((i + 1 : Nat) : Int) := by rw [addI_i64 (by omega) (by omega)]; omega
    by_cases c : ls[i] = 46
    · refine Ev2.ret fun k j => ?_
      simp only [spec_l22Pattern_L17.eq, hw, W, W1, W2, hr]
      rw [if_pos (by omega), if_pos (by omega), if_pos (by omega), if_pos c, dots_step ls i hc]
      simp [c]
      rfl
    · have e : dots ls i = dots ls (i + 1) := by rw [dots_step ls i hc]; simp [c]
      rw [e]
      refine Ev2.step (fun k j => ?_) (ih (i + 1) (by omega) (by omega))
      simp only [spec_l22Pattern_L17.eq, hw, W, W1, W2, hr]
      rw [if_pos (by omega), if_pos (by omega), if_pos (by omega), if_neg c]
def specV : Option (List Int × List Int × Bool) → ByteArray × List Int × Bool
  | none => (⟨#[]⟩, [], false)
  | some (ls, ds, h) => if dots ls 1 then (⟨#[]⟩, [], false) else (bytesOf ls, ds, sane ls h)
theorem spec_loop (s : ByteArray) (hs : s.size ≤ 1048576) : ∀ (suf pre ls ds : List Int) (h : Bool), nums s = pre ++ suf → ls.length ≤ pre.length → 1 ≤ ds.length → ds.length ≤ pre.length + 1 →
    Ev2 (fun k j => spec_l22Pattern_L5 k j s h (pre.length : Int) ls ds) (specV (pscan suf ls ds h)) := by
  intro suf
  induction suf with
  | nil =>
    intro pre ls ds h hp hl hd1 hd2
    have hz : pre.length = s.size := by rw [← nums_len, hp]; simp
    refine Ev2.step (f := fun k _ => spec_l22Pattern_L17 k k h ((1 : Nat) : Int) ls ds) (fun k j => ?_) ?_
    · simp only [spec_l22Pattern_L5.eq, W, W1]
      rw [if_neg (by omega)]
      rfl
    · exact (spec_l1 ls ds h (by omega) _ 1 rfl (by omega)).ev.two
  | cons n suf ih =>
    intro pre ls ds h hp hl hd1 hd2
    have hz : pre.length + 1 ≤ s.size := by rw [← nums_len, hp]; simp
    have hb := bt_at s pre suf n hp
    have hw : subI .i64 (ds.length : Int) 1 = (ds.length : Int) - 1 := subI_i64 (by omega) (by omega)
    have hw2 : addI .i64 (pre.length : Int) 1 = ((pre ++ [n]).length : Int) := by rw [addI_i64 (by omega) (by omega)]; exact len_snoc pre n
    refine Ev2.step (f := fun k j => spec_l22Pattern_J11 k j s h (pre.length : Int) n ((ds.length : Int) - 1) (pdig n ds) ls ds) (fun k j => ?_) ?_
    · simp only [spec_l22Pattern_L5.eq, W, W1, W2, hb, hw]
      rw [if_pos (by omega), if_pos (by omega), if_pos (by omega)]
      by_cases c1 : 49 ≤ n
      · by_cases c2 : n ≤ 57
        · rw [if_pos c1, if_pos c2, if_pos (by omega), if_pos (by omega)]
          congr 1
          simp only [pdig, c1, c2, decide_true, Bool.true_and]
        · rw [if_pos c1, if_neg c2]
          simp [pdig, c2]
      · rw [if_neg c1]
        simp [pdig, c1]
    · by_cases c : pdig n ds = true
      · have e : pscan (n :: suf) ls ds h = pscan suf ls (pset ds n) true := by simp only [pscan, c, if_true]
        rw [e]
        refine Ev2.congr (fun k j => ?_) (ih (pre ++ [n]) ls (pset ds n) true (by rw [hp]; simp) (by simp; omega) (by simp [pset]; omega) (by simp [pset]; omega))
        simp only [spec_l22Pattern_J11.eq, hw2, W, W1, W2, dig_eq]
        rw [brB_t c, if_pos (by omega), if_pos (by omega)]
        rfl
      · by_cases c2 : plet n = true
        · have e : pscan (n :: suf) ls ds h = pscan suf (ls ++ [n]) (ds ++ [0]) h := by simp only [pscan, c, c2, if_true]; simp
          rw [e]
          refine Ev2.congr (fun k j => ?_) (ih (pre ++ [n]) (ls ++ [n]) (ds ++ [0]) h (by rw [hp]; simp) (by simp; omega) (by simp) (by simp; omega))
          simp only [spec_l22Pattern_J11.eq, hw2, W, W1, W2]
          rw [brB_f (by simpa using c)]
          simp only [plet, Bool.or_eq_true, Bool.and_eq_true, decide_eq_true_eq] at c2
          simp only [List.length_cons, List.length_nil]
          by_cases d1 : 97 ≤ n
          · by_cases d2 : n ≤ 122
            · rw [if_pos d1, if_pos d2, if_pos (by omega), if_pos (by omega)]
            · rw [if_pos d1, if_neg d2, if_pos (by omega), if_pos (by omega), if_pos (by omega)]
          · rw [if_neg d1, if_pos (by omega), if_pos (by omega), if_pos (by omega)]
        · have e : pscan (n :: suf) ls ds h = none := by simp only [pscan, c, c2]; simp
          rw [e]
          refine (Ev2.congr (fun k j => ?_) (Ev2.now _))
          simp only [spec_l22Pattern_J11.eq, hw2, W, W1, W2]
          rw [brB_f (by simpa using c)]
          simp only [plet, Bool.or_eq_true, Bool.and_eq_true, decide_eq_true_eq] at c2
          by_cases d1 : 97 ≤ n
          · by_cases d2 : n ≤ 122
            · exact absurd (Or.inl ⟨d1, d2⟩) c2
            · rw [if_pos d1, if_neg d2, if_neg (by omega)]
              rfl
          · rw [if_neg d1, if_neg (by omega)]
            rfl
theorem ix_mem (c : UInt8) : ∀ l : List UInt8, (0 ≤ Lib.indexByte l c) ↔ c ∈ l := by
  intro l
  induction l with
  | nil => simp [Lib.indexByte]
  | cons b l ih =>
    have hge := Lib.indexByte_ge l c
    simp only [Lib.indexByte]
    by_cases h : b = c
    · subst h; simp
    · have hb : (b == c) = false := by simpa using h
      rw [hb]
      simp only [Bool.false_eq_true, if_false]
      by_cases h2 : Lib.indexByte l c = -1
      · have : ¬ c ∈ l := fun hc => by have := ih.2 hc; omega
        simp [h2, this, Ne.symm h]
      · have h3 : 0 ≤ Lib.indexByte l c := by omega
        have hb2 : (Lib.indexByte l c == -1) = false := by simpa using h2
        rw [hb2]
        simp only [Bool.false_eq_true, if_false]
        constructor
        · intro _; exact List.mem_cons_of_mem _ (ih.1 h3)
        · intro _; omega
theorem bytes_ext {a b : ByteArray} (h : a.data.toList = b.data.toList) : a = b := ByteArray.ext (Array.toList_inj.1 h)
theorem bytesOf_snoc (ls : List Int) (n : Int) (h0 : 0 ≤ n) (h1 : n < 128) : bytesOf ls ++ Utf8.encode n = bytesOf (ls ++ [n]) := by
  have hv : Utf8.valid n = true := by simp [Utf8.valid]; omega
  have e : Utf8.encode n = bytesOf [n] := by
    unfold Utf8.encode bytesOf
    simp only [hv, if_true]
    rw [if_pos (by omega)]
    rfl
  rw [e]
  apply bytes_ext
  simp [bytesOf]
theorem bt_zero (c : UInt8) : bt (bs [c.toNat]) 0 = (c.toNat : Int) := by
  simp [bt, bs]
/-- strings.Contains at one byte -/
theorem contains_one (s : ByteArray) (c : UInt8) : Ev (fun k => strings_Contains k s (bs [c.toNat])) (decide (0 ≤ Lib.indexByte s.data.toList c)) := by
  have hsz : (bs [c.toNat]).size = 1 := rfl
  have h0 : Ev (fun k => internal_bytealg_IndexByteString k s (c.toNat : Int)) (Lib.indexByte s.data.toList c) := by
    refine Ev.ret fun k => ?_
    have : internal_bytealg_IndexByteString (k + 1) s (c.toNat : Int) = some (Lib.indexByte s.data.toList ((c.toNat : Int)).toNat.toUInt8) := by kernel_rfl
    rw [this]
    congr 2
    exact UInt8.toNat_inj.1 (by simp)
  have h1 : Ev (fun k => internal_stringslite_IndexByte k s (c.toNat : Int)) (Lib.indexByte s.data.toList c) := Ev.step (fun k => internal_stringslite_IndexByte.eq s _ k) (Ev.opt h0 (Ev.now _))
  have h2 : Ev (fun k => internal_stringslite_Index k s (bs [c.toNat])) (Lib.indexByte s.data.toList c) := by
    by_cases he : bs [c.toNat] = s
    · have hi : Lib.indexByte s.data.toList c = 0 := by
        rw [← he]
        have : (bs [c.toNat]).data.toList = [c] := by
          show [UInt8.ofNat c.toNat] = [c]
          rw [UInt8.ofNat_toNat]
        rw [this]
        simp [Lib.indexByte]
      rw [hi]
      refine Ev.ret fun k => ?_
      simp only [internal_stringslite_Index.eq, W, W1, hsz]
      rw [if_neg (by decide), if_pos he]
    · refine Ev.step (fun k => ?_) (Ev.opt h1 (Ev.now _))
      simp only [internal_stringslite_Index.eq, W, W1, hsz, bt_zero]
      rw [if_neg (by decide), if_neg he, if_pos (by decide), if_pos (by decide), if_pos (by decide)]
  have h3 : Ev (fun k => strings_Index k s (bs [c.toNat])) (Lib.indexByte s.data.toList c) := Ev.step (fun k => strings_Index.eq s _ k) (Ev.opt h2 (Ev.now _))
  refine Ev.step (fun k => strings_Contains.eq s _ k) (Ev.opt h3 ?_)
  simp only [W]
  exact Ev.now _
theorem contains_dots (ls : List Int) (hl : 2 < ls.length) (hp : ∀ x ∈ ls, 0 ≤ x ∧ x ≤ 255) : Ev (fun k => strings_Contains k ((bytesOf ls).extract 1 (((ls.length : Int) - 1)).toNat) (bs [46])) (dots ls 1) := by
  have e1 : (((ls.length : Int) - 1)).toNat = ls.length - 1 := by omega
  have e2 : ((bytesOf ls).extract 1 (ls.length - 1)).data.toList = ((ls.drop 1).take (ls.length - 1 - 1)).map (fun n => UInt8.ofNat n.toNat) := by
    rw [ByteArray.data_extract, Array.toList_extract, bytesOf_data]
    simp [List.extract, List.map_take, List.map_drop]
  have h := contains_one ((bytesOf ls).extract 1 (ls.length - 1)) 46
  have e4 : decide (0 ≤ Lib.indexByte ((bytesOf ls).extract 1 (ls.length - 1)).data.toList 46) = dots ls 1 := by
    rw [e2]
    unfold dots
    rw [Bool.eq_iff_iff, decide_eq_true_eq, ix_mem, List.mem_map, List.any_eq_true]
    constructor
    · rintro ⟨x, hx, he⟩
      have hb := hp x (List.mem_of_mem_drop (List.mem_of_mem_take hx))
      refine ⟨x, hx, ?_⟩
      have := congrArg UInt8.toNat he
      simp at this
      simp
      omega
    · rintro ⟨x, hx, he⟩
      have hx46 : x = 46 := by simpa using he
      subst hx46
      exact ⟨46, hx, rfl⟩
  rw [e1]
  rw [← e4]
  exact h
theorem letterAZ_ev (n : Int) : Ev (fun k => impl_letterAZ k n) (decide (97 ≤ n) && decide (n ≤ 122)) := by
  refine Ev.ret fun k => ?_
  simp only [impl_letterAZ.eq, W, W1]
  by_cases h : 97 ≤ n
  · rw [if_pos h]; simp [h]
  · rw [if_neg h]; simp [h]
theorem impl_loop (s : ByteArray) (hs : s.size ≤ 1048576) : ∀ (suf pre ls ds : List Int) (h : Bool), nums s = pre ++ suf → ls.length ≤ pre.length → 1 ≤ ds.length → ds.length ≤ pre.length + 1 → (∀ x ∈ ls, 0 ≤ x ∧ x ≤ 255) →
    ∃ v : (ByteArray × List Int) × Bool, Ev2 (fun k j => impl_readHyphens_L4 k j s h (s.size : Int) (pre.length : Int) (bs []) (bytesOf ls) ds) v ∧ v.2 = (specV (pscan suf ls ds h)).2.2 ∧ (v.2 = true → (v.1.1, v.1.2, true) = specV (pscan suf ls ds h)) := by
  intro suf
  induction suf with
  | nil =>
    intro pre ls ds h hp hl hd1 hd2 hv
    have hz : pre.length = s.size := by rw [← nums_len, hp]; simp
    have hsz := bytesOf_size ls
    have hw : subI .i64 (ls.length : Int) 1 = (ls.length : Int) - 1 := subI_i64 (by omega) (by omega)
    refine ⟨((bytesOf ls, ds), sane ls h && !(dots ls 1)), ?_, ?_, ?_⟩
    · by_cases c0 : 1 ≤ ls.length ∧ ls.length ≤ 20 ∧ h = true ∧ 2 < ls.length
      · obtain ⟨d1, d2, c3, c4⟩ := c0
        refine Ev2.step (fun k j => ?_) (Ev2.bind (contains_dots ls c4 hv) (f := fun k j b => if b = true then some ((bytesOf ls, ds), false) else some ((bytesOf ls, ds), true)) ?_)
        · simp only [impl_readHyphens_L4.eq, W, W1, W3, hsz, hw]
          rw [if_neg (by omega)]
          rw [if_neg (by omega), if_neg (by omega), brB_t c3, if_pos (by omega), if_pos (by omega), if_pos (by omega), if_pos (by omega)]
          simp only [brB_b]
          rfl
        · by_cases c5 : dots ls 1 = true
          · simp only [c5, if_true]; simp [sane]; exact Ev2.now _
          · simp only [c5, if_false]; simp [sane, c3, d1, d2]; exact Ev2.now _
      · refine Ev2.ret fun k j => ?_
        simp only [impl_readHyphens_L4.eq, W, W1, hsz]
        rw [if_neg (by omega)]
        unfold sane
        by_cases c1 : ls.length < 1
        · rw [if_pos (by omega)]
          simp [show ¬ 1 ≤ ls.length by omega]
        rw [if_neg (by omega)]
        by_cases c2 : ls.length > 20
        · rw [if_pos (by omega)]
          simp [show ¬ ls.length ≤ 20 by omega]
        rw [if_neg (by omega)]
        have d1 : 1 ≤ ls.length := by omega
        have d2 : ls.length ≤ 20 := by omega
        by_cases c3 : h = true
        · have c4 : ¬ 2 < ls.length := fun hh => c0 ⟨d1, d2, c3, hh⟩
          rw [brB_t c3, if_neg (by omega), dots_end ls 1 (by omega)]
          simp [c3, d1, d2]
        · rw [brB_f (by simpa using c3)]
          simp [c3]
    · simp only [pscan, specV]
      by_cases c5 : dots ls 1 = true
      · simp [c5]
      · simp [c5]
    · simp only [pscan, specV]
      by_cases c5 : dots ls 1 = true
      · simp [c5]
      · intro hh
        simp only [c5, if_false]
        simp only [c5] at hh
        simp at hh
        rw [hh]
        rfl
  | cons n suf ih =>
    intro pre ls ds h hp hl hd1 hd2 hv
    have hz : pre.length + 1 ≤ s.size := by rw [← nums_len, hp]; simp
    have hn := nums_mem s n (by rw [hp]; simp)
    have hb := bt_at s pre suf n hp
    have hsz := bytesOf_size ls
    have hw : subI .i64 (ds.length : Int) 1 = (ds.length : Int) - 1 := subI_i64 (by omega) (by omega)
    have hw2 : addI .i64 (pre.length : Int) 1 = ((pre ++ [n]).length : Int) := by rw [addI_i64 (by omega) (by omega)]; exact len_snoc pre n
    have hfirst : ∀ k j, impl_readHyphens_L4 k (j + 1) s h (s.size : Int) (pre.length : Int) (bs []) (bytesOf ls) ds = impl_readHyphens_J9 k j s h n (s.size : Int) (pre.length : Int) (decide (49 ≤ n) && decide (n ≤ 57)) (bs []) (bytesOf ls) ds := by
      intro k j
      simp only [impl_readHyphens_L4.eq, W, W1, hb]
      rw [if_pos (by omega), if_pos (by omega), if_pos (by omega)]
      by_cases c1 : 49 ≤ n
      · rw [if_pos c1]; simp [c1]
      · rw [if_neg c1]; simp [c1]
    by_cases cd : (decide (49 ≤ n) && decide (n ≤ 57)) = true
    · have cd' := cd
      simp only [Bool.and_eq_true, decide_eq_true_eq] at cd'
      by_cases c0 : rd ds ((ds.length : Int) - 1) 0 = 0
      · have c : pdig n ds = true := by simp [pdig, cd', c0]
        have e : pscan (n :: suf) ls ds h = pscan suf ls (pset ds n) true := by simp only [pscan, c, if_true]
        obtain ⟨v, h1, h2, h3⟩ := ih (pre ++ [n]) ls (pset ds n) true (by rw [hp]; simp) (by simp; omega) (by simp [pset]; omega) (by simp [pset]; omega) hv
        refine ⟨v, Ev2.step (fun k j => ?_) h1, by rw [e]; exact h2, by rw [e]; exact h3⟩
        rw [hfirst, cd]
        simp only [impl_readHyphens_J9.eq, hw2, W, W1, W2, hw, dig_eq]
        rw [if_pos (by omega), if_pos (by omega), if_pos c0, if_pos (by omega), if_pos (by omega)]
        rfl
      · have c : ¬ pdig n ds = true := by simp [pdig, c0]
        have c2 : ¬ plet n = true := by simp [plet]; omega
        have e : pscan (n :: suf) ls ds h = none := by simp only [pscan, c, c2]; simp
        refine ⟨((bytesOf ls, ds), false), Ev2.ret fun k j => ?_, by rw [e]; rfl, fun h => by cases h⟩
        rw [hfirst, cd]
        simp only [impl_readHyphens_J9.eq, W, W1, W2, hw]
        rw [if_pos (by omega), if_pos (by omega), if_neg c0]
    · have cd' : (decide (49 ≤ n) && decide (n ≤ 57)) = false := by simpa using cd
      have c : ¬ pdig n ds = true := by unfold pdig; rw [cd']; simp
      by_cases c2 : plet n = true
      · have c2' := c2
        simp only [plet, Bool.or_eq_true, Bool.and_eq_true, decide_eq_true_eq] at c2'
        have hen := bytesOf_snoc ls n (by omega) (by omega)
        have hes : ((bytesOf ls).size : Int) + ((Utf8.encode n).size : Int) ≤ 9223372036854775807 := by
          have := congrArg ByteArray.size hen
          rw [ByteArray.size_append, bytesOf_size, bytesOf_size] at this
          rw [bytesOf_size]
          simp at this
          omega
        have e : pscan (n :: suf) ls ds h = pscan suf (ls ++ [n]) (ds ++ [0]) h := by simp only [pscan, c, c2, if_true]; simp
        have hv2 : ∀ x ∈ ls ++ [n], 0 ≤ x ∧ x ≤ 255 := by
          intro x hx
          rcases List.mem_append.1 hx with hx | hx
          · exact hv x hx
          · obtain rfl : x = n := by simpa using hx
            exact hn
        obtain ⟨v, h1, h2, h3⟩ := ih (pre ++ [n]) (ls ++ [n]) (ds ++ [0]) h (by rw [hp]; simp) (by simp; omega) (by simp) (by simp; omega) hv2
        refine ⟨v, Ev2.step (fun k j => ?_) (Ev2.bind (letterAZ_ev n) (f := fun k j b => if b = true then impl_readHyphens_L4 k j s h (s.size : Int) ((pre ++ [n]).length : Int) (bs []) (bytesOf (ls ++ [n])) (ds ++ [0]) else if n = 46 then impl_readHyphens_L4 k j s h (s.size : Int) ((pre ++ [n]).length : Int) (bs []) (bytesOf (ls ++ [n])) (ds ++ [0]) else some ((bytesOf ls, ds), false)) ?_), by rw [e]; exact h2, by rw [e]; exact h3⟩
        · rw [hfirst, cd']
          have hds : ((ds.length : Int) + ((0 + 1 : Nat) : Int)) * 8 < 140737488355328 := by omega
          simp only [impl_readHyphens_J9.eq, hw2, W, W1, W2, W3, hen]
          simp only [brB_b, if_pos hes, List.length_cons, List.length_nil, if_pos hds]
        · by_cases d : (decide (97 ≤ n) && decide (n ≤ 122)) = true
          · simp only [d, if_true]; exact h1
          · have d' := d
            simp only [Bool.and_eq_true, decide_eq_true_eq] at d'
            have h46 : n = 46 := by omega
            simp only [d, if_false, if_pos h46]; exact h1
      · have e : pscan (n :: suf) ls ds h = none := by simp only [pscan, c, c2]; simp
        have c2' := c2
        simp only [plet, Bool.or_eq_true, Bool.and_eq_true, decide_eq_true_eq] at c2'
        refine ⟨((bytesOf ls, ds), false), Ev2.step (fun k j => ?_) (Ev2.bind (letterAZ_ev n) (f := fun k j b => brB b (chk (leI (addZ (sz (bytesOf ls)) (sz (Go.Utf8.encode n))) 9223372036854775807) <| chk (ltI (mulZ (addZ (ln ds) (ln ((0 : Int) :: ([] : List Int)))) 8) 140737488355328) <| impl_readHyphens_L4 k j s h (s.size : Int) (addI .i64 (pre.length : Int) 1) (bs []) (catS (bytesOf ls) (Go.Utf8.encode n)) (catL ds (0 :: ([] : List Int)))) (some ((bytesOf ls, ds), false))) ?_), by rw [e]; rfl, fun h => by cases h⟩
        · rw [hfirst, cd']
          rw [impl_readHyphens_J9.eq, brB_f rfl, W3]
          congr 1
          funext b
          congr 1
          simp only [W, W1]
          rw [if_neg (by omega)]
        · have d : (decide (97 ≤ n) && decide (n ≤ 122)) = false := by
            cases hd : (decide (97 ≤ n) && decide (n ≤ 122)) with
            | false => rfl
            | true => simp only [Bool.and_eq_true, decide_eq_true_eq] at hd; exact absurd (Or.inl hd) c2'
          simp only [d, W1]
          exact Ev2.now _
/-- what a pattern is -/
def pat (s : ByteArray) : ByteArray × List Int × Bool := specV (pscan (nums s) [] [0] false)
theorem specPat_ev (s : ByteArray) (hs : s.size ≤ 1048576) : Ev (fun k => spec_l22Pattern k s) (pat s) :=
  Ev.step (fun k => spec_l22Pattern.eq s k) (spec_loop s hs (nums s) [] [] [0] false rfl (by simp) (by simp) (by simp)).ev
theorem implPat_ev (s : ByteArray) (hs : s.size ≤ 1048576) : ∃ v : (ByteArray × List Int) × Bool, Ev (fun k => impl_readHyphens k s) v ∧ v.2 = (pat s).2.2 ∧ (v.2 = true → (v.1.1, v.1.2, true) = pat s) := by
  obtain ⟨v, h1, h2, h3⟩ := impl_loop s hs (nums s) [] [] [0] false rfl (by simp) (by simp) (by simp) (by simp)
  refine ⟨v, Ev.step (fun k => impl_readHyphens.eq s k) h1.ev, h2, h3⟩
end Go.Proofs.Ytopbiepiceajnaa.S
