/-
  Patterns of hyphens, plainly: what the program and the reference read of one.
-/
import Derived.Test.YtopbiepiceajnaaHx1
import Derived.Test.YtopbiepiceajnaaHx2
import Derived.Test.YtopbiepiceajnaaHx3
import Derived.Test.YtopbiepiceajnaaHx4
import Derived.Test.YtopbiepiceajnaaXPre
namespace Go.Proofs.Ytopbiepiceajnaa.XHyph
open Go.RowKit Go.Proofs.Ytopbiepiceajnaa.H Go.Proofs.YtopbiepiceajnaaW.PrintWords Go.Proofs.Ytopbiepiceajnaa.XPre
set_option linter.unusedVariables false
set_option linter.unusedSimpArgs false

def nums (s : ByteArray) : List Int := s.data.toList.map fun c => (c.toNat : Int)
theorem nums_len (s : ByteArray) : (nums s).length = s.size := by rw [nums, List.length_map]; rfl
theorem nums_mem (s : ByteArray) : ∀ n ∈ nums s, 0 ≤ n ∧ n ≤ 255 := by
  intro n hn
  obtain ⟨c, _, rfl⟩ := List.mem_map.1 hn
  have := c.toNat_lt
  omega
theorem bt_at (s : ByteArray) (pre suf : List Int) (n : Int) (h : nums s = pre ++ n :: suf) : bt s (pre.length : Int) = n := by
  have hl : pre.length < s.size := by rw [← nums_len, h]; simp
  unfold bt
  rw [dif_pos (by simpa using hl)]
  have h1 : (nums s)[pre.length]? = some n := by rw [h]; simp
  simp only [nums, List.getElem?_map, Option.map_eq_some_iff] at h1
  obtain ⟨c, hc, rfl⟩ := h1
  have : s[((pre.length : Int)).toNat]'(by simpa using hl) = c := by
    have h2 := List.getElem?_eq_some_iff.1 hc
    obtain ⟨h3, h4⟩ := h2
    rw [← h4]
    simp [ByteArray.getElem_eq_getElem_data]
  rw [this]
def pdig (n : Int) (ds : List Int) : Bool := decide (49 ≤ n) && decide (n ≤ 57) && decide (rd ds ((ds.length : Int) - 1) = 0)
def plet (n : Int) : Bool := (decide (97 ≤ n) && decide (n ≤ 122)) || decide (n = 46)
def pset (ds : List Int) (n : Int) : List Int := ds.set ((ds.length : Int) - 1).toNat ((n - 48) % 256)
/-- Letters, digits, and whether there is a digit. -/
def pscan : List Int → List Int → List Int → Bool → Option (List Int × List Int × Bool)
  | [], ls, ds, h => some (ls, ds, h)
  | n :: r, ls, ds, h => if pdig n ds then pscan r ls (pset ds n) true else if plet n then pscan r (ls ++ [n]) (ds ++ [0]) h else none
def dots (ls : List Int) (i : Nat) : Bool := ((ls.drop i).take (ls.length - 1 - i)).any (· == 46)
def sane (ls : List Int) (h : Bool) : Bool := h && decide (1 ≤ ls.length) && decide (ls.length ≤ 20)
theorem rd_nat (l : List Int) (i : Nat) (h : i < l.length) : rd l (i : Int) = l[i] := by
  unfold rd
  simp [h]
theorem dots_step (ls : List Int) (i : Nat) (h : i + 1 < ls.length) : dots ls i = (ls[i] == 46 || dots ls (i + 1)) := by
  unfold dots
  have e : ls.length - 1 - i = (ls.length - 1 - (i + 1)) + 1 := by omega
  rw [e, List.drop_eq_getElem_cons (by omega), List.take_succ_cons, List.any_cons]
theorem dots_end (ls : List Int) (i : Nat) (h : ¬ i + 1 < ls.length) : dots ls i = false := by
  unfold dots
  have e : ls.length - 1 - i = 0 := by omega
  rw [e]
  rfl
theorem spec_l1 (ls ds : List Int) (h : Bool) (hl : ls.length ≤ 1048576) : ∀ (m i : Nat), ls.length - 1 - i = m → i ≤ 1048576 →
    Ev (fun k => spec_l22Pattern.l1 k ls ds h (i : Int)) (if dots ls i then ((⟨#[]⟩ : ByteArray), ([] : List Int), false) else (strOfNums ls, ds, sane ls h)) := by
  intro m
  induction m with
  | zero =>
    intro i hm hi
    have hc : ¬ i + 1 < ls.length := by omega
    rw [dots_end ls i hc]
    refine Ev.ret fun k => ?_
    simp only [spec_l22Pattern.l1]
    rw [if_neg (by rw [w64 (by omega) (by omega)]; omega)]
    unfold sane
    by_cases c1 : h = true
    · by_cases c2 : 1 ≤ ls.length
      · rw [if_pos c1, if_pos (by omega)]
        simp [c1, c2]
        omega
      · rw [if_pos c1, if_neg (by omega)]
        simp [c2]
    · rw [if_neg c1]
      simp [c1]
  | succ m ih =>
    intro i hm hi
    have hc : i + 1 < ls.length := by omega
    have hr := rd_nat ls i (by omega)
    by_cases c : ls[i] = 46
    · refine Ev.ret fun k => ?_
      simp only [spec_l22Pattern.l1, hr]
      rw [if_pos (by rw [w64 (by omega) (by omega)]; omega), if_pos (by omega), if_pos (by omega), if_pos c]
      rw [dots_step ls i hc]
      simp [c]
    · refine Ev.step (fun k => ?_) (r := (if dots ls i then ((⟨#[]⟩ : ByteArray), ([] : List Int), false) else (strOfNums ls, ds, sane ls h))) (f := fun k => spec_l22Pattern.l1 k ls ds h ((i + 1 : Nat) : Int)) ?_
      · simp only [spec_l22Pattern.l1, hr]
        rw [if_pos (by rw [w64 (by omega) (by omega)]; omega), if_pos (by omega), if_pos (by omega), if_neg c, w64 (by omega) (by omega)]
        rfl
      · have e : dots ls i = dots ls (i + 1) := by rw [dots_step ls i hc]; simp [c]
        rw [e]
        exact ih (i + 1) (by omega) (by omega)
def specV : Option (List Int × List Int × Bool) → ByteArray × List Int × Bool
  | none => (⟨#[]⟩, [], false)
  | some (ls, ds, h) => if dots ls 1 then (⟨#[]⟩, [], false) else (strOfNums ls, ds, sane ls h)
theorem spec_loop (s : ByteArray) (hs : s.size ≤ 1048576) : ∀ (suf pre ls ds : List Int) (h : Bool), nums s = pre ++ suf → ls.length ≤ pre.length → 1 ≤ ds.length → ds.length ≤ pre.length + 1 →
    Ev (fun k => spec_l22Pattern.l0 k s ls ds h (pre.length : Int)) (specV (pscan suf ls ds h)) := by
  intro suf
  induction suf with
  | nil =>
    intro pre ls ds h hp hl hd1 hd2
    have hz : pre.length = s.size := by rw [← nums_len, hp]; simp
    refine Ev.step (f := fun k => spec_l22Pattern.l1 k ls ds h ((1 : Nat) : Int)) (fun k => ?_) ?_
    · simp only [spec_l22Pattern.l0]
      rw [if_neg (by omega)]
      rfl
    · exact spec_l1 ls ds h (by omega) _ 1 rfl (by omega)
  | cons n suf ih =>
    intro pre ls ds h hp hl hd1 hd2
    have hz : pre.length + 1 ≤ s.size := by rw [← nums_len, hp]; simp
    have hb := bt_at s pre suf n hp
    have hlen : (pre.length : Int) + 1 = ((pre ++ [n]).length : Int) := by simp
    have hw : wrap64 ((ds.length : Int) - 1) = (ds.length : Int) - 1 := w64 (by omega) (by omega)
    have hw2 : wrap64 ((pre.length : Int) + 1) = ((pre ++ [n]).length : Int) := by rw [w64 (by omega) (by omega)]; exact hlen
    refine Ev.step (f := fun k => spec_l22Pattern.j1 k s ls ds h (pre.length : Int) n ((ds.length : Int) - 1) (pdig n ds)) (fun k => ?_) ?_
    · simp only [spec_l22Pattern.l0, hb, hw]
      rw [if_pos (by omega), if_pos (by omega)]
      by_cases c1 : n ≥ 49
      · by_cases c2 : n ≤ 57
        · rw [if_pos c1, if_pos c2, if_pos (by omega), if_pos (by omega)]
          congr 1
          have c1' : 49 ≤ n := c1
          simp only [pdig, c1', c2, decide_true, Bool.true_and]
          rfl
        · rw [if_pos c1, if_neg c2]
          simp [pdig, c2]
      · have c1' : ¬ 49 ≤ n := c1
        rw [if_neg c1]
        simp [pdig, c1']
    · by_cases c : pdig n ds = true
      · have e : pscan (n :: suf) ls ds h = pscan suf ls (pset ds n) true := by simp only [pscan, c, if_true]
        rw [e]
        refine Ev.step (fun k => ?_) (ih (pre ++ [n]) ls (pset ds n) true (by rw [hp]; simp) (by simp; omega) (by simp [pset]; omega) (by simp [pset]; omega))
        simp only [spec_l22Pattern.j1, hw2]
        rw [if_pos c, if_pos (by omega), if_pos (by omega)]
        rfl
      · by_cases c2 : plet n = true
        · have e : pscan (n :: suf) ls ds h = pscan suf (ls ++ [n]) (ds ++ [0]) h := by simp only [pscan, c, c2, if_true]; simp
          rw [e]
          refine Ev.step (fun k => ?_) (ih (pre ++ [n]) (ls ++ [n]) (ds ++ [0]) h (by rw [hp]; simp) (by simp; omega) (by simp) (by simp; omega))
          simp only [spec_l22Pattern.j1, hw2]
          rw [if_neg c]
          simp only [plet, Bool.or_eq_true, Bool.and_eq_true, decide_eq_true_eq] at c2
          by_cases d1 : n ≥ 97
          · by_cases d2 : n ≤ 122
            · rw [if_pos d1, if_pos d2, if_pos (by omega), if_pos (by omega)]
            · rw [if_pos d1, if_neg d2, if_pos (by omega), if_pos (by omega), if_pos (by omega)]
          · rw [if_neg d1, if_pos (by omega), if_pos (by omega), if_pos (by omega)]
        · have e : pscan (n :: suf) ls ds h = none := by simp only [pscan, c, c2]; simp
          rw [e]
          refine Ev.ret fun k => ?_
          simp only [spec_l22Pattern.j1]
          rw [if_neg c]
          simp only [plet, Bool.or_eq_true, Bool.and_eq_true, decide_eq_true_eq] at c2
          by_cases d1 : n ≥ 97
          · by_cases d2 : n ≤ 122
            · exact absurd (Or.inl ⟨d1, d2⟩) c2
            · rw [if_pos d1, if_neg d2, if_neg (by omega)]
              rfl
          · rw [if_neg d1, if_neg (by omega)]
            rfl
theorem ix_mem (c : UInt8) : ∀ l : List UInt8, (0 ≤ Lib.indexByte l c) ↔ c ∈ l := by
  intro l
  induction l with
  | nil => simp [Lib.indexByte]
  | cons b l ih =>
    have hge := Lib.indexByte_ge l c
    simp only [Lib.indexByte]
    by_cases h : b = c
    · subst h; simp
    · have hb : (b == c) = false := by simpa using h
      rw [hb]
      simp only [Bool.false_eq_true, if_false]
      by_cases h2 : Lib.indexByte l c = -1
      · have : ¬ c ∈ l := fun hc => by have := ih.2 hc; omega
        simp [h2, this, Ne.symm h]
      · have h3 : 0 ≤ Lib.indexByte l c := by omega
        have hb2 : (Lib.indexByte l c == -1) = false := by simpa using h2
        rw [hb2]
        simp only [Bool.false_eq_true, if_false]
        constructor
        · intro _; exact List.mem_cons_of_mem _ (ih.1 h3)
        · intro _; omega
theorem strOf_snoc (ls : List Int) (n : Int) (h0 : 0 ≤ n) (h1 : n < 128) : strOfNums ls ++ Utf8.encode n = strOfNums (ls ++ [n]) := by
  have hv : Utf8.valid n = true := by simp [Utf8.valid]; omega
  have e : Utf8.encode n = strOfNums [n] := by
    unfold Utf8.encode strOfNums
    simp only [hv, if_true]
    rw [if_pos (by omega)]
    rfl
  rw [e]
  apply toList_inj
  rw [ByteArray.toList_eq, ByteArray.toList_eq]
  simp [strOfNums]
theorem contains_dots (ls : List Int) (hl : 2 < ls.length) (hp : ∀ x ∈ ls, 0 ≤ x ∧ x ≤ 255) : strings_Contains.f ((strOfNums ls).extract 1 (((ls.length : Int) - 1)).toNat) (⟨#[46]⟩ : ByteArray) = some (dots ls 1) := by
  have e1 : (((ls.length : Int) - 1)).toNat = ls.length - 1 := by omega
  have e2 : ((strOfNums ls).extract 1 (ls.length - 1)).data.toList = ((ls.drop 1).take (ls.length - 1 - 1)).map (fun n => UInt8.ofNat n.toNat) := by
    rw [ByteArray.data_extract, Array.toList_extract, strOfNums_data]
    simp [List.extract, List.map_take, List.map_drop]
  have e3 : strings_Contains.f ((strOfNums ls).extract 1 (ls.length - 1)) (⟨#[46]⟩ : ByteArray) = some (decide (0 ≤ Lib.indexByte ((strOfNums ls).extract 1 (ls.length - 1)).data.toList 46)) := rfl
  rw [e1, e3, e2]
  congr 1
  unfold dots
  rw [Bool.eq_iff_iff, decide_eq_true_eq, ix_mem, List.mem_map, List.any_eq_true]
  constructor
  · rintro ⟨x, hx, he⟩
    have hb := hp x (List.mem_of_mem_drop (List.mem_of_mem_take hx))
    refine ⟨x, hx, ?_⟩
    have := congrArg UInt8.toNat he
    simp at this
    simp
    omega
  · rintro ⟨x, hx, he⟩
    have hx46 : x = 46 := by simpa using he
    subst hx46
    exact ⟨46, hx, rfl⟩
theorem impl_loop (s : ByteArray) (hs : s.size ≤ 1048576) : ∀ (suf pre ls ds : List Int) (h : Bool), nums s = pre ++ suf → ls.length ≤ pre.length → 1 ≤ ds.length → ds.length ≤ pre.length + 1 → (∀ x ∈ ls, 0 ≤ x ∧ x ≤ 255) →
    ∃ v, Ev (fun k => impl_readHyphens.l0 k s h (s.size : Int) (pre.length : Int) (strOfNums ls) ds) v ∧ v.2.2 = (specV (pscan suf ls ds h)).2.2 ∧ (v.2.2 = true → v = specV (pscan suf ls ds h)) := by
  intro suf
  induction suf with
  | nil =>
    intro pre ls ds h hp hl hd1 hd2 hv
    have hz : pre.length = s.size := by rw [← nums_len, hp]; simp
    have hsz := strOfNums_size ls
    refine ⟨(strOfNums ls, ds, sane ls h && !(dots ls 1)), Ev.ret fun k => ?_, ?_, ?_⟩
    · simp only [impl_readHyphens.l0, hsz]
      rw [if_neg (by omega)]
      unfold sane
      by_cases c1 : ls.length < 1
      · rw [if_pos (by omega)]
        simp [show ¬ 1 ≤ ls.length by omega]
      rw [if_neg (by omega)]
      by_cases c2 : ls.length > 20
      · rw [if_pos (by omega)]
        simp [show ¬ ls.length ≤ 20 by omega]
      rw [if_neg (by omega)]
      have d1 : 1 ≤ ls.length := by omega
      have d2 : ls.length ≤ 20 := by omega
      by_cases c3 : h = true
      · rw [if_pos c3]
        by_cases c4 : 2 < ls.length
        · have hw : wrap64 ((ls.length : Int) - 1) = (ls.length : Int) - 1 := w64 (by omega) (by omega)
          rw [if_pos (by omega), hw, if_pos (by omega), if_pos (by omega), contains_dots ls c4 hv, Option.bind_some]
          by_cases c5 : dots ls 1 = true
          · rw [if_pos c5]; simp [c5]
          · rw [if_neg c5]; simp [c3, d1, d2, c5]
        · rw [if_neg (by omega), dots_end ls 1 (by omega)]
          simp [c3, d1, d2]
      · rw [if_neg c3]
        simp [c3]
    · simp only [pscan, specV]
      by_cases c5 : dots ls 1 = true
      · simp [c5]
      · simp [c5]
    · simp only [pscan, specV]
      by_cases c5 : dots ls 1 = true
      · simp [c5]
      · simp [c5]
  | cons n suf ih =>
    intro pre ls ds h hp hl hd1 hd2 hv
    have hz : pre.length + 1 ≤ s.size := by rw [← nums_len, hp]; simp
    have hn := nums_mem s n (by rw [hp]; simp)
    have hb := bt_at s pre suf n hp
    have hsz := strOfNums_size ls
    have hlen : (pre.length : Int) + 1 = ((pre ++ [n]).length : Int) := by simp
    have hw : wrap64 ((ds.length : Int) - 1) = (ds.length : Int) - 1 := w64 (by omega) (by omega)
    have hw2 : wrap64 ((pre.length : Int) + 1) = ((pre ++ [n]).length : Int) := by rw [w64 (by omega) (by omega)]; exact hlen
    have hfirst : ∀ k, impl_readHyphens.l0 (k + 1) s h (s.size : Int) (pre.length : Int) (strOfNums ls) ds = impl_readHyphens.j1 k s h n (s.size : Int) (pre.length : Int) (decide (49 ≤ n) && decide (n ≤ 57)) (strOfNums ls) ds := by
      intro k
      simp only [impl_readHyphens.l0, hb]
      rw [if_pos (by omega), if_pos (by omega), if_pos (by omega)]
      by_cases c1 : n ≥ 49
      · have c1' : 49 ≤ n := c1
        rw [if_pos c1]; simp [c1']
      · have c1' : ¬ 49 ≤ n := c1
        rw [if_neg c1]; simp [c1']
    by_cases cd : (decide (49 ≤ n) && decide (n ≤ 57)) = true
    · have cd' := cd
      simp only [Bool.and_eq_true, decide_eq_true_eq] at cd'
      by_cases c0 : rd ds ((ds.length : Int) - 1) = 0
      · have c : pdig n ds = true := by simp [pdig, cd', c0]
        have e : pscan (n :: suf) ls ds h = pscan suf ls (pset ds n) true := by simp only [pscan, c, if_true]
        obtain ⟨v, h1, h2, h3⟩ := ih (pre ++ [n]) ls (pset ds n) true (by rw [hp]; simp) (by simp; omega) (by simp [pset]; omega) (by simp [pset]; omega) hv
        refine ⟨v, Ev.step (f := _) hfirst (Ev.step (fun k => ?_) h1), by rw [e]; exact h2, by rw [e]; exact h3⟩
        rw [cd]
        simp only [impl_readHyphens.j1, hw2, hw, if_true]
        rw [if_pos (by omega), if_pos (by omega), if_pos c0]
        rfl
      · have c : ¬ pdig n ds = true := by simp [pdig, c0]
        have c2 : ¬ plet n = true := by simp [plet]; omega
        have e : pscan (n :: suf) ls ds h = none := by simp only [pscan, c, c2]; simp
        refine ⟨(strOfNums ls, ds, false), Ev.step (f := _) hfirst (Ev.ret fun k => ?_), by rw [e]; rfl, fun h => by cases h⟩
        rw [cd]
        simp only [impl_readHyphens.j1, hw, if_true]
        rw [if_pos (by omega), if_pos (by omega), if_neg c0]
    · have cd' : (decide (49 ≤ n) && decide (n ≤ 57)) = false := by simpa using cd
      have c : ¬ pdig n ds = true := by unfold pdig; rw [cd']; simp
      have hlet : ∀ k, impl_readHyphens.j1 (k + 1) s h n (s.size : Int) (pre.length : Int) false (strOfNums ls) ds = if plet n = true then impl_readHyphens.l0 k s h (s.size : Int) ((pre ++ [n]).length : Int) (strOfNums (ls ++ [n])) (ds ++ [0]) else some (strOfNums ls, ds, false) := by
        intro k
        simp only [impl_readHyphens.j1, hw2, impl_letterAZ.f, Bool.false_eq_true, if_false]
        by_cases c2 : plet n = true
        · have c2' := c2
          simp only [plet, Bool.or_eq_true, Bool.and_eq_true, decide_eq_true_eq] at c2'
          have hen := strOf_snoc ls n (by omega) (by omega)
          have hes : (strOfNums ls).size + (Utf8.encode n).size ≤ 9223372036854775807 := by
            have := congrArg ByteArray.size hen
            rw [ByteArray.size_append, strOfNums_size, strOfNums_size] at this
            rw [strOfNums_size]
            simp at this
            omega
          rw [if_pos c2, hen]
          by_cases d1 : n ≥ 97
          · rw [if_pos d1, Option.bind_some]
            by_cases d2 : n ≤ 122
            · rw [if_pos (by simpa using d2), if_pos hes, if_pos (by omega)]
            · rw [if_neg (by simpa using d2), if_pos (by omega), if_pos hes, if_pos (by omega)]
          · rw [if_neg d1, Option.bind_some, if_neg (by simp), if_pos (by omega), if_pos hes, if_pos (by omega)]
        · have c2' := c2
          simp only [plet, Bool.or_eq_true, Bool.and_eq_true, decide_eq_true_eq] at c2'
          rw [if_neg c2]
          by_cases d1 : n ≥ 97
          · have d2 : ¬ n ≤ 122 := fun h => c2' (Or.inl ⟨d1, h⟩)
            rw [if_pos d1, Option.bind_some, if_neg (by simpa using d2), if_neg (by omega)]
          · rw [if_neg d1, Option.bind_some, if_neg (by simp), if_neg (by omega)]
      by_cases c2 : plet n = true
      · have e : pscan (n :: suf) ls ds h = pscan suf (ls ++ [n]) (ds ++ [0]) h := by simp only [pscan, c, c2, if_true]; simp
        have hv2 : ∀ x ∈ ls ++ [n], 0 ≤ x ∧ x ≤ 255 := by
          intro x hx
          rcases List.mem_append.1 hx with hx | hx
          · exact hv x hx
          · obtain rfl : x = n := by simpa using hx
            exact hn
        obtain ⟨v, h1, h2, h3⟩ := ih (pre ++ [n]) (ls ++ [n]) (ds ++ [0]) h (by rw [hp]; simp) (by simp; omega) (by simp) (by simp; omega) hv2
        refine ⟨v, Ev.step (f := _) hfirst (Ev.step (fun k => ?_) h1), by rw [e]; exact h2, by rw [e]; exact h3⟩
        rw [cd', hlet k, if_pos c2]
      · have e : pscan (n :: suf) ls ds h = none := by simp only [pscan, c, c2]; simp
        refine ⟨(strOfNums ls, ds, false), Ev.step (f := _) hfirst (Ev.ret fun k => ?_), by rw [e]; rfl, fun h => by cases h⟩
        rw [cd', hlet k, if_neg c2]
def pat (s : ByteArray) : ByteArray × List Int × Bool := specV (pscan (nums s) [] [0] false)
theorem specPat_ev (s : ByteArray) (hs : s.size ≤ 1048576) : Ev (fun k => spec_l22Pattern.f k s) (pat s) := by
  unfold spec_l22Pattern.f
  exact spec_loop s hs (nums s) [] [] [0] false rfl (by simp) (by simp) (by simp)
theorem implPat_ev (s : ByteArray) (hs : s.size ≤ 1048576) : ∃ v, Ev (fun k => impl_readHyphens.f k s) v ∧ v.2.2 = (pat s).2.2 ∧ (v.2.2 = true → v = pat s) := by
  unfold impl_readHyphens.f
  exact impl_loop s hs (nums s) [] [] [0] false rfl (by simp) (by simp) (by simp) (by simp)
end Go.Proofs.Ytopbiepiceajnaa.XHyph
