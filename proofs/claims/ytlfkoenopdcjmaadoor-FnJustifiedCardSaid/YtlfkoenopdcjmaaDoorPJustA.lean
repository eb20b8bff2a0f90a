/- Blanks, trims and places of blanks, by both sides. -/
import Derived.Test.YtlfkoenopdcjmaaDoorPWideB
import Derived.Lib.Repeat
namespace Go.Proofs.YtlfkoenopdcjmaaDoor.JF
open Go.Eng Go.RowKit
set_option linter.unusedVariables false
set_option linter.unusedSimpArgs false
/-! ### blanks -/
def blk (n : Nat) : ByteArray := ⟨(List.replicate n (32 : UInt8)).toArray⟩
theorem blk_size (n : Nat) : (blk n).size = n := by simp [blk, ByteArray.size]
theorem blk_zero : blk 0 = ByteArray.empty := rfl
theorem repeat_ev (n : Nat) (hn : n ≤ 1000000) : Ev (fun k => strings_Repeat k (bs [32]) (n : Int)) (blk n) := by
  refine Ev.ret fun k => ?_
  have h : strings_Repeat (k + 1) (bs [32]) (n : Int) = xRepeat [.str (bs [32]), .int .i64 (n : Int)] [] := by kernel_rfl
  rw [h]
  have hs : (bs [32]).size = 1 := rfl
  show (if 0 ≤ (n : Int) ∧ (n : Int) ≤ 9223372036854775807 ∧ (bs [32]).size * ((n : Int)).toNat ≤ 140737488355328 then some (⟨(Lib.repeatL (bs [32]).data.toList ((n : Int)).toNat).toArray⟩ : ByteArray) else none) = some (blk n)
  rw [if_pos ⟨by omega, by omega, by rw [hs, Int.toNat_natCast]; omega⟩, Int.toNat_natCast]
  have hl : (bs [32]).data.toList = List.replicate 1 (32 : UInt8) := rfl
  rw [hl, Lib.repeatL_replicate, Nat.mul_one]
  rfl
theorem bytesOf_blk (n : Nat) : bytesOf (List.replicate n (32 : Int)) = blk n := by
  unfold bytesOf blk
  simp
theorem blanks_loop : ∀ (f i : Nat), i + f ≤ 1000000 → Ev2 (fun k j => spec_l22Blanks_L2 k j (f : Int) (List.replicate i 32)) (blk (i + f)) := by
  intro f
  induction f with
  | zero =>
    intro i hi
    have e := fun k j => spec_l22Blanks_L2.eq ((0 : Nat) : Int) (List.replicate i 32) k j
    simp only [W, W1, W2, if_neg (show ¬ (0 : Int) < ((0 : Nat) : Int) by omega), bytesOf_blk] at e
    exact Ev2.ret e
  | succ f ih =>
    intro i hi
    have e := fun k j => spec_l22Blanks_L2.eq ((f + 1 : Nat) : Int) (List.replicate i 32) k j
    have hsub : subI .i64 ((f + 1 : Nat) : Int) 1 = (f : Int) := by rw [subI_i64 (by omega) (by omega)]; omega
    have hrep : List.replicate i (32 : Int) ++ [32] = List.replicate (i + 1) 32 := by rw [List.replicate_succ']
    simp only [W, W1, W2, hsub, hrep, List.length_replicate, List.length_cons, List.length_nil, if_pos (show (0 : Int) < ((f + 1 : Nat) : Int) by omega), if_pos (show ((i : Int) + ((0 + 1 : Nat) : Int)) * 1 < 140737488355328 by omega)] at e
    have h := ih (i + 1) (by omega)
    rw [show i + 1 + f = i + (f + 1) by omega] at h
    exact Ev2.step e h
theorem blanks_ev (n : Nat) (hn : n ≤ 1000000) : Ev (fun k => spec_l22Blanks k (n : Int)) (blk n) := by
  have h := (blanks_loop n 0 (by omega)).ev
  rw [Nat.zero_add] at h
  exact Ev.step (fun k => spec_l22Blanks.eq (n : Int) k) h
/-! ### pieces of bytes -/
theorem B_ext (s : ByteArray) (a b i : Nat) (h : a + i < b) : B (s.extract a b) i = B s (a + i) := by
  unfold B
  rw [ext_list]
  congr 1
  simp only [List.getD, List.getElem?_drop, List.getElem?_take]
  rw [if_pos (by omega)]
theorem ext_ext (s : ByteArray) (a b c d : Nat) (h1 : a + d ≤ b) (h2 : b ≤ s.size) : (s.extract a b).extract c d = s.extract (a + c) (a + d) := by
  apply ByteArray.ext
  simp only [ByteArray.data_extract, Array.extract_extract]
  rw [Nat.min_eq_left h1]
theorem bs_nil (w : ByteArray) : (w = bs []) ↔ w.size = 0 := by
  constructor
  · rintro rfl; rfl
  · intro h
    apply ByteArray.ext
    exact Array.eq_empty_of_size_eq_zero h
/-- is there something else than blanks ahead of a place -/
def nb (s : ByteArray) : Nat → Bool
  | 0 => false
  | k + 1 => decide (B s k ≠ 32) || nb s k
theorem nb_succ (s : ByteArray) (k : Nat) : nb s (k + 1) = (decide (B s k ≠ 32) || nb s k) := rfl
/-- where the first m bytes end without blanks -/
def te (s : ByteArray) : Nat → Nat
  | 0 => 0
  | k + 1 => if B s k = 32 then te s k else k + 1
theorem te_le (s : ByteArray) : ∀ m, te s m ≤ m := by
  intro m
  induction m with
  | zero => exact Nat.le_refl _
  | succ m ih => unfold te; split <;> omega
theorem te_nb (s : ByteArray) : ∀ m, nb s m = decide (0 < te s m) := by
  intro m
  induction m with
  | zero => rfl
  | succ m ih =>
    unfold te nb
    by_cases c : B s m = 32
    · rw [if_pos c, ih]; simp [c]
    · rw [if_neg c]; simp [c]
theorem te_last (s : ByteArray) : ∀ m, 0 < te s m → B s (te s m - 1) ≠ 32 := by
  intro m
  induction m with
  | zero => intro h; exact absurd h (Nat.lt_irrefl 0)
  | succ m ih =>
    unfold te
    by_cases c : B s m = 32
    · rw [if_pos c]; exact ih
    · rw [if_neg c]; intro _; exact c
theorem te_max (s : ByteArray) : ∀ m i, te s m ≤ i → i < m → B s i = 32 := by
  intro m
  induction m with
  | zero => intro i _ h; exact absurd h (Nat.not_lt_zero _)
  | succ m ih =>
    intro i h1 h2
    unfold te at h1
    by_cases c : B s m = 32
    · rw [if_pos c] at h1
      by_cases q : i = m
      · rw [q]; exact c
      · exact ih i h1 (by omega)
    · rw [if_neg c] at h1; omega
theorem trimR_loop (s : ByteArray) : ∀ m, m ≤ s.size → s.size ≤ 1048576 → Ev2 (fun k j => strings_trimRightByte_L1 k j (s.extract 0 m) 32) (s.extract 0 (te s m)) := by
  intro m
  induction m with
  | zero =>
    intro hm hs
    have e := fun k j => strings_trimRightByte_L1.eq (s.extract 0 0) 32 k j
    have h0 : (s.extract 0 0).size = 0 := by rw [ByteArray.size_extract]; omega
    simp only [W, W1, h0, if_neg (show ¬ (0 : Int) < ((0 : Nat) : Int) by omega)] at e
    exact Ev2.ret e
  | succ m ih =>
    intro hm hs
    have e := fun k j => strings_trimRightByte_L1.eq (s.extract 0 (m + 1)) 32 k j
    have h0 : (s.extract 0 (m + 1)).size = m + 1 := by rw [ByteArray.size_extract]; omega
    have hsub : subI .i64 ((m + 1 : Nat) : Int) 1 = (m : Int) := by rw [subI_i64 (by omega) (by omega)]; omega
    have hb : B (s.extract 0 (m + 1)) m = B s m := by rw [B_ext s 0 (m + 1) m (by omega), Nat.zero_add]
    have hx : (s.extract 0 (m + 1)).extract 0 m = s.extract 0 m := by rw [ext_ext s 0 (m + 1) 0 m (by omega) hm]; simp only [Nat.zero_add]
    simp only [W, W1, h0, hsub, bt_B, hb, Int.toNat_zero, Int.toNat_natCast, hx, if_pos (show (0 : Int) < ((m + 1 : Nat) : Int) by omega), if_pos (nat_ge m), if_pos (show (m : Int) < ((m + 1 : Nat) : Int) by omega), if_pos (show (m : Int) ≤ ((m + 1 : Nat) : Int) by omega)] at e
    unfold te
    by_cases c : B s m = 32
    · rw [if_pos c]
      simp only [if_pos (show (B s m : Int) = 32 by omega)] at e
      exact Ev2.step e (ih (by omega) hs)
    · rw [if_neg c]
      simp only [if_neg (show ¬ (B s m : Int) = 32 by omega)] at e
      exact Ev2.ret e
theorem trimL_loop : ∀ (m : Nat) (w : ByteArray), w.size = m + 1 → m < 1048576 → B w m ≠ 32 → ∃ v, Ev2 (fun k j => strings_trimLeftByte_L1 k j w 32) v ∧ 0 < v.size := by
  intro m
  induction m with
  | zero =>
    intro w hw hm hb
    have e := fun k j => strings_trimLeftByte_L1.eq w 32 k j
    simp only [W, W1, hw, show bt w 0 = (B w 0 : Int) from bt_B w 0, if_pos (show (0 : Int) < ((0 + 1 : Nat) : Int) by omega), if_pos (Int.le_refl 0), if_neg (show ¬ (B w 0 : Int) = 32 by omega)] at e
    exact ⟨w, Ev2.ret e, by omega⟩
  | succ m ih =>
    intro w hw hm hb
    have e := fun k j => strings_trimLeftByte_L1.eq w 32 k j
    simp only [W, W1, hw, show bt w 0 = (B w 0 : Int) from bt_B w 0, Int.toNat_natCast, if_pos (show (0 : Int) < ((m + 1 + 1 : Nat) : Int) by omega), if_pos (Int.le_refl 0), if_pos (show (0 : Int) ≤ 1 by omega), if_pos (show (1 : Int) ≤ ((m + 1 + 1 : Nat) : Int) by omega)] at e
    by_cases c : (B w 0 : Int) = 32
    · simp only [if_pos c] at e
      obtain ⟨v, hv, h0⟩ := ih (w.extract 1 (m + 1 + 1)) (by rw [ByteArray.size_extract]; omega) (by omega) (by rw [B_ext w 1 (m + 1 + 1) m (by omega), Nat.add_comm]; exact hb)
      exact ⟨v, Ev2.step e hv, h0⟩
    · simp only [if_neg c] at e
      exact ⟨w, Ev2.ret e, by omega⟩
theorem set1 : (bs [32]).size = 1 := rfl
theorem set2 : ¬ bs [32] = bs [] := fun h => by have := congrArg ByteArray.size h; revert this; decide
theorem set3 : bt (bs [32]) 0 = 32 := by have := bt_B (bs [32]) 0; exact this.trans rfl
theorem trimRight_ev (s : ByteArray) (hs : s.size ≤ 1048576) : Ev (fun k => strings_TrimRight k s (bs [32])) (s.extract 0 (te s s.size)) := by
  have e := fun k => strings_TrimRight.eq s (bs [32]) k
  have hx : s.extract 0 s.size = s := by apply ByteArray.ext; simp [ByteArray.data_extract]
  simp only [W, W1, W3, set1, set3, if_neg set2, if_pos (show ((1 : Nat) : Int) = 1 by omega), if_pos (Int.le_refl 0), if_pos (show (0 : Int) < ((1 : Nat) : Int) by omega), if_pos (show (32 : Int) < 128 by omega)] at e
  by_cases c : s = bs []
  · simp only [if_pos c] at e
    have h0 : s.size = 0 := (bs_nil s).1 c
    have : s.extract 0 (te s s.size) = s := by
      have := te_le s s.size
      rw [show te s s.size = s.size by omega, hx]
    rw [this]
    exact Ev.ret e
  · simp only [if_neg c] at e
    have h := (trimR_loop s s.size (Nat.le_refl _) hs).ev
    rw [hx] at h
    exact Ev.step e (Ev.bind (Ev.step (fun k => strings_trimRightByte.eq s 32 k) h) (Ev.now _))
theorem trim_ev (s : ByteArray) (m : Nat) (hm : m ≤ s.size) (hs : s.size ≤ 1048576) : ∃ v, Ev (fun k => strings_Trim k (s.extract 0 m) (bs [32])) v ∧ (v = bs [] ↔ nb s m = false) := by
  have e := fun k => strings_Trim.eq (s.extract 0 m) (bs [32]) k
  have hsz : (s.extract 0 m).size = m := by rw [ByteArray.size_extract]; omega
  simp only [W, W1, W3, set1, set3, if_neg set2, if_pos (show ((1 : Nat) : Int) = 1 by omega), if_pos (Int.le_refl 0), if_pos (show (0 : Int) < ((1 : Nat) : Int) by omega), if_pos (show (32 : Int) < 128 by omega)] at e
  by_cases c : s.extract 0 m = bs []
  · simp only [if_pos c] at e
    have h0 := (bs_nil _).1 c
    rw [hsz] at h0
    subst h0
    exact ⟨_, Ev.ret e, by rw [c]; simp [nb]⟩
  · simp only [if_neg c] at e
    have h := (trimR_loop s m hm hs).ev
    have hR : Ev (fun k => strings_trimRightByte k (s.extract 0 m) 32) (s.extract 0 (te s m)) := Ev.step (fun k => strings_trimRightByte.eq (s.extract 0 m) 32 k) h
    have tl := te_le s m
    have hts : (s.extract 0 (te s m)).size = te s m := by rw [ByteArray.size_extract]; omega
    rw [te_nb]
    by_cases q : 0 < te s m
    · obtain ⟨v, hv, h0⟩ := trimL_loop (te s m - 1) (s.extract 0 (te s m)) (by omega) (by omega) (by rw [B_ext s 0 (te s m) _ (by omega), Nat.zero_add]; exact te_last s m q)
      refine ⟨v, Ev.step e (Ev.bind hR (Ev.bind (Ev.step (fun k => strings_trimLeftByte.eq _ 32 k) hv.ev) (Ev.now _))), ?_⟩
      rw [bs_nil, decide_eq_true q]
      constructor
      · intro h; omega
      · intro h; cases h
    · have e2 := fun k j => strings_trimLeftByte_L1.eq (s.extract 0 (te s m)) 32 k j
      simp only [W, W1, hts, if_neg (show ¬ (0 : Int) < (te s m : Int) by omega)] at e2
      have h2 : Ev2 (fun k j => strings_trimLeftByte_L1 k j (s.extract 0 (te s m)) 32) (s.extract 0 (te s m)) := Ev2.ret e2
      refine ⟨s.extract 0 (te s m), Ev.step e (Ev.bind hR (Ev.bind (Ev.step (fun k => strings_trimLeftByte.eq _ 32 k) h2.ev) (Ev.now _))), ?_⟩
      rw [bs_nil, hts, decide_eq_false q]
      constructor
      · intro _; rfl
      · intro _; omega
/-! ### places behind rows of blanks -/
def gp (s : ByteArray) (i : Nat) : Bool := decide (B s (i - 1) = 32 ∧ B s i ≠ 32) && nb s i
def gapsFrom (s : ByteArray) : Nat → Nat → List Int
  | 0, _ => []
  | m + 1, i => if gp s i = true then (i : Int) :: gapsFrom s m (i + 1) else gapsFrom s m (i + 1)
theorem gap_back (s : ByteArray) (hs : s.size ≤ 1048576) (i : Nat) (out : List Int) (r : List Int) (hi : i < s.size) (ho : out.length ≤ 1048576)
    (h : ∀ b, b = nb s i → Ev2 (fun k j => spec_l22Gaps_L3 k j s ((i + 1 : Nat) : Int) (if b = true then out ++ [(i : Int)] else out)) r) : ∀ q : Nat, q ≤ i → nb s q = nb s i →
    Ev3 (fun k j p => spec_l22Gaps_L7 k j p s (i : Int) ((q : Int) - 1) out) r := by
  have hadd : addI .i64 (i : Int) 1 = ((i + 1 : Nat) : Int) := by rw [addI_i64 (by omega) (by omega)]; omega
  intro q
  induction q with
  | zero =>
    intro hq hn
    have e := fun k j p => spec_l22Gaps_L7.eq s (i : Int) (((0 : Nat) : Int) - 1) out k j p
    simp only [W, W1, W2, hadd, if_neg (show ¬ (0 : Int) ≤ ((0 : Nat) : Int) - 1 by omega)] at e
    have h' := h false hn
    simp only [Bool.false_eq_true, if_false] at h'
    exact Ev3.step e h'.three
  | succ q ih =>
    intro hq hn
    have hk : ((q + 1 : Nat) : Int) - 1 = (q : Int) := by omega
    rw [hk]
    have e := fun k j p => spec_l22Gaps_L7.eq s (i : Int) (q : Int) out k j p
    have hsub : subI .i64 (q : Int) 1 = (q : Int) - 1 := subI_i64 (by omega) (by omega)
    simp only [W, W1, W2, hadd, hsub, bt_B, List.length_cons, List.length_nil, if_pos (nat_ge q), if_pos (show (q : Int) < (s.size : Int) by omega), if_pos (show ((out.length : Int) + ((0 + 1 : Nat) : Int)) * 8 < 140737488355328 by omega)] at e
    by_cases c : B s q = 32
    · simp only [if_pos (show (B s q : Int) = 32 by omega)] at e
      have hn' : nb s q = nb s i := by rw [← hn, nb_succ]; simp [c]
      exact Ev3.step e (ih (by omega) hn')
    · simp only [if_neg (show ¬ (B s q : Int) = 32 by omega)] at e
      have h' := h true (by rw [← hn, nb_succ]; simp [c])
      simp only [if_true] at h'
      exact Ev3.step e h'.three
theorem specGaps_loop (s : ByteArray) (hs : s.size ≤ 1048576) : ∀ (m i : Nat) (out : List Int), m = s.size - i → 1 ≤ i → out.length ≤ i → i ≤ 1048577 → Ev2 (fun k j => spec_l22Gaps_L3 k j s (i : Int) out) (out ++ gapsFrom s m i) := by
  intro m
  induction m with
  | zero =>
    intro i out hm hi ho hi2
    have e := fun k j => spec_l22Gaps_L3.eq s (i : Int) out k j
    simp only [W, W1, if_neg (show ¬ (i : Int) < (s.size : Int) by omega)] at e
    rw [show gapsFrom s 0 i = [] from rfl, List.append_nil]
    exact Ev2.ret e
  | succ m ih =>
    intro i out hm hi ho hi2
    have e := fun k j => spec_l22Gaps_L3.eq s (i : Int) out k j
    have hsub : subI .i64 (i : Int) 1 = ((i - 1 : Nat) : Int) := by rw [subI_i64 (by omega) (by omega)]; omega
    have hadd : addI .i64 (i : Int) 1 = ((i + 1 : Nat) : Int) := by rw [addI_i64 (by omega) (by omega)]; omega
    simp only [W, W1, hsub, hadd, bt_B, if_pos (show (i : Int) < (s.size : Int) by omega), if_pos (nat_ge (i - 1)), if_pos (show ((i - 1 : Nat) : Int) < (s.size : Int) by omega), if_pos (nat_ge i)] at e
    unfold gapsFrom
    have hF := ih (i + 1) out (by omega) (by omega) (by omega) (by omega)
    by_cases c : B s (i - 1) = 32
    · simp only [if_pos (show (B s (i - 1) : Int) = 32 by omega)] at e
      by_cases d : B s i = 32
      · simp only [if_pos (show (B s i : Int) = 32 by omega)] at e
        rw [show gp s i = false by unfold gp; rw [decide_eq_false (fun h => h.2 d)]; rfl]
        exact Ev2.step e hF
      · simp only [if_neg (show ¬ (B s i : Int) = 32 by omega)] at e
        have hg : gp s i = nb s i := by unfold gp; rw [decide_eq_true ⟨c, d⟩]; rfl
        rw [hg]
        refine Ev2.step e ?_
        have h3 := gap_back s hs i out (out ++ (if nb s i = true then (i : Int) :: gapsFrom s m (i + 1) else gapsFrom s m (i + 1))) (by omega) (by omega) (fun b hb => by
          subst hb
          cases hnb : nb s i with
          | true =>
            simp only [if_true]
            have := ih (i + 1) (out ++ [(i : Int)]) (by omega) (by omega) (by simp; omega) (by omega)
            rwa [List.append_assoc] at this
          | false => simp only [Bool.false_eq_true, if_false]; exact hF) i (Nat.le_refl _) rfl
        rw [show (i : Int) - 1 = ((i - 1 : Nat) : Int) by omega] at h3
        exact h3.two
    · simp only [if_neg (show ¬ (B s (i - 1) : Int) = 32 by omega)] at e
      rw [show gp s i = false by unfold gp; rw [decide_eq_false (fun h => c h.1)]; rfl]
      exact Ev2.step e hF
/-- all of them -/
def gaps (s : ByteArray) : List Int := gapsFrom s (s.size - 1) 1
theorem specGaps (s : ByteArray) (hs : s.size ≤ 1048576) : Ev (fun k => spec_l22Gaps k s) (gaps s) :=
  Ev.step (fun k => spec_l22Gaps.eq s k) (specGaps_loop s hs (s.size - 1) 1 [] rfl (Nat.le_refl _) (Nat.zero_le _) (by omega)).ev
theorem gaps_short (s : ByteArray) (e : Nat) (hle : e ≤ s.size) (he : ∀ i, e ≤ i → i < s.size → B s i = 32) : ∀ (m i : Nat), m = s.size - i → gapsFrom s (e - i) i = gapsFrom s m i := by
  intro m
  induction m with
  | zero =>
    intro i hm
    rw [show e - i = 0 by omega]
  | succ m ih =>
    intro i hm
    have hz := ih (i + 1) (by omega)
    by_cases c : i < e
    · rw [show e - i = (e - (i + 1)) + 1 by omega]
      unfold gapsFrom
      rw [hz]
    · rw [show e - i = 0 by omega]
      rw [show e - (i + 1) = 0 by omega] at hz
      have hg : gp s i = false := by
        unfold gp
        rw [decide_eq_false (fun h => h.2 (he i (by omega) (by omega)))]
        rfl
      show [] = if gp s i = true then (i : Int) :: gapsFrom s m (i + 1) else gapsFrom s m (i + 1)
      rw [hg, ← hz]
      rfl
end Go.Proofs.YtlfkoenopdcjmaaDoor.JF
