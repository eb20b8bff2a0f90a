/- A justified line: how wide it is, and that beside blanks it is the line. -/
import Derived.Test.YtlfkoenopdcjmaaDoorPSeg
namespace Go.Proofs.YtlfkoenopdcjmaaDoor.JF
open Go.Eng Go.RowKit
set_option linter.unusedVariables false
set_option linter.unusedSimpArgs false
/-- places that rise, each behind a blank -/
def Ups (s : ByteArray) : Nat → List Int → Prop
  | a, [] => a ≤ s.size
  | a, r :: rs => 0 ≤ r ∧ a < r.toNat ∧ r.toNat ≤ s.size ∧ B s (r.toNat - 1) = 32 ∧ Ups s r.toNat rs
theorem gaps_ups (s : ByteArray) : ∀ m i a, a < i → a ≤ s.size → m ≤ s.size - i → Ups s a (gapsFrom s m i) := by
  intro m
  induction m with
  | zero => intro i a h1 h2 h3; exact h2
  | succ m ih =>
    intro i a h1 h2 h3
    unfold gapsFrom
    split
    · rename_i hg
      have hb : B s (i - 1) = 32 := by
        unfold gp at hg
        rw [Bool.and_eq_true, decide_eq_true_eq] at hg
        exact hg.1.1
      refine ⟨by omega, by rw [Int.toNat_natCast]; exact h1, by rw [Int.toNat_natCast]; omega, by rw [Int.toNat_natCast]; exact hb, ?_⟩
      rw [Int.toNat_natCast]
      exact ih (i + 1) i (by omega) (by omega) (by omega)
    · exact ih (i + 1) a (by omega) h2 (by omega)
theorem gaps_ups0 (s : ByteArray) : Ups s 0 (gaps s) := gaps_ups s (s.size - 1) 1 0 (by omega) (by omega) (Nat.le_refl _)
def nsum (q r0 : Nat) : Nat → Nat → Nat
  | _, 0 => 0
  | i, m + 1 => (if i < r0 then q + 1 else q) + nsum q r0 (i + 1) m
theorem nsum_eq (q r0 : Nat) : ∀ m i, nsum q r0 i m = m * q + (min (i + m) r0 - min i r0) := by
  intro m
  induction m with
  | zero => intro i; unfold nsum; omega
  | succ m ih =>
    intro i
    unfold nsum
    rw [ih, Nat.succ_mul]
    split
    · omega
    · omega
theorem nsum_all (x k : Nat) (hk : 0 < k) : nsum (x / k) (x % k) 0 k = x := by
  rw [nsum_eq]
  have h1 := Nat.mod_lt x hk
  have h2 := Nat.div_add_mod x k
  omega
theorem B_last (x y : ByteArray) (h : 0 < y.size) : B (x ++ y) ((x ++ y).size - 1) = B y (y.size - 1) := by
  rw [ByteArray.size_append, show x.size + y.size - 1 = x.size + (y.size - 1) by omega, B_right]
theorem seg_last (e : ByteArray) (n : Nat) (he : 0 < e.size) (hb : B e (e.size - 1) = 32) : 0 < (e ++ blk n).size ∧ B (e ++ blk n) ((e ++ blk n).size - 1) = 32 := by
  refine ⟨by rw [ByteArray.size_append]; omega, ?_⟩
  cases n with
  | zero => rw [blk_zero, ByteArray.append_empty]; exact hb
  | succ n => rw [B_last _ _ (by rw [blk_size]; omega), B_blk _ _ (by rw [blk_size]; omega)]
theorem seg_pts (e : ByteArray) (n : Nat) (he : 0 < e.size) (hb : B e (e.size - 1) = 32) : ∃ l, pts e = l ++ [32] ∧ pts (e ++ blk n) = l ++ 32 :: List.replicate n 32 := by
  obtain ⟨l, hl⟩ := pts_end e he hb
  refine ⟨l, hl, ?_⟩
  rw [pts_app e (blk n) (by rw [hb]; omega), pts_blk, hl, List.append_assoc]
  rfl
theorem ext_last (s : ByteArray) (a r : Nat) (h : a < r) (hr : r ≤ s.size) (hb : B s (r - 1) = 32) : 0 < (s.extract a r).size ∧ B (s.extract a r) ((s.extract a r).size - 1) = 32 := by
  have hs : (s.extract a r).size = r - a := by rw [ByteArray.size_extract]; omega
  rw [hs]
  refine ⟨by omega, ?_⟩
  rw [B_ext s a r _ (by omega), show a + (r - a - 1) = r - 1 by omega]
  exact hb
theorem jl_wide (s : ByteArray) (q r0 : Nat) : ∀ (rs : List Int) (i a : Nat) (out : ByteArray), Ups s a rs → 0 < out.size → B out (out.size - 1) = 32 →
    wide (jl s q r0 i a rs out) = wide out + wl 32 false false 0 (pts (s.extract a s.size)) + (nsum q r0 i rs.length : Int) := by
  intro rs
  induction rs with
  | nil =>
    intro i a out h ho hb
    obtain ⟨l, hl⟩ := pts_end out ho hb
    show wide (out ++ s.extract a s.size) = _ + ((0 : Nat) : Int)
    rw [wide_pts, wide_pts, pts_app out _ (by rw [hb]; omega), hl, List.append_assoc]
    have := wT_app l (pts (s.extract a s.size))
    show wT (l ++ 32 :: pts (s.extract a s.size)) = _
    rw [this]
    omega
  | cons r rs ih =>
    intro i a out h ho hb
    obtain ⟨h1, h2, h3, h4, h5⟩ := h
    obtain ⟨l, hl⟩ := pts_end out ho hb
    show wide (jl s q r0 (i + 1) r.toNat rs (out ++ (s.extract a r.toNat ++ blk (if i < r0 then q + 1 else q)))) = _ + ((nsum q r0 i (rs.length + 1) : Nat) : Int)
    have hn : nsum q r0 i (rs.length + 1) = (if i < r0 then q + 1 else q) + nsum q r0 (i + 1) rs.length := rfl
    rw [hn]
    generalize (if i < r0 then q + 1 else q) = n
    obtain ⟨e1, e2⟩ := ext_last s a r.toNat h2 h3 h4
    obtain ⟨g1, g2⟩ := seg_last (s.extract a r.toNat) n e1 e2
    obtain ⟨y, hy, hyn⟩ := seg_pts (s.extract a r.toNat) n e1 e2
    rw [ih (i + 1) r.toNat _ h5 (by rw [ByteArray.size_append]; omega) (by rw [B_last _ _ g1]; exact g2)]
    have hx : pts (s.extract a s.size) = y ++ 32 :: pts (s.extract r.toNat s.size) := by
      rw [← ext_join s a r.toNat s.size (by omega) h3, pts_app _ _ (by rw [e2]; omega), hy, List.append_assoc]
      rfl
    have hw : wide (out ++ (s.extract a r.toNat ++ blk n)) = wide out + (wl 32 false false 0 (y ++ [32]) + (n : Int)) := by
      rw [wide_pts, wide_pts, pts_app out _ (by rw [hb]; omega), hl, hyn, List.append_assoc]
      show wT (l ++ 32 :: (y ++ 32 :: List.replicate n 32)) = _
      rw [wT_app, wl_app (List.replicate n 32)]
      have := wl_blanks [] n
      rw [List.append_nil] at this
      rw [this]
      show _ + (_ + ((n : Int) + 0)) = _
      omega
    rw [hw, hx, wl_app (pts (s.extract r.toNat s.size))]
    omega
theorem just_wide (s : ByteArray) (x : Nat) (hg : gaps s ≠ []) : wide (jl s (x / (gaps s).length) (x % (gaps s).length) 0 0 (gaps s) (bs [])) = wide s + (x : Int) := by
  have hu := gaps_ups0 s
  have hk : 0 < (gaps s).length := List.length_pos_iff.2 hg
  have hall := nsum_all x (gaps s).length hk
  generalize x / (gaps s).length = q at *
  generalize x % (gaps s).length = r0 at *
  generalize gaps s = l at *
  cases l with
  | nil => exact absurd rfl hg
  | cons r rs =>
    obtain ⟨h1, h2, h3, h4, h5⟩ := hu
    show wide (jl s q r0 (0 + 1) r.toNat rs (bs [] ++ (s.extract 0 r.toNat ++ blk (if 0 < r0 then q + 1 else q)))) = _
    have hn : nsum q r0 0 (rs.length + 1) = (if 0 < r0 then q + 1 else q) + nsum q r0 (0 + 1) rs.length := rfl
    have hall' : nsum q r0 0 (rs.length + 1) = x := hall
    rw [hn] at hall'
    generalize (if 0 < r0 then q + 1 else q) = n at *
    obtain ⟨e1, e2⟩ := ext_last s 0 r.toNat h2 h3 h4
    obtain ⟨g1, g2⟩ := seg_last (s.extract 0 r.toNat) n e1 e2
    obtain ⟨y, hy, hyn⟩ := seg_pts (s.extract 0 r.toNat) n e1 e2
    rw [bs_app, jl_wide s q r0 rs (0 + 1) r.toNat _ h5 g1 g2]
    have hs : s.extract 0 r.toNat ++ s.extract r.toNat s.size = s := by
      rw [ext_join s 0 r.toNat s.size (by omega) h3]
      apply ByteArray.ext; simp [ByteArray.data_extract]
    have hx : pts s = y ++ 32 :: pts (s.extract r.toNat s.size) := by
      have := pts_app (s.extract 0 r.toNat) (s.extract r.toNat s.size) (by rw [e2]; omega)
      rw [hs, hy, List.append_assoc] at this
      exact this
    rw [wide_pts, wide_pts, hyn, hx, wT_app y (List.replicate n 32), wT_app y (pts (s.extract r.toNat s.size))]
    have := wl_blanks [] n
    rw [List.append_nil] at this
    rw [this]
    show _ + ((n : Int) + 0) + _ + _ = _
    omega
/-! ### beside blanks -/
def nbs (t : ByteArray) : List Int := (t.data.toList.filter (fun b => decide (b.toNat ≠ 32))).map (fun b => (b.toNat : Int))
theorem nbs_app (x y : ByteArray) : nbs (x ++ y) = nbs x ++ nbs y := by
  unfold nbs
  rw [ByteArray.data_append, Array.toList_append, List.filter_append, List.map_append]
theorem nbs_blk (n : Nat) : nbs (blk n) = [] := by
  unfold nbs blk
  simp
theorem jl_nbs (s : ByteArray) (q r0 : Nat) : ∀ (rs : List Int) (i a : Nat) (out : ByteArray), Ups s a rs → nbs (jl s q r0 i a rs out) = nbs out ++ nbs (s.extract a s.size) := by
  intro rs
  induction rs with
  | nil => intro i a out h; exact nbs_app _ _
  | cons r rs ih =>
    intro i a out h
    obtain ⟨h1, h2, h3, h4, h5⟩ := h
    show nbs (jl s q r0 (i + 1) r.toNat rs (out ++ (s.extract a r.toNat ++ blk (if i < r0 then q + 1 else q)))) = _
    rw [ih _ _ _ h5, nbs_app, nbs_app, nbs_blk, List.append_nil, List.append_assoc, ← nbs_app, ext_join s a r.toNat s.size (by omega) h3]
theorem noBlanks_loop (t : ByteArray) (ht : t.size ≤ 1048576) : ∀ (suf pre : List UInt8), t.data.toList = pre ++ suf →
    Ev2 (fun k j => laws_lwNoBlanks_L3 k j t (pre.length : Int) ((pre.filter (fun b => decide (b.toNat ≠ 32))).map (fun b => (b.toNat : Int)))) (bytesOf (nbs t)) := by
  intro suf
  induction suf with
  | nil =>
    intro pre hp
    have hl : t.size = pre.length := by have : t.size = t.data.toList.length := rfl; rw [this, hp]; simp
    have e := fun k j => laws_lwNoBlanks_L3.eq t (pre.length : Int) ((pre.filter (fun b => decide (b.toNat ≠ 32))).map (fun b => (b.toNat : Int))) k j
    simp only [W, W1, if_neg (show ¬ (pre.length : Int) < (t.size : Int) by omega)] at e
    rw [List.append_nil] at hp
    unfold nbs
    rw [hp]
    exact Ev2.ret e
  | cons b suf ih =>
    intro pre hp
    have hl : t.size = pre.length + 1 + suf.length := by have : t.size = t.data.toList.length := rfl; rw [this, hp]; simp; omega
    have hb : B t pre.length = b.toNat := by unfold B; rw [hp]; simp [List.getD]
    have hadd : addI .i64 (pre.length : Int) 1 = ((pre ++ [b]).length : Int) := by rw [addI_i64 (by omega) (by omega)]; simp
    have hol : ((pre.filter (fun b => decide (b.toNat ≠ 32))).map (fun b => (b.toNat : Int))).length ≤ pre.length := by rw [List.length_map]; exact List.length_filter_le _ _
    have e := fun k j => laws_lwNoBlanks_L3.eq t (pre.length : Int) ((pre.filter (fun b => decide (b.toNat ≠ 32))).map (fun b => (b.toNat : Int))) k j
    have h := ih (pre ++ [b]) (by rw [hp]; simp)
    rw [List.filter_append, List.map_append] at h
    generalize ((pre.filter (fun b => decide (b.toNat ≠ 32))).map (fun b => (b.toNat : Int))) = o at *
    simp only [W, W1, W2, bt_B, hb, hadd, List.length_cons, List.length_nil, if_pos (nat_ge pre.length), if_pos (show (pre.length : Int) < (t.size : Int) by omega), if_pos (show ((o.length : Int) + ((0 + 1 : Nat) : Int)) * 1 < 140737488355328 by omega)] at e
    by_cases c : b.toNat = 32
    · simp only [if_pos (show (b.toNat : Int) = 32 by omega)] at e
      rw [show List.filter (fun b : UInt8 => decide (b.toNat ≠ 32)) [b] = [] by simp [c], List.map_nil, List.append_nil] at h
      exact Ev2.step e h
    · simp only [if_neg (show ¬ (b.toNat : Int) = 32 by omega)] at e
      rw [show List.filter (fun b : UInt8 => decide (b.toNat ≠ 32)) [b] = [b] by simp [c]] at h
      exact Ev2.step e h
theorem noBlanks (t : ByteArray) (ht : t.size ≤ 1048576) : Ev (fun k => laws_lwNoBlanks k t) (bytesOf (nbs t)) :=
  Ev.step (fun k => laws_lwNoBlanks.eq t k) (noBlanks_loop t ht t.data.toList [] rfl).ev
end Go.Proofs.YtlfkoenopdcjmaaDoor.JF
