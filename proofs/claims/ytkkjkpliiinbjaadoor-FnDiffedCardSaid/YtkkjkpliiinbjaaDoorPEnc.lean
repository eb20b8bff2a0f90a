/- Texts of the points that near texts are drawn from: their points, and their characters. -/
import Derived.Test.YtkkjkpliiinbjaaDoorPWideA
import Derived.Test.YtkkjkpliiinbjaaDoorPDiff
namespace Go.Proofs.YtkkjkpliiinbjaaDoor.DF
open Go.Eng Go.RowKit
set_option linter.unusedVariables false
set_option linter.unusedSimpArgs false
theorem dec_B (t : ByteArray) (i : Nat) : Utf8.decode t i = Lib.decodeN (t.size - i) (B t i) (B t (i + 1)) (B t (i + 2)) (B t (i + 3)) := Lib.decode_N t i
theorem B_left (x y : ByteArray) (i : Nat) (h : i < x.size) : B (x ++ y) i = B x i := by
  unfold B
  rw [ByteArray.data_append, Array.toList_append]
  congr 1
  simp only [List.getD]
  rw [List.getElem?_append_left (by exact h)]
theorem B_right (x y : ByteArray) (i : Nat) : B (x ++ y) (x.size + i) = B y i := by
  unfold B
  rw [ByteArray.data_append, Array.toList_append]
  congr 1
  simp only [List.getD]
  have : x.size = x.data.toList.length := rfl
  rw [List.getElem?_append_right (by omega)]
  congr 2
  omega
theorem dec_right (x y : ByteArray) (i : Nat) : Utf8.decode (x ++ y) (x.size + i) = Utf8.decode y i := by
  rw [dec_B, dec_B, Nat.add_assoc, Nat.add_assoc, Nat.add_assoc, B_right, B_right, B_right, B_right, ByteArray.size_append]
  congr 1
  omega
/-! ### the points -/
def Al (p : Int) : Prop := p = 97 ∨ p = 98 ∨ p = 99 ∨ p = 100 ∨ p = 65 ∨ p = 120 ∨ p = 101 ∨ p = 512 ∨ p = 544 ∨ p = 4096
def wr (p : Int) : ByteArray := if p = 512 then bs [200, 128] else if p = 544 then bs [200, 160] else if p = 4096 then bs [225, 128, 128] else bytesOf [p]
def enc (l : List Int) : ByteArray := joinL (l.map wr)
def Als (l : List Int) : Prop := ∀ p ∈ l, Al p
theorem enc_nil : enc [] = bs [] := rfl
theorem enc_cons (p : Int) (l : List Int) : enc (p :: l) = wr p ++ enc l := rfl
theorem enc_app (x y : List Int) : enc (x ++ y) = enc x ++ enc y := by unfold enc; rw [List.map_append, joinL_app]
theorem enc_one (p : Int) : enc [p] = wr p := joinL_one _
theorem joinL_enc : ∀ X : List (List Int), joinL (X.map enc) = enc X.flatten
  | [] => rfl
  | x :: X => by rw [List.map_cons, joinL_cons, joinL_enc X, List.flatten_cons, enc_app]
theorem one_dec (c : Nat) (hc : c < 128) (y : ByteArray) : Utf8.decode (bs [c] ++ y) 0 = (c, 1) := by
  have h0 : B (bs [c] ++ y) 0 = c := by
    rw [B_left _ _ _ (by show 0 < 1; omega)]
    show (UInt8.ofNat c).toNat = c
    rw [UInt8.toNat_ofNat']
    omega
  rw [dec_B, h0]
  exact if_pos hc
theorem two_dec (b0 b1 c : Nat) (h : b0 / 32 = 6 ∧ b1 / 64 = 2 ∧ b0 < 256 ∧ b1 < 256 ∧ b0 % 32 * 64 + b1 % 64 = c ∧ 128 ≤ c) (y : ByteArray) : Utf8.decode (bs [b0, b1] ++ y) 0 = (c, 2) := by
  obtain ⟨g1, g2, g3, g4, g5, g6⟩ := h
  have hs : (bs [b0, b1] ++ y).size = 2 + y.size := ByteArray.size_append
  have h0 : B (bs [b0, b1] ++ y) 0 = b0 := by
    rw [B_left _ _ _ (by show 0 < 2; omega)]
    show (UInt8.ofNat b0).toNat = b0
    rw [UInt8.toNat_ofNat']
    omega
  have h1 : B (bs [b0, b1] ++ y) (0 + 1) = b1 := by
    rw [B_left _ _ _ (by show 1 < 2; omega)]
    show (UInt8.ofNat b1).toNat = b1
    rw [UInt8.toNat_ofNat']
    omega
  rw [dec_B, h0, h1]
  unfold Lib.decodeN
  rw [if_neg (by omega), if_pos ⟨g1, by omega, g2⟩, if_pos (by omega), g5]
theorem three_dec (b0 b1 b2 c : Nat) (h : b0 / 16 = 14 ∧ b1 / 64 = 2 ∧ b2 / 64 = 2 ∧ b0 < 256 ∧ b1 < 256 ∧ b2 < 256 ∧ b0 % 16 * 4096 + b1 % 64 * 64 + b2 % 64 = c ∧ 2048 ≤ c ∧ c < 55296) (y : ByteArray) : Utf8.decode (bs [b0, b1, b2] ++ y) 0 = (c, 3) := by
  obtain ⟨g1, g2, g3, g4, g5, g6, g7, g8, g9⟩ := h
  have hs : (bs [b0, b1, b2] ++ y).size = 3 + y.size := ByteArray.size_append
  have h0 : B (bs [b0, b1, b2] ++ y) 0 = b0 := by
    rw [B_left _ _ _ (by show 0 < 3; omega)]
    show (UInt8.ofNat b0).toNat = b0
    rw [UInt8.toNat_ofNat']
    omega
  have h1 : B (bs [b0, b1, b2] ++ y) (0 + 1) = b1 := by
    rw [B_left _ _ _ (by show 1 < 3; omega)]
    show (UInt8.ofNat b1).toNat = b1
    rw [UInt8.toNat_ofNat']
    omega
  have h2 : B (bs [b0, b1, b2] ++ y) (0 + 2) = b2 := by
    rw [B_left _ _ _ (by show 2 < 3; omega)]
    show (UInt8.ofNat b2).toNat = b2
    rw [UInt8.toNat_ofNat']
    omega
  rw [dec_B, h0, h1, h2]
  unfold Lib.decodeN
  rw [if_neg (by omega), if_neg (by omega), if_pos ⟨g1, ⟨by omega, g2⟩, ⟨by omega, g3⟩⟩, if_pos (by omega), g7]
theorem dec_wr {p : Int} (hp : Al p) (y : ByteArray) : Utf8.decode (wr p ++ y) 0 = (p.toNat, (wr p).size) := by
  rcases hp with rfl | rfl | rfl | rfl | rfl | rfl | rfl | rfl | rfl | rfl
  · exact one_dec 97 (by omega) y
  · exact one_dec 98 (by omega) y
  · exact one_dec 99 (by omega) y
  · exact one_dec 100 (by omega) y
  · exact one_dec 65 (by omega) y
  · exact one_dec 120 (by omega) y
  · exact one_dec 101 (by omega) y
  · exact two_dec 200 128 512 (by omega) y
  · exact two_dec 200 160 544 (by omega) y
  · exact three_dec 225 128 128 4096 (by omega) y
theorem wr_size {p : Int} (hp : Al p) : 1 ≤ (wr p).size ∧ (wr p).size ≤ 3 ∧ 0 ≤ p := by
  rcases hp with rfl | rfl | rfl | rfl | rfl | rfl | rfl | rfl | rfl | rfl <;> exact ⟨by decide, by decide, by decide⟩
theorem enc_len {l : List Int} (h : Als l) : l.length ≤ (enc l).size := by
  induction l with
  | nil => exact Nat.zero_le _
  | cons p l ih =>
    have h1 := ih (fun q hq => h q (List.mem_cons_of_mem _ hq))
    have h2 := (wr_size (h p List.mem_cons_self)).1
    rw [enc_cons, ByteArray.size_append, List.length_cons]
    omega
/-- the item of a text at a point of it -/
theorem item_at (pre : ByteArray) {p : Int} (hp : Al p) (y : ByteArray) : wid (pre ++ (wr p ++ y)) pre.size = (wr p).size ∧ (item (pre ++ (wr p ++ y)) pre.size).1 = p ∧ (item (pre ++ (wr p ++ y)) pre.size).2.1 = (pre.size : Int) := by
  have hd : Utf8.decode (pre ++ (wr p ++ y)) pre.size = (p.toNat, (wr p).size) := by
    have := dec_right pre (wr p ++ y) 0
    rw [Nat.add_zero] at this
    rw [this, dec_wr hp y]
  refine ⟨?_, ?_, rfl⟩
  · unfold wid; rw [hd]
  · show ((Utf8.decode (pre ++ (wr p ++ y)) pre.size).1 : Int) = p
    rw [hd]
    exact Int.toNat_of_nonneg (wr_size hp).2.2
theorem items_pts : ∀ (r : List Int) (pre t : ByteArray) (m : Nat), t = pre ++ enc r → Als r → (enc r).size ≤ m → (items t m pre.size).map (·.1) = r := by
  intro r
  induction r with
  | nil =>
    intro pre t m ht hr hm
    have hs : t.size = pre.size := by rw [ht, enc_nil, app_bs0]
    cases m with
    | zero => rfl
    | succ m => unfold items; rw [if_neg (by omega)]; rfl
  | cons p r ih =>
    intro pre t m ht hr hm
    have hp := hr p List.mem_cons_self
    obtain ⟨w1, w2, w3⟩ := wr_size hp
    rw [enc_cons] at ht hm
    rw [ByteArray.size_append] at hm
    have hs : t.size = pre.size + ((wr p).size + (enc r).size) := by rw [ht, ByteArray.size_append, ByteArray.size_append]
    obtain ⟨g1, g2, g3⟩ := item_at pre hp (enc r)
    rw [← ht] at g1 g2 g3
    cases m with
    | zero => omega
    | succ m =>
      unfold items
      rw [if_pos (by omega), List.map_cons, g2, g1]
      have h := ih (pre ++ wr p) t m (by rw [ht, ByteArray.append_assoc]) (fun q hq => hr q (List.mem_cons_of_mem _ hq)) (by omega)
      rw [ByteArray.size_append] at h
      rw [h]
theorem pts_enc {l : List Int} (h : Als l) : pts (enc l) = l := by
  have := items_pts l (bs []) (enc l) (enc l).size (bs_app0 _).symm h (Nat.le_refl _)
  exact this
theorem enc_inj {x y : List Int} (hx : Als x) (hy : Als y) (h : enc x = enc y) : x = y := by
  rw [← pts_enc hx, ← pts_enc hy, h]
/-! ### where its characters begin -/
def mkA (p : Int) : Bool := decide (cls p = 2)
theorem cls_al {p : Int} (hp : Al p) : cls p = 0 ∨ cls p = 2 := by
  rcases hp with rfl | rfl | rfl | rfl | rfl | rfl | rfl | rfl | rfl | rfl <;> decide +kernel
theorem cutF_al {q p : Int} (hq : Al q) (hp : Al p) : cutF q p (cls p) (cls q) false false ((0 : Nat) : Int) = !mkA p := by
  have q13 : ¬ q = 13 := by rcases hq with rfl | rfl | rfl | rfl | rfl | rfl | rfl | rfl | rfl | rfl <;> decide
  have q79 : ¬ q = 7936 := by rcases hq with rfl | rfl | rfl | rfl | rfl | rfl | rfl | rfl | rfl | rfl <;> decide
  unfold cutF f4 f6 f8 f10 mkA
  rcases cls_al hq with hq0 | hq0 <;> rcases cls_al hp with hp0 | hp0 <;> rw [hq0, hp0] <;> simp [q13, q79]
theorem plain_al {L : List Int} (hL : Als L) : ∀ i, i ≤ L.length → bindS L i = false ∧ picS L i = false ∧ flagS L i = 0 := by
  intro i
  induction i with
  | zero => intro _; exact ⟨rfl, rfl, rfl⟩
  | succ i ih =>
    intro hi
    obtain ⟨h1, h2, h3⟩ := ih (by omega)
    have hp : Al (pt L i) := by unfold pt; rw [rd_nat L i 0 (by omega)]; exact hL _ (List.getElem_mem _)
    refine ⟨?_, ?_, ?_⟩
    · show (if pt L i = 1584 then true else if pt L i = 1585 then bindS L i else false) = false
      rw [h1]
      rcases hp with h | h | h | h | h | h | h | h | h | h <;> rw [h] <;> decide
    · show (if cls (pt L i) = 2 then picS L i else decide (cls (pt L i) = 8)) = false
      rw [h2]
      rcases cls_al hp with h | h <;> rw [h] <;> decide
    · show (if cls (pt L i) = 9 then flagS L i + 1 else 0) = 0
      rcases cls_al hp with h | h <;> rw [h] <;> rfl
theorem cutAt_al {L : List Int} (hL : Als L) (i : Nat) (hi : i + 1 < L.length) : cutAt L (i + 1) = !mkA (pt L (i + 1)) := by
  obtain ⟨h1, h2, h3⟩ := plain_al hL (i + 1) (by omega)
  show cutF (pt L i) (pt L (i + 1)) (cls (pt L (i + 1))) (cls (pt L i)) (bindS L (i + 1)) (picS L (i + 1)) (flagS L (i + 1)) = _
  rw [h1, h2, h3]
  have ha : ∀ j, j < L.length → Al (pt L j) := fun j hj => by unfold pt; rw [rd_nat L j 0 hj]; exact hL _ (List.getElem_mem _)
  exact cutF_al (ha i (by omega)) (ha (i + 1) hi)
/-! ### its characters -/
def gr : List Int → List Int → List (List Int)
  | acc, [] => [acc]
  | acc, p :: r => if mkA p = true then gr (acc ++ [p]) r else acc :: gr [p] r
theorem gr_mk {acc r : List Int} {p : Int} (h : mkA p = true) : gr acc (p :: r) = gr (acc ++ [p]) r := if_pos h
theorem gr_no {acc r : List Int} {p : Int} (h : mkA p = false) : gr acc (p :: r) = acc :: gr [p] r := if_neg (by rw [h]; decide)
def grs : List Int → List (List Int)
  | [] => []
  | p :: r => gr [p] r
theorem ext_mid (x y z : ByteArray) : (x ++ (y ++ z)).extract x.size (x.size + y.size) = y := by
  apply ByteArray.ext
  apply Array.toList_inj.1
  have h1 : x.size = x.data.toList.length := rfl
  have h2 : y.size = y.data.toList.length := rfl
  rw [ByteArray.data_extract, ByteArray.data_append, ByteArray.data_append, Array.toList_extract, Array.toList_append, Array.toList_append, List.extract_eq_take_drop, h1, h2]
  rw [List.drop_left, Nat.add_sub_cancel_left, List.take_left]
theorem pcs_enc (L : List Int) (hL : Als L) (t : ByteArray) : ∀ (r Lp : List Int) (pre : ByteArray) (acc : List Int) (m : Nat), t = pre ++ (enc acc ++ enc r) → L = Lp ++ r → Lp ≠ [] → (enc r).size ≤ m →
    pcs t ((pre.size : Int) :: (cutsFrom L Lp.length (items t m (pre.size + (enc acc).size)) ++ [(t.size : Int)])) = (gr acc r).map enc := by
  intro r
  induction r with
  | nil =>
    intro Lp pre acc m ht hl hne hm
    have hs : t.size = pre.size + (enc acc).size := by rw [ht, enc_nil, app_bs0, ByteArray.size_append]
    have hi : items t m (pre.size + (enc acc).size) = [] := by
      cases m with
      | zero => rfl
      | succ m => unfold items; rw [if_neg (by omega)]
    rw [hi]
    show [t.extract ((pre.size : Int)).toNat ((t.size : Int)).toNat] = [enc acc]
    rw [Int.toNat_natCast, Int.toNat_natCast, hs, ht, ext_mid]
  | cons p r ih =>
    intro Lp pre acc m ht hl hne hm
    have hp : Al p := hL p (by rw [hl]; simp)
    obtain ⟨w1, w2, w3⟩ := wr_size hp
    rw [enc_cons] at ht hm
    rw [ByteArray.size_append] at hm
    have ht' : t = (pre ++ enc acc) ++ (wr p ++ enc r) := by rw [ht, ByteArray.append_assoc]
    have hs : t.size = pre.size + (enc acc).size + ((wr p).size + (enc r).size) := by rw [ht', ByteArray.size_append, ByteArray.size_append, ByteArray.size_append]
    obtain ⟨g1, g2, g3⟩ := item_at (pre ++ enc acc) hp (enc r)
    rw [← ht', ByteArray.size_append] at g1 g2 g3
    have hlen : 0 < Lp.length := List.length_pos_iff.2 hne
    have hpt : pt L Lp.length = p := by unfold pt; rw [hl]; exact rd_mid Lp r p 0
    have hcut : cutAt L Lp.length = !mkA p := by
      have h := cutAt_al hL (Lp.length - 1) (by rw [hl, List.length_append, List.length_cons]; omega)
      rw [Nat.sub_add_cancel hlen, hpt] at h
      exact h
    cases m with
    | zero => omega
    | succ m =>
      unfold items
      rw [if_pos (by omega), g1]
      unfold cutsFrom
      rw [hcut, g3]
      have hl2 : L = (Lp ++ [p]) ++ r := by rw [hl]; simp
      have hl3 : (Lp ++ [p]).length = Lp.length + 1 := by simp
      by_cases c : mkA p = true
      · rw [c]
        show pcs t ((pre.size : Int) :: (cutsFrom L (Lp.length + 1) _ ++ _)) = _
        have h := ih (Lp ++ [p]) pre (acc ++ [p]) m (by rw [ht, enc_app, enc_one, ByteArray.append_assoc]) hl2 (by simp) (by omega)
        rw [hl3, enc_app, enc_one, ByteArray.size_append, ← Nat.add_assoc] at h
        rw [h, gr_mk c]
      · rw [Bool.not_eq_true] at c
        rw [c]
        show pcs t ((pre.size : Int) :: ((((pre.size + (enc acc).size : Nat) : Int) :: cutsFrom L (Lp.length + 1) _) ++ _)) = _
        have h := ih (Lp ++ [p]) (pre ++ enc acc) [p] m (by rw [ht', enc_one]) hl2 (by simp) (by omega)
        rw [hl3, enc_one, ByteArray.size_append] at h
        show t.extract ((pre.size : Int)).toNat (((pre.size + (enc acc).size : Nat) : Int)).toNat :: pcs t (_ :: (cutsFrom L (Lp.length + 1) _ ++ _)) = _
        rw [h, gr_no c, List.map_cons, Int.toNat_natCast, Int.toNat_natCast]
        rw [ht, ext_mid]
theorem chs_enc {l : List Int} (h : Als l) : chs (enc l) = (grs l).map enc := by
  cases l with
  | nil => rfl
  | cons p r =>
    have hp := h p List.mem_cons_self
    obtain ⟨w1, w2, w3⟩ := wr_size hp
    have hs : (enc (p :: r)).size = (wr p).size + (enc r).size := by rw [enc_cons, ByteArray.size_append]
    have hp0 : 0 < (enc (p :: r)).size := by omega
    unfold chs cuts
    rw [if_neg (by omega), pts_enc h]
    have hi := its_cons (enc (p :: r)) hp0
    rw [hi]
    obtain ⟨g1, g2, g3⟩ := item_at (bs []) hp (enc r)
    rw [bs_app0] at g1 g2 g3
    have g1 : wid (enc (p :: r)) 0 = (wr p).size := g1
    have hc : ∀ Z, cutsFrom (p :: r) 0 (item (enc (p :: r)) 0 :: Z) = cutsFrom (p :: r) 1 Z := fun Z => rfl
    rw [hc, g1]
    have hm := pcs_enc (p :: r) h (enc (p :: r)) r [p] (bs []) [p] ((enc (p :: r)).size - 1) (by rw [bs_app0, enc_one]; rfl) rfl (by simp) (by omega)
    rw [enc_one] at hm
    exact hm
end Go.Proofs.YtkkjkpliiinbjaaDoor.DF
