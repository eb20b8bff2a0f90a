/- Draws of near texts: none of them stops, and all their points are of the drawn ones. -/
import Derived.Test.YtkkjkpliiinbjaaDoorPGrp
import Derived.Test.YtkkjkpliiinbjaaDoorXDrawP
import Derived.Test.YtkkjkpliiinbjaaDoorEG
namespace Go.Proofs.YtkkjkpliiinbjaaDoor.DF
open Go.Eng Go.RowKit
set_option linter.unusedVariables false
set_option linter.unusedSimpArgs false
theorem one_ev (o : Int) (ho : o ≤ 1099511627776) {s : List Int} {a m z : Int} (h : Src s a z) : Drw (fun k => spec_l01Src_one k o s a m z) s z (fun _ => True) := by
  have e := fun k => spec_l01Src_one.eq o s a m z k
  simp only [W3] at e
  exact Drw.step e (Drw.bind (n_ev o ho h) fun v a m ha _ => Drw.now ha trivial)
def Tx (s : ByteArray) : Prop := ∃ l, Als l ∧ s = enc l
theorem Tx.app {s t : ByteArray} : Tx s → Tx t → Tx (s ++ t) := by
  rintro ⟨l, hl, rfl⟩ ⟨r, hr, rfl⟩
  refine ⟨l ++ r, fun p hp => ?_, (enc_app l r).symm⟩
  rcases List.mem_append.1 hp with h | h
  · exact hl p h
  · exact hr p h
theorem tx_nil : Tx (bs []) := ⟨[], (fun p h => by cases h), rfl⟩
theorem tx_wr {p : Int} (h : Al p) : Tx (wr p) := ⟨[p], fun q hq => by rw [List.mem_singleton] at hq; rw [hq]; exact h, (enc_one p).symm⟩
theorem tx_join : ∀ l : List ByteArray, (∀ s ∈ l, Tx s) → Tx (joinL l)
  | [], _ => tx_nil
  | x :: l, h => (h x List.mem_cons_self).app (tx_join l fun s hs => h s (List.mem_cons_of_mem _ hs))
theorem tx_a : Tx (bs [97]) := tx_wr (p := 97) (.inl rfl)
theorem tx_b : Tx (bs [98]) := tx_wr (p := 98) (.inr (.inl rfl))
theorem tx_c : Tx (bs [99]) := tx_wr (p := 99) (.inr (.inr (.inl rfl)))
theorem tx_d : Tx (bs [100]) := tx_wr (p := 100) (.inr (.inr (.inr (.inl rfl))))
theorem tx_A : Tx (bs [65]) := tx_wr (p := 65) (.inr (.inr (.inr (.inr (.inl rfl)))))
theorem tx_x : Tx (bs [120]) := tx_wr (p := 120) (.inr (.inr (.inr (.inr (.inr (.inl rfl))))))
theorem tx_e : Tx (bs [101]) := tx_wr (p := 101) (.inr (.inr (.inr (.inr (.inr (.inr (.inl rfl)))))))
theorem tx_200 : Tx (wr 512) := tx_wr (.inr (.inr (.inr (.inr (.inr (.inr (.inr (.inl rfl))))))))
theorem tx_220 : Tx (wr 544) := tx_wr (.inr (.inr (.inr (.inr (.inr (.inr (.inr (.inr (.inl rfl)))))))))
theorem tx_1000 : Tx (wr 4096) := tx_wr (.inr (.inr (.inr (.inr (.inr (.inr (.inr (.inr (.inr rfl)))))))))
/-! ### points that are written -/
theorem isPt (p : Int) (h0 : 0 ≤ p) (h : p < 55296) : Ev (fun k => spec_l01IsPoint k p) true := by
  refine Ev.ret fun k => ?_
  simp only [spec_l01IsPoint.eq, W, W1]
  rw [if_pos (by omega), if_pos (by omega), if_pos (by omega)]
theorem z64 : ¬ ((64 : Int) = 0) := by omega
theorem z4096 : ¬ ((4096 : Int) = 0) := by omega
theorem write_200 : Ev (fun k => spec_l01Write k 512) (wr 512) := by
  refine Ev.step (fun k => spec_l01Write.eq 512 k) (Ev.opt (isPt 512 (by omega) (by omega)) (Ev.of fun k => ?_))
  simp only [spec_l01Write_J3.eq, W, W1, if_neg z64, wrI_eq, addI_eq, quoI_eq, remI_eq]
  rw [if_neg (by omega), if_pos (by omega)]
  rfl
theorem write_220 : Ev (fun k => spec_l01Write k 544) (wr 544) := by
  refine Ev.step (fun k => spec_l01Write.eq 544 k) (Ev.opt (isPt 544 (by omega) (by omega)) (Ev.of fun k => ?_))
  simp only [spec_l01Write_J3.eq, W, W1, if_neg z64, wrI_eq, addI_eq, quoI_eq, remI_eq]
  rw [if_neg (by omega), if_pos (by omega)]
  rfl
theorem write_1000 : Ev (fun k => spec_l01Write k 4096) (wr 4096) := by
  refine Ev.step (fun k => spec_l01Write.eq 4096 k) (Ev.opt (isPt 4096 (by omega) (by omega)) (Ev.of fun k => ?_))
  simp only [spec_l01Write_J3.eq, W, W1, if_neg z64, if_neg z4096, wrI_eq, addI_eq, quoI_eq, remI_eq]
  rw [if_neg (by omega), if_neg (by omega), if_pos (by omega)]
  rfl
/-! ### a long one -/
theorem bytesOf_app (x y : List Int) : bytesOf (x ++ y) = bytesOf x ++ bytesOf y := by
  apply ByteArray.ext
  rw [ByteArray.data_append]
  simp [bytesOf]
theorem tx_rep : ∀ n : Nat, Tx (bytesOf (List.replicate n 97))
  | 0 => tx_nil
  | n + 1 => by
    rw [List.replicate_succ, show (97 : Int) :: List.replicate n 97 = [97] ++ List.replicate n 97 from rfl, bytesOf_app]
    exact tx_a.app (tx_rep n)
theorem size_rep (n : Nat) : (bytesOf (List.replicate n 97)).size = n := by simp [bytesOf, ByteArray.size]
theorem longA_loop (n : Nat) (hn : n ≤ 1000) (x : List Int) (a m z : Int) : ∀ (f q : Nat), q + f = n →
    Ev2 (fun k j => spec_l01Src_long_L2 k j (bs [97]) (n : Int) x a m z (List.replicate q 97)) (bytesOf (List.replicate n 97), (x, (a, (m, z)))) := by
  intro f
  have hnum : numsOf (bs [97]) = [97] := rfl
  induction f with
  | zero =>
    intro q hq
    obtain rfl : q = n := by omega
    refine Ev2.ret fun k j => ?_
    simp only [spec_l01Src_long_L2.eq, W, W1, W2, List.length_replicate]
    rw [if_neg (by omega), if_pos (by omega), if_pos (by omega)]
    simp
  | succ f ih =>
    intro q hq
    refine Ev2.step (fun k j => ?_) (ih (q + 1) (by omega))
    simp only [spec_l01Src_long_L2.eq, W, W1, W2, List.length_replicate, hnum]
    rw [if_pos (by omega), if_pos (by simp; omega), List.replicate_succ']
theorem longA (n : Int) (h0 : 0 ≤ n) (hn : n ≤ 1000) {s : List Int} {a m z : Int} (h : Src s a z) : Drw (fun k => spec_l01Src_long k (bs [97]) n s a m z) s z (fun t => Tx t ∧ (t.size : Int) = n) := by
  obtain ⟨q, rfl⟩ := Int.eq_ofNat_of_zero_le h0
  exact ⟨_, a, m, Ev.step (fun k => spec_l01Src_long.eq (bs [97]) (q : Int) s a m z k) (longA_loop q (by omega) s a m z q 0 (by omega)).ev, ⟨h.a0, h.a1⟩, tx_rep q, by rw [size_rep]⟩
/-! ### a near text -/
def NQ (t : ByteArray) : Prop := Tx t ∧ t.size ≤ 300
theorem near_loop (s : List Int) (z a0 : Int) (hs0 : Src s a0 z) : ∀ (f : Nat) (out : ByteArray) (a m : Int), 0 ≤ a ∧ a ≤ (s.length : Int) → Tx out → out.size + 4 * f ≤ 300 →
    Drw2 (fun k j => spec_l01Src_nearText_L3 k j out (f : Int) s a m z) s z NQ := by
  intro f
  induction f with
  | zero =>
    intro out a m ha hx hz
    have e := fun k j => spec_l01Src_nearText_L3.eq out ((0 : Nat) : Int) s a m z k j
    simp only [W, W1, W2, W3, if_neg (show ¬ (0 : Int) < ((0 : Nat) : Int) by omega)] at e
    refine Drw2.step e (Drw2.bind (one_ev 150 (by omega) (hs0.at ha)) fun v a m ha _ => ?_)
    cases v with
    | false => exact Drw2.now ha ⟨hx, by omega⟩
    | true =>
      refine Drw2.bind (n_ev 3 (by omega) (hs0.at ha)) fun v a m ha hv => ?_
      have hadd : addI .i64 199 v = 199 + v := addI_i64 (by omega) (by omega)
      simp only [hadd]
      refine Drw2.bind (longA (199 + v) (by omega) (by omega) (hs0.at ha)) fun t a m ha ht => ?_
      exact Drw2.now ha ⟨ht.1, show t.size ≤ 300 by have := ht.2; omega⟩
  | succ f ih =>
    intro out a m ha hx hz
    have e := fun k j => spec_l01Src_nearText_L3.eq out ((f + 1 : Nat) : Int) s a m z k j
    have hsub : subI .i64 ((f + 1 : Nat) : Int) 1 = (f : Int) := by rw [subI_i64 (by omega) (by omega)]; omega
    simp only [W, W1, W2, W3, if_pos (show (0 : Int) < ((f + 1 : Nat) : Int) by omega), hsub] at e
    refine Drw2.step e (Drw2.pre write_1000 ?_)
    simp only [if_pos (show ((bs [97]).size : Int) + ((wr 4096).size : Int) ≤ 9223372036854775807 by decide)]
    refine Drw2.pre write_220 (Drw2.pre write_200 (Drw2.bind (pick_ev _ (by simp) (by simp) (hs0.at ha)) fun v a m ha hv => ?_))
    have hq : Tx v ∧ v.size ≤ 4 := by
      simp only [List.mem_cons, List.not_mem_nil, or_false] at hv
      rcases hv with rfl | rfl | rfl | rfl | rfl | rfl | rfl | rfl | rfl | rfl
      · exact ⟨tx_a, by decide⟩
      · exact ⟨tx_b, by decide⟩
      · exact ⟨tx_c, by decide⟩
      · exact ⟨tx_d, by decide⟩
      · exact ⟨tx_A, by decide⟩
      · exact ⟨tx_x, by decide⟩
      · exact ⟨tx_a.app tx_1000, by decide⟩
      · exact ⟨tx_220, by decide⟩
      · exact ⟨tx_200, by decide⟩
      · exact ⟨tx_e, by decide⟩
    simp only [if_pos (show (out.size : Int) + (v.size : Int) ≤ 9223372036854775807 by omega)]
    exact ih (out ++ v) a m ha (hx.app hq.1) (by rw [ByteArray.size_append]; omega)
theorem near_ev {s : List Int} {a m z : Int} (h : Src s a z) : Drw (fun k => spec_l01Src_nearText k s a m z) s z NQ := by
  obtain ⟨n, rfl⟩ := Int.eq_ofNat_of_zero_le h.z0
  have hz := h.z1
  have hq : quoI .i64 (n : Int) 2 = ((n / 2 : Nat) : Int) := by
    rw [quoI_eq, show ((n : Int)).tdiv 2 = ((n / 2 : Nat) : Int) from rfl]
    exact wrap_i64 (by omega) (by omega)
  have hadd : addI .i64 7 ((n / 2 : Nat) : Int) = 7 + ((n / 2 : Nat) : Int) := addI_i64 (by omega) (by omega)
  have e := fun k => spec_l01Src_nearText.eq s a m (n : Int) k
  have z2 : ¬ ((2 : Int) = 0) := by omega
  simp only [W, W1, W2, W3, hq, hadd, if_neg z2] at e
  refine Drw.step e (Drw.bind (n_ev (7 + ((n / 2 : Nat) : Int)) (by omega) h) fun v a m ha hv => ?_)
  obtain ⟨f, rfl⟩ := Int.eq_ofNat_of_zero_le hv.1
  exact (near_loop s (n : Int) _ h f (bs []) a m ha tx_nil (by have : (bs []).size = 0 := rfl; omega)).one
end Go.Proofs.YtkkjkpliiinbjaaDoor.DF
