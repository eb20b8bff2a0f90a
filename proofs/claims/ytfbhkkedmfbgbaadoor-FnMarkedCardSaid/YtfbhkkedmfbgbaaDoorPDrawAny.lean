/- Drawn ropes, whole and broken. -/
import Derived.Test.YtfbhkkedmfbgbaaDoorPDrawText
namespace Go.Proofs.YtfbhkkedmfbgbaaDoor.PM
open Go.Eng Go.RowKit
set_option linter.unusedVariables false
set_option linter.unusedSimpArgs false
/-! ### numbers as texts -/
theorem digits_loop : ∀ (n : Nat) (out : ByteArray), n + out.size ≤ 100000 → ∃ b : ByteArray, b.size ≤ out.size + n + 1 ∧ Ev2 (fun k j => spec_l04Digits_L4 k j (n : Int) out) b := by
  intro n
  induction n using Nat.strongRecOn with
  | ind n ih =>
    intro out h
    have e := fun k j => spec_l04Digits_L4.eq (n : Int) out k j
    have hb : ∀ x : Int, (bytesOf [x]).size = 1 := fun x => by simp [bytesOf, ByteArray.size]
    have hq : quoI .i64 (n : Int) 10 = ((n / 10 : Nat) : Int) := by
      rw [quoI_eq, show ((n : Int)).tdiv 10 = ((n / 10 : Nat) : Int) from rfl]
      exact wrap_i64 (by omega) (by omega)
    simp only [W, W1, W2, W3, hq, if_neg (show ¬ (10 : Int) = 0 by omega), if_pos (show (((bytesOf [wrI .u8 (addI .i64 48 (remI (n : Int) 10))]).size : Nat) : Int) + (out.size : Int) ≤ 9223372036854775807 by rw [hb]; omega), if_pos (show (((bytesOf [wrI .u8 (addI .i64 48 (n : Int))]).size : Nat) : Int) + (out.size : Int) ≤ 9223372036854775807 by rw [hb]; omega)] at e
    by_cases c : 9 < n
    · simp only [if_pos (show (9 : Int) < (n : Int) by omega)] at e
      obtain ⟨b, h1, h2⟩ := ih (n / 10) (by omega) (bytesOf [wrI .u8 (addI .i64 48 (remI (n : Int) 10))] ++ out) (by rw [ByteArray.size_append, hb]; omega)
      refine ⟨b, ?_, Ev2.step e h2⟩
      rw [ByteArray.size_append, hb] at h1
      omega
    · simp only [if_neg (show ¬ (9 : Int) < (n : Int) by omega)] at e
      refine ⟨_, ?_, Ev2.ret e⟩
      rw [ByteArray.size_append, hb]; omega
theorem dec_ev (n : Nat) (h : n ≤ 10000) : ∃ b : ByteArray, b.size ≤ n + 1 ∧ Ev (fun k => spec_l04Dec k (n : Int)) b := by
  obtain ⟨b, h1, h2⟩ := digits_loop n (bs []) (by show n + 0 ≤ 100000; omega)
  refine ⟨b, by have : (bs []).size = 0 := rfl
                omega, ?_⟩
  have e := fun k => spec_l04Dec.eq (n : Int) k
  have e2 := fun k => spec_l04Digits.eq (n : Int) k
  simp only [W, W1, W2, W3, if_neg (show ¬ (n : Int) < 0 by omega)] at e e2
  exact Ev.step e (Ev.bind (Ev.step e2 h2.ev) (Ev.now _))
/-! ### ropes -/
structure Drawn (v : List T_siiii × List T_sib) : Prop where
  l1 : v.1.length ≤ 1048576
  t : (textOf v.1).size ≤ 65540
  l2 : v.2.length ≤ 200
  m : ∀ m ∈ v.2, m.1.size ≤ 1000
theorem Drawn.fits {v : List T_siiii × List T_sib} (h : Drawn v) : Fits v.1 v.2 := ⟨h.l1, by have := h.l2; omega, by have := h.t; omega, fun m hm => by have := h.m m hm; omega⟩
theorem many_loop (s : List Int) (z : Int) (a m : Int) (ha : 0 ≤ a ∧ a ≤ (s.length : Int)) (x : List T_siiii) : ∀ (f k0 : Nat) (ms : List T_sib), k0 + f = 100 → ms.length = k0 → (∀ q ∈ ms, q.1.size ≤ 1000) →
    Drw2 (fun k j => spec_l01Src_rope_L12 k j (k0 : Int) s a m z x ms) s z (fun v => v.1 = x ∧ v.2.length ≤ 100 ∧ ∀ q ∈ v.2, q.1.size ≤ 1000) := by
  intro f
  induction f with
  | zero =>
    intro k0 ms h1 h2 h3
    have e := fun k j => spec_l01Src_rope_L12.eq (k0 : Int) s a m z x ms k j
    simp only [W, W1, W2, W3, if_neg (show ¬ (k0 : Int) < 100 by omega)] at e
    exact Drw2.step e (Drw2.now ha ⟨rfl, by show ms.length ≤ 100; omega, h3⟩)
  | succ f ih =>
    intro k0 ms h1 h2 h3
    have e := fun k j => spec_l01Src_rope_L12.eq (k0 : Int) s a m z x ms k j
    have hadd : addI .i64 100 (k0 : Int) = ((100 + k0 : Nat) : Int) := by rw [addI_i64 (by omega) (by omega)]; omega
    have hadd1 : addI .i64 (k0 : Int) 1 = ((k0 + 1 : Nat) : Int) := by rw [addI_i64 (by omega) (by omega)]; omega
    simp only [W, W1, W2, W3, hadd, hadd1, if_pos (show (k0 : Int) < 100 by omega)] at e
    obtain ⟨b, hb, hd⟩ := dec_ev (100 + k0) (by omega)
    have hs1 : ((bs [109]).size : Int) + (b.size : Int) ≤ 9223372036854775807 := by
      have : (bs [109]).size = 1 := rfl
      omega
    refine Drw2.step e (Drw2.pre hd ?_)
    simp only [if_pos hs1, List.length_cons, List.length_nil, if_pos (show ((ms.length : Int) + ((0 + 1 : Nat) : Int)) * 32 < 140737488355328 by omega)]
    refine ih (k0 + 1) _ (by omega) (by simp; omega) ?_
    intro q hq
    rcases List.mem_append.1 hq with hq | hq
    · exact h3 q hq
    · obtain rfl := List.mem_singleton.1 hq
      show (bs [109] ++ b).size ≤ 1000
      rw [ByteArray.size_append]
      have : (bs [109]).size = 1 := rfl
      omega
theorem marks_loop (t : ByteArray) (ht : t.size ≤ 1000000) (s : List Int) (z : Int) (a0 : Int) (hs0 : Src s a0 z) (x : List T_siiii) (names : List ByteArray) (hn : names.length = 4) (hn2 : ∀ b ∈ names, b.size ≤ 1000) : ∀ (f i : Nat) (ms : List T_sib) (a m : Int), 0 ≤ a ∧ a ≤ (s.length : Int) → i + f = 4 → ms.length ≤ i → (∀ q ∈ ms, q.1.size ≤ 1000) →
    Drw2 (fun k j => spec_l01Src_rope_L5 k j t (i : Int) s a m z x ms names) s z (fun v => v.1 = x ∧ v.2.length ≤ 100 ∧ ∀ q ∈ v.2, q.1.size ≤ 1000) := by
  intro f
  induction f with
  | zero =>
    intro i ms a m ha h1 h2 h3
    have e := fun k j => spec_l01Src_rope_L5.eq t (i : Int) s a m z x ms names k j
    simp only [W, W1, W2, W3, if_neg (show ¬ (i : Int) < (names.length : Int) by omega)] at e
    refine Drw2.step e (Drw2.bind (one_ev 60 (by omega) (hs0.at ha)) fun v a1 m1 ha1 _ => ?_)
    cases v with
    | false => simp only [W1]; exact Drw2.now ha1 ⟨rfl, by show ms.length ≤ 100; omega, h3⟩
    | true =>
      simp only [W1]
      obtain ⟨v, a', m', h4, h5, h6⟩ := many_loop s z a1 m1 ha1 x 100 0 [] rfl rfl (fun q hq => by cases hq)
      exact ⟨v, a', m', h4.ev.two, h5, h6⟩
  | succ f ih =>
    intro i ms a m ha h1 h2 h3
    have e := fun k j => spec_l01Src_rope_L5.eq t (i : Int) s a m z x ms names k j
    have hadd1 : addI .i64 (i : Int) 1 = ((i + 1 : Nat) : Int) := by rw [addI_i64 (by omega) (by omega)]; omega
    have hadd2 : addI .i64 (t.size : Int) 1 = (t.size : Int) + 1 := addI_i64 (by omega) (by omega)
    simp only [W, W1, W2, W3, hadd1, hadd2, if_pos (show (i : Int) < (names.length : Int) by omega), if_pos (nat_ge i)] at e
    refine Drw2.step e (Drw2.bind (one_ev 2 (by omega) (hs0.at ha)) fun v a1 m1 ha1 _ => ?_)
    cases v with
    | false => simp only [W1]; exact ih (i + 1) ms a1 m1 ha1 (by omega) (by omega) h3
    | true =>
      simp only [W1]
      refine Drw2.bind (n_ev _ (by omega) (hs0.at ha1)) fun v2 a2 m2 ha2 _ => Drw2.bind (one_ev 2 (by omega) (hs0.at ha2)) fun v3 a3 m3 ha3 _ => ?_
      simp only [List.length_cons, List.length_nil, if_pos (show ((ms.length : Int) + ((0 + 1 : Nat) : Int)) * 32 < 140737488355328 by omega)]
      refine ih (i + 1) _ a3 m3 ha3 (by omega) (by simp; omega) ?_
      intro q hq
      rcases List.mem_append.1 hq with hq | hq
      · exact h3 q hq
      · obtain rfl := List.mem_singleton.1 hq
        show (rd names (i : Int) (bs [])).size ≤ 1000
        rw [rd_nat names i (bs []) (by omega)]
        exact hn2 _ (List.getElem_mem _)
theorem ropeOf_text (t : ByteArray) : (textOf (ropeOf t)).size ≤ 65536 := by
  unfold ropeOf
  split
  · show (ByteArray.mk #[]).size ≤ 65536
    decide
  · rw [textOf_tree]; omega
theorem rope_ev {s : List Int} {a m z : Int} (h : Src s a z) : Drw (fun k => spec_l01Src_rope k s a m z) s z (fun v => v.1.length ≤ 1048576 ∧ (textOf v.1).size ≤ 65536 ∧ v.2.length ≤ 100 ∧ ∀ q ∈ v.2, q.1.size ≤ 1000) := by
  have e := fun k => spec_l01Src_rope.eq s a m z k
  simp only [W, W1, W2, W3] at e
  have e0 := fun k => spec_l01Src_ropeText.eq s a m z k
  have hz0 := h.z0
  have hz1 := h.z1
  have hadd : addI .i64 6 z = 6 + z := addI_i64 (by omega) (by omega)
  simp only [W, W1, W2, W3, hadd] at e0
  have ht : Drw (fun k => spec_l01Src_ropeText k s a m z) s z (fun v => v.size ≤ 1000000) := by
    refine Drw.step e0 (Drw.bind (n_ev (6 + z) (by omega) h) fun v a1 m1 ha1 hv => ?_)
    obtain ⟨f, rfl⟩ := Int.eq_ofNat_of_zero_le hv.1
    obtain ⟨v, a2, m2, h1, h2⟩ := ropeText_loop s z a h f (bs []) a1 m1 ha1 (by show 0 + 40 * f ≤ 1000000; omega)
    exact ⟨v, a2, m2, h1.ev, h2.2, h2.1⟩
  refine Drw.step e (Drw.bind ht fun t a1 m1 ha1 hv => Drw.pre (specRope t) ?_)
  obtain ⟨v, a2, m2, h1, h2, h3, h4, h5⟩ := marks_loop t hv s z a h (ropeOf t) [bs [97], bs [98], bs [99], bs [100]] rfl (fun b hb => by
    simp only [List.mem_cons, List.not_mem_nil, or_false] at hb
    rcases hb with rfl | rfl | rfl | rfl <;> decide) 4 0 [] a1 m1 ha1 rfl (Nat.le_refl _) (fun q hq => by cases hq)
  refine ⟨v, a2, m2, h1.ev, h2, ?_, ?_, h4, h5⟩
  · rw [h3]; exact ropeOf_len t
  · rw [h3]; exact ropeOf_text t
/-! ### broken ropes -/
theorem textOf_set (y : T_siiii) : ∀ (l : List T_siiii) (n : Nat) (h : n < l.length), (textOf (l.set n y)).size + l[n].1.size = (textOf l).size + y.1.size := by
  intro l
  induction l with
  | nil => intro n h; simp at h
  | cons x l ih =>
    intro n h
    cases n with
    | zero => simp only [List.set_cons_zero, textOf, ByteArray.size_append, List.getElem_cons_zero]; omega
    | succ n =>
      have := ih n (by simpa using h)
      simp only [List.set_cons_succ, textOf, ByteArray.size_append, List.getElem_cons_succ]; omega
theorem textOf_take (l : List T_siiii) (n : Nat) : (textOf (l.take n)).size ≤ (textOf l).size := by
  have h := congrArg textOf (List.take_append_drop n l)
  rw [textOf_append] at h
  have h2 := congrArg ByteArray.size h
  rw [ByteArray.size_append] at h2
  omega
theorem anyRope_J17_ev {s : List Int} {a m z : Int} (ha : 0 ≤ a ∧ a ≤ (s.length : Int)) {r : List T_siiii} {ms : List T_sib} (h : Drawn (r, ms)) : Drw (fun k => spec_l01Src_anyRope_J17 k s a m z r ms) s z Drawn :=
  Drw.congr (fun k => spec_l01Src_anyRope_J17.eq s a m z r ms k) (Drw.now ha h)
theorem anyRope_set {s : List Int} {a m z : Int} (ha : 0 ≤ a ∧ a ≤ (s.length : Int)) {r : List T_siiii} {ms : List T_sib} (h1 : r.length ≤ 1048576) (h2 : (textOf r).size ≤ 65536) (h3 : ms.length ≤ 100) (h4 : ∀ q ∈ ms, q.1.size ≤ 1000) (n : Nat) (hn : n < r.length) (y : T_siiii) (hy : y.1.size ≤ 1 ∨ y.1 = r[n].1) :
    Drw (fun k => spec_l01Src_anyRope_J17 k s a m z (r.set n y) ms) s z Drawn := by
  refine anyRope_J17_ev ha ⟨by simpa using h1, ?_, by show ms.length ≤ 200; omega, h4⟩
  have := textOf_set y r n hn
  show (textOf (r.set n y)).size ≤ 65540
  rcases hy with hy | hy
  · omega
  · rw [hy] at this; omega
theorem anyRope_J4_ev (x : Bool) {s : List Int} {a m z : Int} (h : Src s a z) {r : List T_siiii} {ms : List T_sib} (h1 : r.length ≤ 1048576) (h2 : (textOf r).size ≤ 65536) (h3 : ms.length ≤ 100) (h4 : ∀ q ∈ ms, q.1.size ≤ 1000) (hx : x = true → 0 < r.length) :
    Drw (fun k => spec_l01Src_anyRope_J4 k x s a m z r ms) s z Drawn := by
  have e := fun k => spec_l01Src_anyRope_J4.eq x s a m z r ms k
  simp only [W, W1, W2, W3] at e
  refine Drw.congr e ?_
  cases x with
  | true =>
    have hpos := hx rfl
    simp only [W1]
    refine Drw.bind (n_ev (r.length : Int) (by omega) h) fun v a1 m1 ha1 hv => ?_
    obtain ⟨n, rfl⟩ := Int.eq_ofNat_of_zero_le hv.1
    have hn : n < r.length := by have := hv.2; omega
    refine Drw.bind (n_ev 5 (by omega) (h.at ha1)) fun v2 a2 m2 ha2 hv2 => ?_
    have hr : rd r ((n : Int)) ((bs []), (0, (0, (0, 0)))) = r[n] := rd_nat r n _ hn
    have hp1 : (0 : Int) ≤ (n : Int) := nat_ge n
    have hp2 : (n : Int) < (r.length : Int) := by show (n : Int) < _; omega
    have hp3 : (n : Int) ≤ (r.length : Int) := by show (n : Int) ≤ _; omega
    simp only [if_pos hp1, if_pos hp2, if_pos hp3, hr, Int.toNat_natCast]
    by_cases c0 : v2 = 0
    · simp only [if_pos c0]
      generalize addI .i64 _ 1 = w
      exact anyRope_set ha2 h1 h2 h3 h4 n hn (r[n].1, _) (.inr rfl)
    by_cases c1 : v2 = 1
    · simp only [if_neg c0, if_pos c1]
      refine Drw.bind (n_ev 3 (by omega) (h.at ha2)) fun v3 a3 m3 ha3 hv3 => ?_
      generalize subI .i64 v3 1 = w
      exact anyRope_set ha3 h1 h2 h3 h4 n hn (r[n].1, _) (.inr rfl)
    by_cases c2 : v2 = 2
    · simp only [if_neg c0, if_neg c1, if_pos c2]
      refine Drw.bind (pick_ev [bs [], bs [120]] (by simp) (by simp) (h.at ha2)) fun v3 a3 m3 ha3 hv3 => anyRope_set ha3 h1 h2 h3 h4 n hn _ (.inl ?_)
      simp only [List.mem_cons, List.not_mem_nil, or_false] at hv3
      show v3.size ≤ 1
      rcases hv3 with rfl | rfl <;> decide
    by_cases c3 : v2 = 3
    · simp only [if_neg c0, if_neg c1, if_neg c2, if_pos c3]
      refine Drw.congr (fun k => spec_l01Src_anyRope_J17'1.eq s a2 m2 z ((n : Int)) r ms k) ?_
      simp only [W, W2]
      refine Drw.now ha2 ⟨?_, ?_, by show ms.length ≤ 200; omega, h4⟩
      · show (r.take _).length ≤ 1048576
        rw [List.length_take]; omega
      · have := textOf_take r ((n : Int)).toNat
        show (textOf (r.take _)).size ≤ 65540
        omega
    by_cases c4 : v2 = 4
    · simp only [if_neg c0, if_neg c1, if_neg c2, if_neg c3, if_pos c4]
      exact anyRope_set ha2 h1 h2 h3 h4 n hn _ (.inr rfl)
    · simp only [if_neg c0, if_neg c1, if_neg c2, if_neg c3, if_neg c4]
      exact anyRope_J17_ev ha2 ⟨h1, by show (textOf r).size ≤ 65540; omega, by show ms.length ≤ 200; omega, h4⟩
  | false =>
    simp only [W1]
    refine Drw.bind (pick_ev [bs [], bs [97], bs [122, 122], bs [122, 122]] (by simp) (by simp) h) fun v a1 m1 ha1 hv => ?_
    refine Drw.bind (n_ev 3 (by omega) (h.at ha1)) fun v2 a2 m2 ha2 hv2 => ?_
    simp only [List.length_cons, List.length_nil, if_pos hv2.1, if_pos (show v2 < ((0 + 1 + 1 + 1 : Nat) : Int) by omega), if_pos (show ((ms.length : Int) + ((0 + 1 : Nat) : Int)) * 32 < 140737488355328 by omega)]
    refine anyRope_J17_ev ha2 ⟨h1, by show (textOf r).size ≤ 65540; omega, by simp; omega, ?_⟩
    intro q hq
    rcases List.mem_append.1 hq with hq | hq
    · exact h4 q hq
    · obtain rfl := List.mem_singleton.1 hq
      simp only [List.mem_cons, List.not_mem_nil, or_false] at hv
      show v.size ≤ 1000
      rcases hv with rfl | rfl | rfl | rfl <;> decide
theorem anyRope_ev {s : List Int} {a m z : Int} (h : Src s a z) : Drw (fun k => spec_l01Src_anyRope k s a m z) s z Drawn := by
  have e := fun k => spec_l01Src_anyRope.eq s a m z k
  simp only [W, W1, W2, W3] at e
  refine Drw.step e (Drw.bind (rope_ev h) fun v a1 m1 ha1 hv => Drw.bind (one_ev 8 (by omega) (h.at ha1)) fun v2 a2 m2 ha2 _ => ?_)
  obtain ⟨h1, h2, h3, h4⟩ := hv
  cases v2 with
  | false => simp only [W1]; exact anyRope_J17_ev ha2 ⟨h1, by show (textOf v.1).size ≤ 65540; omega, by show v.2.length ≤ 200; omega, h4⟩
  | true =>
    simp only [W1]
    by_cases c : 0 < v.1.length
    · simp only [if_pos (show (0 : Int) < (v.1.length : Int) by omega)]
      exact Drw.bind (one_ev 2 (by omega) (h.at ha2)) fun v3 a3 m3 ha3 _ => anyRope_J4_ev v3 (h.at ha3) h1 h2 h3 h4 fun _ => c
    · simp only [if_neg (show ¬ (0 : Int) < (v.1.length : Int) by omega)]
      exact anyRope_J4_ev false (h.at ha2) h1 h2 h3 h4 fun h => by cases h
end Go.Proofs.YtfbhkkedmfbgbaaDoor.PM
