/- Drawn ropes, whole and broken, and drawn edits of them. -/
import Derived.Test.YtkghicadebeceaaDoorPDrawText
namespace Go.Proofs.YtkghicadebeceaaDoor.RG
open Go.Eng Go.RowKit
set_option linter.unusedVariables false
set_option linter.unusedSimpArgs false
/-! ### draws in loops -/
def Drw2 {α : Type} (g : Nat → Nat → Option (α × List Int × Int × Int × Int)) (s : List Int) (z : Int) (Q : α → Prop) : Prop := ∃ v a m, Ev2 g (v, (s, (a, (m, z)))) ∧ (0 ≤ a ∧ a ≤ (s.length : Int)) ∧ Q v
section
variable {α β : Type} {s : List Int} {z : Int} {Q : α → Prop} {Q' : β → Prop}
theorem Drw2.step {g f : Nat → Nat → Option (α × List Int × Int × Int × Int)} (he : ∀ k j, g k (j + 1) = f k j) (h : Drw2 f s z Q) : Drw2 g s z Q := by
  obtain ⟨v, a, m, h1, h2, h3⟩ := h
  exact ⟨v, a, m, Ev2.step he h1, h2, h3⟩
theorem Drw2.congr {g f : Nat → Nat → Option (α × List Int × Int × Int × Int)} (he : ∀ k j, g k j = f k j) (h : Drw2 f s z Q) : Drw2 g s z Q := by
  have : g = f := funext fun k => funext fun j => he k j
  rw [this]; exact h
theorem Drw2.bind {g : Nat → Option (β × List Int × Int × Int × Int)} {f : Nat → Nat → β × List Int × Int × Int × Int → Option (α × List Int × Int × Int × Int)} (h : Drw g s z Q')
    (hf : ∀ v a m, 0 ≤ a ∧ a ≤ (s.length : Int) → Q' v → Drw2 (fun k j => f k j (v, (s, (a, (m, z))))) s z Q) : Drw2 (fun k j => (g k).bind (f k j)) s z Q := by
  obtain ⟨v, a, m, h1, h2, h3⟩ := h
  obtain ⟨v', a', m', k1, k2, k3⟩ := hf v a m h2 h3
  exact ⟨v', a', m', Ev2.bind h1 k1, k2, k3⟩
theorem Drw2.pre {g : Nat → Option β} {f : Nat → Nat → β → Option (α × List Int × Int × Int × Int)} {b : β} (h : Ev g b) (hf : Drw2 (fun k j => f k j b) s z Q) : Drw2 (fun k j => (g k).bind (f k j)) s z Q := by
  obtain ⟨v', a', m', k1, k2, k3⟩ := hf
  exact ⟨v', a', m', Ev2.bind h k1, k2, k3⟩
theorem Drw2.now {a m : Int} {v : α} (h : 0 ≤ a ∧ a ≤ (s.length : Int)) (hq : Q v) : Drw2 (fun _ _ => some (v, (s, (a, (m, z))))) s z Q := ⟨v, a, m, Ev2.now _, h, hq⟩
theorem Drw2.one {g : Nat → Nat → Option (α × List Int × Int × Int × Int)} (h : Drw2 g s z Q) : Drw (fun k => g k k) s z Q := by
  obtain ⟨v, a, m, h1, h2, h3⟩ := h
  exact ⟨v, a, m, h1.ev, h2, h3⟩
end
/-! ### numbers as texts -/
theorem digits_loop : ∀ (n : Nat) (out : ByteArray), n + out.size ≤ 100000 → ∃ b : ByteArray, b.size ≤ out.size + n + 1 ∧ Ev2 (fun k j => spec_l04Digits_L4 k j (n : Int) out) b := by
  intro n
  induction n using Nat.strongRecOn with
  | ind n ih =>
    intro out h
    have e := fun k j => spec_l04Digits_L4.eq (n : Int) out k j
    have hb : ∀ x : Int, (bytesOf [x]).size = 1 := fun x => by simp [bytesOf, ByteArray.size]
    have hq : quoI .i64 (n : Int) 10 = ((n / 10 : Nat) : Int) := by
      rw [quoI_eq, show ((n : Int)).tdiv 10 = ((n / 10 : Nat) : Int) from rfl]
      exact wrap_i64 (by omega) (by omega)
    simp only [W, W1, W2, W3, hq, if_neg (show ¬ (10 : Int) = 0 by omega), if_pos (show (((bytesOf [wrI .u8 (addI .i64 48 (remI (n : Int) 10))]).size : Nat) : Int) + (out.size : Int) ≤ 9223372036854775807 by rw [hb]; omega), if_pos (show (((bytesOf [wrI .u8 (addI .i64 48 (n : Int))]).size : Nat) : Int) + (out.size : Int) ≤ 9223372036854775807 by rw [hb]; omega)] at e
    by_cases c : 9 < n
    · simp only [if_pos (show (9 : Int) < (n : Int) by omega)] at e
      obtain ⟨b, h1, h2⟩ := ih (n / 10) (by omega) (bytesOf [wrI .u8 (addI .i64 48 (remI (n : Int) 10))] ++ out) (by rw [ByteArray.size_append, hb]; omega)
      refine ⟨b, ?_, Ev2.step e h2⟩
      rw [ByteArray.size_append, hb] at h1
      omega
    · simp only [if_neg (show ¬ (9 : Int) < (n : Int) by omega)] at e
      refine ⟨_, ?_, Ev2.ret e⟩
      rw [ByteArray.size_append, hb]; omega
theorem dec_ev (n : Nat) (h : n ≤ 10000) : ∃ b : ByteArray, b.size ≤ n + 1 ∧ Ev (fun k => spec_l04Dec k (n : Int)) b := by
  obtain ⟨b, h1, h2⟩ := digits_loop n (bs []) (by show n + 0 ≤ 100000; omega)
  refine ⟨b, by have : (bs []).size = 0 := rfl
                omega, ?_⟩
  have e := fun k => spec_l04Dec.eq (n : Int) k
  have e2 := fun k => spec_l04Digits.eq (n : Int) k
  simp only [W, W1, W2, W3, if_neg (show ¬ (n : Int) < 0 by omega)] at e e2
  exact Ev.step e (Ev.bind (Ev.step e2 h2.ev) (Ev.now _))
/-! ### ropes -/
structure Drawn (v : List T_siiii × List T_sib) : Prop where
  l1 : v.1.length ≤ 1048576
  t : (textOf v.1).size ≤ 65540
  l2 : v.2.length ≤ 200
  m : ∀ m ∈ v.2, m.1.size ≤ 1000
theorem Drawn.fits {v : List T_siiii × List T_sib} (h : Drawn v) : Fits v.1 v.2 := ⟨h.l1, by have := h.l2; omega, by have := h.t; omega, fun m hm => by have := h.m m hm; omega⟩
theorem many_loop (s : List Int) (z : Int) (a m : Int) (ha : 0 ≤ a ∧ a ≤ (s.length : Int)) (x : List T_siiii) : ∀ (f k0 : Nat) (ms : List T_sib), k0 + f = 100 → ms.length = k0 → (∀ q ∈ ms, q.1.size ≤ 1000) →
    Drw2 (fun k j => spec_l01Src_rope_L12 k j (k0 : Int) s a m z x ms) s z (fun v => v.1 = x ∧ v.2.length ≤ 100 ∧ ∀ q ∈ v.2, q.1.size ≤ 1000) := by
  intro f
  induction f with
  | zero =>
    intro k0 ms h1 h2 h3
    have e := fun k j => spec_l01Src_rope_L12.eq (k0 : Int) s a m z x ms k j
    simp only [W, W1, W2, W3, if_neg (show ¬ (k0 : Int) < 100 by omega)] at e
    exact Drw2.step e (Drw2.now ha ⟨rfl, by show ms.length ≤ 100; omega, h3⟩)
  | succ f ih =>
    intro k0 ms h1 h2 h3
    have e := fun k j => spec_l01Src_rope_L12.eq (k0 : Int) s a m z x ms k j
    have hadd : addI .i64 100 (k0 : Int) = ((100 + k0 : Nat) : Int) := by rw [addI_i64 (by omega) (by omega)]; omega
    have hadd1 : addI .i64 (k0 : Int) 1 = ((k0 + 1 : Nat) : Int) := by rw [addI_i64 (by omega) (by omega)]; omega
    simp only [W, W1, W2, W3, hadd, hadd1, if_pos (show (k0 : Int) < 100 by omega)] at e
    obtain ⟨b, hb, hd⟩ := dec_ev (100 + k0) (by omega)
    have hs1 : ((bs [109]).size : Int) + (b.size : Int) ≤ 9223372036854775807 := by
      have : (bs [109]).size = 1 := rfl
      omega
    refine Drw2.step e (Drw2.pre hd ?_)
    simp only [if_pos hs1, List.length_cons, List.length_nil, if_pos (show ((ms.length : Int) + ((0 + 1 : Nat) : Int)) * 32 < 140737488355328 by omega)]
    refine ih (k0 + 1) _ (by omega) (by simp; omega) ?_
    intro q hq
    rcases List.mem_append.1 hq with hq | hq
    · exact h3 q hq
    · obtain rfl := List.mem_singleton.1 hq
      show (bs [109] ++ b).size ≤ 1000
      rw [ByteArray.size_append]
      have : (bs [109]).size = 1 := rfl
      omega
theorem marks_loop (t : ByteArray) (ht : t.size ≤ 1000000) (s : List Int) (z : Int) (a0 : Int) (hs0 : Src s a0 z) (x : List T_siiii) (names : List ByteArray) (hn : names.length = 4) (hn2 : ∀ b ∈ names, b.size ≤ 1000) : ∀ (f i : Nat) (ms : List T_sib) (a m : Int), 0 ≤ a ∧ a ≤ (s.length : Int) → i + f = 4 → ms.length ≤ i → (∀ q ∈ ms, q.1.size ≤ 1000) →
    Drw2 (fun k j => spec_l01Src_rope_L5 k j t (i : Int) s a m z x ms names) s z (fun v => v.1 = x ∧ v.2.length ≤ 100 ∧ ∀ q ∈ v.2, q.1.size ≤ 1000) := by
  intro f
  induction f with
  | zero =>
    intro i ms a m ha h1 h2 h3
    have e := fun k j => spec_l01Src_rope_L5.eq t (i : Int) s a m z x ms names k j
    simp only [W, W1, W2, W3, if_neg (show ¬ (i : Int) < (names.length : Int) by omega)] at e
    refine Drw2.step e (Drw2.bind (one_ev 60 (by omega) (hs0.at ha)) fun v a1 m1 ha1 _ => ?_)
    cases v with
    | false => simp only [W1]; exact Drw2.now ha1 ⟨rfl, by show ms.length ≤ 100; omega, h3⟩
    | true =>
      simp only [W1]
      obtain ⟨v, a', m', h4, h5, h6⟩ := many_loop s z a1 m1 ha1 x 100 0 [] rfl rfl (fun q hq => by cases hq)
      exact ⟨v, a', m', h4.ev.two, h5, h6⟩
  | succ f ih =>
    intro i ms a m ha h1 h2 h3
    have e := fun k j => spec_l01Src_rope_L5.eq t (i : Int) s a m z x ms names k j
    have hadd1 : addI .i64 (i : Int) 1 = ((i + 1 : Nat) : Int) := by rw [addI_i64 (by omega) (by omega)]; omega
    have hadd2 : addI .i64 (t.size : Int) 1 = (t.size : Int) + 1 := addI_i64 (by omega) (by omega)
    simp only [W, W1, W2, W3, hadd1, hadd2, if_pos (show (i : Int) < (names.length : Int) by omega), if_pos (nat_ge i)] at e
    refine Drw2.step e (Drw2.bind (one_ev 2 (by omega) (hs0.at ha)) fun v a1 m1 ha1 _ => ?_)
    cases v with
    | false => simp only [W1]; exact ih (i + 1) ms a1 m1 ha1 (by omega) (by omega) h3
    | true =>
      simp only [W1]
      refine Drw2.bind (n_ev _ (by omega) (hs0.at ha1)) fun v2 a2 m2 ha2 _ => Drw2.bind (one_ev 2 (by omega) (hs0.at ha2)) fun v3 a3 m3 ha3 _ => ?_
      simp only [List.length_cons, List.length_nil, if_pos (show ((ms.length : Int) + ((0 + 1 : Nat) : Int)) * 32 < 140737488355328 by omega)]
      refine ih (i + 1) _ a3 m3 ha3 (by omega) (by simp; omega) ?_
      intro q hq
      rcases List.mem_append.1 hq with hq | hq
      · exact h3 q hq
      · obtain rfl := List.mem_singleton.1 hq
        show (rd names (i : Int) (bs [])).size ≤ 1000
        rw [rd_nat names i (bs []) (by omega)]
        exact hn2 _ (List.getElem_mem _)
theorem ropeOf_text (t : ByteArray) : (textOf (ropeOf t)).size ≤ 65536 := by
  unfold ropeOf
  split
  · show (ByteArray.mk #[]).size ≤ 65536
    decide
  · rw [textOf_tree]; omega
theorem rope_ev {s : List Int} {a m z : Int} (h : Src s a z) : Drw (fun k => spec_l01Src_rope k s a m z) s z (fun v => v.1.length ≤ 1048576 ∧ (textOf v.1).size ≤ 65536 ∧ v.2.length ≤ 100 ∧ ∀ q ∈ v.2, q.1.size ≤ 1000) := by
  have e := fun k => spec_l01Src_rope.eq s a m z k
  simp only [W, W1, W2, W3] at e
  have e0 := fun k => spec_l01Src_ropeText.eq s a m z k
  have hz0 := h.z0
  have hz1 := h.z1
  have hadd : addI .i64 6 z = 6 + z := addI_i64 (by omega) (by omega)
  simp only [W, W1, W2, W3, hadd] at e0
  have ht : Drw (fun k => spec_l01Src_ropeText k s a m z) s z (fun v => v.size ≤ 1000000) := by
    refine Drw.step e0 (Drw.bind (n_ev (6 + z) (by omega) h) fun v a1 m1 ha1 hv => ?_)
    obtain ⟨f, rfl⟩ := Int.eq_ofNat_of_zero_le hv.1
    obtain ⟨v, a2, m2, h1, h2⟩ := ropeText_loop s z a h f (bs []) a1 m1 ha1 (by show 0 + 40 * f ≤ 1000000; omega)
    exact ⟨v, a2, m2, h1.ev, h2.2, h2.1⟩
  refine Drw.step e (Drw.bind ht fun t a1 m1 ha1 hv => Drw.pre (specRope t) ?_)
  obtain ⟨v, a2, m2, h1, h2, h3, h4, h5⟩ := marks_loop t hv s z a h (ropeOf t) [bs [97], bs [98], bs [99], bs [100]] rfl (fun b hb => by
    simp only [List.mem_cons, List.not_mem_nil, or_false] at hb
    rcases hb with rfl | rfl | rfl | rfl <;> decide) 4 0 [] a1 m1 ha1 rfl (Nat.le_refl _) (fun q hq => by cases hq)
  refine ⟨v, a2, m2, h1.ev, h2, ?_, ?_, h4, h5⟩
  · rw [h3]; exact ropeOf_len t
  · rw [h3]; exact ropeOf_text t
/-! ### broken ropes -/
theorem textOf_set (y : T_siiii) : ∀ (l : List T_siiii) (n : Nat) (h : n < l.length), (textOf (l.set n y)).size + l[n].1.size = (textOf l).size + y.1.size := by
  intro l
  induction l with
  | nil => intro n h; simp at h
  | cons x l ih =>
    intro n h
    cases n with
    | zero => simp only [List.set_cons_zero, textOf, ByteArray.size_append, List.getElem_cons_zero]; omega
    | succ n =>
      have := ih n (by simpa using h)
      simp only [List.set_cons_succ, textOf, ByteArray.size_append, List.getElem_cons_succ]; omega
theorem textOf_take (l : List T_siiii) (n : Nat) : (textOf (l.take n)).size ≤ (textOf l).size := by
  have h := congrArg textOf (List.take_append_drop n l)
  rw [textOf_append] at h
  have h2 := congrArg ByteArray.size h
  rw [ByteArray.size_append] at h2
  omega
theorem anyRope_J17_ev {s : List Int} {a m z : Int} (ha : 0 ≤ a ∧ a ≤ (s.length : Int)) {r : List T_siiii} {ms : List T_sib} (h : Drawn (r, ms)) : Drw (fun k => spec_l01Src_anyRope_J17 k s a m z r ms) s z Drawn :=
  Drw.congr (fun k => spec_l01Src_anyRope_J17.eq s a m z r ms k) (Drw.now ha h)
theorem anyRope_set {s : List Int} {a m z : Int} (ha : 0 ≤ a ∧ a ≤ (s.length : Int)) {r : List T_siiii} {ms : List T_sib} (h1 : r.length ≤ 1048576) (h2 : (textOf r).size ≤ 65536) (h3 : ms.length ≤ 100) (h4 : ∀ q ∈ ms, q.1.size ≤ 1000) (n : Nat) (hn : n < r.length) (y : T_siiii) (hy : y.1.size ≤ 1 ∨ y.1 = r[n].1) :
    Drw (fun k => spec_l01Src_anyRope_J17 k s a m z (r.set n y) ms) s z Drawn := by
  refine anyRope_J17_ev ha ⟨by simpa using h1, ?_, by show ms.length ≤ 200; omega, h4⟩
  have := textOf_set y r n hn
  show (textOf (r.set n y)).size ≤ 65540
  rcases hy with hy | hy
  · omega
  · rw [hy] at this; omega
theorem anyRope_J4_ev (x : Bool) {s : List Int} {a m z : Int} (h : Src s a z) {r : List T_siiii} {ms : List T_sib} (h1 : r.length ≤ 1048576) (h2 : (textOf r).size ≤ 65536) (h3 : ms.length ≤ 100) (h4 : ∀ q ∈ ms, q.1.size ≤ 1000) (hx : x = true → 0 < r.length) :
    Drw (fun k => spec_l01Src_anyRope_J4 k x s a m z r ms) s z Drawn := by
  have e := fun k => spec_l01Src_anyRope_J4.eq x s a m z r ms k
  simp only [W, W1, W2, W3] at e
  refine Drw.congr e ?_
  cases x with
  | true =>
    have hpos := hx rfl
    simp only [W1]
    refine Drw.bind (n_ev (r.length : Int) (by omega) h) fun v a1 m1 ha1 hv => ?_
    obtain ⟨n, rfl⟩ := Int.eq_ofNat_of_zero_le hv.1
    have hn : n < r.length := by have := hv.2; omega
    refine Drw.bind (n_ev 5 (by omega) (h.at ha1)) fun v2 a2 m2 ha2 hv2 => ?_
    have hr : rd r ((n : Int)) ((bs []), (0, (0, (0, 0)))) = r[n] := rd_nat r n _ hn
    have hp1 : (0 : Int) ≤ (n : Int) := nat_ge n
    have hp2 : (n : Int) < (r.length : Int) := by show (n : Int) < _; omega
    have hp3 : (n : Int) ≤ (r.length : Int) := by show (n : Int) ≤ _; omega
    simp only [if_pos hp1, if_pos hp2, if_pos hp3, hr, Int.toNat_natCast]
    by_cases c0 : v2 = 0
    · simp only [if_pos c0]
      generalize addI .i64 _ 1 = w
      exact anyRope_set ha2 h1 h2 h3 h4 n hn (r[n].1, _) (.inr rfl)
    by_cases c1 : v2 = 1
    · simp only [if_neg c0, if_pos c1]
      refine Drw.bind (n_ev 3 (by omega) (h.at ha2)) fun v3 a3 m3 ha3 hv3 => ?_
      generalize subI .i64 v3 1 = w
      exact anyRope_set ha3 h1 h2 h3 h4 n hn (r[n].1, _) (.inr rfl)
    by_cases c2 : v2 = 2
    · simp only [if_neg c0, if_neg c1, if_pos c2]
      refine Drw.bind (pick_ev [bs [], bs [120]] (by simp) (by simp) (h.at ha2)) fun v3 a3 m3 ha3 hv3 => anyRope_set ha3 h1 h2 h3 h4 n hn _ (.inl ?_)
      simp only [List.mem_cons, List.not_mem_nil, or_false] at hv3
      show v3.size ≤ 1
      rcases hv3 with rfl | rfl <;> decide
    by_cases c3 : v2 = 3
    · simp only [if_neg c0, if_neg c1, if_neg c2, if_pos c3]
      refine Drw.congr (fun k => spec_l01Src_anyRope_J17'1.eq s a2 m2 z ((n : Int)) r ms k) ?_
      simp only [W, W2]
      refine Drw.now ha2 ⟨?_, ?_, by show ms.length ≤ 200; omega, h4⟩
      · show (r.take _).length ≤ 1048576
        rw [List.length_take]; omega
      · have := textOf_take r ((n : Int)).toNat
        show (textOf (r.take _)).size ≤ 65540
        omega
    by_cases c4 : v2 = 4
    · simp only [if_neg c0, if_neg c1, if_neg c2, if_neg c3, if_pos c4]
      exact anyRope_set ha2 h1 h2 h3 h4 n hn _ (.inr rfl)
    · simp only [if_neg c0, if_neg c1, if_neg c2, if_neg c3, if_neg c4]
      exact anyRope_J17_ev ha2 ⟨h1, by show (textOf r).size ≤ 65540; omega, by show ms.length ≤ 200; omega, h4⟩
  | false =>
    simp only [W1]
    refine Drw.bind (pick_ev [bs [], bs [97], bs [122, 122], bs [122, 122]] (by simp) (by simp) h) fun v a1 m1 ha1 hv => ?_
    refine Drw.bind (n_ev 3 (by omega) (h.at ha1)) fun v2 a2 m2 ha2 hv2 => ?_
    simp only [List.length_cons, List.length_nil, if_pos hv2.1, if_pos (show v2 < ((0 + 1 + 1 + 1 : Nat) : Int) by omega), if_pos (show ((ms.length : Int) + ((0 + 1 : Nat) : Int)) * 32 < 140737488355328 by omega)]
    refine anyRope_J17_ev ha2 ⟨h1, by show (textOf r).size ≤ 65540; omega, by simp; omega, ?_⟩
    intro q hq
    rcases List.mem_append.1 hq with hq | hq
    · exact h4 q hq
    · obtain rfl := List.mem_singleton.1 hq
      simp only [List.mem_cons, List.not_mem_nil, or_false] at hv
      show v.size ≤ 1000
      rcases hv with rfl | rfl | rfl | rfl <;> decide
theorem anyRope_ev {s : List Int} {a m z : Int} (h : Src s a z) : Drw (fun k => spec_l01Src_anyRope k s a m z) s z Drawn := by
  have e := fun k => spec_l01Src_anyRope.eq s a m z k
  simp only [W, W1, W2, W3] at e
  refine Drw.step e (Drw.bind (rope_ev h) fun v a1 m1 ha1 hv => Drw.bind (one_ev 8 (by omega) (h.at ha1)) fun v2 a2 m2 ha2 _ => ?_)
  obtain ⟨h1, h2, h3, h4⟩ := hv
  cases v2 with
  | false => simp only [W1]; exact anyRope_J17_ev ha2 ⟨h1, by show (textOf v.1).size ≤ 65540; omega, by show v.2.length ≤ 200; omega, h4⟩
  | true =>
    simp only [W1]
    by_cases c : 0 < v.1.length
    · simp only [if_pos (show (0 : Int) < (v.1.length : Int) by omega)]
      exact Drw.bind (one_ev 2 (by omega) (h.at ha2)) fun v3 a3 m3 ha3 _ => anyRope_J4_ev v3 (h.at ha3) h1 h2 h3 h4 fun _ => c
    · simp only [if_neg (show ¬ (0 : Int) < (v.1.length : Int) by omega)]
      exact anyRope_J4_ev false (h.at ha2) h1 h2 h3 h4 fun h => by cases h
/-! ### edits -/
def Puts (l : List T_iis) : Prop := ∀ e ∈ l, e.2.2.size ≤ 1048576
section
variable {s : List Int} {z : Int} {n : Int} {k0 : Int} {c : Nat}
/-- what the rest of the draws does -/
def Rest (s : List Int) (z k0 : Int) (c : Nat) : Prop := ∀ (n a m : Int) (out : List T_iis), 0 ≤ n → n ≤ 70000 → 0 ≤ a ∧ a ≤ (s.length : Int) → out.length ≤ c + 1 → Puts out →
    Drw2 (fun k j => spec_l01Src_ropeEdits_L3 k j n (subI .i64 k0 1) s a m z out) s z (fun v => v.length ≤ 10 ∧ Puts v)
theorem edits_J14 (hR : Rest s z k0 c) (hc : c ≤ 100) (e e1 : Int) (e2 : ByteArray) (he : e2.size ≤ 1048576) (a m : Int) (ha : 0 ≤ a ∧ a ≤ (s.length : Int)) (out : List T_iis) (ho : out.length ≤ c) (hp : Puts out) :
    Drw2 (fun k j => spec_l01Src_ropeEdits_J14 k j n k0 s a m z out e e1 e2) s z (fun v => v.length ≤ 10 ∧ Puts v) := by
  have q := fun k j => spec_l01Src_ropeEdits_J14.eq n k0 s a m z out e e1 e2 k j
  simp only [spec_l01Src_ropeEdits_J4.eq] at q
  simp only [W, W1, W2, W3, List.length_cons, List.length_nil] at q
  generalize addI .i64 (subI .i64 n e1) (e2.size : Int) = y at q
  have hp2 : Puts (out ++ [(e, (e1, e2))]) := fun x hx => by
    rcases List.mem_append.1 hx with hx | hx
    · exact hp x hx
    · obtain rfl := List.mem_singleton.1 hx; exact he
  have hl2 : (out ++ [(e, (e1, e2))]).length ≤ c + 1 := by simp; omega
  have hlt : ((out.length : Int) + ((0 + 1 : Nat) : Int)) * 32 < 140737488355328 := by omega
  simp only [if_pos hlt] at q
  refine Drw2.congr q ?_
  by_cases c1 : y < 0
  · simp only [if_pos c1]
    exact hR 0 a m _ (by omega) (by omega) ha hl2 hp2
  · by_cases c2 : 70000 < y
    · simp only [if_neg c1, if_pos c2]
      exact hR 0 a m _ (by omega) (by omega) ha hl2 hp2
    · simp only [if_neg c1, if_neg c2]
      exact hR y a m _ (by omega) (by omega) ha hl2 hp2
theorem edits_J12 (hR : Rest s z k0 c) (hc : c ≤ 100) {a0 : Int} (h : Src s a0 z) (e e1 : Int) (e2 : ByteArray) (he : e2.size ≤ 1048576) (a m : Int) (ha : 0 ≤ a ∧ a ≤ (s.length : Int)) (out : List T_iis) (ho : out.length ≤ c) (hp : Puts out) :
    Drw2 (fun k j => spec_l01Src_ropeEdits_J12 k j n k0 s a m z out e e1 e2) s z (fun v => v.length ≤ 10 ∧ Puts v) := by
  have q := fun k j => spec_l01Src_ropeEdits_J12.eq n k0 s a m z out e e1 e2 k j
  simp only [W, W1, W2, W3] at q
  refine Drw2.congr q (Drw2.bind (one_ev 60 (by omega) (h.at ha)) fun v a1 m1 ha1 _ => ?_)
  cases v with
  | false => simp only [W1]; exact edits_J14 hR hc e e1 e2 he a1 m1 ha1 out ho hp
  | true =>
    simp only [W1]
    refine Drw2.bind (n_ev 8 (by omega) (h.at ha1)) fun v a2 m2 ha2 hv => ?_
    have hadd : addI .i64 65530 v = 65530 + v := addI_i64 (by omega) (by omega)
    simp only [hadd]
    exact Drw2.bind (long_ev (bs [122]) (65530 + v) (by decide) (by decide) (by omega) (by omega) (h.at ha2)) fun b a3 m3 ha3 hb => edits_J14 hR hc e e1 b (by omega) a3 m3 ha3 out ho hp
theorem edits_J10 (hR : Rest s z k0 c) (hc : c ≤ 100) {a0 : Int} (h : Src s a0 z) (e e1 : Int) (e2 : ByteArray) (he : e2.size ≤ 1048576) (a m : Int) (ha : 0 ≤ a ∧ a ≤ (s.length : Int)) (out : List T_iis) (ho : out.length ≤ c) (hp : Puts out) :
    Drw2 (fun k j => spec_l01Src_ropeEdits_J10 k j n k0 s a m z out e e1 e2) s z (fun v => v.length ≤ 10 ∧ Puts v) := by
  have q := fun k j => spec_l01Src_ropeEdits_J10.eq n k0 s a m z out e e1 e2 k j
  simp only [W, W1, W2, W3] at q
  refine Drw2.congr q (Drw2.bind (one_ev 40 (by omega) (h.at ha)) fun v a1 m1 ha1 _ => ?_)
  cases v with
  | false => simp only [W1]; exact edits_J12 hR hc h e e1 e2 he a1 m1 ha1 out ho hp
  | true =>
    simp only [W1]
    refine Drw2.bind (n_ev 2 (by omega) (h.at ha1)) fun v a2 m2 ha2 hv => ?_
    simp only [List.length_cons, List.length_nil, if_pos hv.1, if_pos (show v < ((0 + 1 + 1 : Nat) : Int) by omega)]
    exact edits_J12 hR hc h e _ e2 he a2 m2 ha2 out ho hp
theorem edits_J8 (hR : Rest s z k0 c) (hc : c ≤ 100) {a0 : Int} (h : Src s a0 z) (e e1 : Int) (e2 : ByteArray) (he : e2.size ≤ 1048576) (a m : Int) (ha : 0 ≤ a ∧ a ≤ (s.length : Int)) (out : List T_iis) (ho : out.length ≤ c) (hp : Puts out) :
    Drw2 (fun k j => spec_l01Src_ropeEdits_J8 k j n k0 s a m z out e e1 e2) s z (fun v => v.length ≤ 10 ∧ Puts v) := by
  have q := fun k j => spec_l01Src_ropeEdits_J8.eq n k0 s a m z out e e1 e2 k j
  simp only [W, W1, W2, W3] at q
  refine Drw2.congr q (Drw2.bind (one_ev 30 (by omega) (h.at ha)) fun v a1 m1 ha1 _ => ?_)
  cases v with
  | false => simp only [W1]; exact edits_J10 hR hc h e e1 e2 he a1 m1 ha1 out ho hp
  | true =>
    simp only [W1]
    refine Drw2.bind (n_ev 3 (by omega) (h.at ha1)) fun v a2 m2 ha2 hv => ?_
    simp only [List.length_cons, List.length_nil, if_pos hv.1, if_pos (show v < ((0 + 1 + 1 + 1 : Nat) : Int) by omega)]
    exact edits_J10 hR hc h _ e1 e2 he a2 m2 ha2 out ho hp
end
theorem edits_loop (s : List Int) (z a0 : Int) (h : Src s a0 z) : ∀ (f : Nat) (n a m : Int) (out : List T_iis), 0 ≤ n → n ≤ 70000 → 0 ≤ a ∧ a ≤ (s.length : Int) → out.length + f ≤ 10 → Puts out →
    Drw2 (fun k j => spec_l01Src_ropeEdits_L3 k j n (f : Int) s a m z out) s z (fun v => v.length ≤ 10 ∧ Puts v) := by
  obtain ⟨b1, z1, w1⟩ := write_of 24576 3 (by decide) (by decide)
  intro f
  induction f with
  | zero =>
    intro n a m out h1 h2 ha ho hp
    have q := fun k j => spec_l01Src_ropeEdits_L3.eq n 0 s a m z out k j
    simp only [W, W1, W2, W3, if_neg (show ¬ (0 : Int) < 0 by omega)] at q
    exact Drw2.step q (Drw2.now ha ⟨by omega, hp⟩)
  | succ f ih =>
    intro n a m out h1 h2 ha ho hp
    have q := fun k j => spec_l01Src_ropeEdits_L3.eq n ((f + 1 : Nat) : Int) s a m z out k j
    have hadd : addI .i64 n 1 = n + 1 := addI_i64 (by omega) (by omega)
    simp only [W, W1, W2, W3, hadd, if_pos (show (0 : Int) < ((f + 1 : Nat) : Int) by omega)] at q
    have hsub : subI .i64 ((f + 1 : Nat) : Int) 1 = (f : Int) := by rw [subI_i64 (by omega) (by omega)]; omega
    have hR : Rest s z ((f + 1 : Nat) : Int) out.length := fun n' a' m' out' g1 g2 g3 g4 g5 => by rw [hsub]; exact ih n' a' m' out' g1 g2 g3 (by omega) g5
    refine Drw2.step q (Drw2.bind (n_ev (n + 1) (by omega) (h.at ha)) fun v a1 m1 ha1 hv => Drw2.pre w1 ?_)
    generalize hlist : ((bs []) :: ((bs [120]) :: ((bs [97, 98, 10]) :: (b1 :: ((bs [48, 49, 50, 51, 52, 53, 54, 55, 56, 57, 48, 49, 50, 51, 52, 53, 54, 55, 56, 57, 48, 49, 50, 51, 52, 53, 54, 55, 56, 57, 48, 49, 50, 51, 52, 53, 54, 55, 56, 57]) :: ([] : List ByteArray)))))) = L
    have hall : ∀ x ∈ L, x.size ≤ 1048576 := by
      subst hlist
      intro x hx
      simp only [List.mem_cons, List.not_mem_nil, or_false] at hx
      rcases hx with rfl | rfl | rfl | rfl | rfl
      · decide
      · decide
      · decide
      · omega
      · decide
    have hne : L ≠ [] := by subst hlist; simp
    have hll : L.length ≤ 1048576 := by subst hlist; simp
    have hsub2 : subI .i64 n v = n - v := subI_i64 (by omega) (by omega)
    refine Drw2.bind (pick_ev L hne hll (h.at ha1)) fun v2 a2 m2 ha2 hv2 => ?_
    simp only [hsub2]
    by_cases c : 0 < n - v
    · simp only [if_pos c]
      refine Drw2.bind (one_ev 2 (by omega) (h.at ha2)) fun v3 a3 m3 ha3 _ => ?_
      cases v3 with
      | false => simp only [W1]; exact edits_J8 hR (by omega) h v 0 v2 (hall _ hv2) a3 m3 ha3 out (Nat.le_refl _) hp
      | true =>
        have hadd3 : addI .i64 (n - v) 1 = n - v + 1 := addI_i64 (by omega) (by omega)
        simp only [W1, hadd3]
        exact Drw2.bind (n_ev (n - v + 1) (by omega) (h.at ha3)) fun v4 a4 m4 ha4 _ => edits_J8 hR (by omega) h v v4 v2 (hall _ hv2) a4 m4 ha4 out (Nat.le_refl _) hp
    · simp only [if_neg c]
      exact edits_J8 hR (by omega) h v 0 v2 (hall _ hv2) a2 m2 ha2 out (Nat.le_refl _) hp
theorem edits_ev (n : Int) (h0 : 0 ≤ n) (h1 : n ≤ 70000) {s : List Int} {a m z : Int} (h : Src s a z) : Drw (fun k => spec_l01Src_ropeEdits k n s a m z) s z (fun v => v.length ≤ 10 ∧ Puts v) := by
  have e := fun k => spec_l01Src_ropeEdits.eq n s a m z k
  simp only [W, W1, W2, W3] at e
  refine Drw.step e (Drw.bind (n_ev 5 (by omega) h) fun v a1 m1 ha1 hv => ?_)
  obtain ⟨f, rfl⟩ := Int.eq_ofNat_of_zero_le hv.1
  exact (edits_loop s z a h f n a1 m1 [] h0 h1 ha1 (by show 0 + f ≤ 10; have := hv.2; omega) (fun e he => by cases he)).one
theorem drawEdits (code : List Int) (hl : code.length ≤ 1048576) : ∃ (r : List T_siiii) (ms : List T_sib) (edits : List T_iis), Ev (fun k => spec_DrawEditRope k code) ((r, ms), edits) ∧ Fits r ms ∧ edits.length ≤ 1048576 ∧ ∀ e ∈ edits, e.2.2.size ≤ 1048576 := by
  obtain ⟨m, z, e1, hs⟩ := source_ev code hl
  have e := fun k => spec_DrawEditRope.eq code k
  simp only [W, W1, W2, W3] at e
  obtain ⟨v, a1, m1, h1, ha1, hv⟩ := anyRope_ev (m := m) hs
  have ht := hv.t
  obtain ⟨v2, a2, m2, h2, ha2, hl2, hp2⟩ := edits_ev ((textOf v.1).size : Int) (by omega) (by omega) (m := m1) (hs.at ha1)
  exact ⟨v.1, v.2, v2, Ev.step e (Ev.bind e1 (Ev.bind h1 (Ev.bind (specText v.1 hv.l1 (by omega)) (Ev.bind h2 (Ev.now _))))), hv.fits, by omega, hp2⟩
end Go.Proofs.YtkghicadebeceaaDoor.RG
