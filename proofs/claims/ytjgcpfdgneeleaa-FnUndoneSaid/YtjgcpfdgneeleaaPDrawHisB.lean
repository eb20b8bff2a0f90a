/- Drawn histories and drawn steps. -/
import Derived.Test.YtjgcpfdgneeleaaPDrawHis
namespace Go.Proofs.Ytjgcpfdgneeleaa.UN
open Go.Eng Go.RowKit
set_option linter.unusedVariables false
set_option linter.unusedSimpArgs false
/-- a history that is drawn, as far as it may go on -/
structure Hok (v : ByteArray × List T_issi × Int) : Prop where
  b : v.1.size ≤ 65536
  l : v.2.1.length ≤ 300
  d0 : 0 ≤ v.2.2
  d1 : v.2.2 ≤ (v.2.1.length : Int)
  r : ∃ u, run v.1 v.2.1 = some u
  s : ∀ x ∈ v.2.1, Small x
theorem Hok.nil {b : ByteArray} (h : b.size ≤ 65536) : Hok (b, [], 0) := ⟨h, by simp, Int.le_refl _, by simp, ⟨b, rfl⟩, fun x hx => by cases hx⟩
theorem Hok.made {b u : ByteArray} {y : List T_issi} {a n g : Int} {put : ByteArray} (hb : b.size ≤ 65536) (hu : u.size ≤ 65536) (hy : run b y = some u) (hp : put.size ≤ 65536) (hs : ∀ x ∈ y, Small x) (h : (doOf b y u a n put g).1 = 0) :
    Hok ((doOf b y u a n put g).2.1, (doOf b y u a n put g).2.2.1, (doOf b y u a n put g).2.2.2.1) := by
  obtain ⟨gone, h1, h2, h3, h4, h5⟩ := doOf_ok hu hy hp hs h
  rw [h1]
  exact ⟨hb, h3, by show (0 : Int) ≤ ((after y (a, gone, put, g)).length : Int); omega, Int.le_refl _, ⟨_, h4⟩, h5⟩
theorem move_any {b : ByteArray} {l : List T_issi} {d : Int} (h : Hok (b, l, d)) (r : Int) (hr : r = 0 ∨ r = 1) : ∃ d' ok, Ev (fun k => spec_l21Move k b l d (subI .i64 (mulI .i64 r 2) 1)) ((b, l, d'), ok) ∧ Hok (b, l, d') := by
  have hl : l.length ≤ 1048576 := by have := h.l; simp only at this; omega
  have hd0 : 0 ≤ d := h.d0
  have hd1 : d ≤ (l.length : Int) := h.d1
  obtain ⟨m, rfl⟩ := Int.eq_ofNat_of_zero_le hd0
  have hk : ∀ n : Nat, n ≤ l.length → Hok (b, l, (n : Int)) := fun n hn => ⟨h.b, h.l, by show (0 : Int) ≤ (n : Int); omega, by show (n : Int) ≤ (l.length : Int); omega, h.r, h.s⟩
  rcases hr with rfl | rfl
  · have e : subI .i64 (mulI .i64 0 2) 1 = -1 := by rw [mulI_i64 (by omega) (by omega), subI_i64 (by omega) (by omega)]; omega
    rw [e]
    cases m with
    | zero => exact ⟨0, false, move_back0 b l hl, hk 0 (by omega)⟩
    | succ n =>
      have hn : n < l.length := by omega
      exact ⟨_, true, move_back b l hl n hn, hk _ (by have := backTo_le l (grp l n) n; omega)⟩
  · have e : subI .i64 (mulI .i64 1 2) 1 = 1 := by rw [mulI_i64 (by omega) (by omega), subI_i64 (by omega) (by omega)]; omega
    rw [e]
    by_cases c : m < l.length
    · exact ⟨_, true, move_fore b l hl m c, hk _ (foreTo_le l _ _ (by omega))⟩
    · have : m = l.length := by omega
      subst this
      exact ⟨_, false, move_fore0 b l hl, hk _ (Nat.le_refl _)⟩
theorem puts_small {b0 v : ByteArray} (h0 : b0.size = 2) (h : v ∈ [bs [120], bs [121, 122], bs [10], bs [], b0]) : v.size ≤ 65536 := by
  simp only [List.mem_cons, List.not_mem_nil, or_false] at h
  rcases h with rfl | rfl | rfl | rfl | rfl
  · decide
  · decide
  · decide
  · decide
  · omega
section
variable {s : List Int} {z : Int} {k0 : Int}
/-- what the rest of the rounds does, with steps -/
def RestL (s : List Int) (z k0 : Int) : Prop := ∀ (a m : Int) (b : ByteArray) (l : List T_issi) (d : Int), 0 ≤ a ∧ a ≤ (s.length : Int) → Hok (b, l, d) →
    Drw2 (fun k j => spec_l01Src_history_L5'1 k j (subI .i64 k0 1) s a m z (bs []) 0 b d l) s z Hok
theorem hist_J17 (hR : RestL s z k0) {a0 : Int} (h : Src s a0 z) (a m : Int) (ha : 0 ≤ a ∧ a ≤ (s.length : Int)) {b : ByteArray} {l : List T_issi} {d : Int} (ho : Hok (b, l, d)) :
    Drw2 (fun k j => spec_l01Src_history_J17 k j k0 s a m z (bs []) 0 b d l) s z Hok := by
  have q := fun k j => spec_l01Src_history_J17.eq k0 s a m z (bs []) 0 b d l k j
  simp only [spec_l01Src_history_J6.eq] at q
  simp only [W3] at q
  refine Drw2.congr q (Drw2.bind (one_ev 4 (by omega) (h.at ha)) fun v a1 m1 ha1 _ => ?_)
  cases v with
  | false => simp only [W1]; exact hR a1 m1 b l d ha1 ho
  | true =>
    simp only [W1]
    refine Drw2.bind (n_ev 2 (by omega) (h.at ha1)) fun v a2 m2 ha2 hv => ?_
    obtain ⟨d', ok, h1, h2⟩ := move_any ho v (by omega)
    exact Drw2.pre h1 (hR a2 m2 b l d' ha2 h2)
theorem hist_J14 (hR : RestL s z k0) {a0 : Int} (h : Src s a0 z) (at' drop : Int) (a m : Int) (ha : 0 ≤ a ∧ a ≤ (s.length : Int)) {b : ByteArray} {l : List T_issi} {d : Int} (ho : Hok (b, l, d)) :
    Drw2 (fun k j => spec_l01Src_history_J14'1 k j k0 at' drop s a m z (bs []) 0 b d l) s z Hok := by
  obtain ⟨b0, z0, w0⟩ := write_of 512 2 (by decide) (by decide)
  have q := fun k j => spec_l01Src_history_J14'1.eq k0 at' drop s a m z (bs []) 0 b d l k j
  simp only [W, W1, W3] at q
  have hd0 : 0 ≤ d := ho.d0
  have hd1 : d ≤ (l.length : Int) := ho.d1
  obtain ⟨n, rfl⟩ := Int.eq_ofNat_of_zero_le hd0
  refine Drw2.congr q (Drw2.pre w0 (Drw2.bind (pick_ev _ (by simp) (by simp) (h.at ha)) fun v a1 m1 ha1 hv => Drw2.bind (n_ev 3 (by omega) (h.at ha1)) fun g a2 m2 ha2 hg => ?_))
  obtain ⟨u0, hu0⟩ := ho.r
  obtain ⟨u, hu⟩ := run_take hu0 n
  have hp := puts_small z0 hv
  have hb : b.size ≤ 65536 := ho.b
  refine Drw2.pre (specDo b l n u at' drop v g hb ho.l (by omega) ho.s hu hp) ?_
  by_cases c : (doOf b (l.take n) u at' drop v g).1 = 0
  · simp only [if_pos c]
    exact hist_J17 hR h a2 m2 ha2 (Hok.made hb (run_size _ b u hb hu) hu hp (fun x hx => ho.s x (List.mem_of_mem_take hx)) c)
  · simp only [if_neg c]
    exact hist_J17 hR h a2 m2 ha2 ho
end
theorem hist_loop (s : List Int) (z a0 : Int) (h : Src s a0 z) : ∀ (f : Nat) (a m : Int) (b : ByteArray) (l : List T_issi) (d : Int), f ≤ 100 → 0 ≤ a ∧ a ≤ (s.length : Int) → Hok (b, l, d) →
    Drw2 (fun k j => spec_l01Src_history_L5'1 k j (f : Int) s a m z (bs []) 0 b d l) s z Hok := by
  intro f
  induction f with
  | zero =>
    intro a m b l d hf ha ho
    have q := fun k j => spec_l01Src_history_L5'1.eq 0 s a m z (bs []) 0 b d l k j
    simp only [W, W1, if_neg (show ¬ (0 : Int) < 0 by omega)] at q
    exact Drw2.step q (Drw2.now ha ho)
  | succ f ih =>
    intro a m b l d hf ha ho
    have hsub : subI .i64 ((f + 1 : Nat) : Int) 1 = (f : Int) := by rw [subI_i64 (by omega) (by omega)]; omega
    have hR : RestL s z ((f + 1 : Nat) : Int) := fun a m b l d ha ho => by rw [hsub]; exact ih a m b l d (by omega) ha ho
    have q := fun k j => spec_l01Src_history_L5'1.eq ((f + 1 : Nat) : Int) s a m z (bs []) 0 b d l k j
    simp only [W, W1, W2, W3, if_pos (show (0 : Int) < ((f + 1 : Nat) : Int) by omega)] at q
    have hd0 : 0 ≤ d := ho.d0
    have hd1 : d ≤ (l.length : Int) := ho.d1
    have hl3 : l.length ≤ 300 := ho.l
    have hb : b.size ≤ 65536 := ho.b
    obtain ⟨n, rfl⟩ := Int.eq_ofNat_of_zero_le hd0
    obtain ⟨u0, hu0⟩ := ho.r
    obtain ⟨u, hu⟩ := run_take hu0 n
    obtain ⟨t', h3, h4⟩ := text_ev b l (n : Int) n (by omega) (by omega) ho.s
    have e := h4 u hb hu
    subst e
    have hut : t'.size ≤ 65536 := run_size _ b t' hb hu
    have hadd : addI .i64 (t'.size : Int) 1 = (t'.size : Int) + 1 := addI_i64 (by omega) (by omega)
    refine Drw2.step q (Drw2.pre h3 ?_)
    simp only [hadd]
    refine Drw2.bind (n_ev _ (by omega) (h.at ha)) fun v1 a1 m1 ha1 hv1 => Drw2.bind (n_ev 2 (by omega) (h.at ha1)) fun v2 a2 m2 ha2 hv2 => ?_
    have hs3 : subI .i64 (t'.size : Int) v1 = (t'.size : Int) - v1 := subI_i64 (by omega) (by omega)
    have ha3 : addI .i64 ((t'.size : Int) - v1) 1 = (t'.size : Int) - v1 + 1 := addI_i64 (by omega) (by omega)
    simp only [hs3, ha3]
    refine Drw2.bind (n_ev _ (by omega) (h.at ha2)) fun v3 a3 m3 ha3 hv3 => Drw2.bind (one_ev 2 (by omega) (h.at ha3)) fun v4 a4 m4 ha4 _ => ?_
    cases v4 with
    | false => simp only [W1]; exact hist_J14 hR h _ _ a4 m4 ha4 ho
    | true =>
      simp only [W1]
      by_cases c : (0 : Int) < (n : Int)
      · have hs1 : subI .i64 (n : Int) 1 = (n : Int) - 1 := subI_i64 (by omega) (by omega)
        simp only [if_pos c, hs1, if_pos (show (0 : Int) ≤ (n : Int) - 1 by omega), if_pos (show (n : Int) - 1 < (l.length : Int) by omega)]
        exact hist_J14 hR h _ _ a4 m4 ha4 ho
      · simp only [if_neg c]
        exact hist_J14 hR h _ _ a4 m4 ha4 ho
section
variable {s : List Int} {z : Int} {f : Nat} {b : ByteArray}
theorem hist0_J17 (hf : f ≤ 100) (hI : ∀ (a m : Int), 0 ≤ a ∧ a ≤ (s.length : Int) → Drw2 (fun k j => spec_l01Src_history_L5 k j (f : Int) s a m z (bs []) 0 b 0) s z Hok) (hb : b.size ≤ 65536) {a0 : Int} (h : Src s a0 z) (a m : Int) (ha : 0 ≤ a ∧ a ≤ (s.length : Int)) :
    Drw2 (fun k j => spec_l01Src_history_J17'1 k j ((f + 1 : Nat) : Int) s a m z (bs []) 0 b 0) s z Hok := by
  have q := fun k j => spec_l01Src_history_J17'1.eq ((f + 1 : Nat) : Int) s a m z (bs []) 0 b 0 k j
  have hsub : subI .i64 ((f + 1 : Nat) : Int) 1 = (f : Int) := by rw [subI_i64 (by omega) (by omega)]; omega
  simp only [spec_l01Src_history_J6.eq, spec_l01Src_history_J6'1.eq, hsub] at q
  simp only [W3] at q
  refine Drw2.congr q (Drw2.bind (one_ev 4 (by omega) (h.at ha)) fun v a1 m1 ha1 _ => ?_)
  cases v with
  | false => simp only [W1]; exact hI a1 m1 ha1
  | true =>
    simp only [W1]
    refine Drw2.bind (n_ev 2 (by omega) (h.at ha1)) fun v a2 m2 ha2 hv => ?_
    have hv : v = 0 ∨ v = 1 := by omega
    have key : Ev (fun k => spec_l21Move'1 k b 0 (subI .i64 (mulI .i64 v 2) 1)) ((b, [], 0), false) := by
      rcases hv with rfl | rfl
      · have e1 : subI .i64 (mulI .i64 0 2) 1 = -1 := by rw [mulI_i64 (by omega) (by omega), subI_i64 (by omega) (by omega)]; omega
        rw [e1]
        have e := fun k => spec_l21Move'1.eq b 0 (-1) k
        have e2 := fun k => spec_l21Next.eq 0 (-1) k
        have hsub : subI .i64 0 1 = -1 := by rw [subI_i64 (by omega) (by omega)]; omega
        simp only [W, W1, W2, W3, hsub, List.append_nil, List.length_nil, if_pos (show (-1 : Int) < 0 by omega), if_pos (show (((0 : Nat) : Int) + ((0 : Nat) : Int)) * 48 < 140737488355328 by omega)] at e e2
        refine Ev.step e (Ev.bind (Ev.ret e2) ?_)
        simp only [if_pos (show (-1 : Int) < 0 by omega)]
        exact Ev.now _
      · have e1 : subI .i64 (mulI .i64 1 2) 1 = 1 := by rw [mulI_i64 (by omega) (by omega), subI_i64 (by omega) (by omega)]; omega
        rw [e1]
        have e := fun k => spec_l21Move'1.eq b 0 1 k
        have e2 := fun k => spec_l21Next.eq 0 1 k
        simp only [W, W1, W2, W3, List.append_nil, List.length_nil, if_neg (show ¬ (1 : Int) < 0 by omega), if_pos (show (((0 : Nat) : Int) + ((0 : Nat) : Int)) * 48 < 140737488355328 by omega)] at e e2
        refine Ev.step e (Ev.bind (Ev.ret e2) ?_)
        simp only [if_neg (show ¬ (0 : Int) < 0 by omega), if_pos (show ((0 : Nat) : Int) ≤ 0 by omega)]
        exact Ev.now _
    exact Drw2.pre key (hist_loop s z a0 h f a2 m2 b [] 0 hf ha2 (Hok.nil hb))
theorem hist0_J14 (hf : f ≤ 100) (hI : ∀ (a m : Int), 0 ≤ a ∧ a ≤ (s.length : Int) → Drw2 (fun k j => spec_l01Src_history_L5 k j (f : Int) s a m z (bs []) 0 b 0) s z Hok) (hb : b.size ≤ 65536) {a0 : Int} (h : Src s a0 z) (at' drop : Int) (a m : Int) (ha : 0 ≤ a ∧ a ≤ (s.length : Int)) :
    Drw2 (fun k j => spec_l01Src_history_J14 k j ((f + 1 : Nat) : Int) at' drop s a m z (bs []) 0 b 0) s z Hok := by
  obtain ⟨b0, z0, w0⟩ := write_of 512 2 (by decide) (by decide)
  have hsub : subI .i64 ((f + 1 : Nat) : Int) 1 = (f : Int) := by rw [subI_i64 (by omega) (by omega)]; omega
  have hR : RestL s z ((f + 1 : Nat) : Int) := fun a m b l d ha ho => by rw [hsub]; exact hist_loop s z a0 h f a m b l d hf ha ho
  have q := fun k j => spec_l01Src_history_J14.eq ((f + 1 : Nat) : Int) at' drop s a m z (bs []) 0 b 0 k j
  simp only [W, W1, W3] at q
  refine Drw2.congr q (Drw2.pre w0 (Drw2.bind (pick_ev _ (by simp) (by simp) (h.at ha)) fun v a1 m1 ha1 hv => Drw2.bind (n_ev 3 (by omega) (h.at ha1)) fun g a2 m2 ha2 hg => ?_))
  have hp := puts_small z0 hv
  refine Drw2.pre (specDo_nil b at' drop v g hb hp) ?_
  by_cases c : (doOf b [] b at' drop v g).1 = 0
  · simp only [if_pos c]
    exact hist_J17 hR h a2 m2 ha2 (Hok.made hb hb rfl hp (fun x hx => by cases hx) c)
  · simp only [if_neg c]
    exact hist0_J17 hf hI hb h a2 m2 ha2
end
theorem hist0_loop (s : List Int) (z a0 : Int) (h : Src s a0 z) (b : ByteArray) (hb : b.size ≤ 65536) : ∀ (f : Nat) (a m : Int), f ≤ 100 → 0 ≤ a ∧ a ≤ (s.length : Int) →
    Drw2 (fun k j => spec_l01Src_history_L5 k j (f : Int) s a m z (bs []) 0 b 0) s z Hok := by
  intro f
  induction f with
  | zero =>
    intro a m hf ha
    have q := fun k j => spec_l01Src_history_L5.eq 0 s a m z (bs []) 0 b 0 k j
    simp only [W, W1, if_neg (show ¬ (0 : Int) < 0 by omega)] at q
    exact Drw2.step q (Drw2.now ha (Hok.nil hb))
  | succ f ih =>
    intro a m hf ha
    have hI : ∀ (a m : Int), 0 ≤ a ∧ a ≤ (s.length : Int) → Drw2 (fun k j => spec_l01Src_history_L5 k j (f : Int) s a m z (bs []) 0 b 0) s z Hok := fun a m ha => ih a m (by omega) ha
    have q := fun k j => spec_l01Src_history_L5.eq ((f + 1 : Nat) : Int) s a m z (bs []) 0 b 0 k j
    simp only [W, W1, W2, W3, if_pos (show (0 : Int) < ((f + 1 : Nat) : Int) by omega), if_neg (show ¬ (0 : Int) < 0 by omega)] at q
    have h3 : Ev (fun k => spec_l21Text'1 k b 0 0) (b, true) := by
      have e := fun k => spec_l21Text'1.eq b 0 0 k
      simp only [W, W1, show decide ((b.size : Int) ≤ 65536) = true from decide_eq_true (by omega)] at e
      refine Ev.step e ?_
      have q : Ev2 (fun k j => spec_l21Text_L4'1 k j 0 b true 0 b 0) (b, true) := Ev2.ret fun k j => by
        have e := spec_l21Text_L4'1.eq 0 b true 0 b 0 k j
        simp only [W, W1, if_neg (show ¬ (0 : Int) < 0 by omega)] at e
        exact e
      exact q.ev
    have hadd : addI .i64 (b.size : Int) 1 = (b.size : Int) + 1 := addI_i64 (by omega) (by omega)
    refine Drw2.step q (Drw2.pre h3 ?_)
    simp only [hadd]
    refine Drw2.bind (n_ev _ (by omega) (h.at ha)) fun v1 a1 m1 ha1 hv1 => Drw2.bind (n_ev 2 (by omega) (h.at ha1)) fun v2 a2 m2 ha2 hv2 => ?_
    have hs3 : subI .i64 (b.size : Int) v1 = (b.size : Int) - v1 := subI_i64 (by omega) (by omega)
    have ha3 : addI .i64 ((b.size : Int) - v1) 1 = (b.size : Int) - v1 + 1 := addI_i64 (by omega) (by omega)
    simp only [hs3, ha3]
    refine Drw2.bind (n_ev _ (by omega) (h.at ha2)) fun v3 a3 m3 ha3 hv3 => Drw2.bind (one_ev 2 (by omega) (h.at ha3)) fun v4 a4 m4 ha4 _ => ?_
    cases v4 with
    | false => simp only [W1]; exact hist0_J14 (by omega) hI hb h _ _ a4 m4 ha4
    | true => simp only [W1]; exact hist0_J14 (by omega) hI hb h _ _ a4 m4 ha4
theorem history_ev {s : List Int} {a m z : Int} (h : Src s a z) : Drw (fun k => spec_l01Src_history k s a m z) s z Hok := by
  have e := fun k => spec_l01Src_history.eq s a m z k
  simp only [W, W1, W2, W3] at e
  have key : ∀ (b : ByteArray) (hb : b.size ≤ 65536) (v a2 m2 : Int), 0 ≤ a2 ∧ a2 ≤ (s.length : Int) → (0 ≤ v ∧ (v < 8 ∨ v = 0)) → Drw (fun k => spec_l01Src_history_L5 k k v s a2 m2 z (bs []) 0 b 0) s z Hok := fun b hb v a2 m2 ha2 hv => by
    obtain ⟨f, rfl⟩ := Int.eq_ofNat_of_zero_le hv.1
    exact (hist0_loop s z a h b hb f a2 m2 (by have := hv.2; omega) ha2).one
  refine Drw.step e (Drw.bind (ropeText_ev h) fun t a1 m1 ha1 ht => Drw.bind (pick_ev _ (by simp) (by simp) (h.at ha1)) fun v a2 m2 ha2 hv => ?_)
  by_cases c : (2000 : Int) < (v.size : Int)
  · simp only [if_pos c, if_pos (show (0 : Int) ≤ 50 by omega), if_pos (show (50 : Int) ≤ (v.size : Int) by omega)]
    exact Drw.bind (n_ev 8 (by omega) (h.at ha2)) fun v3 a3 m3 ha3 hv3 => key _ (by rw [ByteArray.size_extract]; omega) v3 a3 m3 ha3 hv3
  · simp only [if_neg c]
    exact Drw.bind (n_ev 8 (by omega) (h.at ha2)) fun v3 a3 m3 ha3 hv3 => key v (by omega) v3 a3 m3 ha3 hv3
/-! ### any history -/
def Any (v : ByteArray × List T_issi × Int) : Prop := v.2.1.length ≤ 1000 ∧ ∀ x ∈ v.2.1, Small x
theorem any_J13 {s : List Int} {a m z : Int} (ha : 0 ≤ a ∧ a ≤ (s.length : Int)) (b : ByteArray) (d : Int) (l : List T_issi) (h : Any (b, l, d)) : Drw (fun k => spec_l01Src_anyHistory_J13 k s a m z (bs []) 0 b d l) s z Any :=
  Drw.congr (fun k => spec_l01Src_anyHistory_J13.eq s a m z (bs []) 0 b d l k) (Drw.now ha h)
theorem any_more {l : List T_issi} (h : ∀ x ∈ l, Small x) {x : T_issi} (hx : Small x) : ∀ y ∈ l ++ [x], Small y := fun y hy => by
  rcases List.mem_append.1 hy with hy | hy
  · exact h y hy
  · obtain rfl := List.mem_singleton.1 hy; exact hx
theorem any_loop (s : List Int) (z a0 : Int) (h : Src s a0 z) (b : ByteArray) (d : Int) : ∀ (f : Nat) (a m : Int) (l : List T_issi), 0 ≤ a ∧ a ≤ (s.length : Int) → 301 ≤ l.length + f → l.length ≤ 302 → (∀ x ∈ l, Small x) →
    Drw2 (fun k j => spec_l01Src_anyHistory_L11 k j s a m z (bs []) 0 b d l) s z Any := by
  intro f
  induction f with
  | zero =>
    intro a m l ha h1 h2 h3
    have q := fun k j => spec_l01Src_anyHistory_L11.eq s a m z (bs []) 0 b d l k j
    simp only [W, W1, W2, W3, List.length_cons, List.length_nil] at q
    refine Drw2.step q (Drw2.bind (n_ev 3 (by omega) (h.at ha)) fun v a1 m1 ha1 hv => ?_)
    have hadd : addI .i64 299 v = 299 + v := addI_i64 (by omega) (by omega)
    simp only [hadd, if_neg (show ¬ (l.length : Int) < 299 + v by omega)]
    obtain ⟨v', a', m', g1, g2, g3⟩ := any_J13 (m := m1) ha1 b d l ⟨by show l.length ≤ 1000; omega, h3⟩
    exact ⟨v', a', m', g1.two, g2, g3⟩
  | succ f ih =>
    intro a m l ha h1 h2 h3
    have q := fun k j => spec_l01Src_anyHistory_L11.eq s a m z (bs []) 0 b d l k j
    simp only [W, W1, W2, W3, List.length_cons, List.length_nil] at q
    refine Drw2.step q (Drw2.bind (n_ev 3 (by omega) (h.at ha)) fun v a1 m1 ha1 hv => ?_)
    have hadd : addI .i64 299 v = 299 + v := addI_i64 (by omega) (by omega)
    simp only [hadd]
    by_cases c : (l.length : Int) < 299 + v
    · simp only [if_pos c, if_pos (show ((l.length : Int) + ((0 + 1 : Nat) : Int)) * 48 < 140737488355328 by omega)]
      exact ih a1 m1 _ ha1 (by simp; omega) (by simp; omega) (any_more h3 ⟨by decide, by decide⟩)
    · simp only [if_neg c]
      obtain ⟨v', a', m', g1, g2, g3⟩ := any_J13 (m := m1) ha1 b d l ⟨by show l.length ≤ 1000; omega, h3⟩
      exact ⟨v', a', m', g1.two, g2, g3⟩
theorem anyHistory_ev {s : List Int} {a m z : Int} (h : Src s a z) : Drw (fun k => spec_l01Src_anyHistory k s a m z) s z Any := by
  have e := fun k => spec_l01Src_anyHistory.eq s a m z k
  simp only [W, W1, W2, W3, List.length_cons, List.length_nil] at e
  refine Drw.step e (Drw.bind (history_ev h) fun v a1 m1 ha1 ho => Drw.bind (one_ev 8 (by omega) (h.at ha1)) fun v2 a2 m2 ha2 _ => ?_)
  have hl3 := ho.l
  have hs := ho.s
  have hb := ho.b
  have hAny : ∀ (b : ByteArray) (d : Int), Any (b, v.2.1, d) := fun b d => ⟨by show v.2.1.length ≤ 1000; omega, hs⟩
  cases v2 with
  | false => simp only [W1]; exact any_J13 ha2 _ _ _ (hAny _ _)
  | true =>
    simp only [W1]
    refine Drw.bind (n_ev 4 (by omega) (h.at ha2)) fun v3 a3 m3 ha3 hv3 => ?_
    by_cases c0 : v3 = 0
    · simp only [if_pos c0]
      refine Drw.bind (n_ev 2 (by omega) (h.at ha3)) fun v4 a4 m4 ha4 hv4 => ?_
      simp only [if_pos hv4.1, if_pos (show v4 < ((0 + 1 + 1 : Nat) : Int) by omega)]
      exact any_J13 ha4 _ _ _ (hAny _ _)
    by_cases c1 : v3 = 1
    · simp only [if_neg c0, if_pos c1]
      refine Drw.bind (n_ev 4 (by omega) (h.at ha3)) fun v4 a4 m4 ha4 hv4 => Drw.bind (pick_ev [bs [], bs [120]] (by simp) (by simp) (h.at ha4)) fun v5 a5 m5 ha5 hv5 => Drw.bind (pick_ev [bs [], bs [120], bs [121]] (by simp) (by simp) (h.at ha5)) fun v6 a6 m6 ha6 hv6 => Drw.bind (n_ev 3 (by omega) (h.at ha6)) fun v7 a7 m7 ha7 hv7 => ?_
      simp only [if_pos hv7.1, if_pos (show v7 < ((0 + 1 + 1 + 1 : Nat) : Int) by omega), if_pos (show ((v.2.1.length : Int) + ((0 + 1 : Nat) : Int)) * 48 < 140737488355328 by omega)]
      refine any_J13 ha7 _ _ _ ⟨by simp; omega, any_more hs ⟨?_, ?_⟩⟩
      · simp only [List.mem_cons, List.not_mem_nil, or_false] at hv5
        show v5.size ≤ 1048576
        rcases hv5 with rfl | rfl <;> decide
      · simp only [List.mem_cons, List.not_mem_nil, or_false] at hv6
        show v6.size ≤ 1048576
        rcases hv6 with rfl | rfl | rfl <;> decide
    by_cases c2 : v3 = 2
    · have h1 : (bs [113]).size = 1 := rfl
      simp only [if_neg c0, if_neg c1, if_pos c2, if_pos (show (v.1.size : Int) + ((bs [113]).size : Int) ≤ 9223372036854775807 by omega)]
      exact any_J13 ha3 _ _ _ (hAny _ _)
    by_cases c3 : v3 = 3
    · simp only [if_neg c0, if_neg c1, if_neg c2, if_pos c3]
      exact (any_loop s z a h v.1 v.2.2 301 a3 m3 v.2.1 ha3 (by omega) (by omega) hs).one
    · simp only [if_neg c0, if_neg c1, if_neg c2, if_neg c3]
      exact any_J13 ha3 _ _ _ (hAny _ _)
/-! ### a drawn step -/
theorem specTextAt {b : ByteArray} {l : List T_issi} {d : Int} (hl : l.length ≤ 1048576) (hs : ∀ x ∈ l, Small x) : ∃ t : ByteArray, Ev (fun k => spec_TextAt k b l d d) t ∧ t.size ≤ 65536 ∧ (valid b l d = true → t = txt b l d.toNat) := by
  have h1 := specFault_ev b l d hl hs
  have e := fun k => spec_TextAt.eq b l d d k
  simp only [W, W1, W2, W3] at e
  by_cases hv : valid b l d = true
  · rw [if_pos hv] at h1
    obtain ⟨r, hr, ht, hlen, hb, hd0, hd1, hl3⟩ := valid_scan b l d hv
    obtain ⟨r', ht', hr', hb', hl3', hat⟩ := valid_at hv
    obtain ⟨n, rfl⟩ := Int.eq_ofNat_of_zero_le hd0
    obtain ⟨t', h3, h4⟩ := text_ev b l (n : Int) n hl (by omega) hs
    have e4 := h4 _ hb (hat n (by omega)).1
    subst e4
    refine ⟨txt b l n, Ev.step e (Ev.bind h1 ?_), run_size _ b _ hb (hat n (by omega)).1, fun _ => by simp⟩
    simp only [if_true, if_neg (show ¬ (n : Int) < 0 by omega), if_neg (show ¬ (l.length : Int) < (n : Int) by omega)]
    exact Ev.bind h3 (Ev.now _)
  · rw [if_neg hv] at h1
    refine ⟨bs [], Ev.step e (Ev.bind h1 ?_), by decide, fun h => absurd h hv⟩
    simp only [if_neg (show ¬ (1 : Int) = 0 by omega)]
    exact Ev.now _
structure DrawnStep (v : (ByteArray × List T_issi × Int) × Int × Int × ByteArray × Int) : Prop where
  l : v.1.2.1.length ≤ 1000
  s : ∀ x ∈ v.1.2.1, Small x
theorem drawStep (code : List Int) (hl : code.length ≤ 1048576) : ∃ v : (ByteArray × List T_issi × Int) × Int × Int × ByteArray × Int, Ev (fun k => spec_DrawDoStep k code) v ∧ v.1.2.1.length ≤ 1000 ∧ ∀ x ∈ v.1.2.1, Small x := by
  obtain ⟨m, z, e1, hs⟩ := source_ev code hl
  have e := fun k => spec_DrawDoStep.eq code k
  simp only [W, W1, W2, W3] at e
  obtain ⟨v, a1, m1, h1, ha1, hl2, hs2⟩ := anyHistory_ev (m := m) hs
  obtain ⟨t, ht, hts, _⟩ := specTextAt (b := v.1) (l := v.2.1) (d := v.2.2) (by omega) hs2
  have hadd : addI .i64 (t.size : Int) 2 = (t.size : Int) + 2 := addI_i64 (by omega) (by omega)
  obtain ⟨v3, a3, m3, h3, ha3, hv3⟩ := n_ev ((t.size : Int) + 2) (by omega) (m := m1) (hs.at ha1)
  obtain ⟨v4, a4, m4, h4, ha4, hv4⟩ := n_ev 2 (by omega) (m := m3) (hs.at ha3)
  obtain ⟨v5, a5, m5, h5, ha5, hv5⟩ := n_ev 3 (by omega) (m := m4) (hs.at ha4)
  obtain ⟨v6, a6, m6, h6, ha6, hv6⟩ := pick_ev [bs [120], bs [], bs [97, 98], bs [10]] (by simp) (by simp) (m := m5) (hs.at ha5)
  have j13 : ∀ (at' drop a m : Int) (put : ByteArray), 0 ≤ a ∧ a ≤ (code.length : Int) → ∃ w : (ByteArray × List T_issi × Int) × Int × Int × ByteArray × Int, Ev (fun k => spec_DrawDoStep_J13 k at' drop put (bs []) 0 code a m z v.1 v.2.2 v.2.1) w ∧ w.1.2.1.length ≤ 1000 ∧ ∀ x ∈ w.1.2.1, Small x := fun at' drop a m put ha => by
    have e := fun k => spec_DrawDoStep_J13.eq at' drop put (bs []) 0 code a m z v.1 v.2.2 v.2.1 k
    simp only [W, W1, W2, W3, List.length_cons, List.length_nil] at e
    obtain ⟨v7, a7, m7, h7, ha7, hv7⟩ := n_ev 6 (by omega) (m := m) (hs.at ha)
    refine ⟨((v.1, v.2.1, v.2.2), at', drop, put, rd [0, 1, 2, 1000000, 1000001, -1] v7 0), Ev.congr e (Ev.bind h7 ?_), hl2, hs2⟩
    simp only [if_pos hv7.1, if_pos (show v7 < ((0 + 1 + 1 + 1 + 1 + 1 + 1 : Nat) : Int) by omega)]
    exact Ev.now _
  have j11 : ∀ (at' drop a m : Int) (put : ByteArray), 0 ≤ a ∧ a ≤ (code.length : Int) → ∃ w : (ByteArray × List T_issi × Int) × Int × Int × ByteArray × Int, Ev (fun k => spec_DrawDoStep_J11 k at' drop put (bs []) 0 code a m z v.1 v.2.2 v.2.1) w ∧ w.1.2.1.length ≤ 1000 ∧ ∀ x ∈ w.1.2.1, Small x := fun at' drop a m put ha => by
    have e := fun k => spec_DrawDoStep_J11.eq at' drop put (bs []) 0 code a m z v.1 v.2.2 v.2.1 k
    simp only [W3] at e
    obtain ⟨v7, a7, m7, h7, ha7, _⟩ := one_ev 60 (by omega) (m := m) (hs.at ha)
    cases v7 with
    | false =>
      obtain ⟨w, g1, g2⟩ := j13 at' drop a7 m7 put ha7
      refine ⟨w, Ev.congr e (Ev.bind h7 ?_), g2⟩
      simp only [W1]; exact g1
    | true =>
      obtain ⟨v8, a8, m8, h8, ha8, hv8⟩ := n_ev 8 (by omega) (m := m7) (hs.at ha7)
      have hadd : addI .i64 65530 v8 = 65530 + v8 := addI_i64 (by omega) (by omega)
      obtain ⟨p, a9, m9, h9, ha9, hp⟩ := long_ev (bs [122]) (65530 + v8) (by decide) (by decide) (by omega) (by omega) (m := m8) (hs.at ha8)
      obtain ⟨w, g1, g2⟩ := j13 at' drop a9 m9 p ha9
      refine ⟨w, Ev.congr e (Ev.bind h7 ?_), g2⟩
      simp only [W1]
      refine Ev.bind h8 ?_
      simp only [hadd]
      exact Ev.bind h9 g1
  by_cases c1 : 0 < v.2.2
  · by_cases c2 : v.2.2 ≤ (v.2.1.length : Int)
    · obtain ⟨v7, a7, m7, h7, ha7, _⟩ := one_ev 2 (by omega) (m := m6) (hs.at ha6)
      have hs1 : subI .i64 v.2.2 1 = v.2.2 - 1 := subI_i64 (by omega) (by omega)
      cases v7 with
      | false =>
        obtain ⟨w, g1, g2⟩ := j11 (subI .i64 v3 v4) v5 a7 m7 v6 ha7
        refine ⟨w, Ev.step e (Ev.bind e1 (Ev.bind h1 (Ev.bind ht ?_))), g2⟩
        simp only [hadd]
        refine Ev.bind h3 (Ev.bind h4 (Ev.bind h5 (Ev.bind h6 ?_)))
        simp only [if_pos c1, if_pos c2]
        refine Ev.bind h7 ?_
        simp only [W1]; exact g1
      | true =>
        obtain ⟨w, g1, g2⟩ := j11 (addI .i64 ((rd v.2.1 (v.2.2 - 1) (0, ((bs []), ((bs []), 0)))).1) ((((rd v.2.1 (v.2.2 - 1) (0, ((bs []), ((bs []), 0)))).2.2.1).size : Nat) : Int)) 0 a7 m7 v6 ha7
        refine ⟨w, Ev.step e (Ev.bind e1 (Ev.bind h1 (Ev.bind ht ?_))), g2⟩
        simp only [hadd]
        refine Ev.bind h3 (Ev.bind h4 (Ev.bind h5 (Ev.bind h6 ?_)))
        simp only [if_pos c1, if_pos c2]
        refine Ev.bind h7 ?_
        simp only [W1, hs1, if_pos (show 0 ≤ v.2.2 - 1 by omega), if_pos (show v.2.2 - 1 < (v.2.1.length : Int) by omega)]
        exact g1
    · obtain ⟨w, g1, g2⟩ := j11 (subI .i64 v3 v4) v5 a6 m6 v6 ha6
      refine ⟨w, Ev.step e (Ev.bind e1 (Ev.bind h1 (Ev.bind ht ?_))), g2⟩
      simp only [hadd]
      refine Ev.bind h3 (Ev.bind h4 (Ev.bind h5 (Ev.bind h6 ?_)))
      simp only [if_pos c1, if_neg c2]; exact g1
  · obtain ⟨w, g1, g2⟩ := j11 (subI .i64 v3 v4) v5 a6 m6 v6 ha6
    refine ⟨w, Ev.step e (Ev.bind e1 (Ev.bind h1 (Ev.bind ht ?_))), g2⟩
    simp only [hadd]
    refine Ev.bind h3 (Ev.bind h4 (Ev.bind h5 (Ev.bind h6 ?_)))
    simp only [if_neg c1]; exact g1
end Go.Proofs.Ytjgcpfdgneeleaa.UN
