/- Two near texts, drawn. -/
import Derived.Test.YtkkjkpliiinbjaaDoorPDrawNear
namespace Go.Proofs.YtkkjkpliiinbjaaDoor.DF
open Go.Eng Go.RowKit
set_option linter.unusedVariables false
set_option linter.unusedSimpArgs false
theorem size_set (l : List ByteArray) (i : Nat) (h : i < l.length) (v : ByteArray) : (joinL (l.set i v)).size + (l[i]).size = (joinL l).size + v.size := by
  have e1 : l.set i v = l.take i ++ v :: l.drop (i + 1) := List.set_eq_take_append_cons_drop .. |>.trans (if_pos h)
  have e2 : l = l.take i ++ l[i] :: l.drop (i + 1) := by
    conv => lhs; rw [← List.take_append_drop i l, List.drop_eq_getElem_cons h]
  have e3 : joinL l = joinL (l.take i) ++ (l[i] ++ joinL (l.drop (i + 1))) := by
    conv => lhs; rw [e2]
    rw [joinL_app, joinL_cons]
  rw [e1, e3, joinL_app, joinL_cons]
  simp only [ByteArray.size_append]
  omega
theorem tx_set {l : List ByteArray} (h : ∀ s ∈ l, Tx s) (i : Nat) {v : ByteArray} (hv : Tx v) : ∀ s ∈ l.set i v, Tx s := fun s hs => by
  rcases List.mem_or_eq_of_mem_set hs with h1 | h1
  · exact h s h1
  · rw [h1]; exact hv
theorem near_join {a : ByteArray} {kk : Int} {s : List Int} {x m z : Int} {l : List ByteArray} (hl : (joinL l).size ≤ 65536) (hll : l.length ≤ 1048576) {r : (ByteArray × ByteArray) × List Int × Int × Int × Int}
    (h : Ev2 (fun k j => spec_l01Src_twoNear_L4 k j a (joinL l) (subI .i64 kk 1) s x m z) r) : ∀ (suf pre : List ByteArray), l = pre ++ suf →
    Ev3 (fun k j i => spec_l01Src_twoNear_L23 k j i a (joinL pre) kk (pre.length : Int) s x m z l) r := by
  intro suf
  induction suf with
  | nil =>
    intro pre hp
    have e := fun k j i => spec_l01Src_twoNear_L23.eq a (joinL pre) kk (pre.length : Int) s x m z l k j i
    simp only [W, W1, W2, if_neg (show ¬ (pre.length : Int) < (l.length : Int) by rw [hp]; exact end_nlt pre)] at e
    rw [show joinL l = joinL pre by rw [hp, List.append_nil]] at h
    exact Ev3.step e h.three
  | cons q suf ih =>
    intro pre hp
    have hle : pre.length + 1 ≤ l.length := by rw [hp, List.length_append, List.length_cons]; omega
    have hr : rd l (pre.length : Int) (bs []) = q := by rw [hp]; exact rd_mid pre suf q _
    have hsz : (joinL pre).size + q.size ≤ 65536 := by
      have : joinL l = joinL pre ++ (q ++ joinL suf) := by rw [hp, joinL_app, joinL_cons]
      rw [this, ByteArray.size_append, ByteArray.size_append] at hl
      omega
    have e := fun k j i => spec_l01Src_twoNear_L23.eq a (joinL pre) kk (pre.length : Int) s x m z l k j i
    simp only [W, W1, W2, hr, if_pos (nat_ge pre.length), if_pos (show (pre.length : Int) < (l.length : Int) by omega), next_i pre q (by omega), if_pos (show ((joinL pre).size : Int) + (q.size : Int) ≤ 9223372036854775807 by omega)] at e
    have hh := ih (pre ++ [q]) (by rw [hp]; simp)
    rw [joinL_app, joinL_one] at hh
    exact Ev3.step e hh
def TQ (v : ByteArray × ByteArray) : Prop := NQ v.1 ∧ NQ v.2
theorem two_J21 {a : ByteArray} {kk : Int} {s : List Int} {x m z : Int} {l : List ByteArray} (hl : (joinL l).size ≤ 65536) (hll : l.length ≤ 1048576) {Q : ByteArray × ByteArray → Prop}
    (h : Drw2 (fun k j => spec_l01Src_twoNear_L4 k j a (joinL l) (subI .i64 kk 1) s x m z) s z Q) : Drw2 (fun k j => spec_l01Src_twoNear_J21 k j a kk s x m z l) s z Q := by
  obtain ⟨v, a', m', h1, h2, h3⟩ := h
  refine ⟨v, a', m', ?_, h2, h3⟩
  have e : (fun k j => spec_l01Src_twoNear_J21 k j a kk s x m z l) = fun k j => spec_l01Src_twoNear_L23 k j k a (bs []) kk 0 s x m z l := funext fun k => funext fun j => spec_l01Src_twoNear_J21.eq a kk s x m z l k j
  rw [e]
  exact (near_join hl hll h1 l [] rfl).two
theorem two_loop (s : List Int) (z a0 : Int) (hs0 : Src s a0 z) (ta : ByteArray) (hta : NQ ta) : ∀ (f : Nat) (tb : ByteArray) (a m : Int), 0 ≤ a ∧ a ≤ (s.length : Int) → Tx tb → tb.size + f ≤ 303 → f ≤ 3 →
    Drw2 (fun k j => spec_l01Src_twoNear_L4 k j ta tb (f : Int) s a m z) s z (fun v => NQ v.1 ∧ Tx v.2 ∧ v.2.size ≤ 303) := by
  intro f
  induction f with
  | zero =>
    intro tb a m ha hx hz _
    have e := fun k j => spec_l01Src_twoNear_L4.eq ta tb ((0 : Nat) : Int) s a m z k j
    simp only [W, W1, W2, W3, if_neg (show ¬ (0 : Int) < ((0 : Nat) : Int) by omega)] at e
    exact Drw2.step e (Drw2.now ha ⟨hta, hx, by show tb.size ≤ 303; omega⟩)
  | succ f ih =>
    intro tb a m ha hx hz hf
    have e := fun k j => spec_l01Src_twoNear_L4.eq ta tb ((f + 1 : Nat) : Int) s a m z k j
    have hsub : subI .i64 ((f + 1 : Nat) : Int) 1 = (f : Int) := by rw [subI_i64 (by omega) (by omega)]; omega
    have hc := specChars tb (by omega)
    have hp := specPieces tb (cuts tb) (by have := cuts_len tb; omega) (cuts_rise tb).rise
    obtain ⟨lb, hlb, rfl⟩ := hx
    have hch : pcs (enc lb) (cuts (enc lb)) = (grs lb).map enc := chs_enc hlb
    have hok := chs_ok (enc lb) (by omega)
    rw [show chs (enc lb) = (grs lb).map enc from chs_enc hlb] at hok
    rw [hch] at hp
    have hj : joinL ((grs lb).map enc) = enc lb := by rw [joinL_enc, grs_flat]
    have htx : ∀ t ∈ (grs lb).map enc, Tx t := fun t ht => by
      obtain ⟨g, hg, rfl⟩ := List.mem_map.1 ht
      exact ⟨g, fun p hp => hlb p (by rw [← grs_flat lb]; exact List.mem_flatten.2 ⟨g, hg, hp⟩), rfl⟩
    generalize (grs lb).map enc = l at *
    have hlen := hok.1
    simp only [W, W1, W2, W3, if_pos (show (0 : Int) < ((f + 1 : Nat) : Int) by omega)] at e
    refine Drw2.step e (Drw2.pre hc (Drw2.pre hp ?_))
    by_cases c : (l.length : Int) < 2
    · simp only [if_pos c]
      exact Drw2.bind (near_ev (hs0.at ha)) fun v a m ha hv => Drw2.now ha ⟨hta, hv.1, by have := hv.2; show v.size ≤ 303; omega⟩
    · simp only [if_neg c]
      have hs1 : subI .i64 (l.length : Int) 1 = (l.length : Int) - 1 := subI_i64 (by omega) (by omega)
      simp only [hs1]
      refine Drw2.bind (n_ev ((l.length : Int) - 1) (by omega) (hs0.at ha)) fun v a m ha hv => ?_
      obtain ⟨i, rfl⟩ := Int.eq_ofNat_of_zero_le hv.1
      have hi : i + 1 < l.length := by omega
      have hadd : addI .i64 (i : Int) 1 = ((i + 1 : Nat) : Int) := by rw [addI_i64 (by omega) (by omega)]; omega
      refine Drw2.bind (n_ev 4 (by omega) (hs0.at ha)) fun w a m ha hw => ?_
      have next : ∀ (l' : List ByteArray) (a m : Int), 0 ≤ a ∧ a ≤ (s.length : Int) → (∀ t ∈ l', Tx t) → (joinL l').size ≤ (enc lb).size + 1 → l'.length = l.length →
          Drw2 (fun k j => spec_l01Src_twoNear_J21 k j ta ((f + 1 : Nat) : Int) s a m z l') s z (fun v => NQ v.1 ∧ Tx v.2 ∧ v.2.size ≤ 303) := fun l' a m ha h1 h2 h3 => by
        refine two_J21 (by omega) (by omega) ?_
        rw [hsub]
        exact ih (joinL l') a m ha (tx_join l' h1) (by omega) (by omega)
      have g0 : (0 : Int) ≤ (i : Int) := by omega
      have g1 : (i : Int) < (l.length : Int) := by omega
      have g2 : (0 : Int) ≤ ((i + 1 : Nat) : Int) := by omega
      have g3 : ((i + 1 : Nat) : Int) < (l.length : Int) := by omega
      have r0 : rd l (i : Int) (bs []) = l[i] := rd_nat l i _ (by omega)
      have r1 : rd l ((i + 1 : Nat) : Int) (bs []) = l[i + 1] := rd_nat l (i + 1) _ hi
      have s0 := size_set l i (by omega)
      have hzi : (l[i]).size ≤ (joinL l).size := by have := s0 (bs []); have : (bs []).size = 0 := rfl; omega
      simp only [hadd, r0, r1, Int.toNat_natCast, List.length_set, if_pos g0, if_pos g1, if_pos g2, if_pos g3]
      by_cases c0 : w = 0
      · simp only [if_pos c0]
        refine next _ a m ha (tx_set (tx_set htx _ (htx _ (List.getElem_mem _))) _ (htx _ (List.getElem_mem _))) ?_ (by simp)
        have h1 := s0 (l[i + 1])
        have h2 := size_set (l.set i l[i + 1]) (i + 1) (by simpa using hi) (l[i])
        have h3 : (l.set i l[i + 1])[i + 1]'(by simpa using hi) = l[i + 1] := by rw [List.getElem_set_ne (by omega)]
        rw [h3] at h2
        rw [← hj]
        omega
      simp only [if_neg c0]
      by_cases c1 : w = 1
      · simp only [if_pos c1]
        refine next _ a m ha (tx_set htx _ tx_nil) ?_ (by simp)
        have h1 := s0 (bs [])
        have : (bs []).size = 0 := rfl
        rw [← hj]
        omega
      simp only [if_neg c1]
      by_cases c2 : w = 2
      · simp only [if_pos c2]
        have hb : (bs [98]).size = 1 := rfl
        simp only [hb, if_pos (show ((l[i]).size : Int) + ((1 : Nat) : Int) ≤ 9223372036854775807 by rw [hj] at hzi; omega)]
        refine next _ a m ha (tx_set htx _ ((htx _ (List.getElem_mem _)).app tx_b)) ?_ (by simp)
        have h1 := s0 (l[i] ++ bs [98])
        rw [ByteArray.size_append, hb] at h1
        rw [← hj]
        omega
      simp only [if_neg c2]
      by_cases c3 : w = 3
      · simp only [if_pos c3]
        refine Drw2.bind (pick_ev _ (by simp) (by simp) (hs0.at ha)) fun v a m ha hv => ?_
        have hq : Tx v ∧ v.size ≤ 1 := by
          simp only [List.mem_cons, List.not_mem_nil, or_false] at hv
          rcases hv with rfl | rfl | rfl | rfl
          · exact ⟨tx_a, by decide⟩
          · exact ⟨tx_b, by decide⟩
          · exact ⟨tx_x, by decide⟩
          · exact ⟨tx_A, by decide⟩
        refine next (l.set i v) a m ha (tx_set htx _ hq.1) ?_ (by simp)
        have h1 := s0 v
        rw [← hj]
        omega
      · simp only [if_neg c3]
        exact next l a m ha htx (by rw [hj]; omega) rfl
def DQ (v : ByteArray × ByteArray) : Prop := (Tx v.1 ∧ v.1.size ≤ 303) ∧ (Tx v.2 ∧ v.2.size ≤ 303)
theorem two_ev {s : List Int} {a m z : Int} (h : Src s a z) : Drw (fun k => spec_l01Src_twoNear k s a m z) s z DQ := by
  have e := fun k => spec_l01Src_twoNear.eq s a m z k
  simp only [W3] at e
  refine Drw.step e (Drw.bind (near_ev h) fun t a m ha ht => Drw.bind (n_ev 4 (by omega) (h.at ha)) fun v a m ha hv => ?_)
  obtain ⟨f, rfl⟩ := Int.eq_ofNat_of_zero_le hv.1
  have ht2 := ht.2
  exact ((two_loop s z _ h t ht f t a m ha ht.1 (by omega) (by omega)).one).imp fun v hv => ⟨⟨hv.1.1, by have := hv.1.2; omega⟩, hv.2⟩
theorem draw_ev (code : List Int) (hl : code.length ≤ 1048576) : ∃ v, Ev (fun k => spec_DrawDiffTexts k code) v ∧ DQ v := by
  obtain ⟨m, z, h0, hsrc⟩ := source_ev code hl
  obtain ⟨v1, a1, m1, h1, ha1, hv1⟩ := two_ev (m := m) hsrc
  obtain ⟨v2, a2, m2, h2, ha2, hv2⟩ := one_ev 60 (by omega) (m := m1) (hsrc.at ha1)
  have e := fun k => spec_DrawDiffTexts.eq code k
  simp only [W3] at e
  cases v2 with
  | false =>
    refine ⟨(v1.1, v1.2), Ev.step e (Ev.bind h0 (Ev.bind h1 (Ev.bind h2 ?_))), hv1⟩
    simp only [W1]
    exact Ev.now _
  | true =>
    obtain ⟨v3, a3, m3, h3, ha3, hv3⟩ := n_ev 3 (by omega) (m := m2) (hsrc.at ha2)
    have hadd : addI .i64 299 v3 = 299 + v3 := addI_i64 (by omega) (by omega)
    obtain ⟨v4, a4, m4, h4, ha4, hv4⟩ := longA (299 + v3) (by omega) (by omega) (m := m3) (hsrc.at ha3)
    refine ⟨(v4, v1.1), Ev.step e (Ev.bind h0 (Ev.bind h1 (Ev.bind h2 ?_))), ⟨hv4.1, by have := hv4.2; show v4.size ≤ 303; omega⟩, hv1.1⟩
    simp only [W1]
    refine Ev.bind h3 ?_
    simp only [hadd]
    exact Ev.bind h4 (Ev.now _)
end Go.Proofs.YtkkjkpliiinbjaaDoor.DF
