/- The law of steps taken back, plainly. -/
import Derived.Test.YtjgcpfdgneeleaaPDrawHisB
namespace Go.Proofs.Ytjgcpfdgneeleaa.UN
open Go.Eng Go.RowKit
set_option linter.unusedVariables false
set_option linter.unusedSimpArgs false
/-! ### the program's looks -/
theorem implFaultH {b : ByteArray} {l : List T_issi} {d : Int} (hv : valid b l d = true) (hl : l.length ≤ 1048576) (hs : ∀ x ∈ l, Small x) : Ev (fun k => impl_HistoryFault k b l d) 0 := by
  obtain ⟨r, ht, hr, hb, hl3, hat⟩ := valid_at hv
  have h2 := texts_ev b l d hl hs
  rw [ht] at h2
  have e := fun k => impl_HistoryFault.eq b l d k
  simp only [W3] at e
  refine Ev.step e (Ev.bind h2 ?_)
  simp only [W1]
  exact Ev.now _
theorem implTextAtH {b : ByteArray} {l : List T_issi} {n : Nat} (hv : valid b l (n : Int) = true) (hn : n ≤ l.length) (hl : l.length ≤ 1048576) (hs : ∀ x ∈ l, Small x) : Ev (fun k => impl_TextAt k b l (n : Int) (n : Int)) (txt b l n) := by
  obtain ⟨r, ht, hr, hb, hl3, hat⟩ := valid_at hv
  have h2 := texts_ev b l (n : Int) hl hs
  rw [ht] at h2
  have e := fun k => impl_TextAt.eq b l (n : Int) (n : Int) k
  simp only [W, W1, W2, W3] at e
  refine Ev.step e (Ev.bind h2 ?_)
  simp only [if_neg (show ¬ (n : Int) < 0 by omega), if_neg (show ¬ (r.length : Int) ≤ (n : Int) by omega), if_pos (nat_ge n), if_pos (show (n : Int) < (r.length : Int) by omega), (hat n hn).2]
  exact Ev.now _
/-! ### what a step makes -/
theorem valid_parts {b : ByteArray} {l : List T_issi} {d : Int} (hv : valid b l d = true) : l.all okStep = true := by
  have h := hv
  simp only [valid, Bool.and_eq_true] at h
  have h2 := h.2
  rw [scan_run, Bool.and_eq_true] at h2
  exact h2.1
theorem valid_of {b u : ByteArray} {l : List T_issi} {d : Int} (hb : b.size ≤ 65536) (hl : l.length ≤ 300) (h0 : 0 ≤ d) (h1 : d ≤ (l.length : Int)) (ha : l.all okStep = true) (hr : run b l = some u) : valid b l d = true := by
  simp only [valid, Bool.and_eq_true, decide_eq_true_eq]
  refine ⟨⟨⟨⟨hb, hl⟩, h0⟩, h1⟩, ?_⟩
  rw [scan_run, ha, hr]
  rfl
theorem after_ok {y : List T_issi} {s : T_issi} (hy : y.all okStep = true) (hs : okStep s = true) : (after y s).all okStep = true := by
  unfold after
  by_cases c : mg y s = true
  · rw [if_pos c]
    have c' := c
    simp only [mg, Bool.and_eq_true, decide_eq_true_eq] at c'
    obtain ⟨⟨⟨⟨⟨c1, c2⟩, c3⟩, c4⟩, c5⟩, c6⟩ := c'
    obtain ⟨p, x, hyp, hx, hn⟩ := last_of y c1
    rw [hx] at c4
    rw [hx, hn]
    subst hyp
    have hset : (p ++ [x]).set p.length (more x s.2.2.1) = p ++ [more x s.2.2.1] := by simp
    rw [hset]
    rw [List.all_append, Bool.and_eq_true] at hy
    rw [List.all_append, Bool.and_eq_true]
    refine ⟨hy.1, ?_⟩
    have hx2 : okStep x = true := by simpa using hy.2
    have hx3 : x.2.1 ≠ x.2.2.1 := by
      intro hh
      simp [okStep, hh] at hx2
    have hg : 0 ≤ x.2.2.2 ∧ x.2.2.2 ≤ 1000000 := by
      simp [okStep] at hx2
      omega
    have hne : x.2.1 ≠ x.2.2.1 ++ s.2.2.1 := fun h => hx3 (by
      have hz := congrArg ByteArray.size h
      rw [c4, ByteArray.size_append] at hz
      have e0 : (bs []).size = 0 := rfl
      rw [c4]
      exact (empty_of (by omega)).symm)
    have : okStep (more x s.2.2.1) = true := by
      unfold okStep more
      rw [Bool.and_eq_true, Bool.and_eq_true]
      exact ⟨⟨decide_eq_true hne, decide_eq_true hg.1⟩, decide_eq_true hg.2⟩
    simpa using this
  · rw [if_neg c, List.all_append, hy]
    simpa using hs
theorem after_plain {y : List T_issi} {s : T_issi} (h : s.2.2.2 = 0) : after y s = y ++ [s] := by
  unfold after
  rw [if_neg (by simp [mg, h])]
/-- a step that was made -/
theorem made {b : ByteArray} {l : List T_issi} {d a n g : Int} {put : ByteArray} {v : Out} (hl : l.length ≤ 1048576) (hs : ∀ x ∈ l, Small x) (hv : Ev (fun k => spec_DoStep k b l d a n put g) v) (h0 : v.1 = 0) :
    ∃ (L : List T_issi) (t : ByteArray), v = (0, b, L, (L.length : Int), t) ∧ valid b L (L.length : Int) = true ∧ run b L = some t ∧ L.length ≤ 300 ∧ (∀ x ∈ L, Small x) ∧ 0 < L.length ∧
      (g = 0 → valid b l d = true ∧ ∃ s : T_issi, s.2.2.2 = 0 ∧ L = l.take d.toNat ++ [s]) := by
  have h1 := specFault_ev b l d hl hs
  have eS := fun k => spec_DoStep.eq b l d a n put g k
  simp only [W, W1, W3] at eS
  by_cases hp : 65536 < (put.size : Int)
  · simp only [if_pos hp] at eS
    have := Ev.uniq hv (Ev.ret eS)
    rw [this] at h0; exact absurd (show (2 : Int) = 0 from h0) (by omega)
  simp only [if_neg hp] at eS
  by_cases hva : valid b l d = true
  · rw [if_pos hva] at h1
    by_cases hg0 : g < 0
    · have := Ev.uniq hv (Ev.step eS (Ev.bind h1 (by simp only [if_true, if_pos hg0]; exact Ev.now _)))
      rw [this] at h0; exact absurd (show (1 : Int) = 0 from h0) (by omega)
    by_cases hg1 : 1000000 < g
    · have := Ev.uniq hv (Ev.step eS (Ev.bind h1 (by simp only [if_true, if_neg hg0, if_pos hg1]; exact Ev.now _)))
      rw [this] at h0; exact absurd (show (1 : Int) = 0 from h0) (by omega)
    obtain ⟨r, hr, ht, hlen, hb, hd0, hd1, hl3⟩ := valid_scan b l d hva
    obtain ⟨m, rfl⟩ := Int.eq_ofNat_of_zero_le hd0
    obtain ⟨u, hu1, hu2⟩ := scan_at l b r m hr (by omega)
    have hdo := specDo b l m u a n put g hb hl3 (by omega) hs hu2 (by omega)
    have := Ev.uniq hv (Ev.step eS (Ev.bind h1 (by simp only [if_true, if_neg hg0, if_neg hg1]; exact Ev.bind hdo (Ev.now _))))
    have this : v = doOf b (l.take m) u a n put g := this
    rw [this] at h0 ⊢
    obtain ⟨gone, e1, e2, e3, e4, e5⟩ := doOf_ok (run_size _ b u hb hu2) hu2 (by omega) (fun x hx => hs x (List.mem_of_mem_take hx)) h0
    have hok : okStep (a, gone, put, g) = true := by
      simp only [okStep, Bool.and_eq_true, decide_eq_true_eq]
      exact ⟨⟨e2, by omega⟩, by omega⟩
    have hall : (l.take m).all okStep = true := by
      have h := valid_parts hva
      rw [List.all_eq_true] at h ⊢
      exact fun x hx => h x (List.mem_of_mem_take hx)
    refine ⟨after (l.take m) (a, gone, put, g), done u (a, gone, put, g), e1, valid_of hb e3 (by omega) (Int.le_refl _) (after_ok hall hok) e4, e4, e3, e5, ?_, fun hg => ⟨hva, (a, gone, put, g), hg, ?_⟩⟩
    · unfold after
      by_cases c : mg (l.take m) (a, gone, put, g) = true
      · rw [if_pos c]
        simp only [mg, Bool.and_eq_true, decide_eq_true_eq] at c
        rw [List.length_set]; omega
      · rw [if_neg c]; simp
    · rw [Int.toNat_natCast]
      exact after_plain hg
  · rw [if_neg hva] at h1
    have := Ev.uniq hv (Ev.step eS (Ev.bind h1 (by simp only [if_neg (show ¬ (1 : Int) = 0 by omega)]; exact Ev.now _)))
    rw [this] at h0; exact absurd (show (1 : Int) = 0 from h0) (by omega)
/-! ### back to the beginning -/
theorem valid_any {b : ByteArray} {l : List T_issi} {d : Int} (hv : valid b l d = true) (n : Nat) (hn : n ≤ l.length) : valid b l (n : Int) = true := by
  obtain ⟨r, hr, ht, hlen, hb, hd0, hd1, hl3⟩ := valid_scan b l d hv
  have h2 := hv
  simp only [valid, Bool.and_eq_true, decide_eq_true_eq] at h2 ⊢
  exact ⟨⟨⟨⟨hb, hl3⟩, by omega⟩, by omega⟩, h2.2⟩
theorem down_loop {b : ByteArray} {L : List T_issi} {d h1 : Int} (x : List T_issi) (hv : valid b L d = true) (hl : L.length ≤ 300) (hs : ∀ q ∈ L, Small q) : ∀ (D i : Nat), D ≤ L.length → D + i ≤ 300 →
    Ev2 (fun k j => laws_FnUndone_L18 k j (i : Int) b h1 x 0 b (D : Int) (txt b L D) L) true := by
  intro D
  induction D using Nat.strongRecOn with
  | ind D ih =>
    intro i hD hi
    have e := fun k j => laws_FnUndone_L18.eq (i : Int) b h1 x 0 b (D : Int) (txt b L D) L k j
    have hadd : addI .i64 (i : Int) 1 = ((i + 1 : Nat) : Int) := by rw [addI_i64 (by omega) (by omega)]; omega
    simp only [W, W1, W2, W3, hadd, if_true, if_pos (show (i : Int) ≤ 300 by omega)] at e
    cases D with
    | zero =>
      have ht : txt b L 0 = b := txt_some rfl
      simp only [if_pos (show ((0 : Nat) : Int) = 0 by omega), ht, if_true] at e
      have hu := implUndo_zero (valid_any hv 0 (by omega)) (by omega) hs
      rw [ht]
      refine Ev2.step e (Ev2.bind hu ?_)
      exact Ev2.now _
    | succ n =>
      simp only [if_neg (show ¬ ((n + 1 : Nat) : Int) = 0 by omega)] at e
      have hu := implUndo_succ (valid_any hv (n + 1) hD) (by omega) hs (by omega)
      have hle := backTo_le L (grp L n) n
      exact Ev2.step e (Ev2.bind hu (ih _ (by omega) (i + 1) (by omega) (by omega)))
theorem pure_FnUndone (code : List Int) (h1 : CT.good (.row e_y) code) : ∃ k, laws_FnUndone k code = some true := by
  refine Ev.has (r := true) ?_
  have e := fun k => laws_FnUndone.eq code k
  simp only [W, W1, W2, W3] at e
  by_cases c1 : 1048576 < code.length
  · simp only [if_pos (show (1048576 : Int) < (code.length : Int) by omega)] at e
    exact Ev.ret e
  simp only [if_neg (show ¬ (1048576 : Int) < (code.length : Int) by omega)] at e
  obtain ⟨w, hd, hl, hs⟩ := drawStep code (by omega)
  obtain ⟨⟨b, l, d⟩, a, n, put, g⟩ := w
  have hl : l.length ≤ 1000 := hl
  have hs : ∀ x ∈ l, Small x := hs
  obtain ⟨v, hspec, himpl, hvl⟩ := do_same b l d a n put g (by omega) hs
  refine Ev.step e (Ev.bind hd (Ev.bind hspec (Ev.bind himpl ?_)))
  by_cases c : v.1 = 0
  · obtain ⟨L, t, hv, hva, hrun, hL, hLs, hpos, h00⟩ := made (by omega) hs hspec c
    subst hv
    simp only [if_true, decide_true]
    have ht : txt b L L.length = t := txt_some (by rw [List.take_length]; exact hrun)
    have e8 := fun k => laws_FnUndone_J8.eq g b d l 0 b (L.length : Int) t L 0 b (L.length : Int) t L k
    have e10 := fun k => laws_FnUndone_J10.eq g b d l 0 b (L.length : Int) t L 0 b (L.length : Int) t L k
    simp only [W, W1, W2, W3] at e8 e10
    have hta := implTextAtH hva (Nat.le_refl _) (by omega) hLs
    rw [ht] at hta
    refine Ev.congr e8 (Ev.bind (implFaultH hva (by omega) hLs) ?_)
    simp only [if_true]
    refine Ev.bind hta ?_
    simp only [if_true]
    refine Ev.congr e10 ?_
    obtain ⟨N, hN⟩ : ∃ N, L.length = N + 1 := ⟨L.length - 1, by omega⟩
    have hva2 := hva
    rw [hN] at hva2
    have hu := implUndo_succ hva2 (by omega) hLs (by omega)
    have hsu := specUndo_succ hva2 (by omega) hLs (by omega)
    rw [← hN] at hu hsu
    have hle := backTo_le L (grp L N) N
    generalize hD : backTo L (grp L N) N = D at hu hsu hle
    refine Ev.bind hu ?_
    simp only [if_true]
    refine Ev.bind hsu ?_
    simp only [if_true]
    have h13 : Ev (fun k => laws_FnUndone_J13 k b d l 0 b (L.length : Int) t L 0 b (D : Int) (txt b L D) L) true := by
      have e13 := fun k => laws_FnUndone_J13.eq b d l 0 b (L.length : Int) t L 0 b (D : Int) (txt b L D) L k
      simp only [W, W1, W2, W3] at e13
      have hr := implRedo_next (valid_any hva D (by omega)) (by omega) hLs (by omega)
      have hre := redo_undo L N hN
      rw [hD] at hre
      rw [hre, ht] at hr
      refine Ev.congr e13 (Ev.bind hr ?_)
      simp only [if_true]
      have hdn := (down_loop (h1 := d) l hva hL hLs L.length 0 (Nat.le_refl _) (by omega)).ev
      rw [ht] at hdn
      exact hdn
    by_cases cg : g = 0
    · simp only [if_pos cg]
      obtain ⟨hvl2, s, hs0, hLe⟩ := h00 cg
      obtain ⟨T, hT, _, hTe⟩ := specTextAt (b := b) (l := l) (d := d) (by omega) hs
      have hTe := hTe hvl2
      refine Ev.bind hT ?_
      have hgN : grp L N = 0 := by
        have h2 : (l.take d.toNat).length = N := by rw [hLe] at hN; simpa using hN
        unfold grp
        rw [hLe, ← h2, rd_mid (l.take d.toNat) [] s]
        exact hs0
      have hDN : D = N := by rw [← hD, hgN]; rfl
      have hTt : txt b L D = T := by
        rw [hTe, hDN]
        unfold txt
        have h2 : (l.take d.toNat).length = N := by rw [hLe] at hN; simpa using hN
        rw [hLe, ← h2, List.take_left]
      simp only [hTt, if_true]
      rw [hTt] at h13
      exact h13
    · simp only [if_neg cg]
      exact h13
  · simp only [if_true, if_neg c, decide_true]
    exact Ev.now _
#print axioms pure_FnUndone
end Go.Proofs.Ytjgcpfdgneeleaa.UN
