/- Drawn histories: none of the draws stops, what is drawn is small. -/
import Derived.Test.YtjgcpfdgneeleaaPUndo
import Derived.Test.YtjgcpfdgneeleaaPRopeT
namespace Go.Proofs.Ytjgcpfdgneeleaa.UN
open Go.Eng Go.RowKit
set_option linter.unusedVariables false
set_option linter.unusedSimpArgs false
theorem run_take {b u : ByteArray} {l : List T_issi} (h : run b l = some u) (n : Nat) : ∃ v, run b (l.take n) = some v := by
  have h2 := run_append (l.take n) (l.drop n) b
  rw [List.take_append_drop, h] at h2
  cases hr : run b (l.take n) with
  | none => rw [hr] at h2; cases h2
  | some v => exact ⟨v, rfl⟩
/-! ### the reference's step -/
def E5 : Out := (5, bs [], [], 0, bs [])
def E6 : Out := (6, bs [], [], 0, bs [])
noncomputable def doOf (b : ByteArray) (y : List T_issi) (u : ByteArray) (a n : Int) (put : ByteArray) (g : Int) : Out :=
  if 0 ≤ a ∧ a ≤ (u.size : Int) ∧ 0 ≤ n ∧ n ≤ (u.size : Int) - a then
    if u.extract a.toNat (a + n).toNat = put then E6 else fin b (after y (a, u.extract a.toNat (a + n).toNat, put, g)) (done u (a, u.extract a.toNat (a + n).toNat, put, g))
  else E5
theorem fits_do {u : ByteArray} {a n g : Int} {put : ByteArray} (h : 0 ≤ a ∧ a ≤ (u.size : Int) ∧ 0 ≤ n ∧ n ≤ (u.size : Int) - a) : fitsAt u (a, u.extract a.toNat (a + n).toNat, put, g) = true := by
  obtain ⟨w1, w2, w3, w4⟩ := h
  obtain ⟨gone, hgone⟩ : ∃ gone, u.extract a.toNat (a + n).toNat = gone := ⟨_, rfl⟩
  have hgs : (gone.size : Int) = n := by rw [← hgone]; simp [ByteArray.size_extract]; omega
  rw [hgone]
  have e5 : (a + n).toNat = a.toNat + gone.size := by omega
  rw [e5] at hgone
  simp [fitsAt, within, hgone]
  omega
theorem doOf_ok {b u : ByteArray} {y : List T_issi} {a n g : Int} {put : ByteArray} (hu : u.size ≤ 65536) (hy : run b y = some u) (hp : put.size ≤ 65536) (hs : ∀ x ∈ y, Small x) (h : (doOf b y u a n put g).1 = 0) :
    ∃ gone, doOf b y u a n put g = (0, b, after y (a, gone, put, g), ((after y (a, gone, put, g)).length : Int), done u (a, gone, put, g)) ∧ gone ≠ put ∧ (after y (a, gone, put, g)).length ≤ 300 ∧ run b (after y (a, gone, put, g)) = some (done u (a, gone, put, g)) ∧ (∀ x ∈ after y (a, gone, put, g), Small x) := by
  unfold doOf at h ⊢
  by_cases c : 0 ≤ a ∧ a ≤ (u.size : Int) ∧ 0 ≤ n ∧ n ≤ (u.size : Int) - a
  · rw [if_pos c] at h ⊢
    have hf := fits_do (g := g) (put := put) c
    obtain ⟨gone, hgone⟩ : ∃ gone, u.extract a.toNat (a + n).toNat = gone := ⟨_, rfl⟩
    rw [hgone] at h hf ⊢
    by_cases c2 : gone = put
    · rw [if_pos c2] at h; exact absurd (show (6 : Int) = 0 from h) (by omega)
    · rw [if_neg c2] at h ⊢
      obtain ⟨h1, h2⟩ := after_run b u y (a, gone, put, g) hy hf hu hp hs
      unfold fin at h ⊢
      by_cases c3 : 300 < ((after y (a, gone, put, g)).length : Int)
      · rw [if_pos c3] at h; exact absurd (show (8 : Int) = 0 from h) (by omega)
      · rw [if_neg c3] at h ⊢
        by_cases c4 : 65536 < ((done u (a, gone, put, g)).size : Int)
        · rw [if_pos c4] at h; exact absurd (show (8 : Int) = 0 from h) (by omega)
        · rw [if_neg c4]
          exact ⟨gone, rfl, c2, by omega, h2 (by omega), h1⟩
  · rw [if_neg c] at h; exact absurd (show (5 : Int) = 0 from h) (by omega)
theorem specDo (b : ByteArray) (l : List T_issi) (m : Nat) (u : ByteArray) (a n : Int) (put : ByteArray) (g : Int) (hb : b.size ≤ 65536) (hl3 : l.length ≤ 300) (hd1 : m ≤ l.length) (hs : ∀ x ∈ l, Small x) (hu2 : run b (l.take m) = some u) (hp : put.size ≤ 65536) :
    Ev (fun k => spec_l21Do k b l (m : Int) a n put g) (doOf b (l.take m) u a n put g) := by
  have hl : l.length ≤ 1048576 := by omega
  obtain ⟨t', h3, h4⟩ := text_ev b l (m : Int) m hl (by omega) hs
  have e := h4 u hb hu2
  subst e
  have hut : t'.size ≤ 65536 := run_size _ b t' hb hu2
  have hyl : (l.take m).length ≤ 300 := by simp; omega
  have hys : ∀ x ∈ l.take m, Small x := fun x hx => hs x (List.mem_of_mem_take hx)
  have hwi := within_ev t' a n (by omega)
  have j1 : (0 : Int) ≤ (m : Int) := by omega
  rw [show (decide (b.size ≤ 65536) && (run b (l.take m)).isSome) = true from by simp [hb, hu2]] at h3
  have eD := fun k => spec_l21Do.eq b l (m : Int) a n put g k
  unfold doOf
  by_cases cw : 0 ≤ a ∧ a ≤ (t'.size : Int) ∧ 0 ≤ n ∧ n ≤ t'.size - a
  · rw [if_pos cw]
    have hf := fits_do (g := g) (put := put) cw
    obtain ⟨w1, w2, w3, w4⟩ := cw
    have cw : (decide (0 ≤ a) && decide (a ≤ t'.size) && decide (0 ≤ n) && decide (n ≤ t'.size - a)) = true := by simp [w1, w2, w3, w4]
    rw [cw] at hwi
    have ew : addI .i64 a n = a + n := addI_i64 (by omega) (by omega)
    obtain ⟨gone, hgone⟩ : ∃ gone, t'.extract a.toNat (a + n).toNat = gone := ⟨_, rfl⟩
    have hgs : (gone.size : Int) = n := by rw [← hgone]; simp [ByteArray.size_extract]; omega
    have p1 : a ≤ a + n := by omega
    have p2 : a + n ≤ (t'.size : Int) := by omega
    simp only [W, W1, W2, W3, ew] at eD
    rw [hgone] at hf ⊢
    by_cases c6 : gone = put
    · rw [if_pos c6]
      refine Ev.step eD (Ev.bind h3 (Ev.bind hwi ?_))
      simp only [W1, hgone, if_pos w1, if_pos p1, if_pos p2, if_pos c6]
      exact Ev.now _
    · rw [if_neg c6]
      have hml : (m : Int) ≤ (l.length : Int) := by omega
      obtain ⟨y, hy⟩ : ∃ y, l.take m = y := ⟨_, rfl⟩
      rw [hy] at hyl hys hu2 ⊢
      have hyq : List.drop (0 : Int).toNat (List.take (m : Int).toNat l) = y := by simp [hy]
      have q1 : ((0 : Int) + (y.length : Int)) * 48 < 140737488355328 := by omega
      have eyl : subI .i64 (y.length : Int) 1 = (y.length : Int) - 1 := subI_i64 (by omega) (by omega)
      have hlo : rd y ((y.length : Int) - 1) (0, ((bs []), ((bs []), 0))) = lastOf y := rfl
      refine Ev.step eD (Ev.bind h3 (Ev.bind hwi ?_))
      have ht := specDo_tail b put t' gone y l (m : Int) a n g 0 0 (bs []) (bs []) hb hut (by omega) hyl hys hgs hu2 hf
      simp only [W1, hgone, if_pos w1, if_pos p1, if_pos p2, if_neg c6, if_pos j1, if_pos hml, hyq, List.nil_append, List.length_nil, Int.natCast_zero, if_pos q1, eyl, hlo]
      by_cases m1 : 0 < (y.length : Int)
      · have r1 : (0 : Int) ≤ (y.length : Int) - 1 := by omega
        have r2 : (y.length : Int) - 1 < (y.length : Int) := by omega
        simp only [if_pos m1, if_pos r1, if_pos r2]
        by_cases m2 : 0 < g
        · simp only [if_pos m2]
          by_cases m3 : (lastOf y).2.2.2 = g
          · simp only [if_pos m3]
            by_cases m4 : (lastOf y).2.1 = bs []
            · simp only [if_pos m4]
              by_cases m5 : gone = bs []
              · simp only [if_pos m5]
                have em : mg y (a, gone, put, g) = decide (a = addI .i64 (lastOf y).1 ((lastOf y).2.2.1.size : Int)) := by simp only [mg, m1, m2, m3, m4, m5, decide_true, Bool.true_and]
                rw [em] at ht
                exact ht
              · simp only [if_neg m5]
                have em : mg y (a, gone, put, g) = false := by simp [mg, m5]
                rw [em] at ht
                exact ht
            · simp only [if_neg m4]
              have em : mg y (a, gone, put, g) = false := by simp [mg, m4]
              rw [em] at ht
              exact ht
          · simp only [if_neg m3]
            have em : mg y (a, gone, put, g) = false := by simp [mg, m3]
            rw [em] at ht
            exact ht
        · simp only [if_neg m2]
          have em : mg y (a, gone, put, g) = false := by simp [mg, m2]
          rw [em] at ht
          exact ht
      · simp only [if_neg m1]
        have em : mg y (a, gone, put, g) = false := by
          have : y.length = 0 := by omega
          simp [mg, this]
        rw [em] at ht
        exact ht
  · rw [if_neg cw]
    have cw' : (decide (0 ≤ a) && decide (a ≤ t'.size) && decide (0 ≤ n) && decide (n ≤ t'.size - a)) = false := by
      rw [Bool.eq_false_iff]
      intro h
      simp only [Bool.and_eq_true, decide_eq_true_eq] at h
      exact cw ⟨h.1.1.1, h.1.1.2, h.1.2, h.2⟩
    rw [cw'] at hwi
    simp only [W3] at eD
    refine Ev.step eD (Ev.bind h3 (Ev.bind hwi ?_))
    simp only [W, W1]
    exact Ev.now _
/-- the same with no steps at all -/
theorem specDo_nil (b : ByteArray) (a n : Int) (put : ByteArray) (g : Int) (hb : b.size ≤ 65536) (hp : put.size ≤ 65536) :
    Ev (fun k => spec_l21Do'1 k b 0 a n put g) (doOf b [] b a n put g) := by
  have hwi := within_ev b a n (by omega)
  have h3 : Ev (fun k => spec_l21Text'1 k b 0 0) (b, true) := by
    have e := fun k => spec_l21Text'1.eq b 0 0 k
    simp only [W, W1, show decide ((b.size : Int) ≤ 65536) = true from decide_eq_true (by omega)] at e
    refine Ev.step e ?_
    have q : Ev2 (fun k j => spec_l21Text_L4'1 k j 0 b true 0 b 0) (b, true) := Ev2.ret fun k j => by
      have e := spec_l21Text_L4'1.eq 0 b true 0 b 0 k j
      simp only [W, W1, if_neg (show ¬ (0 : Int) < 0 by omega)] at e
      exact e
    exact q.ev
  have eD := fun k => spec_l21Do'1.eq b 0 a n put g k
  unfold doOf
  by_cases cw : 0 ≤ a ∧ a ≤ (b.size : Int) ∧ 0 ≤ n ∧ n ≤ b.size - a
  · rw [if_pos cw]
    have hf := fits_do (g := g) (put := put) cw
    obtain ⟨w1, w2, w3, w4⟩ := cw
    have cw : (decide (0 ≤ a) && decide (a ≤ b.size) && decide (0 ≤ n) && decide (n ≤ b.size - a)) = true := by simp [w1, w2, w3, w4]
    rw [cw] at hwi
    have ew : addI .i64 a n = a + n := addI_i64 (by omega) (by omega)
    obtain ⟨gone, hgone⟩ : ∃ gone, b.extract a.toNat (a + n).toNat = gone := ⟨_, rfl⟩
    have hgs : (gone.size : Int) = n := by rw [← hgone]; simp [ByteArray.size_extract]; omega
    have p1 : a ≤ a + n := by omega
    have p2 : a + n ≤ (b.size : Int) := by omega
    simp only [W, W1, W2, W3, ew, List.append_nil, List.length_nil, if_neg (show ¬ (0 : Int) < ((0 : Nat) : Int) by omega), if_pos (show (0 : Int) ≤ 0 by omega), if_pos (show (((0 : Nat) : Int) + ((0 : Nat) : Int)) * 48 < 140737488355328 by omega)] at eD
    rw [hgone] at hf ⊢
    refine Ev.step eD (Ev.bind h3 (Ev.bind hwi ?_))
    by_cases c6 : gone = put
    · rw [if_pos c6]
      simp only [W1, hgone, if_pos w1, if_pos p1, if_pos p2, if_pos c6]
      exact Ev.now _
    · rw [if_neg c6]
      simp only [W1, hgone, if_pos w1, if_pos p1, if_pos p2, if_neg c6]
      have ea : after [] (a, gone, put, g) = [(a, gone, put, g)] := by
        unfold after
        rw [if_neg (by simp [mg])]
        rfl
      obtain ⟨h1, h2⟩ := after_run b b [] (a, gone, put, g) rfl hf hb hp (fun x hx => by cases hx)
      rw [ea] at h1 h2 ⊢
      have hw : within b (a, gone, put, g) = true := by simp only [fitsAt, Bool.and_eq_true] at hf; exact hf.1
      have hz := size_done b _ hw
      simp only at hz
      have hw' := hw
      simp [within] at hw'
      have e10 := fun k => spec_l21Do_J10'1.eq n put b ((0 : Nat) : Int) false b 0 0 (bs []) 0 (bs []) a gone put g [] k
      have e12 := fun k => spec_l21Do_J12'1.eq n put b b 0 0 (bs []) 0 (bs []) [(a, gone, put, g)] k
      have hn : addI .i64 (subI .i64 (b.size : Int) n) (put.size : Int) = ((done b (a, gone, put, g)).size : Int) := by
        rw [subI_i64 (by omega) (by omega), addI_i64 (by omega) (by omega)]; omega
      simp only [W, W1, W2, W3, hn, List.nil_append, List.length_nil, List.length_cons, if_pos (show (((0 : Nat) : Int) + ((0 + 1 : Nat) : Int)) * 48 < 140737488355328 by omega), if_neg (show ¬ (300 : Int) < ((0 + 1 : Nat) : Int) by omega)] at e10 e12
      refine Ev.congr e10 (Ev.congr e12 ?_)
      unfold fin
      simp only [List.length_cons, List.length_nil, if_neg (show ¬ (300 : Int) < ((0 + 1 : Nat) : Int) by omega)]
      by_cases c2 : 65536 < ((done b (a, gone, put, g)).size : Int)
      · simp only [if_pos c2]; exact Ev.now _
      · simp only [if_neg c2]
        obtain ⟨t', h3, h4⟩ := text_ev b [(a, gone, put, g)] ((0 + 1 : Nat) : Int) 1 (by simp) (by simp) h1
        have e := h4 _ hb (h2 (by omega))
        subst e
        exact Ev.bind (a := ((0, b, [(a, gone, put, g)], ((0 + 1 : Nat) : Int), done b (a, gone, put, g)), ())) (Ev.step (fun k => spec_l21Out.eq b ((0 + 1 : Nat) : Int) [(a, gone, put, g)] k) (Ev.opt h3 (Ev.now _))) (Ev.now _)
  · rw [if_neg cw]
    have cw' : (decide (0 ≤ a) && decide (a ≤ b.size) && decide (0 ≤ n) && decide (n ≤ b.size - a)) = false := by
      rw [Bool.eq_false_iff]
      intro h
      simp only [Bool.and_eq_true, decide_eq_true_eq] at h
      exact cw ⟨h.1.1.1, h.1.1.2, h.1.2, h.2⟩
    rw [cw'] at hwi
    simp only [W3] at eD
    refine Ev.step eD (Ev.bind h3 (Ev.bind hwi ?_))
    simp only [W, W1]
    exact Ev.now _
end Go.Proofs.Ytjgcpfdgneeleaa.UN
