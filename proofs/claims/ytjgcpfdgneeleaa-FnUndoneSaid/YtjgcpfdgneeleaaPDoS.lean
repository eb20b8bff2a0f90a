/- DoStep, plainly (for laws that ask for no marks): the step that is made, merged into the last one or put behind it. -/
import Derived.Test.YtjgcpfdgneeleaaXHis
namespace Go.Proofs.Ytjgcpfdgneeleaa.UN
open Go.Eng Go.RowKit
set_option linter.unusedVariables false
set_option linter.unusedSimpArgs false
theorem run_append (l1 l2 : List T_issi) : ∀ t, run t (l1 ++ l2) = (run t l1).bind (fun u => run u l2) := by
  induction l1 with
  | nil => intro t; rfl
  | cons x l1 ih =>
    intro t
    simp only [List.cons_append, run]
    split
    · exact ih _
    · rfl
theorem run_snoc (l : List T_issi) (t u : ByteArray) (x : T_issi) (h : run t l = some u) (hf : fitsAt u x = true) (hz : (done u x).size ≤ 65536) : run t (l ++ [x]) = some (done u x) := by
  rw [run_append, h]
  simp [run, hf, hz]
theorem run_last (l : List T_issi) (t u : ByteArray) (x : T_issi) (h : run t (l ++ [x]) = some u) : ∃ u0, run t l = some u0 ∧ fitsAt u0 x = true ∧ (done u0 x).size ≤ 65536 ∧ u = done u0 x := by
  rw [run_append] at h
  obtain ⟨u0, h0, h1⟩ := Option.bind_eq_some_iff.1 h
  simp only [run] at h1
  split at h1
  · rename_i hc
    simp at hc
    exact ⟨u0, h0, hc.1, hc.2, (Option.some.inj h1).symm⟩
  · cases h1
theorem run_size (l : List T_issi) : ∀ (t u : ByteArray), t.size ≤ 65536 → run t l = some u → u.size ≤ 65536 := by
  induction l with
  | nil => intro t u ht h; simp [run] at h; subst h; exact ht
  | cons x l ih =>
    intro t u ht h
    simp only [run] at h
    split at h
    · rename_i hc
      simp at hc
      exact ih _ u hc.2 h
    · cases h
abbrev Out := Int × ByteArray × List T_issi × Int × ByteArray
theorem clone_ev (l : List T_issi) (hl : l.length ≤ 1048576) : Ev (fun k => slices_Clone_Step_Step k l) l := by
  refine Ev.ret fun k => ?_
  have e : slices_Clone_Step_Step (k + 1) l = chk (ltI (mulZ (addZ (ln ([] : List T_issi)) (ln l)) 48) 140737488355328) (some (catL [] l)) := by kernel_rfl
  rw [e]
  simp only [W, W1, W2, List.length_nil, List.nil_append]
  rw [if_pos (by omega)]
def E8 : Out := (8, bs [], [], 0, bs [])
def fin (b : ByteArray) (y : List T_issi) (t : ByteArray) : Out :=
  if 300 < (y.length : Int) then E8 else if 65536 < (t.size : Int) then E8 else (0, b, y, (y.length : Int), t)
theorem fin_len (b : ByteArray) (y : List T_issi) (t : ByteArray) : (fin b y t).2.2.1.length ≤ 300 := by
  unfold fin E8
  split
  · simp
  · split
    · simp
    · show y.length ≤ 300
      omega
/-- the reference's end -/
theorem spec_fin (drop : Int) (put u b : ByteArray) (l : List T_issi) (d x x2 : Int) (x1 x3 : ByteArray) (y : List T_issi) (t : ByteArray) (hn : addI .i64 (subI .i64 (u.size : Int) drop) (put.size : Int) = t.size) (hb : b.size ≤ 65536) (hl : y.length ≤ 1048576) (hs : ∀ x ∈ y, Small x)
    (h : t.size ≤ 65536 → run b y = some t) : Ev (fun k => spec_l21Do_J12 k drop put u b l d x x1 x2 x3 y) (fin b y t) := by
  have e := fun k => spec_l21Do_J12.eq drop put u b l d x x1 x2 x3 y k
  simp only [W, W1, W2, W3, hn] at e
  refine Ev.congr e ?_
  unfold fin
  by_cases c : 300 < (y.length : Int)
  · simp only [if_pos c]; exact Ev.now _
  · by_cases c2 : 65536 < (t.size : Int)
    · simp only [if_neg c, if_pos c2]; exact Ev.now _
    · simp only [if_neg c, if_neg c2]
      obtain ⟨t', h3, h4⟩ := text_ev b y (y.length : Int) y.length hl (Nat.le_refl _) hs
      rw [List.take_length] at h3 h4
      have e := h4 t hb (h (by omega))
      subst e
      exact Ev.bind (a := ((0, b, y, (y.length : Int), t'), ())) (Ev.step (fun k => spec_l21Out.eq b (y.length : Int) y k) (Ev.opt h3 (Ev.now _))) (Ev.now _)
theorem impl_fin (t b : ByteArray) (l : List T_issi) (d x x2 : Int) (x1 x3 : ByteArray) (y : List T_issi) : Ev (fun k => impl_DoStep_J19 k t b l d x x1 x2 x3 y) (fin b y t) := by
  have e := fun k => impl_DoStep_J19.eq t b l d x x1 x2 x3 y k
  simp only [W, W1, W2, W3] at e
  refine Ev.congr e ?_
  unfold fin
  by_cases c : 300 < (y.length : Int)
  · simp only [if_pos c]; exact Ev.now _
  · simp only [if_neg c]
    refine Ev.bind (tooLong_ev t) ?_
    by_cases c2 : 65536 < (t.size : Int)
    · simp only [W1, if_pos c2]; exact Ev.now _
    · simp only [W1, if_neg c2]; exact Ev.now _
def lastOf (y : List T_issi) : T_issi := rd y ((y.length : Int) - 1) (0, ((bs []), ((bs []), 0)))
/-- is the step to be merged into the last one -/
noncomputable def mg (y : List T_issi) (s : T_issi) : Bool :=
  decide (0 < (y.length : Int)) && decide (0 < s.2.2.2) && decide ((lastOf y).2.2.2 = s.2.2.2) && decide ((lastOf y).2.1 = bs []) && decide (s.2.1 = bs []) &&
    decide (s.1 = addI .i64 (lastOf y).1 ((lastOf y).2.2.1.size : Int))
def more (x : T_issi) (p : ByteArray) : T_issi := (x.1, x.2.1, x.2.2.1 ++ p, x.2.2.2)
/-- The steps that DoStep leaves. -/
noncomputable def after (y : List T_issi) (s : T_issi) : List T_issi :=
  if mg y s then y.set ((y.length : Int) - 1).toNat (more (lastOf y) s.2.2.1) else y ++ [s]
theorem after_len (y : List T_issi) (s : T_issi) : (after y s).length ≤ y.length + 1 := by
  unfold after
  split <;> simp
theorem empty_of {b : ByteArray} (h : b.size = 0) : b = bs [] := by
  apply ByteArray.ext
  apply Array.eq_empty_of_size_eq_zero
  exact h
theorem ext_left (a b : ByteArray) : (a ++ b).extract 0 a.size = a := by
  rw [ByteArray.extract_append]
  simp
theorem ext_right (a b : ByteArray) : (a ++ b).extract a.size (a ++ b).size = b := by
  have h0 : a.extract a.size (a.size + b.size) = bs [] := empty_of (by simp [ByteArray.size_extract])
  rw [ByteArray.extract_append]
  simp
  rw [h0]
  exact ByteArray.empty_append
theorem done_more (u : ByteArray) (x s : T_issi) (hw : within u x = true) (h1 : x.2.1 = bs []) (hs1 : s.2.1 = bs []) (ha : s.1 = x.1 + x.2.2.1.size) : done u (more x s.2.2.1) = done (done u x) s := by
  have hw' := hw
  have e0 : (bs []).size = 0 := rfl
  simp [within, h1] at hw'
  have hz : (u.extract 0 x.1.toNat ++ x.2.2.1).size = s.1.toNat := by simp [ByteArray.size_append, ByteArray.size_extract]; omega
  have el : (done u x).extract 0 s.1.toNat = u.extract 0 x.1.toNat ++ x.2.2.1 := by
    unfold done
    rw [← hz]
    exact ext_left _ _
  have er : (done u x).extract s.1.toNat (done u x).size = u.extract x.1.toNat u.size := by
    have : done u x = (u.extract 0 x.1.toNat ++ x.2.2.1) ++ u.extract x.1.toNat u.size := by unfold done; rw [h1, e0]; rfl
    rw [this, ← hz]
    exact ext_right _ _
  have e1 : done (done u x) s = ((done u x).extract 0 s.1.toNat ++ s.2.2.1) ++ (done u x).extract (s.1.toNat + s.2.1.size) (done u x).size := rfl
  rw [e1, hs1, e0, Nat.add_zero, el, er]
  unfold done more
  simp only [h1, e0, Nat.add_zero]
  rw [ByteArray.append_assoc (a := u.extract 0 x.1.toNat) (b := x.2.2.1) (c := s.2.2.1)]
theorem last_of (y : List T_issi) (h : 0 < (y.length : Int)) : ∃ p x, y = p ++ [x] ∧ lastOf y = x ∧ ((y.length : Int) - 1).toNat = p.length := by
  rcases List.eq_nil_or_concat y with rfl | ⟨p, x, rfl⟩
  · simp at h
  · refine ⟨p, x, by simp, ?_, by simp⟩
    unfold lastOf
    have e : (((p.concat x).length : Int) - 1) = (p.length : Int) := by simp
    rw [e, List.concat_eq_append]
    exact rd_mid p [] x _
theorem after_run (b u : ByteArray) (y : List T_issi) (s : T_issi) (hy : run b y = some u) (hf : fitsAt u s = true) (hu : u.size ≤ 65536) (hp : s.2.2.1.size ≤ 65536) (hs : ∀ x ∈ y, Small x) :
    (∀ x ∈ after y s, Small x) ∧ ((done u s).size ≤ 65536 → run b (after y s) = some (done u s)) := by
  have hf' := hf
  simp [fitsAt, within] at hf'
  unfold after
  by_cases c : mg y s = true
  · rw [if_pos c]
    have c' := c
    simp only [mg, Bool.and_eq_true, decide_eq_true_eq] at c'
    obtain ⟨⟨⟨⟨⟨c1, c2⟩, c3⟩, c4⟩, c5⟩, c6⟩ := c'
    obtain ⟨p, x, hyp, hx, hn⟩ := last_of y c1
    rw [hx] at c3 c4 c6
    rw [hx, hn]
    subst hyp
    obtain ⟨u0, h0, h1, h2, h3⟩ := run_last p b u x hy
    subst h3
    have hw : within u0 x = true := by simp only [fitsAt, Bool.and_eq_true] at h1; exact h1.1
    have hz := size_done u0 x hw
    have hw' := hw
    simp [within] at hw'
    have e0 : (bs []).size = 0 := rfl
    have hx2 : x.2.2.1.size ≤ 65536 := by rw [c4, e0] at hz; omega
    have hx1 := hs x (by simp)
    have hu0 : u0.size ≤ 65536 := by rw [c4, e0] at hz; omega
    rw [addI_i64 (by omega) (by omega)] at c6
    have hset : (p ++ [x]).set p.length (more x s.2.2.1) = p ++ [more x s.2.2.1] := by simp
    rw [hset]
    have hd := done_more u0 x s hw c4 c5 c6
    refine ⟨?_, fun hz2 => ?_⟩
    · intro v hv
      rcases List.mem_append.1 hv with hv | hv
      · exact hs v (by simp [hv])
      · obtain rfl : v = more x s.2.2.1 := by simpa using hv
        refine ⟨hx1.1, ?_⟩
        show (x.2.2.1 ++ s.2.2.1).size ≤ 1048576
        rw [ByteArray.size_append]
        omega
    · rw [← hd]
      refine run_snoc p b u0 _ h0 ?_ (by rw [hd]; exact hz2)
      exact h1
  · rw [if_neg c]
    refine ⟨?_, fun hz2 => run_snoc y b u s hy hf hz2⟩
    intro v hv
    rcases List.mem_append.1 hv with hv | hv
    · exact hs v hv
    · obtain rfl : v = s := by simpa using hv
      exact ⟨by omega, by omega⟩
/-- the reference, behind the question whether to merge -/
theorem specDo_tail (b put u gone : ByteArray) (y l : List T_issi) (d a n g x x2 : Int) (x1 x3 : ByteArray) (hb : b.size ≤ 65536) (hu : u.size ≤ 65536) (hp : put.size ≤ 65536) (hl : y.length ≤ 300) (hs : ∀ x ∈ y, Small x)
    (hn : (gone.size : Int) = n) (hy : run b y = some u) (hf : fitsAt u (a, gone, put, g) = true) :
    Ev (fun k => spec_l21Do_J10 k n put u (y.length : Int) (mg y (a, gone, put, g)) b l d x x1 x2 x3 a gone put g y) (fin b (after y (a, gone, put, g)) (done u (a, gone, put, g))) := by
  obtain ⟨h1, h2⟩ := after_run b u y (a, gone, put, g) hy hf hu hp hs
  have hw : within u (a, gone, put, g) = true := by simp only [fitsAt, Bool.and_eq_true] at hf; exact hf.1
  have hz := size_done u _ hw
  have hw' := hw
  simp [within] at hw'
  simp only at hz
  have hlen := after_len y (a, gone, put, g)
  have h := spec_fin n put u b l d x x2 x1 x3 (after y (a, gone, put, g)) (done u (a, gone, put, g)) (by rw [subI_i64 (by omega) (by omega), addI_i64 (by omega) (by omega)]; omega) hb (by omega) h1 h2
  have e := fun k => spec_l21Do_J10.eq n put u (y.length : Int) (mg y (a, gone, put, g)) b l d x x1 x2 x3 a gone put g y k
  have e1 : subI .i64 (y.length : Int) 1 = (y.length : Int) - 1 := subI_i64 (by omega) (by omega)
  simp only [W, W1, W2, e1] at e
  refine Ev.congr e ?_
  by_cases c : mg y (a, gone, put, g) = true
  · have c' := c
    simp only [mg, Bool.and_eq_true, decide_eq_true_eq] at c'
    obtain ⟨p, q, hyp, hx, hpn⟩ := last_of y c'.1.1.1.1.1
    have hxs := hs q (by rw [hyp]; simp)
    have hr : rd y ((y.length : Int) - 1) (0, ((bs []), ((bs []), 0))) = q := hx
    have ea : after y (a, gone, put, g) = y.set ((y.length : Int) - 1).toNat (more q put) := by unfold after; rw [if_pos c, hx]
    have b1 : (0 : Int) ≤ (y.length : Int) - 1 := by omega
    have b2 : (y.length : Int) - 1 < (y.length : Int) := by omega
    have b3 : (q.2.2.1.size : Int) + (put.size : Int) ≤ 9223372036854775807 := by have := hxs.2; omega
    rw [ea] at h ⊢
    simp only [brB_b, if_pos c, hr, if_pos b1, if_pos b2, if_pos b3]
    exact h
  · have ea : after y (a, gone, put, g) = y ++ [(a, gone, put, g)] := by unfold after; rw [if_neg c]
    have b3 : ((y.length : Int) + (([(a, gone, put, g)] : List T_issi).length : Int)) * 48 < 140737488355328 := by simp; omega
    rw [ea] at h ⊢
    simp only [brB_b, if_neg c, if_pos b3]
    exact h
theorem implDo_tail (b put u gone : ByteArray) (y l : List T_issi) (d a g x x2 : Int) (x1 x3 : ByteArray) (hl : y.length ≤ 300) (hp : put.size ≤ 65536) (hs : ∀ x ∈ y, Small x) :
    Ev (fun k => impl_DoStep_J17 k put (done u (a, gone, put, g)) ((y.length : Int) - 1) (mg y (a, gone, put, g)) b l d x x1 x2 x3 a gone put g y) (fin b (after y (a, gone, put, g)) (done u (a, gone, put, g))) := by
  have h := impl_fin (done u (a, gone, put, g)) b l d x x2 x1 x3 (after y (a, gone, put, g))
  have e := fun k => impl_DoStep_J17.eq put (done u (a, gone, put, g)) ((y.length : Int) - 1) (mg y (a, gone, put, g)) b l d x x1 x2 x3 a gone put g y k
  simp only [W, W1, W2] at e
  refine Ev.congr e ?_
  by_cases c : mg y (a, gone, put, g) = true
  · have c' := c
    simp only [mg, Bool.and_eq_true, decide_eq_true_eq] at c'
    obtain ⟨p, q, hyp, hx, hpn⟩ := last_of y c'.1.1.1.1.1
    have hxs := hs q (by rw [hyp]; simp)
    have hr : rd y ((y.length : Int) - 1) (0, ((bs []), ((bs []), 0))) = q := hx
    have ea : after y (a, gone, put, g) = y.set ((y.length : Int) - 1).toNat (more q put) := by unfold after; rw [if_pos c, hx]
    have b1 : (0 : Int) ≤ (y.length : Int) - 1 := by omega
    have b2 : (y.length : Int) - 1 < (y.length : Int) := by omega
    have b3 : (q.2.2.1.size : Int) + (put.size : Int) ≤ 9223372036854775807 := by have := hxs.2; omega
    rw [ea] at h ⊢
    simp only [brB_b, if_pos c, hr, if_pos b1, if_pos b2, if_pos b3]
    exact h
  · have ea : after y (a, gone, put, g) = y ++ [(a, gone, put, g)] := by unfold after; rw [if_neg c]
    have b3 : ((y.length : Int) + (([(a, gone, put, g)] : List T_issi).length : Int)) * 48 < 140737488355328 := by simp; omega
    rw [ea] at h ⊢
    simp only [brB_b, if_neg c, if_pos b3]
    exact h
theorem do_same (b : ByteArray) (l : List T_issi) (d a n : Int) (put : ByteArray) (g : Int) (hl : l.length ≤ 1048576) (hs : ∀ x ∈ l, Small x) :
    ∃ v : Out, Ev (fun k => spec_DoStep k b l d a n put g) v ∧ Ev (fun k => impl_DoStep k b l d a n put g) v ∧ v.2.2.1.length ≤ 300 := by
  have h1 := specFault_ev b l d hl hs
  have h2 := texts_ev b l d hl hs
  have hlo := tooLong_ev put
  have eS := fun k => spec_DoStep.eq b l d a n put g k
  have eI := fun k => impl_DoStep.eq b l d a n put g k
  simp only [W, W1, W3] at eS eI
  by_cases hp : 65536 < (put.size : Int)
  · refine ⟨(2, bs [], [], 0, bs []), Ev.ret fun k => ?_, Ev.step eI (Ev.bind hlo ?_), by simp⟩
    · rw [eS, if_pos hp]
    · simp only [W1, if_pos hp]; exact Ev.now _
  simp only [if_neg hp] at eS
  have eI2 : ∀ v : Out, Ev (fun k => (impl_texts k b l d).bind fun r1 => brB r1.2 (some (1, ((bs []), (([] : List (Int × ByteArray × ByteArray × Int)), (0, (bs [])))))) (if g < 0 then some (1, ((bs []), (([] : List (Int × ByteArray × ByteArray × Int)), (0, (bs []))))) else if 1000000 < g then some (1, ((bs []), (([] : List (Int × ByteArray × ByteArray × Int)), (0, (bs []))))) else impl_DoStep_J6 k a n put g b l d 0 (bs []) 0 (bs []) r1.2 r1.1)) v → Ev (fun k => impl_DoStep k b l d a n put g) v := by
    intro v hv
    refine Ev.step eI (Ev.bind hlo ?_)
    simp only [W1, if_neg hp]
    exact hv
  by_cases hv : valid b l d = true
  · obtain ⟨r, hr, ht, hlen, hb, hd0, hd1, hl3⟩ := valid_scan b l d hv
    rw [if_pos hv] at h1
    rw [ht] at h2
    obtain ⟨m, rfl⟩ : ∃ m : Nat, d = m := ⟨d.toNat, by omega⟩
    by_cases hg : g < 0 ∨ 1000000 < g
    · refine ⟨(1, bs [], [], 0, bs []), Ev.step eS (Ev.bind h1 ?_), eI2 _ (Ev.bind h2 ?_), by simp⟩
      · simp only [if_true]
        rcases hg with hg | hg
        · simp only [if_pos hg]; exact Ev.now _
        · have : ¬ g < 0 := by omega
          simp only [if_neg this, if_pos hg]; exact Ev.now _
      · simp only [W1]
        rcases hg with hg | hg
        · simp only [if_pos hg]; exact Ev.now _
        · have : ¬ g < 0 := by omega
          simp only [if_neg this, if_pos hg]; exact Ev.now _
    have hg0 : ¬ g < 0 := by omega
    have hg1 : ¬ 1000000 < g := by omega
    obtain ⟨u, hu1, hu2⟩ := scan_at l b r m hr (by omega)
    obtain ⟨t', h3, h4⟩ := text_ev b l (m : Int) m hl (by omega) hs
    have e := h4 u hb hu2
    subst e
    have er : rd r (m : Int) (bs []) = t' := rd_at _ hu1
    have hut : t'.size ≤ 65536 := run_size _ b t' hb hu2
    have hyl : (l.take m).length ≤ 300 := by simp; omega
    have hys : ∀ x ∈ l.take m, Small x := fun x hx => hs x (List.mem_of_mem_take hx)
    have hwi := within_ev t' a n (by omega)
    -- what both make of it, as far as the place
    have hS : ∀ v : Out, Ev (fun k => spec_l21Do k b l (m : Int) a n put g) v → Ev (fun k => spec_DoStep k b l (m : Int) a n put g) v := by
      intro v h
      refine Ev.step eS (Ev.bind h1 ?_)
      simp only [if_true, if_neg hg0, if_neg hg1]
      exact Ev.bind h (Ev.now _)
    have eJ := fun k => impl_DoStep_J6.eq a n put g b l (m : Int) 0 (bs []) 0 (bs []) false r k
    have j1 : (0 : Int) ≤ (m : Int) := by omega
    have j2 : (m : Int) < (r.length : Int) := by omega
    simp only [W, W1, W2, er, if_pos j1, if_pos j2] at eJ
    have hI : ∀ v : Out, Ev (fun k => impl_DoStep_J6 k a n put g b l (m : Int) 0 (bs []) 0 (bs []) false r) v → Ev (fun k => impl_DoStep k b l (m : Int) a n put g) v := by
      intro v h
      refine eI2 _ (Ev.bind h2 ?_)
      simp only [W1, if_neg hg0, if_neg hg1]
      exact h
    rw [show (decide (b.size ≤ 65536) && (run b (l.take m)).isSome) = true from by simp [hb, hu2]] at h3
    have eD := fun k => spec_l21Do.eq b l (m : Int) a n put g k
    by_cases cw : 0 ≤ a ∧ a ≤ (t'.size : Int) ∧ 0 ≤ n ∧ n ≤ t'.size - a
    · obtain ⟨w1, w2, w3, w4⟩ := cw
      have cw : (decide (0 ≤ a) && decide (a ≤ t'.size) && decide (0 ≤ n) && decide (n ≤ t'.size - a)) = true := by simp [w1, w2, w3, w4]
      rw [cw] at hwi
      have ew : addI .i64 a n = a + n := addI_i64 (by omega) (by omega)
      have ew2 : subI .i64 (t'.size : Int) a = t'.size - a := subI_i64 (by omega) (by omega)
      obtain ⟨gone, hgone⟩ : ∃ gone, t'.extract a.toNat (a + n).toNat = gone := ⟨_, rfl⟩
      have hgs : (gone.size : Int) = n := by rw [← hgone]; simp [ByteArray.size_extract]; omega
      have i1 : ¬ a < 0 := by omega
      have i2 : ¬ (t'.size : Int) < a := by omega
      have i3 : ¬ n < 0 := by omega
      have i4 : ¬ (t'.size : Int) - a < n := by omega
      have p1 : a ≤ a + n := by omega
      have p2 : a + n ≤ (t'.size : Int) := by omega
      simp only [ew2, if_neg i1, if_neg i2, if_neg i3, if_neg i4] at eJ
      have eK := fun k => impl_DoStep_J10.eq a n put g t' b l (m : Int) 0 (bs []) 0 (bs []) k
      simp only [W, W1, W2, W3, ew, hgone, if_pos w1, if_pos p1, if_pos p2] at eK
      simp only [W, W1, W2, W3, ew] at eD
      by_cases c6 : gone = put
      · refine ⟨(6, bs [], [], 0, bs []), hS _ (Ev.step eD (Ev.bind h3 (Ev.bind hwi ?_))), hI _ (Ev.congr eJ (Ev.congr eK ?_)), by simp⟩
        · simp only [W1, hgone, if_pos w1, if_pos p1, if_pos p2, if_pos c6]
          exact Ev.now _
        · simp only [if_pos c6]
          exact Ev.now _
      · have hf : fitsAt t' (a, gone, put, g) = true := by
          have e5 : (a + n).toNat = a.toNat + gone.size := by omega
          rw [e5] at hgone
          simp [fitsAt, within, hgone]
          omega
        have hw : within t' (a, gone, put, g) = true := by simp only [fitsAt, Bool.and_eq_true] at hf; exact hf.1
        have hml : (m : Int) ≤ (l.length : Int) := hd1
        obtain ⟨y, hy⟩ : ∃ y, l.take m = y := ⟨_, rfl⟩
        rw [hy] at hyl hys hu2
        have hyq : List.drop (0 : Int).toNat (List.take (m : Int).toNat l) = y := by simp [hy]
        have q1 : ((0 : Int) + (y.length : Int)) * 48 < 140737488355328 := by omega
        have eyl : subI .i64 (y.length : Int) 1 = (y.length : Int) - 1 := subI_i64 (by omega) (by omega)
        have hlo : rd y ((y.length : Int) - 1) (0, ((bs []), ((bs []), 0))) = lastOf y := rfl
        refine ⟨fin b (after y (a, gone, put, g)) (done t' (a, gone, put, g)), hS _ (Ev.step eD (Ev.bind h3 (Ev.bind hwi ?_))), hI _ (Ev.congr eJ (Ev.congr eK ?_)), fin_len _ _ _⟩
        · have ht := specDo_tail b put t' gone y l (m : Int) a n g 0 0 (bs []) (bs []) hb hut (by omega) hyl hys hgs hu2 hf
          simp only [W1, hgone, if_pos w1, if_pos p1, if_pos p2, if_neg c6, if_pos j1, if_pos hml, hyq, List.nil_append, List.length_nil, Int.natCast_zero, if_pos q1, eyl, hlo]
          by_cases m1 : 0 < (y.length : Int)
          · have r1 : (0 : Int) ≤ (y.length : Int) - 1 := by omega
            have r2 : (y.length : Int) - 1 < (y.length : Int) := by omega
            simp only [if_pos m1, if_pos r1, if_pos r2]
            by_cases m2 : 0 < g
            · simp only [if_pos m2]
              by_cases m3 : (lastOf y).2.2.2 = g
              · simp only [if_pos m3]
                by_cases m4 : (lastOf y).2.1 = bs []
                · simp only [if_pos m4]
                  by_cases m5 : gone = bs []
                  · simp only [if_pos m5]
                    have em : mg y (a, gone, put, g) = decide (a = addI .i64 (lastOf y).1 ((lastOf y).2.2.1.size : Int)) := by simp only [mg, m1, m2, m3, m4, m5, decide_true, Bool.true_and]
                    rw [em] at ht
                    exact ht
                  · simp only [if_neg m5]
                    have em : mg y (a, gone, put, g) = false := by simp [mg, m5]
                    rw [em] at ht
                    exact ht
                · simp only [if_neg m4]
                  have em : mg y (a, gone, put, g) = false := by simp [mg, m4]
                  rw [em] at ht
                  exact ht
              · simp only [if_neg m3]
                have em : mg y (a, gone, put, g) = false := by simp [mg, m3]
                rw [em] at ht
                exact ht
            · simp only [if_neg m2]
              have em : mg y (a, gone, put, g) = false := by simp [mg, m2]
              rw [em] at ht
              exact ht
          · simp only [if_neg m1]
            have em : mg y (a, gone, put, g) = false := by
              have : y.length = 0 := by omega
              simp [mg, this]
            rw [em] at ht
            exact ht
        · have ht := implDo_tail b put t' gone y l (m : Int) a g 0 0 (bs []) (bs []) hyl (by omega) hys
          have hdo := do_ev t' (a, gone, put, g) hw hut (by show put.size ≤ _; omega)
          simp only [if_neg c6, if_pos j1, if_pos hml, hyq]
          refine Ev.bind (clone_ev y (by omega)) (Ev.bind hdo ?_)
          have hgn : n = 0 ↔ gone = bs [] := by
            constructor
            · intro h
              exact empty_of (by omega)
            · intro h
              rw [h] at hgs
              exact hgs.symm
          simp only [eyl, hlo]
          by_cases m1 : 0 < (y.length : Int)
          · have r1 : (0 : Int) ≤ (y.length : Int) - 1 := by omega
            have r2 : (y.length : Int) - 1 < (y.length : Int) := by omega
            simp only [if_pos r1, if_pos r2]
            by_cases m2 : 0 < g
            · simp only [if_pos m2]
              by_cases m3 : (lastOf y).2.2.2 = g
              · simp only [if_pos m3]
                by_cases m5 : gone = bs []
                · have n0 := hgn.2 m5
                  simp only [if_pos n0]
                  by_cases m4 : (lastOf y).2.1 = bs []
                  · simp only [if_pos m4]
                    have em : mg y (a, gone, put, g) = decide (a = addI .i64 (lastOf y).1 ((lastOf y).2.2.1.size : Int)) := by simp only [mg, m1, m2, m3, m4, m5, decide_true, Bool.true_and]
                    rw [em] at ht
                    exact ht
                  · simp only [if_neg m4]
                    have em : mg y (a, gone, put, g) = false := by simp [mg, m4]
                    rw [em] at ht
                    exact ht
                · have n0 : ¬ n = 0 := fun h => m5 (hgn.1 h)
                  simp only [if_neg n0]
                  have em : mg y (a, gone, put, g) = false := by simp [mg, m5]
                  rw [em] at ht
                  exact ht
              · simp only [if_neg m3]
                have em : mg y (a, gone, put, g) = false := by simp [mg, m3]
                rw [em] at ht
                exact ht
            · simp only [if_neg m2]
              have em : mg y (a, gone, put, g) = false := by simp [mg, m2]
              rw [em] at ht
              exact ht
          · have r1 : ¬ (0 : Int) ≤ (y.length : Int) - 1 := by omega
            simp only [if_neg r1]
            have em : mg y (a, gone, put, g) = false := by
              have : y.length = 0 := by omega
              simp [mg, this]
            rw [em] at ht
            exact ht
    · have cw' : (decide (0 ≤ a) && decide (a ≤ t'.size) && decide (0 ≤ n) && decide (n ≤ t'.size - a)) = false := by
        rw [Bool.eq_false_iff]
        intro h
        simp only [Bool.and_eq_true, decide_eq_true_eq] at h
        exact cw ⟨h.1.1.1, h.1.1.2, h.1.2, h.2⟩
      rw [cw'] at hwi
      simp only [W3] at eD
      refine ⟨(5, bs [], [], 0, bs []), hS _ (Ev.step eD (Ev.bind h3 (Ev.bind hwi ?_))), hI _ (Ev.congr eJ ?_), by simp⟩
      · simp only [W, W1]
        exact Ev.now _
      · by_cases i1 : a < 0
        · simp only [if_pos i1]; exact Ev.now _
        by_cases i2 : (t'.size : Int) < a
        · simp only [if_neg i1, if_pos i2]; exact Ev.now _
        by_cases i3 : n < 0
        · simp only [if_neg i1, if_neg i2, if_pos i3]; exact Ev.now _
        have ew2 : subI .i64 (t'.size : Int) a = t'.size - a := subI_i64 (by omega) (by omega)
        have i4 : (t'.size : Int) - a < n := by omega
        simp only [ew2, if_neg i1, if_neg i2, if_neg i3, if_pos i4]; exact Ev.now _
  · have ht : textsOf b l d = ([], true) := by unfold textsOf; rw [if_neg hv]
    rw [if_neg hv] at h1
    rw [ht] at h2
    refine ⟨(1, bs [], [], 0, bs []), Ev.step eS (Ev.bind h1 ?_), eI2 _ (Ev.bind h2 ?_), by simp⟩
    · have : ¬ ((1 : Int) = 0) := by omega
      simp only [if_neg this]
      exact Ev.now _
    · simp only [W1]
      exact Ev.now _
end Go.Proofs.Ytjgcpfdgneeleaa.UN
