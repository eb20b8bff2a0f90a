/- FnMarked: a drawn mark put into a drawn rope is found at its place, and all others still are. -/
import Derived.Test.YtfbhkkedmfbgbaaDoorPPutC
import Derived.Test.YtfbhkkedmfbgbaaDoorPMarksAt
import Derived.Test.YtfbhkkedmfbgbaaDoorPDrawAny
namespace Go.Proofs.YtfbhkkedmfbgbaaDoor.PM
open Go.Eng Go.RowKit Go.Sort
set_option linter.unusedVariables false
set_option linter.unusedSimpArgs false
theorem drawPut (code : List Int) (hl : code.length ≤ 1048576) : ∃ (r : List T_siiii) (ms : List T_sib) (m : T_sib), Ev (fun k => spec_DrawPutMark k code) ((r, ms), m) ∧ Fits r ms ∧ m.1.size ≤ 1048576 := by
  obtain ⟨mm, z, e1, hs⟩ := source_ev code hl
  have e := fun k => spec_DrawPutMark.eq code k
  simp only [W, W1, W2, W3] at e
  obtain ⟨v, a1, m1, h1, ha1, hv⟩ := anyRope_ev (m := mm) hs
  have ht := hv.t
  obtain ⟨v2, a2, m2, h2, ha2, hq2⟩ := pick_ev (bs [97] :: bs [98] :: bs [98, 98] :: bs [122] :: bs [] :: bs [65] :: []) (by simp) (by simp) (m := m1) (hs.at ha1)
  have hadd : addI .i64 ((textOf v.1).size : Int) 3 = ((textOf v.1).size : Int) + 3 := addI_i64 (by omega) (by omega)
  obtain ⟨v3, a3, m3, h3, ha3, hq3⟩ := n_ev (((textOf v.1).size : Int) + 3) (by omega) (m := m2) (hs.at ha2)
  obtain ⟨v4, a4, m4, h4, ha4, _⟩ := one_ev 2 (by omega) (m := m3) (hs.at ha3)
  refine ⟨v.1, v.2, (v2, subI .i64 v3 1, v4), Ev.step e (Ev.bind e1 (Ev.bind h1 (Ev.bind h2 (Ev.bind (specText v.1 hv.l1 (by omega)) ?_)))), hv.fits, ?_⟩
  · simp only [hadd]
    exact Ev.bind h3 (Ev.bind h4 (Ev.now _))
  · show v2.size ≤ 1048576
    simp only [List.mem_cons, List.not_mem_nil, or_false] at hq2
    rcases hq2 with rfl | rfl | rfl | rfl | rfl | rfl <;> decide
theorem mFrom_of (n : Nat) : ∀ (l : List T_sib) (p : Option ByteArray), (∀ m ∈ l, mOk n m = true) → l.Pairwise ltM → (∀ q, p = some q → ∀ x ∈ l, less q x.1 = true) → mFrom n p l = true
  | [], _, _, _, _ => by cases ‹Option ByteArray› <;> rfl
  | m :: l, p, h1, h2, h3 => by
    obtain ⟨p1, p2⟩ := List.pairwise_cons.1 h2
    have ih := mFrom_of n l (some m.1) (fun x hx => h1 x (List.mem_cons_of_mem _ hx)) p2 (fun q hq x hx => by obtain rfl := Option.some.inj hq; exact p1 x hx)
    cases p with
    | none => simp only [mFrom, Bool.and_eq_true]; exact ⟨h1 m List.mem_cons_self, ih⟩
    | some q => simp only [mFrom, Bool.and_eq_true]; exact ⟨h1 m List.mem_cons_self, h3 q rfl m List.mem_cons_self, ih⟩
theorem mFrom_ok (n : Nat) : ∀ (l : List T_sib) (p : Option ByteArray), mFrom n p l = true → ∀ m ∈ l, mOk n m = true
  | [], _, _, m, hm => by cases hm
  | x :: l, none, h, m, hm => by
    simp only [mFrom, Bool.and_eq_true] at h
    rcases List.mem_cons.1 hm with rfl | hm
    · exact h.1
    · exact mFrom_ok n l _ h.2 m hm
  | x :: l, some q, h, m, hm => by
    simp only [mFrom, Bool.and_eq_true] at h
    rcases List.mem_cons.1 hm with rfl | hm
    · exact h.1
    · exact mFrom_ok n l _ h.2.2 m hm
theorem good_put {r : List T_siiii} {ms : List T_sib} {m : T_sib} (h : good r ms = true) (hm : mOk (textOf r).size m = true) (hl : (bare m ms).length ≠ 100) : good r (put m ms) = true := by
  obtain ⟨ha, hn, hf⟩ := good_asc h
  simp only [good, Bool.and_eq_true, decide_eq_true_eq] at h ⊢
  have hb := bare_len m ms
  refine ⟨h.1, by rw [put_len]; omega, h.2.2.1, mFrom_of _ _ _ (fun x hx => ?_) (put_asc m ms ha) (fun q hq => by cases hq)⟩
  rcases mem_put hx with rfl | hx
  · exact hm
  · exact mFrom_ok _ _ _ hf x hx
theorem self_put (m : T_sib) (l : List T_sib) : m ∈ put m l := (put_perm m l).mem_iff.2 (by simp)
theorem lw_loop (l : List ByteArray) (hl : l.length ≤ 1048576) : ∀ (suf pre : List ByteArray), l = pre ++ suf → Ev2 (fun k j => laws_lwTexts_L4 k j l l (pre.length : Int)) true
  | [], pre, hs => by
    have e := fun k j => laws_lwTexts_L4.eq l l (pre.length : Int) k j
    rw [List.append_nil] at hs
    subst hs
    simp only [W, W1, W2, if_neg (Int.lt_irrefl _)] at e
    exact Ev2.ret e
  | x :: suf, pre, hs => by
    have e := fun k j => laws_lwTexts_L4.eq l l (pre.length : Int) k j
    have hlen : pre.length + 1 ≤ l.length := by rw [hs]; simp
    simp only [W, W1, W2, if_pos (show (pre.length : Int) < (l.length : Int) by omega), if_pos (nat_ge _), next_i pre x (by omega), if_true] at e
    exact Ev2.step e (lw_loop l hl suf (pre ++ [x]) (by rw [hs]; simp))
theorem lw_ev (l : List ByteArray) (hl : l.length ≤ 1048576) : Ev (fun k => laws_lwTexts k l l) true := by
  have e := fun k => laws_lwTexts.eq l l k
  simp only [W, W1, W2, if_true] at e
  exact Ev.step e (lw_loop l hl l [] rfl).ev
theorem found_loop (m : ByteArray) (m1 : Int) (m2 : Bool) (o : Int) (x : List T_siiii) (x1 : List T_sib) (wo : Int) (x2 : List T_siiii) (x3 : List T_sib) (al l : List ByteArray) (hl : l.length ≤ 1048576) (hend : Ev2 (fun k j => laws_FnMarked_L12 k j true (l.length : Int) m m1 m2 o x x1 wo x2 x3 l al) true) :
    ∀ (suf pre : List ByteArray) (fd : Bool), l = pre ++ suf → (fd = true ∨ m ∈ suf) → Ev2 (fun k j => laws_FnMarked_L12 k j fd (pre.length : Int) m m1 m2 o x x1 wo x2 x3 l al) true
  | [], pre, fd, hs, hm => by
    rcases hm with rfl | hm
    · rw [List.append_nil] at hs
      subst hs
      exact hend
    · cases hm
  | y :: suf, pre, fd, hs, hm => by
    have e := fun k j => laws_FnMarked_L12.eq fd (pre.length : Int) m m1 m2 o x x1 wo x2 x3 l al k j
    have hlen : pre.length + 1 ≤ l.length := by rw [hs]; simp
    have hr : rd l (pre.length : Int) (bs []) = y := by rw [hs]; exact rd_mid pre suf y _
    simp only [W, W1, W2, W3, hr, if_pos (show (pre.length : Int) < (l.length : Int) by omega), if_pos (nat_ge _), next_i pre y (by omega)] at e
    cases fd with
    | true =>
      simp only [W1] at e
      exact Ev2.step e (found_loop m m1 m2 o x x1 wo x2 x3 al l hl hend suf (pre ++ [y]) true (by rw [hs]; simp) (.inl rfl))
    | false =>
      simp only [W1] at e
      refine Ev2.step e (found_loop m m1 m2 o x x1 wo x2 x3 al l hl hend suf (pre ++ [y]) (decide (y = m)) (by rw [hs]; simp) ?_)
      rcases hm with hm | hm
      · cases hm
      · rcases List.mem_cons.1 hm with rfl | hm
        · exact .inl (by simp)
        · exact .inr hm
theorem pure_FnMarked (code : List Int) (h : CT.good (.row e_y) code) : ∃ k, laws_FnMarked k code = some true := by
  refine Ev.has (r := true) ?_
  have e := fun k => laws_FnMarked.eq code k
  simp only [W, W1, W2, W3] at e
  refine Ev.step e ?_
  by_cases c : (1048576 : Int) < (code.length : Int)
  · simp only [if_pos c]
    exact Ev.now _
  simp only [if_neg c]
  obtain ⟨r, ms, m, hd, hf, hm⟩ := drawPut code (by omega)
  refine Ev.bind hd (Ev.bind (implPut hf m hm) (Ev.bind (specPutM hf m hm) ?_))
  simp only [if_true]
  unfold putOut
  by_cases hg : good r ms = true ∧ mOk (textOf r).size m = true
  · simp only [if_pos hg]
    by_cases c3 : (bare m ms).length = 100
    · simp only [if_pos c3]
      exact Ev.of fun k => by rw [if_neg (by decide)]; rfl
    simp only [if_neg c3, if_true]
    have hgp := good_put hg.1 hg.2 c3
    obtain ⟨_, hn, _⟩ := good_asc hgp
    have hts := good_size hg.1
    have hf2 : Fits r (put m ms) := ⟨hf.l1, by omega, hf.t, fun q hq => by
      rcases mem_put hq with rfl | hq
      · exact hm
      · exact hf.m q hq⟩
    obtain ⟨at', a1, a2, a3, _⟩ := bothS hf2 m.2.1 m.2.1
    obtain ⟨al, b1, b2, b3, b4⟩ := bothS hf2 0 65536
    refine Ev.bind a3 (Ev.bind b3 ?_)
    obtain ⟨s, s1, rfl⟩ := a2 hgp
    obtain ⟨s', s2, hal⟩ := b2 hgp
    have hin : m.1 ∈ (s.filter (inR m.2.1 m.2.1)).map (·.1) := List.mem_map.2 ⟨m, List.mem_filter.2 ⟨s1.mem_iff.1 (self_put m ms), by simp [inR]⟩, rfl⟩
    have hall : al.length = (put m ms).length := by
      rw [hal, List.length_map, List.filter_eq_self.2 (fun q hq => ?_), s2.length_eq]
      have hq' := mFrom_ok _ _ _ (good_asc hgp).2.2 q (s2.mem_iff.2 hq)
      simp only [mOk, Bool.and_eq_true, decide_eq_true_eq] at hq'
      simp only [inR, decide_eq_true_eq]
      omega
    have hend : Ev2 (fun k j => laws_FnMarked_L12 k j true ((((s.filter (inR m.2.1 m.2.1)).map (·.1)).length : Nat) : Int) m.1 m.2.1 m.2.2 0 r (put m ms) 0 r (put m ms) ((s.filter (inR m.2.1 m.2.1)).map (·.1)) al) true := by
      have e2 := fun k j => laws_FnMarked_L12.eq true ((((s.filter (inR m.2.1 m.2.1)).map (·.1)).length : Nat) : Int) m.1 m.2.1 m.2.2 0 r (put m ms) 0 r (put m ms) ((s.filter (inR m.2.1 m.2.1)).map (·.1)) al k j
      simp only [W, W1, W2, W3, if_neg (Int.lt_irrefl _)] at e2
      refine Ev2.step e2 (Ev.two (Ev.bind b4 (Ev.bind (lw_ev al b1) ?_)))
      simp only [W1, if_pos (show (al.length : Int) = ((put m ms).length : Int) by omega)]
      refine Ev.bind (implFault hf2) ?_
      rcases fault_cases r (put m ms) with ⟨_, f⟩ | ⟨g, _⟩
      · rw [f]; exact Ev.now _
      · rw [hgp] at g; cases g
    exact (found_loop m.1 m.2.1 m.2.2 0 r (put m ms) 0 r (put m ms) al _ a1 hend _ [] false rfl (.inr hin)).ev
  · simp only [if_neg hg]
    exact Ev.of fun k => by rw [if_neg (by decide)]; rfl
end Go.Proofs.YtfbhkkedmfbgbaaDoor.PM
