/- Points in a form: taken apart, put in order, put together: by both sides. -/
import Derived.Test.YtmmmlfndnoeedaaDoorPPair
import Derived.Test.YtmmmlfndnoeedaaDoorPOrd
import Derived.Test.YtmmmlfndnoeedaaDoorPSortI
namespace Go.Proofs.YtmmmlfndnoeedaaDoor.IX
open Go.Eng Go.RowKit
set_option linter.unusedVariables false
set_option linter.unusedSimpArgs false
theorem ofst (A L B : List Int) (x : Int) (i : Nat) (h : A.length = i) : rd (A ++ x :: B) (i : Int) 0 = x := by subst h; exact rd_mid _ _ _ _
/-! ### in order: the program -/
def Zh (R : List Int) : Prop := R = [] ∨ ∃ c r, R = c :: r ∧ mcl c = 0
theorem scan_ev (form : Int) (A : List Int) : ∀ (R u1 : List Int), (A ++ (u1 ++ R)).length ≤ 134217728 → (∀ x ∈ u1, 0 < mcl x) →
    ∃ u s R', u1 ++ R = u ++ R' ∧ u1.length ≤ u.length ∧ (∀ x ∈ u, 0 < mcl x) ∧ Zh R' ∧ Same mcl u s ∧ Srt mcl s ∧
      ∀ r, Ev2 (fun k j => impl_normal_L8 k j form ((max (A.length + u.length) (A.length + 1) : Nat) : Int) (A ++ (s ++ R'))) r →
        Ev3 (fun k j p => impl_normal_L10 k j p form (A.length : Int) ((A.length + u1.length : Nat) : Int) (A ++ (u1 ++ R))) r
  | R, u1, hl, hu => by
    have hl' := hl
    simp only [List.length_append] at hl'
    obtain ⟨s, s1, s2, s3⟩ := sortI A u1 R hl
    have hmax : maxI ((A.length + u1.length : Nat) : Int) (addI .i64 (A.length : Int) 1) = ((max (A.length + u1.length) (A.length + 1) : Nat) : Int) := by
      rw [maxI_eq, addI_i64 (by omega) (by omega)]
      split <;> omega
    have stop : ∀ r, Ev2 (fun k j => impl_normal_L8 k j form ((max (A.length + u1.length) (A.length + 1) : Nat) : Int) (A ++ (s ++ R))) r →
        Ev3 (fun k j p => (slices_SortStableFunc_Sint64_int64 k (A.length : Int) ((A.length + u1.length : Nat) : Int) (A ++ (u1 ++ R))).bind fun r0 => impl_normal_L8 k j form (maxI ((A.length + u1.length : Nat) : Int) (addI .i64 (A.length : Int) 1)) r0.2) r := fun r hr => by
      refine Ev3.bind s3 ?_
      rw [hmax]
      exact hr.three
    have e := fun k j p => impl_normal_L10.eq form (A.length : Int) ((A.length + u1.length : Nat) : Int) (A ++ (u1 ++ R)) k j p
    simp only [W, W1, W2, W3, if_pos (nat_ge A.length), if_pos (show (A.length : Int) ≤ ((A.length + u1.length : Nat) : Int) by omega), if_pos (nat_ge (A.length + u1.length)),
      if_pos (show ((A.length + u1.length : Nat) : Int) ≤ (((A ++ (u1 ++ R)).length : Nat) : Int) by simp only [List.length_append]; omega)] at e
    cases R with
    | nil =>
      simp only [if_neg (show ¬ ((A.length + u1.length : Nat) : Int) < (((A ++ (u1 ++ [])).length : Nat) : Int) by simp)] at e
      exact ⟨u1, s, [], rfl, Nat.le_refl _, hu, .inl rfl, s1, s2, fun r hr => Ev3.step e (stop r hr)⟩
    | cons c R =>
      have hr : rd (A ++ (u1 ++ c :: R)) ((A.length + u1.length : Nat) : Int) 0 = c := by
        have := rd_mid (A ++ u1) R c 0
        rw [List.length_append, List.append_assoc] at this
        exact this
      simp only [if_pos (show ((A.length + u1.length : Nat) : Int) < (((A ++ (u1 ++ c :: R)).length : Nat) : Int) by simp only [List.length_append, List.length_cons]; omega), hr] at e
      by_cases g : mcl c = 0
      · refine ⟨u1, s, c :: R, rfl, Nat.le_refl _, hu, .inr ⟨c, R, rfl, g⟩, s1, s2, fun r hr' => Ev3.step e (Ev3.bind (implClass c) ?_)⟩
        simp only [if_pos g]
        exact stop r hr'
      · have hc := mcl_nn c
        obtain ⟨u, s', R', h1, h2, h3, h4, h5, h6, h7⟩ := scan_ev form A R (u1 ++ [c]) (by rw [← List.append_assoc] at hl; simpa using hl) (fun x hx => by
          rcases List.mem_append.1 hx with h | h
          · exact hu x h
          · rw [List.mem_singleton.1 h]; omega)
        refine ⟨u, s', R', by rw [← h1]; simp, by rw [List.length_append] at h2; omega, h3, h4, h5, h6, fun r hr' => Ev3.step e (Ev3.bind (implClass c) ?_)⟩
        simp only [if_neg g]
        have ea : addI .i64 ((A.length + u1.length : Nat) : Int) 1 = ((A.length + (u1 ++ [c]).length : Nat) : Int) := by
          simp only [List.length_append, List.length_cons] at hl'
          rw [addI_i64 (by omega) (by omega)]; simp; omega
        rw [ea]
        have := h7 r hr'
        simpa using this
/-- what comes behind the order -/
noncomputable def finI (k : Nat) (form : Int) (o : List Int) : Option (List Int) := if form = 1 then some o else if form = 3 then some o else impl_normal_L20 k k (-1) 0 (o.length : Int) 0 [] o
set_option maxRecDepth 20000 in
theorem implOrd (form : Int) {r : List Int} : ∀ (t : Nat) (Q acc : List Int), Q.length ≤ t → acc.length + Q.length ≤ 134217728 → (hd0 (kf := mcl) acc ∨ Zh Q) →
    Ev (fun k => finI k form (bubs mcl acc Q).reverse) r → Ev2 (fun k j => impl_normal_L8 k j form (acc.length : Int) (acc.reverse ++ Q)) r
  | t, [], acc, ht, hl, hd, hf => by
    have e := fun k j => impl_normal_L8.eq form (acc.length : Int) (acc.reverse ++ []) k j
    simp only [W, W1, W2, List.append_nil, List.length_reverse, if_neg (Int.lt_irrefl _)] at e
    have hf' := hf
    unfold finI at hf'
    simp only [bubs, List.length_reverse] at hf'
    simp only [List.append_nil]
    exact Ev2.step e hf'.two
  | t, c :: Q, acc, ht, hl, hd, hf => by
    cases t with
    | zero => simp at ht
    | succ t =>
      simp only [List.length_cons] at ht hl
      have e := fun k j => impl_normal_L8.eq form (acc.length : Int) (acc.reverse ++ c :: Q) k j
      simp only [W, W1, W2, if_pos (show (acc.length : Int) < (((acc.reverse ++ c :: Q).length : Nat) : Int) by simp; omega)] at e
      obtain ⟨u, s, R', h1, h2, h3, h4, h5, h6, h7⟩ := scan_ev form acc.reverse (c :: Q) [] (by simp; omega) (fun x hx => by cases hx)
      rw [List.nil_append] at h1
      have hul := congrArg List.length h1
      simp only [List.length_append, List.length_cons] at hul
      have hsl := h5.1
      refine Ev2.step e (Ev3.two (g := fun k j p => impl_normal_L10 k j p form (acc.length : Int) (acc.length : Int) (acc.reverse ++ c :: Q)) ?_)
      have h8 := h7 r
      simp only [List.length_nil, Nat.add_zero, List.nil_append, List.length_reverse] at h8
      refine h8 ?_
      cases u with
      | nil =>
        have hs : s = [] := List.length_eq_zero_iff.1 (by rw [← hsl]; rfl)
        subst hs
        rw [List.nil_append] at h1
        subst h1
        have hc0 : mcl c = 0 := by
          rcases h4 with h | ⟨c', r', h, h'⟩
          · cases h
          · obtain ⟨rfl, _⟩ := List.cons.inj h; exact h'
        rw [show max (acc.length + ([] : List Int).length) (acc.length + 1) = (c :: acc).length by simp]
        have := implOrd form t Q (c :: acc) (by omega) (by simp; omega) (.inl fun x r' h => by obtain ⟨rfl, _⟩ := List.cons.inj h; exact hc0) (by
          have : bubs mcl acc (c :: Q) = bubs mcl (c :: acc) Q := by show bubs mcl (bub mcl c acc) Q = _; rw [bub_zero hc0]
          rw [← this]; exact hf)
        simpa using this
      | cons x u =>
        have hx : x = c := by have := List.cons.inj h1; exact this.1.symm
        have hd' : hd0 (kf := mcl) acc := by
          rcases hd with h | h
          · exact h
          · rcases h with h | ⟨c', r', h, h'⟩
            · cases h
            · obtain ⟨rfl, _⟩ := List.cons.inj h
              have := h3 x List.mem_cons_self
              rw [hx] at this; omega
        have hb := bubs_srt h3 hd' h5 h6
        have hlen : max (acc.length + (x :: u).length) (acc.length + 1) = (s.reverse ++ acc).length := by
          simp only [List.length_append, List.length_reverse, List.length_cons] at hsl ⊢
          omega
        rw [hlen]
        have := implOrd form t R' (s.reverse ++ acc) (by simp only [List.length_cons] at hul; omega) (by simp only [List.length_append, List.length_reverse, List.length_cons] at hsl hul ⊢; omega) (.inr h4) (by
          have e2 : bubs mcl acc (c :: Q) = bubs mcl (s.reverse ++ acc) R' := by rw [h1, bubs_app, hb]
          rw [← e2]; exact hf)
        simpa using this
/-! ### in order: the reference -/
set_option maxRecDepth 20000 in
theorem specBub (i : Nat) (hi : i ≤ 134217728) {r : List Int} (c : Int) (hc : Pt c) : ∀ (rest m Q : List Int), (∀ x ∈ rest, Pt x) → (rest.reverse ++ (c :: (m.reverse ++ Q))).length ≤ 134217728 → mcl c ≠ 0 →
    Ev2 (fun k j => spec_l05Ordered_L3 k j ((i + 1 : Nat) : Int) ((m ++ bub mcl c rest).reverse ++ Q)) r →
    Ev3 (fun k j p => spec_l05Ordered_L7 k j p (i : Int) (rest.length : Int) (rest.reverse ++ (c :: (m.reverse ++ Q)))) r
  | [], m, Q, hp, hl, h0, hr => by
    have e := fun k j p => spec_l05Ordered_L7.eq (i : Int) ((0 : Nat) : Int) (c :: (m.reverse ++ Q)) k j p
    have ea : addI .i64 (i : Int) 1 = ((i + 1 : Nat) : Int) := by rw [addI_i64 (by omega) (by omega)]; omega
    simp only [W, W1, ea, if_neg (show ¬ (0 : Int) < ((0 : Nat) : Int) by omega)] at e
    refine Ev3.step e ?_
    have : (m ++ bub mcl c []).reverse ++ Q = c :: (m.reverse ++ Q) := by simp [bub]
    rw [this] at hr
    exact hr.three
  | x :: rest, m, Q, hp, hl, h0, hr => by
    simp only [List.length_append, List.length_reverse, List.length_cons] at hl
    have ea : addI .i64 (i : Int) 1 = ((i + 1 : Nat) : Int) := by rw [addI_i64 (by omega) (by omega)]; omega
    have es : subI .i64 ((rest.length + 1 : Nat) : Int) 1 = (rest.length : Int) := by rw [subI_i64 (by omega) (by omega)]; omega
    have hd : (x :: rest).reverse ++ (c :: (m.reverse ++ Q)) = rest.reverse ++ x :: ([] ++ c :: (m.reverse ++ Q)) := by simp
    have r0 := St.rd_lo rest.reverse [] (m.reverse ++ Q) x c 0
    have r1 := St.rd_hi rest.reverse [] (m.reverse ++ Q) x c 0
    have sw := St.sw_hi rest.reverse [] (m.reverse ++ Q) x c
    simp only [List.length_reverse, List.length_nil, Nat.add_zero] at r0 r1 sw
    rw [hd]
    have hlen : (rest.reverse ++ x :: ([] ++ c :: (m.reverse ++ Q))).length = rest.length + 1 + (1 + (m.length + Q.length)) := by simp; omega
    have hx := hp x List.mem_cons_self
    have e := fun k j p => spec_l05Ordered_L7.eq (i : Int) (((x :: rest).length : Nat) : Int) (rest.reverse ++ x :: ([] ++ c :: (m.reverse ++ Q))) k j p
    simp only [W, W1, W2, W3, es, ea, List.length_cons, r0, r1, Int.toNat_natCast, sw, List.length_set, hlen, if_pos (show (0 : Int) < ((rest.length + 1 : Nat) : Int) by omega), if_pos (nat_ge rest.length), if_pos (nat_ge (rest.length + 1)),
      if_pos (show (rest.length : Int) < ((rest.length + 1 + (1 + (m.length + Q.length)) : Nat) : Int) by omega), if_pos (show ((rest.length + 1 : Nat) : Int) < ((rest.length + 1 + (1 + (m.length + Q.length)) : Nat) : Int) by omega)] at e
    refine Ev3.step e (Ev3.bind (specClass x hx.1 hx.2) (Ev3.bind (specClass c hc.1 hc.2) ?_))
    by_cases g : mcl c < mcl x
    · simp only [if_pos g]
      have := specBub i hi c hc rest (m ++ [x]) Q (fun y hy => hp y (List.mem_cons_of_mem _ hy)) (by simp; omega) h0 (by
        have : m ++ bub mcl c (x :: rest) = m ++ [x] ++ bub mcl c rest := by
          show m ++ (if mcl c ≠ 0 ∧ mcl c < mcl x then x :: bub mcl c rest else c :: x :: rest) = _
          rw [if_pos ⟨h0, g⟩]; simp
        rw [← this]; exact hr)
      simpa using this
    · simp only [if_neg g]
      have : (m ++ bub mcl c (x :: rest)).reverse ++ Q = rest.reverse ++ x :: ([] ++ c :: (m.reverse ++ Q)) := by
        show (m ++ (if mcl c ≠ 0 ∧ mcl c < mcl x then x :: bub mcl c rest else c :: x :: rest)).reverse ++ Q = _
        rw [if_neg fun h => g h.2]; simp
      rw [this] at hr
      exact hr.three
theorem bub_mem {c : Int} : ∀ {acc : List Int}, (bub mcl c acc).length = acc.length + 1 ∧ ∀ x ∈ bub mcl c acc, x = c ∨ x ∈ acc
  | [] => ⟨rfl, fun x hx => .inl (List.mem_singleton.1 hx)⟩
  | y :: acc => by
    obtain ⟨h1, h2⟩ := @bub_mem c acc
    show (if mcl c ≠ 0 ∧ mcl c < mcl y then y :: bub mcl c acc else c :: y :: acc).length = _ ∧ ∀ x ∈ (if mcl c ≠ 0 ∧ mcl c < mcl y then y :: bub mcl c acc else c :: y :: acc), _
    split
    · refine ⟨by simp [h1], fun x hx => ?_⟩
      rcases List.mem_cons.1 hx with h | h
      · exact .inr (by rw [h]; exact List.mem_cons_self)
      · rcases h2 x h with h | h
        · exact .inl h
        · exact .inr (List.mem_cons_of_mem _ h)
    · refine ⟨by simp, fun x hx => ?_⟩
      rcases List.mem_cons.1 hx with h | h
      · exact .inl h
      · exact .inr h
theorem bubs_mem : ∀ (Q : List Int) {acc : List Int}, (bubs mcl acc Q).length = acc.length + Q.length ∧ ∀ x ∈ bubs mcl acc Q, x ∈ acc ∨ x ∈ Q
  | [], acc => ⟨rfl, fun x hx => .inl hx⟩
  | c :: Q, acc => by
    obtain ⟨h1, h2⟩ := bubs_mem Q (acc := bub mcl c acc)
    obtain ⟨g1, g2⟩ := @bub_mem c acc
    refine ⟨by show (bubs mcl (bub mcl c acc) Q).length = _; rw [h1, g1, List.length_cons]; omega, fun x hx => ?_⟩
    rcases h2 x hx with h | h
    · rcases g2 x h with h | h
      · exact .inr (by rw [h]; exact List.mem_cons_self)
      · exact .inl h
    · exact .inr (List.mem_cons_of_mem _ h)
theorem specOrd : ∀ (Q acc : List Int), acc.length + Q.length ≤ 134217728 → (∀ x ∈ acc, Pt x) → (∀ x ∈ Q, Pt x) → Ev2 (fun k j => spec_l05Ordered_L3 k j (acc.length : Int) (acc.reverse ++ Q)) (bubs mcl acc Q).reverse
  | [], acc, hl, ha, hq => by
    refine Ev2.ret fun k j => ?_
    rw [spec_l05Ordered_L3.eq]
    simp only [W, W1, W2, List.append_nil, List.length_reverse, if_neg (Int.lt_irrefl _)]
    rfl
  | c :: Q, acc, hl, ha, hq => by
    simp only [List.length_cons] at hl
    have hc := hq c List.mem_cons_self
    have hr : rd (acc.reverse ++ c :: Q) (acc.length : Int) 0 = c := ofst acc.reverse [] Q c acc.length (by simp)
    have ea : addI .i64 (acc.length : Int) 1 = ((acc.length + 1 : Nat) : Int) := by rw [addI_i64 (by omega) (by omega)]; omega
    have e := fun k j => spec_l05Ordered_L3.eq (acc.length : Int) (acc.reverse ++ c :: Q) k j
    simp only [W, W1, W2, W3, hr, ea, if_pos (nat_ge acc.length), if_pos (show (acc.length : Int) < (((acc.reverse ++ c :: Q).length : Nat) : Int) by simp; omega)] at e
    refine Ev2.step e (Ev2.bind (specClass c hc.1 hc.2) ?_)
    obtain ⟨g1, g2⟩ := @bub_mem c acc
    have ih := specOrd Q (bub mcl c acc) (by omega) (fun x hx => by
      rcases g2 x hx with h | h
      · rw [h]; exact hc
      · exact ha x h) (fun x hx => hq x (List.mem_cons_of_mem _ hx))
    by_cases g : mcl c = 0
    · simp only [if_pos g]
      rw [bub_zero g] at ih
      have : bubs mcl acc (c :: Q) = bubs mcl (c :: acc) Q := by show bubs mcl (bub mcl c acc) Q = _; rw [bub_zero g]
      rw [this]
      simpa using ih
    · simp only [if_neg g]
      refine Ev3.two (g := fun k j p => spec_l05Ordered_L7 k j p (acc.length : Int) (acc.length : Int) (acc.reverse ++ c :: Q)) ?_
      have := specBub acc.length (by omega) (r := (bubs mcl acc (c :: Q)).reverse) c hc acc [] Q ha (by simp; omega) g (by
        rw [List.nil_append, show ((acc.length + 1 : Nat) : Int) = ((bub mcl c acc).length : Int) by rw [g1]]
        exact ih)
      simpa using this
/-! ### put together -/
def cps : List Int → Int → Int → List Int → List Int
  | [], _, _, c => c
  | p :: l, st, last, c => if 0 ≤ st ∧ ((c.length : Int) - 1 = st ∨ (last ≠ 0 ∧ last < mcl p)) ∧ 0 ≤ pr (rd c st 0) p then cps l st last (c.set st.toNat (pr (rd c st 0) p)) else cps l (if mcl p = 0 then (c.length : Int) else st) (mcl p) (c ++ [p])
theorem rd_memI {c : List Int} {i : Int} (h0 : 0 ≤ i) (h1 : i < (c.length : Int)) : rd c i 0 ∈ c := by
  obtain ⟨n, rfl⟩ : ∃ n : Nat, i = (n : Int) := ⟨i.toNat, by omega⟩
  rw [rd_nat c n 0 (by omega)]
  exact List.getElem_mem _
theorem set_pt {c : List Int} {i : Nat} {v : Int} (hc : ∀ x ∈ c, Pt x) (hv : Pt v) : ∀ x ∈ c.set i v, Pt x := fun x hx => by
  rcases List.mem_or_eq_of_mem_set hx with h | h
  · exact hc x h
  · rw [h]; exact hv
theorem implCps (l : List Int) (hl : l.length ≤ 134217728) (hp : ∀ x ∈ l, Pt x) : ∀ (suf pre c : List Int) (st last : Int), l = pre ++ suf → (st = -1 ∨ (0 ≤ st ∧ st < (c.length : Int))) → c.length ≤ pre.length → (∀ x ∈ c, Pt x) →
    Ev2 (fun k j => impl_normal_L20 k j st last (l.length : Int) (pre.length : Int) c l) (cps suf st last c)
  | [], pre, c, st, last, hs, h1, h2, h3 => by
    refine Ev2.ret fun k j => ?_
    rw [impl_normal_L20.eq, hs]
    simp only [W, W1]
    rw [if_neg (end_nlt pre)]
    rfl
  | p :: suf, pre, c, st, last, hs, h1, h2, h3 => by
    have hle : pre.length + 1 ≤ l.length := by rw [hs]; simp
    have hr : rd l (pre.length : Int) 0 = p := by rw [hs]; exact rd_mid pre suf p _
    have hpp := hp p (by rw [hs]; simp)
    have ih := fun c st last => implCps l hl hp suf (pre ++ [p]) c st last (by rw [hs]; simp)
    have e := fun k j => impl_normal_L20.eq st last (l.length : Int) (pre.length : Int) c l k j
    have esub : subI .i64 (c.length : Int) 1 = (c.length : Int) - 1 := subI_i64 (by omega) (by omega)
    simp only [W, W1, W2, W3, hr, esub, if_pos (nat_ge _), if_pos (show (pre.length : Int) < (l.length : Int) by omega), next_i pre p (by omega)] at e
    have J : Ev2 (fun k j => impl_normal_J29 k j st p (mcl p) (l.length : Int) (pre.length : Int) c l) (cps suf (if mcl p = 0 then (c.length : Int) else st) (mcl p) (c ++ [p])) := by
      have e2 := fun k j => impl_normal_J29.eq st p (mcl p) (l.length : Int) (pre.length : Int) c l k j
      have es2 : subI .i64 (((c ++ [p]).length : Nat) : Int) 1 = (c.length : Int) := by rw [List.length_append, List.length_singleton, subI_i64 (by omega) (by omega)]; omega
      simp only [W, W1, W2, es2, List.length_singleton, if_pos (show (((c.length : Nat) : Int) + ((1 : Nat) : Int)) * 8 < 140737488355328 by omega), next_i pre p (by omega)] at e2
      have h3' : ∀ x ∈ c ++ [p], Pt x := fun x hx => by
        rcases List.mem_append.1 hx with h | h
        · exact h3 x h
        · rw [List.mem_singleton.1 h]; exact hpp
      refine Ev2.congr e2 ?_
      by_cases g : mcl p = 0
      · simp only [if_pos g]
        exact ih _ _ _ (.inr ⟨by omega, by simp; omega⟩) (by simp; omega) h3'
      · simp only [if_neg g]
        exact ih _ _ _ (by rcases h1 with h | ⟨h, h'⟩; exact .inl h; exact .inr ⟨h, by simp; omega⟩) (by simp; omega) h3'
    have T : 0 ≤ st → st < (c.length : Int) → ((c.length : Int) - 1 = st ∨ (last ≠ 0 ∧ last < mcl p)) → Ev2 (fun k j => (impl_Compose k (rd c st 0) p).bind fun r1 => if 0 ≤ r1 then impl_normal_L20 k j st last (l.length : Int) (((pre ++ [p]).length : Nat) : Int) (c.set st.toNat r1) l else impl_normal_J29 k j st p (mcl p) (l.length : Int) (pre.length : Int) c l) (cps (p :: suf) st last c) := fun g1 g2 g3 => by
      refine Ev2.bind (implPair _ _ (h3 _ (rd_memI g1 g2)) hpp) ?_
      unfold cps
      by_cases g : 0 ≤ pr (rd c st 0) p
      · simp only [if_pos g]
        rw [if_pos ⟨g1, g3, g⟩]
        exact ih _ _ _ (.inr ⟨g1, by rw [List.length_set]; exact g2⟩) (by rw [List.length_set]; simp; omega) (set_pt h3 (pr_pt _ _ g))
      · simp only [if_neg g]
        rw [if_neg (fun h => g h.2.2)]
        exact J
    have F : ¬ (0 ≤ st ∧ ((c.length : Int) - 1 = st ∨ (last ≠ 0 ∧ last < mcl p))) → Ev2 (fun k j => impl_normal_J29 k j st p (mcl p) (l.length : Int) (pre.length : Int) c l) (cps (p :: suf) st last c) := fun g => by
      unfold cps
      rw [if_neg (fun h => g ⟨h.1, h.2.1⟩)]
      exact J
    refine Ev2.step e (Ev2.bind (implClass p) ?_)
    by_cases g1 : 0 ≤ st
    · have g2 : st < (c.length : Int) := by rcases h1 with h | h <;> omega
      simp only [if_pos g1, if_pos g2]
      by_cases g3 : (c.length : Int) - 1 = st
      · simp only [if_pos g3]
        exact T g1 g2 (.inl g3)
      · simp only [if_neg g3]
        by_cases g4 : last = 0
        · simp only [if_pos g4]
          exact F (fun h => by rcases h.2 with h | h; exact g3 h; exact h.1 g4)
        · simp only [if_neg g4]
          by_cases g5 : last < mcl p
          · simp only [if_pos g5]
            exact T g1 g2 (.inr ⟨g4, g5⟩)
          · simp only [if_neg g5]
            exact F (fun h => by rcases h.2 with h | h; exact g3 h; exact g5 h.2)
    · simp only [if_neg g1]
      exact F (fun h => g1 h.1)
/-- the reference's look at what stands behind the starter -/
theorem specOpen (l : List Int) (st : Nat) (i c cl : Int) {v : List Int} (C : List Int) (hC : C.length = st + 1) : ∀ (D2 D1 : List Int), (C ++ (D1 ++ D2)).length ≤ 134217728 → (∀ x ∈ D2, Pt x ∧ mcl x ≠ 0) →
    ((∀ x ∈ D2, mcl x < cl) → Ev2 (fun k j => (spec_l05Pair k (rd (C ++ (D1 ++ D2)) (st : Int) 0) c).bind fun r0 => if 0 ≤ r0 then spec_l05Composed_L4 k j l (st : Int) (addI .i64 i 1) ((C ++ (D1 ++ D2)).set st r0) else spec_l05Composed_J17 k j l (st : Int) i c cl (C ++ (D1 ++ D2))) v) →
    ((¬ ∀ x ∈ D2, mcl x < cl) → Ev2 (fun k j => spec_l05Composed_J17 k j l (st : Int) i c cl (C ++ (D1 ++ D2))) v) →
    Ev3 (fun k j p => spec_l05Composed_L10 k j p l (st : Int) i c cl true ((st + 1 + D1.length : Nat) : Int) (C ++ (D1 ++ D2))) v
  | [], D1, hl, hD, hT, hF => by
    have hlen : (C ++ (D1 ++ [])).length = st + 1 + D1.length := by simp [hC]
    have e := fun k j p => spec_l05Composed_L10.eq l (st : Int) i c cl true ((st + 1 + D1.length : Nat) : Int) (C ++ (D1 ++ [])) k j p
    simp only [W, W1, W2, W3, hlen, if_neg (Int.lt_irrefl _), Int.toNat_natCast, if_pos (nat_ge st), if_pos (show (st : Int) < ((st + 1 + D1.length : Nat) : Int) by omega)] at e
    exact Ev3.step e (hT fun x hx => by cases hx).three
  | d :: D2, D1, hl, hD, hT, hF => by
    obtain ⟨hd1, hd2⟩ := hD d List.mem_cons_self
    simp only [List.length_append, List.length_cons] at hl
    have hlen : (C ++ (D1 ++ d :: D2)).length = st + 1 + D1.length + (1 + D2.length) := by simp [hC]; omega
    have hr : rd (C ++ (D1 ++ d :: D2)) ((st + 1 + D1.length : Nat) : Int) 0 = d := by
      have := rd_mid (C ++ D1) D2 d 0
      rw [List.length_append, hC, List.append_assoc] at this
      exact this
    have ea : addI .i64 ((st + 1 + D1.length : Nat) : Int) 1 = ((st + 1 + (D1 ++ [d]).length : Nat) : Int) := by rw [addI_i64 (by omega) (by omega)]; simp; omega
    have e := fun k j p => spec_l05Composed_L10.eq l (st : Int) i c cl true ((st + 1 + D1.length : Nat) : Int) (C ++ (D1 ++ d :: D2)) k j p
    simp only [W, W1, W2, W3, hlen, hr, ea, if_pos (nat_ge (st + 1 + D1.length)), if_pos (show ((st + 1 + D1.length : Nat) : Int) < ((st + 1 + D1.length + (1 + D2.length) : Nat) : Int) by omega)] at e
    refine Ev3.step e (Ev3.bind (specClass d hd1.1 hd1.2) ?_)
    simp only [if_neg hd2]
    refine Ev3.bind (specClass d hd1.1 hd1.2) ?_
    have ed : C ++ (D1 ++ d :: D2) = C ++ ((D1 ++ [d]) ++ D2) := by simp
    by_cases g : mcl d < cl
    · simp only [decide_eq_true g]
      rw [ed] at hT hF ⊢
      exact specOpen l st i c cl C hC D2 (D1 ++ [d]) (by simp; omega) (fun x hx => hD x (List.mem_cons_of_mem _ hx)) (fun h => hT fun x hx => by
        rcases List.mem_cons.1 hx with h' | h'
        · rw [h']; exact g
        · exact h x h') (fun h => hF fun h' => h fun x hx => h' x (List.mem_cons_of_mem _ hx))
    · simp only [decide_eq_false g]
      have e2 := fun k j p => spec_l05Composed_L10.eq l (st : Int) i c cl false ((st + 1 + (D1 ++ [d]).length : Nat) : Int) (C ++ (D1 ++ d :: D2)) k j p
      simp only [W1] at e2
      exact Ev3.step e2 (hF fun h => g (h d List.mem_cons_self)).three
theorem specShut (l : List Int) (st i c cl k0 : Int) (out : List Int) {v : List Int} (h : Ev2 (fun k j => spec_l05Composed_J17 k j l st i c cl out) v) : Ev3 (fun k j p => spec_l05Composed_L10 k j p l st i c cl false k0 out) v := by
  have e2 := fun k j p => spec_l05Composed_L10.eq l st i c cl false k0 out k j p
  simp only [W1] at e2
  exact Ev3.step e2 h.three
/-- what stands behind the starter: marks, rising -/
structure Beh (c : List Int) (st last : Int) (suf : List Int) : Prop where
  b : st = -1 ∨ ∃ C D : List Int, c = C ++ D ∧ (C.length : Int) = st + 1 ∧ 0 ≤ st ∧ (∀ x ∈ D, mcl x ≠ 0 ∧ mcl x ≤ last) ∧ (D ≠ [] → last ∈ D.map mcl ∧ ∀ y r, suf = y :: r → mcl y = 0 ∨ last ≤ mcl y)
theorem specCps (l : List Int) (hl : l.length ≤ 134217728) (hp : ∀ x ∈ l, Pt x) : ∀ (suf pre c : List Int) (st last : Int), l = pre ++ suf → Ordd (kf := mcl) suf → Beh c st last suf → c.length ≤ pre.length → (∀ x ∈ c, Pt x) →
    Ev2 (fun k j => spec_l05Composed_L4 k j l st (pre.length : Int) c) (cps suf st last c)
  | [], pre, c, st, last, hs, ho, hb, h2, h3 => by
    refine Ev2.ret fun k j => ?_
    rw [spec_l05Composed_L4.eq, hs]
    simp only [W, W1, W2]
    rw [if_neg (end_nlt pre)]
    rfl
  | p :: suf, pre, c, st, last, hs, ho, hb, h2, h3 => by
    have hle : pre.length + 1 ≤ l.length := by rw [hs]; simp
    have hr : rd l (pre.length : Int) 0 = p := by rw [hs]; exact rd_mid pre suf p _
    have hpp := hp p (by rw [hs]; simp)
    have hcl := mcl_nn p
    have ih := fun c st last => specCps l hl hp suf (pre ++ [p]) c st last (by rw [hs]; simp) ho.2
    have h3' : ∀ x ∈ c ++ [p], Pt x := fun x hx => by
      rcases List.mem_append.1 hx with h | h
      · exact h3 x h
      · rw [List.mem_singleton.1 h]; exact hpp
    -- the point is put behind
    have J : Ev2 (fun k j => spec_l05Composed_J17 k j l st (pre.length : Int) p (mcl p) c) (cps suf (if mcl p = 0 then (c.length : Int) else st) (mcl p) (c ++ [p])) := by
      have e2 := fun k j => spec_l05Composed_J17.eq l st (pre.length : Int) p (mcl p) c k j
      have es2 : subI .i64 (((c ++ [p]).length : Nat) : Int) 1 = (c.length : Int) := by rw [List.length_append, List.length_singleton, subI_i64 (by omega) (by omega)]; omega
      simp only [W, W1, W2, es2, List.length_singleton, if_pos (show (((c.length : Nat) : Int) + ((1 : Nat) : Int)) * 8 < 140737488355328 by omega), next_i pre p (by omega)] at e2
      refine Ev2.congr e2 ?_
      by_cases g : mcl p = 0
      · simp only [if_pos g]
        exact ih _ _ _ ⟨.inr ⟨c ++ [p], [], by simp, by simp, by omega, fun x hx => (by cases hx), fun h => absurd rfl h⟩⟩ (by simp; omega) h3'
      · simp only [if_neg g]
        refine ih _ _ _ ⟨?_⟩ (by simp; omega) h3'
        rcases hb.b with h | ⟨C, D, hcD, hC, hst, hD, hD2⟩
        · exact .inl h
        · refine .inr ⟨C, D ++ [p], by rw [hcD, List.append_assoc], hC, hst, fun x hx => ?_, fun _ => ⟨by simp, fun y r hy => ?_⟩⟩
          · rcases List.mem_append.1 hx with h | h
            · have h' := hD x h
              have hne : D ≠ [] := fun h0 => by rw [h0] at h; cases h
              rcases (hD2 hne).2 p suf rfl with h'' | h''
              · exact absurd h'' g
              · exact ⟨h'.1, by omega⟩
            · rw [List.mem_singleton.1 h]; exact ⟨g, Int.le_refl _⟩
          · exact ho.1 y r hy
    have e := fun k j => spec_l05Composed_L4.eq l st (pre.length : Int) c k j
    simp only [W, W1, W2, W3, hr, if_pos (nat_ge _), if_pos (show (pre.length : Int) < (l.length : Int) by omega)] at e
    refine Ev2.step e (Ev2.bind (specClass p hpp.1 hpp.2) ?_)
    rcases hb.b with h | ⟨C, D, hcD, hC, hst, hD, hD2⟩
    · subst h
      simp only [decide_eq_false (show ¬ (0 : Int) ≤ -1 by omega)]
      refine Ev3.two (g := fun k j q => spec_l05Composed_L10 k j q l (-1) (pre.length : Int) p (mcl p) false (addI .i64 (-1) 1) c) (specShut _ _ _ _ _ _ _ ?_)
      unfold cps
      rw [if_neg (fun h => by omega)]
      exact J
    · obtain ⟨n, rfl⟩ : ∃ n : Nat, st = (n : Int) := ⟨st.toNat, by omega⟩
      have hCn : C.length = n + 1 := by omega
      have hcl2 : c.length = n + 1 + D.length := by rw [hcD, List.length_append, hCn]
      have ea : addI .i64 (n : Int) 1 = ((n + 1 + ([] : List Int).length : Nat) : Int) := by rw [addI_i64 (by omega) (by omega)]; simp
      simp only [decide_eq_true hst, ea]
      -- who is open
      have hopen : (∀ x ∈ D, mcl x < mcl p) ↔ ((c.length : Int) - 1 = (n : Int) ∨ (last ≠ 0 ∧ last < mcl p)) := by
        constructor
        · intro h
          by_cases h0 : D = []
          · exact .inl (by rw [hcl2, h0]; simp)
          · obtain ⟨x, hx, hx2⟩ := List.mem_map.1 (hD2 h0).1
            have k1 := h x hx
            have k2 := (hD x hx).1
            exact .inr ⟨by omega, by omega⟩
        · intro h x hx
          have hne : D.length ≠ 0 := fun h0 => by rw [List.length_eq_zero_iff.1 h0] at hx; cases hx
          rcases h with h | h
          · omega
          · have := (hD x hx).2; omega
      have hO := specOpen l n (pre.length : Int) p (mcl p) (v := cps (p :: suf) (n : Int) last c) C hCn D [] (by simp; omega) (fun x hx => ⟨h3 x (by rw [hcD]; exact List.mem_append_right _ hx), (hD x hx).1⟩)
      simp only [List.nil_append, ← hcD] at hO
      refine Ev3.two (g := fun k j q => spec_l05Composed_L10 k j q l (n : Int) (pre.length : Int) p (mcl p) true ((n + 1 + ([] : List Int).length : Nat) : Int) c) (hO (fun h => ?_) (fun h => ?_))
      · have hcond := hopen.1 h
        refine Ev2.bind (specPair _ _ (h3 _ (rd_memI hst (by omega))) hpp) ?_
        unfold cps
        by_cases g : 0 ≤ pr (rd c (n : Int) 0) p
        · simp only [if_pos g]
          rw [if_pos ⟨hst, hcond, g⟩, Int.toNat_natCast, next_i pre p (by omega)]
          refine ih _ _ _ ⟨.inr ⟨C.set n (pr (rd c (n : Int) 0) p), D, ?_, by rw [List.length_set]; exact hC, hst, hD, fun h0 => ⟨(hD2 h0).1, fun y r hy => ?_⟩⟩⟩ (by rw [List.length_set]; simp; omega) (set_pt h3 (pr_pt _ _ g))
          · rw [hcD, List.set_append_left _ _ (by omega)]
          · obtain ⟨x, hx, hx2⟩ := List.mem_map.1 (hD2 h0).1
            have k1 := h x hx
            have k2 := mcl_nn x
            rcases ho.1 y r hy with h' | h'
            · exact .inl h'
            · exact .inr (by omega)
        · simp only [if_neg g]
          rw [if_neg (fun h => g h.2.2)]
          exact J
      · unfold cps
        rw [if_neg (fun h' => h (hopen.2 h'.2.1))]
        exact J
end Go.Proofs.YtmmmlfndnoeedaaDoor.IX
