/- Texts and points in a form, whole, by both sides. -/
import Derived.Test.YtmmmlfndnoeedaaDoorPNorm
import Derived.Test.YtmmmlfndnoeedaaDoorPWr
namespace Go.Proofs.YtmmmlfndnoeedaaDoor.IX
open Go.Eng Go.RowKit
set_option linter.unusedVariables false
set_option linter.unusedSimpArgs false
def fl (k : Bool) (l : List Int) : List Int := l.flatMap (dc k)
theorem fl_len (k : Bool) (l : List Int) : (fl k l).length ≤ 8 * l.length := by
  unfold fl
  induction l with
  | nil => simp
  | cons x l ih =>
    have := dc_len k x
    rw [List.flatMap_cons, List.length_append, List.length_cons]
    omega
theorem fl_pt (k : Bool) {l : List Int} (h : ∀ x ∈ l, Pt x) : ∀ x ∈ fl k l, Pt x := fun x hx => by
  obtain ⟨a, ha, hb⟩ := List.mem_flatMap.1 hx
  exact dc_pt k (h a ha) x hb
/-- marks in order -/
def ordF (l : List Int) : List Int := (bubs mcl [] l).reverse
theorem ordF_len (l : List Int) : (ordF l).length = l.length := by
  unfold ordF
  rw [List.length_reverse, (bubs_mem l).1]
  simp
theorem ordF_pt {l : List Int} (h : ∀ x ∈ l, Pt x) : ∀ x ∈ ordF l, Pt x := fun x hx => by
  unfold ordF at hx
  rw [List.mem_reverse] at hx
  rcases (bubs_mem l).2 x hx with h' | h'
  · cases h'
  · exact h x h'
theorem ordF_ord (l : List Int) : Ordd (kf := mcl) (ordF l) := ordd_rev (bubs_ord l (fun x _ => (mcl_nn x).1) trivial)
theorem cps_mem : ∀ (l : List Int) (st last : Int) (c : List Int), (cps l st last c).length ≤ c.length + l.length ∧ ((∀ x ∈ c, Pt x) → (∀ x ∈ l, Pt x) → ∀ x ∈ cps l st last c, Pt x)
  | [], st, last, c => ⟨by simp [cps], fun hc _ => hc⟩
  | p :: l, st, last, c => by
    unfold cps
    split
    · rename_i h
      obtain ⟨g1, g2⟩ := cps_mem l st last (c.set st.toNat (pr (rd c st 0) p))
      refine ⟨by rw [List.length_set] at g1; simp; omega, fun hc hl => g2 (set_pt hc (pr_pt _ _ h.2.2)) fun x hx => hl x (List.mem_cons_of_mem _ hx)⟩
    · obtain ⟨g1, g2⟩ := cps_mem l (if mcl p = 0 then (c.length : Int) else st) (mcl p) (c ++ [p])
      refine ⟨by simp at g1 ⊢; omega, fun hc hl => g2 (fun x hx => ?_) fun x hx => hl x (List.mem_cons_of_mem _ hx)⟩
      rcases List.mem_append.1 hx with h | h
      · exact hc x h
      · rw [List.mem_singleton.1 h]; exact hl p List.mem_cons_self
def nrm (form : Int) (l : List Int) : List Int := if form = 1 ∨ form = 3 then ordF (fl (decide (3 ≤ form)) l) else cps (ordF (fl (decide (3 ≤ form)) l)) (-1) 0 []
theorem nrm_len (form : Int) (l : List Int) : (nrm form l).length ≤ 8 * l.length := by
  have h := fl_len (decide (3 ≤ form)) l
  unfold nrm
  split
  · rw [ordF_len]; exact h
  · have := (cps_mem (ordF (fl (decide (3 ≤ form)) l)) (-1) 0 []).1
    rw [ordF_len] at this
    simp at this
    omega
theorem nrm_pt (form : Int) {l : List Int} (h : ∀ x ∈ l, Pt x) : ∀ x ∈ nrm form l, Pt x := by
  have h1 := ordF_pt (fl_pt (decide (3 ≤ form)) h)
  unfold nrm
  split
  · exact h1
  · exact (cps_mem (ordF (fl (decide (3 ≤ form)) l)) (-1) 0 []).2 (fun x hx => by cases hx) h1
set_option maxRecDepth 20000 in
theorem implFlat (form : Int) {r : List Int} (l : List Int) (hl : l.length ≤ 16777216) (hp : ∀ x ∈ l, Pt x) : ∀ (suf pre out : List Int), l = pre ++ suf → out.length ≤ 8 * pre.length → Ev (fun k => impl_normal_L8 k k form 0 (out ++ fl (decide (3 ≤ form)) suf)) r →
    Ev2 (fun k j => impl_normal_L3 k j form l (l.length : Int) (pre.length : Int) out) r
  | [], pre, out, hs, ho, hr => by
    have e := fun k j => impl_normal_L3.eq form l (l.length : Int) (pre.length : Int) out k j
    simp only [W, W1, if_neg (show ¬ (pre.length : Int) < (l.length : Int) by rw [hs]; simp)] at e
    simp only [fl, List.flatMap_nil, List.append_nil] at hr
    exact Ev2.step e hr.two
  | p :: suf, pre, out, hs, ho, hr => by
    have hle : pre.length + 1 ≤ l.length := by rw [hs]; simp
    have hrd : rd l (pre.length : Int) 0 = p := by rw [hs]; exact rd_mid pre suf p _
    have hd := dc_len (decide (3 ≤ form)) p
    have e := fun k j => impl_normal_L3.eq form l (l.length : Int) (pre.length : Int) out k j
    simp only [W, W1, W2, W3, hrd, if_pos (nat_ge _), if_pos (show (pre.length : Int) < (l.length : Int) by omega), next_i pre p (by omega)] at e
    refine Ev2.step e (Ev2.bind (implDc (decide (3 ≤ form)) (hp p (by rw [hs]; simp))) ?_)
    simp only [if_pos (show (((out.length : Nat) : Int) + (((dc (decide (3 ≤ form)) p).length : Nat) : Int)) * 8 < 140737488355328 by omega)]
    refine implFlat form l hl hp suf (pre ++ [p]) (out ++ dc (decide (3 ≤ form)) p) (by rw [hs]; simp) (by simp; omega) ?_
    simpa [fl] using hr
theorem implNormal (form : Int) (l : List Int) (hl : l.length ≤ 16777216) (hp : ∀ x ∈ l, Pt x) : Ev (fun k => impl_normal k form l) (nrm form l) := by
  have hf := fl_len (decide (3 ≤ form)) l
  have hfp := fl_pt (decide (3 ≤ form)) hp
  have e := fun k => impl_normal.eq form l k
  simp only [W2] at e
  refine Ev.step e (Ev2.ev (g := fun k j => impl_normal_L3 k j form l (l.length : Int) 0 []) (implFlat form l hl hp l [] [] rfl (by simp) ?_))
  rw [List.nil_append]
  have hfin : Ev (fun k => finI k form (bubs mcl [] (fl (decide (3 ≤ form)) l)).reverse) (nrm form l) := by
    unfold finI nrm
    by_cases c1 : form = 1
    · simp only [if_pos c1, if_pos (show form = 1 ∨ form = 3 from .inl c1)]; exact Ev.now _
    by_cases c3 : form = 3
    · simp only [if_neg c1, if_pos c3, if_pos (show form = 1 ∨ form = 3 from .inr c3)]; exact Ev.now _
    · simp only [if_neg c1, if_neg c3, if_neg (show ¬ (form = 1 ∨ form = 3) from fun h => h.elim c1 c3)]
      have hol := ordF_len (fl (decide (3 ≤ form)) l)
      have := implCps (ordF (fl (decide (3 ≤ form)) l)) (by omega) (ordF_pt hfp) _ [] [] (-1) 0 rfl (.inl rfl) (Nat.le_refl _) (fun x hx => by cases hx)
      exact this.ev
  have := implOrd form (r := nrm form l) _ (fl (decide (3 ≤ form)) l) [] (Nat.le_refl _) (by simp; omega) (.inl fun x r h => by cases h) hfin
  exact this.ev
set_option maxRecDepth 20000 in
theorem specFlat (form : Int) {r : List Int} (l : List Int) (hl : l.length ≤ 16777216) (hp : ∀ x ∈ l, Pt x) : ∀ (suf pre out : List Int), l = pre ++ suf → out.length ≤ 8 * pre.length →
    Ev (fun k => (spec_l05Ordered k (out ++ fl (decide (3 ≤ form)) suf)).bind fun r0 => (spec_l05C k form).bind fun r1 => brB r1 ((spec_l05Composed k r0).bind fun r2 => some r2) (some r0)) r →
    Ev2 (fun k j => spec_l05Norm_L3 k j form l (pre.length : Int) out) r
  | [], pre, out, hs, ho, hr => by
    have e := fun k j => spec_l05Norm_L3.eq form l (pre.length : Int) out k j
    simp only [W, W1, W2, W3, if_neg (show ¬ (pre.length : Int) < (l.length : Int) by rw [hs]; simp)] at e
    simp only [fl, List.flatMap_nil, List.append_nil] at hr
    exact Ev2.step e hr.two
  | p :: suf, pre, out, hs, ho, hr => by
    have hle : pre.length + 1 ≤ l.length := by rw [hs]; simp
    have hrd : rd l (pre.length : Int) 0 = p := by rw [hs]; exact rd_mid pre suf p _
    have hd := dc_len (decide (3 ≤ form)) p
    have e := fun k j => spec_l05Norm_L3.eq form l (pre.length : Int) out k j
    simp only [W, W1, W2, W3, hrd, if_pos (nat_ge _), if_pos (show (pre.length : Int) < (l.length : Int) by omega), next_i pre p (by omega)] at e
    have hk : Ev (fun k => spec_l05K k form) (decide (3 ≤ form)) := Ev.ret fun k => by rw [spec_l05K.eq, leI_eq]
    refine Ev2.step e (Ev2.bind hk (Ev2.bind (specDc (decide (3 ≤ form)) (hp p (by rw [hs]; simp))) ?_))
    simp only [if_pos (show (((out.length : Nat) : Int) + (((dc (decide (3 ≤ form)) p).length : Nat) : Int)) * 8 < 140737488355328 by omega)]
    refine specFlat form l hl hp suf (pre ++ [p]) (out ++ dc (decide (3 ≤ form)) p) (by rw [hs]; simp) (by simp; omega) ?_
    simpa [fl] using hr
theorem specNormal (form : Int) (h1 : 1 ≤ form) (h4 : form ≤ 4) (l : List Int) (hl : l.length ≤ 16777216) (hp : ∀ x ∈ l, Pt x) : Ev (fun k => spec_l05Norm k form l) (nrm form l) := by
  have hf := fl_len (decide (3 ≤ form)) l
  have hfp := fl_pt (decide (3 ≤ form)) hp
  refine Ev.step (fun k => spec_l05Norm.eq form l k) (Ev2.ev (g := fun k j => spec_l05Norm_L3 k j form l 0 []) (specFlat form l hl hp l [] [] rfl (by simp) ?_))
  rw [List.nil_append]
  have ho : Ev (fun k => spec_l05Ordered k (fl (decide (3 ≤ form)) l)) (ordF (fl (decide (3 ≤ form)) l)) := by
    have e := fun k => spec_l05Ordered.eq (fl (decide (3 ≤ form)) l) k
    simp only [W, W1, W2, List.length_nil, List.nil_append, if_pos (show (((0 : Nat) : Int) + (((fl (decide (3 ≤ form)) l).length : Nat) : Int)) * 8 < 140737488355328 by omega)] at e
    have := specOrd (fl (decide (3 ≤ form)) l) [] (by simp; omega) (fun x hx => by cases hx) hfp
    exact Ev.step e this.ev
  refine Ev.bind ho ?_
  have hc : Ev (fun k => spec_l05C k form) (decide (form = 2 ∨ form = 4)) := by
    refine Ev.ret fun k => ?_
    rw [spec_l05C.eq]
    have hr := rem_nn form (by omega) 2
    simp only [clit] at hr
    simp only [W, W1, hr, if_neg (show ¬ (2 : Int) = 0 by omega)]
    congr 1
    exact decide_eq_decide.2 ⟨fun h => by omega, fun h => by omega⟩
  refine Ev.bind hc ?_
  unfold nrm
  by_cases c : form = 1 ∨ form = 3
  · rw [if_pos c]
    simp only [decide_eq_false (show ¬ (form = 2 ∨ form = 4) by omega), W1]
    exact Ev.now _
  · rw [if_neg c]
    simp only [decide_eq_true (show form = 2 ∨ form = 4 by omega), W1]
    have hol := ordF_len (fl (decide (3 ≤ form)) l)
    have := specCps (ordF (fl (decide (3 ≤ form)) l)) (by omega) (ordF_pt hfp) _ [] [] (-1) 0 rfl (ordF_ord _) ⟨.inl rfl⟩ (Nat.le_refl _) (fun x hx => by cases hx)
    exact Ev.bind (Ev.step (fun k => spec_l05Composed.eq _ k) this.ev) (Ev.now _)
/-! ### points of texts -/
def ptsT (t : ByteArray) : List Int := (its t).map (·.1)
theorem ptsT_pt (t : ByteArray) : ∀ x ∈ ptsT t, Pt x := fun x hx => by
  obtain ⟨y, hy, rfl⟩ := List.mem_map.1 hx
  exact items_points t _ _ y hy
theorem items_len (t : ByteArray) : ∀ (m i : Nat), (items t m i).length ≤ m
  | 0, _ => by simp [items]
  | m + 1, i => by
    unfold items
    split
    · have := items_len t m (i + wid t i)
      simp; omega
    · simp
theorem ptsT_len (t : ByteArray) : (ptsT t).length ≤ t.size := by
  unfold ptsT its
  rw [List.length_map]
  exact items_len t _ _
theorem implPts_loop (x2 : List T_iiib) (hl : x2.length ≤ 1048576) : ∀ (suf pre : List T_iiib) (out : List Int), x2 = pre ++ suf → out.length ≤ pre.length → Ev2 (fun k j => impl_points_L3 k j (x2.length : Int) (pre.length : Int) out x2) (out ++ suf.map (·.1))
  | [], pre, out, hs, ho => by
    refine Ev2.ret fun k j => ?_
    rw [impl_points_L3.eq, hs]
    simp only [W, W1]
    rw [if_neg (end_nlt pre)]
    simp
  | p :: suf, pre, out, hs, ho => by
    have hle : pre.length + 1 ≤ x2.length := by rw [hs]; simp
    have hrd : rd x2 (pre.length : Int) (0, (0, (0, false))) = p := by rw [hs]; exact rd_mid pre suf p _
    have e := fun k j => impl_points_L3.eq (x2.length : Int) (pre.length : Int) out x2 k j
    simp only [W, W1, W2, W3, hrd, List.length_singleton, if_pos (nat_ge _), if_pos (show (pre.length : Int) < (x2.length : Int) by omega), if_pos (show (((out.length : Nat) : Int) + ((1 : Nat) : Int)) * 8 < 140737488355328 by omega), next_i pre p (by omega)] at e
    refine Ev2.step e ?_
    have := implPts_loop x2 hl suf (pre ++ [p]) (out ++ [p.1]) (by rw [hs]; simp) (by simp; omega)
    simpa using this
theorem implPts (t : ByteArray) (ht : t.size ≤ 1048576) : Ev (fun k => impl_points k t) (ptsT t) := by
  have hl := ptsT_len t
  unfold ptsT at hl
  rw [List.length_map] at hl
  have e := fun k => impl_points.eq t k
  simp only [W2, W3] at e
  refine Ev.step e (Ev.bind (implRead t ht) ?_)
  have := implPts_loop (its t) (by omega) (its t) [] [] rfl (Nat.le_refl _)
  exact this.ev
theorem specPts_loop (t : ByteArray) (ht : t.size ≤ 1048576) : ∀ (m i : Nat) (out : List Int), t.size ≤ i + m → out.length ≤ i → i ≤ t.size → Ev2 (fun k j => spec_l01Points_L3 k j t (i : Int) out) (out ++ (items t m i).map (·.1))
  | 0, i, out, hm, ho, hi => by
    refine Ev2.ret fun k j => ?_
    rw [spec_l01Points_L3.eq]
    simp only [W, W1, if_neg (show ¬ (i : Int) < (t.size : Int) by omega)]
    simp [items]
  | m + 1, i, out, hm, ho, hi => by
    have e := fun k j => spec_l01Points_L3.eq t (i : Int) out k j
    by_cases c : i < t.size
    · have hw := wid_pos t i c
      have h1 := nx_size t i c
      have h2 := nx_val t i c
      have ea : addI .i64 (i : Int) (nx t i).2.1 = ((i + wid t i : Nat) : Int) := by
        rw [h1, show ((Utf8.decode t i).2 : Int) = (wid t i : Int) from rfl, addI_i64 (by omega) (by omega)]; omega
      simp only [W, W1, W2, W3, List.length_singleton, if_pos (show (i : Int) < (t.size : Int) by omega), if_pos (show (((out.length : Nat) : Int) + ((1 : Nat) : Int)) * 8 < 140737488355328 by omega)] at e
      refine Ev2.step e (Ev2.bind (nx_ev t i ht c) ?_)
      simp only [ea, h2]
      have := specPts_loop t ht m (i + wid t i) (out ++ [((Utf8.decode t i).1 : Int)]) (by omega) (by simp; omega) hw.2
      have hit : items t (m + 1) i = item t i :: items t m (i + wid t i) := if_pos c
      rw [hit, List.map_cons]
      simpa [item] using this
    · simp only [W, W1, if_neg (show ¬ (i : Int) < (t.size : Int) by omega)] at e
      have hit : items t (m + 1) i = [] := if_neg c
      rw [hit]
      simp only [List.map_nil, List.append_nil]
      exact Ev2.ret e
theorem specPts (t : ByteArray) (ht : t.size ≤ 1048576) : Ev (fun k => spec_l01Points k t) (ptsT t) := by
  have := specPts_loop t ht t.size 0 [] (by omega) (by simp) (by omega)
  exact Ev.step (fun k => spec_l01Points.eq t k) this.ev
end Go.Proofs.YtmmmlfndnoeedaaDoor.IX
