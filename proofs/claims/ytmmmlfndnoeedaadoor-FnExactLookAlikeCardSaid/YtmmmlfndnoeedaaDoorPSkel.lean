/- Skeletons, by both sides; texts of valid points are told apart. -/
import Derived.Test.YtmmmlfndnoeedaaDoorPSeen
namespace Go.Proofs.YtmmmlfndnoeedaaDoor.IX
open Go.Eng Go.RowKit
set_option linter.unusedVariables false
set_option linter.unusedSimpArgs false
/-! ### valid points -/
def Vp (p : Int) : Prop := Pt p ∧ isPoint p.toNat = true
theorem vp_small {p : Int} (h : 0 ≤ p ∧ p ≤ 23459) : Vp p := by
  refine ⟨⟨h.1, by omega⟩, ?_⟩
  unfold isPoint
  simp
  omega
theorem decodeN_v (n b0 b1 b2 b3 : Nat) : isPoint (Lib.decodeN n b0 b1 b2 b3).1 = true := by
  unfold Lib.decodeN isPoint
  simp only [Bool.and_eq_true, Bool.or_eq_true, decide_eq_true_eq]
  repeat' split
  all_goals try dsimp only
  all_goals omega
theorem decode_v (t : ByteArray) (i : Nat) : isPoint (Utf8.decode t i).1 = true := by
  rw [Lib.decode_N]
  exact decodeN_v _ _ _ _ _
theorem items_v (t : ByteArray) : ∀ (m i : Nat), ∀ x ∈ items t m i, isPoint x.1.toNat = true
  | 0, _, x, h => by cases h
  | m + 1, i, x, h => by
    unfold items at h
    split at h
    · rcases List.mem_cons.1 h with h | h
      · rw [h]
        show isPoint ((Utf8.decode t i).1 : Int).toNat = true
        rw [Int.toNat_natCast]
        exact decode_v t i
      · exact items_v t m _ x h
    · cases h
theorem ptsT_v (t : ByteArray) : ∀ x ∈ ptsT t, Vp x := fun x hx => by
  refine ⟨ptsT_pt t x hx, ?_⟩
  obtain ⟨y, hy, rfl⟩ := List.mem_map.1 hx
  exact items_v t _ _ y hy
theorem prI_small (k : Bool) {p : Int} (h : Pt p) : ∀ q ∈ prI k p, 0 ≤ q ∧ q ≤ 23459 := by
  obtain ⟨n, rfl⟩ : ∃ n : Nat, p = (n : Int) := ⟨p.toNat, by unfold Pt at h; omega⟩
  unfold prI
  rw [Int.toNat_natCast]
  have hl : ∀ m : Nat, m < 52 → 0 ≤ ltr m ∧ ltr m ≤ 23459 := fun m hm => by unfold ltr; split <;> omega
  by_cases c : (8192 ≤ n ∧ n ≤ 9631) ∧ (n - 8192) % 512 < 416
  · rw [prt_a n k c]
    by_cases c1 : (n - 8192) / 512 = 0
    · rw [if_pos c1]; exact two (hl _ (by omega)) (by omega)
    by_cases c2 : (n - 8192) / 512 = 1
    · rw [if_neg c1, if_pos c2]; exact two (hl _ (by omega)) (by omega)
    · rw [if_neg c1, if_neg c2]; exact two (by omega) (by omega)
  · rw [prt_b n k c]
    unfold prB
    by_cases c1 : 9728 ≤ n ∧ n ≤ 9753
    · rw [if_pos c1]; exact one (by omega)
    by_cases c2 : 12288 ≤ n ∧ n ≤ 23459
    · rw [if_neg c1, if_pos c2]
      by_cases c3 : 0 < (n - 12288) % 28
      · rw [if_pos c3]; exact two (by omega) (by omega)
      · rw [if_neg c3]; exact two (by omega) (by omega)
    · rw [if_neg c1, if_neg c2]
      cases k with
      | false => exact fun q hq => by simp at hq
      | true =>
        rw [if_neg (by decide)]
        intro q hq
        have := (dep_wd true n q hq).2
        obtain ⟨g1, g2⟩ := (dep_wd true n q hq).1
        revert hq
        unfold wd
        by_cases d1 : 9984 ≤ n ∧ n ≤ 10009
        · rw [if_pos d1]; intro hq; rw [List.mem_singleton.1 hq]; omega
        by_cases d2 : 10016 ≤ n ∧ n ≤ 10025
        · rw [if_neg d1, if_pos d2]; intro hq; rw [List.mem_singleton.1 hq]; omega
        by_cases d3 : n = 8064 ∨ n = 160
        · rw [if_neg d1, if_neg d2, if_pos d3]; intro hq; rw [List.mem_singleton.1 hq]; omega
        rw [if_neg d1, if_neg d2, if_neg d3]
        intro hq
        have key : ∀ a b : Int, 0 ≤ a ∧ a ≤ 200 → 0 ≤ b ∧ b ≤ 200 → q ∈ [a, b] → 0 ≤ q ∧ q ≤ 23459 := fun a b ha hb hq => two (P := fun q => 0 ≤ q ∧ q ≤ 23459) (by omega) (by omega) q hq
        by_cases e1 : n = 10032
        · rw [if_pos e1] at hq; exact key _ _ (by omega) (by omega) hq
        by_cases e2 : n = 10033
        · rw [if_neg e1, if_pos e2] at hq; exact key _ _ (by omega) (by omega) hq
        by_cases e3 : n = 10034
        · rw [if_neg e1, if_neg e2, if_pos e3] at hq; exact key _ _ (by omega) (by omega) hq
        by_cases e4 : n = 10035
        · rw [if_neg e1, if_neg e2, if_neg e3, if_pos e4] at hq; exact key _ _ (by omega) (by omega) hq
        · rw [if_neg e1, if_neg e2, if_neg e3, if_neg e4] at hq; cases hq
theorem dcF_small (k : Bool) : ∀ (n : Nat) (p : Int), Pt p → ∀ q ∈ dcF k n p, q = p ∨ (0 ≤ q ∧ q ≤ 23459)
  | 0, p, _, q, hq => .inl (List.mem_singleton.1 hq)
  | n + 1, p, h, q, hq => by
    have e : dcF k (n + 1) p = if prI k p = [] then [p] else (prI k p).flatMap (dcF k n) := rfl
    rw [e] at hq
    split at hq
    · exact .inl (List.mem_singleton.1 hq)
    · obtain ⟨a, ha, hb⟩ := List.mem_flatMap.1 hq
      have hs := prI_small k h a ha
      rcases dcF_small k n a ⟨hs.1, by omega⟩ q hb with h' | h'
      · exact .inr (by rw [h']; exact hs)
      · exact .inr h'
theorem fl_v (k : Bool) {l : List Int} (h : ∀ x ∈ l, Vp x) : ∀ x ∈ fl k l, Vp x := fun x hx => by
  obtain ⟨a, ha, hb⟩ := List.mem_flatMap.1 hx
  rcases dcF_small k 3 a (h a ha).1 x hb with h' | h'
  · rw [h']; exact h a ha
  · exact vp_small h'
theorem nrm1_v {l : List Int} (h : ∀ x ∈ l, Vp x) : ∀ x ∈ nrm 1 l, Vp x := fun x hx => by
  have e : nrm 1 l = ordF (fl (decide ((3 : Int) ≤ 1)) l) := if_pos (.inl rfl)
  rw [e] at hx
  unfold ordF at hx
  rw [List.mem_reverse] at hx
  rcases (bubs_mem _).2 x hx with h' | h'
  · cases h'
  · exact fl_v _ h x h'
theorem sn0_small {p : Int} (h : Pt p) : ∀ q ∈ sn0 p, q = p ∨ (0 ≤ q ∧ q ≤ 23459) := by
  have hd := dg_b p h.1
  have hb : 0 ≤ bj p ∧ bj p ≤ 255 := by unfold bj; split <;> omega
  unfold sn0 snT
  intro q hq
  repeat' split at hq
  all_goals first | (cases hq; done) | (have := List.mem_singleton.1 hq; omega)
theorem sn_len (p : Int) : (sn p).length ≤ 2 := by
  unfold sn
  split
  · have h1 := wd_len p.toNat
    have h2 : ∀ l : List Int, (l.flatMap sn0).length ≤ l.length := fun l => by
      induction l with
      | nil => simp
      | cons x l ih =>
        have := sn0_len x
        rw [List.flatMap_cons, List.length_append, List.length_cons]
        omega
    have := h2 (wd p.toNat)
    omega
  · have := sn0_len p; omega
theorem sn_v {p : Int} (h : Vp p) : ∀ q ∈ sn p, Vp q := by
  have hp := h.1
  unfold Pt at hp
  obtain ⟨n, rfl⟩ : ∃ n : Nat, p = (n : Int) := ⟨p.toNat, by omega⟩
  unfold sn
  intro q hq
  by_cases hw : Wd (n : Int)
  · rw [if_pos hw] at hq
    obtain ⟨a, ha, hb⟩ := List.mem_flatMap.1 hq
    rw [Int.toNat_natCast] at ha
    obtain ⟨h1, _, h3⟩ := wd_small hw a ha
    rcases sn0_small h1 q hb with h' | h'
    · rw [h']; exact vp_small (by omega)
    · exact vp_small h'
  · rw [if_neg hw] at hq
    rcases sn0_small h.1 q hq with h' | h'
    · rw [h']; exact h
    · exact vp_small h'
/-! ### texts are told apart -/
def bsL (l : List Int) : List UInt8 := l.flatMap fun p => (wrN (ptN p.toNat)).map UInt8.ofNat
theorem bsL_inj : ∀ (l r : List Int), (∀ x ∈ l, Vp x) → (∀ x ∈ r, Vp x) → bsL l = bsL r → l = r
  | [], [], _, _, _ => rfl
  | [], y :: r, _, hr, h => by
    have h1 := congrArg List.length h
    have h2 := (wrN_lt (ptN_pt y.toNat)).2.1
    unfold bsL at h1
    rw [List.flatMap_cons, List.length_append, List.length_map, List.flatMap_nil, List.length_nil] at h1
    omega
  | x :: l, [], hl, _, h => by
    have h1 := congrArg List.length h
    have h2 := (wrN_lt (ptN_pt x.toNat)).2.1
    unfold bsL at h1
    rw [List.flatMap_cons, List.length_append, List.length_map, List.flatMap_nil, List.length_nil] at h1
    omega
  | x :: l, y :: r, hl, hr, h => by
    obtain ⟨x1, x2⟩ := hl x List.mem_cons_self
    obtain ⟨y1, y2⟩ := hr y List.mem_cons_self
    have ex : ptN x.toNat = x.toNat := if_pos x2
    have ey : ptN y.toNat = y.toNat := if_pos y2
    unfold bsL at h
    rw [List.flatMap_cons, List.flatMap_cons, ex, ey] at h
    have d := congrArg Lib.decodeL h
    rw [decodeL_wr x2, decodeL_wr y2] at d
    have d1 := (Prod.mk.inj d).1
    unfold Pt at x1 y1
    obtain rfl : x = y := by omega
    have h' := List.append_cancel_left h
    rw [bsL_inj l r (fun z hz => hl z (List.mem_cons_of_mem _ hz)) (fun z hz => hr z (List.mem_cons_of_mem _ hz)) h']
theorem txt_inj {l r : List Int} (hl : ∀ x ∈ l, Vp x) (hr : ∀ x ∈ r, Vp x) (h : txt l = txt r) : l = r := by
  refine bsL_inj l r hl hr ?_
  have := congrArg (fun b : ByteArray => b.data.toList) h
  simp only [bytes_wri] at this
  exact this
/-! ### skeletons -/
def skL (t : ByteArray) : List Int := nrm 1 ((nrm 1 (ptsT t)).flatMap sn)
theorem flatMap_len {f : Int → List Int} {n : Nat} (h : ∀ x, (f x).length ≤ n) (l : List Int) : (l.flatMap f).length ≤ n * l.length := by
  induction l with
  | nil => simp
  | cons x l ih =>
    have := h x
    rw [List.flatMap_cons, List.length_append, List.length_cons, Nat.mul_succ]
    omega
theorem sk_facts (t : ByteArray) (ht : t.size ≤ 65536) : (nrm 1 (ptsT t)).length ≤ 524288 ∧ ((nrm 1 (ptsT t)).flatMap sn).length ≤ 1048576 ∧ (skL t).length ≤ 8388608 ∧ (∀ x ∈ nrm 1 (ptsT t), Vp x) ∧ (∀ x ∈ (nrm 1 (ptsT t)).flatMap sn, Vp x) ∧ (∀ x ∈ skL t, Vp x) := by
  have h1 := ptsT_len t
  have h2 := nrm_len 1 (ptsT t)
  have h3 := flatMap_len sn_len (nrm 1 (ptsT t))
  have h4 := nrm_len 1 ((nrm 1 (ptsT t)).flatMap sn)
  have v1 := nrm1_v (ptsT_v t)
  have v2 : ∀ x ∈ (nrm 1 (ptsT t)).flatMap sn, Vp x := fun x hx => by
    obtain ⟨a, ha, hb⟩ := List.mem_flatMap.1 hx
    exact sn_v (v1 a ha) x hb
  exact ⟨by omega, by omega, by unfold skL; omega, v1, v2, nrm1_v v2⟩
theorem implSk_loop (x2 : List Int) (hl : x2.length ≤ 1048576) (hp : ∀ x ∈ x2, Pt x) {r : ByteArray} : ∀ (suf pre out : List Int), x2 = pre ++ suf → out.length ≤ 2 * pre.length → Ev (fun k => (impl_normal k 1 (out ++ suf.flatMap sn)).bind fun r0 => (impl_write k r0).bind fun r1 => some r1) r →
    Ev2 (fun k j => impl_skeleton_L3 k j (x2.length : Int) (pre.length : Int) out x2) r
  | [], pre, out, hs, ho, hr => by
    have e := fun k j => impl_skeleton_L3.eq (x2.length : Int) (pre.length : Int) out x2 k j
    simp only [W, W1, W3, if_neg (show ¬ (pre.length : Int) < (x2.length : Int) by rw [hs]; simp)] at e
    simp only [List.flatMap_nil, List.append_nil] at hr
    exact Ev2.step e hr.two
  | p :: suf, pre, out, hs, ho, hr => by
    have hle : pre.length + 1 ≤ x2.length := by rw [hs]; simp
    have hrd : rd x2 (pre.length : Int) 0 = p := by rw [hs]; exact rd_mid pre suf p _
    have hsl := sn_len p
    have e := fun k j => impl_skeleton_L3.eq (x2.length : Int) (pre.length : Int) out x2 k j
    simp only [W, W1, W2, W3, hrd, if_pos (nat_ge _), if_pos (show (pre.length : Int) < (x2.length : Int) by omega), next_i pre p (by omega)] at e
    refine Ev2.step e (Ev2.bind (implSeen (hp p (by rw [hs]; simp))) ?_)
    simp only [if_pos (show (((out.length : Nat) : Int) + (((sn p).length : Nat) : Int)) * 8 < 140737488355328 by omega)]
    refine implSk_loop x2 hl hp suf (pre ++ [p]) (out ++ sn p) (by rw [hs]; simp) (by simp; omega) ?_
    simpa using hr
theorem specSk_loop (x2 : List Int) (hl : x2.length ≤ 1048576) (hp : ∀ x ∈ x2, Pt x) {r : List Int} : ∀ (suf pre out : List Int), x2 = pre ++ suf → out.length ≤ 2 * pre.length → Ev (fun k => (spec_l05Norm k 1 (out ++ suf.flatMap sn)).bind fun r0 => some r0) r →
    Ev2 (fun k j => spec_l19Skeleton_L4 k j (pre.length : Int) x2 out) r
  | [], pre, out, hs, ho, hr => by
    have e := fun k j => spec_l19Skeleton_L4.eq (pre.length : Int) x2 out k j
    simp only [W, W1, W2, W3, if_neg (show ¬ (pre.length : Int) < (x2.length : Int) by rw [hs]; simp)] at e
    simp only [List.flatMap_nil, List.append_nil] at hr
    exact Ev2.step e hr.two
  | p :: suf, pre, out, hs, ho, hr => by
    have hle : pre.length + 1 ≤ x2.length := by rw [hs]; simp
    have hrd : rd x2 (pre.length : Int) 0 = p := by rw [hs]; exact rd_mid pre suf p _
    have hsl := sn_len p
    have e := fun k j => spec_l19Skeleton_L4.eq (pre.length : Int) x2 out k j
    simp only [W, W1, W2, W3, hrd, if_pos (nat_ge _), if_pos (show (pre.length : Int) < (x2.length : Int) by omega), next_i pre p (by omega)] at e
    refine Ev2.step e (Ev2.bind (specSeen (hp p (by rw [hs]; simp))) ?_)
    simp only [if_pos (show (((out.length : Nat) : Int) + (((sn p).length : Nat) : Int)) * 8 < 140737488355328 by omega)]
    refine specSk_loop x2 hl hp suf (pre ++ [p]) (out ++ sn p) (by rw [hs]; simp) (by simp; omega) ?_
    simpa using hr
theorem implSk (t : ByteArray) (ht : t.size ≤ 65536) : Ev (fun k => impl_skeleton k t) (txt (skL t)) := by
  obtain ⟨h1, h2, h3, v1, v2, v3⟩ := sk_facts t ht
  have hp := ptsT_len t
  have e := fun k => impl_skeleton.eq t k
  simp only [W2, W3] at e
  refine Ev.step e (Ev.bind (implPts t (by omega)) (Ev.bind (implNormal 1 _ (by omega) (ptsT_pt t)) ?_))
  have := implSk_loop (nrm 1 (ptsT t)) (by omega) (fun x hx => (v1 x hx).1) (r := txt (skL t)) _ [] [] rfl (by simp) (by
    rw [List.nil_append]
    exact Ev.bind (implNormal 1 ((nrm 1 (ptsT t)).flatMap sn) (by omega) (fun x hx => (v2 x hx).1)) (Ev.bind (implWrite (skL t) (by show (skL t).length ≤ _; omega) (fun x hx => (v3 x hx).1)) (Ev.now _)))
  exact this.ev
theorem specSk (t : ByteArray) (ht : t.size ≤ 65536) : Ev (fun k => spec_l19Skeleton k t) (skL t) := by
  obtain ⟨h1, h2, h3, v1, v2, v3⟩ := sk_facts t ht
  have hp := ptsT_len t
  have e := fun k => spec_l19Skeleton.eq t k
  simp only [W3] at e
  refine Ev.step e (Ev.bind (specPts t (by omega)) (Ev.bind (specNormal 1 (by omega) (by omega) _ (by omega) (ptsT_pt t)) ?_))
  have := specSk_loop (nrm 1 (ptsT t)) (by omega) (fun x hx => (v1 x hx).1) (r := skL t) _ [] [] rfl (by simp) (by
    rw [List.nil_append]
    exact Ev.bind (specNormal 1 (by omega) (by omega) ((nrm 1 (ptsT t)).flatMap sn) (by omega) (fun x hx => (v2 x hx).1)) (Ev.now _))
  exact this.ev
theorem longT (t : ByteArray) : Ev (fun k => impl_long k t) (decide (65536 < t.size)) := by
  refine Ev.ret fun k => ?_
  rw [impl_long.eq]
  simp only [W]
  congr 1
  exact decide_eq_decide.2 ⟨fun h => by omega, fun h => by omega⟩
def skO (t : ByteArray) : ByteArray := if 65536 < t.size then bs [] else if 65536 < (txt (skL t)).size then bs [] else txt (skL t)
theorem implSO (t : ByteArray) : Ev (fun k => impl_SkeletonOf k t) (skO t) := by
  have e := fun k => impl_SkeletonOf.eq t k
  simp only [W, W1, W3] at e
  refine Ev.step e (Ev.bind (longT t) ?_)
  unfold skO
  by_cases c : 65536 < t.size
  · simp only [decide_eq_true c, W1, if_pos c]; exact Ev.now _
  simp only [decide_eq_false c, W1, if_neg c]
  have e2 := fun k => impl_short.eq (txt (skL t)) k
  simp only [W, W1, W3] at e2
  refine Ev.bind (implSk t (by omega)) (Ev.bind (Ev.step e2 (Ev.bind (longT _) (r := if 65536 < (txt (skL t)).size then bs [] else txt (skL t)) ?_)) (Ev.now _))
  by_cases d : 65536 < (txt (skL t)).size
  · simp only [decide_eq_true d, W1, if_pos d]; exact Ev.now _
  · simp only [decide_eq_false d, W1, if_neg d]; exact Ev.now _
theorem specSO (t : ByteArray) : Ev (fun k => spec_SkeletonOf k t) (skO t) := by
  have e := fun k => spec_SkeletonOf.eq t k
  simp only [W, W1, W3] at e
  unfold skO
  by_cases c : 65536 < t.size
  · simp only [if_pos (show (65536 : Int) < (t.size : Int) by omega)] at e
    rw [if_pos c]
    exact Ev.ret e
  simp only [if_neg (show ¬ (65536 : Int) < (t.size : Int) by omega)] at e
  rw [if_neg c]
  obtain ⟨h1, h2, h3, v1, v2, v3⟩ := sk_facts t (by omega)
  have e2 := fun k => spec_l01Small.eq (txt (skL t)) k
  simp only [W, W1] at e2
  refine Ev.step e (Ev.bind (specSk t (by omega)) (Ev.bind (specTxt _ (by omega) (fun x hx => (v3 x hx).1)) (Ev.bind (a := if 65536 < (txt (skL t)).size then bs [] else txt (skL t)) (Ev.ret fun k => ?_) (Ev.now _))))
  rw [e2]
  by_cases d : 65536 < (txt (skL t)).size
  · rw [if_pos (show (65536 : Int) < ((txt (skL t)).size : Int) by omega), if_pos d]
  · rw [if_neg (show ¬ (65536 : Int) < ((txt (skL t)).size : Int) by omega), if_neg d]
theorem pure_FnExactSkeletonOf (t : ByteArray) (h : CT.good .str t) : ∃ k, laws_FnExactSkeletonOf k t = some true := by
  have e := fun k => laws_FnExactSkeletonOf.eq t k
  simp only [W, W1, W3] at e
  refine Ev.has (r := true) (Ev.step e ?_)
  by_cases c : (1048576 : Int) < (t.size : Int)
  · simp only [if_pos c]
    exact Ev.now _
  · simp only [if_neg c]
    refine Ev.bind (specSO t) (Ev.bind (implSO t) ?_)
    simp only [if_true]
    exact Ev.now _
/-! ### LookAlike -/
def alike (a b : ByteArray) : Bool := decide (a.size ≤ 65536) && (decide (b.size ≤ 65536) && decide (skL a = skL b))
theorem implLA (a b : ByteArray) : Ev (fun k => impl_LookAlike k a b) (alike a b) := by
  have e := fun k => impl_LookAlike.eq a b k
  simp only [W, W1, W3] at e
  unfold alike
  refine Ev.step e (Ev.bind (longT a) ?_)
  by_cases c : a.size ≤ 65536
  rotate_left
  · simp only [decide_eq_true (show 65536 < a.size by omega), decide_eq_false c, W1, Bool.false_and]; exact Ev.now _
  simp only [decide_eq_false (show ¬ 65536 < a.size by omega), decide_eq_true c, W1, Bool.true_and]
  refine Ev.bind (longT b) ?_
  by_cases d : b.size ≤ 65536
  rotate_left
  · simp only [decide_eq_true (show 65536 < b.size by omega), decide_eq_false d, W1, Bool.false_and]; exact Ev.now _
  simp only [decide_eq_false (show ¬ 65536 < b.size by omega), decide_eq_true d, W1, Bool.true_and]
  refine Ev.bind (implSk a c) (Ev.bind (implSk b d) ?_)
  rw [show decide (txt (skL a) = txt (skL b)) = decide (skL a = skL b) from decide_eq_decide.2 ⟨fun h => txt_inj (sk_facts a c).2.2.2.2.2 (sk_facts b d).2.2.2.2.2 h, fun h => by rw [h]⟩]
  exact Ev.now _
theorem sameI (a b : List Int) (ha : a.length ≤ 8388608) : Ev (fun k => spec_l04Same k a b) (decide (a = b)) := by
  have e := fun k => spec_l04Same.eq a b k
  simp only [W, W1, W2] at e
  by_cases c : a.length = b.length
  · simp only [if_pos (show (a.length : Int) = (b.length : Int) by omega)] at e
    have h := eq_loop (z := (0 : Int)) (L := spec_l04Same_L4) (one := fun k x y => some (decide (x = y))) (fun k j a b i => by rw [spec_l04Same_L4.eq, eqI_eq]; rfl) (fun x y => Ev.now _) a b (by omega) c
    exact Ev.step e h.ev
  · simp only [if_neg (show ¬ (a.length : Int) = (b.length : Int) by omega)] at e
    rw [show decide (a = b) = false from decide_eq_false fun h => c (congrArg List.length h)]
    exact Ev.ret e
theorem specLA (a b : ByteArray) : Ev (fun k => spec_LookAlike k a b) (alike a b) := by
  have e := fun k => spec_LookAlike.eq a b k
  simp only [W, W1, W3] at e
  unfold alike
  by_cases c : a.size ≤ 65536
  rotate_left
  · simp only [if_neg (show ¬ (a.size : Int) ≤ 65536 by omega)] at e
    rw [decide_eq_false c, Bool.false_and]; exact Ev.ret e
  simp only [if_pos (show (a.size : Int) ≤ 65536 by omega)] at e
  rw [decide_eq_true c, Bool.true_and]
  by_cases d : b.size ≤ 65536
  rotate_left
  · simp only [if_neg (show ¬ (b.size : Int) ≤ 65536 by omega)] at e
    rw [decide_eq_false d, Bool.false_and]; exact Ev.ret e
  simp only [if_pos (show (b.size : Int) ≤ 65536 by omega)] at e
  rw [decide_eq_true d, Bool.true_and]
  have hl := (sk_facts a c).2.2.1
  exact Ev.step e (Ev.bind (specSk a c) (Ev.bind (specSk b d) (Ev.bind (sameI _ _ hl) (Ev.now _))))
theorem pure_FnExactLookAlike (a b : ByteArray) (h1 : CT.good .str a) (h2 : CT.good .str b) : ∃ k, laws_FnExactLookAlike k a b = some true := by
  have e := fun k => laws_FnExactLookAlike.eq a b k
  simp only [W, W1, W3] at e
  refine Ev.has (r := true) (Ev.step e ?_)
  by_cases c : (1048576 : Int) < (a.size : Int)
  · simp only [if_pos c]; exact Ev.now _
  simp only [if_neg c]
  by_cases d : (1048576 : Int) < (b.size : Int)
  · simp only [if_pos d]; exact Ev.now _
  simp only [if_neg d]
  refine Ev.bind (specLA a b) (Ev.bind (implLA a b) ?_)
  simp only [beq_self_eq_true, W1]
  exact Ev.now _
end Go.Proofs.YtmmmlfndnoeedaaDoor.IX
