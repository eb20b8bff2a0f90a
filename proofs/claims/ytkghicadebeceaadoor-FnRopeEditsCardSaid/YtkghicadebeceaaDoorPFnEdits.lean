/- The law of a rope's edits, plainly: all at once they make what they make one after the other. -/
import Derived.Test.YtkghicadebeceaaDoorPDrawRope
import Derived.Test.YtkghicadebeceaaDoorPEdit
namespace Go.Proofs.YtkghicadebeceaaDoor.RG
open Go.Eng Go.RowKit
set_option linter.unusedVariables false
set_option linter.unusedSimpArgs false
/-! ### edits, one after the other -/
def seqT : ByteArray → List T_iis → ByteArray
  | t, [] => t
  | t, e :: es => seqT (behind t e) es
def seqM : List T_sib → List T_iis → List T_sib
  | ms, [] => ms
  | ms, e :: es => seqM (ms.map (mv e)) es
def OkRun : ByteArray → List T_iis → Prop
  | _, [] => True
  | t, e :: es => within t e = true ∧ (behind t e).size ≤ 65536 ∧ OkRun (behind t e) es
theorem seqM_len : ∀ (es : List T_iis) (ms : List T_sib), (seqM ms es).length = ms.length
  | [], _ => rfl
  | e :: es, ms => by simp only [seqM]; rw [seqM_len es]; simp
theorem run_ok : ∀ (es : List T_iis) (t : ByteArray) (ms : List T_sib), (editRun t ms es).1 = 0 → OkRun t es ∧ editRun t ms es = (0, treeOf (seqT t es), seqM ms es) := by
  intro es
  induction es with
  | nil => intro t ms _; exact ⟨trivial, rfl⟩
  | cons e es ih =>
    intro t ms h
    simp only [editRun] at h ⊢
    cases hw : within t e with
    | false => rw [hw] at h; simp at h
    | true =>
      rw [hw] at h
      simp only [if_true] at h ⊢
      by_cases c : 65536 < (behind t e).size
      · rw [if_pos c] at h; simp at h
      · rw [if_neg c] at h ⊢
        obtain ⟨h1, h2⟩ := ih _ _ h
        exact ⟨⟨hw, by omega, h1⟩, h2⟩
theorem mFrom_map {t : ByteArray} {e : T_iis} (hw : within t e = true) : ∀ (l : List T_sib) (p : Option ByteArray), mFrom t.size p l = true → mFrom (behind t e).size p (l.map (mv e)) = true := by
  intro l
  induction l with
  | nil => intro p _; cases p <;> rfl
  | cons m l ih =>
    intro p h
    have hm : mOk t.size m = true → mOk (behind t e).size (mv e m) = true := fun h1 => by
      simp only [mOk, Bool.and_eq_true, decide_eq_true_eq] at h1 ⊢
      exact ⟨h1.1, mv_in hw h1.2⟩
    cases p with
    | none =>
      simp only [mFrom, List.map_cons, Bool.and_eq_true] at h ⊢
      exact ⟨hm h.1, ih _ h.2⟩
    | some q =>
      simp only [mFrom, List.map_cons, Bool.and_eq_true] at h ⊢
      exact ⟨hm h.1, h.2.1, ih _ h.2.2⟩
/-- a tree's rope -/
def GoodT (t : ByteArray) (ms : List T_sib) : Prop := t.size ≤ 65536 ∧ ms.length ≤ 100 ∧ mFrom t.size none ms = true ∧ ∀ m ∈ ms, m.1.size ≤ 1048576
theorem GoodT.good {t : ByteArray} {ms : List T_sib} (h : GoodT t ms) : good (treeOf t) ms = true := by
  obtain ⟨h1, h2, h3, _⟩ := h
  unfold Go.Proofs.YtkghicadebeceaaDoor.RG.good
  rw [textOf_tree]
  simp only [h3, decide_eq_true h1, decide_eq_true h2, Bool.true_and, Bool.and_true, decide_true]
theorem GoodT.fits {t : ByteArray} {ms : List T_sib} (h : GoodT t ms) : Fits (treeOf t) ms := by
  obtain ⟨h1, h2, _, h4⟩ := h
  exact ⟨treeOf_len t h1, by omega, by rw [textOf_tree]; omega, h4⟩
theorem GoodT.next {t : ByteArray} {ms : List T_sib} (h : GoodT t ms) {e : T_iis} (hw : within t e = true) (hs : (behind t e).size ≤ 65536) : GoodT (behind t e) (ms.map (mv e)) := by
  obtain ⟨h1, h2, h3, h4⟩ := h
  refine ⟨hs, by simpa using h2, mFrom_map hw ms none h3, fun m hm => ?_⟩
  obtain ⟨m0, h0, rfl⟩ := List.mem_map.1 hm
  exact h4 m0 h0
theorem GoodT.last : ∀ {es : List T_iis} {t : ByteArray} {ms : List T_sib}, GoodT t ms → OkRun t es → GoodT (seqT t es) (seqM ms es)
  | [], _, _, h, _ => h
  | e :: es, _, _, h, ho => GoodT.last (es := es) (h.next ho.1 ho.2.1) ho.2.2
theorem sameM_dec (x y : T_sib) : andB (bytesEq x.1 y.1) (andB (eqI x.2.1 y.2.1) (andB (eqB x.2.2 y.2.2) true)) = decide (x = y) := by
  obtain ⟨a, b, c⟩ := x
  obtain ⟨a', b', c'⟩ := y
  simp only [W, andB, Bool.and_true, Prod.mk.injEq]
  by_cases h1 : a = a'
  · by_cases h2 : b = b'
    · cases c <;> cases c' <;> simp [h1, h2]
    · simp [h1, h2]
  · simp [h1]
/-! ### the law's last loops -/
theorem L22_loop (x : List T_siiii) (ms M : List T_sib) (w o : Int) (x2 x4 : List T_siiii) (hM : M.length = ms.length) (hl : ms.length ≤ 1048576) (hms : ms = M) : ∀ (suf pre : List T_sib), M = pre ++ suf →
    Ev2 (fun k j => laws_FnRopeEdits_L22 k j (pre.length : Int) x ms w x2 M o x4 M) true := by
  subst hms
  intro suf
  induction suf with
  | nil =>
    intro pre hp
    have e := fun k j => laws_FnRopeEdits_L22.eq (pre.length : Int) x ms w x2 ms o x4 ms k j
    simp only [sameM_dec] at e
    simp only [W, W1, W2, if_neg (show ¬ (pre.length : Int) < (ms.length : Int) by rw [hp]; exact end_nlt pre)] at e
    exact Ev2.ret e
  | cons m suf ih =>
    intro pre hp
    have hle : pre.length + 1 ≤ ms.length := by rw [hp, List.length_append, List.length_cons]; omega
    have e := fun k j => laws_FnRopeEdits_L22.eq (pre.length : Int) x ms w x2 ms o x4 ms k j
    simp only [sameM_dec] at e
    simp only [W, W1, W2, if_pos (show (pre.length : Int) < (ms.length : Int) by omega), if_pos (nat_ge _), if_true, next_i pre m (by omega)] at e
    exact Ev2.step e (ih (pre ++ [m]) (by rw [hp]; simp))
theorem L22'1_loop (x : List T_siiii) (ms M : List T_sib) (w o : Int) (x2 x4 x6 : List T_siiii) (hM : M.length = ms.length) (hl : ms.length ≤ 1048576) : ∀ (suf pre : List T_sib), M = pre ++ suf →
    Ev2 (fun k j => laws_FnRopeEdits_L22'1 k j (pre.length : Int) x ms w x2 M o x4 M x6 M) true := by
  intro suf
  induction suf with
  | nil =>
    intro pre hp
    have e := fun k j => laws_FnRopeEdits_L22'1.eq (pre.length : Int) x ms w x2 M o x4 M x6 M k j
    simp only [sameM_dec] at e
    simp only [W, W1, W2, if_neg (show ¬ (pre.length : Int) < (ms.length : Int) by rw [← hM, hp]; exact end_nlt pre)] at e
    exact Ev2.ret e
  | cons m suf ih =>
    intro pre hp
    have hle : pre.length + 1 ≤ M.length := by rw [hp, List.length_append, List.length_cons]; omega
    have e := fun k j => laws_FnRopeEdits_L22'1.eq (pre.length : Int) x ms w x2 M o x4 M x6 M k j
    simp only [sameM_dec] at e
    simp only [W, W1, W2, if_pos (show (pre.length : Int) < (ms.length : Int) by omega), if_pos (show (pre.length : Int) < (M.length : Int) by omega), if_pos (nat_ge _), if_true, next_i pre m (by omega)] at e
    exact Ev2.step e (ih (pre ++ [m]) (by rw [hp]; simp))
theorem edit_one {t : ByteArray} {ms : List T_sib} (h : GoodT t ms) {e : T_iis} (hw : within t e = true) (hs : (behind t e).size ≤ 65536) (he : e.2.2.size ≤ 1048576) : Ev (fun k => impl_EditRope k (treeOf t) ms [(e.1, (e.2.1, e.2.2))]) (0, treeOf (behind t e), ms.map (mv e)) := by
  have h1 := implEdit h.fits [e] (fun q hq => by simp only [List.mem_singleton] at hq; subst hq; exact he)
  have h2 : edited (treeOf t) ms [e] = (0, treeOf (behind t e), ms.map (mv e)) := by
    unfold edited
    rw [if_neg (by simp), h.good, textOf_tree]
    show editRun t ms [e] = _
    simp only [editRun, hw, if_true]
    rw [if_neg (by omega)]
  rw [h2] at h1
  exact h1
theorem L11'1_loop (x : List T_siiii) (ms0 : List T_sib) (edits : List T_iis) (hl : edits.length ≤ 1048576) (w o : Int) (x2 : List T_siiii) (tn : ByteArray) (M : List T_sib) (hn : GoodT tn M) (hM : M.length = ms0.length) (hE : ∀ e ∈ edits, e.2.2.size ≤ 1048576) : ∀ (suf pre : List T_iis) (t : ByteArray) (ms : List T_sib), edits = pre ++ suf → GoodT t ms → OkRun t suf → tn = seqT t suf → M = seqM ms suf →
    Ev2 (fun k j => laws_FnRopeEdits_L11'1 k j t (pre.length : Int) x ms0 edits w x2 M o (treeOf tn) M (treeOf t) ms) true := by
  have h0 : ms0.length ≤ 1048576 := by have := hn.2.1; omega
  intro suf
  induction suf with
  | nil =>
    intro pre t ms hp hg ho ht hm
    have ht : tn = t := ht
    have hm : M = ms := hm
    subst ht hm
    have e := fun k j => laws_FnRopeEdits_L11'1.eq tn (pre.length : Int) x ms0 edits w x2 M o (treeOf tn) M (treeOf tn) M k j
    simp only [W, W1, W2, W3, if_neg (show ¬ (pre.length : Int) < (edits.length : Int) by rw [hp]; exact end_nlt pre)] at e
    have l1 := implFault hn.fits
    have l2 := implShown hn.fits
    have f0 : faultOf (treeOf tn) M = 0 := by unfold faultOf; rw [hn.good]; rfl
    have s0 : shown (treeOf tn) M = tn := by unfold shown; rw [hn.good, textOf_tree]; rfl
    rw [f0] at l1
    rw [s0] at l2
    refine Ev2.step e (Ev2.bind l1 ?_)
    simp only [if_true]
    refine Ev2.bind l2 ?_
    simp only [if_true]
    refine Ev2.bind l2 ?_
    simp only [if_true, hM]
    exact (L22'1_loop x ms0 M w o x2 (treeOf tn) (treeOf tn) hM h0 M [] rfl).ev.two
  | cons q suf ih =>
    intro pre t ms hp hg ho ht hm
    obtain ⟨hw, hs, ho2⟩ := ho
    have hle : pre.length + 1 ≤ edits.length := by rw [hp, List.length_append, List.length_cons]; omega
    have hqs := hE q (by rw [hp]; simp)
    have hr : rd edits (pre.length : Int) (0, (0, (bs []))) = q := by rw [hp]; exact rd_mid pre suf q _
    have hw' := hw
    simp only [within, decide_eq_true_eq] at hw'
    have hts := hg.1
    have e := fun k j => laws_FnRopeEdits_L11'1.eq t (pre.length : Int) x ms0 edits w x2 M o (treeOf tn) M (treeOf t) ms k j
    simp only [hr] at e
    have a3 : addI .i64 q.1 q.2.1 = q.1 + q.2.1 := addI_i64 (by omega) (by omega)
    have s1 : ((t.extract 0 q.1.toNat).size : Int) + (q.2.2.size : Int) ≤ 9223372036854775807 := by rw [ByteArray.size_extract]; omega
    have s2 : (((t.extract 0 q.1.toNat ++ q.2.2).size : Nat) : Int) + ((t.extract (q.1 + q.2.1).toNat t.size).size : Int) ≤ 9223372036854775807 := by rw [ByteArray.size_append, ByteArray.size_extract, ByteArray.size_extract]; omega
    simp only [W, W1, W2, W3, a3, if_pos (show (pre.length : Int) < (edits.length : Int) by omega), if_pos (nat_ge _), if_pos (show (0 : Int) ≤ q.1 by omega), if_pos (show q.1 ≤ (t.size : Int) by omega), Int.toNat_zero, Int.toNat_natCast, if_pos s1, if_pos (show (0 : Int) ≤ q.1 + q.2.1 by omega), if_pos (show q.1 + q.2.1 ≤ (t.size : Int) by omega), if_pos s2, next_i pre q (by omega)] at e
    refine Ev2.step e (Ev2.bind (edit_one hg hw hs hqs) ?_)
    simp only [if_true]
    exact ih (pre ++ [q]) (behind t q) (ms.map (mv q)) (by rw [hp]; simp) (hg.next hw hs) ho2 ht hm
theorem L11_ev (t : ByteArray) (ms : List T_sib) (edits : List T_iis) (hl : edits.length ≤ 1048576) (w o : Int) (x2 : List T_siiii) (hg : GoodT t ms) (ho : OkRun t edits) (hE : ∀ e ∈ edits, e.2.2.size ≤ 1048576) :
    Ev (fun k => laws_FnRopeEdits_L11 k k t 0 (treeOf t) ms edits w x2 (seqM ms edits) o (treeOf (seqT t edits)) (seqM ms edits)) true := by
  have hn : GoodT (seqT t edits) (seqM ms edits) := hg.last ho
  have hM := seqM_len edits ms
  have h0 : ms.length ≤ 1048576 := by have := hg.2.1; omega
  have key : Ev2 (fun k j => laws_FnRopeEdits_L11 k j t 0 (treeOf t) ms edits w x2 (seqM ms edits) o (treeOf (seqT t edits)) (seqM ms edits)) true := by
    cases edits with
    | nil =>
      have e := fun k j => laws_FnRopeEdits_L11.eq t 0 (treeOf t) ms [] w x2 ms o (treeOf t) ms k j
      simp only [W, W1, W2, W3, if_neg (show ¬ (0 : Int) < (([] : List T_iis).length : Int) by simp)] at e
      have l1 := implFault hg.fits
      have l2 := implShown hg.fits
      have f0 : faultOf (treeOf t) ms = 0 := by unfold faultOf; rw [hg.good]; rfl
      have s0 : shown (treeOf t) ms = t := by unfold shown; rw [hg.good, textOf_tree]; rfl
      rw [f0] at l1
      rw [s0] at l2
      refine Ev2.step e (Ev2.bind l1 ?_)
      simp only [if_true]
      refine Ev2.bind l2 ?_
      simp only [if_true]
      refine Ev2.bind l2 ?_
      simp only [if_true]
      exact (L22_loop (treeOf t) ms ms w o x2 (treeOf t) rfl h0 rfl ms [] rfl).ev.two
    | cons q es =>
      obtain ⟨hw, hs, ho2⟩ := ho
      have hqs := hE q (by simp)
      have hr : rd (q :: es) 0 (0, (0, (bs []))) = q := rd_mid [] es q _
      have hw' := hw
      simp only [within, decide_eq_true_eq] at hw'
      have hts := hg.1
      have e := fun k j => laws_FnRopeEdits_L11.eq t 0 (treeOf t) ms (q :: es) w x2 (seqM ms (q :: es)) o (treeOf (seqT t (q :: es))) (seqM ms (q :: es)) k j
      simp only [hr] at e
      have a3 : addI .i64 q.1 q.2.1 = q.1 + q.2.1 := addI_i64 (by omega) (by omega)
      have a0 : addI .i64 0 1 = (1 : Int) := addI_i64 (by omega) (by omega)
      have s1 : ((t.extract 0 q.1.toNat).size : Int) + (q.2.2.size : Int) ≤ 9223372036854775807 := by rw [ByteArray.size_extract]; omega
      have s2 : (((t.extract 0 q.1.toNat ++ q.2.2).size : Nat) : Int) + ((t.extract (q.1 + q.2.1).toNat t.size).size : Int) ≤ 9223372036854775807 := by rw [ByteArray.size_append, ByteArray.size_extract, ByteArray.size_extract]; omega
      simp only [W, W1, W2, W3, a0, a3, if_pos (show (0 : Int) < ((q :: es).length : Int) by simp), if_pos (show (0 : Int) ≤ 0 by omega), if_pos (show (0 : Int) ≤ q.1 by omega), if_pos (show q.1 ≤ (t.size : Int) by omega), Int.toNat_zero, Int.toNat_natCast, if_pos s1, if_pos (show (0 : Int) ≤ q.1 + q.2.1 by omega), if_pos (show q.1 + q.2.1 ≤ (t.size : Int) by omega), if_pos s2] at e
      refine Ev2.step e (Ev2.bind (edit_one hg hw hs hqs) ?_)
      simp only [if_true]
      exact L11'1_loop (treeOf t) ms (q :: es) hl w o x2 (seqT t (q :: es)) (seqM ms (q :: es)) hn hM hE es [q] (behind t q) (ms.map (mv q)) rfl (hg.next hw hs) ho2 rfl rfl
  exact key.ev
theorem pure_FnRopeEdits (code : List Int) (h1 : CT.good (.row e_y) code) : ∃ k, laws_FnRopeEdits k code = some true := by
  refine Ev.has (r := true) ?_
  have e := fun k => laws_FnRopeEdits.eq code k
  simp only [W, W1, W2, W3] at e
  by_cases c1 : 1048576 < code.length
  · simp only [if_pos (show (1048576 : Int) < (code.length : Int) by omega)] at e
    exact Ev.ret e
  simp only [if_neg (show ¬ (1048576 : Int) < (code.length : Int) by omega)] at e
  obtain ⟨r, ms, edits, hd, hf, hl, hE⟩ := drawEdits code (by omega)
  have hspec := specEdit hf edits hE
  have himpl := implEdit hf edits hE
  refine Ev.step e (Ev.bind hd (Ev.bind hspec (Ev.bind himpl ?_)))
  by_cases c : (edited r ms edits).1 = 0
  · unfold edited at c
    by_cases c3 : 1000 < edits.length
    · rw [if_pos c3] at c; simp at c
    rw [if_neg c3] at c
    rcases fault_cases r ms with ⟨hgd, _⟩ | ⟨hgd, _⟩
    · rw [hgd] at c
      have c : (editRun (textOf r) ms edits).1 = 0 := c
      obtain ⟨ho, hrun⟩ := run_ok edits (textOf r) ms c
      have hed : edited r ms edits = (0, treeOf (seqT (textOf r) edits), seqM ms edits) := by
        unfold edited
        rw [if_neg c3, hgd]
        exact hrun
      have hgd2 := hgd
      simp only [good, Bool.and_eq_true, decide_eq_true_eq] at hgd2
      have hg : GoodT (textOf r) ms := ⟨hgd2.1, hgd2.2.1, hgd2.2.2.2, fun m hm => by have := hf.m m hm; omega⟩
      have hrt : treeOf (textOf r) = r := hgd2.2.2.1
      rw [hed]
      simp only [if_true]
      have hsh := specShown hf
      have s0 : shown r ms = textOf r := by unfold shown; rw [hgd]; rfl
      rw [s0] at hsh
      refine Ev.bind hsh ?_
      have := L11_ev (textOf r) ms edits (by omega) 0 0 (treeOf (seqT (textOf r) edits)) hg ho hE
      rw [hrt] at this
      exact this
    · rw [hgd] at c; exact absurd (show (1 : Int) = 0 from c) (by omega)
  · simp only [if_true, if_neg c, decide_true]
    exact Ev.now _
#print axioms pure_FnRopeEdits
end Go.Proofs.YtkghicadebeceaaDoor.RG
