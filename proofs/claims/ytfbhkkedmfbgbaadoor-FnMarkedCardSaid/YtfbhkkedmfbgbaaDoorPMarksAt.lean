/- MarksAt, plainly: the names of the marks of a stretch, in order of their places. -/
import Derived.Test.YtfbhkkedmfbgbaaDoorPSortM
import Derived.Test.YtfbhkkedmfbgbaaDoorPMarkA
namespace Go.Proofs.YtfbhkkedmfbgbaaDoor.PM
open Go.Eng Go.RowKit
set_option linter.unusedVariables false
set_option linter.unusedSimpArgs false
theorem Same.perm {α : Type} {kf : α → Int} {l r : List α} (h : Same kf l r) : l.Perm r := by
  haveI : DecidableEq α := fun a b => Classical.propDecidable (a = b)
  refine List.perm_iff_count.2 fun a => ?_
  have e : ∀ s : List α, s.count a = (s.filter fun x => decide (kf x = kf a)).count a := fun s => by rw [List.count_filter (by simp)]
  rw [e l, e r, h.2]
theorem Same.filt {α : Type} {kf : α → Int} {l r : List α} (p : α → Bool) (hp : ∀ x y, kf x = kf y → p x = p y) (h : Same kf l r) : Same kf (l.filter p) (r.filter p) := by
  refine ⟨(h.perm.filter p).length_eq, fun c => ?_⟩
  have sw : ∀ s : List α, (s.filter p).filter (fun x => decide (kf x = c)) = (s.filter fun x => decide (kf x = c)).filter p := fun s => by
    rw [List.filter_filter, List.filter_filter]
    exact List.filter_congr fun x _ => Bool.and_comm _ _
  rw [sw, sw, h.2 c]
def inR (a b : Int) (m : T_sib) : Bool := decide (a ≤ m.2.1 ∧ m.2.1 ≤ b)
theorem inI_ev (p a b : Int) : Ev (fun k => impl_in k p a b) (decide (a ≤ p ∧ p ≤ b)) := by
  refine Ev.ret fun k => ?_
  rw [impl_in.eq]
  simp only [W, W1]
  by_cases c1 : a ≤ p
  · by_cases c2 : p ≤ b
    · simp [c1, c2]
    · simp [c1, c2]
  · simp [c1]
/-! ### the program -/
theorem implAt1 (a b : Int) (l : List T_sib) (hl : l.length ≤ 1048576) : ∀ (suf pre : List T_sib) (out : List ByteArray), l = pre ++ suf → out.length ≤ pre.length →
    Ev2 (fun k j => impl_MarksAt_L7'1 k j a b (l.length : Int) (pre.length : Int) out l) (out ++ (suf.filter (inR a b)).map (·.1))
  | [], pre, out, hp, ho => by
    refine Ev2.ret fun k j => ?_
    rw [impl_MarksAt_L7'1.eq, hp]
    simp only [W, W1]
    rw [if_neg (end_nlt pre)]
    simp
  | x :: suf, pre, out, hp, ho => by
    have hle : pre.length + 1 ≤ l.length := by rw [hp]; simp
    have hr : rd l (pre.length : Int) (bs [], (0, false)) = x := by rw [hp]; exact rd_mid pre suf x _
    have e := fun k j => impl_MarksAt_L7'1.eq a b (l.length : Int) (pre.length : Int) out l k j
    simp only [W, W1, W2, W3, hr, if_pos (nat_ge _), if_pos (show (pre.length : Int) < (l.length : Int) by omega), List.length_singleton, if_pos (show (((out.length : Nat) : Int) + ((1 : Nat) : Int)) * 16 < 140737488355328 by omega), next_i pre x (by omega)] at e
    refine Ev2.step e (Ev2.bind (inI_ev _ a b) ?_)
    rw [List.filter_cons]
    by_cases c : inR a b x = true
    · have c' : a ≤ x.2.1 ∧ x.2.1 ≤ b := by simpa [inR] using c
      simp only [if_pos c, decide_eq_true c', W1]
      have := implAt1 a b l hl suf (pre ++ [x]) (out ++ [x.1]) (by rw [hp]; simp) (by simp; omega)
      simpa using this
    · have c' : ¬ (a ≤ x.2.1 ∧ x.2.1 ≤ b) := by simpa [inR] using c
      simp only [if_neg c, decide_eq_false c', W1]
      exact implAt1 a b l hl suf (pre ++ [x]) out (by rw [hp]; simp) (by simp; omega)
theorem implAt0 (a b : Int) (l : List T_sib) (hl : l.length ≤ 1048576) : ∀ (suf pre : List T_sib), l = pre ++ suf →
    Ev2 (fun k j => impl_MarksAt_L7 k j a b (l.length : Int) (pre.length : Int) l) ((suf.filter (inR a b)).map (·.1))
  | [], pre, hp => by
    refine Ev2.ret fun k j => ?_
    rw [impl_MarksAt_L7.eq, hp]
    simp only [W, W1]
    rw [if_neg (end_nlt pre)]
    simp
  | x :: suf, pre, hp => by
    have hle : pre.length + 1 ≤ l.length := by rw [hp]; simp
    have hr : rd l (pre.length : Int) (bs [], (0, false)) = x := by rw [hp]; exact rd_mid pre suf x _
    have e := fun k j => impl_MarksAt_L7.eq a b (l.length : Int) (pre.length : Int) l k j
    simp only [W, W1, W2, W3, hr, if_pos (nat_ge _), if_pos (show (pre.length : Int) < (l.length : Int) by omega), List.length_singleton, List.length_nil, if_pos (show (((0 : Nat) : Int) + ((1 : Nat) : Int)) * 16 < 140737488355328 by omega), next_i pre x (by omega), List.nil_append] at e
    refine Ev2.step e (Ev2.bind (inI_ev _ a b) ?_)
    rw [List.filter_cons]
    by_cases c : inR a b x = true
    · have c' : a ≤ x.2.1 ∧ x.2.1 ≤ b := by simpa [inR] using c
      simp only [if_pos c, decide_eq_true c', W1]
      have := implAt1 a b l hl suf (pre ++ [x]) [x.1] (by rw [hp]; simp) (by simp)
      simpa using this
    · have c' : ¬ (a ≤ x.2.1 ∧ x.2.1 ≤ b) := by simpa [inR] using c
      simp only [if_neg c, decide_eq_false c', W1]
      exact implAt0 a b l hl suf (pre ++ [x]) (by rw [hp]; simp)
/-! ### the reference -/
theorem specPut (a b : Int) (i : Int) (r : List T_siiii) (ms : List T_sib) (x : T_sib) : ∀ (n : Nat) (s1 s2 : List T_sib) (z : ByteArray) (zi : Int), s1.length = n → n + s2.length ≤ 1048576 → Srt keyM (s1 ++ s2) → (∀ q ∈ s2, keyM x < keyM q) →
    ∃ u, Same keyM (s1 ++ s2 ++ [x]) u ∧ Srt keyM u ∧ ∀ v, Ev2 (fun k j => spec_MarksAt_L6 k j a b (addI .i64 i 1) r ms (u.map (·.1)) (u.map (·.2.1))) v →
      Ev3 (fun k j p => spec_MarksAt_L13 k j p a b i (n : Int) r ms (s1.map (·.1) ++ z :: s2.map (·.1)) (s1.map (·.2.1) ++ zi :: s2.map (·.2.1)) x.1 x.2.1 x.2.2) v
  | 0, s1, s2, z, zi, hn, hl, hs, hg => by
    obtain rfl := List.length_eq_zero_iff.1 hn
    refine ⟨x :: s2, ?_, srt_cons.2 ⟨fun q hq => Int.le_of_lt (hg q hq), hs⟩, fun v hv => Ev3.step (fun k j p => ?_) hv.three⟩
    · rw [List.nil_append]
      exact Same.turn fun p hp q hq => by rw [List.mem_singleton.1 hq]; exact hg p hp
    · rw [spec_MarksAt_L13.eq]
      simp only [W, W1, W2, List.map_nil, List.nil_append, List.length_cons, List.length_map, if_neg (show ¬ (0 : Int) < ((0 : Nat) : Int) by omega), if_pos (nat_ge 0), if_pos (show ((0 : Nat) : Int) < ((s2.length + 1 : Nat) : Int) by omega)]
      rfl
  | n + 1, s1, s2, z, zi, hn, hl, hs, hg => by
    obtain ⟨s1, y, rfl⟩ : ∃ l y, s1 = l ++ [y] := ⟨s1.dropLast, s1.getLast (fun h => by rw [h] at hn; cases hn), (List.dropLast_concat_getLast _).symm⟩
    have hn' : s1.length = n := by simpa using hn
    obtain ⟨p1, p2, p3⟩ := srt_app.1 hs
    have es : subI .i64 ((n + 1 : Nat) : Int) 1 = (n : Int) := by rw [subI_i64 (by omega) (by omega)]; omega
    have eA : (s1 ++ [y]).map (fun m : T_sib => m.1) ++ z :: s2.map (·.1) = s1.map (·.1) ++ y.1 :: ([] ++ z :: s2.map (·.1)) := by simp
    have eB : (s1 ++ [y]).map (fun m : T_sib => m.2.1) ++ zi :: s2.map (·.2.1) = s1.map (·.2.1) ++ y.2.1 :: ([] ++ zi :: s2.map (·.2.1)) := by simp
    have r1 := rd_mid (s1.map (fun m : T_sib => m.1)) ([] ++ z :: s2.map (·.1)) y.1 (bs [])
    have r2 := rd_mid (s1.map (fun m : T_sib => m.2.1)) ([] ++ zi :: s2.map (·.2.1)) y.2.1 0
    rw [List.length_map, hn'] at r1 r2
    have st1 : ∀ q : ByteArray, (s1.map (fun m : T_sib => m.1) ++ y.1 :: ([] ++ z :: s2.map (·.1))).set (n + 1) q = (s1 ++ [y]).map (·.1) ++ q :: s2.map (·.1) := fun q => by
      rw [← eA, List.set_append_right _ _ (by simp; omega)]
      simp [hn']
    have st2 : ∀ q : Int, (s1.map (fun m : T_sib => m.2.1) ++ y.2.1 :: ([] ++ zi :: s2.map (·.2.1))).set (n + 1) q = (s1 ++ [y]).map (·.2.1) ++ q :: s2.map (·.2.1) := fun q => by
      rw [← eB, List.set_append_right _ _ (by simp; omega)]
      simp [hn']
    have l1 : (s1.map (fun m : T_sib => m.1) ++ y.1 :: ([] ++ z :: s2.map (·.1))).length = n + 2 + s2.length := by simp [hn']; omega
    have l2 : (s1.map (fun m : T_sib => m.2.1) ++ y.2.1 :: ([] ++ zi :: s2.map (·.2.1))).length = n + 2 + s2.length := by simp [hn']; omega
    rw [eA, eB]
    have e := fun k j p => spec_MarksAt_L13.eq a b i ((n + 1 : Nat) : Int) r ms (s1.map (·.1) ++ y.1 :: ([] ++ z :: s2.map (·.1))) (s1.map (·.2.1) ++ y.2.1 :: ([] ++ zi :: s2.map (·.2.1))) x.1 x.2.1 x.2.2 k j p
    simp only [W, W1, W2, es, r1, r2, l1, l2, Int.toNat_natCast, st1, st2, if_pos (show (0 : Int) < ((n + 1 : Nat) : Int) by omega), if_pos (nat_ge n), if_pos (nat_ge (n + 1)), if_pos (show (n : Int) < ((n + 2 + s2.length : Nat) : Int) by omega), if_pos (show ((n + 1 : Nat) : Int) < ((n + 2 + s2.length : Nat) : Int) by omega)] at e
    by_cases g : x.2.1 < y.2.1
    · simp only [if_pos g] at e
      have hs' : Srt keyM (s1 ++ ([y] ++ s2)) := by rw [← List.append_assoc]; exact hs
      obtain ⟨u, u1, u2, u3⟩ := specPut a b i r ms x n s1 ([y] ++ s2) y.1 y.2.1 hn' (by simp at hn hl ⊢; omega) hs' (fun q hq => by
        rcases List.mem_append.1 hq with h | h
        · rw [List.mem_singleton.1 h]; exact g
        · exact hg q h)
      refine ⟨u, by simpa using u1, u2, fun v hv => Ev3.step e ?_⟩
      have := u3 v hv
      simpa using this
    · simp only [if_neg g] at e
      refine ⟨s1 ++ [y] ++ x :: s2, ?_, ?_, fun v hv => Ev3.step e ?_⟩
      · have t : Same keyM (s2 ++ [x]) ([x] ++ s2) := Same.turn fun p hp q hq => by rw [List.mem_singleton.1 hq]; exact hg p hp
        have := (Same.refl (kf := keyM) (s1 ++ [y])).app t
        simpa using this
      · refine srt_app.2 ⟨p1, srt_cons.2 ⟨fun q hq => Int.le_of_lt (hg q hq), p2⟩, fun p hp q hq => ?_⟩
        rcases List.mem_cons.1 hq with h | h
        · rw [h]
          obtain ⟨_, _, k3⟩ := srt_app.1 p1
          have gg : keyM y ≤ keyM x := by unfold keyM; omega
          rcases List.mem_append.1 hp with h' | h'
          · have := k3 p h' y (List.mem_singleton.2 rfl); omega
          · rw [List.mem_singleton.1 h']; exact gg
        · exact p3 p hp q h
      · have := hv.three
        simpa using this
theorem specAt (a b : Int) (r : List T_siiii) (l : List T_sib) (hl : l.length ≤ 1048576) : ∀ (suf pre S : List T_sib), l = pre ++ suf → S.length ≤ pre.length → Srt keyM S →
    ∃ u, Same keyM (S ++ suf.filter (inR a b)) u ∧ Srt keyM u ∧ Ev2 (fun k j => spec_MarksAt_L6 k j a b (pre.length : Int) r l (S.map (·.1)) (S.map (·.2.1))) (u.map (·.1))
  | [], pre, S, hp, hS, hs => by
    refine ⟨S, by simp; exact Same.refl _, hs, Ev2.ret fun k j => ?_⟩
    rw [spec_MarksAt_L6.eq, hp]
    simp only [W, W1, W2]
    rw [if_neg (end_nlt pre)]
  | x :: suf, pre, S, hp, hS, hs => by
    have hle : pre.length + 1 ≤ l.length := by rw [hp]; simp
    have hr : rd l (pre.length : Int) (bs [], (0, false)) = x := by rw [hp]; exact rd_mid pre suf x _
    have e := fun k j => spec_MarksAt_L6.eq a b (pre.length : Int) r l (S.map (·.1)) (S.map (·.2.1)) k j
    simp only [W, W1, W2, hr, List.length_map, List.length_singleton, if_pos (nat_ge _), if_pos (show (pre.length : Int) < (l.length : Int) by omega), if_pos (show (((S.length : Nat) : Int) + ((1 : Nat) : Int)) * 16 < 140737488355328 by omega), if_pos (show (((S.length : Nat) : Int) + ((1 : Nat) : Int)) * 8 < 140737488355328 by omega)] at e
    rw [List.filter_cons]
    by_cases c : inR a b x = true
    · have c' : a ≤ x.2.1 ∧ x.2.1 ≤ b := by simpa [inR] using c
      simp only [if_neg (show ¬ x.2.1 < a by omega), if_neg (show ¬ b < x.2.1 by omega)] at e
      obtain ⟨S', h1, h2, h3⟩ := specPut a b (pre.length : Int) r l x S.length S [] (bs []) 0 rfl (by simp; omega) (by rw [List.append_nil]; exact hs) (fun q hq => by cases hq)
      have hS' := h1.1
      simp only [List.append_nil, List.length_append, List.length_singleton] at hS' h1
      obtain ⟨u, g1, g2, g3⟩ := specAt a b r l hl suf (pre ++ [x]) S' (by rw [hp]; simp) (by simp; omega) h2
      refine ⟨u, ?_, g2, Ev2.step e (Ev3.two (g := fun k j p => spec_MarksAt_L13 k j p a b (pre.length : Int) (S.length : Int) r l (S.map (·.1) ++ [bs []]) (S.map (·.2.1) ++ [0]) x.1 x.2.1 x.2.2) ?_)⟩
      · rw [if_pos c]
        have := h1.app (Same.refl (kf := keyM) (suf.filter (inR a b)))
        refine Same.trans ?_ (this.trans g1)
        simp; exact Same.refl _
      · rw [next_i pre x (by omega)] at h3
        exact h3 _ g3
    · have c' : ¬ (a ≤ x.2.1 ∧ x.2.1 ≤ b) := by simpa [inR] using c
      obtain ⟨u, g1, g2, g3⟩ := specAt a b r l hl suf (pre ++ [x]) S (by rw [hp]; simp) (by simp; omega) hs
      refine ⟨u, by rw [if_neg c]; exact g1, g2, ?_⟩
      rw [← next_i pre x (by omega)] at g3
      by_cases c1 : x.2.1 < a
      · simp only [if_pos c1] at e
        exact Ev2.step e g3
      · simp only [if_neg c1, if_pos (show b < x.2.1 by omega)] at e
        exact Ev2.step e g3
/-! ### both -/
theorem clone_ev (ms : List T_sib) (h : ms.length ≤ 1048576) : Ev (fun k => slices_Clone_Mark_Mark k ms) ms := by
  refine Ev.ret fun k => ?_
  have e : slices_Clone_Mark_Mark (k + 1) ms = chk (ltI (mulZ (addZ (ln ([] : List T_sib)) (ln ms)) 32) 140737488355328) (some (catL [] ms)) := by kernel_rfl
  rw [e]
  simp only [W, W1, W2, List.length_nil]
  rw [if_pos (by simp; omega)]
  rfl
theorem bothS {r : List T_siiii} {ms : List T_sib} (h : Fits r ms) (a b : Int) : ∃ ans, ans.length ≤ 1048576 ∧ (good r ms = true → ∃ s, ms.Perm s ∧ ans = (s.filter (inR a b)).map (·.1)) ∧ Ev (fun k => impl_MarksAt k r ms a b) ans ∧ Ev (fun k => spec_MarksAt k r ms a b) ans := by
  have e1 := fun k => impl_MarksAt.eq r ms a b k
  have e2 := fun k => spec_MarksAt.eq r ms a b k
  simp only [W, W1, W3] at e1 e2
  rcases fault_cases r ms with ⟨h1, h2⟩ | ⟨h1, h2⟩
  · obtain ⟨s, s1, s2, s3⟩ := sortM ms h.l2
    have hsl := s1.1
    obtain ⟨u, u1, u2, u3⟩ := specAt a b r ms h.l2 ms [] [] rfl (Nat.le_refl _) srt_nil
    have hu : s.filter (inR a b) = u := by
      have f := s1.filt (inR a b) (fun x y hxy => by unfold keyM at hxy; unfold inR; rw [hxy])
      rw [List.nil_append] at u1
      exact (f.symm.trans u1).one (List.Pairwise.filter _ s2) u2
    refine ⟨u.map (·.1), ?_, fun _ => ⟨s, s1.perm, by rw [hu]⟩, Ev.step e1 (Ev.bind (implFault h) ?_), Ev.step e2 (Ev.bind (specFault h) ?_)⟩
    · rw [List.length_map, ← hu]
      have := List.length_filter_le (inR a b) s
      have := h.l2
      omega
    · rw [h2]
      simp only [if_true]
      refine Ev.bind (clone_ev ms h.l2) (Ev.bind s3 ?_)
      have := implAt0 a b s (by have := h.l2; omega) s [] rfl
      rw [hu] at this
      exact this.ev
    · rw [h2]
      simp only [if_true]
      exact u3.ev
  · refine ⟨[], by simp, fun hg => (by rw [h1] at hg; cases hg), Ev.step e1 (Ev.bind (implFault h) ?_), Ev.step e2 (Ev.bind (specFault h) ?_)⟩
    · rw [h2]
      simp only [if_neg (show ¬ (1 : Int) = 0 by omega)]
      exact Ev.now _
    · rw [h2]
      simp only [if_neg (show ¬ (1 : Int) = 0 by omega)]
      exact Ev.now _
theorem both {r : List T_siiii} {ms : List T_sib} (h : Fits r ms) (a b : Int) : ∃ ans, ans.length ≤ 1048576 ∧ Ev (fun k => impl_MarksAt k r ms a b) ans ∧ Ev (fun k => spec_MarksAt k r ms a b) ans :=
  let ⟨ans, h1, _, h2, h3⟩ := bothS h a b
  ⟨ans, h1, h2, h3⟩
end Go.Proofs.YtfbhkkedmfbgbaaDoor.PM
