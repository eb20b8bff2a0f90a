/-
  Undo and Redo, plainly: how far the program and the reference go back or on.
-/
import Derived.Test.YtopbiepiceajnaaQx5
import Derived.Test.YtopbiepiceajnaaQx6
import Derived.Test.YtopbiepiceajnaaXPre
import Derived.Test.YtopbiepiceajnaaXHist
namespace Go.Proofs.Ytopbiepiceajnaa.XHist
open Go.RowKit Go.Proofs.Ytopbiepiceajnaa.Q Go.Proofs.YtopbiepiceajnaaW.PrintWords Go.Proofs.Ytopbiepiceajnaa.XPre
set_option linter.unusedVariables false
set_option linter.unusedSimpArgs false

def back (l : List S68) (g : Int) : Nat → Nat
  | 0 => 0
  | n + 1 => if (rd_T68 l (n : Int)).f3 = g then back l g n else n + 1
def backTo (l : List S68) (g : Int) (n : Nat) : Nat := if g > 0 then back l g n else n
theorem back_le (l : List S68) (g : Int) : ∀ n, back l g n ≤ n := by
  intro n
  induction n with
  | zero => exact Nat.le_refl _
  | succ n ih => simp only [back]; split <;> omega
theorem backTo_le (l : List S68) (g : Int) (n : Nat) : backTo l g n ≤ n := by
  unfold backTo
  split
  · exact back_le l g n
  · exact Nat.le_refl _
theorem clone_ev (l : List S68) (hl : l.length ≤ 1048576) : impl_Step.f l = some l := by
  unfold impl_Step.f
  rw [if_pos (by omega)]
theorem implUndo_loop (ts : List ByteArray) (b : ByteArray) (l : List S68) (d g : Int) (hl : l.length ≤ 1048576) (ht : ts.length = l.length + 1) : ∀ n : Nat, n ≤ l.length →
    Ev (fun k => impl_Undo.l0 k ts (n : Int) g b l d) (0, b, l, (backTo l g n : Int), rdOf ByteArray.empty ts (backTo l g n : Int)) := by
  intro n
  induction n with
  | zero =>
    intro hn
    have e : backTo l g 0 = 0 := by unfold backTo; split <;> rfl
    rw [e]
    refine Ev.ret fun k => ?_
    simp only [impl_Undo.l0, clone_ev l hl, Option.bind_some]
    by_cases c : g > 0
    · rw [if_pos c, if_neg (by omega), if_pos (by omega), if_pos (by omega)]
    · rw [if_neg c, if_pos (by omega), if_pos (by omega)]
  | succ n ih =>
    intro hn
    have e1 : wrap64 (((n + 1 : Nat) : Int) - 1) = (n : Int) := by rw [w64 (by omega) (by omega)]; omega
    by_cases c : g > 0
    · by_cases c2 : (rd_T68 l (n : Int)).f3 = g
      · have e : backTo l g (n + 1) = backTo l g n := by unfold backTo; rw [if_pos c, if_pos c]; simp only [back, if_pos c2]
        rw [e]
        refine Ev.step (fun k => ?_) (ih (by omega))
        simp only [impl_Undo.l0]
        rw [if_pos c, if_pos (by omega), e1, if_pos (by omega), if_pos (by omega), if_pos c2]
      · have e : backTo l g (n + 1) = n + 1 := by unfold backTo; rw [if_pos c]; simp only [back, if_neg c2]
        rw [e]
        refine Ev.ret fun k => ?_
        simp only [impl_Undo.l0]
        rw [if_pos c, if_pos (by omega), e1, if_pos (by omega), if_pos (by omega), if_neg c2, clone_ev l hl, Option.bind_some, if_pos (by omega), if_pos (by omega)]
    · have e : backTo l g (n + 1) = n + 1 := by unfold backTo; rw [if_neg c]
      rw [e]
      refine Ev.ret fun k => ?_
      simp only [impl_Undo.l0]
      rw [if_neg c, clone_ev l hl, Option.bind_some, if_pos (by omega), if_pos (by omega)]
theorem specBack_loop (b : ByteArray) (l : List S68) (g : Int) (hl : l.length ≤ 1048576) : ∀ n : Nat, n ≤ l.length →
    Ev (fun k => spec_l21Move.l0 k (-1) g b l (n : Int)) (b, l, (backTo l g n : Int), true) := by
  intro n
  induction n with
  | zero =>
    intro hn
    have e : backTo l g 0 = 0 := by unfold backTo; split <;> rfl
    rw [e]
    refine Ev.ret fun k => ?_
    simp only [spec_l21Move.l0, spec_l21Next.f]
    by_cases c : g > 0
    · rw [if_pos c, if_pos (by omega), Option.bind_some, if_pos (by rw [w64 (by omega) (by omega)]; omega)]
    · rw [if_neg c]
  | succ n ih =>
    intro hn
    have e1 : wrap64 (((n + 1 : Nat) : Int) - 1) = (n : Int) := by rw [w64 (by omega) (by omega)]; omega
    have e2 : wrap64 (((n + 1 : Nat) : Int) + -1) = (n : Int) := by rw [w64 (by omega) (by omega)]; omega
    by_cases c : g > 0
    · by_cases c2 : (rd_T68 l (n : Int)).f3 = g
      · have e : backTo l g (n + 1) = backTo l g n := by unfold backTo; rw [if_pos c, if_pos c]; simp only [back, if_pos c2]
        rw [e]
        refine Ev.step (fun k => ?_) (ih (by omega))
        simp only [spec_l21Move.l0, spec_l21Next.f]
        rw [if_pos c, if_pos (by omega), Option.bind_some, e1, if_neg (by omega), if_neg (by omega), if_pos (by omega), if_pos (by omega), if_pos c2, e2]
      · have e : backTo l g (n + 1) = n + 1 := by unfold backTo; rw [if_pos c]; simp only [back, if_neg c2]
        rw [e]
        refine Ev.ret fun k => ?_
        simp only [spec_l21Move.l0, spec_l21Next.f]
        rw [if_pos c, if_pos (by omega), Option.bind_some, e1, if_neg (by omega), if_neg (by omega), if_pos (by omega), if_pos (by omega), if_neg c2]
    · have e : backTo l g (n + 1) = n + 1 := by unfold backTo; rw [if_neg c]
      rw [e]
      refine Ev.ret fun k => ?_
      simp only [spec_l21Move.l0]
      rw [if_neg c]
theorem undo_same (b : ByteArray) (l : List S68) (d : Int) (hl : l.length ≤ 1048576) (hs : ∀ x ∈ l, x.f1.size ≤ 1048576 ∧ x.f2.size ≤ 1048576) :
    ∃ v : Int × ByteArray × List S68 × Int × ByteArray, Ev (fun k => spec_Undo.f k b l d) v ∧ Ev (fun k => impl_Undo.f k b l d) v ∧ v.2.2.1.length ≤ l.length := by
  have h1 := specFault_ev b l d hl hs
  have h2 := texts_ev b l d hl (fun x hx => (hs x hx).2)
  by_cases hv : valid b l d = true
  · obtain ⟨r, hr, ht, hlen, hb, hd0, hd1, _⟩ := valid_scan b l d hv
    rw [if_pos hv] at h1
    rw [ht] at h2
    have hr0 : ¬ (r.length : Int) = 0 := by rw [hlen]; omega
    obtain ⟨n, rfl⟩ : ∃ n : Nat, d = n := ⟨d.toNat, by omega⟩
    cases n with
    | zero =>
      refine ⟨(5, ⟨#[]⟩, [], 0, ⟨#[]⟩), ?_, ?_, by simp⟩
      · unfold spec_Undo.f spec_l21Go.f
        refine Ev.bind (a := (5, ⟨#[]⟩, [], 0, ⟨#[]⟩)) ?_ (Ev.now _)
        refine Ev.bind h1 ?_
        simp only [if_true]
        refine Ev.bind (a := (b, l, ((0 : Nat) : Int), false)) ?_ ?_
        · unfold spec_l21Move.f
          simp only [Option.bind_some, List.nil_append, List.length_nil, Nat.zero_add]
          refine Ev.congr (f := fun k => spec_l21Move.j0 k (-1) (-1) true b l ((0 : Nat) : Int)) (fun k => ?_) (Ev.ret fun k => by simp [spec_l21Move.j0])
          rw [if_pos (by omega)]
          simp only [spec_l21Next.f]
          rw [if_pos (by omega), Option.bind_some, if_pos (by rw [w64 (by omega) (by omega)]; omega)]
          congr 1
          rw [w64 (by omega) (by omega)]
          omega
        · simp
          exact Ev.now _
      · unfold impl_Undo.f
        refine Ev.bind h2 ?_
        simp only [hr0, if_false]
        simp
        exact Ev.now _
    | succ n =>
      have e1 : wrap64 (((n + 1 : Nat) : Int) - 1) = (n : Int) := by rw [w64 (by omega) (by omega)]; omega
      have e2 : wrap64 (((n + 1 : Nat) : Int) + -1) = (n : Int) := by rw [w64 (by omega) (by omega)]; omega
      obtain ⟨g, hg⟩ : ∃ g, (rd_T68 l (n : Int)).f3 = g := ⟨_, rfl⟩
      have hm := backTo_le l g n
      obtain ⟨u, hu1, hu2⟩ := scan_at l b r (backTo l g n) hr (by omega)
      obtain ⟨t', h3, h4⟩ := text_ev b l (backTo l g n) (backTo l g n) hl (by omega) hs
      have e := h4 u hb hu2
      subst e
      have er : rdOf ByteArray.empty r (backTo l g n : Int) = t' := by
        unfold rdOf
        rw [List.getD_eq_getElem?_getD, Int.toNat_natCast, hu1]
        rfl
      refine ⟨(0, b, l, (backTo l g n : Int), t'), ?_, ?_, Nat.le_refl _⟩
      · unfold spec_Undo.f spec_l21Go.f
        refine Ev.bind (a := (0, b, l, (backTo l g n : Int), t')) ?_ (Ev.now _)
        refine Ev.bind h1 ?_
        simp only [if_true]
        refine Ev.bind (a := (b, l, (backTo l g n : Int), true)) ?_ ?_
        · unfold spec_l21Move.f
          simp only [Option.bind_some, List.nil_append, List.length_nil, Nat.zero_add]
          refine Ev.congr (f := fun k => spec_l21Move.j0 k (-1) (n : Int) false b l ((n + 1 : Nat) : Int)) (fun k => ?_) (Ev.step (fun k => ?_) (specBack_loop b l g hl n (by omega)))
          · rw [if_pos (by omega)]
            simp only [spec_l21Next.f]
            rw [if_pos (by omega), Option.bind_some, e1, if_neg (by omega)]
            congr 1
            simp; omega
          · simp only [spec_l21Move.j0, Bool.false_eq_true, if_false]
            rw [if_pos (by omega), if_pos (by omega), e2, hg]
        · simp only [if_true]
          refine Ev.bind (a := (0, b, l, (backTo l g n : Int), t')) ?_ (Ev.now _)
          unfold spec_l21Out.f
          refine Ev.bind h3 ?_
          exact Ev.now _
      · unfold impl_Undo.f
        refine Ev.bind h2 ?_
        simp only [hr0, if_false]
        refine Ev.congr (f := fun k => impl_Undo.l0 k r (n : Int) g b l ((n + 1 : Nat) : Int)) (fun k => ?_) ?_
        · rw [if_neg (by omega), e1, if_pos (by omega), if_pos (by omega), hg]
        · have := implUndo_loop r b l ((n + 1 : Nat) : Int) g hl hlen n (by omega)
          rw [er] at this
          exact this
  · have ht : textsOf b l d = [] := (textsOf_nil b l d).2 (by simpa using hv)
    rw [if_neg hv] at h1
    rw [ht] at h2
    refine ⟨(1, ⟨#[]⟩, [], 0, ⟨#[]⟩), ?_, ?_, by simp⟩
    · unfold spec_Undo.f spec_l21Go.f
      refine Ev.bind (a := (1, ⟨#[]⟩, [], 0, ⟨#[]⟩)) ?_ (Ev.now _)
      refine Ev.bind h1 ?_
      simp
      exact Ev.now _
    · unfold impl_Undo.f
      refine Ev.bind h2 ?_
      simp
      exact Ev.now _
end Go.Proofs.Ytopbiepiceajnaa.XHist
