/-
  Redo, plainly: how far the program and the reference go on.
-/
import Derived.Test.YtopbiepiceajnaaQx5
import Derived.Test.YtopbiepiceajnaaQx8
import Derived.Test.YtopbiepiceajnaaQx9
import Derived.Test.YtopbiepiceajnaaXPre
import Derived.Test.YtopbiepiceajnaaXUndo
namespace Go.Proofs.Ytopbiepiceajnaa.XHist
open Go.RowKit Go.Proofs.Ytopbiepiceajnaa.Q Go.Proofs.YtopbiepiceajnaaW.PrintWords Go.Proofs.Ytopbiepiceajnaa.XPre
set_option linter.unusedVariables false
set_option linter.unusedSimpArgs false

def fwd (l : List S68) (g : Int) : Nat → Nat → Nat
  | 0, n => n
  | m + 1, n => if (rd_T68 l (n : Int)).f3 = g then fwd l g m (n + 1) else n
def fwdTo (l : List S68) (g : Int) (m n : Nat) : Nat := if g > 0 then fwd l g m n else n
theorem fwd_le (l : List S68) (g : Int) : ∀ m n, fwd l g m n ≤ n + m := by
  intro m
  induction m with
  | zero => intro n; exact Nat.le_refl _
  | succ m ih => intro n; simp only [fwd]; split; · have := ih (n + 1); omega
                 · omega
theorem fwdTo_le (l : List S68) (g : Int) (m n : Nat) : fwdTo l g m n ≤ n + m := by
  unfold fwdTo
  split
  · exact fwd_le l g m n
  · omega
theorem fwdTo_step (l : List S68) (g : Int) (m n : Nat) (c : g > 0) (c2 : (rd_T68 l (n : Int)).f3 = g) : fwdTo l g (m + 1) n = fwdTo l g m (n + 1) := by
  unfold fwdTo; rw [if_pos c, if_pos c]; simp only [fwd, if_pos c2]
theorem fwdTo_stop (l : List S68) (g : Int) (m n : Nat) (c2 : ¬ (rd_T68 l (n : Int)).f3 = g) : fwdTo l g (m + 1) n = n := by
  unfold fwdTo; simp only [fwd, if_neg c2]; split <;> rfl
theorem fwdTo_none (l : List S68) (g : Int) (m n : Nat) (c : ¬ g > 0) : fwdTo l g m n = n := by unfold fwdTo; rw [if_neg c]
theorem fwdTo_zero (l : List S68) (g : Int) (n : Nat) : fwdTo l g 0 n = n := by unfold fwdTo; split <;> rfl
theorem implRedo_loop (ts : List ByteArray) (b : ByteArray) (l : List S68) (d g : Int) (hl : l.length ≤ 1048576) (ht : ts.length = l.length + 1) : ∀ m n : Nat, n + m = l.length →
    Ev (fun k => impl_Redo.l0 k ts (n : Int) g b l d) (0, b, l, (fwdTo l g m n : Int), rdOf ByteArray.empty ts (fwdTo l g m n : Int)) := by
  intro m
  induction m with
  | zero =>
    intro n hn
    rw [fwdTo_zero]
    refine Ev.ret fun k => ?_
    simp only [impl_Redo.l0, clone_ev l hl, Option.bind_some]
    by_cases c : g > 0
    · rw [if_pos c, if_neg (by omega), if_pos (by omega), if_pos (by omega)]
    · rw [if_neg c, if_pos (by omega), if_pos (by omega)]
  | succ m ih =>
    intro n hn
    by_cases c : g > 0
    · by_cases c2 : (rd_T68 l (n : Int)).f3 = g
      · rw [fwdTo_step l g m n c c2]
        refine Ev.step (fun k => ?_) (ih (n + 1) (by omega))
        simp only [impl_Redo.l0]
        rw [if_pos c, if_pos (by omega), if_pos (by omega), if_pos c2, w64 (by omega) (by omega)]
        rfl
      · rw [fwdTo_stop l g m n c2]
        refine Ev.ret fun k => ?_
        simp only [impl_Redo.l0]
        rw [if_pos c, if_pos (by omega), if_pos (by omega), if_neg c2, clone_ev l hl, Option.bind_some, if_pos (by omega)]
    · rw [fwdTo_none l g _ n c]
      refine Ev.ret fun k => ?_
      simp only [impl_Redo.l0]
      rw [if_neg c, clone_ev l hl, Option.bind_some, if_pos (by omega), if_pos (by omega)]
theorem specOn_loop (b : ByteArray) (l : List S68) (g : Int) (hl : l.length ≤ 1048576) : ∀ m n : Nat, n + m = l.length →
    Ev (fun k => spec_l21Move.l0 k 1 g b l (n : Int)) (b, l, (fwdTo l g m n : Int), true) := by
  intro m
  induction m with
  | zero =>
    intro n hn
    rw [fwdTo_zero]
    refine Ev.ret fun k => ?_
    simp only [spec_l21Move.l0, spec_l21Next.f]
    by_cases c : g > 0
    · rw [if_pos c, if_neg (by omega), Option.bind_some, if_neg (by omega), if_pos (by omega)]
    · rw [if_neg c]
  | succ m ih =>
    intro n hn
    by_cases c : g > 0
    · by_cases c2 : (rd_T68 l (n : Int)).f3 = g
      · rw [fwdTo_step l g m n c c2]
        refine Ev.step (fun k => ?_) (ih (n + 1) (by omega))
        simp only [spec_l21Move.l0, spec_l21Next.f]
        rw [if_pos c, if_neg (by omega), Option.bind_some, if_neg (by omega), if_neg (by omega), if_pos (by omega), if_pos (by omega), if_pos c2, w64 (by omega) (by omega)]
        rfl
      · rw [fwdTo_stop l g m n c2]
        refine Ev.ret fun k => ?_
        simp only [spec_l21Move.l0, spec_l21Next.f]
        rw [if_pos c, if_neg (by omega), Option.bind_some, if_neg (by omega), if_neg (by omega), if_pos (by omega), if_pos (by omega), if_neg c2]
    · rw [fwdTo_none l g _ n c]
      refine Ev.ret fun k => ?_
      simp only [spec_l21Move.l0]
      rw [if_neg c]
theorem redo_same (b : ByteArray) (l : List S68) (d : Int) (hl : l.length ≤ 1048576) (hs : ∀ x ∈ l, x.f1.size ≤ 1048576 ∧ x.f2.size ≤ 1048576) :
    ∃ v : Int × ByteArray × List S68 × Int × ByteArray, Ev (fun k => spec_Redo.f k b l d) v ∧ Ev (fun k => impl_Redo.f k b l d) v ∧ v.2.2.1.length ≤ l.length := by
  have h1 := specFault_ev b l d hl hs
  have h2 := texts_ev b l d hl (fun x hx => (hs x hx).2)
  by_cases hv : valid b l d = true
  · obtain ⟨r, hr, ht, hlen, hb, hd0, hd1, _⟩ := valid_scan b l d hv
    rw [if_pos hv] at h1
    rw [ht] at h2
    have hr0 : ¬ (r.length : Int) = 0 := by rw [hlen]; omega
    obtain ⟨n, rfl⟩ : ∃ n : Nat, d = n := ⟨d.toNat, by omega⟩
    by_cases hn : n = l.length
    · refine ⟨(5, ⟨#[]⟩, [], 0, ⟨#[]⟩), ?_, ?_, by simp⟩
      · unfold spec_Redo.f spec_l21Go.f
        refine Ev.bind (a := (5, ⟨#[]⟩, [], 0, ⟨#[]⟩)) ?_ (Ev.now _)
        refine Ev.bind h1 ?_
        simp only [if_true]
        refine Ev.bind (a := (b, l, (n : Int), false)) ?_ ?_
        · unfold spec_l21Move.f
          simp only [Option.bind_some, List.nil_append, List.length_nil, Nat.zero_add]
          refine Ev.congr (f := fun k => spec_l21Move.j0 k 1 (n : Int) true b l (n : Int)) (fun k => ?_) (Ev.ret fun k => by simp [spec_l21Move.j0])
          rw [if_pos (by omega)]
          simp only [spec_l21Next.f]
          rw [if_neg (by omega), Option.bind_some, if_neg (by omega)]
          congr 1
          simp; omega
        · simp
          exact Ev.now _
      · unfold impl_Redo.f
        refine Ev.bind h2 ?_
        have hn' : (n : Int) = (l.length : Int) := by omega
        simp only [hr0, if_false, hn', if_true]
        exact Ev.now _
    · obtain ⟨m, hm⟩ : ∃ m, n + 1 + m = l.length := ⟨l.length - (n + 1), by omega⟩
      obtain ⟨g, hg⟩ : ∃ g, (rd_T68 l (n : Int)).f3 = g := ⟨_, rfl⟩
      have hle := fwdTo_le l g m (n + 1)
      obtain ⟨u, hu1, hu2⟩ := scan_at l b r (fwdTo l g m (n + 1)) hr (by omega)
      obtain ⟨t', h3, h4⟩ := text_ev b l (fwdTo l g m (n + 1)) (fwdTo l g m (n + 1)) hl (by omega) hs
      have e := h4 u hb hu2
      subst e
      have er : rdOf ByteArray.empty r (fwdTo l g m (n + 1) : Int) = t' := by
        unfold rdOf
        rw [List.getD_eq_getElem?_getD, Int.toNat_natCast, hu1]
        rfl
      have e1 : wrap64 ((n : Int) + 1) = ((n + 1 : Nat) : Int) := by rw [w64 (by omega) (by omega)]; omega
      refine ⟨(0, b, l, (fwdTo l g m (n + 1) : Int), t'), ?_, ?_, Nat.le_refl _⟩
      · unfold spec_Redo.f spec_l21Go.f
        refine Ev.bind (a := (0, b, l, (fwdTo l g m (n + 1) : Int), t')) ?_ (Ev.now _)
        refine Ev.bind h1 ?_
        simp only [if_true]
        refine Ev.bind (a := (b, l, (fwdTo l g m (n + 1) : Int), true)) ?_ ?_
        · unfold spec_l21Move.f
          simp only [Option.bind_some, List.nil_append, List.length_nil, Nat.zero_add]
          refine Ev.congr (f := fun k => spec_l21Move.j0 k 1 (n : Int) false b l (n : Int)) (fun k => ?_) (Ev.step (fun k => ?_) (specOn_loop b l g hl m (n + 1) hm))
          · rw [if_pos (by omega)]
            simp only [spec_l21Next.f]
            rw [if_neg (by omega), Option.bind_some, if_neg (by omega)]
            congr 1
            simp; omega
          · simp only [spec_l21Move.j0, Bool.false_eq_true, if_false]
            rw [if_pos (by omega), if_pos (by omega), e1, hg]
        · simp only [if_true]
          refine Ev.bind (a := (0, b, l, (fwdTo l g m (n + 1) : Int), t')) ?_ (Ev.now _)
          unfold spec_l21Out.f
          refine Ev.bind h3 ?_
          exact Ev.now _
      · unfold impl_Redo.f
        refine Ev.bind h2 ?_
        have hn' : ¬ (n : Int) = (l.length : Int) := by omega
        simp only [hr0, if_false, hn']
        refine Ev.congr (f := fun k => impl_Redo.l0 k r ((n + 1 : Nat) : Int) g b l (n : Int)) (fun k => ?_) ?_
        · rw [if_pos (by omega), if_pos (by omega), hg, e1]
        · have := implRedo_loop r b l (n : Int) g hl hlen m (n + 1) hm
          rw [er] at this
          exact this
  · have ht : textsOf b l d = [] := (textsOf_nil b l d).2 (by simpa using hv)
    rw [if_neg hv] at h1
    rw [ht] at h2
    refine ⟨(1, ⟨#[]⟩, [], 0, ⟨#[]⟩), ?_, ?_, by simp⟩
    · unfold spec_Redo.f spec_l21Go.f
      refine Ev.bind (a := (1, ⟨#[]⟩, [], 0, ⟨#[]⟩)) ?_ (Ev.now _)
      refine Ev.bind h1 ?_
      simp
      exact Ev.now _
    · unfold impl_Redo.f
      refine Ev.bind h2 ?_
      simp
      exact Ev.now _
end Go.Proofs.Ytopbiepiceajnaa.XHist
