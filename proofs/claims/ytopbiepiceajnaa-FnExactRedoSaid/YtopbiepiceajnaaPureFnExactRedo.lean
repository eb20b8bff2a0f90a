/-
  Redo, plainly: the program's answer and the reference's are one, for every history; what is handed back is the call's own.
-/
import Derived.Test.YtopbiepiceajnaaGFnExactRedo
import Derived.Test.YtopbiepiceajnaaXRedo
import Derived.Test.YtopbiepiceajnaaXMarkSteps
import Derived.Test.YtopbiepiceajnaaQx7
import Derived.Test.YtopbiepiceajnaaQx10
import Derived.Test.YtopbiepiceajnaaXPre
namespace Go.Proofs.Ytopbiepiceajnaa.Pure
open Go.RowKit Go.Proofs.Ytopbiepiceajnaa.Q Go.Proofs.YtopbiepiceajnaaW.PrintWords Go.Proofs.Ytopbiepiceajnaa.XPre Go.Proofs.Ytopbiepiceajnaa.XHist Go.Proofs.Ytopbiepiceajnaa.XMark Go.Proofs.Ytopbiepiceajnaa.GFnExactRedo
set_option linter.unusedVariables false
set_option linter.unusedSimpArgs false
theorem eqOut (v : Int × ByteArray × List S68 × Int × ByteArray) (hl : v.2.2.1.length ≤ 1048576) : Ev (fun k => laws_eqHistoryOut.f k v.1 v.2.1 v.2.2.1 v.2.2.2.1 v.2.2.2.2 v.1 v.2.1 v.2.2.1 v.2.2.2.1 v.2.2.2.2) true := by
  unfold laws_eqHistoryOut.f
  simp only [if_true]
  refine Ev.bind (eqHist _ _ _ hl) ?_
  simp only [if_true]
  exact Ev.now _
theorem markOut (c : Int) (b : ByteArray) (l : List S68) (d : Int) (t : ByteArray) (hl : l.length ≤ 1048576) : Ev (fun k => laws_markHistoryOut.f k c b l d t 1) (1 + 4 * (l.length : Int), marked l.length 1) := by
  unfold laws_markHistoryOut.f laws_markHistory.f
  refine Ev.bind (a := (1 + 4 * (l.length : Int), marked l.length 1)) ?_ (Ev.now _)
  exact Ev.bind (markSteps_ev l 1 (by omega) (by omega)) (Ev.now _)
theorem heldOut (c : Int) (b : ByteArray) (n : Nat) (d : Int) (t : ByteArray) (hl : n ≤ 1048576) : Ev (fun k => laws_heldHistoryOut.f k c b (marked n 1) d t 1) (1 + 4 * (n : Int)) := by
  have h := heldSteps_ev n 1 (by omega) (by omega)
  have hc : ¬ (1 + 4 * (n : Int)) < 0 := by omega
  unfold laws_heldHistoryOut.f laws_heldHistory.f
  refine Ev.bind (a := 1 + 4 * (n : Int)) (Ev.bind h ?_) ?_
  · simp only [hc, if_false]; exact Ev.now _
  · simp only [hc, if_false]; exact Ev.now _
theorem FnExactRedo : Pure := by
  intro b l d hb hl hd
  have hs : ∀ x ∈ l, Small x := by
    intro x hx
    obtain ⟨i, hi, rfl⟩ := List.mem_iff_getElem.1 hx
    have := hl.2 i l[i] (List.getElem?_eq_getElem hi)
    exact ⟨this.2.1, this.2.2.1⟩
  obtain ⟨r, hr, hfit⟩ := szHist b l d hb hl.1 hs
  refine Ev.rounds ?_
  unfold laws_FnExactRedo.f
  refine Ev.bind hr ?_
  by_cases c : r < 0
  · simp only [c, if_true]
    exact Ev.now _
  · simp only [c, if_false]
    have hf := hfit (by omega)
    have hl1 : l.length ≤ 1048576 := by unfold Fits at hf; omega
    have hc := fits_conv b l hf
    have hl2 : (l.map conv).length ≤ 1048576 := by simpa using hl1
    obtain ⟨v, hv1, hv2, hv3⟩ := redo_same b (l.map conv) d hl2 hc
    obtain ⟨c0, b0, l0, d0, t0⟩ := v
    have hl0 : l0.length ≤ 1048576 := Nat.le_trans hv3 hl2
    have hto := toHist b l d hl1
    have heq := eqOut (c0, b0, l0, d0, t0) hl0
    have hmk := markOut c0 b0 l0 d0 t0 hl0
    have hhe := heldOut c0 b0 l0.length d0 t0 hl0
    have hm1 : Ev (fun k => laws_markHistory.f k b (l.map conv) d 1) (1 + 4 * ((l.map conv).length : Int), marked (l.map conv).length 1) := by
      unfold laws_markHistory.f
      exact Ev.bind (markSteps_ev (l.map conv) 1 (by omega) (by omega)) (Ev.now _)
    have hn1 : ¬ (1 + 4 * ((l.map conv).length : Int)) < 0 := by omega
    have hn2 : ¬ (1 + 4 * (l0.length : Int)) < 0 := by omega
    refine Ev.bind hto ?_
    refine Ev.bind hv1 ?_
    refine Ev.bind hto ?_
    refine Ev.bind hv2 ?_
    refine Ev.bind heq ?_
    simp only [if_true]
    refine Ev.bind hto ?_
    refine Ev.bind (eqHist b (l.map conv) d hl2) ?_
    simp only [if_true]
    refine Ev.bind hm1 ?_
    simp only [hn1, if_false]
    refine Ev.bind heq ?_
    refine Ev.step (f := _) (fun k => by simp only [laws_FnExactRedo.j0, Bool.not_true, Bool.false_eq_true, if_false]; rfl) ?_
    refine Ev.bind hmk ?_
    refine Ev.bind hhe ?_
    simp only [hn2, if_false, if_true]
    refine Ev.bind hto ?_
    refine Ev.bind hv2 ?_
    refine Ev.bind heq ?_
    simp only [if_true]
    refine Ev.bind hhe ?_
    simp only [hn2, if_false, if_true]
    exact Ev.now _
end Go.Proofs.Ytopbiepiceajnaa.Pure
