/- Marks in order of their places: slices.SortStableFunc at marks. -/
import Derived.Test.YtfbhkkedmfbgbaaDoorPSortC
import Derived.Test.YtfbhkkedmfbgbaaDoorQPM0
namespace Go.Proofs.YtfbhkkedmfbgbaaDoor.PM
open Go.Eng Go.RowKit
set_option linter.unusedVariables false
set_option linter.unusedSimpArgs false
noncomputable def cmpM (k : Nat) (x y : T_sib) : Option Int := impl_MarksAt_1 k x.1 x.2.1 x.2.2 y.1 y.2.1 y.2.2
noncomputable def SM : St.SEq ((bs [], (0, false)) : T_sib) (fun i => i) (fun l => ln l) cmpM where
  swapF := slices_swapRangeCmpFunc_Mark
  swapL := slices_swapRangeCmpFunc_Mark_L1
  rotF := slices_rotateCmpFunc_Mark
  rotL := slices_rotateCmpFunc_Mark_L2
  symF := slices_symMergeCmpFunc_Mark
  symL3 := slices_symMergeCmpFunc_Mark_L3
  symL9 := slices_symMergeCmpFunc_Mark_L9
  symL15 := slices_symMergeCmpFunc_Mark_L15
  symL21 := slices_symMergeCmpFunc_Mark_L21
  symL33 := slices_symMergeCmpFunc_Mark_L33
  symJ41 := slices_symMergeCmpFunc_Mark_J41
  symJ43 := slices_symMergeCmpFunc_Mark_J43
  insF := slices_insertionSortCmpFunc_Mark
  insL1 := slices_insertionSortCmpFunc_Mark_L1
  insL4 := slices_insertionSortCmpFunc_Mark_L4
  stF := slices_stableCmpFunc_Mark
  stL2 := slices_stableCmpFunc_Mark_L2
  stL7 := slices_stableCmpFunc_Mark_L7
  stL9 := slices_stableCmpFunc_Mark_L9
  swapF_eq := fun k a b n d => slices_swapRangeCmpFunc_Mark.eq a b n d k
  swapL_eq := fun k j a b n i d => slices_swapRangeCmpFunc_Mark_L1.eq a b n i d k j
  rotF_eq := fun k a m b d => slices_rotateCmpFunc_Mark.eq a m b d k
  rotL_eq := fun k q m i j d => slices_rotateCmpFunc_Mark_L2.eq m i j d k q
  symF_eq := fun k a m b d => slices_symMergeCmpFunc_Mark.eq a m b d k
  symL3_eq := fun k q a i j d => slices_symMergeCmpFunc_Mark_L3.eq a i j d k q
  symL9_eq := fun k q i t d => slices_symMergeCmpFunc_Mark_L9.eq i t d k q
  symL15_eq := fun k q m i j d => slices_symMergeCmpFunc_Mark_L15.eq m i j d k q
  symL21_eq := fun k q i t d => slices_symMergeCmpFunc_Mark_L21.eq i t d k q
  symL33_eq := fun k q a m b mid n s r p d => slices_symMergeCmpFunc_Mark_L33.eq a m b mid n s r p d k q
  symJ41_eq := fun k a b mid s e d => slices_symMergeCmpFunc_Mark_J41.eq a b mid s e d k
  symJ43_eq := fun k b mid e d => slices_symMergeCmpFunc_Mark_J43.eq b mid e d k
  insF_eq := fun k a b d => slices_insertionSortCmpFunc_Mark.eq a b d k
  insL1_eq := fun k q a b i d => slices_insertionSortCmpFunc_Mark_L1.eq a b i d k q
  insL4_eq := fun k q p a b i j d => slices_insertionSortCmpFunc_Mark_L4.eq a b i j d k q p
  stF_eq := fun k n d => slices_stableCmpFunc_Mark.eq n d k
  stL2_eq := fun k q n bs a b d => slices_stableCmpFunc_Mark_L2.eq n bs a b d k q
  stL7_eq := fun k q n bs d => slices_stableCmpFunc_Mark_L7.eq n bs d k q
  stL9_eq := fun k q p n bs a b d => slices_stableCmpFunc_Mark_L9.eq n bs a b d k q p
def keyM (m : T_sib) : Int := m.2.1
theorem nan_ev (x : Int) : Ev (fun k => cmp_isNaN_int64 k x) false := by
  refine Ev.ret fun k => ?_
  rw [cmp_isNaN_int64.eq]
  simp only [W, decide_true, Bool.not_true]
theorem cmpM_ev (x y : T_sib) : ∃ c, Ev (fun k => cmpM k x y) c ∧ (c < 0 ↔ keyM x < keyM y) := by
  have e := fun k => cmp_Compare_int64.eq x.2.1 y.2.1 k
  simp only [W, W1, W3] at e
  have e2 := fun k => impl_MarksAt_1.eq x.1 x.2.1 x.2.2 y.1 y.2.1 y.2.2 k
  simp only [W3] at e2
  have key : ∀ c : Int, (∀ k : Nat, (if x.2.1 < y.2.1 then some (-1) else if y.2.1 < x.2.1 then some 1 else some 0) = some c) → Ev (fun k => cmpM k x y) c := fun c hc => by
    refine Ev.step e2 (Ev.bind (Ev.step e (Ev.bind (nan_ev _) (Ev.bind (nan_ev _) ?_))) (Ev.now _))
    simp only [W1]
    exact Ev.of hc
  unfold keyM
  by_cases c1 : x.2.1 < y.2.1
  · exact ⟨-1, key _ (fun _ => if_pos c1), ⟨fun _ => c1, fun _ => by omega⟩⟩
  · by_cases c2 : y.2.1 < x.2.1
    · exact ⟨1, key _ (fun _ => by rw [if_neg c1, if_pos c2]), ⟨fun h => by omega, fun h => by omega⟩⟩
    · exact ⟨0, key _ (fun _ => by rw [if_neg c1, if_neg c2]), ⟨fun h => by omega, fun h => by omega⟩⟩
theorem sortM (ms : List T_sib) (h : ms.length ≤ 1048576) : ∃ out, Same keyM ms out ∧ Srt keyM out ∧ Ev (fun k => slices_SortStableFunc_Mark_Mark k ms) ((), out) := by
  obtain ⟨out, h1, h2, h3⟩ := St.stable_ev (kf := keyM) SM 0 ms.length (fun i => by omega) ms.length (fun l hl => by simp only [W2]; omega) (by omega) cmpM_ev [] ms [] rfl rfl (by simp)
  simp only [List.nil_append, List.append_nil] at h3
  have e := fun k => slices_SortStableFunc_Mark_Mark.eq ms k
  simp only [W2, W3] at e
  exact ⟨out, h1, h2, Ev.step e (Ev.bind h3 (Ev.now _))⟩
end Go.Proofs.YtfbhkkedmfbgbaaDoor.PM
