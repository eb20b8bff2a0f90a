/- Marks behind a point in order of their classes: slices.SortStableFunc at a window of points. -/
import Derived.Test.YtmmmlfndnoeedaaDoorPSortC
import Derived.Test.YtmmmlfndnoeedaaDoorPParts
namespace Go.Proofs.YtmmmlfndnoeedaaDoor.IX
open Go.Eng Go.RowKit
set_option linter.unusedVariables false
set_option linter.unusedSimpArgs false
noncomputable def cmpI (k : Nat) (x y : Int) : Option Int := impl_normal_1 k x y
noncomputable def SI (lo hi : Int) : St.SEq (0 : Int) (fun i => addZ lo i) (fun _ => subZ hi lo) cmpI where
  swapF := fun k => slices_swapRangeCmpFunc_int64 k lo hi
  swapL := fun k q => slices_swapRangeCmpFunc_int64_L1 k q lo hi
  rotF := fun k => slices_rotateCmpFunc_int64 k lo hi
  rotL := fun k q => slices_rotateCmpFunc_int64_L2 k q lo hi
  symF := fun k => slices_symMergeCmpFunc_int64 k lo hi
  symL3 := fun k q => slices_symMergeCmpFunc_int64_L3 k q lo hi
  symL9 := fun k q => slices_symMergeCmpFunc_int64_L9 k q lo hi
  symL15 := fun k q => slices_symMergeCmpFunc_int64_L15 k q lo hi
  symL21 := fun k q => slices_symMergeCmpFunc_int64_L21 k q lo hi
  symL33 := fun k q => slices_symMergeCmpFunc_int64_L33 k q lo hi
  symJ41 := fun k => slices_symMergeCmpFunc_int64_J41 k lo hi
  symJ43 := fun k => slices_symMergeCmpFunc_int64_J43 k lo hi
  insF := fun k => slices_insertionSortCmpFunc_int64 k lo hi
  insL1 := fun k q => slices_insertionSortCmpFunc_int64_L1 k q lo hi
  insL4 := fun k q p => slices_insertionSortCmpFunc_int64_L4 k q p lo hi
  stF := fun k => slices_stableCmpFunc_int64 k lo hi
  stL2 := fun k q => slices_stableCmpFunc_int64_L2 k q lo hi
  stL7 := fun k q => slices_stableCmpFunc_int64_L7 k q lo hi
  stL9 := fun k q p => slices_stableCmpFunc_int64_L9 k q p lo hi
  swapF_eq := fun k a b n d => slices_swapRangeCmpFunc_int64.eq lo hi a b n d k
  swapL_eq := fun k j a b n i d => slices_swapRangeCmpFunc_int64_L1.eq lo hi a b n i d k j
  rotF_eq := fun k a m b d => slices_rotateCmpFunc_int64.eq lo hi a m b d k
  rotL_eq := fun k q m i j d => slices_rotateCmpFunc_int64_L2.eq lo hi m i j d k q
  symF_eq := fun k a m b d => slices_symMergeCmpFunc_int64.eq lo hi a m b d k
  symL3_eq := fun k q a i j d => slices_symMergeCmpFunc_int64_L3.eq lo hi a i j d k q
  symL9_eq := fun k q i t d => slices_symMergeCmpFunc_int64_L9.eq lo hi i t d k q
  symL15_eq := fun k q m i j d => slices_symMergeCmpFunc_int64_L15.eq lo hi m i j d k q
  symL21_eq := fun k q i t d => slices_symMergeCmpFunc_int64_L21.eq lo hi i t d k q
  symL33_eq := fun k q a m b mid n s r p d => slices_symMergeCmpFunc_int64_L33.eq lo hi a m b mid n s r p d k q
  symJ41_eq := fun k a b mid s e d => slices_symMergeCmpFunc_int64_J41.eq lo hi a b mid s e d k
  symJ43_eq := fun k b mid e d => slices_symMergeCmpFunc_int64_J43.eq lo hi b mid e d k
  insF_eq := fun k a b d => slices_insertionSortCmpFunc_int64.eq lo hi a b d k
  insL1_eq := fun k q a b i d => slices_insertionSortCmpFunc_int64_L1.eq lo hi a b i d k q
  insL4_eq := fun k q p a b i j d => slices_insertionSortCmpFunc_int64_L4.eq lo hi a b i j d k q p
  stF_eq := fun k n d => slices_stableCmpFunc_int64.eq lo hi n d k
  stL2_eq := fun k q n bs a b d => slices_stableCmpFunc_int64_L2.eq lo hi n bs a b d k q
  stL7_eq := fun k q n bs d => slices_stableCmpFunc_int64_L7.eq lo hi n bs d k q
  stL9_eq := fun k q p n bs a b d => slices_stableCmpFunc_int64_L9.eq lo hi n bs a b d k q p
theorem cmpI_ev (x y : Int) : ∃ c, Ev (fun k => cmpI k x y) c ∧ (c < 0 ↔ mcl x < mcl y) := by
  have h1 := mcl_nn x
  have h2 := mcl_nn y
  refine ⟨mcl x - mcl y, ?_, by omega⟩
  have e := fun k => impl_normal_1.eq x y k
  simp only [W3] at e
  refine Ev.step e (Ev.bind (implClass x) (Ev.bind (implClass y) ?_))
  rw [subI_i64 (by omega) (by omega)]
  exact Ev.now _
theorem sortI (A v B : List Int) (h : (A ++ (v ++ B)).length ≤ 134217728) : ∃ out, Same mcl v out ∧ Srt mcl out ∧
    Ev (fun k => slices_SortStableFunc_Sint64_int64 k (A.length : Int) ((A.length + v.length : Nat) : Int) (A ++ (v ++ B))) ((), A ++ (out ++ B)) := by
  simp only [List.length_append] at h
  obtain ⟨out, h1, h2, h3⟩ := St.stable_ev (kf := mcl) (SI (A.length : Int) ((A.length + v.length : Nat) : Int)) A.length v.length (fun i => by simp only [W]) (A ++ (v ++ B)).length (fun l hl => by simp only [W]; omega) (by omega) cmpI_ev A v B rfl rfl rfl
  have e := fun k => slices_SortStableFunc_Sint64_int64.eq (A.length : Int) ((A.length + v.length : Nat) : Int) (A ++ (v ++ B)) k
  have hs : subZ ((A.length + v.length : Nat) : Int) (A.length : Int) = (v.length : Int) := by simp only [W]; omega
  simp only [W3, hs] at e
  exact ⟨out, h1, h2, Ev.step e (Ev.bind h3 (Ev.now _))⟩
end Go.Proofs.YtmmmlfndnoeedaaDoor.IX
