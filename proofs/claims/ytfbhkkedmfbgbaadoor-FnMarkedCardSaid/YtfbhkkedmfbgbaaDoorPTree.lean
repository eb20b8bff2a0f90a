/- The tree of a rope, plainly: the program and the reference build the same rows. -/
import Derived.Test.YtfbhkkedmfbgbaaDoorPCut
namespace Go.Proofs.YtfbhkkedmfbgbaaDoor.PM
open Go.Eng Go.RowKit
set_option linter.unusedVariables false
set_option linter.unusedSimpArgs false
def leaf (t : ByteArray) : T_siiii := (t, ((-1), ((-1), ((t.size : Int), (ends t : Int)))))
def node (t : ByteArray) (a b : Int) : T_siiii := (bs [], (a, (b, ((t.size : Int), (ends t : Int)))))
/-- the rows that a text lays, the first of them at place b -/
def nodes : Nat → ByteArray → Nat → List T_siiii
  | 0, _, _ => []
  | f + 1, t, b => if t.size ≤ 64 then [leaf t] else
      node t ((b + 1 : Nat) : Int) ((b + 1 + (nodes f (t.extract 0 (cut t)) (b + 1)).length : Nat) : Int) ::
        (nodes f (t.extract 0 (cut t)) (b + 1) ++ nodes f (t.extract (cut t) t.size) (b + 1 + (nodes f (t.extract 0 (cut t)) (b + 1)).length))
theorem nodes_len : ∀ (f : Nat) (t : ByteArray) (b : Nat), 0 < t.size → t.size ≤ f → (nodes f t b).length + 1 ≤ 2 * t.size := by
  intro f
  induction f with
  | zero => intro t b h1 h2; omega
  | succ f ih =>
    intro t b h1 h2
    unfold nodes
    by_cases c : t.size ≤ 64
    · rw [if_pos c]; simp; omega
    · rw [if_neg c]
      have hc := cut_bounds t (by omega)
      have s1 : (t.extract 0 (cut t)).size = cut t := by rw [ByteArray.size_extract]; omega
      have s2 : (t.extract (cut t) t.size).size = t.size - cut t := by rw [ByteArray.size_extract]; omega
      have i1 := ih (t.extract 0 (cut t)) (b + 1) (by omega) (by omega)
      have i2 := ih (t.extract (cut t) t.size) (b + 1 + (nodes f (t.extract 0 (cut t)) (b + 1)).length) (by omega) (by omega)
      simp only [List.length_cons, List.length_append]
      omega
theorem not_empty (t : ByteArray) (h : 0 < t.size) : ¬ t = bs [] := fun e => by rw [e] at h; exact absurd h (by decide)
theorem mid (l L : List T_siiii) (y : T_siiii) : l ++ [y] ++ L = l ++ y :: L := by rw [List.append_assoc]; rfl
theorem spec_tree1 : ∀ (f : Nat) (t : ByteArray) (l : List T_siiii), 0 < t.size → t.size ≤ f → l.length + 2 * t.size ≤ 1000000 → Ev (fun k => spec_l20Build'1 k t l) (l ++ nodes f t l.length, ()) := by
  intro f
  induction f with
  | zero => intro t l h1 h2; omega
  | succ f ih =>
    intro t l h1 h2 h3
    have ht : t.size ≤ 1048576 := by omega
    have e := fun k => spec_l20Build'1.eq t l k
    have c5 : ∀ x : T_siiii, ((l.length : Int) + (([x] : List T_siiii).length : Int)) * 48 < 140737488355328 := fun x => by simp; omega
    simp only [W, W1, W2, W3, if_neg (not_empty t h1)] at e
    refine Ev.step e (Ev.bind (ends_ev t ht) ?_)
    by_cases c : t.size ≤ 64
    · simp only [if_pos (show (t.size : Int) ≤ 64 by omega), if_pos (c5 _)]
      rw [show nodes (f + 1) t l.length = [leaf t] from if_pos c]
      exact Ev.now _
    · simp only [if_neg (show ¬ (t.size : Int) ≤ 64 by omega)]
      refine Ev.bind (cut_ev t ht (by omega)) ?_
      have hc := cut_bounds t (by omega)
      have s1 : (t.extract 0 (cut t)).size = cut t := by rw [ByteArray.size_extract]; omega
      have s2 : (t.extract (cut t) t.size).size = t.size - cut t := by rw [ByteArray.size_extract]; omega
      have hlen : ∀ x : T_siiii, (((l ++ [x]).length : Nat) : Int) = ((l.length + 1 : Nat) : Int) := fun x => by simp
      have g1 : (0 : Int) ≤ (l.length : Int) := by omega
      have g2 : (l.length : Int) < ((l.length + 1 : Nat) : Int) := by omega
      have g3 : (0 : Int) ≤ (cut t : Int) := by omega
      have g4 : (cut t : Int) ≤ (t.size : Int) := by omega
      have hr : ∀ x z : T_siiii, rd (l ++ [x]) (l.length : Int) z = x := fun x z => rd_mid l [] x z
      have hs : ∀ x y : T_siiii, (l ++ [x]).set l.length y = l ++ [y] := fun x y => by simp
      have il := ih (t.extract 0 (cut t)) (l ++ [node t ((l.length + 1 : Nat) : Int) (-1)]) (by omega) (by omega) (by simp; omega)
      rw [show (l ++ [node t ((l.length + 1 : Nat) : Int) (-1)]).length = l.length + 1 by simp, mid] at il
      have nl := nodes_len f (t.extract 0 (cut t)) (l.length + 1) (by omega) (by omega)
      have hnn : nodes (f + 1) t l.length = node t ((l.length + 1 : Nat) : Int) ((l.length + 1 + (nodes f (t.extract 0 (cut t)) (l.length + 1)).length : Nat) : Int) :: (nodes f (t.extract 0 (cut t)) (l.length + 1) ++ nodes f (t.extract (cut t) t.size) (l.length + 1 + (nodes f (t.extract 0 (cut t)) (l.length + 1)).length)) := if_neg c
      rw [hnn]
      generalize nodes f (t.extract 0 (cut t)) (l.length + 1) = L at il nl
      simp only [Int.toNat_natCast, Int.toNat_zero, if_pos (c5 _), hlen, if_pos g1, if_pos g2, if_pos g3, if_pos g4, hr, hs]
      refine Ev.bind il ?_
      have hlen2 : ∀ x : T_siiii, (((l ++ x :: L).length : Nat) : Int) = ((l.length + 1 + L.length : Nat) : Int) := fun x => by simp; omega
      have g5 : (l.length : Int) < ((l.length + 1 + L.length : Nat) : Int) := by omega
      have hr2 : ∀ x z : T_siiii, rd (l ++ x :: L) (l.length : Int) z = x := fun x z => rd_mid l L x z
      have hs2 : ∀ x y : T_siiii, (l ++ x :: L).set l.length y = l ++ y :: L := fun x y => by simp
      have ir := ih (t.extract (cut t) t.size) (l ++ node t ((l.length + 1 : Nat) : Int) ((l.length + 1 + L.length : Nat) : Int) :: L) (by omega) (by omega) (by simp; omega)
      rw [show (l ++ node t ((l.length + 1 : Nat) : Int) ((l.length + 1 + L.length : Nat) : Int) :: L).length = l.length + 1 + L.length by simp; omega] at ir
      simp only [hlen2, if_pos g5, hr2, hs2]
      refine Ev.bind ir ?_
      rw [show l ++ node t ((l.length + 1 : Nat) : Int) ((l.length + 1 + L.length : Nat) : Int) :: (L ++ nodes f (t.extract (cut t) t.size) (l.length + 1 + L.length)) = l ++ node t ((l.length + 1 : Nat) : Int) ((l.length + 1 + L.length : Nat) : Int) :: L ++ nodes f (t.extract (cut t) t.size) (l.length + 1 + L.length) by simp]
      exact Ev.now _
theorem spec_tree0 : ∀ (f : Nat) (t : ByteArray) (l : List T_siiii), 0 < t.size → t.size ≤ f → l.length + 2 * t.size ≤ 1000000 → Ev (fun k => spec_l20Build k t l) (l ++ nodes f t l.length, ()) := by
  intro f
  induction f with
  | zero => intro t l h1 h2; omega
  | succ f ih =>
    intro t l h1 h2 h3
    have ht : t.size ≤ 1048576 := by omega
    have e := fun k => spec_l20Build.eq t l k
    have c5 : ∀ x : T_siiii, ((l.length : Int) + (([x] : List T_siiii).length : Int)) * 48 < 140737488355328 := fun x => by simp; omega
    simp only [W, W1, W2, W3, if_neg (not_empty t h1)] at e
    refine Ev.step e (Ev.bind (ends_ev t ht) ?_)
    by_cases c : t.size ≤ 64
    · simp only [if_pos (show (t.size : Int) ≤ 64 by omega), if_pos (c5 _)]
      rw [show nodes (f + 1) t l.length = [leaf t] from if_pos c]
      exact Ev.now _
    · simp only [if_neg (show ¬ (t.size : Int) ≤ 64 by omega)]
      refine Ev.bind (cut_ev t ht (by omega)) ?_
      have hc := cut_bounds t (by omega)
      have s1 : (t.extract 0 (cut t)).size = cut t := by rw [ByteArray.size_extract]; omega
      have s2 : (t.extract (cut t) t.size).size = t.size - cut t := by rw [ByteArray.size_extract]; omega
      have hlen : ∀ x : T_siiii, (((l ++ [x]).length : Nat) : Int) = ((l.length + 1 : Nat) : Int) := fun x => by simp
      have g1 : (0 : Int) ≤ (l.length : Int) := by omega
      have g2 : (l.length : Int) < ((l.length + 1 : Nat) : Int) := by omega
      have g3 : (0 : Int) ≤ (cut t : Int) := by omega
      have g4 : (cut t : Int) ≤ (t.size : Int) := by omega
      have hr : ∀ x z : T_siiii, rd (l ++ [x]) (l.length : Int) z = x := fun x z => rd_mid l [] x z
      have hs : ∀ x y : T_siiii, (l ++ [x]).set l.length y = l ++ [y] := fun x y => by simp
      have il := ih (t.extract 0 (cut t)) (l ++ [node t ((l.length + 1 : Nat) : Int) (-1)]) (by omega) (by omega) (by simp; omega)
      rw [show (l ++ [node t ((l.length + 1 : Nat) : Int) (-1)]).length = l.length + 1 by simp, mid] at il
      have nl := nodes_len f (t.extract 0 (cut t)) (l.length + 1) (by omega) (by omega)
      have hnn : nodes (f + 1) t l.length = node t ((l.length + 1 : Nat) : Int) ((l.length + 1 + (nodes f (t.extract 0 (cut t)) (l.length + 1)).length : Nat) : Int) :: (nodes f (t.extract 0 (cut t)) (l.length + 1) ++ nodes f (t.extract (cut t) t.size) (l.length + 1 + (nodes f (t.extract 0 (cut t)) (l.length + 1)).length)) := if_neg c
      rw [hnn]
      generalize nodes f (t.extract 0 (cut t)) (l.length + 1) = L at il nl
      simp only [Int.toNat_natCast, Int.toNat_zero, if_pos (c5 _), hlen, if_pos g1, if_pos g2, if_pos g3, if_pos g4, hr, hs]
      refine Ev.bind il ?_
      have hlen2 : ∀ x : T_siiii, (((l ++ x :: L).length : Nat) : Int) = ((l.length + 1 + L.length : Nat) : Int) := fun x => by simp; omega
      have g5 : (l.length : Int) < ((l.length + 1 + L.length : Nat) : Int) := by omega
      have hr2 : ∀ x z : T_siiii, rd (l ++ x :: L) (l.length : Int) z = x := fun x z => rd_mid l L x z
      have hs2 : ∀ x y : T_siiii, (l ++ x :: L).set l.length y = l ++ y :: L := fun x y => by simp
      have ir := spec_tree1 f (t.extract (cut t) t.size) (l ++ node t ((l.length + 1 : Nat) : Int) ((l.length + 1 + L.length : Nat) : Int) :: L) (by omega) (by omega) (by simp; omega)
      rw [show (l ++ node t ((l.length + 1 : Nat) : Int) ((l.length + 1 + L.length : Nat) : Int) :: L).length = l.length + 1 + L.length by simp; omega] at ir
      simp only [hlen2, if_pos g5, hr2, hs2]
      refine Ev.bind ir ?_
      rw [show l ++ node t ((l.length + 1 : Nat) : Int) ((l.length + 1 + L.length : Nat) : Int) :: (L ++ nodes f (t.extract (cut t) t.size) (l.length + 1 + L.length)) = l ++ node t ((l.length + 1 : Nat) : Int) ((l.length + 1 + L.length : Nat) : Int) :: L ++ nodes f (t.extract (cut t) t.size) (l.length + 1 + L.length) by simp]
      exact Ev.now _
theorem impl_tree1 : ∀ (f : Nat) (t : ByteArray) (l : List T_siiii), 0 < t.size → t.size ≤ f → l.length + 2 * t.size ≤ 1000000 → Ev (fun k => impl_ropeTree'1 k t l) (l ++ nodes f t l.length, ()) := by
  intro f
  induction f with
  | zero => intro t l h1 h2; omega
  | succ f ih =>
    intro t l h1 h2 h3
    have ht : t.size ≤ 1048576 := by omega
    have e := fun k => impl_ropeTree'1.eq t l k
    have c5 : ∀ x : T_siiii, ((l.length : Int) + (([x] : List T_siiii).length : Int)) * 48 < 140737488355328 := fun x => by simp; omega
    simp only [W, W1, W2, W3] at e
    refine Ev.step e (Ev.bind (sum_ev t) ?_)
    by_cases c : t.size ≤ 64
    · simp only [if_pos (show (t.size : Int) ≤ 64 by omega), if_pos (c5 _)]
      rw [show nodes (f + 1) t l.length = [leaf t] from if_pos c]
      exact Ev.now _
    · simp only [if_neg (show ¬ (t.size : Int) ≤ 64 by omega)]
      refine (L7'1_loop t ht (by omega) _ _ l _ ((t.size + 1) / 2 + 1) 0 0 (by omega) (by omega) ?_).ev
      show Ev (fun k => restF k t (t.size : Int) (ends t : Int) ((cut t : Nat) : Int) l) _
      have hc := cut_bounds t (by omega)
      have s1 : (t.extract 0 (cut t)).size = cut t := by rw [ByteArray.size_extract]; omega
      have s2 : (t.extract (cut t) t.size).size = t.size - cut t := by rw [ByteArray.size_extract]; omega
      have hadd : addI .i64 (l.length : Int) 1 = ((l.length + 1 : Nat) : Int) := by rw [addI_i64 (by omega) (by omega)]; omega
      have g1 : (0 : Int) ≤ (l.length : Int) := by omega
      have g3 : (0 : Int) ≤ (cut t : Int) := by omega
      have g4 : (cut t : Int) ≤ (t.size : Int) := by omega
      have il := ih (t.extract 0 (cut t)) (l ++ [node t ((l.length + 1 : Nat) : Int) 0]) (by omega) (by omega) (by simp; omega)
      rw [show (l ++ [node t ((l.length + 1 : Nat) : Int) 0]).length = l.length + 1 by simp, mid] at il
      have nl := nodes_len f (t.extract 0 (cut t)) (l.length + 1) (by omega) (by omega)
      have hnn : nodes (f + 1) t l.length = node t ((l.length + 1 : Nat) : Int) ((l.length + 1 + (nodes f (t.extract 0 (cut t)) (l.length + 1)).length : Nat) : Int) :: (nodes f (t.extract 0 (cut t)) (l.length + 1) ++ nodes f (t.extract (cut t) t.size) (l.length + 1 + (nodes f (t.extract 0 (cut t)) (l.length + 1)).length)) := if_neg c
      rw [hnn]
      generalize nodes f (t.extract 0 (cut t)) (l.length + 1) = L at il nl
      simp only [restF, W, W1, W2, W3, Int.toNat_natCast, Int.toNat_zero, hadd, if_pos (c5 _), if_pos g1, if_pos g3, if_pos g4]
      refine Ev.bind il ?_
      have hlen2 : ∀ x : T_siiii, (((l ++ x :: L).length : Nat) : Int) = ((l.length + 1 + L.length : Nat) : Int) := fun x => by simp; omega
      have g5 : (l.length : Int) < ((l.length + 1 + L.length : Nat) : Int) := by omega
      have hr2 : ∀ x z : T_siiii, rd (l ++ x :: L) (l.length : Int) z = x := fun x z => rd_mid l L x z
      have hs2 : ∀ x y : T_siiii, (l ++ x :: L).set l.length y = l ++ y :: L := fun x y => by simp
      have ir := ih (t.extract (cut t) t.size) (l ++ node t ((l.length + 1 : Nat) : Int) ((l.length + 1 + L.length : Nat) : Int) :: L) (by omega) (by omega) (by simp; omega)
      rw [show (l ++ node t ((l.length + 1 : Nat) : Int) ((l.length + 1 + L.length : Nat) : Int) :: L).length = l.length + 1 + L.length by simp; omega] at ir
      simp only [hlen2, if_pos g5, hr2, hs2]
      refine Ev.bind ir ?_
      rw [show l ++ node t ((l.length + 1 : Nat) : Int) ((l.length + 1 + L.length : Nat) : Int) :: (L ++ nodes f (t.extract (cut t) t.size) (l.length + 1 + L.length)) = l ++ node t ((l.length + 1 : Nat) : Int) ((l.length + 1 + L.length : Nat) : Int) :: L ++ nodes f (t.extract (cut t) t.size) (l.length + 1 + L.length) by simp]
      exact Ev.now _
theorem impl_tree0 : ∀ (f : Nat) (t : ByteArray) (l : List T_siiii), 0 < t.size → t.size ≤ f → l.length + 2 * t.size ≤ 1000000 → Ev (fun k => impl_ropeTree k t l) (l ++ nodes f t l.length, ()) := by
  intro f
  cases f with
  | zero => intro t l h1 h2; omega
  | succ f =>
    intro t l h1 h2 h3
    have ht : t.size ≤ 1048576 := by omega
    have e := fun k => impl_ropeTree.eq t l k
    have c5 : ∀ x : T_siiii, ((l.length : Int) + (([x] : List T_siiii).length : Int)) * 48 < 140737488355328 := fun x => by simp; omega
    simp only [W, W1, W2, W3] at e
    refine Ev.step e (Ev.bind (sum_ev t) ?_)
    by_cases c : t.size ≤ 64
    · simp only [if_pos (show (t.size : Int) ≤ 64 by omega), if_pos (c5 _)]
      rw [show nodes (f + 1) t l.length = [leaf t] from if_pos c]
      exact Ev.now _
    · simp only [if_neg (show ¬ (t.size : Int) ≤ 64 by omega)]
      refine (L7_loop t ht (by omega) _ _ l _ ((t.size + 1) / 2 + 1) 0 0 (by omega) (by omega) ?_).ev
      show Ev (fun k => restF k t (t.size : Int) (ends t : Int) ((cut t : Nat) : Int) l) _
      have hc := cut_bounds t (by omega)
      have s1 : (t.extract 0 (cut t)).size = cut t := by rw [ByteArray.size_extract]; omega
      have s2 : (t.extract (cut t) t.size).size = t.size - cut t := by rw [ByteArray.size_extract]; omega
      have hadd : addI .i64 (l.length : Int) 1 = ((l.length + 1 : Nat) : Int) := by rw [addI_i64 (by omega) (by omega)]; omega
      have g1 : (0 : Int) ≤ (l.length : Int) := by omega
      have g3 : (0 : Int) ≤ (cut t : Int) := by omega
      have g4 : (cut t : Int) ≤ (t.size : Int) := by omega
      have il := impl_tree1 f (t.extract 0 (cut t)) (l ++ [node t ((l.length + 1 : Nat) : Int) 0]) (by omega) (by omega) (by simp; omega)
      rw [show (l ++ [node t ((l.length + 1 : Nat) : Int) 0]).length = l.length + 1 by simp, mid] at il
      have nl := nodes_len f (t.extract 0 (cut t)) (l.length + 1) (by omega) (by omega)
      have hnn : nodes (f + 1) t l.length = node t ((l.length + 1 : Nat) : Int) ((l.length + 1 + (nodes f (t.extract 0 (cut t)) (l.length + 1)).length : Nat) : Int) :: (nodes f (t.extract 0 (cut t)) (l.length + 1) ++ nodes f (t.extract (cut t) t.size) (l.length + 1 + (nodes f (t.extract 0 (cut t)) (l.length + 1)).length)) := if_neg c
      rw [hnn]
      generalize nodes f (t.extract 0 (cut t)) (l.length + 1) = L at il nl
      simp only [restF, W, W1, W2, W3, Int.toNat_natCast, Int.toNat_zero, hadd, if_pos (c5 _), if_pos g1, if_pos g3, if_pos g4]
      refine Ev.bind il ?_
      have hlen2 : ∀ x : T_siiii, (((l ++ x :: L).length : Nat) : Int) = ((l.length + 1 + L.length : Nat) : Int) := fun x => by simp; omega
      have g5 : (l.length : Int) < ((l.length + 1 + L.length : Nat) : Int) := by omega
      have hr2 : ∀ x z : T_siiii, rd (l ++ x :: L) (l.length : Int) z = x := fun x z => rd_mid l L x z
      have hs2 : ∀ x y : T_siiii, (l ++ x :: L).set l.length y = l ++ y :: L := fun x y => by simp
      have ir := impl_tree1 f (t.extract (cut t) t.size) (l ++ node t ((l.length + 1 : Nat) : Int) ((l.length + 1 + L.length : Nat) : Int) :: L) (by omega) (by omega) (by simp; omega)
      rw [show (l ++ node t ((l.length + 1 : Nat) : Int) ((l.length + 1 + L.length : Nat) : Int) :: L).length = l.length + 1 + L.length by simp; omega] at ir
      simp only [hlen2, if_pos g5, hr2, hs2]
      refine Ev.bind ir ?_
      rw [show l ++ node t ((l.length + 1 : Nat) : Int) ((l.length + 1 + L.length : Nat) : Int) :: (L ++ nodes f (t.extract (cut t) t.size) (l.length + 1 + L.length)) = l ++ node t ((l.length + 1 : Nat) : Int) ((l.length + 1 + L.length : Nat) : Int) :: L ++ nodes f (t.extract (cut t) t.size) (l.length + 1 + L.length) by simp]
      exact Ev.now _
end Go.Proofs.YtfbhkkedmfbgbaaDoor.PM
