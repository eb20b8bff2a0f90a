/- The law of steps between two texts, plainly. -/
import Derived.Test.YtkkjkpliiinbjaaDoorPDrawTwo
import Derived.Test.YtkkjkpliiinbjaaDoorPApply
namespace Go.Proofs.YtkkjkpliiinbjaaDoor.DF
open Go.Eng Go.RowKit
set_option linter.unusedVariables false
set_option linter.unusedSimpArgs false
theorem specCharsOf (t : ByteArray) (ht : t.size ≤ 65536) : Ev (fun k => spec_Chars k t) (chs t) := by
  have hc : Ev (fun k => spec_CharCuts k t) (cuts t) := by
    have e := fun k => spec_CharCuts.eq t k
    simp only [W, W1, W3, if_neg (show ¬ (65536 : Int) < (t.size : Int) by omega)] at e
    exact Ev.step e (Ev.bind (specChars t ht) (Ev.now _))
  have hp := specPieces t (cuts t) (by have := cuts_len t; omega) (cuts_rise t).rise
  have e := fun k => spec_Chars.eq t k
  simp only [W3] at e
  exact Ev.step e (Ev.bind hc (Ev.bind hp (Ev.now _)))
theorem chs_join {t : ByteArray} (h : Tx t) : joinL (chs t) = t := by
  obtain ⟨l, hl, rfl⟩ := h
  rw [chs_enc hl, joinL_enc, grs_flat]
theorem keptL_imm (x y : List ByteArray) : Imm x y 0 0 (pairsOf 0 (keptL x y) ++ [((x.length : Int), (y.length : Int))]) := by
  have h := imm_kp x y (tab y x) (x.length + y.length) 0 0 (by omega) (Nat.zero_le _) (Nat.zero_le _)
  rw [kp_sp x y (tab y x) _ 0 0 (Nat.zero_le _)] at h
  exact h
/-- the steps, as the pairs tell -/
theorem diffT_imp (a b : ByteArray) (ha : a.size ≤ 65536) (hb : b.size ≤ 65536) (hx : (chs a).length ≤ 300) (hy : (chs b).length ≤ 300) : diffT a b = impF (chs a) (chs b) (pairsOf 0 (keptL (chs a) (chs b)) ++ [(((chs a).length : Int), ((chs b).length : Int))]) 0 0 0 := by
  unfold diffT
  rw [if_neg (by omega), if_neg (by omega), if_neg (by omega), if_neg (by omega)]
  have h := imp_sp (chs a) (chs b) (keptL (chs a) (chs b)) 0 0 0 0 (Nat.le_refl _) (by rw [keptL_len]; omega)
  exact h.symm
theorem diffT_same (a : ByteArray) : diffT a a = [] := by
  by_cases h1 : 65536 < a.size
  · unfold diffT; rw [if_pos h1]
  by_cases h2 : 300 < (chs a).length
  · unfold diffT; rw [if_neg h1, if_neg h1, if_pos h2]
  rw [diffT_imp a a (by omega) (by omega) (by omega) (by omega)]
  exact same_imp (chs a) _ 0 0 (keptL_imm _ _) (Nat.zero_le _)
theorem diff_small (x y : List ByteArray) : ∀ (l : List Int) (i : Nat) (t : Int) (k : Nat) (g : ByteArray) (n : Nat), (∀ i j p : Nat, (joinL ((y.take p).drop j)).size ≤ n) → (∀ s ∈ x, s.size ≤ n) → g.size + l.length * n ≤ 1048576 → n ≤ 1048576 → (∀ s ∈ spF x y l i t k g, Small s) := by
  intro l
  induction l with
  | nil => intro i t k g n h1 h2 h3 h4 s hs; cases hs
  | cons v r ih =>
    intro i t k g n h1 h2 h3 h4 s hs
    rw [List.length_cons, Nat.add_mul] at h3
    unfold spF at hs
    by_cases c : v < 0
    · rw [if_pos c] at hs
      have hr : (rd x (i : Int) (bs [])).size ≤ n := by
        by_cases hi : i < x.length
        · rw [rd_nat x i _ hi]; exact h2 _ (List.getElem_mem _)
        · have e0 : (bs []).size = 0 := rfl
          have : rd x (i : Int) (bs []) = bs [] := by
            simp [rd, List.getD, List.getElem?_eq_none (show x.length ≤ i by omega)]
          rw [this]; omega
      exact ih (i + 1) t k _ n h1 h2 (by rw [ByteArray.size_append]; omega) h4 s hs
    · rw [if_neg c] at hs
      rcases List.mem_append.1 hs with hs | hs
      · by_cases d : g = bs [] ∧ joinL ((y.take v.toNat).drop k) = bs []
        · rw [if_pos d] at hs; cases hs
        · rw [if_neg d] at hs
          rw [List.mem_singleton] at hs
          rw [hs]
          exact ⟨by show g.size ≤ _; omega, by have := h1 0 k v.toNat; show (joinL ((y.take v.toNat).drop k)).size ≤ _; omega⟩
      · refine ih _ _ _ _ n h1 h2 ?_ h4 s hs
        have e0 : (bs []).size = 0 := rfl
        omega
theorem and5 : andB true (andB true (andB true (andB true true))) = true := rfl
theorem br_t {α : Type} (x y : Option α) : brB true x y = x := rfl
theorem lists_loop (a b : ByteArray) (l : List T_issi) (hl : l.length ≤ 1048576) {r : Bool} (hh : Ev (fun k => (impl_HistoryFault k a l (l.length : Int)).bind fun r0 => if r0 = 0 then (impl_TextAt k a l (l.length : Int) (l.length : Int)).bind fun r1 => if r1 = b then (impl_DiffTexts k a a).bind fun r2 => some (decide ((r2.length : Int) = 0)) else some false else some false) r) :
    ∀ (suf pre : List T_issi), l = pre ++ suf → Ev2 (fun k j => laws_FnDiffed_L11 k j a b (pre.length : Int) l l) r := by
  intro suf
  induction suf with
  | nil =>
    intro pre hp
    have e := fun k j => laws_FnDiffed_L11.eq a b (pre.length : Int) l l k j
    simp only [W, W1, W2, W3, if_neg (show ¬ (pre.length : Int) < (l.length : Int) by rw [hp]; exact end_nlt pre)] at e
    exact Ev2.step e hh.two
  | cons q suf ih =>
    intro pre hp
    have hle : pre.length + 1 ≤ l.length := by rw [hp, List.length_append, List.length_cons]; omega
    have e := fun k j => laws_FnDiffed_L11.eq a b (pre.length : Int) l l k j
    simp only [W, W1, W2, W3, if_pos (nat_ge pre.length), if_pos (show (pre.length : Int) < (l.length : Int) by omega), next_i pre q (by omega), decide_true, Bool.and_self] at e
    have e' : ∀ k j, laws_FnDiffed_L11 k (j + 1) a b (pre.length : Int) l l = laws_FnDiffed_L11 k j a b ((pre ++ [q]).length : Int) l l := fun k j => by
      rw [e k j, and5, br_t]
    exact Ev2.step e' (ih (pre ++ [q]) (by rw [hp]; simp))
theorem pure_FnDiffed (code : List Int) (h : CT.good (.row e_y) code) : ∃ k, laws_FnDiffed k code = some true := by
  suffices key : Ev (fun k => laws_FnDiffed k code) true by obtain ⟨n, hn⟩ := key; exact ⟨n, hn n (Nat.le_refl _)⟩
  have e := fun k => laws_FnDiffed.eq code k
  by_cases hc : (1048576 : Int) < (code.length : Int)
  · simp only [W, W1, W2, W3, if_pos hc] at e
    exact Ev.step e (Ev.now _)
  obtain ⟨v, hv, ⟨⟨ta, za⟩, ⟨tb, zb⟩⟩⟩ := draw_ev code (by omega)
  obtain ⟨a, b⟩ := v
  have ta : Tx a := ta
  have tb : Tx b := tb
  have za : a.size ≤ 303 := za
  have zb : b.size ≤ 303 := zb
  have hd1 := implDiff a b
  have hd2 := specDiff a b
  have hlen := diffT_len a b
  have hs1 := specCharsOf a (by omega)
  have hs2 := specCharsOf b (by omega)
  simp only [W, W1, W2, W3, if_neg hc] at e
  refine Ev.step e (Ev.bind hv (Ev.bind hd1 (Ev.bind hd2 ?_)))
  simp only [decide_true, Bool.not_true, if_true]
  refine Ev.bind hs1 ?_
  by_cases c1 : (300 : Int) < ((chs a).length : Int)
  · simp only [if_pos c1]; exact Ev.now _
  simp only [if_neg c1]
  refine Ev.bind hs2 ?_
  by_cases c2 : (300 : Int) < ((chs b).length : Int)
  · simp only [if_pos c2]; exact Ev.now _
  simp only [if_neg c2]
  by_cases c3 : (300 : Int) < ((diffT a b).length : Int)
  · simp only [if_pos c3]; exact Ev.now _
  simp only [if_neg c3]
  have hx : (chs a).length ≤ 300 := by omega
  have hy : (chs b).length ≤ 300 := by omega
  have hja := chs_join ta
  have hjb := chs_join tb
  have himp := diffT_imp a b (by omega) (by omega) hx hy
  have hrun : (diffT a b).all okStep = true ∧ run a (diffT a b) = some b := by
    rw [himp]
    have hne : ∀ i p j q : Nat, p ≤ (chs a).length → q ≤ (chs b).length → joinL (((chs a).take p).drop i) = joinL (((chs b).take q).drop j) → i < p ∨ j < q → i < p ∧ j < q ∧ rd (chs a) (i : Int) (bs []) = rd (chs b) (j : Int) (bs []) := by
      obtain ⟨la, hla, rfl⟩ := ta
      obtain ⟨lb, hlb, rfl⟩ := tb
      rw [chs_enc hla, chs_enc hlb]
      intro i p j q hp hq
      rw [List.length_map] at hp hq
      exact part_same (grs_grp hla) (grs_grp hlb) hp hq
    have h0 := run_imp (chs a) (chs b) hne (by rw [hja, hjb]; omega) _ 0 0 a (keptL_imm _ _) (by simp) (by rw [List.take_zero, List.drop_zero, joinL_nil, bs_app0, hja])
    rw [hjb] at h0
    exact h0
  have hscan : (scan a (diffT a b)).isSome = true := by
    rw [scan_run, hrun.1, hrun.2]; rfl
  have hval : valid a (diffT a b) ((diffT a b).length : Int) = true := by
    unfold valid
    rw [hscan, decide_eq_true (show a.size ≤ 65536 by omega), decide_eq_true (show (diffT a b).length ≤ 300 by omega), decide_eq_true (show (0 : Int) ≤ ((diffT a b).length : Int) by omega), decide_eq_true (Int.le_refl _)]
    rfl
  have hsm : ∀ s ∈ diffT a b, Small s := by
    have oka := chs_ok a (by omega)
    unfold diffT
    rw [if_neg (by omega), if_neg (by omega), if_neg (by omega), if_neg (by omega)]
    refine diff_small (chs a) (chs b) _ 0 0 0 (bs []) 303 (fun i j p => ?_) (fun s hs => ?_) ?_ (by omega)
    · have h1 := (join_part_le (chs b) p).1
      have h2 := (join_part_le ((chs b).take p) j).2
      rw [hjb] at h1
      omega
    · obtain ⟨n, hn, rfl⟩ := List.getElem_of_mem hs
      have e1 : chs a = (chs a).take n ++ (chs a)[n] :: (chs a).drop (n + 1) := by
        conv => lhs; rw [← List.take_append_drop n (chs a), List.drop_eq_getElem_cons hn]
      have e2 : a = joinL ((chs a).take n) ++ ((chs a)[n] ++ joinL ((chs a).drop (n + 1))) := by
        conv => lhs; rw [← hja, e1, joinL_app, joinL_cons]
      have : a.size = (joinL ((chs a).take n)).size + ((chs a)[n].size + (joinL ((chs a).drop (n + 1))).size) := by
        conv => lhs; rw [e2]
        rw [ByteArray.size_append, ByteArray.size_append]
      omega
    · rw [List.length_append, keptL_len, List.length_singleton]
      have : (bs []).size = 0 := rfl
      omega
  obtain ⟨r, hr1, hr2, hr3, _⟩ := valid_scan _ _ _ hval
  have htx := texts_ev a (diffT a b) ((diffT a b).length : Int) (by omega) hsm
  rw [hr2] at htx
  obtain ⟨u, hu1, hu2⟩ := scan_at (diffT a b) a r (diffT a b).length hr1 (Nat.le_refl _)
  rw [List.take_length, hrun.2] at hu2
  obtain rfl := Option.some.inj hu2
  have hfault : Ev (fun k => impl_HistoryFault k a (diffT a b) ((diffT a b).length : Int)) 0 := by
    have e := fun k => impl_HistoryFault.eq a (diffT a b) ((diffT a b).length : Int) k
    simp only [W3] at e
    refine Ev.step e (Ev.bind htx ?_)
    simp only [W1]
    exact Ev.now _
  have hat : Ev (fun k => impl_TextAt k a (diffT a b) ((diffT a b).length : Int) ((diffT a b).length : Int)) b := by
    have e := fun k => impl_TextAt.eq a (diffT a b) ((diffT a b).length : Int) ((diffT a b).length : Int) k
    simp only [W, W1, W2, W3] at e
    refine Ev.step e (Ev.bind htx ?_)
    have hlt : (diffT a b).length < r.length := by omega
    have hrd : rd r ((diffT a b).length : Int) (bs []) = b := by
      rw [rd_nat r _ _ hlt]
      rw [List.getElem?_eq_getElem hlt] at hu1
      exact Option.some.inj hu1
    simp only [if_neg (show ¬ ((diffT a b).length : Int) < 0 by omega), if_neg (show ¬ (r.length : Int) ≤ ((diffT a b).length : Int) by omega), if_pos (nat_ge (diffT a b).length), if_pos (show ((diffT a b).length : Int) < (r.length : Int) by omega), hrd]
    exact Ev.now _
  have hself := implDiff a a
  rw [diffT_same] at hself
  refine (lists_loop a b (diffT a b) (by omega) ?_ (diffT a b) [] rfl).ev
  refine Ev.bind hfault ?_
  simp only [if_true]
  refine Ev.bind hat ?_
  simp only [if_true]
  exact Ev.bind hself (Ev.now _)
end Go.Proofs.YtkkjkpliiinbjaaDoor.DF
#print axioms Go.Proofs.YtkkjkpliiinbjaaDoor.DF.pure_FnDiffed
