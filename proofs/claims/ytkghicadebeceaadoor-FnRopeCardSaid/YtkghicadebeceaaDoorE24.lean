/- Regions whose order is drawn. -/
import Derived.Test.YtkghicadebeceaaDoorE23
namespace Go.Eng
set_option linter.unusedSectionVars false
variable [Glb]
open Go.RowKit
set_option linter.unusedSimpArgs false
set_option linter.unusedVariables false

abbrev Tri := Nat × Oper × Rec
section
variable {E : Env} {cf : Cf E} {ops : Array Oper} {ms : List Nat}
noncomputable def RunT (E : Env) (cf : Cf E) (ops : Array Oper) : List Tri → St → St → Prop
  | [], st, st' => st' = st
  | p :: l, st, st' => ∃ st1, Did E cf ops.toList p.2.1 p.2.2 st st1 ∧ RunT E cf ops l st1 st'
/-- two operations that may change places -/
noncomputable def Free (ops : Array Oper) (ms : List Nat) (p q : Tri) : Prop := Nat.testBit ((ms[q.1]?).getD 0) p.1 = true ∨ pairOk ops p.2.2 q.2.2 = true
theorem evRD_inv {ρ : Type} {K : St → Option ρ} {r : ρ} : ∀ (l : List Oper) (i : Nat) (st : St) (rs : List (Nat × Rec)), evRD E cf ops ms l i st rs K = some r →
    ∃ (L : List Tri) (st' : St), L.map (·.1) = List.range' i l.length ∧ L.map (·.2.1) = l ∧ RunT E cf ops L st st' ∧ L.Pairwise (Free ops ms) ∧
      (∀ q, q ∈ L → ∀ p, p ∈ rs → Nat.testBit ((ms[q.1]?).getD 0) p.1 = true ∨ pairOk ops p.2 q.2.2 = true) ∧ K st' = some r
  | [], i, st, rs, h => ⟨[], st, rfl, rfl, rfl, List.Pairwise.nil, (fun q hq => by cases hq), h⟩
  | o :: l, i, st, rs, h => by
    have fin : ∀ (v : V) (ob' : Ob) (f : Fp), act E cf ops.toList o st = some (v, ob', f) → pairsOk ops ms i (recOf ops.toList o st v f) rs = true →
        evRD E cf ops ms l (i + 1) (aft o st v ob' f) (rs ++ [(i, recOf ops.toList o st v f)]) K = some r → ∃ (L : List Tri) (st' : St), L.map (·.1) = List.range' i (o :: l).length ∧ L.map (·.2.1) = o :: l ∧ RunT E cf ops L st st' ∧ L.Pairwise (Free ops ms) ∧
      (∀ q, q ∈ L → ∀ p, p ∈ rs → Nat.testBit ((ms[q.1]?).getD 0) p.1 = true ∨ pairOk ops p.2 q.2.2 = true) ∧ K st' = some r := fun v ob' f h1 h2 h3 => by
      obtain ⟨L, st', g1, g2, g3, g4, g5, g6⟩ := evRD_inv l (i + 1) _ _ h3
      refine ⟨(i, o, recOf ops.toList o st v f) :: L, st', ?_, ?_, ⟨_, ⟨v, ob', f, h1, rfl, rfl⟩, g3⟩, ?_, ?_, g6⟩
      · simp [g1, List.range'_succ]
      · simp [g2]
      · refine List.pairwise_cons.2 ⟨fun q hq => ?_, g4⟩
        exact g5 q hq (i, recOf ops.toList o st v f) (by simp)
      · intro q hq p hp
        rcases List.mem_cons.1 hq with rfl | hq
        · have := List.all_eq_true.1 h2 p hp
          simpa using this
        · exact g5 q hq p (by simp [hp])
    have hgo : (effOp E cf o st.rv).run st.ob ⟨[], [], []⟩ (fun v ob' f => v.force fun v =>
          bif pairsOk ops ms i (mkRec o st v f) rs then evRD E cf ops ms l (i + 1) (St.put? { tm := tmAfter f.ns st.tm, ob := ob' } o.dst v) (rs ++ [(i, mkRec o st v f)]) K else none) = some r → wantV ops.toList o st = some true →
        ∃ (L : List Tri) (st' : St), L.map (·.1) = List.range' i (o :: l).length ∧ L.map (·.2.1) = o :: l ∧ RunT E cf ops L st st' ∧ L.Pairwise (Free ops ms) ∧
      (∀ q, q ∈ L → ∀ p, p ∈ rs → Nat.testBit ((ms[q.1]?).getD 0) p.1 = true ∨ pairOk ops p.2 q.2.2 = true) ∧ K st' = some r := fun h hw => by
      obtain ⟨v, ob', f, h1, h2⟩ := Eff.run_inv _ _ _ _ _ h
      rw [V.force_eq] at h2
      cases hp : pairsOk ops ms i (mkRec o st v f) rs with
      | false => rw [hp] at h2; cases h2
      | true =>
        rw [hp] at h2
        have er : recOf ops.toList o st v f = mkRec o st v f := by simp only [recOf, hw]
        exact fin v ob' f (by simp only [act, hw]; exact h1) (by rw [er]; exact hp) (by rw [er]; exact h2)
    have hno : (bif pairsOk ops ms i (skipRec o) rs then evRD E cf ops ms l (i + 1) (St.put? st o.dst (.tup [])) (rs ++ [(i, skipRec o)]) K else none) = some r → wantV ops.toList o st = some false →
        ∃ (L : List Tri) (st' : St), L.map (·.1) = List.range' i (o :: l).length ∧ L.map (·.2.1) = o :: l ∧ RunT E cf ops L st st' ∧ L.Pairwise (Free ops ms) ∧
      (∀ q, q ∈ L → ∀ p, p ∈ rs → Nat.testBit ((ms[q.1]?).getD 0) p.1 = true ∨ pairOk ops p.2 q.2.2 = true) ∧ K st' = some r := fun h hw => by
      cases hp : pairsOk ops ms i (skipRec o) rs with
      | false => rw [hp] at h; cases h
      | true =>
        rw [hp] at h
        have er : recOf ops.toList o st (.tup []) ⟨[], [], []⟩ = skipRec o := by simp only [recOf, hw]
        exact fin (.tup []) st.ob ⟨[], [], []⟩ (by simp only [act, hw]) (by rw [er]; exact hp) (by rw [er]; exact h)
    simp only [evRD, recK_eq] at h
    cases hg : o.guard with
    | none => rw [hg] at h; exact hgo h (by simp [wantV, hg])
    | some p =>
      obtain ⟨g, want⟩ := p
      rw [hg] at h
      simp only at h
      cases ht : dstOf ops.toList g with
      | none => rw [ht] at h; cases h
      | some t =>
        rw [ht] at h
        simp only at h
        split at h
        · rename_i b hb
          have hw : wantV ops.toList o st = some (b == want) := by simp [wantV, hg, ht, hb]
          cases b with
          | true =>
            simp only [brB, cond_true, put_same hb] at h
            cases want with
            | true => exact hgo h hw
            | false => exact hno h hw
          | false =>
            simp only [brB, cond_false, put_same hb] at h
            cases want with
            | true => exact hno h hw
            | false => exact hgo h hw
        · rename_i hb
          exact hno h (by simp [wantV, hg, ht, hb])
        · cases h
theorem bubble (x : Tri) (post : List Tri) : ∀ (pre : List Tri) (st st' : St), RunT E cf ops (pre ++ x :: post) st st' → (∀ p, p ∈ pre → pairOk ops p.2.2 x.2.2 = true) → RunT E cf ops (x :: (pre ++ post)) st st'
  | [], st, st', h, _ => h
  | p :: pre, st, st', ⟨st1, h1, h2⟩, hp => by
    obtain ⟨st2, h3, h4⟩ := bubble x post pre st1 st' h2 (fun q hq => hp q (by simp [hq]))
    obtain ⟨st1', h5, h6⟩ := did_swap h1 h3 (hp p (by simp))
    exact ⟨st1', h5, st2, h6, h4⟩
/-! ### who waits for whom -/
theorem masks_acc : ∀ (l : List Oper) (acc : List Nat), ∃ t, masks l acc = acc ++ t
  | [], acc => ⟨[], by simp [masks]⟩
  | o :: l, acc => by
    obtain ⟨t, ht⟩ := masks_acc l (acc ++ [edgeMask acc o.after.toList])
    exact ⟨[edgeMask acc o.after.toList] ++ t, by simp only [masks]; rw [ht, List.append_assoc]⟩
theorem masks_get : ∀ (l : List Oper) (acc : List Nat) (k : Nat) (o : Oper), l[k]? = some o → (masks l acc)[acc.length + k]? = some (edgeMask ((masks l acc).take (acc.length + k)) o.after.toList)
  | [], _, _, _, h => by simp at h
  | o' :: l, acc, 0, o, h => by
    obtain rfl := Option.some.inj h
    simp only [masks]
    obtain ⟨t, ht⟩ := masks_acc l (acc ++ [edgeMask acc o'.after.toList])
    rw [ht]
    simp
  | o' :: l, acc, k + 1, o, h => by
    have := masks_get l (acc ++ [edgeMask acc o'.after.toList]) k o (by simpa using h)
    simp only [masks]
    simp only [List.length_append, List.length_cons, List.length_nil] at this
    rw [show acc.length + (k + 1) = acc.length + (0 + 1) + k by omega]
    exact this
theorem edgeMask_bit (acc : List Nat) : ∀ (es : List Edge) (j : Nat), Nat.testBit (edgeMask acc es) j = true → ∃ e, e ∈ es ∧ Region.binds .any e = true ∧ (j = e.on ∨ Nat.testBit ((acc[e.on]?).getD 0) j = true)
  | [], j, h => by simp [edgeMask] at h
  | e :: es, j, h => by
    simp only [edgeMask] at h
    cases hb : Region.binds .any e with
    | false =>
      rw [hb] at h
      obtain ⟨e', h1, h2⟩ := edgeMask_bit acc es j h
      exact ⟨e', by simp [h1], h2⟩
    | true =>
      rw [hb] at h
      simp only [cond_true, Nat.testBit_or, Bool.or_eq_true] at h
      rcases h with (h | h) | h
      · rw [Nat.testBit_two_pow] at h
        exact ⟨e, by simp, hb, .inl (by simpa using h : e.on = j).symm⟩
      · exact ⟨e, by simp, hb, .inr h⟩
      · obtain ⟨e', h1, h2⟩ := edgeMask_bit acc es j h
        exact ⟨e', by simp [h1], h2⟩
theorem mask_closed {S : Nat → Prop} (hS : ∀ i o, S i → ops[i]? = some o → ∀ e, e ∈ o.after.toList → Region.binds .any e = true → S e.on) : ∀ (i : Nat) (o : Oper), ops[i]? = some o →
    (∀ e, e ∈ o.after.toList → Region.binds .any e = true → S e.on) → ∀ j, Nat.testBit (((masks ops.toList [])[i]?).getD 0) j = true → S j := by
  intro i
  induction i using Nat.strongRecOn with
  | _ i ih =>
    intro o ho he j hj
    have := masks_get ops.toList [] i o (by rw [Array.getElem?_toList]; exact ho)
    simp only [List.length_nil, Nat.zero_add] at this
    rw [this] at hj
    obtain ⟨e, h1, h2, h3⟩ := edgeMask_bit _ _ _ hj
    have hSe := he e h1 h2
    rcases h3 with rfl | h3
    · exact hSe
    · by_cases hlt : e.on < i
      · rw [List.getElem?_take, if_pos hlt] at h3
        have hil := (Array.getElem?_eq_some_iff.1 ho).1
        have ho' : ops[e.on]? = some (ops[e.on]'(by omega)) := Array.getElem?_eq_getElem (by omega)
        exact ih e.on hlt _ ho' (hS e.on _ hSe ho') j h3
      · rw [List.getElem?_take, if_neg hlt] at h3
        simp at h3
theorem edgesDown_at : ∀ (l : List Oper) (i k : Nat) (o : Oper), edgesDown l i = true → l[k]? = some o → ∀ e, e ∈ o.after.toList → Region.binds .any e = true → e.on < i + k
  | [], _, _, _, _, h => by simp at h
  | o' :: l, i, 0, o, hd, h => by
    obtain rfl := Option.some.inj h
    simp only [edgesDown, Bool.and_eq_true] at hd
    intro e he hb
    have := List.all_eq_true.1 hd.1 e he
    rw [hb] at this
    simp only [Bool.not_true, Bool.false_or, Nat.blt_eq] at this
    omega
  | o' :: l, i, k + 1, o, hd, h => by
    simp only [edgesDown, Bool.and_eq_true] at hd
    intro e he hb
    have := edgesDown_at l (i + 1) k o hd.2 (by simpa using h) e he hb
    omega
theorem mem_ready {listed : Array Bool} {i : Nat} : i ∈ Region.ready .any ops listed ↔ ∃ o, ops[i]? = some o ∧ listed.getD i true = false ∧ ∀ e, e ∈ o.after.toList → Region.binds .any e = true → listed.getD e.on false = true := by
  unfold Region.ready
  simp only [List.mem_filter, List.mem_range, Bool.and_eq_true, Bool.not_eq_true']
  constructor
  · rintro ⟨h1, h2, h3⟩
    refine ⟨ops[i]'h1, Array.getElem?_eq_getElem h1, h2, fun e he hb => ?_⟩
    rw [Array.getElem?_eq_getElem h1] at h3
    simp only [Option.map_some, Option.getD_some] at h3
    have := Array.all_eq_true'.1 h3 e (by simpa using he)
    rw [hb] at this
    simpa using this
  · rintro ⟨o, ho, h2, h3⟩
    refine ⟨(Array.getElem?_eq_some_iff.1 ho).1, h2, ?_⟩
    rw [ho]
    simp only [Option.map_some, Option.getD_some]
    refine Array.all_eq_true'.2 fun e he => ?_
    cases hb : Region.binds .any e with
    | false => rfl
    | true => simpa using h3 e (by simpa using he) hb
theorem getD_set {listed : Array Bool} {i j : Nat} {b : Bool} (hi : i < listed.size) : (listed.setIfInBounds i true).getD j b = if j = i then true else listed.getD j b := by
  rw [Array.getD_eq_getD_getElem?, Array.getD_eq_getD_getElem?]
  by_cases e : j = i
  · subst e
    rw [Array.getElem?_setIfInBounds_self_of_lt hi, if_pos rfl]
    rfl
  · rw [Array.getElem?_setIfInBounds_ne (fun h => e h.symm), if_neg e]
variable {w0 w : World} {R L : Nat → Prop} {N : Fx} {st st' : St} {a : Act} {loc : Nat → Loc} {γ : Nat → Option Nat}
theorem any_ok (hC : CallsOk E cf) (hN : dstsOk N.n ops.toList = true) (hd : edgesDown ops.toList 0 = true) {Q : Exit → Act → World → Prop} (hQ : ∀ a' w' loc' γ', Sim w0 R L N st' a' w' loc' γ' → Q .normal a' w') :
    ∀ (fuel : Nat) (rest : List Tri) (listed : Array Bool) (st : St) (a : Act) (w : World) (loc : Nat → Loc) (γ : Nat → Option Nat), listed.size = ops.size → rest.length ≤ fuel →
      (∀ i, i < ops.size → (listed.getD i true = false ↔ i ∈ rest.map (·.1))) → (rest.map (·.1)).Pairwise (· < ·) → (∀ p, p ∈ rest → ops[p.1]? = some p.2.1) → rest.Pairwise (Free ops (masks ops.toList [])) →
      RunT E cf ops rest st st' → Sim w0 R L N st a w loc γ →
      (∀ i o, listed.getD i false = true → ops[i]? = some o → ∀ e, e ∈ o.after.toList → Region.binds .any e = true → listed.getD e.on false = true) →
      wpAny E.P .any ops Q fuel listed a w := by
  have noready : ∀ (rest : List Tri) (listed : Array Bool), listed.size = ops.size → (∀ i, i < ops.size → (listed.getD i true = false ↔ i ∈ rest.map (·.1))) → (rest.map (·.1)).Pairwise (· < ·) → (∀ p, p ∈ rest → ops[p.1]? = some p.2.1) →
      Region.ready .any ops listed = [] → rest = [] := by
    intro rest listed hsz hl hs ho hr
    cases rest with
    | nil => rfl
    | cons p rest =>
      exfalso
      have hop := ho p (by simp)
      have hlt := (Array.getElem?_eq_some_iff.1 hop).1
      have : p.1 ∈ Region.ready .any ops listed := by
        refine mem_ready.2 ⟨p.2.1, hop, (hl p.1 hlt).2 (by simp), fun e he hb => ?_⟩
        have he' := edgesDown_at ops.toList 0 p.1 p.2.1 hd (by rw [Array.getElem?_toList]; exact hop) e he hb
        rw [Nat.zero_add] at he'
        have hne : e.on ∉ (p :: rest).map (·.1) := fun hm => by
          simp only [List.map_cons, List.mem_cons] at hm
          rcases hm with hm | hm
          · omega
          · have : p.1 < e.on := (List.pairwise_cons.1 hs).1 e.on hm
            omega
        have h1 : e.on < listed.size := by omega
        have h2 : ¬ listed.getD e.on true = false := fun h => hne ((hl e.on (by omega)).1 h)
        rw [Array.getD_eq_getD_getElem?, Array.getElem?_eq_getElem h1] at h2 ⊢
        simpa using h2
      rw [hr] at this
      cases this
  intro fuel
  induction fuel with
  | zero =>
    intro rest listed st a w loc γ hsz hf hl hs ho hp hrun hsim hcl
    obtain rfl : rest = [] := List.length_eq_zero_iff.1 (by omega)
    have hrun : st' = st := hrun
    subst hrun
    refine ⟨?_, hQ _ _ _ _ hsim⟩
    refine List.eq_nil_iff_forall_not_mem.2 fun i hi => ?_
    obtain ⟨o, h1, h2, _⟩ := mem_ready.1 hi
    have := (hl i (Array.getElem?_eq_some_iff.1 h1).1).1 h2
    simp at this
  | succ fuel ih =>
    intro rest listed st a w loc γ hsz hf hl hs ho hp hrun hsim hcl
    refine ⟨fun hr => ?_, fun i hi => ?_⟩
    · obtain rfl := noready rest listed hsz hl hs ho hr
      have hrun : st' = st := hrun
      subst hrun
      exact hQ _ _ _ _ hsim
    · obtain ⟨o, h1, h2, h3⟩ := mem_ready.1 hi
      have hlt := (Array.getElem?_eq_some_iff.1 h1).1
      obtain ⟨x, hx, hxi⟩ := List.mem_map.1 ((hl i hlt).1 h2)
      obtain ⟨pre, post, rfl⟩ := List.append_of_mem hx
      subst hxi
      have hxo := ho x hx
      rw [h1] at hxo
      obtain rfl := Option.some.inj hxo
      have hfree : ∀ p, p ∈ pre → pairOk ops p.2.2 x.2.2 = true := fun p hpm => by
        have hpf := (List.pairwise_append.1 hp).2.2 p hpm x (by simp)
        rcases hpf with hb | hb
        · exfalso
          have := mask_closed (S := fun i => listed.getD i false = true) (fun i o hi hop => hcl i o hi hop) x.1 _ h1 h3 p.1 hb
          have hpo := ho p (by simp [hpm])
          have hpl := (Array.getElem?_eq_some_iff.1 hpo).1
          have hpu := (hl p.1 hpl).2 (List.mem_map.2 ⟨p, by simp [hpm], rfl⟩)
          rw [Array.getD_eq_getD_getElem?, Array.getElem?_eq_getElem (by omega)] at this hpu
          simp at this hpu
          rw [this] at hpu
          cases hpu
        · exact hb
      obtain ⟨st1, g1, g2⟩ := bubble x post pre st st' hrun hfree
      refine op_step hC hN h1 hsim g1.stp (fun a' w' loc' γ' hsim' => ?_)
      have hnotin : x.1 ∉ (pre ++ post).map (·.1) := fun hm => by
        simp only [List.map_append, List.map_cons, List.mem_append] at hm hs
        obtain ⟨s1, s2, s3⟩ := List.pairwise_append.1 hs
        rcases hm with hm | hm
        · have := s3 x.1 hm x.1 (by simp); omega
        · have := (List.pairwise_cons.1 s2).1 x.1 hm; omega
      have hsub : List.Sublist (pre ++ post) (pre ++ x :: post) := List.Sublist.append (List.Sublist.refl _) (List.sublist_cons_self _ _)
      refine ih (pre ++ post) _ st1 a' w' loc' γ' (by simpa using hsz) (by simp only [List.length_append, List.length_cons] at hf ⊢; omega) (fun j hj => ?_) (hs.sublist (hsub.map _)) (fun p hpm => ho p (hsub.subset hpm)) (hp.sublist hsub) g2 hsim' (fun j oj hj hoj e he hb => ?_)
      · rw [getD_set (by omega)]
        by_cases e : j = x.1
        · subst e
          rw [if_pos rfl]
          exact ⟨fun h => (by cases h), fun h => absurd h hnotin⟩
        · rw [if_neg e, hl j hj]
          simp only [List.map_append, List.map_cons, List.mem_append, List.mem_cons]
          constructor
          · rintro (h | h | h)
            · exact .inl h
            · exact absurd h e
            · exact .inr h
          · rintro (h | h)
            · exact .inl h
            · exact .inr (.inr h)
      · have key : listed.getD e.on false = true := by
          rw [getD_set (by omega)] at hj
          by_cases ej : j = x.1
          · subst ej
            rw [h1] at hoj
            obtain rfl := Option.some.inj hoj
            exact h3 e he hb
          · rw [if_neg ej] at hj
            exact hcl j oj hj hoj e he hb
        rw [getD_set (by omega)]
        split
        · rfl
        · exact key
theorem draw_ok (hm : E.P.follows .mixedOrders = true) (hC : CallsOk E cf) : DrawOk E cf := by
  intro N ops hN hd ρ K r w0 w R L st a loc γ id Q hs h hQ
  obtain ⟨T, st', h1, h2, h3, h4, _, h6⟩ := evRD_inv ops.toList 0 st [] h
  refine wp_region_any hm ?_
  have hs' : Sim w0 R L N st a { w with drawn := w.drawn + 1 } loc γ := by
    refine ⟨hs.tm, fun id o ho => (hs.ob id o ho).keep rfl (fun b hb => ⟨hb, rfl⟩), hs.col, hs.fr.drew, hs.ro, hs.n, hs.df, hs.lc, hs.gl⟩
  have hlen : T.length = ops.size := by
    have := congrArg List.length h2
    simpa using this
  have hat : ∀ p, p ∈ T → ops[p.1]? = some p.2.1 := fun p hp => by
    obtain ⟨k, hk⟩ := List.getElem?_of_mem hp
    have e1 : (T.map (·.1))[k]? = some p.1 := by rw [List.getElem?_map, hk]; rfl
    have e2 : (T.map (·.2.1))[k]? = some p.2.1 := by rw [List.getElem?_map, hk]; rfl
    rw [h1, List.getElem?_range'] at e1
    · rw [h2, Array.getElem?_toList] at e2
      have : p.1 = k := by
        have := Option.some.inj e1
        omega
      rw [this]
      exact e2
    · have := (List.getElem?_eq_some_iff.1 hk).1
      simp
      omega
  refine any_ok hC hN hd (fun a' w' loc' γ' hs'' => hQ st' a' w' loc' γ' hs'' h6) ops.size T _ st a _ loc γ (by simp) (by omega) (fun i hi => ?_) ?_ hat h4 h3 hs' (fun i o hi => ?_)
  · rw [h1]
    simp [Array.getD_eq_getD_getElem?, hi]
  · rw [h1]
    exact List.pairwise_lt_range'
  · rw [Array.getD_eq_getD_getElem?, Array.getElem?_replicate] at hi
    split at hi <;> simp at hi
end
end Go.Eng
