/- Code. -/
import Derived.Test.YtkghicadebeceaaDoorE14
namespace Go.Eng
set_option linter.unusedSectionVars false
variable [Glb]
open Go.RowKit
set_option linter.unusedSimpArgs false
set_option linter.unusedVariables false

noncomputable def DrawOk (E : Env) (cf : Cf E) : Prop := ∀ (N : Fx) (ops : Array Oper), dstsOk N.n ops.toList = true → edgesDown ops.toList 0 = true → ∀ {ρ : Type} (K : St → Option ρ) (r : ρ) (w0 w : World) (R L : Nat → Prop) (st : St) (a : Act) (loc : Nat → Loc) (γ : Nat → Option Nat) (id : Nat) (Q : Exit → Act → World → Prop),
  Sim w0 R L N st a w loc γ → evRD E cf ops (masks ops.toList []) ops.toList 0 st [] K = some r → (∀ st' a' w' loc' γ', Sim w0 R L N st' a' w' loc' γ' → K st' = some r → Q .normal a' w') → (Code.region id ops true).wp E.P Q a w

section
variable {E : Env} {cf : Cf E} {w0 w w' : World} {R L : Nat → Prop} {N : Fx} {st st' : St} {a : Act} {loc : Nat → Loc} {γ : Nat → Option Nat}

/-- the states that a state may be turned into: the same frame, told otherwise -/
noncomputable def Turns (w0 : World) (R L : Nat → Prop) (N : Fx) {ρ : Type} (T : St → (St → Option ρ) → Option ρ) : Prop :=
  ∀ (st : St) (K : St → Option ρ) (r : ρ) (a : Act) (w : World) (loc : Nat → Loc) (γ : Nat → Option Nat), Sim w0 R L N st a w loc γ → T st K = some r → ∃ st' loc' γ', Sim w0 R L N st' a w loc' γ' ∧ K st' = some r

theorem least {p : Nat → Prop} (h : ∃ n, p n) : ∃ m, p m ∧ ∀ k, p k → m ≤ k := by
  classical
  obtain ⟨n, hn⟩ := h
  induction n using Nat.strongRecOn with
  | _ n ih =>
    by_cases hx : ∃ k, k < n ∧ p k
    · obtain ⟨k, hk, hp⟩ := hx
      exact ih k hk hp
    · exact ⟨n, hn, fun k hk => Nat.le_of_not_lt fun hlt => hx ⟨k, hlt, hk⟩⟩
theorem loop_ok {ρ : Type} {r : ρ} {body : St → (Exit → St → Option ρ) → Option ρ} {nm : St → (St → Option ρ) → Option ρ} {c : Code} {K : Exit → St → Option ρ} {Q : Exit → Act → World → Prop}
    (hbody : ∀ (st : St) (K' : Exit → St → Option ρ) (a : Act) (w : World) (loc : Nat → Loc) (γ : Nat → Option Nat) (Q' : Exit → Act → World → Prop), Sim w0 R L N st a w loc γ → body st K' = some r →
      (∀ e st' a' w' loc' γ', Sim w0 R L N st' a' w' loc' γ' → K' e st' = some r → Q' e a' w') → c.wp E.P Q' a w)
    (hnm : Turns w0 R L N nm) (hQ : ∀ e st' a' w' loc' γ', e ≠ .normal → Sim w0 R L N st' a' w' loc' γ' → K e st' = some r → Q e a' w')
    {n : Nat} {st : St} {a : Act} {w : World} {loc : Nat → Loc} {γ : Nat → Option Nat} (hs : Sim w0 R L N st a w loc γ) (h : loopK body nm n st K = some r) : (Code.loop c).wp E.P Q a w := by
  classical
  let W : Nat → Act → World → Prop := fun n a w => ∃ st loc γ, Sim w0 R L N st a w loc γ ∧ loopK body nm n st K = some r
  let I : Act → World → Prop := fun a w => ∃ n, W n a w
  let μ : Act → World → Nat := fun a w => if hI : ∃ n, W n a w then Classical.choose (least hI) else 0
  refine wp_loop I μ ⟨n, st, loc, γ, hs, h⟩ (fun a w hI => ?_)
  have hmu : μ a w = Classical.choose (least hI) := by simp only [μ]; exact dif_pos hI
  obtain ⟨st1, loc1, γ1, hs1, h1⟩ := (Classical.choose_spec (least hI)).1
  cases hn : Classical.choose (least hI) with
  | zero => rw [hn] at h1; simp [loopK] at h1
  | succ m =>
    rw [hn] at h1
    simp only [loopK] at h1
    refine hbody st1 _ a w loc1 γ1 _ hs1 h1 (fun e st2 a2 w2 loc2 γ2 hs2 h2 => ?_)
    cases e with
    | normal =>
      simp only [lpK] at h2
      obtain ⟨st3, loc3, γ3, hs3, h3⟩ := hnm st2 _ r a2 w2 loc2 γ2 hs2 h2
      have hI2 : ∃ n, W n a2 w2 := ⟨m, st3, loc3, γ3, hs3, h3⟩
      refine ⟨hI2, ?_⟩
      rw [hmu, hn]
      simp only [μ]
      rw [dif_pos hI2]
      exact Nat.lt_succ_of_le ((Classical.choose_spec (least hI2)).2 m ⟨st3, loc3, γ3, hs3, h3⟩)
    | _ => exact hQ _ st2 a2 w2 loc2 γ2 (by simp) hs2 h2

/-- what is asked of the turning of states -/
noncomputable def NormsOk (E : Env) (w0 : World) (R L : Nat → Prop) (N : Fx) (m : Nat) : Prop := ∀ (h : Hint) {ρ : Type}, Turns w0 R L N (fun (st : St) (K : St → Option ρ) => normK m h st K)
theorem mark_eq {ρ : Type} (h : Option Hint) (x : Option ρ) : mark h x = x := by cases h <;> first | rfl | exact joinB_eq x
theorem nrmK_turns {m : Nat} (hN : NormsOk E w0 R L N m) (h : Option Hint) {ρ : Type} : Turns w0 R L N (fun (st : St) (K : St → Option ρ) => nrmK m h st K) := by
  cases h with
  | none => exact fun st K r a w loc γ hs h => ⟨st, loc, γ, hs, h⟩
  | some h => exact hN h

theorem code_ok (hC : CallsOk E cf) (hD : DrawOk E cf) {f m k : Nat} (hNm : NormsOk E w0 R L N m) {ρ : Type} {r : ρ} : ∀ (c : Code), codeOk N.n c = true → ∀ (st : St) (K : Exit → St → Option ρ) (a : Act) (w : World) (loc : Nat → Loc) (γ : Nat → Option Nat) (Q : Exit → Act → World → Prop),
    Sim w0 R L N st a w loc γ → evK E cf f m k c st K = some r → (∀ e st' a' w' loc' γ', Sim w0 R L N st' a' w' loc' γ' → K e st' = some r → Q e a' w') → c.wp E.P Q a w
  | .skip, _, st, K, a, w, loc, γ, Q, hs, h, hQ => wp_skip (hQ .normal st a w loc γ hs h)
  | .label _, _, st, K, a, w, loc, γ, Q, hs, h, hQ => wp_label (hQ .normal st a w loc γ hs h)
  | .exit id, _, st, K, a, w, loc, γ, Q, hs, h, hQ => wp_exit (hQ (.exit id) st a w loc γ hs h)
  | .ret, _, st, K, a, w, loc, γ, Q, hs, h, hQ => wp_ret (hQ .ret st a w loc γ hs h)
  | .region id ops draw, hc, st, K, a, w, loc, γ, Q, hs, h, hQ => by
    cases draw with
    | true =>
      simp only [evK, cond_true] at h
      cases he : edgesDown ops.toList 0 with
      | false => rw [he] at h; cases h
      | true =>
        rw [he] at h
        simp only [cond_true, masksK_eq] at h
        exact hD N ops hc he _ r w0 w R L st a loc γ id Q hs h (fun st' a' w' loc' γ' hs' h' => hQ .normal st' a' w' loc' γ' hs' h')
    | false =>
      simp only [evK, cond_false] at h
      obtain ⟨st', h1, h2⟩ := evR_inv _ _ _ _ h
      refine wp_region ?_
      rw [List.range_eq_range', show ops.size = ops.toList.length from (Array.length_toList).symm]
      exact region_ok hC hc ops.toList 0 st st' a w loc γ (by simp) hs h1 (fun a' w' loc' γ' hs' => hQ .normal st' a' w' loc' γ' hs' h2)
  | .seq x y, hc, st, K, a, w, loc, γ, Q, hs, h, hQ => by
    simp only [codeOk, Bool.and_eq_true] at hc
    simp only [evK] at h
    refine wp_seq (code_ok hC hD hNm x hc.1 st _ a w loc γ _ hs h (fun e st1 a1 w1 loc1 γ1 hs1 h1 => ?_))
    cases e with
    | normal =>
      simp only [seqKont] at h1
      obtain ⟨st2, loc2, γ2, hs2, h2⟩ := nrmK_turns hNm _ st1 _ r a1 w1 loc1 γ1 hs1 h1
      rw [mark_eq] at h2
      exact code_ok hC hD hNm y hc.2 st2 K a1 w1 loc2 γ2 Q hs2 h2 hQ
    | _ => exact hQ _ st1 a1 w1 loc1 γ1 hs1 h1
  | .cond c x y, hc, st, K, a, w, loc, γ, Q, hs, h, hQ => by
    simp only [codeOk, Bool.and_eq_true] at hc
    simp only [evK] at h
    have ec := hs.eval c
    split at h
    · rename_i t ht
      rw [ht] at ec
      have ec' : a.eval c = .bool t := ec
      refine wp_cond ec' ?_
      cases t with
      | true => exact code_ok hC hD hNm x hc.1 st K a w loc γ Q hs h hQ
      | false => exact code_ok hC hD hNm y hc.2 st K a w loc γ Q hs h hQ
    · cases h
  | .block id b, hc, st, K, a, w, loc, γ, Q, hs, h, hQ => by
    simp only [evK] at h
    refine wp_block (code_ok hC hD hNm b hc st _ a w loc γ _ hs h (fun e st1 a1 w1 loc1 γ1 hs1 h1 => ?_))
    cases e with
    | exit id' =>
      simp only [blockKont] at h1
      by_cases e : id' = id
      · subst e
        rw [beq_self] at h1
        simp only [Exit.inBlock, if_true]
        exact hQ .normal st1 a1 w1 loc1 γ1 hs1 h1
      · rw [beq_ne e] at h1
        simp only [Exit.inBlock, if_neg e]
        exact hQ (.exit id') st1 a1 w1 loc1 γ1 hs1 h1
    | _ => exact hQ _ st1 a1 w1 loc1 γ1 hs1 h1
  | .loop b, hc, st, K, a, w, loc, γ, Q, hs, h, hQ => by
    simp only [evK] at h
    obtain ⟨st1, loc1, γ1, hs1, h1⟩ := nrmK_turns hNm _ st _ r a w loc γ hs h
    exact loop_ok (body := evK E cf f m k b) (fun st K' a w loc γ Q' hs h hQ' => code_ok hC hD hNm b hc st K' a w loc γ Q' hs h hQ') (nrmK_turns hNm _)
      (fun e st' a' w' loc' γ' _ hs' h' => hQ e st' a' w' loc' γ' hs' h') hs1 h1
  | .rangeFunc _ _ _ _, _, st, K, a, w, loc, γ, Q, hs, h, hQ => by simp [evK] at h
  | .scope _, _, st, K, a, w, loc, γ, Q, hs, h, hQ => by simp [evK] at h
  | .goto _, _, st, K, a, w, loc, γ, Q, hs, h, hQ => by simp [evK] at h
  | .refuse _, _, st, K, a, w, loc, γ, Q, hs, h, hQ => by simp [evK] at h
end
end Go.Eng
