/- Regions in the text's order, and code. -/
import Derived.Test.YtkghicadebeceaaDoorE13
namespace Go.Eng
set_option linter.unusedSectionVars false
variable [Glb]
open Go.RowKit
set_option linter.unusedSimpArgs false
set_option linter.unusedVariables false

/-! ### one operation, done -/
/-- is it wanted? -/
noncomputable def wantV (ops : List Oper) (o : Oper) (st : St) : Option Bool := match o.guard with
  | none => some true
  | some (g, want) => match dstOf ops g with
    | none => none
    | some t => match st.tm t with
      | .bool b => some (b == want)
      | .tup [] => some false
      | _ => none
noncomputable def stp (E : Env) (cf : Cf E) (ops : List Oper) (o : Oper) (st : St) : Option St := match wantV ops o st with
  | some true => match (effOp E cf o st.rv).exec st.ob ⟨[], [], []⟩ with
    | some (v, ob', f) => some (St.put? { tm := tmAfter f.ns st.tm, ob := ob' } o.dst v)
    | none => none
  | some false => some (St.put? st o.dst (.tup []))
  | none => none
noncomputable def runL (E : Env) (cf : Cf E) (ops : List Oper) : List Oper → St → Option St
  | [], st => some st
  | o :: l, st => match stp E cf ops o st with
    | some st' => runL E cf ops l st'
    | none => none
theorem put_same {st : St} {t : Nat} {v : V} (h : st.tm t = v) : st.put t v = st := by
  unfold St.put
  have : (fun j => bif Nat.beq j t then v else st.tm j) = st.tm := by
    funext j
    by_cases e : j = t
    · subst e; rw [beq_self]; exact h.symm
    · rw [beq_ne e]; rfl
  rw [this]
theorem stepE_inv {E : Env} {cf : Cf E} {ρ : Type} {o : Oper} {st : St} {K : St → Option ρ} {r : ρ} (h : stepE E cf o st K = some r) :
    ∃ v ob' f, (effOp E cf o st.rv).exec st.ob ⟨[], [], []⟩ = some (v, ob', f) ∧ K (St.put? { tm := tmAfter f.ns st.tm, ob := ob' } o.dst v) = some r := by
  obtain ⟨v, ob', f, h1, h2⟩ := Eff.run_inv _ _ _ _ _ h
  rw [V.force_eq] at h2
  exact ⟨v, ob', f, h1, h2⟩
theorem evR_inv {E : Env} {cf : Cf E} {ρ : Type} {ops : List Oper} : ∀ (l : List Oper) (st : St) (K : St → Option ρ) (r : ρ), evR E cf ops l st K = some r → ∃ st', runL E cf ops l st = some st' ∧ K st' = some r
  | [], st, K, r, h => ⟨st, rfl, h⟩
  | o :: l, st, K, r, h => by
    have hgo : ∀ {st1 : St}, stepE E cf o st1 (fun st' => evR E cf ops l st' K) = some r → wantV ops o st1 = some true → ∃ st', runL E cf ops (o :: l) st1 = some st' ∧ K st' = some r := fun {st1} h hw => by
      obtain ⟨v, ob', f, h1, h2⟩ := stepE_inv h
      obtain ⟨st', h3, h4⟩ := evR_inv l _ K r h2
      exact ⟨st', by simp only [runL, stp, hw, h1]; exact h3, h4⟩
    have hno : ∀ {st1 : St}, evR E cf ops l (St.put? st1 o.dst (.tup [])) K = some r → wantV ops o st1 = some false → ∃ st', runL E cf ops (o :: l) st1 = some st' ∧ K st' = some r := fun {st1} h hw => by
      obtain ⟨st', h3, h4⟩ := evR_inv l _ K r h
      exact ⟨st', by simp only [runL, stp, hw]; exact h3, h4⟩
    simp only [evR] at h
    cases hg : o.guard with
    | none => rw [hg] at h; exact hgo h (by simp [wantV, hg])
    | some p =>
      obtain ⟨g, want⟩ := p
      rw [hg] at h
      simp only at h
      cases ht : dstOf ops g with
      | none => rw [ht] at h; cases h
      | some t =>
        rw [ht] at h
        simp only at h
        split at h
        · rename_i b hb
          have hw : wantV ops o st = some (b == want) := by simp [wantV, hg, ht, hb]
          cases b with
          | true =>
            simp only [brB, cond_true, put_same hb] at h
            cases want with
            | true => exact hgo h hw
            | false => exact hno h hw
          | false =>
            simp only [brB, cond_false, put_same hb] at h
            cases want with
            | true => exact hno h hw
            | false => exact hgo h hw
        · rename_i hb
          exact hno h (by simp [wantV, hg, ht, hb])
        · cases h

section
variable {E : Env} {cf : Cf E} {w0 w w' : World} {R L : Nat → Prop} {N : Fx} {st st' : St} {a : Act} {loc : Nat → Loc} {γ : Nat → Option Nat}

/-- what is asked of the callees -/
noncomputable def CallsOk0 (E : Env) (cf : Cf E) : Prop := ∀ (o : Oper) (w0 w : World) (R L : Nat → Prop) (N : Fx) (st : St) (a : Act) (loc : Nat → Loc) (γ : Nat → Option Nat) (c : Call) (x : Operand) (f : Nat) (first cap : List V) (v : V) (ob' : Ob) (f' : Fp),
  Sim w0 R L N st a w loc γ → o.op = .call c → c.callee = .value x → st.rv x = .fn f first cap → (callE E cf o.dst f (first ++ c.args.toList.map st.rv ++ cap)).exec st.ob ⟨[], [], []⟩ = some (v, ob', f') → Goes E.P o w0 R L N st a w v ob' f'.ns

noncomputable def CallsOk (E : Env) (cf : Cf E) : Prop := CallsOk0 E cf ∧ BldTy E

theorem dsts_lt {ops : List Oper} (h : dstsOk N.n ops = true) {o : Oper} (ho : o ∈ ops) : ∀ x, o.dst = some x → x < N.n := by
  intro x hx
  have := List.all_eq_true.1 h o ho
  rw [hx] at this
  simpa [Nat.blt_eq] using this

/-- one operation of a region -/
theorem op_step (hC : CallsOk E cf) {ops : Array Oper} (hN : dstsOk N.n ops.toList = true) {i : Nat} {o : Oper} (ho : ops[i]? = some o) (hs : Sim w0 R L N st a w loc γ) (h : stp E cf ops.toList o st = some st')
    {Q : Exit → Act → World → Prop} {K : Act → World → Prop} (hk : ∀ a' w' loc' γ', Sim w0 R L N st' a' w' loc' γ' → K a' w') : wpOp E.P ops Q i K a w := by
  have hmem : o ∈ ops.toList := by
    have := (Array.getElem?_eq_some_iff.1 ho).2
    rw [← this]
    exact Array.getElem_mem_toList _
  have hd := dsts_lt hN hmem
  unfold wpOp
  rw [ho]
  simp only
  -- wanted or not
  have hwant : ∀ b, wantV ops.toList o st = some b → Region.wanted o (yielded ops a.tmps) = b := by
    intro b hb
    unfold wantV at hb
    unfold Region.wanted
    cases hg : o.guard with
    | none => rw [hg] at hb; simp at hb; subst hb; rfl
    | some p =>
      obtain ⟨g, want⟩ := p
      rw [hg] at hb
      simp only at hb ⊢
      cases ht : dstOf ops.toList g with
      | none => rw [ht] at hb; cases hb
      | some t =>
        rw [ht] at hb
        simp only at hb
        have hdst : (ops[g]?).bind (·.dst) = some t := by
          unfold dstOf at ht
          rw [Array.getElem?_toList] at ht
          cases hq : ops[g]? with
          | none => rw [hq] at ht; cases ht
          | some q => rw [hq] at ht; exact ht
        have hr := hs.tm t
        unfold yielded
        rw [hdst]
        simp only [Option.bind_some]
        split at hb
        · rename_i bb hbb
          rw [hbb] at hr
          have hr' : a.tmps.getD t undef = .bool bb := hr
          have hx : a.tmps[t]? = some (.bool bb) := by
            rw [Array.getD_eq_getD_getElem?] at hr'
            cases hq : a.tmps[t]? with
            | none => rw [hq] at hr'; cases hr'
            | some y => rw [hq] at hr'; simp at hr'; rw [hr']
          rw [hx]
          simp only [Option.some.injEq] at hb
          subst hb
          cases bb <;> cases want <;> rfl
        · rename_i hbb
          rw [hbb] at hr
          obtain ⟨cs, hr', hcs⟩ := hr
          simp only [Option.some.injEq] at hb
          subst hb
          cases hq : a.tmps[t]? with
          | none => rfl
          | some y =>
            rw [Array.getD_eq_getD_getElem?, hq] at hr'
            simp only [Option.getD_some] at hr'
            subst hr'
            rfl
        · cases hb
  unfold stp at h
  split at h
  · rename_i hw
    rw [if_pos (by rw [hwant _ hw])]
    split at h
    · rename_i v ob' f hx
      obtain rfl := Option.some.inj h
      left
      refine op_goes hC.2 hs hx (fun c x f1 first cap h1 h2 h3 h4 => hC.1 o w0 w R L N st a loc γ c x f1 first cap v ob' f hs h1 h2 h3 h4) K Q (fun c w1 loc' γ' h1 h2 => ?_)
      exact hk _ _ _ _ (h1.put? h2 o.dst hd)
    · cases h
  · rename_i hw
    rw [if_neg (by rw [hwant _ hw]; simp)]
    obtain rfl := Option.some.inj h
    exact hk _ _ _ _ (hs.put? Rep_undef o.dst hd)
  · cases h

/-- a region in the text's order -/
theorem region_ok (hC : CallsOk E cf) {ops : Array Oper} (hN : dstsOk N.n ops.toList = true) {Q : Exit → Act → World → Prop} :
    ∀ (l : List Oper) (k : Nat) (st st' : St) (a : Act) (w : World) (loc : Nat → Loc) (γ : Nat → Option Nat), (∀ j, l[j]? = ops[k + j]?) → Sim w0 R L N st a w loc γ → runL E cf ops.toList l st = some st' →
      (∀ a' w' loc' γ', Sim w0 R L N st' a' w' loc' γ' → Q .normal a' w') → wpOps E.P ops Q (List.range' k l.length) a w
  | [], k, st, st', a, w, loc, γ, _, hs, h, hQ => by
    obtain rfl := Option.some.inj h
    exact hQ _ _ _ _ hs
  | o :: l, k, st, st', a, w, loc, γ, hl, hs, h, hQ => by
    simp only [runL] at h
    split at h
    · rename_i st1 h1
      simp only [List.length_cons, List.range'_succ]
      rw [wpOps_cons]
      refine op_step hC hN (by simpa using (hl 0).symm) hs h1 (fun a' w' loc' γ' hs' => ?_)
      exact region_ok hC hN l (k + 1) st1 st' a' w' loc' γ' (fun j => by have := hl (j + 1); simpa [Nat.add_assoc, Nat.add_comm 1 j] using this) hs' h hQ
    · cases h
end
end Go.Eng
