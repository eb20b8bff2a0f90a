/- The operations that turn no memory. -/
import Derived.Test.YtkghicadebeceaaDoorE3
namespace Go.Eng
set_option linter.unusedSectionVars false
variable [Glb]
open Go.RowKit
set_option linter.unusedSimpArgs false

mutual
theorem V.force_eq {ρ : Type} : ∀ (v : V) (K : V → ρ), v.force K = K v
  | .un, _ => rfl
  | .int _ _, _ => rfl
  | .bool _, _ => rfl
  | .str _, _ => rfl
  | .nil, _ => rfl
  | .pnil, _ => rfl
  | .ro _ _, _ => rfl
  | .rn _ _, _ => rfl
  | .rc _ _ _, _ => rfl
  | .roel _ _ _, _ => rfl
  | .own _, _ => rfl
  | .sub _ _ _, _ => rfl
  | .el _ _ _, _ => rfl
  | .box _ _, _ => rfl
  | .cst _, _ => rfl
  | .agg vs, K => by simp only [V.force]; exact V.forceL_eq vs _
  | .tup vs, K => by simp only [V.force]; exact V.forceL_eq vs _
  | .fn f a b, K => by simp only [V.force]; rw [V.forceL_eq a, V.forceL_eq b]
theorem V.forceL_eq {ρ : Type} : ∀ (vs : List V) (K : List V → ρ), V.force.go vs K = K vs
  | [], _ => rfl
  | v :: vs, K => by simp only [V.force.go]; rw [V.force_eq v, V.forceL_eq vs]
end
theorem O.force_eq {ρ : Type} (o : O) (K : O → ρ) : o.force K = K o := by
  cases o with
  | row => rfl
  | box cs => simp only [O.force]; rw [V.forceL_eq]
  | bld => rfl
theorem forceO_eq {ρ : Type} (o : Option O) (K : Option O → ρ) : forceO o K = K o := by
  cases o with
  | none => rfl
  | some o => simp only [forceO]; rw [O.force_eq]

/-- the effect, done -/
def Eff.exec {α : Type} : Eff α → Ob → Fp → Option (α × Ob × Fp)
  | .ret a, ob, f => some (a, ob, f)
  | .fail, _, _ => none
  | .ite c t e, ob, f => match c with
    | true => t.exec ob f
    | false => e.exec ob f
  | .get id k, ob, f => match ob id with
    | some o => (k o).exec ob ⟨id :: f.rs, f.ws, f.ns⟩
    | none => none
  | .set id o k, ob, f => match ob id with
    | some _ => k.exec (upd ob id o) ⟨f.rs, id :: f.ws, f.ns⟩
    | none => none
  | .new id o k, ob, f => match ob id with
    | none => k.exec (upd (killOb id ob) id (some (o.kill id))) ⟨f.rs, f.ws, id :: f.ns⟩
    | some _ => none
  | .opt x k, ob, f => match x with
    | some b => (k b).exec ob f
    | none => none
theorem Eff.run_inv {α ρ : Type} (e : Eff α) : ∀ (ob : Ob) (f : Fp) (K : α → Ob → Fp → Option ρ) (r : ρ), e.run ob f K = some r →
    ∃ v ob' f', e.exec ob f = some (v, ob', f') ∧ K v ob' f' = some r := by
  induction e with
  | ret a => exact fun ob f K r h => ⟨a, ob, f, rfl, h⟩
  | fail => exact fun ob f K r h => by simp [Eff.run] at h
  | ite c t e iht ihe =>
    intro ob f K r h
    cases c with
    | true => exact iht ob f K r (by simpa [Eff.run, brB] using h)
    | false => exact ihe ob f K r (by simpa [Eff.run, brB] using h)
  | get id k ih =>
    intro ob f K r h
    simp only [Eff.run] at h
    cases ho : ob id with
    | none => rw [ho] at h; cases h
    | some o => rw [ho] at h; simp only [Eff.exec, ho]; exact ih o ob _ K r h
  | set id o k ih =>
    intro ob f K r h
    simp only [Eff.run] at h
    cases ho : ob id with
    | none => rw [ho] at h; cases h
    | some _ => rw [ho] at h; simp only [Eff.exec, ho]; simp only [forceO_eq] at h; exact ih _ _ K r h
  | new id o k ih =>
    intro ob f K r h
    simp only [Eff.run] at h
    cases ho : ob id with
    | some _ => rw [ho] at h; cases h
    | none => rw [ho] at h; simp only [Eff.exec, ho]; simp only [O.force_eq] at h; exact ih _ _ K r h
  | opt x k ih =>
    intro ob f K r h
    simp only [Eff.run, optB] at h
    cases x with
    | none => cases h
    | some b => simp only [Eff.exec]; exact ih b ob f K r h

section
variable {E : Env} {cf : Cf E} {w0 w : World} {R L : Nat → Prop} {N : Fx} {st : St} {a : Act} {loc : Nat → Loc} {γ : Nat → Option Nat}
/-- where an operation leads -/
def Goes (P : Program) (o : Oper) (w0 : World) (R L : Nat → Prop) (N : Fx) (st : St) (a : Act) (w : World) (v : V) (ob' : Ob) (ns : List Nat) : Prop :=
  ∀ (next : Act → World → Prop) (Q : Exit → Act → World → Prop),
    (∀ c w' loc' γ', Sim w0 R L N { tm := tmAfter ns st.tm, ob := ob' } a w' loc' γ' → Rep w0 R loc' v c → next (a.put o.dst c) w') → o.wp P a w next Q
theorem goes_value {P : Program} {o : Oper} {v : V} {c : Value} (hs : Sim w0 R L N st a w loc γ) (hv : Rep w0 R loc v c) (hrun : (execOp a.eval o).run P w = .ok (.value c) w) :
    Goes P o w0 R L N st a w v st.ob [] := by
  intro next Q h
  unfold Oper.wp
  rw [hrun]
  exact h c w loc γ hs hv
theorem goes_world {P : Program} {o : Oper} {v : V} {c : Value} {w' : World} {loc' : Nat → Loc} {γ' : Nat → Option Nat} {ob' : Ob} {ns : List Nat}
    (hs : Sim w0 R L N { tm := tmAfter ns st.tm, ob := ob' } a w' loc' γ') (hv : Rep w0 R loc' v c) (hrun : (execOp a.eval o).run P w = .ok (.value c) w') :
    Goes P o w0 R L N st a w v ob' ns := by
  intro next Q h
  unfold Oper.wp
  rw [hrun]
  exact h c w' loc' γ' hs hv
theorem goes_skip {P : Program} {o : Oper} {v : V} {w' : World} {loc' : Nat → Loc} {γ' : Nat → Option Nat} {ob' : Ob} {ns : List Nat}
    (hs : Sim w0 R L N { tm := tmAfter ns st.tm, ob := ob' } a w' loc' γ') (hv : Rep w0 R loc' v undef) (hrun : (execOp a.eval o).run P w = .ok .skip w') :
    Goes P o w0 R L N st a w v ob' ns := by
  intro next Q h
  unfold Oper.wp
  rw [hrun]
  exact h undef w' loc' γ' hs hv

theorem guard_int {P : Program} {op : BinOp} {t : TypeId} {k k' : IntKind} {m n : Int} {xo yo : Operand} : (eqGuard op t xo yo (.int k m) (.int k' n)).run P w = .ok () w := by
  simp only [eqGuard]
  split <;> rfl
theorem guard_str {P : Program} {op : BinOp} {t : TypeId} {m n : ByteArray} {xo yo : Operand} : (eqGuard op t xo yo (.string m) (.string n)).run P w = .ok () w := by
  simp only [eqGuard]
  split <;> rfl
/-- tests between numbers and strings -/
theorem binE_run {P : Program} {op : BinOp} {x y v : V} {cx cy : Value} {ob ob' : Ob} {f f' : Fp} (t : TypeId)
    (h : (binE op x y).exec ob f = some (v, ob', f')) (hx : Rep w0 R loc x cx) (hy : Rep w0 R loc y cy) :
    ob' = ob ∧ f' = f ∧ ∃ c, Rep w0 R loc v c ∧ (binOp op t cx cy).run P w = .ok c w ∧ ∀ xo yo, (eqGuard op t xo yo cx cy).run P w = .ok () w := by
  unfold binE at h
  split at h
  · -- shl
    obtain rfl := hx
    obtain rfl := hy
    simp only [Eff.exec] at h
    split at h
    · rename_i hb
      simp only [Eff.exec, Option.some.injEq, Prod.mk.injEq] at h
      obtain ⟨rfl, rfl, rfl⟩ := h
      have hb' := hb; simp only [leI_eq, decide_eq_true_eq] at hb'; replace hb' := Int.not_lt.mpr hb'
      exact ⟨rfl, rfl, _, rfl, by simp [binOp, Op.shift, hb', shlI_eq], fun _ _ => guard_int⟩
    · cases h
  · obtain rfl := hx
    obtain rfl := hy
    simp only [Eff.exec] at h
    split at h
    · rename_i hb
      simp only [Eff.exec, Option.some.injEq, Prod.mk.injEq] at h
      obtain ⟨rfl, rfl, rfl⟩ := h
      have hb' := hb; simp only [leI_eq, decide_eq_true_eq] at hb'; replace hb' := Int.not_lt.mpr hb'
      exact ⟨rfl, rfl, _, rfl, by simp [binOp, Op.shift, hb', shrI_eq], fun _ _ => guard_int⟩
    · cases h
  · obtain rfl := hx
    obtain rfl := hy
    split at h
    · rename_i hk
      subst hk
      split at h <;> simp only [Eff.exec, Option.some.injEq, Prod.mk.injEq] at h
      all_goals first
        | (obtain ⟨rfl, rfl, rfl⟩ := h
           refine ⟨rfl, rfl, _, rfl, ?_, fun _ _ => guard_int⟩
           simp only [binOp, Op.intArith, Op.intBits, Op.intCmp, addI_eq, subI_eq, mulI_eq, andI_eq, orI_eq, xorI_eq, andNotI_eq, eqI_eq, ltI_eq, leI_eq, notB, ne_eq, not_true_eq_false, if_false]; rfl)
        | (split at h
           · rename_i hb
             simp only [Eff.exec, Option.some.injEq, Prod.mk.injEq] at h
             obtain ⟨rfl, rfl, rfl⟩ := h
             refine ⟨rfl, rfl, _, rfl, ?_, fun _ _ => guard_int⟩
             simp only [notB, eqI_eq, Bool.not_eq_true', decide_eq_false_iff_not] at hb
             simp [binOp, Op.intDiv, hb, quoI_eq, remI_eq]; done
           · cases h)
        | (cases h; done)
    · simp [Eff.exec] at h
  all_goals first
    | (simp [Eff.exec] at h; done)
    | (obtain rfl := hx
       obtain rfl := hy
       simp only [Eff.exec, Option.some.injEq, Prod.mk.injEq] at h
       obtain ⟨rfl, rfl, rfl⟩ := h
       exact ⟨rfl, rfl, _, rfl, by simp [binOp, Op.stringOp, bytesEq_eq, strLess_eq, notB, orB], fun _ _ => guard_str⟩)
    | (obtain rfl := hx
       obtain rfl := hy
       simp only [Eff.exec] at h
       split at h
       · rename_i hb
         simp only [Eff.exec, Option.some.injEq, Prod.mk.injEq] at h
         obtain ⟨rfl, rfl, rfl⟩ := h
         have hb' := hb
         simp only [leI_eq, decide_eq_true_eq] at hb'
         simp only [addZ_eq, sz] at hb'
         have hm : IntKind.i64.max = 9223372036854775807 := rfl
         exact ⟨rfl, rfl, _, rfl, by simp only [binOp, Op.stringOp, catS]; rw [if_neg (by rw [hm]; omega)]; rfl, fun _ _ => guard_str⟩
       · cases h)
end
end Go.Eng
