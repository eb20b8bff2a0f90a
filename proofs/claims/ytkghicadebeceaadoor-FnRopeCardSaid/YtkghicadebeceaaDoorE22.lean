/- What an operation's effect looks at. -/
import Derived.Test.YtkghicadebeceaaDoorE21
namespace Go.Eng
set_option linter.unusedSectionVars false
variable [Glb]
open Go.RowKit
set_option linter.unusedSimpArgs false
set_option linter.unusedVariables false

/-! ### kills that meet nothing -/
mutual
theorem V.kill_full {id : Nat} : ∀ (v : V), (v.kill id).full = true → v.kill id = v
  | .un, _ => rfl
  | .int _ _, _ => rfl
  | .bool _, _ => rfl
  | .str _, _ => rfl
  | .nil, _ => rfl
  | .pnil, _ => rfl
  | .ro _ _, _ => rfl
  | .rn _ _, _ => rfl
  | .rc _ _ _, _ => rfl
  | .roel _ _ _, _ => rfl
  | .cst _, _ => rfl
  | .own j, h => by
    by_cases e : j = id
    · subst e; simp only [V.kill, beq_self, cond_true, V.full] at h; cases h
    · simp only [V.kill, beq_ne e, cond_false]
  | .sub j a b, h => by
    by_cases e : j = id
    · subst e; simp only [V.kill, beq_self, cond_true, V.full] at h; cases h
    · simp only [V.kill, beq_ne e, cond_false]
  | .el j a b, h => by
    by_cases e : j = id
    · subst e; simp only [V.kill, beq_self, cond_true, V.full] at h; cases h
    · simp only [V.kill, beq_ne e, cond_false]
  | .box j b, h => by
    by_cases e : j = id
    · subst e; simp only [V.kill, beq_self, cond_true, V.full] at h; cases h
    · simp only [V.kill, beq_ne e, cond_false]
  | .agg vs, h => by simp only [V.kill, V.full] at h ⊢; rw [V.killL_full vs h]
  | .tup vs, h => by simp only [V.kill, V.full] at h ⊢; rw [V.killL_full vs h]
  | .fn f a b, h => by
    simp only [V.kill, V.full, Bool.and_eq_true] at h ⊢
    rw [V.killL_full a h.1, V.killL_full b h.2]
theorem V.killL_full {id : Nat} : ∀ (vs : List V), V.full.go (V.kill.go id vs) = true → V.kill.go id vs = vs
  | [], _ => rfl
  | v :: vs, h => by
    simp only [V.kill.go, V.full.go, Bool.and_eq_true] at h ⊢
    rw [V.kill_full v h.1, V.killL_full vs h.2]
end
theorem killAll_id : ∀ (ns : List Nat) (v : V), (∀ id, id ∈ ns → id ∉ v.ids) → killAll ns v = v
  | [], _, _ => rfl
  | id :: ids, v, h => by
    simp only [killAll]
    rw [killAll_id ids v (fun j hj => h j (by simp [hj])), V.kill_id v (h id (by simp))]
theorem killAll_full : ∀ (ns : List Nat) (v : V), (killAll ns v).full = true → killAll ns v = v
  | [], _, _ => rfl
  | id :: ids, v, h => by
    simp only [killAll] at h ⊢
    have h1 := V.kill_full _ h
    rw [h1] at h ⊢
    exact killAll_full ids v h
theorem killAllL_full : ∀ (ns : List Nat) (v : List V), V.full.go (killAllL ns v) = true → killAllL ns v = v
  | [], _, _ => rfl
  | id :: ids, v, h => by
    simp only [killAllL] at h ⊢
    have h1 := V.killL_full _ h
    rw [h1] at h ⊢
    exact killAllL_full ids v h
theorem obKill_id (ns : List Nat) (o : Option O) (h : ∀ id, id ∈ ns → id ∉ obIds o) : o.map (killAllO ns) = o := by
  cases o with
  | none => rfl
  | some o => cases o with
    | row nl e xs => simp only [Option.map_some, killAllO_row]
    | box cs => simp only [Option.map_some, killAllO_box]; rw [killAllL_id ns cs h]
    | bld s => simp only [Option.map_some, killAllO_bld]
theorem obKill_full (ns : List Nat) (o : Option O) (h : obFull (o.map (killAllO ns)) = true) : o.map (killAllO ns) = o := by
  cases o with
  | none => rfl
  | some o => cases o with
    | row nl e xs => simp only [Option.map_some, killAllO_row]
    | box cs =>
      simp only [Option.map_some, killAllO_box, obFull] at h ⊢
      rw [killAllL_full ns cs h]
    | bld s => simp only [Option.map_some, killAllO_bld]

/-! ### the effect, done -/
/-- what is added on the way -/
theorem Eff.exec_grow {α : Type} (e : Eff α) : ∀ (ob : Ob) (f : Fp) (v : α) (ob' : Ob) (f' : Fp), e.exec ob f = some (v, ob', f') →
    ∃ r m n, f'.rs = r ++ f.rs ∧ f'.ws = m ++ f.ws ∧ f'.ns = n ++ f.ns ∧ ∀ id, id ∉ m → id ∉ n → ob' id = (ob id).map (killAllO n) := by
  induction e with
  | ret a =>
    intro ob f v ob' f' h
    simp only [Eff.exec, Option.some.injEq, Prod.mk.injEq] at h
    obtain ⟨_, rfl, rfl⟩ := h
    exact ⟨[], [], [], rfl, rfl, rfl, fun id _ _ => by cases ob id <;> rfl⟩
  | fail => intro ob f v ob' f' h; simp [Eff.exec] at h
  | ite c t e iht ihe =>
    intro ob f v ob' f' h
    cases c with
    | true => exact iht ob f v ob' f' h
    | false => exact ihe ob f v ob' f' h
  | get id k ih =>
    intro ob f v ob' f' h
    simp only [Eff.exec] at h
    cases ho : ob id with
    | none => rw [ho] at h; cases h
    | some o =>
      rw [ho] at h
      obtain ⟨r, m, n, h1, h2, h3, h4⟩ := ih o ob _ v ob' f' h
      exact ⟨r ++ [id], m, n, by rw [h1]; simp, h2, h3, h4⟩
  | set id o k ih =>
    intro ob f v ob' f' h
    simp only [Eff.exec] at h
    cases ho : ob id with
    | none => rw [ho] at h; cases h
    | some _ =>
      rw [ho] at h
      obtain ⟨r, m, n, h1, h2, h3, h4⟩ := ih _ _ v ob' f' h
      refine ⟨r, m ++ [id], n, h1, by rw [h2]; simp, h3, fun j hm hn => ?_⟩
      simp only [List.mem_append, List.mem_singleton, not_or] at hm
      rw [h4 j hm.1 hn]
      simp only [upd, beq_ne hm.2, cond_false]
  | new id o k ih =>
    intro ob f v ob' f' h
    simp only [Eff.exec] at h
    cases ho : ob id with
    | some _ => rw [ho] at h; cases h
    | none =>
      rw [ho] at h
      obtain ⟨r, m, n, h1, h2, h3, h4⟩ := ih _ _ v ob' f' h
      refine ⟨r, m, n ++ [id], h1, h2, by rw [h3]; simp, fun j hm hn => ?_⟩
      simp only [List.mem_append, List.mem_singleton, not_or] at hn
      rw [h4 j hm hn.1]
      simp only [upd, beq_ne hn.2, cond_false, killOb]
      cases hob : ob j with
      | none => rfl
      | some o' => simp only [Option.map_some, killAllO_append]; rfl
  | opt x k ih =>
    intro ob f v ob' f' h
    cases x with
    | none => rw [exec_opt] at h; cases h
    | some b => rw [exec_opt] at h; exact ih b ob f v ob' f' h
/-- an effect that writes nothing looks at what it reads alone -/
theorem Eff.exec_quiet {α : Type} (e : Eff α) : ∀ (ob ob2 : Ob) (f : Fp) (v : α) (ob' : Ob) (f' : Fp), e.exec ob f = some (v, ob', f') → f'.ws = f.ws → f'.ns = f.ns → (∀ id, id ∈ f'.rs → ob2 id = ob id) → ob' = ob ∧ e.exec ob2 f = some (v, ob2, f') := by
  induction e with
  | ret a =>
    intro ob ob2 f v ob' f' h _ _ _
    simp only [Eff.exec, Option.some.injEq, Prod.mk.injEq] at h
    obtain ⟨rfl, rfl, rfl⟩ := h
    exact ⟨rfl, rfl⟩
  | fail => intro ob ob2 f v ob' f' h; simp [Eff.exec] at h
  | ite c t e iht ihe =>
    intro ob ob2 f v ob' f' h hw hn hr
    cases c with
    | true => exact iht ob ob2 f v ob' f' h hw hn hr
    | false => exact ihe ob ob2 f v ob' f' h hw hn hr
  | get id k ih =>
    intro ob ob2 f v ob' f' h hw hn hr
    simp only [Eff.exec] at h ⊢
    cases ho : ob id with
    | none => rw [ho] at h; cases h
    | some o =>
      rw [ho] at h
      obtain ⟨r, m, n, h1, h2, h3, h4⟩ := Eff.exec_grow _ _ _ _ _ _ h
      have : ob2 id = some o := by rw [hr id (by rw [h1]; simp)]; exact ho
      rw [this]
      exact ih o ob ob2 _ v ob' f' h hw hn hr
  | set id o k ih =>
    intro ob ob2 f v ob' f' h hw hn hr
    simp only [Eff.exec] at h
    cases ho : ob id with
    | none => rw [ho] at h; cases h
    | some _ =>
      rw [ho] at h
      obtain ⟨r, m, n, h1, h2, h3, h4⟩ := Eff.exec_grow _ _ _ _ _ _ h
      rw [hw] at h2
      have := congrArg List.length h2
      simp at this
      omega
  | new id o k ih =>
    intro ob ob2 f v ob' f' h hw hn hr
    simp only [Eff.exec] at h
    cases ho : ob id with
    | some _ => rw [ho] at h; cases h
    | none =>
      rw [ho] at h
      obtain ⟨r, m, n, h1, h2, h3, h4⟩ := Eff.exec_grow _ _ _ _ _ _ h
      rw [hn] at h3
      have := congrArg List.length h3
      simp at this
      omega
  | opt x k ih =>
    intro ob ob2 f v ob' f' h hw hn hr
    cases x with
    | none => rw [exec_opt] at h; cases h
    | some b => rw [exec_opt] at h ⊢; exact ih b ob ob2 f v ob' f' h hw hn hr
/-- an operation looks at its operands alone -/
theorem effOp_congr {E : Env} {cf : Cf E} (o : Oper) {rv rv' : Operand → V} (h : ∀ x, x ∈ o.op.operands → rv x = rv' x) : effOp E cf o rv = effOp E cf o rv' := by
  obtain ⟨dst, op, type, pos, after, guard⟩ := o
  have ops : ∀ (xs : List Operand), (∀ x, x ∈ xs → rv x = rv' x) → xs.map rv = xs.map rv' := fun xs hx => List.map_congr_left hx
  have pairs : ∀ ps : Array (Nat × Operand), (∀ x ∈ ps.map (·.2), rv x = rv' x) →
      (ps.toList.map fun p => (p.1, rv p.2)) = (ps.toList.map fun p => (p.1, rv' p.2)) := fun ps hp =>
    List.map_congr_left fun p hm => by
      rw [hp p.2 (Array.mem_map.2 ⟨p, by simpa using hm, rfl⟩)]
  cases op <;> simp only [Op.operands] at h <;> simp only [effOp]
  case build t ps => rw [pairs ps fun x hx => h x (by simpa using hx)]
  case buildSlice t n ps => rw [pairs ps fun x hx => h x (by simpa using hx)]
  case makeFunc fn first captured =>
    cases fn with
    | func f => simp only [ops first.toList fun x hx => h x (by simp at hx; simp [hx]), ops captured.toList fun x hx => h x (by simp at hx; simp [hx])]
    | _ => rfl
  case call c =>
    obtain ⟨callee, args, argTypes⟩ := c
    have ha : args.toList.map rv = args.toList.map rv' := ops _ fun x hx => h x (by simp at hx; simp [Call.operands, hx])
    cases callee with
    | value f => simp only [h f (by simp [Call.operands]), ha]
    | builtin b => simp only [ha]
    | invoke r n => rfl
  case slice t x lo hi mx => cases lo <;> cases hi <;> cases mx <;> simp_all
  all_goals (first | rfl | (simp_all; done))
end Go.Eng
