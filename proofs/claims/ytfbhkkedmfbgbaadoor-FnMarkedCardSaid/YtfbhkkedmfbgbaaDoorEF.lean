/- What an operation's effect looks at. Two operations in either order. Regions whose order is drawn. The evaluator is right. How the arguments of a law are opened. A law, from the evaluator's answer. -/
import Derived.Test.YtfbhkkedmfbgbaaDoorED
import Derived.Deep.Slices
import Derived.ChangeArms
import Derived.ChangeSame
import Derived.WideShapes
namespace Go.Eng
set_option linter.unusedSectionVars false
variable [Glb]
open Go.RowKit
set_option linter.unusedSimpArgs false
set_option linter.unusedVariables false

/-! ### kills that meet nothing -/
mutual
theorem V.kill_full {id : Nat} : ∀ (v : V), (v.kill id).full = true → v.kill id = v
  | .un, _ => rfl
  | .int _ _, _ => rfl
  | .bool _, _ => rfl
  | .str _, _ => rfl
  | .nil, _ => rfl
  | .pnil, _ => rfl
  | .ro _ _, _ => rfl
  | .rn _ _, _ => rfl
  | .rc _ _ _, _ => rfl
  | .roel _ _ _, _ => rfl
  | .cst _, _ => rfl
  | .own j, h => by
    by_cases e : j = id
    · subst e; simp only [V.kill, beq_self, cond_true, V.full] at h; cases h
    · simp only [V.kill, beq_ne e, cond_false]
  | .sub j a b, h => by
    by_cases e : j = id
    · subst e; simp only [V.kill, beq_self, cond_true, V.full] at h; cases h
    · simp only [V.kill, beq_ne e, cond_false]
  | .el j a b, h => by
    by_cases e : j = id
    · subst e; simp only [V.kill, beq_self, cond_true, V.full] at h; cases h
    · simp only [V.kill, beq_ne e, cond_false]
  | .box j b, h => by
    by_cases e : j = id
    · subst e; simp only [V.kill, beq_self, cond_true, V.full] at h; cases h
    · simp only [V.kill, beq_ne e, cond_false]
  | .mt j p, h => by
    simp only [V.kill] at h ⊢
    cases hk : Nat.beq j id || (p.loose && Nat.beq (gho j) id) with
    | true => rw [hk] at h; cases h
    | false => rfl
  | .agg vs, h => by simp only [V.kill, V.full] at h ⊢; rw [V.killL_full vs h]
  | .tup vs, h => by simp only [V.kill, V.full] at h ⊢; rw [V.killL_full vs h]
  | .fn f a b, h => by
    simp only [V.kill, V.full, Bool.and_eq_true] at h ⊢
    rw [V.killL_full a h.1, V.killL_full b h.2]
theorem V.killL_full {id : Nat} : ∀ (vs : List V), V.full.go (V.kill.go id vs) = true → V.kill.go id vs = vs
  | [], _ => rfl
  | v :: vs, h => by
    simp only [V.kill.go, V.full.go, Bool.and_eq_true] at h ⊢
    rw [V.kill_full v h.1, V.killL_full vs h.2]
end
theorem killAll_id : ∀ (ns : List Nat) (v : V), (∀ id, id ∈ ns → id ∉ v.ids) → killAll ns v = v
  | [], _, _ => rfl
  | id :: ids, v, h => by
    simp only [killAll]
    rw [killAll_id ids v (fun j hj => h j (by simp [hj])), V.kill_id v (h id (by simp))]
theorem killAll_full : ∀ (ns : List Nat) (v : V), (killAll ns v).full = true → killAll ns v = v
  | [], _, _ => rfl
  | id :: ids, v, h => by
    simp only [killAll] at h ⊢
    have h1 := V.kill_full _ h
    rw [h1] at h ⊢
    exact killAll_full ids v h
theorem killAllL_full : ∀ (ns : List Nat) (v : List V), V.full.go (killAllL ns v) = true → killAllL ns v = v
  | [], _, _ => rfl
  | id :: ids, v, h => by
    simp only [killAllL] at h ⊢
    have h1 := V.killL_full _ h
    rw [h1] at h ⊢
    exact killAllL_full ids v h
theorem obKill_id (ns : List Nat) (o : Option O) (h : ∀ id, id ∈ ns → id ∉ obIds o) : o.map (killAllO ns) = o := by
  cases o with
  | none => rfl
  | some o => cases o with
    | row nl e xs => simp only [Option.map_some, killAllO_row]
    | box cs => simp only [Option.map_some, killAllO_box]; rw [killAllL_id ns cs h]
    | bld s => simp only [Option.map_some, killAllO_bld]
    | mat c xss => simp only [Option.map_some, killAllO_mat]
theorem obKill_full (ns : List Nat) (o : Option O) (h : obFull (o.map (killAllO ns)) = true) : o.map (killAllO ns) = o := by
  cases o with
  | none => rfl
  | some o => cases o with
    | row nl e xs => simp only [Option.map_some, killAllO_row]
    | box cs =>
      simp only [Option.map_some, killAllO_box, obFull] at h ⊢
      rw [killAllL_full ns cs h]
    | bld s => simp only [Option.map_some, killAllO_bld]
    | mat c xss => simp only [Option.map_some, killAllO_mat]

/-! ### the effect, done -/
/-- what is added on the way -/
theorem Eff.exec_grow {α : Type} (e : Eff α) : ∀ (ob : Ob) (f : Fp) (v : α) (ob' : Ob) (f' : Fp), e.exec ob f = some (v, ob', f') →
    ∃ r m n, f'.rs = r ++ f.rs ∧ f'.ws = m ++ f.ws ∧ f'.ns = n ++ f.ns ∧ ∀ id, id ∉ m → id ∉ n → ob' id = (ob id).map (killAllO n) := by
  induction e with
  | ret a =>
    intro ob f v ob' f' h
    simp only [Eff.exec, Option.some.injEq, Prod.mk.injEq] at h
    obtain ⟨_, rfl, rfl⟩ := h
    exact ⟨[], [], [], rfl, rfl, rfl, fun id _ _ => by cases ob id <;> rfl⟩
  | fail => intro ob f v ob' f' h; simp [Eff.exec] at h
  | ite c t e iht ihe =>
    intro ob f v ob' f' h
    cases c with
    | true => exact iht ob f v ob' f' h
    | false => exact ihe ob f v ob' f' h
  | get id k ih =>
    intro ob f v ob' f' h
    simp only [Eff.exec] at h
    cases ho : ob id with
    | none => rw [ho] at h; cases h
    | some o =>
      rw [ho] at h
      obtain ⟨r, m, n, h1, h2, h3, h4⟩ := ih o ob _ v ob' f' h
      exact ⟨r ++ [id], m, n, by rw [h1]; simp, h2, h3, h4⟩
  | set id o k ih =>
    intro ob f v ob' f' h
    simp only [Eff.exec] at h
    cases ho : ob id with
    | none => rw [ho] at h; cases h
    | some _ =>
      rw [ho] at h
      obtain ⟨r, m, n, h1, h2, h3, h4⟩ := ih _ _ v ob' f' h
      refine ⟨r, m ++ [id], n, h1, by rw [h2]; simp, h3, fun j hm hn => ?_⟩
      simp only [List.mem_append, List.mem_singleton, not_or] at hm
      rw [h4 j hm.1 hn]
      simp only [upd, beq_ne hm.2, cond_false]
  | new id o k ih =>
    intro ob f v ob' f' h
    simp only [Eff.exec] at h
    cases ho : ob id with
    | some _ => rw [ho] at h; cases h
    | none =>
      rw [ho] at h
      obtain ⟨r, m, n, h1, h2, h3, h4⟩ := ih _ _ v ob' f' h
      refine ⟨r, m, n ++ [id], h1, h2, by rw [h3]; simp, fun j hm hn => ?_⟩
      simp only [List.mem_append, List.mem_singleton, not_or] at hn
      rw [h4 j hm hn.1]
      simp only [upd, beq_ne hn.2, cond_false, killOb]
      cases hob : ob j with
      | none => rfl
      | some o' => simp only [Option.map_some, killAllO_append]; rfl
  | opt x k ih =>
    intro ob f v ob' f' h
    cases x with
    | none => rw [exec_opt] at h; cases h
    | some b => rw [exec_opt] at h; exact ih b ob f v ob' f' h
/-- an effect that writes nothing looks at what it reads alone -/
theorem Eff.exec_quiet {α : Type} (e : Eff α) : ∀ (ob ob2 : Ob) (f : Fp) (v : α) (ob' : Ob) (f' : Fp), e.exec ob f = some (v, ob', f') → f'.ws = f.ws → f'.ns = f.ns → (∀ id, id ∈ f'.rs → ob2 id = ob id) → ob' = ob ∧ e.exec ob2 f = some (v, ob2, f') := by
  induction e with
  | ret a =>
    intro ob ob2 f v ob' f' h _ _ _
    simp only [Eff.exec, Option.some.injEq, Prod.mk.injEq] at h
    obtain ⟨rfl, rfl, rfl⟩ := h
    exact ⟨rfl, rfl⟩
  | fail => intro ob ob2 f v ob' f' h; simp [Eff.exec] at h
  | ite c t e iht ihe =>
    intro ob ob2 f v ob' f' h hw hn hr
    cases c with
    | true => exact iht ob ob2 f v ob' f' h hw hn hr
    | false => exact ihe ob ob2 f v ob' f' h hw hn hr
  | get id k ih =>
    intro ob ob2 f v ob' f' h hw hn hr
    simp only [Eff.exec] at h ⊢
    cases ho : ob id with
    | none => rw [ho] at h; cases h
    | some o =>
      rw [ho] at h
      obtain ⟨r, m, n, h1, h2, h3, h4⟩ := Eff.exec_grow _ _ _ _ _ _ h
      have : ob2 id = some o := by rw [hr id (by rw [h1]; simp)]; exact ho
      rw [this]
      exact ih o ob ob2 _ v ob' f' h hw hn hr
  | set id o k ih =>
    intro ob ob2 f v ob' f' h hw hn hr
    simp only [Eff.exec] at h
    cases ho : ob id with
    | none => rw [ho] at h; cases h
    | some _ =>
      rw [ho] at h
      obtain ⟨r, m, n, h1, h2, h3, h4⟩ := Eff.exec_grow _ _ _ _ _ _ h
      rw [hw] at h2
      have := congrArg List.length h2
      simp at this
      omega
  | new id o k ih =>
    intro ob ob2 f v ob' f' h hw hn hr
    simp only [Eff.exec] at h
    cases ho : ob id with
    | some _ => rw [ho] at h; cases h
    | none =>
      rw [ho] at h
      obtain ⟨r, m, n, h1, h2, h3, h4⟩ := Eff.exec_grow _ _ _ _ _ _ h
      rw [hn] at h3
      have := congrArg List.length h3
      simp at this
      omega
  | opt x k ih =>
    intro ob ob2 f v ob' f' h hw hn hr
    cases x with
    | none => rw [exec_opt] at h; cases h
    | some b => rw [exec_opt] at h ⊢; exact ih b ob ob2 f v ob' f' h hw hn hr
/-- an effect looks at what it touches alone, and does the same there -/
theorem Eff.exec_frame {α : Type} (e : Eff α) : ∀ (ob ob2 : Ob) (f : Fp) (v : α) (ob' : Ob) (f' : Fp), e.exec ob f = some (v, ob', f') →
    ∃ r m n, f'.rs = r ++ f.rs ∧ f'.ws = m ++ f.ws ∧ f'.ns = n ++ f.ns ∧ (∀ id, id ∈ n → id ∉ m → ob id = none) ∧
      ((∀ id, id ∈ r ∨ id ∈ m ∨ id ∈ n → ob2 id = ob id) → ∃ ob2', e.exec ob2 f = some (v, ob2', f') ∧ ∀ id, ob2 id = ob id → ob2' id = ob' id) := by
  induction e with
  | ret a =>
    intro ob ob2 f v ob' f' h
    simp only [Eff.exec, Option.some.injEq, Prod.mk.injEq] at h
    obtain ⟨rfl, rfl, rfl⟩ := h
    exact ⟨[], [], [], rfl, rfl, rfl, (fun id hid => by cases hid), fun _ => ⟨ob2, rfl, fun id h => h⟩⟩
  | fail => intro ob ob2 f v ob' f' h; simp [Eff.exec] at h
  | ite c t e iht ihe =>
    intro ob ob2 f v ob' f' h
    cases c with
    | true => exact iht ob ob2 f v ob' f' h
    | false => exact ihe ob ob2 f v ob' f' h
  | get id k ih =>
    intro ob ob2 f v ob' f' h
    simp only [Eff.exec] at h ⊢
    cases ho : ob id with
    | none => rw [ho] at h; cases h
    | some o =>
      rw [ho] at h
      obtain ⟨r, m, n, h1, h2, h3, h4, h5⟩ := ih o ob ob2 _ v ob' f' h
      refine ⟨r ++ [id], m, n, by rw [h1]; simp, h2, h3, h4, fun hag => ?_⟩
      have : ob2 id = some o := by rw [hag id (.inl (by simp))]; exact ho
      rw [this]
      exact h5 fun j hj => hag j (by
        rcases hj with hj | hj | hj
        · exact .inl (by simp [hj])
        · exact .inr (.inl hj)
        · exact .inr (.inr hj))
  | set id o k ih =>
    intro ob ob2 f v ob' f' h
    simp only [Eff.exec] at h ⊢
    cases ho : ob id with
    | none => rw [ho] at h; cases h
    | some o0 =>
      rw [ho] at h
      obtain ⟨r, m, n, h1, h2, h3, h4, h5⟩ := ih (upd ob id o) (upd ob2 id o) _ v ob' f' h
      have hup : ∀ j, ob2 j = ob j → upd ob2 id o j = upd ob id o j := fun j hj => by
        by_cases e : j = id
        · subst e; simp only [upd, beq_self, cond_true]
        · simp only [upd, beq_ne e, cond_false]; exact hj
      refine ⟨r, m ++ [id], n, h1, by rw [h2]; simp, h3, fun j hj hm => ?_, fun hag => ?_⟩
      · simp only [List.mem_append, List.mem_singleton, not_or] at hm
        have := h4 j hj hm.1
        simp only [upd, beq_ne hm.2, cond_false] at this
        exact this
      · have : ob2 id = some o0 := by rw [hag id (.inr (.inl (by simp)))]; exact ho
        rw [this]
        obtain ⟨ob2', q1, q2⟩ := h5 fun j hj => hup j (hag j (by
          rcases hj with hj | hj | hj
          · exact .inl hj
          · exact .inr (.inl (by simp [hj]))
          · exact .inr (.inr hj)))
        exact ⟨ob2', q1, fun j hj => q2 j (hup j hj)⟩
  | new id o k ih =>
    intro ob ob2 f v ob' f' h
    simp only [Eff.exec] at h ⊢
    cases ho : ob id with
    | some _ => rw [ho] at h; cases h
    | none =>
      rw [ho] at h
      obtain ⟨r, m, n, h1, h2, h3, h4, h5⟩ := ih _ (upd (killOb id ob2) id (some (o.kill id))) _ v ob' f' h
      have hup : ∀ j, ob2 j = ob j → upd (killOb id ob2) id (some (o.kill id)) j = upd (killOb id ob) id (some (o.kill id)) j := fun j hj => by
        by_cases e : j = id
        · subst e; simp only [upd, beq_self, cond_true]
        · simp only [upd, beq_ne e, cond_false, killOb, hj]
      refine ⟨r, m, n ++ [id], h1, h2, by rw [h3]; simp, fun j hj hm => ?_, fun hag => ?_⟩
      · by_cases e : j = id
        · subst e; exact ho
        · have hj : j ∈ n := by simpa [e] using hj
          have := h4 j hj hm
          simp only [upd, beq_ne e, cond_false, killOb] at this
          cases hob : ob j with
          | none => rfl
          | some o' => rw [hob] at this; cases this
      · have : ob2 id = none := by rw [hag id (.inr (.inr (by simp)))]; exact ho
        rw [this]
        obtain ⟨ob2', q1, q2⟩ := h5 fun j hj => hup j (hag j (by
          rcases hj with hj | hj | hj
          · exact .inl hj
          · exact .inr (.inl hj)
          · exact .inr (.inr (by simp [hj]))))
        exact ⟨ob2', q1, fun j hj => q2 j (hup j hj)⟩
  | opt x k ih =>
    intro ob ob2 f v ob' f' h
    cases x with
    | none => rw [exec_opt] at h; cases h
    | some b => rw [exec_opt] at h; simp only [exec_opt]; exact ih b ob ob2 f v ob' f' h
/-! ### kills in either order -/
mutual
theorem V.kill_comm (a b : Nat) : ∀ (v : V), (v.kill a).kill b = (v.kill b).kill a
  | .un => rfl
  | .int _ _ => rfl
  | .bool _ => rfl
  | .str _ => rfl
  | .nil => rfl
  | .pnil => rfl
  | .ro _ _ => rfl
  | .rn _ _ => rfl
  | .rc _ _ _ => rfl
  | .roel _ _ _ => rfl
  | .cst _ => rfl
  | .own j => by cases h1 : Nat.beq j a <;> cases h2 : Nat.beq j b <;> simp only [V.kill, h1, h2, cond_true, cond_false]
  | .sub j x y => by cases h1 : Nat.beq j a <;> cases h2 : Nat.beq j b <;> simp only [V.kill, h1, h2, cond_true, cond_false]
  | .el j x y => by cases h1 : Nat.beq j a <;> cases h2 : Nat.beq j b <;> simp only [V.kill, h1, h2, cond_true, cond_false]
  | .box j x => by cases h1 : Nat.beq j a <;> cases h2 : Nat.beq j b <;> simp only [V.kill, h1, h2, cond_true, cond_false]
  | .mt j p => by
    cases h1 : Nat.beq j a || (p.loose && Nat.beq (gho j) a) <;> cases h2 : Nat.beq j b || (p.loose && Nat.beq (gho j) b) <;> simp only [V.kill, h1, h2, cond_true, cond_false]
  | .agg vs => by simp only [V.kill]; rw [V.killL_comm a b vs]
  | .tup vs => by simp only [V.kill]; rw [V.killL_comm a b vs]
  | .fn f x y => by simp only [V.kill]; rw [V.killL_comm a b x, V.killL_comm a b y]
theorem V.killL_comm (a b : Nat) : ∀ (vs : List V), V.kill.go b (V.kill.go a vs) = V.kill.go a (V.kill.go b vs)
  | [] => rfl
  | v :: vs => by simp only [V.kill.go]; rw [V.kill_comm a b v, V.killL_comm a b vs]
end
theorem killAll_kill (a : Nat) (v : V) : ∀ ns, (killAll ns v).kill a = killAll ns (v.kill a)
  | [] => rfl
  | n :: ns => by simp only [killAll]; rw [V.kill_comm, killAll_kill a v ns]
theorem killAll_comm (v : V) (m : List Nat) : ∀ ns, killAll ns (killAll m v) = killAll m (killAll ns v)
  | [] => rfl
  | n :: ns => by simp only [killAll]; rw [killAll_comm v m ns, killAll_kill]
theorem O.kill_comm (a b : Nat) (o : O) : (o.kill a).kill b = (o.kill b).kill a := by
  cases o with
  | row => rfl
  | bld => rfl
  | mat => rfl
  | box cs => simp only [O.kill]; rw [V.killL_comm]
theorem killAllO_kill (a : Nat) (o : O) : ∀ ns, (killAllO ns o).kill a = killAllO ns (o.kill a)
  | [] => rfl
  | n :: ns => by simp only [killAllO]; rw [O.kill_comm, killAllO_kill a o ns]
theorem killAllO_comm (o : O) (m : List Nat) : ∀ ns, killAllO ns (killAllO m o) = killAllO m (killAllO ns o)
  | [] => rfl
  | n :: ns => by simp only [killAllO]; rw [killAllO_comm o m ns, killAllO_kill]
theorem obKill_comm (o : Option O) (m n : List Nat) : (o.map (killAllO m)).map (killAllO n) = (o.map (killAllO n)).map (killAllO m) := by
  cases o with
  | none => rfl
  | some o => simp only [Option.map_some]; rw [killAllO_comm]
/-- an operation looks at its operands alone -/
theorem effOp_congr {E : Env} {cf : Cf E} (o : Oper) {rv rv' : Operand → V} (h : ∀ x, x ∈ o.op.operands → rv x = rv' x) : effOp E cf o rv = effOp E cf o rv' := by
  obtain ⟨dst, op, type, pos, after, guard⟩ := o
  have ops : ∀ (xs : List Operand), (∀ x, x ∈ xs → rv x = rv' x) → xs.map rv = xs.map rv' := fun xs hx => List.map_congr_left hx
  have pairs : ∀ ps : Array (Nat × Operand), (∀ x ∈ ps.map (·.2), rv x = rv' x) →
      (ps.toList.map fun p => (p.1, rv p.2)) = (ps.toList.map fun p => (p.1, rv' p.2)) := fun ps hp =>
    List.map_congr_left fun p hm => by
      rw [hp p.2 (Array.mem_map.2 ⟨p, by simpa using hm, rfl⟩)]
  cases op <;> simp only [Op.operands] at h <;> simp only [effOp]
  case build t ps => rw [pairs ps fun x hx => h x (by simpa using hx)]
  case buildSlice t n ps => rw [pairs ps fun x hx => h x (by simpa using hx)]
  case makeFunc fn first captured =>
    cases fn with
    | func f => simp only [ops first.toList fun x hx => h x (by simp at hx; simp [hx]), ops captured.toList fun x hx => h x (by simp at hx; simp [hx])]
    | _ => rfl
  case call c =>
    obtain ⟨callee, args, argTypes⟩ := c
    have ha : args.toList.map rv = args.toList.map rv' := ops _ fun x hx => h x (by simp at hx; simp [Call.operands, hx])
    cases callee with
    | value f => simp only [h f (by simp [Call.operands]), ha]
    | builtin b => simp only [ha]
    | invoke r n => rfl
  case slice t x lo hi mx => cases lo <;> cases hi <;> cases mx <;> simp_all
  all_goals (first | rfl | (simp_all; done))
end Go.Eng
namespace Go.Eng
set_option linter.unusedSectionVars false
variable [Glb]
open Go.RowKit
set_option linter.unusedSimpArgs false
set_option linter.unusedVariables false

theorem put?_tm (st : St) (d : Option Nat) (v : V) (t : Nat) : (St.put? st d v).tm t = if d = some t then v else st.tm t := by
  cases d with
  | none => rfl
  | some d =>
    simp only [St.put?, St.put, Option.some.injEq]
    by_cases e : t = d
    · subst e; rw [beq_self, if_pos rfl]; rfl
    · rw [beq_ne e, if_neg (fun h => e h.symm)]; rfl
theorem put?_ob (st : St) (d : Option Nat) (v : V) : (St.put? st d v).ob = st.ob := by
  cases d <;> rfl
theorem St.ext' {s t : St} (h1 : ∀ i, s.tm i = t.tm i) (h2 : s.ob = t.ob) : s = t := by
  obtain ⟨a, b⟩ := s
  obtain ⟨c, d⟩ := t
  simp only at h1 h2
  obtain rfl := funext h1
  subst h2
  rfl
/-- what is done, or left out -/
noncomputable def act (E : Env) (cf : Cf E) (ops : List Oper) (o : Oper) (st : St) : Option (V × Ob × Fp) := match wantV ops o st with
  | some true => (effOp E cf o st.rv).exec st.ob ⟨[], [], []⟩
  | some false => some (.tup [], st.ob, ⟨[], [], []⟩)
  | none => none
noncomputable def recOf (ops : List Oper) (o : Oper) (st : St) (v : V) (ob' : Ob) (f : Fp) : Rec := match wantV ops o st with
  | some true => mkRec o st v ob' f
  | _ => skipRec o
noncomputable def aft (o : Oper) (st : St) (v : V) (ob' : Ob) (f : Fp) : St := St.put? { tm := tmAfter f.ns st.tm, ob := ob' } o.dst v
theorem aft_tm (o : Oper) (st : St) (v : V) (ob' : Ob) (f : Fp) (t : Nat) : (aft o st v ob' f).tm t = if o.dst = some t then v else killAll f.ns (st.tm t) := by
  unfold aft
  rw [put?_tm, tmAfter_eq]
theorem aft_ob (o : Oper) (st : St) (v : V) (ob' : Ob) (f : Fp) : (aft o st v ob' f).ob = ob' := by
  unfold aft
  rw [put?_ob]
noncomputable def Did (E : Env) (cf : Cf E) (ops : List Oper) (o : Oper) (r : Rec) (st st' : St) : Prop := ∃ v ob' f, act E cf ops o st = some (v, ob', f) ∧ recOf ops o st v ob' f = r ∧ st' = aft o st v ob' f
section
variable {E : Env} {cf : Cf E} {ops : List Oper} {o x y : Oper} {r rx ry : Rec} {st st1 st2 st' : St} {v : V} {ob' : Ob} {f : Fp}
theorem Did.stp (h : Did E cf ops o r st st') : stp E cf ops o st = some st' := by
  obtain ⟨v, ob', f, h1, _, rfl⟩ := h
  unfold act at h1
  unfold Eng.stp
  split at h1
  · rename_i hw
    simp only [hw, h1]
    rfl
  · rename_i hw
    simp only [Option.some.injEq, Prod.mk.injEq] at h1
    obtain ⟨rfl, rfl, rfl⟩ := h1
    simp only [hw]
    rfl
  · cases h1
theorem act_grow (h : act E cf ops o st = some (v, ob', f)) : ∀ id, id ∉ f.ws → id ∉ f.ns → ob' id = (st.ob id).map (killAllO f.ns) := by
  unfold act at h
  split at h
  · obtain ⟨r, m, n, _, h2, h3, h4⟩ := Eff.exec_grow _ _ _ _ _ _ h
    simp only [List.append_nil] at h2 h3
    rw [h2, h3]
    exact h4
  · simp only [Option.some.injEq, Prod.mk.injEq] at h
    obtain ⟨rfl, rfl, rfl⟩ := h
    intro id _ _
    cases st.ob id <;> rfl
  · cases h
structure Facts (ops : List Oper) (o : Oper) (st : St) (v : V) (ob' : Ob) (f : Fp) (r : Rec) : Prop where
  ro : r.o = o
  q : r.q = true → f.ws = [] ∧ f.ns = []
  xs : ∀ id, id ∈ f.ns ∨ id ∈ f.ws → id ∈ r.xs
  ns : ∀ id, id ∈ f.ns → id ∈ r.ns
  ns' : ∀ id, id ∈ r.ns → id ∈ f.ns
  ws' : ∀ id, id ∈ f.ws → id ∈ r.ws
  rs' : ∀ id, id ∈ r.rs → id ∈ f.rs
  wi : ∀ id, id ∈ f.ns ∨ id ∈ f.ws → ∀ k, k ∈ obIds (ob' id) → k ∈ r.wi
  vid : ∀ id, id ∈ v.ids → id ∈ r.ids
  uid : wantV ops o st = some true → ∀ x, x ∈ o.op.operands → ∀ id, id ∈ (st.rv x).ids → id ∈ r.ids
  oid : ∀ k, k ∈ f.rs → ∀ id, id ∈ obIds (st.ob k) → id ∈ r.ids
  rs : ∀ k, k ∈ f.rs → k ∈ r.rs
  fu : r.fl = true → wantV ops o st = some true → ∀ x, x ∈ o.op.operands → (st.rv x).full = true
  fo : r.fl = true → ∀ k, k ∈ f.rs → obFull (st.ob k) = true
theorem mem_idsL {id : Nat} : ∀ {vs : List V} {v : V}, v ∈ vs → id ∈ v.ids → id ∈ V.ids.go vs
  | _ :: vs, v, h, hid => by
    simp only [V.ids.go, List.mem_append]
    rcases List.mem_cons.1 h with rfl | h
    · exact .inl hid
    · exact .inr (mem_idsL h hid)
theorem mem_fullL : ∀ {vs : List V} {v : V}, V.full.go vs = true → v ∈ vs → v.full = true
  | w :: vs, v, hf, h => by
    simp only [V.full.go, Bool.and_eq_true] at hf
    rcases List.mem_cons.1 h with rfl | h
    · exact hf.1
    · exact mem_fullL hf.2 h
theorem facts (h : act E cf ops o st = some (v, ob', f)) (hr : recOf ops o st v ob' f = r) : Facts ops o st v ob' f r := by
  subst hr
  unfold act at h
  unfold recOf
  split at h
  · rename_i hw
    simp only [hw]
    refine ⟨rfl, fun hq => ?_, fun id hid => ?_, fun id hid => hid, fun id hid => hid, fun id hid => hid, fun id hid => hid, fun id hid k hk => ?_, fun id hid => ?_, fun _ x hx id hid => ?_, fun k hk id hid => ?_, fun k hk => hk, fun hf _ x hx => ?_, fun hf k hk => ?_⟩
    · simpa [mkRec] using hq
    · simpa [mkRec] using hid
    · simp only [mkRec]
      exact List.mem_flatten.2 ⟨_, List.mem_map.2 ⟨id, by simpa using hid, rfl⟩, hk⟩
    · simp only [mkRec, List.mem_append]; exact .inl (.inr hid)
    · simp only [mkRec, List.mem_append]
      exact .inl (.inl (mem_idsL (List.mem_map.2 ⟨x, by simpa using hx, rfl⟩) hid))
    · simp only [mkRec, List.mem_append]
      exact .inr (List.mem_flatten.2 ⟨_, List.mem_map.2 ⟨k, hk, rfl⟩, hid⟩)
    · simp only [mkRec, Bool.and_eq_true] at hf
      exact mem_fullL hf.1 (List.mem_map.2 ⟨x, by simpa using hx, rfl⟩)
    · simp only [mkRec, Bool.and_eq_true, List.all_eq_true] at hf
      exact hf.2 k hk
  · rename_i hw
    simp only [Option.some.injEq, Prod.mk.injEq] at h
    obtain ⟨rfl, rfl, rfl⟩ := h
    simp only [hw]
    refine ⟨rfl, fun _ => ⟨rfl, rfl⟩, fun id hid => ?_, (fun id hid => by cases hid), (fun id hid => by cases hid), (fun id hid => by cases hid), (fun id hid => by cases hid), (fun id hid => by simp at hid), fun id hid => ?_, (fun h => by rw [hw] at h; cases h), (fun k hk => by cases hk), (fun k hk => by cases hk), (fun _ h => by rw [hw] at h; cases h), (fun _ k hk => by cases hk)⟩
    · simp at hid
    · simp [V.ids, V.ids.go] at hid
  · cases h
theorem rec_same (hw : wantV ops o st' = wantV ops o st) (hu : wantV ops o st = some true → ∀ x, x ∈ o.op.operands → st'.rv x = st.rv x) (ho : ∀ id, id ∈ f.rs → st'.ob id = st.ob id) {ob2 : Ob} (hx : ∀ id, id ∈ f.ns ∨ id ∈ f.ws → ob2 id = ob' id) : recOf ops o st' v ob2 f = recOf ops o st v ob' f := by
  unfold recOf
  rw [hw]
  split
  · rename_i h
    have hu := hu h
    have e1 : o.op.operands.toList.map st'.rv = o.op.operands.toList.map st.rv := List.map_congr_left fun x hx => hu x (by simpa using hx)
    have e2 : (f.rs.map fun id => obIds (st'.ob id)) = (f.rs.map fun id => obIds (st.ob id)) := List.map_congr_left fun k hk => by rw [ho k hk]
    have e3 : (f.rs.all fun id => obFull (st'.ob id)) = (f.rs.all fun id => obFull (st.ob id)) := by
      rw [Bool.eq_iff_iff, List.all_eq_true, List.all_eq_true]
      exact ⟨fun h k hk => by rw [← ho k hk]; exact h k hk, fun h k hk => by rw [ho k hk]; exact h k hk⟩
    have e4 : ((f.ns ++ f.ws).map fun id => obIds (ob2 id)) = ((f.ns ++ f.ws).map fun id => obIds (ob' id)) := List.map_congr_left fun k hk => by rw [hx k (by simpa using hk)]
    simp only [mkRec, e1, e2, e3, e4]
  · rfl
/-- an act that writes nothing, elsewhere -/
theorem act_quiet (h : act E cf ops o st = some (v, ob', f)) (h1 : f.ws = []) (h2 : f.ns = []) (hw : wantV ops o st' = wantV ops o st) (hu : wantV ops o st = some true → ∀ x, x ∈ o.op.operands → st'.rv x = st.rv x)
    (ho : ∀ id, id ∈ f.rs → st'.ob id = st.ob id) : ob' = st.ob ∧ act E cf ops o st' = some (v, st'.ob, f) := by
  unfold act at h ⊢
  rw [hw]
  split at h
  · rename_i hx
    rw [effOp_congr o (hu hx)]
    exact Eff.exec_quiet _ _ _ _ _ _ _ h h1 h2 ho
  · rename_i hx
    simp only [Option.some.injEq, Prod.mk.injEq] at h
    obtain ⟨rfl, rfl, rfl⟩ := h
    exact ⟨rfl, rfl⟩
  · cases h
/-- an act that writes elsewhere too, elsewhere -/
theorem act_frame (h : act E cf ops o st = some (v, ob', f)) (hw : wantV ops o st' = wantV ops o st) (hu : wantV ops o st = some true → ∀ x, x ∈ o.op.operands → st'.rv x = st.rv x) :
    (∀ id, id ∈ f.ns → id ∉ f.ws → st.ob id = none) ∧ ((∀ id, id ∈ f.rs ∨ id ∈ f.ws ∨ id ∈ f.ns → st'.ob id = st.ob id) → ∃ ob2', act E cf ops o st' = some (v, ob2', f) ∧ ∀ id, st'.ob id = st.ob id → ob2' id = ob' id) := by
  unfold act at h ⊢
  rw [hw]
  split at h
  · rename_i hx
    obtain ⟨r, m, n, h1, h2, h3, h4, h5⟩ := Eff.exec_frame _ st.ob st'.ob _ _ _ _ h
    simp only [List.append_nil] at h1 h2 h3
    rw [effOp_congr o (hu hx), h1, h2, h3]
    rw [← h1, ← h2, ← h3] at h5 ⊢
    exact ⟨by rw [h2, h3]; exact h4, h5⟩
  · rename_i hx
    simp only [Option.some.injEq, Prod.mk.injEq] at h
    obtain ⟨rfl, rfl, rfl⟩ := h
    exact ⟨(fun id hid => by cases hid), fun _ => ⟨st'.ob, rfl, fun id h => h⟩⟩
  · cases h
theorem act_same (h : act E cf ops o st = some (v, ob', f)) (hw : wantV ops o st' = wantV ops o st) (hu : wantV ops o st = some true → ∀ x, x ∈ o.op.operands → st'.rv x = st.rv x)
    (ho : st'.ob = st.ob) : act E cf ops o st' = some (v, ob', f) := by
  unfold act at h ⊢
  rw [hw]
  split at h
  · rename_i hx
    rw [effOp_congr o (hu hx), ho]
    exact h
  · rename_i hx
    rw [ho]
    exact h
  · cases h
noncomputable def wv : V → Option (Option Bool)
  | .bool b => some (some b)
  | .tup [] => some none
  | _ => none
theorem wv_kill (id : Nat) (v : V) : wv (v.kill id) = wv v := by
  cases v with
  | own j => simp only [V.kill]; cases Nat.beq j id <;> rfl
  | sub j a b => simp only [V.kill]; cases Nat.beq j id <;> rfl
  | el j a b => simp only [V.kill]; cases Nat.beq j id <;> rfl
  | box j b => simp only [V.kill]; cases Nat.beq j id <;> rfl
  | mt j p => simp only [V.kill]; cases Nat.beq j id || (p.loose && Nat.beq (gho j) id) <;> rfl
  | tup vs => cases vs <;> rfl
  | _ => rfl
theorem wv_killAll (v : V) : ∀ ns, wv (killAll ns v) = wv v
  | [] => rfl
  | id :: ids => by simp only [killAll]; rw [wv_kill, wv_killAll v ids]
theorem wantV_eq : wantV ops o st = match o.guard with
  | none => some true
  | some (g, want) => match dstOf ops g with
    | none => none
    | some t => (wv (st.tm t)).map fun b => match b with
      | some b => b == want
      | none => false := by
  unfold wantV
  cases o.guard with
  | none => rfl
  | some p =>
    obtain ⟨g, want⟩ := p
    dsimp only
    cases dstOf ops g with
    | none => rfl
    | some t =>
      dsimp only
      generalize st.tm t = v
      cases v with
      | tup vs => cases vs <;> rfl
      | _ => rfl
theorem wantV_same {ops : Array Oper} (h : ∀ t, t ∈ o.looksAt ops → wv (st'.tm t) = wv (st.tm t)) : wantV ops.toList o st' = wantV ops.toList o st := by
  rw [wantV_eq, wantV_eq]
  split
  · rfl
  · rename_i g want hg
    split
    · rfl
    · rename_i t ht
      rw [h t]
      unfold Oper.looksAt
      refine List.mem_append_right _ ?_
      rw [hg]
      unfold dstOf at ht
      rw [Array.getElem?_toList] at ht
      cases hq : ops[g]? with
      | none => rw [hq] at ht; cases ht
      | some q => rw [hq] at ht; simp at ht; simp [hq, ht]
theorem rv_same {ops : Array Oper} {z : Operand} (hz : z ∈ o.op.operands) (h : ∀ t, z = .tmp t → t ∈ o.looksAt ops → st'.tm t = st.tm t) : st'.rv z = st.rv z := by
  cases z with
  | tmp t =>
    refine h t rfl ?_
    unfold Oper.looksAt
    exact List.mem_append_left _ (List.mem_filterMap.2 ⟨.tmp t, by simpa using hz, rfl⟩)
  | _ => rfl
theorem did_swap {ops : Array Oper} (hx : Did E cf ops.toList x rx st st1) (hy : Did E cf ops.toList y ry st1 st2) (hp : pairOk ops rx ry = true) :
    ∃ st1', Did E cf ops.toList y ry st st1' ∧ Did E cf ops.toList x rx st1' st2 := by
  obtain ⟨vx, obx, fx, ax, ex, rfl⟩ := hx
  obtain ⟨vy, oby, fy, ay, ey, rfl⟩ := hy
  have Fx := facts ax ex
  have Fy := facts ay ey
  unfold pairOk at hp
  rw [Bool.and_eq_true] at hp
  obtain ⟨hap, hp⟩ := hp
  rw [Fx.ro, Fy.ro] at hap
  obtain ⟨a1, a2, a3⟩ := Oper.apart_spec hap
  have hcase : (rx.q = true ∧ (∀ id, id ∈ fy.ns → id ∉ rx.ids) ∧ ∀ id, id ∈ fy.ns ∨ id ∈ fy.ws → id ∉ rx.rs) ∨ (ry.q = true ∧ ry.fl = true ∧ (∀ id, id ∈ fx.ns → id ∉ ry.ids) ∧ ∀ id, id ∈ fx.ns ∨ id ∈ fx.ws → id ∉ ry.rs) ∨ apart2 rx ry = true := by
    simp only [Bool.or_eq_true, Bool.and_eq_true] at hp
    have hids : ∀ {p q : Rec}, apartIds p q = true → (∀ id, id ∈ p.ns → id ∉ q.ids) ∧ ∀ id, id ∈ p.xs → id ∉ q.rs := fun h => by
      unfold apartIds at h
      simp only [Bool.and_eq_true] at h
      refine ⟨fun id hid => ?_, fun id hid => ?_⟩
      · have := List.all_eq_true.1 h.1 id hid
        simpa using this
      · have := List.all_eq_true.1 h.2 id hid
        simpa using this
    rcases hp with ((⟨h1, h2⟩ | ⟨⟨h1, h2⟩, h3⟩) | ⟨⟨h1, h2⟩, h3⟩) | hp
    · obtain ⟨q1, q2⟩ := Fy.q h2
      refine .inl ⟨h1, fun id hid => ?_, fun id hid => ?_⟩
      · rw [q2] at hid
        simp at hid
      · rw [q1, q2] at hid
        simp at hid
    · exact .inl ⟨h1, fun id hid => (hids h3).1 id (Fy.ns id hid), fun id hid => (hids h3).2 id (Fy.xs id hid)⟩
    · exact .inr (.inl ⟨h1, h2, fun id hid => (hids h3).1 id (Fx.ns id hid), fun id hid => (hids h3).2 id (Fx.xs id hid)⟩)
    · exact .inr (.inr hp)
  rcases hcase with ⟨hq, hd⟩ | ⟨hq, hfl, hd⟩ | hap2
  · -- the first one writes nothing
    obtain ⟨qx1, qx2⟩ := Fx.q hq
    obtain ⟨rfl, _⟩ := act_quiet (st' := st) ax qx1 qx2 rfl (fun _ _ _ => rfl) (fun _ _ => rfl)
    have l1 : ∀ t, t ∈ y.looksAt ops → (aft x st vx st.ob fx).tm t = st.tm t := fun t ht => by
      rw [aft_tm, if_neg (fun h => a1 t h ht), qx2]; rfl
    have w1 : wantV ops.toList y st = wantV ops.toList y (aft x st vx st.ob fx) := wantV_same fun t ht => by rw [l1 t ht]
    have u1 : ∀ z, z ∈ y.op.operands → st.rv z = (aft x st vx st.ob fx).rv z := fun z hz => rv_same (ops := ops) hz fun t _ ht => (l1 t ht).symm
    have ay' := act_same ay w1 (fun _ => u1) (aft_ob x st vx st.ob fx).symm
    have ey' : recOf ops.toList y st vy oby fy = ry := (rec_same w1 (fun _ => u1) (fun id _ => by rw [aft_ob]) (fun _ _ => rfl)).trans ey
    have hk : ∀ u : V, (∀ id, id ∈ u.ids → id ∈ rx.ids) → killAll fy.ns u = u := fun u hu => killAll_id _ _ fun id hid hid' => hd.1 id hid (hu id hid')
    refine ⟨aft y st vy oby fy, ⟨vy, oby, fy, ay', ey', rfl⟩, ?_⟩
    have w2 : wantV ops.toList x (aft y st vy oby fy) = wantV ops.toList x st := wantV_same fun t ht => by
      rw [aft_tm, if_neg (fun h => a3 t h ht), wv_killAll]
    have u2 : wantV ops.toList x st = some true → ∀ z, z ∈ x.op.operands → (aft y st vy oby fy).rv z = st.rv z := fun hw z hz => rv_same (ops := ops) hz fun t hzt ht => by
      rw [aft_tm, if_neg (fun h => a3 t h ht)]
      subst hzt
      exact hk _ (Fx.uid hw _ hz)
    have o2 : ∀ id, id ∈ fx.rs → (aft y st vy oby fy).ob id = st.ob id := fun id hid => by
      rw [aft_ob, act_grow ay id (fun h => hd.2 id (.inr h) (Fx.rs id hid)) (fun h => hd.2 id (.inl h) (Fx.rs id hid)), aft_ob]
      exact obKill_id _ _ fun k hk1 hk2 => hd.1 k hk1 (Fx.oid id hid k hk2)
    obtain ⟨_, ax'⟩ := act_quiet ax qx1 qx2 w2 u2 o2
    rw [aft_ob] at ax'
    refine ⟨vx, oby, fx, ax', (rec_same w2 u2 o2 (fun id hid => by rw [qx1, qx2] at hid; simp at hid)).trans ex, St.ext' (fun t => ?_) ?_⟩
    · simp only [aft_tm, qx2, killAll]
      by_cases e1 : x.dst = some t
      · by_cases e2 : y.dst = some t
        · exact absurd e2 (a2 t e1)
        · rw [if_neg e2, if_pos e1, if_pos e1]
          exact hk _ Fx.vid
      · rw [if_neg e1, if_neg e1]
    · simp only [aft_ob]
  · -- the second one writes nothing
    obtain ⟨qy1, qy2⟩ := Fy.q hq
    have hk : ∀ t, t ∈ y.looksAt ops → (aft x st vx obx fx).tm t = killAll fx.ns (st.tm t) := fun t ht => by
      rw [aft_tm, if_neg (fun h => a1 t h ht)]
    have w1 : wantV ops.toList y st = wantV ops.toList y (aft x st vx obx fx) := wantV_same fun t ht => by rw [hk t ht, wv_killAll]
    have u1 : wantV ops.toList y (aft x st vx obx fx) = some true → ∀ z, z ∈ y.op.operands → st.rv z = (aft x st vx obx fx).rv z := fun hw z hz => rv_same (ops := ops) hz fun t hzt ht => by
      have hf := Fy.fu hfl hw z hz
      subst hzt
      have hf : ((aft x st vx obx fx).tm t).full = true := hf
      rw [hk t ht] at hf ⊢
      exact (killAll_full _ _ hf).symm
    have o1 : ∀ id, id ∈ fy.rs → st.ob id = (aft x st vx obx fx).ob id := fun id hid => by
      have hf := Fy.fo hfl id hid
      rw [aft_ob] at hf ⊢
      have hg := act_grow ax id (fun h => hd.2 id (.inr h) (Fy.rs id hid)) (fun h => hd.2 id (.inl h) (Fy.rs id hid))
      rw [hg] at hf ⊢
      exact (obKill_full _ _ hf).symm
    obtain ⟨rfl, ay'⟩ := act_quiet ay qy1 qy2 w1 u1 o1
    refine ⟨aft y st vy st.ob fy, ⟨vy, st.ob, fy, ay', (rec_same w1 u1 o1 (fun id hid => by rw [qy1, qy2] at hid; simp at hid)).trans ey, rfl⟩, ?_⟩
    have l2 : ∀ t, t ∈ x.looksAt ops → (aft y st vy st.ob fy).tm t = st.tm t := fun t ht => by
      rw [aft_tm, if_neg (fun h => a3 t h ht), qy2]; rfl
    have w2 : wantV ops.toList x (aft y st vy st.ob fy) = wantV ops.toList x st := wantV_same fun t ht => by rw [l2 t ht]
    have u2 : ∀ z, z ∈ x.op.operands → (aft y st vy st.ob fy).rv z = st.rv z := fun z hz => rv_same (ops := ops) hz fun t _ ht => l2 t ht
    have ax' := act_same ax w2 (fun _ => u2) (aft_ob y st vy st.ob fy)
    refine ⟨vx, obx, fx, ax', (rec_same w2 (fun _ => u2) (fun id _ => by rw [aft_ob]) (fun _ _ => rfl)).trans ex, St.ext' (fun t => ?_) ?_⟩
    · simp only [aft_tm, qy2, killAll]
      by_cases e1 : x.dst = some t
      · rw [if_neg (a2 t e1), if_pos e1, if_pos e1]
      · by_cases e2 : y.dst = some t
        · rw [if_pos e2, if_neg e1, if_pos e2]
          exact (killAll_id _ _ fun id hid hid' => hd.1 id hid (Fy.vid id hid')).symm
        · rw [if_neg e2, if_neg e1, if_neg e1, if_neg e2]
    · simp only [aft_ob]
  · -- both write
    have dj : ∀ {p q : List Nat}, disj p q = true → ∀ id, id ∈ p → id ∉ q := fun h id hid => by
      have := List.all_eq_true.1 h id hid
      simpa using this
    unfold apart2 Rec.neat at hap2
    simp only [Bool.and_eq_true] at hap2
    obtain ⟨⟨⟨⟨⟨⟨⟨⟨⟨hfl, hx1, hx2⟩, hy1, hy2⟩, c1⟩, c2⟩, c3⟩, c4⟩, c5⟩, c6⟩, c7⟩ := hap2
    have d1 := fun id (h : id ∈ fx.ns ∨ id ∈ fx.ws) => dj c1 id (Fx.xs id h)
    have d2 : ∀ id, (id ∈ fx.ns ∨ id ∈ fx.ws) → ¬ (id ∈ fy.ns ∨ id ∈ fy.ws) := fun id h h' => dj c2 id (Fx.xs id h) (Fy.xs id h')
    have d3 := fun id (h : id ∈ fy.ns ∨ id ∈ fy.ws) => dj c3 id (Fy.xs id h)
    have d4 := fun id (h : id ∈ fy.ns) => dj c4 id (Fy.ns id h)
    have d4' := fun id (h : id ∈ fy.ns) => dj c5 id (Fy.ns id h)
    have d5 := fun id (h : id ∈ fx.ns) => dj c6 id (Fx.ns id h)
    have d5' := fun id (h : id ∈ fx.ns) => dj c7 id (Fx.ns id h)
    have sx : ∀ id, id ∈ fx.ws → id ∈ fx.rs := fun id h => Fx.rs' id (by have := List.all_eq_true.1 hx1 id (Fx.ws' id h); simpa using this)
    have sy : ∀ id, id ∈ fy.ws → id ∈ fy.rs := fun id h => Fy.rs' id (by have := List.all_eq_true.1 hy1 id (Fy.ws' id h); simpa using this)
    have nx : ∀ id, id ∈ fx.ns → id ∉ fx.ws := fun id h h' => dj hx2 id (Fx.ns id h) (Fx.ws' id h')
    have ny : ∀ id, id ∈ fy.ns → id ∉ fy.ws := fun id h h' => dj hy2 id (Fy.ns id h) (Fy.ws' id h')
    have hk : ∀ t, t ∈ y.looksAt ops → (aft x st vx obx fx).tm t = killAll fx.ns (st.tm t) := fun t ht => by
      rw [aft_tm, if_neg (fun h => a1 t h ht)]
    have w1 : wantV ops.toList y st = wantV ops.toList y (aft x st vx obx fx) := wantV_same fun t ht => by rw [hk t ht, wv_killAll]
    have u1 : wantV ops.toList y (aft x st vx obx fx) = some true → ∀ z, z ∈ y.op.operands → st.rv z = (aft x st vx obx fx).rv z := fun hw z hz => rv_same (ops := ops) hz fun t hzt ht => by
      have hf := Fy.fu hfl hw z hz
      subst hzt
      have hf : ((aft x st vx obx fx).tm t).full = true := hf
      rw [hk t ht] at hf ⊢
      exact (killAll_full _ _ hf).symm
    obtain ⟨fry, gy⟩ := act_frame (st' := st) ay w1 u1
    have gx0 : ∀ id, ¬ (id ∈ fx.ns ∨ id ∈ fx.ws) → obx id = (st.ob id).map (killAllO fx.ns) := fun id h => act_grow ax id (fun h' => h (.inr h')) (fun h' => h (.inl h'))
    have o1 : ∀ id, id ∈ fy.rs → st.ob id = (aft x st vx obx fx).ob id := fun id hid => by
      have hf := Fy.fo hfl id hid
      rw [aft_ob] at hf ⊢
      have hg := gx0 id (fun h => d1 id h (Fy.rs id hid))
      rw [hg] at hf ⊢
      exact (obKill_full _ _ hf).symm
    have t1 : ∀ id, id ∈ fy.rs ∨ id ∈ fy.ws ∨ id ∈ fy.ns → st.ob id = (aft x st vx obx fx).ob id := fun id hid => by
      rcases hid with hid | hid | hid
      · exact o1 id hid
      · exact o1 id (sy id hid)
      · have h0 := fry id hid (ny id hid)
        rw [h0]
        rw [aft_ob] at h0
        have hg := gx0 id (fun h => d2 id h (.inl hid))
        rw [h0] at hg
        cases hq : st.ob id with
        | none => rfl
        | some o => rw [hq] at hg; cases hg
    obtain ⟨oby0, ay', ry0⟩ := gy t1
    have ey' : recOf ops.toList y st vy oby0 fy = ry := (rec_same w1 u1 (fun id hid => o1 id hid) (fun id hid => ry0 id (t1 id (by rcases hid with h | h; exact .inr (.inr h); exact .inr (.inl h))))).trans ey
    refine ⟨aft y st vy oby0 fy, ⟨vy, oby0, fy, ay', ey', rfl⟩, ?_⟩
    have hkx : ∀ u : V, (∀ id, id ∈ u.ids → id ∈ rx.ids) → killAll fy.ns u = u := fun u hu => killAll_id _ _ fun id hid hid' => d4 id hid (hu id hid')
    have w2 : wantV ops.toList x (aft y st vy oby0 fy) = wantV ops.toList x st := wantV_same fun t ht => by
      rw [aft_tm, if_neg (fun h => a3 t h ht), wv_killAll]
    have u2 : wantV ops.toList x st = some true → ∀ z, z ∈ x.op.operands → (aft y st vy oby0 fy).rv z = st.rv z := fun hw z hz => rv_same (ops := ops) hz fun t hzt ht => by
      rw [aft_tm, if_neg (fun h => a3 t h ht)]
      subst hzt
      exact hkx _ (Fx.uid hw _ hz)
    obtain ⟨frx, gx⟩ := act_frame (st' := aft y st vy oby0 fy) ax w2 u2
    have gy0 : ∀ id, ¬ (id ∈ fy.ns ∨ id ∈ fy.ws) → oby0 id = (st.ob id).map (killAllO fy.ns) := fun id h => act_grow ay' id (fun h' => h (.inr h')) (fun h' => h (.inl h'))
    have o2 : ∀ id, id ∈ fx.rs → (aft y st vy oby0 fy).ob id = st.ob id := fun id hid => by
      rw [aft_ob, gy0 id (fun h => d3 id h (Fx.rs id hid))]
      exact obKill_id _ _ fun k hk1 hk2 => d4 k hk1 (Fx.oid id hid k hk2)
    have t2 : ∀ id, id ∈ fx.rs ∨ id ∈ fx.ws ∨ id ∈ fx.ns → (aft y st vy oby0 fy).ob id = st.ob id := fun id hid => by
      rcases hid with hid | hid | hid
      · exact o2 id hid
      · exact o2 id (sx id hid)
      · rw [aft_ob, gy0 id (fun h => d2 id (.inl hid) h), frx id hid (nx id hid)]
        rfl
    obtain ⟨obx', ax', rx0⟩ := gx t2
    have t2' : ∀ id, id ∈ fx.ns ∨ id ∈ fx.ws → obx' id = obx id := fun id hid => rx0 id (t2 id (by rcases hid with h | h; exact .inr (.inr h); exact .inr (.inl h)))
    refine ⟨vx, obx', fx, ax', (rec_same w2 u2 o2 t2').trans ex, St.ext' (fun t => ?_) ?_⟩
    · simp only [aft_tm]
      by_cases e1 : x.dst = some t
      · by_cases e2 : y.dst = some t
        · exact absurd e2 (a2 t e1)
        · rw [if_neg e2, if_pos e1, if_pos e1]
          exact hkx _ Fx.vid
      · by_cases e2 : y.dst = some t
        · rw [if_pos e2, if_neg e1, if_pos e2]
          exact (killAll_id _ _ fun id hid hid' => d5 id hid (Fy.vid id hid')).symm
        · rw [if_neg e2, if_neg e1, if_neg e1, if_neg e2]
          exact killAll_comm _ _ _
    · simp only [aft_ob]
      funext id
      have gyx : ¬ (id ∈ fy.ns ∨ id ∈ fy.ws) → oby id = (obx id).map (killAllO fy.ns) := fun h => by
        have := act_grow ay id (fun h' => h (.inr h')) (fun h' => h (.inl h'))
        rw [aft_ob] at this
        exact this
      have gxy : ¬ (id ∈ fx.ns ∨ id ∈ fx.ws) → obx' id = (oby0 id).map (killAllO fx.ns) := fun h => by
        have := act_grow ax' id (fun h' => h (.inr h')) (fun h' => h (.inl h'))
        rw [aft_ob] at this
        exact this
      by_cases hx : id ∈ fx.ns ∨ id ∈ fx.ws
      · rw [gyx (d2 id hx), t2' id hx]
        exact obKill_id _ _ fun k hk1 hk2 => d4' k hk1 (Fx.wi id hx k hk2)
      · by_cases hy : id ∈ fy.ns ∨ id ∈ fy.ws
        · rw [gxy hx, ry0 id (t1 id (by rcases hy with h | h; exact .inr (.inr h); exact .inr (.inl h)))]
          exact (obKill_id _ _ fun k hk1 hk2 => d5' k hk1 (Fy.wi id hy k hk2)).symm
        · rw [gyx hy, gxy hx, gx0 id hx, gy0 id hy]
          exact obKill_comm _ _ _
end
end Go.Eng
namespace Go.Eng
set_option linter.unusedSectionVars false
variable [Glb]
open Go.RowKit
set_option linter.unusedSimpArgs false
set_option linter.unusedVariables false

abbrev Tri := Nat × Oper × Rec
section
variable {E : Env} {cf : Cf E} {ops : Array Oper} {ms : List Nat}
noncomputable def RunT (E : Env) (cf : Cf E) (ops : Array Oper) : List Tri → St → St → Prop
  | [], st, st' => st' = st
  | p :: l, st, st' => ∃ st1, Did E cf ops.toList p.2.1 p.2.2 st st1 ∧ RunT E cf ops l st1 st'
/-- two operations that may change places -/
noncomputable def Free (ops : Array Oper) (ms : List Nat) (p q : Tri) : Prop := Nat.testBit ((ms[q.1]?).getD 0) p.1 = true ∨ pairOk ops p.2.2 q.2.2 = true
theorem evRD_inv {ρ : Type} {K : St → Option ρ} {r : ρ} : ∀ (l : List Oper) (i : Nat) (st : St) (rs : List (Nat × Rec)), evRD E cf ops ms l i st rs K = some r →
    ∃ (L : List Tri) (st' : St), L.map (·.1) = List.range' i l.length ∧ L.map (·.2.1) = l ∧ RunT E cf ops L st st' ∧ L.Pairwise (Free ops ms) ∧
      (∀ q, q ∈ L → ∀ p, p ∈ rs → Nat.testBit ((ms[q.1]?).getD 0) p.1 = true ∨ pairOk ops p.2 q.2.2 = true) ∧ K st' = some r
  | [], i, st, rs, h => ⟨[], st, rfl, rfl, rfl, List.Pairwise.nil, (fun q hq => by cases hq), h⟩
  | o :: l, i, st, rs, h => by
    have fin : ∀ (v : V) (ob' : Ob) (f : Fp), act E cf ops.toList o st = some (v, ob', f) → pairsOk ops ms i (recOf ops.toList o st v ob' f) rs = true →
        evRD E cf ops ms l (i + 1) (aft o st v ob' f) (rs ++ [(i, recOf ops.toList o st v ob' f)]) K = some r → ∃ (L : List Tri) (st' : St), L.map (·.1) = List.range' i (o :: l).length ∧ L.map (·.2.1) = o :: l ∧ RunT E cf ops L st st' ∧ L.Pairwise (Free ops ms) ∧
      (∀ q, q ∈ L → ∀ p, p ∈ rs → Nat.testBit ((ms[q.1]?).getD 0) p.1 = true ∨ pairOk ops p.2 q.2.2 = true) ∧ K st' = some r := fun v ob' f h1 h2 h3 => by
      obtain ⟨L, st', g1, g2, g3, g4, g5, g6⟩ := evRD_inv l (i + 1) _ _ h3
      refine ⟨(i, o, recOf ops.toList o st v ob' f) :: L, st', ?_, ?_, ⟨_, ⟨v, ob', f, h1, rfl, rfl⟩, g3⟩, ?_, ?_, g6⟩
      · simp [g1, List.range'_succ]
      · simp [g2]
      · refine List.pairwise_cons.2 ⟨fun q hq => ?_, g4⟩
        exact g5 q hq (i, recOf ops.toList o st v ob' f) (by simp)
      · intro q hq p hp
        rcases List.mem_cons.1 hq with rfl | hq
        · have := List.all_eq_true.1 h2 p hp
          simpa using this
        · exact g5 q hq p (by simp [hp])
    have hgo : (effOp E cf o st.rv).run st.ob ⟨[], [], []⟩ (fun v ob' f => v.force fun v =>
          bif pairsOk ops ms i (mkRec o st v ob' f) rs then evRD E cf ops ms l (i + 1) (St.put? { tm := tmAfter f.ns st.tm, ob := ob' } o.dst v) (rs ++ [(i, mkRec o st v ob' f)]) K else none) = some r → wantV ops.toList o st = some true →
        ∃ (L : List Tri) (st' : St), L.map (·.1) = List.range' i (o :: l).length ∧ L.map (·.2.1) = o :: l ∧ RunT E cf ops L st st' ∧ L.Pairwise (Free ops ms) ∧
      (∀ q, q ∈ L → ∀ p, p ∈ rs → Nat.testBit ((ms[q.1]?).getD 0) p.1 = true ∨ pairOk ops p.2 q.2.2 = true) ∧ K st' = some r := fun h hw => by
      obtain ⟨v, ob', f, h1, h2⟩ := Eff.run_inv _ _ _ _ _ h
      rw [V.force_eq] at h2
      cases hp : pairsOk ops ms i (mkRec o st v ob' f) rs with
      | false => rw [hp] at h2; cases h2
      | true =>
        rw [hp] at h2
        have er : recOf ops.toList o st v ob' f = mkRec o st v ob' f := by simp only [recOf, hw]
        exact fin v ob' f (by simp only [act, hw]; exact h1) (by rw [er]; exact hp) (by rw [er]; exact h2)
    have hno : (bif pairsOk ops ms i (skipRec o) rs then evRD E cf ops ms l (i + 1) (St.put? st o.dst (.tup [])) (rs ++ [(i, skipRec o)]) K else none) = some r → wantV ops.toList o st = some false →
        ∃ (L : List Tri) (st' : St), L.map (·.1) = List.range' i (o :: l).length ∧ L.map (·.2.1) = o :: l ∧ RunT E cf ops L st st' ∧ L.Pairwise (Free ops ms) ∧
      (∀ q, q ∈ L → ∀ p, p ∈ rs → Nat.testBit ((ms[q.1]?).getD 0) p.1 = true ∨ pairOk ops p.2 q.2.2 = true) ∧ K st' = some r := fun h hw => by
      cases hp : pairsOk ops ms i (skipRec o) rs with
      | false => rw [hp] at h; cases h
      | true =>
        rw [hp] at h
        have er : recOf ops.toList o st (.tup []) st.ob ⟨[], [], []⟩ = skipRec o := by simp only [recOf, hw]
        exact fin (.tup []) st.ob ⟨[], [], []⟩ (by simp only [act, hw]) (by rw [er]; exact hp) (by rw [er]; exact h)
    simp only [evRD, recK_eq] at h
    cases hg : o.guard with
    | none => rw [hg] at h; exact hgo h (by simp [wantV, hg])
    | some p =>
      obtain ⟨g, want⟩ := p
      rw [hg] at h
      simp only at h
      cases ht : dstOf ops.toList g with
      | none => rw [ht] at h; cases h
      | some t =>
        rw [ht] at h
        simp only at h
        split at h
        · rename_i b hb
          have hw : wantV ops.toList o st = some (b == want) := by simp [wantV, hg, ht, hb]
          cases b with
          | true =>
            simp only [brB, cond_true, put_same hb] at h
            cases want with
            | true => exact hgo h hw
            | false => exact hno h hw
          | false =>
            simp only [brB, cond_false, put_same hb] at h
            cases want with
            | true => exact hno h hw
            | false => exact hgo h hw
        · rename_i hb
          exact hno h (by simp [wantV, hg, ht, hb])
        · cases h
theorem bubble (x : Tri) (post : List Tri) : ∀ (pre : List Tri) (st st' : St), RunT E cf ops (pre ++ x :: post) st st' → (∀ p, p ∈ pre → pairOk ops p.2.2 x.2.2 = true) → RunT E cf ops (x :: (pre ++ post)) st st'
  | [], st, st', h, _ => h
  | p :: pre, st, st', ⟨st1, h1, h2⟩, hp => by
    obtain ⟨st2, h3, h4⟩ := bubble x post pre st1 st' h2 (fun q hq => hp q (by simp [hq]))
    obtain ⟨st1', h5, h6⟩ := did_swap h1 h3 (hp p (by simp))
    exact ⟨st1', h5, st2, h6, h4⟩
/-! ### who waits for whom -/
theorem masks_acc : ∀ (l : List Oper) (acc : List Nat), ∃ t, masks l acc = acc ++ t
  | [], acc => ⟨[], by simp [masks]⟩
  | o :: l, acc => by
    obtain ⟨t, ht⟩ := masks_acc l (acc ++ [edgeMask acc o.after.toList])
    exact ⟨[edgeMask acc o.after.toList] ++ t, by simp only [masks]; rw [ht, List.append_assoc]⟩
theorem masks_get : ∀ (l : List Oper) (acc : List Nat) (k : Nat) (o : Oper), l[k]? = some o → (masks l acc)[acc.length + k]? = some (edgeMask ((masks l acc).take (acc.length + k)) o.after.toList)
  | [], _, _, _, h => by simp at h
  | o' :: l, acc, 0, o, h => by
    obtain rfl := Option.some.inj h
    simp only [masks]
    obtain ⟨t, ht⟩ := masks_acc l (acc ++ [edgeMask acc o'.after.toList])
    rw [ht]
    simp
  | o' :: l, acc, k + 1, o, h => by
    have := masks_get l (acc ++ [edgeMask acc o'.after.toList]) k o (by simpa using h)
    simp only [masks]
    simp only [List.length_append, List.length_cons, List.length_nil] at this
    rw [show acc.length + (k + 1) = acc.length + (0 + 1) + k by omega]
    exact this
theorem edgeMask_bit (acc : List Nat) : ∀ (es : List Edge) (j : Nat), Nat.testBit (edgeMask acc es) j = true → ∃ e, e ∈ es ∧ Region.binds .any e = true ∧ (j = e.on ∨ Nat.testBit ((acc[e.on]?).getD 0) j = true)
  | [], j, h => by simp [edgeMask] at h
  | e :: es, j, h => by
    simp only [edgeMask] at h
    cases hb : Region.binds .any e with
    | false =>
      rw [hb] at h
      obtain ⟨e', h1, h2⟩ := edgeMask_bit acc es j h
      exact ⟨e', by simp [h1], h2⟩
    | true =>
      rw [hb] at h
      simp only [cond_true, Nat.testBit_or, Bool.or_eq_true] at h
      rcases h with (h | h) | h
      · rw [Nat.testBit_two_pow] at h
        exact ⟨e, by simp, hb, .inl (by simpa using h : e.on = j).symm⟩
      · exact ⟨e, by simp, hb, .inr h⟩
      · obtain ⟨e', h1, h2⟩ := edgeMask_bit acc es j h
        exact ⟨e', by simp [h1], h2⟩
theorem mask_closed {S : Nat → Prop} (hS : ∀ i o, S i → ops[i]? = some o → ∀ e, e ∈ o.after.toList → Region.binds .any e = true → S e.on) : ∀ (i : Nat) (o : Oper), ops[i]? = some o →
    (∀ e, e ∈ o.after.toList → Region.binds .any e = true → S e.on) → ∀ j, Nat.testBit (((masks ops.toList [])[i]?).getD 0) j = true → S j := by
  intro i
  induction i using Nat.strongRecOn with
  | _ i ih =>
    intro o ho he j hj
    have := masks_get ops.toList [] i o (by rw [Array.getElem?_toList]; exact ho)
    simp only [List.length_nil, Nat.zero_add] at this
    rw [this] at hj
    obtain ⟨e, h1, h2, h3⟩ := edgeMask_bit _ _ _ hj
    have hSe := he e h1 h2
    rcases h3 with rfl | h3
    · exact hSe
    · by_cases hlt : e.on < i
      · rw [List.getElem?_take, if_pos hlt] at h3
        have hil := (Array.getElem?_eq_some_iff.1 ho).1
        have ho' : ops[e.on]? = some (ops[e.on]'(by omega)) := Array.getElem?_eq_getElem (by omega)
        exact ih e.on hlt _ ho' (hS e.on _ hSe ho') j h3
      · rw [List.getElem?_take, if_neg hlt] at h3
        simp at h3
theorem edgesDown_at : ∀ (l : List Oper) (i k : Nat) (o : Oper), edgesDown l i = true → l[k]? = some o → ∀ e, e ∈ o.after.toList → Region.binds .any e = true → e.on < i + k
  | [], _, _, _, _, h => by simp at h
  | o' :: l, i, 0, o, hd, h => by
    obtain rfl := Option.some.inj h
    simp only [edgesDown, Bool.and_eq_true] at hd
    intro e he hb
    have := List.all_eq_true.1 hd.1 e he
    rw [hb] at this
    simp only [Bool.not_true, Bool.false_or, Nat.blt_eq] at this
    omega
  | o' :: l, i, k + 1, o, hd, h => by
    simp only [edgesDown, Bool.and_eq_true] at hd
    intro e he hb
    have := edgesDown_at l (i + 1) k o hd.2 (by simpa using h) e he hb
    omega
theorem mem_ready {listed : Array Bool} {i : Nat} : i ∈ Region.ready .any ops listed ↔ ∃ o, ops[i]? = some o ∧ listed.getD i true = false ∧ ∀ e, e ∈ o.after.toList → Region.binds .any e = true → listed.getD e.on false = true := by
  unfold Region.ready
  simp only [List.mem_filter, List.mem_range, Bool.and_eq_true, Bool.not_eq_true']
  constructor
  · rintro ⟨h1, h2, h3⟩
    refine ⟨ops[i]'h1, Array.getElem?_eq_getElem h1, h2, fun e he hb => ?_⟩
    rw [Array.getElem?_eq_getElem h1] at h3
    simp only [Option.map_some, Option.getD_some] at h3
    have := Array.all_eq_true'.1 h3 e (by simpa using he)
    rw [hb] at this
    simpa using this
  · rintro ⟨o, ho, h2, h3⟩
    refine ⟨(Array.getElem?_eq_some_iff.1 ho).1, h2, ?_⟩
    rw [ho]
    simp only [Option.map_some, Option.getD_some]
    refine Array.all_eq_true'.2 fun e he => ?_
    cases hb : Region.binds .any e with
    | false => rfl
    | true => simpa using h3 e (by simpa using he) hb
theorem getD_set {listed : Array Bool} {i j : Nat} {b : Bool} (hi : i < listed.size) : (listed.setIfInBounds i true).getD j b = if j = i then true else listed.getD j b := by
  rw [Array.getD_eq_getD_getElem?, Array.getD_eq_getD_getElem?]
  by_cases e : j = i
  · subst e
    rw [Array.getElem?_setIfInBounds_self_of_lt hi, if_pos rfl]
    rfl
  · rw [Array.getElem?_setIfInBounds_ne (fun h => e h.symm), if_neg e]
variable {w0 w : World} {R L : Nat → Prop} {N : Fx} {st st' : St} {a : Act} {loc : Nat → Loc} {γ : Nat → Option Nat}
theorem any_ok (hC : CallsOk E cf) (hN : dstsOk N.n ops.toList = true) (hd : edgesDown ops.toList 0 = true) {Q : Exit → Act → World → Prop} (hQ : ∀ a' w' loc' γ', Sim w0 R L N st' a' w' loc' γ' → Q .normal a' w') :
    ∀ (fuel : Nat) (rest : List Tri) (listed : Array Bool) (st : St) (a : Act) (w : World) (loc : Nat → Loc) (γ : Nat → Option Nat), listed.size = ops.size → rest.length ≤ fuel →
      (∀ i, i < ops.size → (listed.getD i true = false ↔ i ∈ rest.map (·.1))) → (rest.map (·.1)).Pairwise (· < ·) → (∀ p, p ∈ rest → ops[p.1]? = some p.2.1) → rest.Pairwise (Free ops (masks ops.toList [])) →
      RunT E cf ops rest st st' → Sim w0 R L N st a w loc γ →
      (∀ i o, listed.getD i false = true → ops[i]? = some o → ∀ e, e ∈ o.after.toList → Region.binds .any e = true → listed.getD e.on false = true) →
      wpAny E.P .any ops Q fuel listed a w := by
  have noready : ∀ (rest : List Tri) (listed : Array Bool), listed.size = ops.size → (∀ i, i < ops.size → (listed.getD i true = false ↔ i ∈ rest.map (·.1))) → (rest.map (·.1)).Pairwise (· < ·) → (∀ p, p ∈ rest → ops[p.1]? = some p.2.1) →
      Region.ready .any ops listed = [] → rest = [] := by
    intro rest listed hsz hl hs ho hr
    cases rest with
    | nil => rfl
    | cons p rest =>
      exfalso
      have hop := ho p (by simp)
      have hlt := (Array.getElem?_eq_some_iff.1 hop).1
      have : p.1 ∈ Region.ready .any ops listed := by
        refine mem_ready.2 ⟨p.2.1, hop, (hl p.1 hlt).2 (by simp), fun e he hb => ?_⟩
        have he' := edgesDown_at ops.toList 0 p.1 p.2.1 hd (by rw [Array.getElem?_toList]; exact hop) e he hb
        rw [Nat.zero_add] at he'
        have hne : e.on ∉ (p :: rest).map (·.1) := fun hm => by
          simp only [List.map_cons, List.mem_cons] at hm
          rcases hm with hm | hm
          · omega
          · have : p.1 < e.on := (List.pairwise_cons.1 hs).1 e.on hm
            omega
        have h1 : e.on < listed.size := by omega
        have h2 : ¬ listed.getD e.on true = false := fun h => hne ((hl e.on (by omega)).1 h)
        rw [Array.getD_eq_getD_getElem?, Array.getElem?_eq_getElem h1] at h2 ⊢
        simpa using h2
      rw [hr] at this
      cases this
  intro fuel
  induction fuel with
  | zero =>
    intro rest listed st a w loc γ hsz hf hl hs ho hp hrun hsim hcl
    obtain rfl : rest = [] := List.length_eq_zero_iff.1 (by omega)
    have hrun : st' = st := hrun
    subst hrun
    refine ⟨?_, hQ _ _ _ _ hsim⟩
    refine List.eq_nil_iff_forall_not_mem.2 fun i hi => ?_
    obtain ⟨o, h1, h2, _⟩ := mem_ready.1 hi
    have := (hl i (Array.getElem?_eq_some_iff.1 h1).1).1 h2
    simp at this
  | succ fuel ih =>
    intro rest listed st a w loc γ hsz hf hl hs ho hp hrun hsim hcl
    refine ⟨fun hr => ?_, fun i hi => ?_⟩
    · obtain rfl := noready rest listed hsz hl hs ho hr
      have hrun : st' = st := hrun
      subst hrun
      exact hQ _ _ _ _ hsim
    · obtain ⟨o, h1, h2, h3⟩ := mem_ready.1 hi
      have hlt := (Array.getElem?_eq_some_iff.1 h1).1
      obtain ⟨x, hx, hxi⟩ := List.mem_map.1 ((hl i hlt).1 h2)
      obtain ⟨pre, post, rfl⟩ := List.append_of_mem hx
      subst hxi
      have hxo := ho x hx
      rw [h1] at hxo
      obtain rfl := Option.some.inj hxo
      have hfree : ∀ p, p ∈ pre → pairOk ops p.2.2 x.2.2 = true := fun p hpm => by
        have hpf := (List.pairwise_append.1 hp).2.2 p hpm x (by simp)
        rcases hpf with hb | hb
        · exfalso
          have := mask_closed (S := fun i => listed.getD i false = true) (fun i o hi hop => hcl i o hi hop) x.1 _ h1 h3 p.1 hb
          have hpo := ho p (by simp [hpm])
          have hpl := (Array.getElem?_eq_some_iff.1 hpo).1
          have hpu := (hl p.1 hpl).2 (List.mem_map.2 ⟨p, by simp [hpm], rfl⟩)
          rw [Array.getD_eq_getD_getElem?, Array.getElem?_eq_getElem (by omega)] at this hpu
          simp at this hpu
          rw [this] at hpu
          cases hpu
        · exact hb
      obtain ⟨st1, g1, g2⟩ := bubble x post pre st st' hrun hfree
      refine op_step hC hN h1 hsim g1.stp (fun a' w' loc' γ' hsim' => ?_)
      have hnotin : x.1 ∉ (pre ++ post).map (·.1) := fun hm => by
        simp only [List.map_append, List.map_cons, List.mem_append] at hm hs
        obtain ⟨s1, s2, s3⟩ := List.pairwise_append.1 hs
        rcases hm with hm | hm
        · have := s3 x.1 hm x.1 (by simp); omega
        · have := (List.pairwise_cons.1 s2).1 x.1 hm; omega
      have hsub : List.Sublist (pre ++ post) (pre ++ x :: post) := List.Sublist.append (List.Sublist.refl _) (List.sublist_cons_self _ _)
      refine ih (pre ++ post) _ st1 a' w' loc' γ' (by simpa using hsz) (by simp only [List.length_append, List.length_cons] at hf ⊢; omega) (fun j hj => ?_) (hs.sublist (hsub.map _)) (fun p hpm => ho p (hsub.subset hpm)) (hp.sublist hsub) g2 hsim' (fun j oj hj hoj e he hb => ?_)
      · rw [getD_set (by omega)]
        by_cases e : j = x.1
        · subst e
          rw [if_pos rfl]
          exact ⟨fun h => (by cases h), fun h => absurd h hnotin⟩
        · rw [if_neg e, hl j hj]
          simp only [List.map_append, List.map_cons, List.mem_append, List.mem_cons]
          constructor
          · rintro (h | h | h)
            · exact .inl h
            · exact absurd h e
            · exact .inr h
          · rintro (h | h)
            · exact .inl h
            · exact .inr (.inr h)
      · have key : listed.getD e.on false = true := by
          rw [getD_set (by omega)] at hj
          by_cases ej : j = x.1
          · subst ej
            rw [h1] at hoj
            obtain rfl := Option.some.inj hoj
            exact h3 e he hb
          · rw [if_neg ej] at hj
            exact hcl j oj hj hoj e he hb
        rw [getD_set (by omega)]
        split
        · rfl
        · exact key
theorem draw_ok (hm : E.P.follows .mixedOrders = true) (hC : CallsOk E cf) : DrawOk E cf := by
  intro N ops hN hd ρ K r w0 w R L st a loc γ id Q hs h hQ
  obtain ⟨T, st', h1, h2, h3, h4, _, h6⟩ := evRD_inv ops.toList 0 st [] h
  refine wp_region_any hm ?_
  have hs' : Sim w0 R L N st a { w with drawn := w.drawn + 1 } loc γ := by
    refine ⟨hs.tm, fun id o ho => (hs.ob id o ho).keep rfl (fun b hb => ⟨hb, rfl⟩), hs.col, hs.fr.drew, hs.ro, hs.n, hs.df, hs.lc, hs.gl⟩
  have hlen : T.length = ops.size := by
    have := congrArg List.length h2
    simpa using this
  have hat : ∀ p, p ∈ T → ops[p.1]? = some p.2.1 := fun p hp => by
    obtain ⟨k, hk⟩ := List.getElem?_of_mem hp
    have e1 : (T.map (·.1))[k]? = some p.1 := by rw [List.getElem?_map, hk]; rfl
    have e2 : (T.map (·.2.1))[k]? = some p.2.1 := by rw [List.getElem?_map, hk]; rfl
    rw [h1, List.getElem?_range'] at e1
    · rw [h2, Array.getElem?_toList] at e2
      have : p.1 = k := by
        have := Option.some.inj e1
        omega
      rw [this]
      exact e2
    · have := (List.getElem?_eq_some_iff.1 hk).1
      simp
      omega
  refine any_ok hC hN hd (fun a' w' loc' γ' hs'' => hQ st' a' w' loc' γ' hs'' h6) ops.size T _ st a _ loc γ (by simp) (by omega) (fun i hi => ?_) ?_ hat h4 h3 hs' (fun i o hi => ?_)
  · rw [h1]
    simp [Array.getD_eq_getD_getElem?, hi]
  · rw [h1]
    exact List.pairwise_lt_range'
  · rw [Array.getD_eq_getD_getElem?, Array.getElem?_replicate] at hi
    split at hi <;> simp at hi
end
end Go.Eng
namespace Go.Eng
set_option linter.unusedSectionVars false
variable [Glb]
open Go.RowKit
set_option linter.unusedSimpArgs false
set_option linter.unusedVariables false

section
variable {E : Env} {ext : Cf E}
theorem evF_ok (hB : BldOk E) (hn : Named E.P) (hm : E.P.follows .mixedOrders = true) (hext : FnOk E ext) : ∀ k, FnOk E (evF E ext k)
  | 0 => hext
  | k + 1 => by
    intro f vs os x h
    have h : (bif E.over f then ext f vs os else match E.P.funcs[f]? with
      | some fn => match fn.body with
        | some _ => evFn E (evF E ext k) f k fn vs os
        | none => ext f vs os
      | none => none) = some x := h
    have hF := evF_ok hB hn hm hext k
    cases ho : E.over f with
    | true => rw [ho] at h; exact hext f vs os x h
    | false => ?_
    rw [ho] at h
    simp only [cond_false] at h
    split at h
    · rename_i fn hf
      split at h
      · exact evFn_ok hn (calls_ok hF hB) (draw_ok hm (calls_ok hF hB)) hf h
      · exact hext f vs os x h
    · cases h
/-- no function without code is answered for -/
noncomputable def noExt (E : Env) : Cf E := fun _ _ _ => none
theorem noExt_ok : FnOk E (noExt E) := fun f vs os x h => by cases h
/-- a call, seen from outside: nothing is lent -/
theorem evF_calls (hB : BldOk E) (hn : Named E.P) (hm : E.P.follows .mixedOrders = true) (hext : FnOk E ext) {k f : Nat} {vs : List V} {x : (E.sig f).T} (h : evF E ext k f vs [] = some x)
    {w : World} {R : Nat → Prop} {loc : Nat → Loc} {args : Array Value} (T : Nat) (hT : (E.sig f).fin.length ≤ T) (hg : Gl w R) (hR : ∀ b, R b → b < w.heap.size) (hv : RepL w R loc vs args.toList) :
    Ans E.P f args w (Left E f x w (fun _ => False) loc T w R) :=
  evF_ok hB hn hm hext k f vs [] x h w R (fun _ => False) loc (fun _ => none) args T w R hT hg (fun b hb => ⟨hg.2 b hb, rfl⟩) (fun b hb => ⟨hR b hb, fun h => h⟩) (fun b j h => by cases h) hv (fun j o h => by simp at h)
end
end Go.Eng
namespace Go.Eng
set_option linter.unusedSectionVars false
variable [Glb]
open Go.RowKit
set_option linter.unusedSimpArgs false
set_option linter.unusedVariables false

mutual
noncomputable def CT.good : (c : CT) → c.D → Prop
  | .int k, n => (Lit.int k n).wf = true
  | .bool, _ => True
  | .str, s => ByteArray.size s ≤ maxLen
  | .row e, xs => List.length (α := e.D) xs ≤ maxLen ∧ ∀ x, List.Mem (α := e.D) x xs → CTs.good e x
noncomputable def CTs.good : (e : CTs) → e.D → Prop
  | .one c, x => CT.good c x
  | .cons c cs, x => CT.good c x.1 ∧ CTs.good cs x.2
end
/-- cells that are of their kinds -/
noncomputable def HasL (w : World) (R : Nat → Prop) : List CT → List Value → Prop
  | [], [] => True
  | t :: l, c :: cs => (∃ x, CT.Cell w R t c x ∧ t.good x) ∧ HasL w R l cs
  | _, _ => False
section
variable {w : World} {R : Nat → Prop} {P : Program}
theorem HasL.append : ∀ {l l' : List CT} {cs cs' : List Value}, HasL w R l cs → HasL w R l' cs' → HasL w R (l ++ l') (cs ++ cs')
  | [], _, [], _, _, h' => h'
  | _ :: l, _, _ :: cs, _, h, h' => ⟨h.1, HasL.append (l := l) (cs := cs) h.2 h'⟩
  | [], _, _ :: _, _, h, _ => h.elim
  | _ :: _, _, [], _, h, _ => h.elim
theorem HasL.length : ∀ {l : List CT} {cs : List Value}, HasL w R l cs → cs.length = l.length
  | [], [], _ => rfl
  | _ :: l, _ :: cs, h => by simp [HasL.length (l := l) (cs := cs) h.2]
  | [], _ :: _, h => h.elim
  | _ :: _, [], h => h.elim
theorem mkCTs_has : ∀ {l : List CT} {e : CTs} {cs : List Value}, mkCTs l = some e → HasL w R l cs → ∃ x : e.D, CTs.Cells w R e cs x ∧ e.good x
  | [], _, _, h, _ => by simp [mkCTs] at h
  | [c], e, cs, h, hl => by
    obtain rfl := Option.some.inj h
    match cs, hl with
    | v :: cs, hl =>
      obtain ⟨x, h1, h2⟩ := hl.1
      exact ⟨x, ⟨v, rfl, h1⟩, h2⟩
  | c :: c' :: l, e, cs, h, hl => by
    have h : (mkCTs (c' :: l)).map (CTs.cons c) = some e := h
    cases h1 : mkCTs (c' :: l) with
    | none => rw [h1] at h; cases h
    | some e' =>
      have h1' := h1
      rw [h1] at h
      obtain rfl := Option.some.inj h
      match cs, hl with
      | v :: cs, hl =>
        obtain ⟨x, h2, h3⟩ := hl.1
        obtain ⟨y, h4, h5⟩ := mkCTs_has h1' hl.2
        exact ⟨(x, y), ⟨v, rfl, h2, h4⟩, h3, h5⟩
/-- the cells of a type, where its fields lie one behind the other -/
noncomputable def lctF (P : Program) (g : TypeId → Option (List CT)) (T : Nat) : List Field → Nat → Option (List CT)
  | [], o => bif Nat.beq o T then some [] else none
  | f :: fs, o => bif Nat.beq f.offset o then (match g f.type, lctF P g T fs (o + P.cellsOf f.type) with
    | some a, some b => some (a ++ b)
    | _, _ => none) else none
noncomputable def lct (P : Program) : Nat → TypeId → Option (List CT)
  | 0, _ => none
  | d + 1, t => match P.underlying t with
    | some (.int k) => some [.int k]
    | some .bool => some [.bool]
    | some .string => some [.str]
    | some (.slice e) => match (lct P d e).bind mkCTs with
      | some c => bif Nat.beq c.size (P.cellsOf e) then some [.row c] else none
      | none => none
    | some (.struct fs) => lctF P (lct P d) (P.cellsOf t) fs.toList 0
    | _ => none
noncomputable def inHeap (w : World) (b : Nat) : Prop := b < w.heap.size
theorem cell_some {a : Addr} {v : Value} (h : w.cell? a = some v) : a.spot = none ∧ inHeap w a.block ∧ ∃ cs ty fz, w.heap[a.block]? = some (.cells cs ty fz) ∧ cs.toList[a.off]? = some v := by
  unfold World.cell? at h
  split at h
  · rename_i cs ty fz hh
    split at h
    · cases h
    · rename_i hs
      refine ⟨by cases hq : a.spot with
        | none => rfl
        | some _ => rw [hq] at hs; simp at hs, (Array.getElem?_eq_some_iff.1 hh).1, cs, ty, fz, hh, by rw [Array.getElem?_toList]; exact h⟩
  · cases h
theorem choose_row {α : Type} {n : Nat} {p : Nat → α → Prop} (h : ∀ i, i < n → ∃ a, p i a) : ∃ l : List α, l.length = n ∧ ∀ i a, l[i]? = some a → p i a := by
  induction n with
  | zero => exact ⟨[], rfl, fun i a hi => by simp at hi⟩
  | succ n ih =>
    obtain ⟨l, hl, hp⟩ := ih (fun i hi => h i (by omega))
    obtain ⟨a, ha⟩ := h n (by omega)
    refine ⟨l ++ [a], by simp [hl], fun i b hb => ?_⟩
    rcases Nat.lt_or_ge i l.length with hi | hi
    · rw [List.getElem?_append_left hi] at hb
      exact hp i b hb
    · rw [List.getElem?_append_right hi] at hb
      have h0 : i - l.length = 0 := by
        have := (List.getElem?_eq_some_iff.1 hb).1
        simp at this
        omega
      rw [h0] at hb
      have hi' : i = n := by omega
      subst hi'
      simp at hb
      subst hb
      exact ha
variable {H : Type} {enc : TypeId × Value → H} {base : Nat} {spare : Nat → Bool} {held : Bool}
theorem fields_has {g : TypeId → Option (List CT)} {n T : Nat} {cs : List Value} (hT : cs.length = T)
    (hg : ∀ t l cs x, g t = some l → DataW.trod enc P w base spare held n t cs = some x → HasL w (inHeap w) l cs) : ∀ (fs : List Field) (o : Nat) (l : List CT), lctF P g T fs o = some l →
    (∀ f, f ∈ fs → ∃ x, DataW.trod enc P w base spare held n f.type ((cs.drop f.offset).take (P.cellsOf f.type)) = some x) → HasL w (inHeap w) l (cs.drop o)
  | [], o, l, h, _ => by
    simp only [lctF] at h
    cases hb : Nat.beq o T with
    | false => rw [hb] at h; cases h
    | true =>
      rw [hb] at h
      obtain rfl := Option.some.inj h
      have := Nat.eq_of_beq_eq_true hb
      rw [List.drop_eq_nil_of_le (by omega)]
      trivial
  | f :: fs, o, l, h, hf => by
    simp only [lctF] at h
    cases hb : Nat.beq f.offset o with
    | false => rw [hb] at h; cases h
    | true =>
      rw [hb] at h
      have ho := Nat.eq_of_beq_eq_true hb
      simp only [cond_true] at h
      split at h
      · rename_i a b h1 h2
        obtain rfl := Option.some.inj h
        obtain ⟨x, hx⟩ := hf f (by simp)
        have k1 := hg _ _ _ _ h1 hx
        have k2 := fields_has hT hg fs _ b h2 (fun f' h' => hf f' (by simp [h']))
        rw [ho] at k1
        have := k1.append k2
        rw [← List.drop_drop, List.take_append_drop] at this
        exact this
      · cases h
theorem trod_has (hsp : ∀ b, spare b = true) : ∀ (d : Nat) (t : TypeId) (l : List CT) (fuel : Nat) (cs : List Value) (x : DataW H × List MemPlace), lct P d t = some l → DataW.trod enc P w base spare held fuel t cs = some x → HasL w (inHeap w) l cs
  | 0, _, _, _, _, _, h, _ => by simp [lct] at h
  | d + 1, t, l, fuel, cs, x, h, hx => by
    simp only [lct] at h
    split at h
    · rename_i k ht
      obtain rfl := Option.some.inj h
      obtain ⟨n, hcs, _, hw⟩ := DataW.trod_int ht hx
      subst hcs
      exact ⟨⟨n, rfl, hw⟩, trivial⟩
    · rename_i ht
      obtain rfl := Option.some.inj h
      obtain ⟨b, hcs, _⟩ := DataW.trod_bool ht hx
      subst hcs
      exact ⟨⟨b, rfl, trivial⟩, trivial⟩
    · rename_i ht
      obtain rfl := Option.some.inj h
      obtain ⟨s, hcs, _, hm⟩ := DataW.trod_string ht hx
      subst hcs
      exact ⟨⟨s, rfl, hm⟩, trivial⟩
    · rename_i e ht
      cases hl : lct P d e with
      | none => rw [hl] at h; cases h
      | some le =>
        rw [hl] at h
        simp only [Option.bind_some] at h
        cases hm : mkCTs le with
        | none => rw [hm] at h; cases h
        | some c =>
          rw [hm] at h
          simp only at h
          cases hb : Nat.beq c.size (P.cellsOf e) with
          | false => rw [hb] at h; cases h
          | true =>
            rw [hb] at h
            obtain rfl := Option.some.inj h
            have hsz := Nat.eq_of_beq_eq_true hb
            rcases Go.Deep.open_slice ht hx with ⟨rfl, _⟩ | ⟨a, len, cap, m, n, D, Pl, rfl, _, hle, hmax, hmm, _, hi⟩
            · refine ⟨⟨([] : List c.D), ⟨none, 0, rfl, Nat.le_refl _, fun _ => rfl, fun h => absurd h (by omega)⟩, by simp, fun x hx => by cases hx⟩, trivial⟩
            · rw [hsp] at hmm
              simp only [if_true] at hmm
              subst hmm
              have hel : ∀ i, i < m → ∃ cs', (cs'.length = P.cellsOf e ∧ ∀ j, j < P.cellsOf e → w.cell? (a.add (i * P.cellsOf e + j)) = cs'[j]?) ∧ ∃ x : c.D, CTs.Cells w (inHeap w) c cs' x ∧ c.good x := fun i hlt => by
                obtain ⟨cs', h1, h2⟩ := hi i hlt
                obtain ⟨_, h3, h4⟩ := World.cells?_some h1
                exact ⟨cs', ⟨h3, fun j hj => by rw [← Go.Deep.add_add]; exact h4 j hj⟩, mkCTs_has hm (trod_has hsp d e le n cs' _ hl h2)⟩
              obtain ⟨xs, hxl, hxp⟩ := choose_row (n := len) (p := fun i (x : c.D) => ∃ cs', (cs'.length = P.cellsOf e ∧ ∀ j, j < P.cellsOf e → w.cell? (a.add (i * P.cellsOf e + j)) = cs'[j]?) ∧ CTs.Cells w (inHeap w) c cs' x ∧ c.good x) (fun i hlt => by
                obtain ⟨cs', h1, x, h2, h3⟩ := hel i (by omega)
                exact ⟨x, cs', h1, h2, h3⟩)
              have hpos := CTs.size_pos c
              refine ⟨⟨xs, ⟨some a, m, by rw [hxl], by rw [hxl]; exact hle, fun h => (by cases h), fun hcap => ⟨by rw [hxl]; exact hle, fun h => (by cases h), fun ad had => ?_⟩⟩, by rw [hxl]; simp only [maxLen] at hmax ⊢; omega, fun x hx => ?_⟩, trivial⟩
              · obtain rfl := Option.some.inj had
                -- a cell of the row
                have hat : ∀ k, k < m * P.cellsOf e → ∃ v, w.cell? (a.add k) = some v := fun k hk => by
                  have hq : k / P.cellsOf e < m := Nat.div_lt_of_lt_mul (by rw [Nat.mul_comm]; exact hk)
                  obtain ⟨cs', ⟨h1, h2⟩, _⟩ := hel (k / P.cellsOf e) hq
                  have hr : k % P.cellsOf e < P.cellsOf e := Nat.mod_lt _ (by omega)
                  have h3 := h2 _ hr
                  rw [Nat.mul_comm, Nat.div_add_mod, List.getElem?_eq_getElem (by omega)] at h3
                  exact ⟨_, h3⟩
                have hpm : 0 < m * P.cellsOf e := Nat.mul_pos hcap (by omega)
                obtain ⟨v0, hv0⟩ := hat 0 hpm
                have e0 : a.add 0 = a := by simp [Addr.add]
                rw [e0] at hv0
                obtain ⟨s1, s2, vals, ty, fz, s3, _⟩ := cell_some hv0
                obtain ⟨bk, ofs, sp⟩ := a
                simp only at s1 s2 s3
                subst s1
                refine ⟨rfl, s2, vals, ty, fz, s3, ?_, fun i x hix => ?_⟩
                · obtain ⟨v1, hv1⟩ := hat (m * P.cellsOf e - 1) (by omega)
                  rw [add_at, cell_at s3] at hv1
                  have := (List.getElem?_eq_some_iff.1 hv1).1
                  have hvl : vals.toList.length = vals.size := Array.length_toList
                  rw [hsz]
                  show ofs + m * P.cellsOf e ≤ vals.size
                  omega
                · obtain ⟨cs', ⟨h1, h2⟩, h3, _⟩ := hxp i x hix
                  refine CTs.Cells.congr c _ _ x (fun j hj => ?_) h3
                  have := h2 j (by omega)
                  rw [add_at, cell_at s3] at this
                  rw [List.getElem?_drop, hsz, ← this]
                  congr 1
                  show ofs + i * P.cellsOf e + j = ofs + (i * P.cellsOf e + j)
                  omega
              · obtain ⟨i, hix⟩ := List.getElem?_of_mem hx
                exact (hxp i x hix).choose_spec.2.2
    · rename_i fs ht
      obtain ⟨xs, n, _, _, hl, hlx, hf⟩ := DataW.trod_struct ht hx
      have := fields_has (n := n) (T := P.cellsOf t) hl (fun t l cs x h1 h2 => trod_has hsp d t l n cs x h1 h2) fs.toList 0 l h (fun f hfm => by
        obtain ⟨i, hi⟩ := List.getElem?_of_mem hfm
        have h1 := hf i f (by rw [← Array.getElem?_toList]; exact hi)
        have hil := (List.getElem?_eq_some_iff.1 hi).1
        rw [Array.length_toList] at hil
        rw [List.getElem?_eq_getElem (by omega)] at h1
        exact ⟨_, h1⟩)
      simpa using this
    · cases h
end
end Go.Eng
namespace Go.Eng
set_option linter.unusedSectionVars false
variable [Glb]
open Go.RowKit
set_option linter.unusedSimpArgs false
set_option linter.unusedVariables false

/-- what cells of these kinds say -/
noncomputable def LD : List CT → Type
  | [] => Unit
  | t :: l => t.D × LD l
noncomputable def LD.toVs : (l : List CT) → LD l → List V
  | [], _ => []
  | t :: l, x => t.toV x.1 :: LD.toVs l x.2
noncomputable def LD.good : (l : List CT) → LD l → Prop
  | [], _ => True
  | t :: l, x => t.good x.1 ∧ LD.good l x.2
section
variable {w : World} {R : Nat → Prop} {P : Program} {loc : Nat → Loc}
theorem HasL.open : ∀ {l : List CT} {cs : List Value}, HasL w R l cs → ∃ x : LD l, RepL w R loc (LD.toVs l x) cs ∧ LD.good l x
  | [], [], _ => ⟨(), trivial, trivial⟩
  | t :: l, c :: cs, h => by
    obtain ⟨x, h1, h2⟩ := h.1
    obtain ⟨y, h3, h4⟩ := HasL.open (l := l) (cs := cs) h.2
    exact ⟨(x, y), ⟨CT.rep_toV t c x h1, h3⟩, h2, h4⟩
  | [], _ :: _, h => h.elim
  | _ :: _, [], h => h.elim
/-- a parameter: is it an aggregate, its cells -/
noncomputable def argV (ag : Bool) (l : List CT) (x : LD l) : V := match ag with
  | true => .agg (LD.toVs l x)
  | false => (LD.toVs l x).headD .un
variable {H : Type} {enc : TypeId × Value → H} {base : Nat} {spare : Nat → Bool} {held : Bool} {fuel : Nat} {y : DataW H × List MemPlace}
theorem arg_agg (hsp : ∀ b, spare b = true) (d : Nat) {t : TypeId} {l : List CT} {cs : Array Value} (hl : lct P d t = some l) (h : DataW.trod enc P w base spare held fuel t (Value.agg cs).cells.toList = some y) :
    ∃ x : LD l, Rep w (inHeap w) loc (argV true l x) (.agg cs) ∧ LD.good l x := by
  obtain ⟨x, h1, h2⟩ := (trod_has hsp d t l fuel _ y hl h).open (loc := loc)
  exact ⟨x, ⟨cs, rfl, h1⟩, h2⟩
theorem arg_one (hsp : ∀ b, spare b = true) (d : Nat) {t : TypeId} {c : CT} {v : Value} (hl : lct P d t = some [c]) (hv : v.cells.toList = [v]) (h : DataW.trod enc P w base spare held fuel t v.cells.toList = some y) :
    ∃ x : LD [c], Rep w (inHeap w) loc (argV false [c] x) v ∧ LD.good [c] x := by
  have := trod_has hsp d t [c] fuel _ y hl h
  rw [hv] at this
  obtain ⟨x, h1, h2⟩ := this.open (loc := loc)
  exact ⟨x, h1.1, h2⟩
/-- the law's call -/
theorem law_calls {E : Env} {ext : Cf E} (hB : BldOk E) (hn : Named E.P) (hm : E.P.follows .mixedOrders = true) (hext : FnOk E ext) {k f : Nat} {fn : Func} {c : Code} {vs : List V} {x : (E.sig f).T} (hf : E.P.funcs[f]? = some fn) (hb : fn.body = some c)
    (h : evF E ext k f vs [] = some x) (hfin : (E.sig f).fin = []) (hx : ∀ loc2 (v : Value), Rep w (inHeap w) loc2 ((E.sig f).inj x 0).1 v → v = .bool true) {args : Array Value} (hg : Gl w (inHeap w)) (hv : RepL w (inHeap w) loc vs args.toList) :
    Calls E.P f args w fun e w' => e = .returned (.bool true) ∧ Below w.heap.size w w' := by
  have hans := evF_calls hB hn hm hext h 0 (by rw [hfin]; exact Nat.le_refl _) (R := inHeap w) hg (fun b hb => hb) hv
  have key : ∀ v w', Left E f x w (fun _ => False) loc 0 w (inHeap w) v w' → v = .bool true ∧ Below w.heap.size w w' := fun v w' hl => by
    obtain ⟨hfr, loc2, γ2, _, _, _, g4, _⟩ := hl
    exact ⟨hx loc2 v g4, hfr.os, hfr.tape, hfr.output, hfr.size, fun k hk => hfr.block k hk (fun h => h)⟩
  rcases hans with ⟨_, r2⟩ | ⟨v, w', r1, _⟩
  · refine r2.mono fun e w' he => ?_
    obtain ⟨v, rfl, he⟩ := he
    obtain ⟨rfl, hbel⟩ := key v w' he
    exact ⟨rfl, hbel⟩
  · rw [run_callFunc hn hf hb] at r1
    cases r1
end
end Go.Eng
