/- Calls. -/
import Derived.Test.YtkghicadebeceaaDoorE19
namespace Go.Eng
set_option linter.unusedSectionVars false
variable [Glb]
open Go.RowKit
set_option linter.unusedSimpArgs false
set_option linter.unusedVariables false

/-! ### many objects killed -/
noncomputable def killAllO : List Nat → O → O
  | [], o => o
  | id :: ids, o => (killAllO ids o).kill id
noncomputable def killAllL : List Nat → List V → List V
  | [], vs => vs
  | id :: ids, vs => V.kill.go id (killAllL ids vs)
theorem killAllO_row (nl : NI) (e : CTs) (xs : List e.D) : ∀ ns, killAllO ns (.row nl e xs) = .row nl e xs
  | [] => rfl
  | id :: ids => by simp only [killAllO]; rw [killAllO_row nl e xs ids]; rfl
theorem killAllO_box (cs : List V) : ∀ ns, killAllO ns (.box cs) = .box (killAllL ns cs)
  | [] => rfl
  | id :: ids => by simp only [killAllO]; rw [killAllO_box cs ids]; rfl
theorem killAllO_bld (s : ByteArray) : ∀ ns, killAllO ns (.bld s) = .bld s
  | [] => rfl
  | id :: ids => by simp only [killAllO]; rw [killAllO_bld s ids]; rfl
mutual
theorem V.kill_id {id : Nat} : ∀ (v : V), id ∉ v.ids → v.kill id = v
  | .un, _ => rfl
  | .int _ _, _ => rfl
  | .bool _, _ => rfl
  | .str _, _ => rfl
  | .nil, _ => rfl
  | .pnil, _ => rfl
  | .ro _ _, _ => rfl
  | .rn _ _, _ => rfl
  | .rc _ _ _, _ => rfl
  | .roel _ _ _, _ => rfl
  | .cst _, _ => rfl
  | .own j, h => by
    have : j ≠ id := fun e => h (by simp [V.ids, e])
    simp only [V.kill, beq_ne this, cond_false]
  | .sub j a b, h => by
    have : j ≠ id := fun e => h (by simp [V.ids, e])
    simp only [V.kill, beq_ne this, cond_false]
  | .el j a b, h => by
    have : j ≠ id := fun e => h (by simp [V.ids, e])
    simp only [V.kill, beq_ne this, cond_false]
  | .box j b, h => by
    have : j ≠ id := fun e => h (by simp [V.ids, e])
    simp only [V.kill, beq_ne this, cond_false]
  | .agg vs, h => by simp only [V.kill]; rw [V.killL_id vs (by simpa [V.ids] using h)]
  | .tup vs, h => by simp only [V.kill]; rw [V.killL_id vs (by simpa [V.ids] using h)]
  | .fn f a b, h => by
    simp only [V.ids, List.mem_append, not_or] at h
    simp only [V.kill]
    rw [V.killL_id a h.1, V.killL_id b h.2]
theorem V.killL_id {id : Nat} : ∀ (vs : List V), id ∉ V.ids.go vs → V.kill.go id vs = vs
  | [], _ => rfl
  | v :: vs, h => by
    simp only [V.ids.go, List.mem_append, not_or] at h
    simp only [V.kill.go]
    rw [V.kill_id v h.1, V.killL_id vs h.2]
end
theorem killAllL_id : ∀ (ns : List Nat) (v : List V), (∀ id, id ∈ ns → id ∉ V.ids.go v) → killAllL ns v = v
  | [], _, _ => rfl
  | id :: ids, v, h => by
    simp only [killAllL]
    rw [killAllL_id ids v (fun j hj => h j (by simp [hj])), V.killL_id v (h id (by simp))]
theorem killAllO_still (ns : List Nat) {o : O} (h : obIdsO o = []) : killAllO ns o = o := by
  cases o with
  | row nl e xs => exact killAllO_row nl e xs ns
  | bld s => exact killAllO_bld s ns
  | box cs =>
    have h : V.ids.go cs = [] := h
    rw [killAllO_box, killAllL_id ns cs (fun id _ hid => by rw [h] at hid; cases hid)]
theorem O.kill_still (id : Nat) {o : O} (h : obIdsO o = []) : o.kill id = o := killAllO_still [id] h
theorem killAllO_append (o : O) (m : List Nat) : ∀ n, killAllO (n ++ m) o = killAllO n (killAllO m o)
  | [] => rfl
  | id :: ids => by simp only [List.cons_append, killAllO]; rw [killAllO_append o m ids]
theorem tmAfter_eq (ns : List Nat) (tm : Nat → V) : tmAfter ns tm = fun i => killAll ns (tm i) := by
  cases ns with
  | nil => rfl
  | cons => rfl
section
variable {E : Env} {cf : Cf E} {P : Program} {w0 w1 w w' : World} {R R1 L : Nat → Prop} {N : Fx} {st st' : St} {a : Act} {loc loc1 loc' : Nat → Loc} {γ γ1 γ' : Nat → Option Nat}
theorem Rep.killAll : ∀ (ns : List Nat) (loc' : Nat → Loc), (∀ j, j ∉ ns → loc' j = loc j) → ∀ (v : V) (c : Value), Rep w0 R loc v c → Rep w0 R loc' (killAll ns v) c
  | [], loc', hl, v, c, h => by
    have : loc' = loc := funext fun j => hl j (by simp)
    subst this
    exact h
  | id :: ids, loc', hl, v, c, h => by
    have h1 := Rep.killAll ids (fun j => if j ∈ ids then loc' j else loc j) (fun j hj => by simp [hj]) v c h
    refine Rep.kill (id := id) (fun j hj => ?_) _ _ h1
    split
    · rfl
    · rename_i hji; exact hl j (by simp [hj, hji])
theorem RepL.killAll : ∀ (ns : List Nat) (loc' : Nat → Loc), (∀ j, j ∉ ns → loc' j = loc j) → ∀ (vs : List V) (cs : List Value), RepL w0 R loc vs cs → RepL w0 R loc' (killAllL ns vs) cs
  | [], loc', hl, v, c, h => by
    have : loc' = loc := funext fun j => hl j (by simp)
    subst this
    exact h
  | id :: ids, loc', hl, v, c, h => by
    have h1 := RepL.killAll ids (fun j => if j ∈ ids then loc' j else loc j) (fun j hj => by simp [hj]) v c h
    refine RepL.kill (id := id) (fun j hj => ?_) _ _ h1
    split
    · rfl
    · rename_i hji; exact hl j (by simp [hj, hji])
theorem ObRep.killAll {ns : List Nat} {j : Nat} {o : O} (hj : j ∉ ns) (hl : ∀ i, i ∉ ns → loc' i = loc i) (hb : ∀ b, γ b = some j → γ' b = some j ∧ w'.heap[b]? = w.heap[b]?) (h : ObRep w0 R w loc γ j o) :
    ObRep w0 R w' loc' γ' j (killAllO ns o) := by
  cases o with
  | row nl e xs =>
    rw [killAllO_row]
    obtain ⟨h1, h2, h3, h4, h5, h6⟩ := h
    simp only [ObRep, hl j hj]
    refine ⟨h1, h2, h3, h4.imp hb (fun _ _ h => h), fun ad cs ty fz ha hc => ?_, h6⟩
    obtain ⟨_, hR, _⟩ := h4.2.2 ad ha
    rw [(hb _ hR).2] at hc
    exact h5 ad cs ty fz ha hc
  | box cs =>
    rw [killAllO_box]
    obtain ⟨b, vals, ty, fz, h1, h2, h3, h4, h5⟩ := h
    simp only [ObRep, hl j hj]
    exact ⟨b, vals, ty, fz, h1, (hb b h2).1, by rw [(hb b h2).2]; exact h3, RepL.killAll ns loc' hl _ _ h4, h5⟩
  | bld s =>
    rw [killAllO_bld]
    obtain ⟨b, p, v, h1, h2, h3, h4⟩ := h
    simp only [ObRep, hl j hj]
    exact ⟨b, p, v, h1, (hb b h2).1, fun g hg => (hb g (h3 g hg)).1, h4.keep (hb b h2).2 fun g hg => (hb g (h3 g hg)).2⟩

/-! ### what is done about a call -/
theorem collect_exec {α : Type} : ∀ (d : Nat) (len : Bool) (vs : List V) (ls : List Nat) (k : List Nat → Eff α) (ob : Ob) (f : Fp) (r : α × Ob × Fp), (collect d len vs ls k).exec ob f = some r → ls.Nodup →
    ∃ ls' f1, ls'.Nodup ∧ (k ls').exec ob f1 = some r ∧ f1.ns = f.ns
  | 0, _, _, _, _, _, _, _, h, _ => by simp [collect, Eff.exec] at h
  | d + 1, len, [], ls, k, ob, f, r, h, hn => ⟨ls, f, hn, by simpa [collect] using h, rfl⟩
  | d + 1, len, v :: vs, ls, k, ob, f, r, h, hn => by
    have two : ∀ (xs : List V) (b : Bool), (collect d b xs ls fun ls' => collect d len vs ls' k).exec ob f = some r → ∃ ls' f1, ls'.Nodup ∧ (k ls').exec ob f1 = some r ∧ f1.ns = f.ns := fun xs b h => by
      obtain ⟨ls1, f1, h1, h2, h3⟩ := collect_exec d _ _ _ _ _ _ _ h hn
      obtain ⟨ls2, f2, h4, h5, h6⟩ := collect_exec d _ _ _ _ _ _ _ h2 h1
      exact ⟨ls2, f2, h4, h5, h6.trans h3⟩
    cases v with
    | own id =>
      simp only [collect] at h
      refine collect_exec d _ _ _ _ _ _ _ h ?_
      cases hc : (len && !ls.contains id) with
      | false => exact hn
      | true =>
        simp only [cond_true]
        simp only [Bool.and_eq_true, Bool.not_eq_true', List.contains_eq_mem, decide_eq_false_iff_not] at hc
        exact List.nodup_append.2 ⟨hn, by simp, fun x hx y hy => by simp only [List.mem_singleton] at hy; subst hy; exact fun e => hc.2 (e ▸ hx)⟩
    | sub id lo hi =>
      simp only [collect] at h
      cases len with
      | true => simp [Eff.exec] at h
      | false => exact collect_exec d _ _ _ _ _ _ _ h hn
    | el => simp [collect, Eff.exec] at h
    | box id o =>
      simp only [collect] at h
      cases hc : ls.contains id with
      | true => rw [hc] at h; exact collect_exec d _ _ _ _ _ _ _ h hn
      | false =>
        rw [hc] at h
        simp only [cond_false, Eff.exec] at h
        split at h
        · split at h
          · have hn' : (ls ++ [id]).Nodup := by
              simp only [List.contains_eq_mem, decide_eq_false_iff_not] at hc
              exact List.nodup_append.2 ⟨hn, by simp, fun x hx y hy => by simp only [List.mem_singleton] at hy; subst hy; exact fun e => hc (e ▸ hx)⟩
            obtain ⟨ls1, f1, h1, h2, h3⟩ := collect_exec d _ _ _ _ _ _ _ h hn'
            obtain ⟨ls2, f2, h4, h5, h6⟩ := collect_exec d _ _ _ _ _ _ _ h2 h1
            exact ⟨ls2, f2, h4, h5, h6.trans h3⟩
          · have hn' : (ls ++ [id]).Nodup := by
              simp only [List.contains_eq_mem, decide_eq_false_iff_not] at hc
              exact List.nodup_append.2 ⟨hn, by simp, fun x hx y hy => by simp only [List.mem_singleton] at hy; subst hy; exact fun e => hc (e ▸ hx)⟩
            obtain ⟨ls1, f1, h1, h2, h3⟩ := collect_exec d _ _ _ _ _ _ _ h hn'
            exact ⟨ls1, f1, h1, h2, h3⟩
          · simp [Eff.exec] at h
        · cases h
    | agg xs => simp only [collect] at h; exact two _ _ h
    | fn g x y => simp only [collect] at h; exact two _ _ h
    | _ => simp only [collect] at h; exact collect_exec d _ _ _ _ _ _ _ h hn
theorem collectA_exec {α : Type} : ∀ (mvs : List (Bool × V)) (ls : List Nat) (k : List Nat → Eff α) (ob : Ob) (f : Fp) (r : α × Ob × Fp), (collectA mvs ls k).exec ob f = some r → ls.Nodup →
    ∃ ls' f1, ls'.Nodup ∧ (k ls').exec ob f1 = some r ∧ f1.ns = f.ns
  | [], ls, k, ob, f, r, h, hn => ⟨ls, f, hn, h, rfl⟩
  | (b, v) :: mvs, ls, k, ob, f, r, h, hn => by
    simp only [collectA] at h
    obtain ⟨ls1, f1, h1, h2, h3⟩ := collect_exec _ _ _ _ _ _ _ _ h hn
    obtain ⟨ls2, f2, h4, h5, h6⟩ := collectA_exec mvs _ _ _ _ _ h2 h1
    exact ⟨ls2, f2, h4, h5, h6.trans h3⟩

/-- the blocks that the callee reads only -/
noncomputable def roC (R : Nat → Prop) (γ : Nat → Option Nat) (st : St) (ls : List Nat) (b : Nat) : Prop := R b ∨ ∃ id o, γ b = some id ∧ st.ob id = some o ∧ id ∉ ls
/-- the places of what is lent, under the callee's numbers -/
noncomputable def locC (loc : Nat → Loc) (ls : List Nat) (j : Nat) : Loc := match ls[j]? with
  | some id => loc id
  | none => default
theorem locC_at {ls : List Nat} {id j : Nat} (h : idxFrom id ls 0 = some j) : locC loc ls j = loc id := by
  obtain ⟨_, h2⟩ := idxFrom_get id ls 0 j h
  rw [Nat.sub_zero] at h2
  simp [locC, h2]
theorem idxFrom_none (id : Nat) : ∀ (l : List Nat) (n : Nat), idxFrom id l n = none → id ∉ l
  | [], _, _ => by simp
  | x :: xs, n, h => by
    simp only [idxFrom] at h
    by_cases e : x = id
    · subst e; rw [beq_self] at h; cases h
    · rw [beq_ne e] at h
      simp only [cond_false] at h
      have := idxFrom_none id xs (n + 1) h
      simp only [List.mem_cons, not_or]
      exact ⟨fun h => e h.symm, this⟩
theorem row_ro (hs : Sim w0 R L N st a w loc γ) {ls : List Nat} {id : Nat} {nl : NI} {e : CTs} {xs : List e.D} (ho : st.ob id = some (.row nl e xs)) (hid : id ∉ ls) :
    RowAt w (roC R γ st ls) e.size (CTs.Cells w (roC R γ st ls) e) (loc id).a (loc id).cap xs ∧ (loc id).sz = e.size ∧ (loc id).len = xs.length := by
  obtain ⟨k1, k2, k3, k4, _⟩ := hs.ob id _ ho
  exact ⟨k4.imp (fun b hb => ⟨.inr ⟨id, _, hb, ho, hid⟩, rfl⟩) (fun _ _ h => CTs.Cells.flat _ _ _ k1 h), k2, k3⟩
theorem ro_imp (hs : Sim w0 R L N st a w loc γ) (ls : List Nat) : ∀ b, R b → roC R γ st ls b ∧ w.heap[b]? = w0.heap[b]? := fun b hb => ⟨.inl hb, hs.same hb⟩
theorem export_exec {α : Type} (hs : Sim w0 R L N st a w loc γ) (ls : List Nat) : ∀ (d : Nat) (len : Bool) (vs : List V) (k : List V → Eff α) (f : Fp) (r : α × Ob × Fp), (export_ ls d len vs k).exec st.ob f = some r →
    ∃ ws f1, (k ws).exec st.ob f1 = some r ∧ f1.ns = f.ns ∧ ∀ cs, RepL w0 R loc vs cs → RepL w (roC R γ st ls) (locC loc ls) ws cs
  | 0, _, _, _, _, _, h => by simp [export_, Eff.exec] at h
  | d + 1, len, [], k, f, r, h => ⟨[], f, by simpa [export_] using h, rfl, fun cs hc => by
    cases cs with
    | nil => trivial
    | cons => exact hc.elim⟩
  | d + 1, len, v :: vs, k, f, r, h => by
    -- one value, then the rest
    have one : ∀ (u : V) (f' : Fp), (export_ ls d len vs fun ws => k (u :: ws)).exec st.ob f' = some r → f'.ns = f.ns → (∀ c, Rep w0 R loc v c → Rep w (roC R γ st ls) (locC loc ls) u c) →
        ∃ ws f1, (k ws).exec st.ob f1 = some r ∧ f1.ns = f.ns ∧ ∀ cs, RepL w0 R loc (v :: vs) cs → RepL w (roC R γ st ls) (locC loc ls) ws cs := fun u f' h hf hu => by
      obtain ⟨ws, f1, h1, h2, h3⟩ := export_exec hs ls d _ _ _ _ _ h
      refine ⟨u :: ws, f1, h1, h2.trans hf, fun cs hc => ?_⟩
      cases cs with
      | nil => exact hc.elim
      | cons c cs => exact ⟨hu c hc.1, h3 cs hc.2⟩
    cases v with
    | own id =>
      simp only [export_] at h
      cases hi : idxFrom id ls 0 with
      | some j =>
        rw [hi] at h
        refine one _ _ h rfl fun c hc => ?_
        simp only [Rep, locC_at hi]
        exact hc
      | none =>
        rw [hi] at h
        have hid := idxFrom_none id ls 0 hi
        cases len with
        | true => simp [Eff.exec] at h
        | false =>
          simp only [cond_false, Eff.exec] at h
          split at h
          · rename_i o ho
            split at h
            · rename_i nl e xs
              obtain ⟨k1, k2, k3⟩ := row_ro hs ho hid
              refine one _ _ h rfl fun c hc => ⟨(loc id).a, (loc id).cap, ?_, k1.ro⟩
              rw [← k3]
              exact hc
            · simp [Eff.exec] at h
          · cases h
    | sub id lo hi =>
      simp only [export_] at h
      cases hcn : ls.contains id with
      | true => rw [hcn] at h; simp [Eff.exec] at h
      | false =>
        rw [hcn] at h
        have hid : id ∉ ls := by simpa using hcn
        simp only [cond_false, Eff.exec] at h
        split at h
        · rename_i o ho
          split at h
          · rename_i nl e xs
            obtain ⟨k1, k2, k3⟩ := row_ro hs ho hid
            refine one _ _ h rfl fun c hc => ?_
            obtain ⟨r0, r1, r2, hr⟩ := hc
            rw [k3] at r2
            have hsub := k1.sub r0 r1 r2
            refine ⟨_, _, ?_, hsub.ro⟩
            have hl : (dropI (takeI xs hi) lo).length = (hi - lo).toNat := by simp [dropI, takeI]; omega
            rw [hl, hr, k2]
          · simp [Eff.exec] at h
        · cases h
    | tup => simp [export_, Eff.exec] at h
    | el => simp [export_, Eff.exec] at h
    | box id o =>
      simp only [export_] at h
      cases hi : idxFrom id ls 0 with
      | some j =>
        rw [hi] at h
        refine one _ _ h rfl fun c hc => ?_
        simp only [Rep, locC_at hi]
        exact hc
      | none => rw [hi] at h; simp [Eff.exec] at h
    | agg xs =>
      simp only [export_] at h
      obtain ⟨ys, f1, h1, h2, h3⟩ := export_exec hs ls d _ _ _ _ _ h
      refine one _ _ h1 h2 fun c hc => ?_
      obtain ⟨cs, hc1, hc2⟩ := hc
      exact ⟨cs, hc1, h3 _ hc2⟩
    | fn g x y =>
      simp only [export_] at h
      obtain ⟨x', f1, h1, h2, h3⟩ := export_exec hs ls d _ _ _ _ _ h
      obtain ⟨y', f2, h4, h5, h6⟩ := export_exec hs ls d _ _ _ _ _ h1
      refine one _ _ h4 (h5.trans h2) fun c hc => ?_
      obtain ⟨cx, cy, hc1, hc2, hc3⟩ := hc
      exact ⟨cx, cy, hc1, h3 _ hc2, h6 _ hc3⟩
    | ro e xs =>
      simp only [export_] at h
      exact one _ _ h rfl fun c hc => CT.Cell.imp (ro_imp hs ls) (.row e) c xs hc
    | rn e xs =>
      simp only [export_] at h
      exact one _ _ h rfl fun c hc => ⟨CT.Cell.imp (ro_imp hs ls) (.row e) c xs hc.1, hc.2⟩
    | rc i e xs =>
      simp only [export_] at h
      exact one _ _ h rfl fun c hc => ⟨hc.1, hc.2.1, CT.Cell.imp (ro_imp hs ls) (.row e) c xs hc.2.2⟩
    | roel e x off =>
      simp only [export_] at h
      refine one _ _ h rfl fun c hc => ?_
      obtain ⟨ad, h1, h2, cs, ty, fz, h3, h4⟩ := hc
      exact ⟨ad, h1, .inl h2, cs, ty, fz, by rw [hs.same h2]; exact h3, CTs.Cells.imp (ro_imp hs ls) e _ x h4⟩
    | un => simp only [export_] at h; exact one _ _ h rfl fun c hc => hc
    | int => simp only [export_] at h; exact one _ _ h rfl fun c hc => hc
    | bool => simp only [export_] at h; exact one _ _ h rfl fun c hc => hc
    | str => simp only [export_] at h; exact one _ _ h rfl fun c hc => hc
    | nil => simp only [export_] at h; exact one _ _ h rfl fun c hc => hc
    | pnil => simp only [export_] at h; exact one _ _ h rfl fun c hc => hc
    | cst => simp only [export_] at h; exact one _ _ h rfl fun c hc => hc
theorem exportA_exec {α : Type} (hs : Sim w0 R L N st a w loc γ) (ls : List Nat) : ∀ (mvs : List (Bool × V)) (k : List V → Eff α) (f : Fp) (r : α × Ob × Fp), (exportA ls mvs k).exec st.ob f = some r →
    ∃ ws f1, (k ws).exec st.ob f1 = some r ∧ f1.ns = f.ns ∧ ∀ cs, RepL w0 R loc (mvs.map (·.2)) cs → RepL w (roC R γ st ls) (locC loc ls) ws cs
  | [], k, f, r, h => ⟨[], f, h, rfl, fun cs hc => by
    cases cs with
    | nil => trivial
    | cons => exact hc.elim⟩
  | (b, v) :: mvs, k, f, r, h => by
    simp only [exportA] at h
    obtain ⟨us, f1, h1, h2, h3⟩ := export_exec hs ls _ _ _ _ _ _ h
    obtain ⟨ws, f2, h4, h5, h6⟩ := exportA_exec hs ls mvs _ _ _ h1
    refine ⟨us ++ ws, f2, h4, h5.trans h2, fun cs hc => ?_⟩
    cases cs with
    | nil => exact hc.elim
    | cons c cs => exact RepL.append (cs := [c]) (h3 [c] ⟨hc.1, trivial⟩) (h6 cs hc.2)
theorem modesOf_snd : ∀ (l : List Bool) (vs : List V), (modesOf l vs).map (·.2) = vs
  | _, [] => by simp [modesOf]
  | [], v :: vs => by simp [modesOf, modesOf_snd [] vs]
  | _ :: l, v :: vs => by simp [modesOf, modesOf_snd l vs]
/-- the colours of what is lent, under the callee's numbers -/
noncomputable def colC (γ : Nat → Option Nat) (ls : List Nat) (b : Nat) : Option Nat := match γ b with
  | some id => idxFrom id ls 0
  | none => none
theorem exportO_exec {α : Type} (hs : Sim w0 R L N st a w loc γ) (ls : List Nat) : ∀ (ids : List Nat) (k : List O → Eff α) (f : Fp) (r : α × Ob × Fp), (exportO ls ids k).exec st.ob f = some r →
    ∃ os f1, (k os).exec st.ob f1 = some r ∧ f1.ns = f.ns ∧ os.length = ids.length ∧ (∀ (i id j : Nat) (o : O), ids[i]? = some id → os[i]? = some o → idxFrom id ls 0 = some j → ObRep w (roC R γ st ls) w (locC loc ls) (colC γ ls) j o) ∧ ∀ id, id ∈ ids → ∃ o, st.ob id = some o
  | [], k, f, r, h => ⟨[], f, h, rfl, rfl, fun i id j o hi => by simp at hi, fun id hid => by simp at hid⟩
  | id :: ids, k, f, r, h => by
    simp only [exportO, Eff.exec] at h
    split at h
    · rename_i o ho
      split at h
      · rename_i nl e xs
        obtain ⟨os, f1, h1, h2, h3, h4, hh⟩ := exportO_exec hs ls ids _ _ _ h
        refine ⟨_, f1, h1, h2, by simp [h3], fun i id' j o' hi ho' hj => ?_, fun id' hid => (List.mem_cons.1 hid).elim (fun e => ⟨_, e ▸ ho⟩) (hh id')⟩
        cases i with
        | succ i => exact h4 i id' j o' hi ho' hj
        | zero =>
          obtain rfl := Option.some.inj hi
          obtain rfl := Option.some.inj ho'
          obtain ⟨k1, k2, k3, k4, k5, k6⟩ := hs.ob _ _ ho
          simp only [ObRep, locC_at hj]
          exact ⟨k1, k2, k3, k4.imp (fun b hb => ⟨by simp only [colC, hb]; exact hj, rfl⟩) (fun _ _ h => CTs.Cells.flat _ _ _ k1 h), k5, k6⟩
      · rename_i cs
        obtain ⟨us, f1, h1, h2, h3⟩ := export_exec hs ls _ _ _ _ _ _ h
        obtain ⟨os, f2, h4, h5, h6, h7, hh⟩ := exportO_exec hs ls ids _ _ _ h1
        refine ⟨_, f2, h4, h5.trans h2, by simp [h6], fun i id' j o' hi ho' hj => ?_, fun id' hid => (List.mem_cons.1 hid).elim (fun e => ⟨_, e ▸ ho⟩) (hh id')⟩
        cases i with
        | succ i => exact h7 i id' j o' hi ho' hj
        | zero =>
          obtain rfl := Option.some.inj hi
          obtain rfl := Option.some.inj ho'
          obtain ⟨b, vals, ty, fz, k1, k2, k3, k4, k5⟩ := hs.ob _ _ ho
          simp only [ObRep, locC_at hj]
          exact ⟨b, vals, ty, fz, k1, by simp only [colC, k2]; exact hj, k3, h3 _ k4, k5⟩
      · rename_i s
        obtain ⟨os, f1, h1, h2, h3, h4, hh⟩ := exportO_exec hs ls ids _ _ _ h
        refine ⟨_, f1, h1, h2, by simp [h3], fun i id' j o' hi ho' hj => ?_, fun id' hid => (List.mem_cons.1 hid).elim (fun e => ⟨_, e ▸ ho⟩) (hh id')⟩
        cases i with
        | succ i => exact h4 i id' j o' hi ho' hj
        | zero =>
          obtain rfl := Option.some.inj hi
          obtain rfl := Option.some.inj ho'
          obtain ⟨b, p, v, k1, k2, k3, k4⟩ := hs.ob _ _ ho
          simp only [ObRep, locC_at hj]
          exact ⟨b, p, v, k1, by simp only [colC, k2]; exact hj, fun g hg => by simp only [colC, k3 g hg]; exact hj, k4⟩
    · cases h
/-- the new numbers, the last one first -/
noncomputable def newIds (j : Nat) : Nat → List Nat
  | 0 => []
  | n + 1 => newIds (j + 1) n ++ [j]
theorem mem_newIds {id : Nat} : ∀ (n j : Nat), id ∈ newIds j n ↔ j ≤ id ∧ id < j + n
  | 0, j => ⟨fun h => by simp [newIds] at h, fun h => by omega⟩
  | n + 1, j => by
    simp only [newIds, List.mem_append, mem_newIds n, List.mem_singleton]
    omega
theorem newAll_exec {α : Type} : ∀ (os : List O) (j : Nat) (k : Eff α) (ob : Ob) (f : Fp) (r : α × Ob × Fp), (newAll os j k).exec ob f = some r → (∀ o, o ∈ os → obIdsO o = []) →
    ∃ ob1 f1, k.exec ob1 f1 = some r ∧ f1.ns = newIds j os.length ++ f.ns ∧ (∀ i, i < os.length → ob (j + i) = none) ∧ (∀ i o, os[i]? = some o → ob1 (j + i) = some o) ∧
      (∀ id, ¬ (j ≤ id ∧ id < j + os.length) → ob1 id = (ob id).map (killAllO (newIds j os.length)))
  | [], j, k, ob, f, r, h, _ => ⟨ob, f, h, rfl, fun i hi => by simp at hi, fun i o hi => by simp at hi, fun id _ => by
    cases hob : ob id <;> simp [newIds, killAllO]⟩
  | o :: os, j, k, ob, f, r, h, hr => by
    simp only [newAll, Eff.exec] at h
    split at h
    · rename_i hj
      have hr0 := hr o (by simp)
      obtain ⟨ob1, f1, h1, h2, h3, h4, h5⟩ := newAll_exec os (j + 1) k _ _ r h (fun o ho => hr o (by simp [ho]))
      refine ⟨ob1, f1, h1, by rw [h2]; simp [newIds], fun i hi => ?_, fun i o' hi => ?_, fun id hid => ?_⟩
      · cases i with
        | zero => exact hj
        | succ i =>
          have := h3 i (by simpa using hi)
          simp only [upd, beq_ne (show j + 1 + i ≠ j by omega), cond_false, killOb] at this
          rw [show j + (i + 1) = j + 1 + i by omega]
          split at this
          · cases this
          · assumption
      · cases i with
        | zero =>
          obtain rfl := Option.some.inj hi
          rw [Nat.add_zero, h5 j (by omega)]
          simp only [upd, beq_self, cond_true, Option.map_some, O.kill_still _ hr0, killAllO_still _ hr0]
        | succ i =>
          have := h4 i o' (by simpa using hi)
          rw [show j + (i + 1) = j + 1 + i by omega]
          exact this
      · simp only [List.length_cons] at hid ⊢
        rw [h5 id (by omega)]
        have hne : id ≠ j := fun e => hid (by omega)
        simp only [upd, beq_ne hne, cond_false, killOb, newIds]
        cases hob : ob id with
        | none => rfl
        | some o' => simp only [Option.map_some, killAllO_append]; rfl
    · cases h
theorem setFins_exec {α : Type} : ∀ (ids : List Nat) (os : List (Option O)) (k : Eff α) (ob : Ob) (f : Fp) (r : α × Ob × Fp), (setFins ids os k).exec ob f = some r → ids.Nodup →
    ∃ ob1 f1, k.exec ob1 f1 = some r ∧ f1.ns = f.ns ∧ ids.length = os.length ∧ (∀ id, id ∉ ids → ob1 id = ob id) ∧ (∀ (i id : Nat) (o : Option O), ids[i]? = some id → os[i]? = some o → ob1 id = o)
  | [], [], k, ob, f, r, h, _ => ⟨ob, f, h, rfl, rfl, fun _ _ => rfl, fun i id o hi => by simp at hi⟩
  | [], _ :: _, _, _, _, _, h, _ => by simp [setFins, Eff.exec] at h
  | _ :: _, [], _, _, _, _, h, _ => by simp [setFins, Eff.exec] at h
  | id :: ids, o :: os, k, ob, f, r, h, hn => by
    simp only [setFins, Eff.exec] at h
    split at h
    · obtain ⟨hn1, hn2⟩ := List.nodup_cons.1 hn
      obtain ⟨ob1, f1, h1, h2, h3, h4, h5⟩ := setFins_exec ids os k _ _ r h hn2
      refine ⟨ob1, f1, h1, h2, by simp [h3], fun id' hid => ?_, fun i id' o' hi ho => ?_⟩
      · simp only [List.mem_cons, not_or] at hid
        rw [h4 id' hid.2]
        simp only [upd, beq_ne hid.1, cond_false]
      · cases i with
        | zero =>
          obtain rfl := Option.some.inj hi
          obtain rfl := Option.some.inj ho
          rw [h4 id hn1]
          simp only [upd, beq_self, cond_true]
        | succ i => exact h5 i id' o' (by simpa using hi) (by simpa using ho)
    · cases h
end
end Go.Eng
