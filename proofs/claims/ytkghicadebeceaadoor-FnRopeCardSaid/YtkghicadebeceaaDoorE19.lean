/- Functions. -/
import Derived.Test.YtkghicadebeceaaDoorE18
namespace Go.Eng
set_option linter.unusedSectionVars false
variable [Glb]
open Go.RowKit
set_option linter.unusedSimpArgs false
set_option linter.unusedVariables false

section
variable {E : Env} {cf : Cf E} {P : Program} {w0 w1 w w' : World} {R R1 L : Nat → Prop} {N : Fx} {st st' : St} {a : Act} {loc loc1 loc' : Nat → Loc} {γ γ1 γ' : Nat → Option Nat}
theorem dstsOk_mono {n m : Nat} (hnm : n ≤ m) {ops : List Oper} (h : dstsOk n ops = true) : dstsOk m ops = true := by
  refine List.all_eq_true.2 fun o ho => ?_
  have := List.all_eq_true.1 h o ho
  split
  · rename_i d hd
    rw [hd] at this
    simp only [Nat.blt_eq] at this ⊢
    omega
  · rfl
theorem codeOk_mono {n m : Nat} (hnm : n ≤ m) : ∀ (c : Code), codeOk n c = true → codeOk m c = true
  | .region _ ops _, h => dstsOk_mono hnm h
  | .seq a b, h => by simp only [codeOk, Bool.and_eq_true] at h ⊢; exact ⟨codeOk_mono hnm a h.1, codeOk_mono hnm b h.2⟩
  | .cond _ a b, h => by simp only [codeOk, Bool.and_eq_true] at h ⊢; exact ⟨codeOk_mono hnm a h.1, codeOk_mono hnm b h.2⟩
  | .block _ b, h => by simp only [codeOk] at h ⊢; exact codeOk_mono hnm b h
  | .loop b, h => by simp only [codeOk] at h ⊢; exact codeOk_mono hnm b h
  | .skip, _ => rfl
  | .label _, _ => rfl
  | .exit _, _ => rfl
  | .ret, _ => rfl
  | .rangeFunc _ _ _ _, _ => rfl
  | .scope _, _ => rfl
  | .goto _, _ => rfl
  | .refuse _, _ => rfl

noncomputable def resSem (tmps : Array Value) : ResultVar → Sem Value
  | .tmp t => pure (tmps.getD t undef)
  | .cell a t => do loadVar t (← asAddr (tmps.getD a undef))
theorem resV_run (hs : Sim w0 R L N st a w loc γ) {r : ResultVar} {v : V} (h : resV P st r = some v) : ∃ c, Rep w0 R loc v c ∧ (resSem a.tmps r).run P w = .ok c w := by
  cases r with
  | tmp t =>
    obtain rfl := Option.some.inj h
    exact ⟨_, hs.tm t, rfl⟩
  | cell t ty =>
    simp only [resV] at h
    split at h
    · rename_i id off hb
      have hr := hs.tm t
      rw [hb] at hr
      obtain ⟨b, h1, h2⟩ := hr
      have hrun : ∀ c, (loadVar ty ⟨b, off, none⟩).run P w = .ok c w → (resSem a.tmps (.cell t ty)).run P w = .ok c w := fun c hc => by
        simp only [resSem, h2, asAddr, Sem.run_bind, Sem.run_pure, Result.andThen_ok, hc]
      split at h
      · rename_i cs ho ht
        obtain ⟨b', vals, ty', fz, k1, k2, k3, k4, k5⟩ := hs.ob _ _ ho
        rw [h1] at k1
        simp only [Option.some.injEq, Addr.mk.injEq, and_true] at k1
        subst k1
        cases hle : Nat.ble (off + tsize P ty) cs.length with
        | false => rw [hle] at h; cases h
        | true =>
          rw [hle] at h
          obtain rfl := Option.some.inj h
          have hle := Nat.le_of_ble_eq_true hle
          have hlen := k4.length
          have hsz : vals.toList.length = vals.size := Array.length_toList
          exact ⟨_, ⟨_, rfl, (k4.drop off).take _⟩, hrun _ (run_loadVar_agg k3 ht (by omega))⟩
      · rename_i cs ho ht
        obtain ⟨b', vals, ty', fz, k1, k2, k3, k4, k5⟩ := hs.ob _ _ ho
        rw [h1] at k1
        simp only [Option.some.injEq, Addr.mk.injEq, and_true] at k1
        subst k1
        obtain ⟨c, hc1, hc2⟩ := k4.get h
        exact ⟨c, hc2, hrun _ (run_loadVar_one k3 ht hc1)⟩
      · cases h
    · cases h
theorem resVs_run (hs : Sim w0 R L N st a w loc γ) : ∀ (rs : List ResultVar) (vs : List V), resVs P st rs = some vs → ∃ cs, RepL w0 R loc vs cs ∧ (rs.mapM (resSem a.tmps)).run P w = .ok cs w
  | [], vs, h => by
    obtain rfl := Option.some.inj h
    exact ⟨[], trivial, rfl⟩
  | r :: rs, vs, h => by
    simp only [resVs] at h
    split at h
    · rename_i v vs' h1 h2
      obtain rfl := Option.some.inj h
      obtain ⟨c, g1, g2⟩ := resV_run hs h1
      obtain ⟨cs, g3, g4⟩ := resVs_run hs rs vs' h2
      refine ⟨c :: cs, ⟨g1, g3⟩, ?_⟩
      rw [List.mapM_cons]
      simp [g2, g4]
    · cases h
theorem res_run (hs : Sim w0 R L N st a w loc γ) {fn : Func} {v : V} (h : resOf P st fn.results.toList = some v) : ∃ c, Rep w0 R loc v c ∧ (results fn a.tmps).run P w = .ok c w := by
  have hres : ∀ cs, (fn.results.toList.mapM (resSem a.tmps)).run P w = .ok cs w → (results fn a.tmps).run P w = .ok (if h : cs.toArray.size = 1 then cs.toArray[0] else .tuple cs.toArray) w := fun cs hc => by
    have e1 : (fn.results.mapM (resSem a.tmps)).run P w = .ok cs.toArray w := by
      rw [Array.mapM_eq_mapM_toList, Sem.run_map, hc]
      rfl
    have e2 : (results fn a.tmps) = (do let vs ← fn.results.mapM (resSem a.tmps); pure (if h : vs.size = 1 then vs[0] else .tuple vs)) := by
      unfold results
      congr 1
    rw [e2]
    simp only [Sem.run_bind, e1, Result.andThen_ok, Sem.run_pure]
  unfold resOf at h
  split at h
  · rename_i v' hv
    obtain rfl := Option.some.inj h
    obtain ⟨cs, g1, g2⟩ := resVs_run hs _ _ hv
    have := g1.length
    match cs, g1, g2, this with
    | [c], g1, g2, _ => exact ⟨c, g1.1, by rw [hres _ g2]; rfl⟩
  · rename_i vs hne hv
    obtain rfl := Option.some.inj h
    obtain ⟨cs, g1, g2⟩ := resVs_run hs _ _ hv
    have hl := g1.length
    refine ⟨.tuple cs.toArray, ⟨cs.toArray, rfl, g1⟩, ?_⟩
    rw [hres _ g2, dif_neg]
    intro h1
    simp only [List.size_toArray] at h1
    rw [← hl] at h1
    match vs, h1, hne with
    | [v], _, hne => exact hne v rfl
  · cases h

/-- what a function leaves, to its caller -/
noncomputable def Left (E : Env) (f : Nat) (x : (E.sig f).T) (w : World) (L : Nat → Prop) (loc : Nat → Loc) (T : Nat) (w1 : World) (R1 : Nat → Prop) (c : Value) (w' : World) : Prop :=
  Frm w L w' ∧ ∃ loc2 γ2, (∀ k, k < T → k < 500 → loc2 k = loc k) ∧ (∀ b k, γ2 b = some k → (w.heap.size ≤ b ∨ L b) ∧ b < w'.heap.size) ∧
    (∀ b k, γ2 b = some k → k < (E.sig f).fin.length ∨ (T ≤ k ∧ k < T + ((E.sig f).inj x T).2.2.length)) ∧
    Rep w1 R1 loc2 ((E.sig f).inj x T).1 c ∧ (∀ id, id ∈ ((E.sig f).inj x T).1.ids → T ≤ id ∧ id < T + ((E.sig f).inj x T).2.2.length) ∧
    ((E.sig f).inj x T).2.1.length = (E.sig f).fin.length ∧ Fins w1 R1 w' loc2 γ2 0 ((E.sig f).inj x T).2.1 T (T + ((E.sig f).inj x T).2.2.length) ∧ News w1 R1 w' loc2 γ2 T ((E.sig f).inj x T).2.2
/-- a function's answer: it is entered and returns, or it is no code and answers -/
noncomputable def Ans (P : Program) (f : FuncId) (args : Array Value) (w : World) (S : Value → World → Prop) : Prop :=
  ((callFunc f args).run P w = .ok (.enter f args) w ∧ Calls P f args w fun e w' => ∃ c, e = .returned c ∧ S c w') ∨ ∃ c w', (callFunc f args).run P w = .ok (.value c) w' ∧ S c w'
noncomputable def Named (P : Program) : Prop := ∀ (f : Nat) (fn : Func), P.funcs[f]? = some fn → fn.body.isSome = true → (fn.name == "runtime.NumGoroutine") = false
noncomputable def FnOkAt (E : Env) (f : Nat) (vs : List V) (os : List O) (x : (E.sig f).T) : Prop :=
  ∀ (w : World) (R L : Nat → Prop) (loc : Nat → Loc) (γ : Nat → Option Nat) (args : Array Value) (T : Nat) (w1 : World) (R1 : Nat → Prop), (E.sig f).fin.length ≤ T → Gl w R → (∀ b, Glb.gb b → R1 b ∧ w1.heap[b]? = w.heap[b]?) →
    (∀ b, R b → b < w.heap.size ∧ ¬ L b) → (∀ b j, γ b = some j → L b ∧ b < w.heap.size) → RepL w R loc vs args.toList → (∀ j o, os[j]? = some o → ObRep w R w loc γ j o) →
    Ans E.P f args w (Left E f x w L loc T w1 R1)
/-- what is asked of all functions -/
noncomputable def FnOk (E : Env) (cf : Cf E) : Prop := ∀ (f : Nat) (vs : List V) (os : List O) (x : (E.sig f).T), cf f vs os = some x → FnOkAt E f vs os x

theorem init_sim {vs : List V} {os : List O} {args : Array Value} (n : Nat) (hg : Gl w R) (hR : ∀ b, R b → b < w.heap.size ∧ ¬ L b) (hγ : ∀ b j, γ b = some j → L b ∧ b < w.heap.size)
    (hv : RepL w R loc vs args.toList) (ho : ∀ j o, os[j]? = some o → ObRep w R w loc γ j o) :
    Sim w R L ⟨args.size + (n - args.size), loc⟩ (initSt vs os) { tmps := args ++ Array.replicate (n - args.size) undef, defers := [] } w loc γ := by
  refine ⟨fun i => ?_, fun j o h => ho j o h, fun b j h => ⟨.inr (hγ b j h).1, (hγ b j h).2⟩, Frm.refl _ _, hR, by simp, rfl, fun _ _ => rfl, hg⟩
  simp only [initSt]
  have hl := hv.length
  have hsz : args.toList.length = args.size := Array.length_toList
  rw [Array.getD_eq_getD_getElem?, Array.getElem?_append]
  cases hi : vs[i]? with
  | some v =>
    have hlt := (List.getElem?_eq_some_iff.1 hi).1
    rw [if_pos (by omega)]
    obtain ⟨c, h1, h2⟩ := hv.get hi
    rw [Array.getElem?_toList] at h1
    rw [h1]
    exact h2
  | none =>
    have hge := List.getElem?_eq_none_iff.1 hi
    rw [if_neg (by omega), Array.getElem?_replicate]
    split <;> exact Rep_undef
theorem run_callFunc {f : FuncId} {fn : Func} {c : Code} {args : Array Value} (hn : Named P) (hf : P.funcs[f]? = some fn) (hb : fn.body = some c) : (callFunc f args).run P w = .ok (.enter f args) w := by
  have h1 := hn f fn hf (by rw [hb]; rfl)
  have h2 : ¬ fn.name = "runtime.NumGoroutine" := by simpa using h1
  simp [callFunc, hf, h2, hb]
theorem evFn_ok (hn : Named E.P) (hC : CallsOk E cf) (hD : DrawOk E cf) {f k : Nat} {fn : Func} {vs : List V} {os : List O} {x : (E.sig f).T} (hf : E.P.funcs[f]? = some fn) (h : evFn E cf f k fn vs os = some x) : FnOkAt E f vs os x := by
  intro w R L loc γ args T w1 R1 hT hg hg1 hR hγ hv ho
  unfold evFn at h
  split at h
  · rename_i c hb
    cases hck : codeOk fn.ntmps c with
    | false => rw [hck] at h; cases h
    | true =>
      rw [hck] at h
      simp only [cond_true] at h
      refine .inl ⟨run_callFunc hn hf hb, calls_of_wp hf hb ?_⟩
      refine code_ok (N := ⟨args.size + (fn.ntmps - args.size), loc⟩) hC hD (norms_ok E os.length) c (codeOk_mono (by show fn.ntmps ≤ args.size + (fn.ntmps - args.size); omega) c hck) _ _ _ _ _ _ _ (init_sim fn.ntmps hg hR hγ hv ho) h (fun e st' a' w' loc' γ' hs hk => ?_)
      have key : ∀ (hk : (match resOf E.P st' fn.results.toList with
          | some v => (E.sig f).proj st'.ob v
          | none => none) = some x), a'.defers = [] ∧ ∃ v, (results fn a'.tmps).run E.P w' = .ok v w' ∧ ∃ c, Ending.returned v = .returned c ∧ Left E f x w L loc T w1 R1 c w' := fun hk => by
        split at hk
        · rename_i v hv'
          obtain ⟨c, g1, g2⟩ := res_run hs hv'
          obtain ⟨loc2, γ2, k1, k2, k3, k4, k5, k6, k7, k8⟩ := Sig.out (w1 := w1) (R1 := R1) (w := w') hg1 hs.ob (E.sig f) T x hT hk g1
          refine ⟨hs.df, c, g2, c, rfl, hs.fr, loc2, γ2, fun k h1 h2 => (k1 k h1).trans (hs.lc k h2), fun b k hb => ?_, k3, k4, k5, k6, k7, k8⟩
          obtain ⟨id, hid⟩ := k2 b k hb
          exact hs.col b id hid
        · cases hk
      unfold finK at hk
      cases e with
      | normal => exact key hk
      | ret => exact key hk
      | _ => cases hk
  · cases h
end
end Go.Eng
