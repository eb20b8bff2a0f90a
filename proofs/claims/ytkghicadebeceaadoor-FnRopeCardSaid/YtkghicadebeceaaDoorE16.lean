/- States told otherwise: what lives is kept, under new numbers. -/
import Derived.Test.YtkghicadebeceaaDoorE15
namespace Go.Eng
set_option linter.unusedSectionVars false
variable [Glb]
open Go.RowKit
set_option linter.unusedSimpArgs false
set_option linter.unusedVariables false

theorem forceN_eq {ρ : Type} : ∀ (ns : List Nat) (K : List Nat → ρ), forceN ns K = K ns
  | [], _ => rfl
  | n :: ns, K => by simp only [forceN]; rw [forceN_eq ns]
theorem forceObs_eq {ρ : Type} (g : Nat → Option Nat) (ob : Ob) : ∀ (l : List (Nat × Nat)) (K : List (Nat × Option O) → ρ), forceObs g ob l K = K (l.map fun p => (p.2, oneOb g ob p.1 p.2))
  | [], _ => rfl
  | (id, j) :: l, K => by simp only [forceObs, forceO_eq]; rw [forceObs_eq g ob l]; rfl
section
variable {w0 w w' : World} {R L : Nat → Prop} {N : Fx} {st : St} {a : Act} {loc loc' : Nat → Loc} {γ : Nat → Option Nat}
mutual
theorem Rep.ren {g : Nat → Option Nat} (hl : ∀ id j, g id = some j → loc' j = loc id) : ∀ (v : V) (c : Value), Rep w0 R loc v c → Rep w0 R loc' (v.ren g) c
  | .un, _, _ => trivial
  | .int _ _, _, h => h
  | .bool _, _, h => h
  | .str _, _, h => h
  | .nil, _, h => h
  | .pnil, _, h => h
  | .ro _ _, _, h => h
  | .rn _ _, _, h => h
  | .rc _ _ _, _, h => h
  | .roel _ _ _, _, h => h
  | .cst _, _, h => h
  | .own id, c, h => by
    simp only [V.ren]
    cases e : g id with
    | none => trivial
    | some j => simp only [Rep, hl id j e]; exact h
  | .sub id a b, c, h => by
    simp only [V.ren]
    cases e : g id with
    | none => trivial
    | some j => simp only [Rep, hl id j e]; exact h
  | .el id a b, c, h => by
    simp only [V.ren]
    cases e : g id with
    | none => trivial
    | some j => simp only [Rep, hl id j e]; exact h
  | .box id b, c, h => by
    simp only [V.ren]
    cases e : g id with
    | none => trivial
    | some j => simp only [Rep, hl id j e]; exact h
  | .agg vs, _, ⟨cs, hc, h⟩ => ⟨cs, hc, RepL.ren hl vs cs.toList h⟩
  | .tup vs, _, ⟨cs, hc, h⟩ => ⟨cs, hc, RepL.ren hl vs cs.toList h⟩
  | .fn _ a b, _, ⟨x, y, hc, h, h'⟩ => ⟨x, y, hc, RepL.ren hl a x.toList h, RepL.ren hl b y.toList h'⟩
theorem RepL.ren {g : Nat → Option Nat} (hl : ∀ id j, g id = some j → loc' j = loc id) : ∀ (vs : List V) (cs : List Value), RepL w0 R loc vs cs → RepL w0 R loc' (V.ren.go g vs) cs
  | [], [], _ => trivial
  | v :: vs, c :: cs, h => ⟨Rep.ren hl v c h.1, RepL.ren hl vs cs h.2⟩
  | [], _ :: _, h => h.elim
  | _ :: _, [], h => h.elim
end
theorem ObRep.ren {g : Nat → Option Nat} {γ' : Nat → Option Nat} (hl : ∀ id j, g id = some j → loc' j = loc id) {id j : Nat} (hg : g id = some j) (hγ : ∀ b, γ b = some id → γ' b = some j) {o : O} (h : ObRep w0 R w loc γ id o) : ObRep w0 R w loc' γ' j (o.ren g) := by
  cases o with
  | row nl e xs =>
    obtain ⟨h1, h2, h3, h4, h5, h6⟩ := h
    simp only [O.ren, ObRep, hl id j hg]
    exact ⟨h1, h2, h3, h4.imp (fun b hb => ⟨hγ b hb, rfl⟩) (fun _ _ h => h), h5, h6⟩
  | box cs =>
    obtain ⟨b, vals, ty, fz, h1, h2, h3, h4, h5⟩ := h
    simp only [O.ren, ObRep, hl id j hg]
    exact ⟨b, vals, ty, fz, h1, hγ b h2, h3, RepL.ren hl _ _ h4, h5⟩
  | bld s =>
    obtain ⟨b, p, v, h1, h2, h3, h4⟩ := h
    simp only [O.ren, ObRep, hl id j hg]
    exact ⟨b, p, v, h1, hγ b h2, fun g hg => hγ g (h3 g hg), h4⟩
theorem idxFrom_get (id : Nat) : ∀ (l : List Nat) (n j : Nat), idxFrom id l n = some j → n ≤ j ∧ l[j - n]? = some id
  | [], _, _, h => by simp [idxFrom] at h
  | x :: l, n, j, h => by
    simp only [idxFrom] at h
    by_cases e : x = id
    · subst e
      rw [beq_self] at h
      simp only [cond_true, Option.some.injEq] at h
      subst h
      simp
    · rw [beq_ne e] at h
      simp only [cond_false] at h
      obtain ⟨h1, h2⟩ := idxFrom_get id l (n + 1) j h
      refine ⟨by omega, ?_⟩
      rw [show j - n = (j - (n + 1)) + 1 by omega]
      simpa using h2
theorem tabOb_get : ∀ (l : List (Nat × Option O)) (j : Nat) (o : O), tabOb l j = some o → (j, some o) ∈ l
  | [], _, _, h => by simp [tabOb] at h
  | (i, x) :: l, j, o, h => by
    simp only [tabOb] at h
    by_cases e : j = i
    · subst e
      rw [beq_self] at h
      simp only [cond_true] at h
      subst h
      simp
    · rw [beq_ne e] at h
      simp only [cond_false] at h
      exact List.mem_cons_of_mem _ (tabOb_get l j o h)
theorem tabTm_rep {f : Nat → V} {cf : Nat → Value} : ∀ (l : List Nat), (∀ t, Rep w0 R loc (f t) (cf t)) → ∀ i, Rep w0 R loc (tabTm l (l.map f) i) (cf i)
  | [], _, i => trivial
  | t :: l, h, i => by
    simp only [List.map_cons, tabTm]
    by_cases e : i = t
    · subst e; rw [beq_self]; exact h i
    · rw [beq_ne e]; exact tabTm_rep l h i
theorem matOne_ok (hs : Sim w0 R L N st a w loc γ) (t : Nat) (e : CTs) (id : Nat) (h5 : 500 ≤ id) : ∃ loc' γ', Sim w0 R L N (matOne st t e id) a w loc' γ' := by
  unfold matOne
  split
  · rename_i ht
    split
    · rename_i hid
      cases he : e.flat with
      | false => exact ⟨loc, γ, hs⟩
      | true =>
        have h1 := hs.new (id := id) (o := .row .unk e []) (l := { a := none, len := 0, cap := 0, sz := e.size }) (γ' := γ) hid h5 hs.fr (Nat.le_refl _) (fun _ _ _ _ => rfl) (fun b => .inl rfl) (by
          simp only [ObRep, if_true]
          exact ⟨he, trivial, rfl, ⟨by simp, fun _ => rfl, (fun ad h => by cases h)⟩, (fun ad cs ty fz h => by cases h), trivial⟩)
        refine ⟨fun j => if j = id then { a := none, len := 0, cap := 0, sz := e.size } else loc j, γ, ?_⟩
        refine ⟨fun i => ?_, h1.ob, h1.col, h1.fr, h1.ro, h1.n, h1.df, h1.lc, h1.gl⟩
        simp only [cond_true, St.put]
        by_cases e : i = t
        · subst e
          rw [beq_self]
          have := hs.tm i
          rw [ht] at this
          simp only [cond_true, Rep, if_true]
          exact this
        · rw [beq_ne e]
          exact h1.tm i
    · exact ⟨loc, γ, hs⟩
  · exact ⟨loc, γ, hs⟩
theorem matIn_ok : ∀ (l : List (Nat × CTs)) (n : Nat) (st : St) (loc : Nat → Loc) (γ : Nat → Option Nat), Sim w0 R L N st a w loc γ → ∃ loc' γ', Sim w0 R L N (matIn st l n) a w loc' γ'
  | [], _, _, loc, γ, h => ⟨loc, γ, h⟩
  | (t, e) :: l, n, st, loc, γ, h => by
    obtain ⟨loc', γ', h'⟩ := matOne_ok h t e (900 + n) (by omega)
    exact matIn_ok l (n + 1) _ loc' γ' h'
theorem norms_ok (E : Env) (m : Nat) : NormsOk E w0 R L N m := by
  intro h ρ st0 K r a w loc0 γ0 hs0 hK
  obtain ⟨loc, γ, hs⟩ := matIn_ok h.mat 0 st0 loc0 γ0 hs0
  simp only [normK, forceN_eq, V.forceL_eq, forceObs_eq] at hK
  generalize matIn st0 h.mat 0 = st at hs hK
  generalize scan st.ob 60 (lentCells st.ob m ++ V.ids.go (h.live.map st.tm)) [] = ids at hK
  let g : Nat → Option Nat := fun id => bif Nat.ble 500 id then idxFrom id ids 500 else some id
  let loc' : Nat → Loc := fun j => if j < 500 then loc j else match ids[j - 500]? with
    | some id => loc id
    | none => default
  let γ' : Nat → Option Nat := fun b => match γ b with
    | some id => g id
    | none => none
  have hl : ∀ id j, g id = some j → loc' j = loc id := by
    intro id j hg
    simp only [g] at hg
    cases hb : Nat.ble 500 id with
    | false =>
      rw [hb] at hg
      simp only [cond_false, Option.some.injEq] at hg
      subst hg
      have : ¬ 500 ≤ id := fun hle => by rw [Nat.ble_eq_true_of_le hle] at hb; cases hb
      simp only [loc']
      rw [if_pos (by omega)]
    | true =>
      rw [hb] at hg
      simp only [cond_true] at hg
      obtain ⟨h1, h2⟩ := idxFrom_get id ids 500 j hg
      simp only [loc']
      rw [if_neg (by omega), h2]
  refine ⟨_, loc', γ', ⟨fun i => ?_, fun j o ho => ?_, fun b j hb => ?_, hs.fr, hs.ro, hs.n, hs.df, fun j hj => ?_, hs.gl⟩, hK⟩
  · exact tabTm_rep (f := fun i => (st.tm i).ren g) (cf := fun i => a.tmps.getD i undef) h.live (fun t => Rep.ren hl _ _ (hs.tm t)) i
  · have hm := tabOb_get _ j o ho
    obtain ⟨p, _, hp⟩ := List.mem_map.1 hm
    simp only [Prod.mk.injEq] at hp
    obtain ⟨rfl, hp⟩ := hp
    unfold oneOb at hp
    split at hp
    · rename_i j' hg
      by_cases e : j' = p.2
      · subst e
        rw [beq_self] at hp
        simp only [cond_true] at hp
        split at hp
        · rename_i o' ho'
          obtain rfl := Option.some.inj hp
          refine ObRep.ren hl hg (fun b hb => ?_) (hs.ob p.1 o' ho')
          simp only [γ', hb]
          exact hg
        · cases hp
      · rw [beq_ne e] at hp; cases hp
    · cases hp
  · simp only [γ'] at hb
    split at hb
    · rename_i id hid
      exact hs.col b id hid
    · cases hb
  · simp only [loc']
    rw [if_pos hj]
    exact hs.lc j hj
end
end Go.Eng
