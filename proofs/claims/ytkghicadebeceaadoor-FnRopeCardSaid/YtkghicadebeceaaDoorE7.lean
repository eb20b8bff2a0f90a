/- Building values; the operations that turn no memory, all of them. -/
import Derived.Test.YtkghicadebeceaaDoorE6
namespace Go.Eng
set_option linter.unusedSectionVars false
variable [Glb]
open Go.RowKit
set_option linter.unusedSimpArgs false
set_option linter.unusedVariables false

section
variable {w0 w : World} {R L : Nat → Prop} {N : Fx} {st : St} {a : Act} {loc : Nat → Loc} {γ : Nat → Option Nat} {P : Program}

theorem cells_rep {v : V} {vs : List V} {c : Value} (h : v.cells? = some vs) (hr : Rep w0 R loc v c) : RepL w0 R loc vs c.cells.toList := by
  cases v with
  | un => simp [V.cells?] at h
  | tup => simp [V.cells?] at h
  | agg us =>
    obtain rfl := Option.some.inj h
    obtain ⟨cs, rfl, h'⟩ := hr
    exact h'
  | int | bool | str | nil | pnil | own =>
    obtain rfl := Option.some.inj h
    obtain rfl := hr
    exact ⟨rfl, trivial⟩
  | ro e xs =>
    obtain rfl := Option.some.inj h
    have h2 := hr
    obtain ⟨_, _, rfl, _⟩ := hr
    exact ⟨h2, trivial⟩
  | rn e xs =>
    obtain rfl := Option.some.inj h
    have h2 := hr
    obtain ⟨⟨_, _, rfl, _⟩, _⟩ := hr
    exact ⟨h2, trivial⟩
  | rc i e xs =>
    obtain rfl := Option.some.inj h
    have h2 := hr
    obtain ⟨_, _, _, _, rfl, _⟩ := hr
    exact ⟨h2, trivial⟩
  | roel e x off =>
    obtain rfl := Option.some.inj h
    have h2 := hr
    obtain ⟨_, rfl, _⟩ := hr
    exact ⟨h2, trivial⟩
  | sub id lo hi =>
    obtain rfl := Option.some.inj h
    have h2 := hr
    obtain ⟨_, _, _, rfl⟩ := hr
    exact ⟨h2, trivial⟩
  | el id i off =>
    obtain rfl := Option.some.inj h
    have h2 := hr
    obtain ⟨_, _, _, _, rfl⟩ := hr
    exact ⟨h2, trivial⟩
  | box id off =>
    obtain rfl := Option.some.inj h
    have h2 := hr
    obtain ⟨_, _, rfl⟩ := hr
    exact ⟨h2, trivial⟩
  | fn f x y =>
    obtain rfl := Option.some.inj h
    have h2 := hr
    obtain ⟨_, _, rfl, _⟩ := hr
    exact ⟨h2, trivial⟩
  | cst c' =>
    obtain rfl := Option.some.inj h
    have h2 := hr
    obtain ⟨rfl, h3⟩ := hr
    cases c with
    | agg | tuple => simp [oneC] at h3
    | _ => exact ⟨h2, trivial⟩
theorem solid_one {v : V} {c : Value} (h : v.solid = true) (hr : Rep w0 R loc v c) : c.oneCell' = true := by
  cases v with
  | un | tup | agg => simp [V.solid] at h
  | int | bool | str | nil | pnil | own => obtain rfl := hr; rfl
  | ro e xs => obtain ⟨_, _, rfl, _⟩ := hr; rfl
  | rn e xs => obtain ⟨⟨_, _, rfl, _⟩, _⟩ := hr; rfl
  | rc i e xs => obtain ⟨_, _, _, _, rfl, _⟩ := hr; rfl
  | roel e x off => obtain ⟨_, rfl, _⟩ := hr; rfl
  | sub id lo hi => obtain ⟨_, _, _, rfl⟩ := hr; rfl
  | el id i off => obtain ⟨_, _, _, _, rfl⟩ := hr; rfl
  | box id off => obtain ⟨_, _, rfl⟩ := hr; rfl
  | fn f x y => obtain ⟨_, _, rfl, _⟩ := hr; rfl
  | cst c' =>
    obtain ⟨rfl, h3⟩ := hr
    cases c <;> first | rfl | (simp [oneC] at h3)
theorem solids_one : ∀ {vs : List V} {cs : List Value}, vs.all V.solid = true → RepL w0 R loc vs cs → ∀ c ∈ cs, c.oneCell' = true
  | [], [], _, _ => by simp
  | v :: vs, c :: cs, h, hr => by
    simp only [List.all_cons, Bool.and_eq_true] at h
    intro x hx
    rcases List.mem_cons.1 hx with rfl | hx
    · exact solid_one h.1 hr.1
    · exact solids_one (vs := vs) h.2 hr.2 x hx
  | [], _ :: _, _, h => h.elim
  | _ :: _, [], _, h => h.elim
theorem setCells_length {α : Type} : ∀ (us cs : List α) (off : Nat), (setCells cs off us).length = cs.length
  | [], _, _ => rfl
  | u :: us, cs, off => by simp only [setCells]; rw [setCells_length us]; simp
theorem RepL.sets : ∀ {us : List V} {cus : List Value} {cs : List V} {vals : List Value} (off : Nat), RepL w0 R loc cs vals → RepL w0 R loc us cus →
    RepL w0 R loc (setCells cs off us) (setCells vals off cus)
  | [], [], _, _, _, h, _ => h
  | u :: us, c :: cus, _, _, off, h, h' => RepL.sets (us := us) (cus := cus) (off + 1) (h.set off h'.1) h'.2
  | [], _ :: _, _, _, _, _, h => h.elim
  | _ :: _, [], _, _, _, _, h => h.elim
theorem zeroV_run {t : TypeId} {z : List V} (h : zeroV? P t = some z) : ∃ c, (zeroValue t).run P w = .ok c w ∧ RepL w0 R loc z c.cells.toList ∧ ∃ i, P.info? t = some i ∧ i.zero = some c := by
  unfold zeroV? at h
  split at h
  · rename_i i hi
    split at h
    · rename_i c hc
      exact ⟨c, by simp [zeroValue, typeInfo, hi, hc], cells_rep h (constV_rep c), i, hi, hc⟩
    · cases h
  · cases h
theorem foldl_sets (off : Nat) : ∀ (l : List Value) (k : Nat) (cells : Array Value),
    ((l.zipIdx k).foldl (fun cs (p : Value × Nat) => cs.setIfInBounds (off + p.2) p.1) cells).toList = setCells cells.toList (off + k) l
  | [], _, _ => rfl
  | c :: l, k, cells => by
    simp only [List.zipIdx_cons, List.foldl_cons, setCells]
    rw [foldl_sets off l (k + 1)]
    simp [Nat.add_assoc]
def RepP (w0 : World) (R : Nat → Prop) (loc : Nat → Loc) : List (Nat × V) → List (Nat × Value) → Prop
  | [], [] => True
  | p :: ps, q :: qs => p.1 = q.1 ∧ Rep w0 R loc p.2 q.2 ∧ RepP w0 R loc ps qs
  | _, _ => False
theorem fill_one {vals : Array Value} {off : Nat} {c : Value} : (c.cells.zipIdx.foldl (fun cs (p : Value × Nat) => cs.setIfInBounds (off + p.2) p.1) vals).toList = setCells vals.toList off c.cells.toList := by
  rw [← Array.foldl_toList, Array.toList_zipIdx]
  have := foldl_sets off c.cells.toList 0 vals
  simpa using this
theorem putParts_fill {t : TypeId} (place : Nat → Option (Nat × Nat)) (hp : ∀ i off n b, field? P t i = some (off, n, b) → place i = some (off, n)) :
    ∀ (ps : List (Nat × V)) (qs : List (Nat × Value)) (cs cs' : List V) (vals : Array Value), RepP w0 R loc ps qs → RepL w0 R loc cs vals.toList → putParts P t cs ps = some cs' →
      ∃ vals', Instr.fill place vals qs = some vals' ∧ RepL w0 R loc cs' vals'.toList
  | [], [], cs, cs', vals, _, h, hc => ⟨vals, rfl, by simp [putParts] at hc; subst hc; exact h⟩
  | (i, v) :: ps, (j, c) :: qs, cs, cs', vals, ⟨hij, hv, hps⟩, h, hc => by
    obtain rfl : i = j := hij
    simp only [putParts] at hc
    split at hc
    · rename_i off n b us hf hcl
      have hr := cells_rep hcl hv
      cases hb : Nat.beq us.length n && Nat.ble (off + n) cs.length with
      | false => rw [hb] at hc; cases hc
      | true =>
        rw [hb] at hc
        simp only [cond_true] at hc
        simp only [Bool.and_eq_true] at hb
        have h1 := Nat.eq_of_beq_eq_true hb.1
        have h2 := Nat.le_of_ble_eq_true hb.2
        rw [RepL.length hr] at h1
        rw [RepL.length h] at h2
        simp only [Array.length_toList] at h1 h2
        simp only [Instr.fill, hp i off n b hf]
        rw [if_neg (by simp [h1]; omega)]
        refine putParts_fill place hp ps qs _ cs' _ hps ?_ hc
        rw [fill_one]
        exact h.sets off hr
    · cases hc
  | [], _ :: _, _, _, _, h, _, _ => h.elim
  | _ :: _, [], _, _, _, h, _, _ => h.elim
theorem putElems_fill {n : Nat} : ∀ (ps : List (Nat × V)) (qs : List (Nat × Value)) (cs cs' : List V) (vals : Array Value), RepP w0 R loc ps qs → RepL w0 R loc cs vals.toList → putElems n cs ps = some cs' →
      ∃ vals', Instr.fill (fun i => some (i * n, n)) vals qs = some vals' ∧ RepL w0 R loc cs' vals'.toList
  | [], [], cs, cs', vals, _, h, hc => ⟨vals, rfl, by simp [putElems] at hc; subst hc; exact h⟩
  | (i, v) :: ps, (j, c) :: qs, cs, cs', vals, ⟨hij, hv, hps⟩, h, hc => by
    obtain rfl : i = j := hij
    simp only [putElems] at hc
    split at hc
    · rename_i us hcl
      have hr := cells_rep hcl hv
      cases hb : Nat.beq us.length n && Nat.ble (i * n + n) cs.length with
      | false => rw [hb] at hc; cases hc
      | true =>
        rw [hb] at hc
        simp only [cond_true] at hc
        simp only [Bool.and_eq_true] at hb
        have h1 := Nat.eq_of_beq_eq_true hb.1
        have h2 := Nat.le_of_ble_eq_true hb.2
        rw [RepL.length hr] at h1
        rw [RepL.length h] at h2
        simp only [Array.length_toList] at h1 h2
        simp only [Instr.fill]
        rw [if_neg (by simp [h1]; omega)]
        refine putElems_fill ps qs _ cs' _ hps ?_ hc
        rw [fill_one]
        exact h.sets (i * n) hr
    · cases hc
  | [], _ :: _, _, _, _, h, _, _ => h.elim
  | _ :: _, [], _, _, _, h, _, _ => h.elim
theorem RepP.ops (hs : Sim w0 R L N st a w loc γ) : ∀ l : List (Nat × Operand), RepP w0 R loc (l.map fun p => (p.1, st.rv p.2)) (l.map fun (p : Nat × Operand) => (p.1, a.eval p.2))
  | [] => trivial
  | p :: l => ⟨rfl, hs.eval p.2, RepP.ops hs l⟩
theorem run_mapM {α β : Type} (f : α → Sem β) (g : α → β) (xs : Array α) (h : ∀ x ∈ xs.toList, (f x).run P w = .ok (g x) w) : (xs.mapM f).run P w = .ok (xs.toList.map g).toArray w := by
  rw [Array.mapM_eq_mapM_toList, Sem.run_map]
  have : ∀ l : List α, (∀ x ∈ l, (f x).run P w = .ok (g x) w) → (l.mapM f).run P w = .ok (l.map g) w := by
    intro l
    induction l with
    | nil => intro _; rfl
    | cons x l ih =>
      intro h
      rw [List.mapM_cons]
      simp [h x (by simp), ih (fun y hy => h y (by simp [hy]))]
  rw [this _ h]
  rfl
theorem fieldsOk_mem : ∀ {fs : List Field}, fieldsOk P fs = true → ∀ x ∈ fs, ∃ b, tagg P x.type = some b
  | [], _ => by simp
  | f :: fs, h => by
    simp only [fieldsOk, Bool.and_eq_true] at h
    intro x hx
    rcases List.mem_cons.1 hx with rfl | hx
    · exact Option.isSome_iff_exists.1 h.1
    · exact fieldsOk_mem h.2 x hx
theorem build_run {t : TypeId} {l : List (Nat × Operand)} {v : V} {ob' : Ob} {f f' : Fp} (h : (buildE P t (l.map fun p => (p.1, st.rv p.2))).exec st.ob f = some (v, ob', f')) (hs : Sim w0 R L N st a w loc γ) :
    ob' = st.ob ∧ f'.ns = f.ns ∧ ∃ c, Rep w0 R loc v c ∧ (Instr.build t (l.map fun p => (p.1, a.eval p.2)).toArray).run P w = .ok c w := by
  unfold buildE at h
  split at h
  · rename_i fs hu
    cases hb : fieldsOk P fs.toList && (zeroV? P t).isSome with
    | false => rw [hb] at h; simp [Eff.exec] at h
    | true =>
      rw [hb] at h
      simp only [cond_true] at h
      simp only [Bool.and_eq_true] at hb
      obtain ⟨z, hz⟩ := Option.isSome_iff_exists.1 hb.2
      obtain ⟨c, hc1, hc2, _⟩ := zeroV_run (w0 := w0) (R := R) (loc := loc) (w := w) hz
      simp only [zeroV, hz] at h
      split at h
      · rename_i cs hcs
        simp only [Eff.exec, Option.some.injEq, Prod.mk.injEq] at h
        obtain ⟨rfl, rfl, rfl⟩ := h
        have hm := run_mapM (P := P) (w := w) (fun f : Field => do pure (f.offset, ← sizeOf f.type)) (fun f => (f.offset, tsize P f.type)) fs (fun x hx => by
          obtain ⟨b, hb⟩ := fieldsOk_mem hb.1 x hx
          simp [run_size hb])
        obtain ⟨vals', h1, h2⟩ := putParts_fill (P := P) (t := t) (fun i => ((fs.toList.map fun f => (f.offset, tsize P f.type)).toArray)[i]?) (fun i off n b hf => by
          obtain ⟨fs', x, hu', hx, rfl, rfl, _⟩ := field_get hf
          rw [hu] at hu'
          obtain rfl : fs = fs' := by simpa using hu'
          have : fs.toList[i]? = some x := by simpa using hx
          simp [this]) _ _ z cs c.cells (RepP.ops hs l) hc2 hcs
        refine ⟨rfl, rfl, _, ⟨vals', rfl, h2⟩, ?_⟩
        simp only [Instr.build, Sem.run_bind, hc1, Result.andThen_ok, run_underlying hu, hm]
        rw [h1]
        rfl
      · simp [Eff.exec] at h
  · rename_i n e hu
    cases hb : (tagg P e).isSome && (zeroV? P t).isSome with
    | false => rw [hb] at h; simp [Eff.exec] at h
    | true =>
      rw [hb] at h
      simp only [cond_true] at h
      simp only [Bool.and_eq_true] at hb
      obtain ⟨z, hz⟩ := Option.isSome_iff_exists.1 hb.2
      obtain ⟨b, hte⟩ := Option.isSome_iff_exists.1 hb.1
      obtain ⟨c, hc1, hc2, _⟩ := zeroV_run (w0 := w0) (R := R) (loc := loc) (w := w) hz
      simp only [zeroV, hz] at h
      split at h
      · rename_i cs hcs
        simp only [Eff.exec, Option.some.injEq, Prod.mk.injEq] at h
        obtain ⟨rfl, rfl, rfl⟩ := h
        obtain ⟨vals', h1, h2⟩ := putElems_fill _ _ z cs c.cells (RepP.ops hs l) hc2 hcs
        refine ⟨rfl, rfl, _, ⟨vals', rfl, h2⟩, ?_⟩
        simp only [Instr.build, Sem.run_bind, hc1, Result.andThen_ok, run_underlying hu, run_size hte]
        rw [h1]
        rfl
      · simp [Eff.exec] at h
  · simp [Eff.exec] at h
theorem len_run {t ty : TypeId} {x v : V} {cx : Value} {ob' : Ob} {f f' : Fp} (h : (lenE P t x).exec st.ob f = some (v, ob', f')) (hs : Sim w0 R L N st a w loc γ) (hx : Rep w0 R loc x cx) (ts : Array TypeId) (ht : ts[0]? = some t) :
    ob' = st.ob ∧ f'.ns = f.ns ∧ ∃ c, Rep w0 R loc v c ∧ (Builtin.len_ ts ty #[cx]).run P w = .ok c w := by
  unfold lenE at h
  split at h
  · obtain rfl := hx
    cases hq : isStr P t with
    | false => rw [hq] at h; simp [Eff.exec] at h
    | true =>
      rw [hq] at h
      simp only [cond_true, Eff.exec, Option.some.injEq, Prod.mk.injEq] at h
      obtain ⟨rfl, rfl, rfl⟩ := h
      exact ⟨rfl, rfl, _, rfl, by simp [Builtin.len_, ht, run_underlying (isStr_run hq), goInt, sz]⟩
  all_goals try (
    cases hq : slElem P t with
    | none => rw [hq] at h; simp [Eff.exec] at h
    | some p => ?_
    rw [hq] at h
    have hu := (slElem_run (e := p.1) (n := p.2) hq).1
    simp only [Option.isSome_some, cond_true, Eff.exec] at h)
  · simp only [Option.some.injEq, Prod.mk.injEq] at h
    obtain ⟨rfl, rfl, rfl⟩ := h
    obtain rfl := hx
    exact ⟨rfl, rfl, _, rfl, by simp [Builtin.len_, ht, run_underlying hu, goInt]⟩
  · rename_i id
    split at h
    · rename_i o ho
      split at h
      · simp only [Eff.exec, Option.some.injEq, Prod.mk.injEq] at h
        obtain ⟨rfl, rfl, rfl⟩ := h
        obtain rfl := hx
        obtain ⟨_, _, k3, _⟩ := hs.ob id _ ho
        exact ⟨rfl, rfl, _, rfl, by simp [Builtin.len_, ht, run_underlying hu, goInt, ln, k3]⟩
      · simp [Eff.exec] at h
    · cases h
  · simp only [Option.some.injEq, Prod.mk.injEq] at h
    obtain ⟨rfl, rfl, rfl⟩ := h
    obtain ⟨h0, h1, h2, rfl⟩ := hx
    exact ⟨rfl, rfl, _, rfl, by simp [Builtin.len_, ht, run_underlying hu, goInt, subZ_eq]; omega⟩
  · simp only [Option.some.injEq, Prod.mk.injEq] at h
    obtain ⟨rfl, rfl, rfl⟩ := h
    obtain ⟨_, _, rfl, _⟩ := hx
    exact ⟨rfl, rfl, _, rfl, by simp [Builtin.len_, ht, run_underlying hu, goInt, ln]⟩
  · simp [Eff.exec] at h
end
end Go.Eng
