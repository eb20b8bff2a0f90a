/- More operations that turn no memory: slices, places, parts. -/
import Derived.Test.YtkghicadebeceaaDoorE5
namespace Go.Eng
set_option linter.unusedSectionVars false
variable [Glb]
open Go.RowKit
set_option linter.unusedSimpArgs false
set_option linter.unusedVariables false

section
variable {w0 w : World} {R L : Nat → Prop} {N : Fx} {st : St} {a : Act} {loc : Nat → Loc} {γ : Nat → Option Nat} {P : Program}

theorem slElem_run {t e : TypeId} {n : Nat} (h : slElem P t = some (e, n)) : P.underlying t = some (.slice e) ∧ (∃ b, tagg P e = some b) ∧ n = tsize P e := by
  unfold slElem at h
  split at h
  · rename_i e' hu
    cases ht : tagg P e' with
    | none => rw [ht] at h; cases h
    | some b =>
      rw [ht] at h
      simp only [Option.some.injEq, Prod.mk.injEq] at h
      obtain ⟨rfl, rfl⟩ := h
      exact ⟨hu, ⟨b, ht⟩, rfl⟩
  · cases h
theorem isStr_run {t : TypeId} (h : isStr P t = true) : P.underlying t = some .string := by
  unfold isStr at h
  split at h
  · assumption
  · cases h

theorem run_sliceBound {k : IntKind} {i : Int} {y : Nat} {code : BoundsCode} (h0 : 0 ≤ i) (h : i ≤ y) : (Instr.sliceBound (.int k i) y code).run P w = .ok i.toNat w := by
  simp [Instr.sliceBound, asIntOf, h0, h]
/-- the bounds of a slice, as the evaluator and as the machine have them -/
theorem bounds_exec {lo hi : Option V} {clo chi : Option Value} {n : Int} {cap : Nat} {K : Int → Int → Eff V} {ob ob' : Ob} {f f' : Fp} {v : V} {isS : Bool} {len : Nat}
    (h : (bounds lo hi n K).exec ob f = some (v, ob', f')) (hlo : ∀ x, lo = some x → ∃ c, clo = some c ∧ Rep w0 R loc x c) (hlo' : lo = none → clo = none)
    (hhi : ∀ x, hi = some x → ∃ c, chi = some c ∧ Rep w0 R loc x c) (hhi' : hi = none → chi = none) (hn : n = len) (hcap : len ≤ cap) :
    ∃ l u : Int, 0 ≤ l ∧ l ≤ u ∧ u ≤ n ∧ (K l u).exec ob f = some (v, ob', f') ∧ (Instr.sliceBounds isS len cap clo chi none).run P w = .ok (l.toNat, u.toNat, cap) w := by
  subst hn
  unfold bounds at h
  split at h
  · rw [hlo' rfl, hhi' rfl]
    exact ⟨0, len, by omega, by omega, by omega, h, by simp [Instr.sliceBounds]⟩
  · rename_i k u
    obtain ⟨c, hc, rfl⟩ := hhi _ rfl
    rw [hlo' rfl, hc]
    try simp only [Eff.exec] at h
    split at h
    · rename_i h1
      try simp only [Eff.exec] at h
      split at h
      · rename_i h2
        simp only [leI_eq, ltI_eq, decide_eq_true_eq] at h1
        simp only [leI_eq, ltI_eq, decide_eq_true_eq] at h2
        refine ⟨0, u, by omega, h1, h2, h, ?_⟩
        have hb := fun code => run_sliceBound (P := P) (w := w) (k := k) (i := u) (y := cap) (code := code) h1 (by omega)
        simp [Instr.sliceBounds, hb]
      · cases h
    · cases h
  · rename_i k l
    obtain ⟨c, hc, rfl⟩ := hlo _ rfl
    rw [hhi' rfl, hc]
    try simp only [Eff.exec] at h
    split at h
    · rename_i h1
      try simp only [Eff.exec] at h
      split at h
      · rename_i h2
        simp only [leI_eq, ltI_eq, decide_eq_true_eq] at h1
        simp only [leI_eq, ltI_eq, decide_eq_true_eq] at h2
        refine ⟨l, len, h1, h2, by omega, h, ?_⟩
        have hb := fun code => run_sliceBound (P := P) (w := w) (k := k) (i := l) (y := len) (code := code) h1 h2
        simp [Instr.sliceBounds, hb]
      · cases h
    · cases h
  · rename_i k l k' u
    obtain ⟨c, hc, rfl⟩ := hlo _ rfl
    obtain ⟨c', hc', rfl⟩ := hhi _ rfl
    rw [hc, hc']
    try simp only [Eff.exec] at h
    split at h
    · rename_i h1
      try simp only [Eff.exec] at h
      split at h
      · rename_i h2
        try simp only [Eff.exec] at h
        split at h
        · rename_i h3
          simp only [leI_eq, ltI_eq, decide_eq_true_eq] at h1
          simp only [leI_eq, ltI_eq, decide_eq_true_eq] at h2
          simp only [leI_eq, ltI_eq, decide_eq_true_eq] at h3
          refine ⟨l, u, h1, h2, h3, h, ?_⟩
          have hb := fun code => run_sliceBound (P := P) (w := w) (k := k) (i := l) (y := u.toNat) (code := code) h1 (by omega)
          have hb' := fun code => run_sliceBound (P := P) (w := w) (k := k') (i := u) (y := cap) (code := code) (by omega) (by omega)
          simp [Instr.sliceBounds, hb, hb']
        · cases h
      · cases h
    · cases h
  · simp [Eff.exec] at h

theorem RowAt.sub {α : Type} {R' : Nat → Prop} {s cap : Nat} {C : List Value → α → Prop} {ad : Option Addr} {xs : List α} (h : RowAt w R' s C ad cap xs) {l u : Int} (h0 : 0 ≤ l) (h1 : l ≤ u) (h2 : u ≤ xs.length) :
    RowAt w R' s C (if cap = l.toNat then ad else ad.map (·.add (l.toNat * s))) (cap - l.toNat) (dropI (takeI xs u) l) := by
  obtain ⟨k1, k2, k3⟩ := h
  have hlen : (dropI (takeI xs u) l).length = (u - l).toNat := by simp [dropI, takeI]; omega
  by_cases hc : cap = l.toNat
  · rw [if_pos hc]
    refine ⟨by rw [hlen]; omega, fun h => by have := k2 h; omega, fun x hx => ?_⟩
    obtain ⟨k4, k5, cs, ty, fz, k6, k7, k8⟩ := k3 x hx
    refine ⟨k4, k5, cs, ty, fz, k6, by have : (cap - l.toNat) * s = 0 := by rw [hc]; simp
                                       omega, fun i y hy => ?_⟩
    have := (List.getElem?_eq_some_iff.1 hy).1
    omega
  · rw [if_neg hc]
    refine ⟨by rw [hlen]; omega, fun h => ?_, fun x hx => ?_⟩
    · cases ad with
      | none => have := k2 rfl; omega
      | some _ => simp at h
    · cases ad with
      | none => simp at hx
      | some y =>
        simp only [Option.map_some, Option.some.injEq] at hx
        obtain ⟨k4, k5, cs, ty, fz, k6, k7, k8⟩ := k3 y rfl
        have hx' : x = ⟨y.block, y.off + l.toNat * s, none⟩ := by
          rw [← hx]
          obtain ⟨b, o, sp⟩ := y
          simp only at k4
          subst k4
          exact add_at
        subst hx'
        refine ⟨rfl, k5, cs, ty, fz, k6, ?_, fun i z hz => ?_⟩
        · have : l.toNat * s + (cap - l.toNat) * s = cap * s := by rw [← Nat.add_mul]; congr 1; omega
          simp only; omega
        · simp only [dropI, takeI, List.getElem?_drop, List.getElem?_take] at hz
          split at hz
          · have := k8 _ _ hz
            rw [Nat.add_mul, ← Nat.add_assoc] at this
            exact this
          · cases hz

theorem RowRO.sub {α : Type} {R' : Nat → Prop} {s cap : Nat} {C : List Value → α → Prop} {ad : Option Addr} {xs : List α} (h : RowRO w R' s C ad cap xs) {l u : Int} (h0 : 0 ≤ l) (h1 : l ≤ u) (h2 : u ≤ xs.length) :
    RowRO w R' s C (if cap = l.toNat then ad else ad.map (·.add (l.toNat * s))) (cap - l.toNat) (dropI (takeI xs u) l) := by
  obtain ⟨k1, k2, k3⟩ := h
  have hlen : (dropI (takeI xs u) l).length = (u - l).toNat := by simp [dropI, takeI]; omega
  by_cases hc : 0 < cap
  · exact ((k3 hc).sub h0 h1 h2).ro
  · refine ⟨by rw [hlen]; omega, fun _ => by omega, fun h => by omega⟩
theorem slice_run {t : TypeId} {x v : V} {cx : Value} {lo hi mx : Option V} {clo chi cmx : Option Value} {ob' : Ob} {f f' : Fp}
    (h : (sliceE P t x lo hi mx).exec st.ob f = some (v, ob', f')) (hs : Sim w0 R L N st a w loc γ) (hx : Rep w0 R loc x cx)
    (hlo : ∀ x, lo = some x → ∃ c, clo = some c ∧ Rep w0 R loc x c) (hlo' : lo = none → clo = none)
    (hhi : ∀ x, hi = some x → ∃ c, chi = some c ∧ Rep w0 R loc x c) (hhi' : hi = none → chi = none) (hmx : mx = none → cmx = none) :
    ob' = st.ob ∧ f'.ns = f.ns ∧ ∃ c, Rep w0 R loc v c ∧ (Instr.sliceAt t cx clo chi cmx).run P w = .ok c w := by
  unfold sliceE at h
  split at h
  · rename_i s
    rw [hmx rfl]
    obtain rfl := hx
    cases hq : isStr P t with
    | false => rw [hq] at h; simp [Eff.exec] at h
    | true =>
      rw [hq] at h
      have hu := isStr_run hq
      simp only [cond_true] at h
      obtain ⟨l, u, h0, h1, h2, hk, hr⟩ := bounds_exec (P := P) (w := w) (isS := false) (cap := s.size) (len := s.size) h hlo hlo' hhi hhi' rfl (Nat.le_refl _)
      simp only [Eff.exec, Option.some.injEq, Prod.mk.injEq] at hk
      obtain ⟨rfl, rfl, rfl⟩ := hk
      refine ⟨rfl, rfl, _, rfl, ?_⟩
      simp only [Instr.sliceAt, Sem.run_bind, run_underlying hu, Result.andThen_ok, Instr.slice, Option.isSome_none, Bool.false_eq_true, if_false, Sem.run_pure, hr, subs]
  · rename_i e xs
    rw [hmx rfl]
    obtain ⟨ad, cap, rfl, hrow⟩ := hx
    cases hq : slElem P t with
    | none => rw [hq] at h; simp [Eff.exec] at h
    | some p =>
      obtain ⟨el, n⟩ := p
      rw [hq] at h
      simp only at h
      cases hb : Nat.beq n e.size with
      | false => rw [hb] at h; simp [Eff.exec] at h
      | true =>
        rw [hb] at h
        obtain ⟨hu, ⟨b, htb⟩, rfl⟩ := slElem_run hq
        have hsz := Nat.eq_of_beq_eq_true hb
        simp only [cond_true] at h
        obtain ⟨l, u, h0, h1, h2, hk, hr⟩ := bounds_exec (P := P) (w := w) (isS := true) (cap := cap) (len := List.length xs) h hlo hlo' hhi hhi' rfl hrow.1
        simp only [Eff.exec, Option.some.injEq, Prod.mk.injEq] at hk
        obtain ⟨rfl, rfl, rfl⟩ := hk
        refine ⟨rfl, rfl, .slice (if cap = l.toNat then ad else ad.map (·.add (l.toNat * tsize P el))) (u.toNat - l.toNat) (cap - l.toNat), ?_, ?_⟩
        · rw [hsz]
          refine ⟨_, _, ?_, hrow.sub h0 h1 h2⟩
          congr 1
          simp [dropI, takeI]; simp [ln] at h2; omega
        · simp only [Instr.sliceAt, Sem.run_bind, run_underlying hu, Result.andThen_ok, Instr.slice, hr, run_size htb, Sem.run_pure]
  · rename_i id
    rw [hmx rfl]
    try simp only [Eff.exec] at h
    split at h
    · rename_i o ho
      split at h
      · rename_i nl e xs
        cases hq : slElem P t with
        | none => rw [hq] at h; simp [Eff.exec] at h
        | some p =>
          obtain ⟨el, n⟩ := p
          rw [hq] at h
          simp only at h
          cases hb : Nat.beq n e.size with
          | false => rw [hb] at h; simp [Eff.exec] at h
          | true =>
            rw [hb] at h
            obtain ⟨hu, ⟨b, htb⟩, rfl⟩ := slElem_run hq
            have hsz := Nat.eq_of_beq_eq_true hb
            obtain ⟨_, k2, k3, k4, _, _⟩ := hs.ob id _ ho
            obtain rfl := hx
            simp only [cond_true] at h
            obtain ⟨l, u, h0, h1, h2, hk, hr⟩ := bounds_exec (P := P) (w := w) (isS := true) (cap := (loc id).cap) (len := (loc id).len) h hlo hlo' hhi hhi' (by rw [k3]; rfl) (by rw [k3]; exact k4.1)
            simp only [Eff.exec, Option.some.injEq, Prod.mk.injEq] at hk
            obtain ⟨rfl, rfl, rfl⟩ := hk
            simp only [ln] at h2
            refine ⟨rfl, rfl, _, ⟨h0, h1, by rw [k3]; exact h2, rfl⟩, ?_⟩
            simp only [Instr.sliceAt, Sem.run_bind, run_underlying hu, Result.andThen_ok, Instr.slice, hr, run_size htb, Sem.run_pure]
            rw [k2, hsz, show (u - l).toNat = u.toNat - l.toNat by omega]
      · simp [Eff.exec] at h
    · cases h
  · simp [Eff.exec] at h

theorem indexAddr_run {t : TypeId} {x i v : V} {cx ci : Value} {ob' : Ob} {f f' : Fp} (h : (indexAddrE P t x i).exec st.ob f = some (v, ob', f')) (hs : Sim w0 R L N st a w loc γ)
    (hx : Rep w0 R loc x cx) (hi : Rep w0 R loc i ci) : ob' = st.ob ∧ f'.ns = f.ns ∧ ∃ c, Rep w0 R loc v c ∧ (Instr.indexAt t cx ci).run P w = .ok c w := by
  unfold indexAddrE at h
  split at h
  · rename_i id k i
    obtain rfl := hi
    try simp only [Eff.exec] at h
    split at h
    · rename_i o ho
      split at h
      · rename_i nl e xs
        cases hq : slElem P t with
        | none => rw [hq] at h; simp [Eff.exec] at h
        | some p =>
          obtain ⟨el, n⟩ := p
          rw [hq] at h
          simp only at h
          cases hb : Nat.beq n e.size with
          | false => rw [hb] at h; simp [Eff.exec] at h
          | true =>
            rw [hb] at h
            obtain ⟨hu, ⟨b, htb⟩, rfl⟩ := slElem_run hq
            have hsz := Nat.eq_of_beq_eq_true hb
            obtain ⟨_, k2, k3, k4, _, _⟩ := hs.ob id _ ho
            obtain rfl := hx
            simp only [cond_true, Eff.exec] at h
            split at h
            · rename_i h1
              try simp only [Eff.exec] at h
              split at h
              · rename_i h2
                simp only [leI_eq, ltI_eq, decide_eq_true_eq] at h1
                simp only [leI_eq, ltI_eq, decide_eq_true_eq] at h2
                simp only [Eff.exec, Option.some.injEq, Prod.mk.injEq] at h
                obtain ⟨rfl, rfl, rfl⟩ := h
                simp only [ln] at h2
                rw [← k3] at h2
                cases hlo : (loc id).a with
                | none => have := k4.2.1 hlo; have := k4.1; omega
                | some ad =>
                  have hsp := (k4.2.2 ad hlo).1
                  obtain ⟨bk, o, sp⟩ := ad
                  simp only at hsp
                  subst hsp
                  refine ⟨rfl, rfl, _, ⟨h1, h2, _, hlo, rfl⟩, ?_⟩
                  simp only [Instr.indexAt, asIntOf, Sem.run_bind, Sem.run_pure, Result.andThen_ok, run_underlying hu]
                  rw [if_pos ⟨h1, h2⟩]
                  simp [Sem.run_bind, run_size htb, k2, hsz, add_at]
              · cases h
            · cases h
      · simp [Eff.exec] at h
    · cases h
  · rename_i id lo hi' k i
    obtain rfl := hi
    try simp only [Eff.exec] at h
    split at h
    · rename_i o ho
      split at h
      · rename_i nl e xs
        cases hq : slElem P t with
        | none => rw [hq] at h; simp [Eff.exec] at h
        | some p =>
          obtain ⟨el, n⟩ := p
          rw [hq] at h
          simp only at h
          cases hb : Nat.beq n e.size with
          | false => rw [hb] at h; simp [Eff.exec] at h
          | true =>
            rw [hb] at h
            obtain ⟨hu, ⟨b, htb⟩, rfl⟩ := slElem_run hq
            have hsz := Nat.eq_of_beq_eq_true hb
            obtain ⟨_, k2, k3, k4, _, _⟩ := hs.ob id _ ho
            obtain ⟨j0, j1, j2, rfl⟩ := hx
            simp only [cond_true, Eff.exec] at h
            split at h
            · rename_i h1
              try simp only [Eff.exec] at h
              split at h
              · rename_i h2
                simp only [leI_eq, ltI_eq, decide_eq_true_eq] at h1
                simp only [leI_eq, ltI_eq, decide_eq_true_eq] at h2
                simp only [Eff.exec, Option.some.injEq, Prod.mk.injEq] at h
                obtain ⟨rfl, rfl, rfl⟩ := h
                simp only [subZ_eq] at h2
                have hcl := k4.1
                rw [← k3] at hcl
                cases hlo : (loc id).a with
                | none => have := k4.2.1 hlo; omega
                | some ad =>
                  have hsp := (k4.2.2 ad hlo).1
                  obtain ⟨bk, o, sp⟩ := ad
                  simp only at hsp
                  subst hsp
                  refine ⟨rfl, rfl, _, ⟨by simp only [addZ_eq]; omega, by simp only [addZ_eq]; omega, _, hlo, rfl⟩, ?_⟩
                  simp only [Instr.indexAt, asIntOf, Sem.run_bind, Sem.run_pure, Result.andThen_ok, run_underlying hu]
                  rw [if_neg (by omega)]
                  simp only [Option.map_some, add_at]
                  rw [if_pos ⟨h1, by omega⟩]
                  have e1 : (addZ lo i).toNat = lo.toNat + i.toNat := by simp only [addZ_eq]; omega
                  simp [Sem.run_bind, run_size htb, k2, hsz, add_at, e1, Nat.add_mul, Nat.add_assoc]
              · cases h
            · cases h
      · simp [Eff.exec] at h
    · cases h
  · rename_i e xs k i
    obtain rfl := hi
    cases hq : slElem P t with
    | none => rw [hq] at h; simp [Eff.exec] at h
    | some p =>
      obtain ⟨el, n⟩ := p
      rw [hq] at h
      simp only at h
      cases hb : Nat.beq n e.size with
      | false => rw [hb] at h; simp [Eff.exec] at h
      | true =>
        rw [hb] at h
        obtain ⟨hu, ⟨b, htb⟩, rfl⟩ := slElem_run hq
        have hsz := Nat.eq_of_beq_eq_true hb
        obtain ⟨ad, cap, rfl, k4⟩ := hx
        simp only [cond_true, Eff.exec] at h
        split at h
        · rename_i h1
          try simp only [Eff.exec] at h
          split at h
          · rename_i h2
            simp only [leI_eq, ltI_eq, decide_eq_true_eq] at h1
            simp only [leI_eq, ltI_eq, decide_eq_true_eq] at h2
            simp only [Eff.exec, Option.some.injEq, Prod.mk.injEq] at h
            obtain ⟨rfl, rfl, rfl⟩ := h
            simp only [ln] at h2
            cases ad with
            | none => have := k4.2.1 rfl; have := k4.1; omega
            | some ad =>
              obtain ⟨hsp, hR, cs, ty, fz, hh, hcap, hcells⟩ := (k4.2.2 (by have := k4.1; omega)).2.2 ad rfl
              obtain ⟨bk, o, sp⟩ := ad
              simp only at hsp hR hh hcap hcells
              subst hsp
              refine ⟨rfl, rfl, _, ⟨⟨bk, o + i.toNat * e.size, none⟩, rfl, hR, cs, ty, fz, hh, hcells _ _ (rd_get h1 h2)⟩, ?_⟩
              simp only [Instr.indexAt, asIntOf, Sem.run_bind, Sem.run_pure, Result.andThen_ok, run_underlying hu]
              rw [if_pos ⟨h1, h2⟩]
              simp [Sem.run_bind, run_size htb, hsz, add_at]
          · cases h
        · cases h
  · simp [Eff.exec] at h

theorem index_run {t : TypeId} {x i v : V} {cx ci : Value} {ob' : Ob} {f f' : Fp} (h : (indexE P t x i).exec st.ob f = some (v, ob', f'))
    (hx : Rep w0 R loc x cx) (hi : Rep w0 R loc i ci) : ob' = st.ob ∧ f'.ns = f.ns ∧ ∃ c, Rep w0 R loc v c ∧ (Instr.index t cx ci).run P w = .ok c w := by
  unfold indexE at h
  split at h
  · rename_i s k i
    obtain rfl := hi
    obtain rfl := hx
    cases hq : isStr P t with
    | false => rw [hq] at h; simp [Eff.exec] at h
    | true =>
      rw [hq] at h
      have hu := isStr_run hq
      simp only [cond_true, Eff.exec] at h
      split at h
      · rename_i h1
        try simp only [Eff.exec] at h
        split at h
        · rename_i h2
          simp only [leI_eq, ltI_eq, decide_eq_true_eq] at h1
          simp only [leI_eq, ltI_eq, decide_eq_true_eq] at h2
          simp only [Eff.exec, Option.some.injEq, Prod.mk.injEq] at h
          obtain ⟨rfl, rfl, rfl⟩ := h
          simp only [sz] at h2
          have hlt : i.toNat < s.size := by omega
          have hb : s[i.toNat]? = some s[i.toNat] := by simp [hlt]
          refine ⟨rfl, rfl, _, rfl, ?_⟩
          simp only [Instr.index, asIntOf, Sem.run_bind, Sem.run_pure, Result.andThen_ok, run_underlying hu]
          rw [if_pos h1, hb]
          have hg : s.data.toList.getD i.toNat 0 = s[i.toNat] := by
            have : i.toNat < s.data.toList.length := by simpa using hlt
            rw [List.getD_eq_getElem?_getD, List.getElem?_eq_getElem this]
            rfl
          simp only [bt, hg, Sem.run_pure]
        · cases h
      · cases h
  · simp [Eff.exec] at h

theorem field_get {s : TypeId} {f off n : Nat} {b : Bool} (h : field? P s f = some (off, n, b)) :
    ∃ fs x, P.underlying s = some (.struct fs) ∧ fs[f]? = some x ∧ x.offset = off ∧ tsize P x.type = n ∧ tagg P x.type = some b := by
  unfold field? at h
  split at h
  · rename_i fs hu
    cases hf : fs.toList[f]? with
    | none => rw [hf] at h; cases h
    | some x =>
      rw [hf] at h
      simp only at h
      cases hb : tagg P x.type with
      | none => rw [hb] at h; cases h
      | some b' =>
        rw [hb] at h
        simp only [Option.some.injEq, Prod.mk.injEq] at h
        exact ⟨fs, x, hu, by simpa using hf, h.1, h.2.1, by rw [hb, h.2.2]⟩
  · cases h
theorem fieldAt_run {s : TypeId} {f off n : Nat} {b : Bool} (h : field? P s f = some (off, n, b)) (hn : n ≠ 0) (bk o : Nat) :
    (Instr.fieldAt s (.pointer (some ⟨bk, o, none⟩)) f).run P w = .ok (.pointer (some ⟨bk, o + off, none⟩)) w := by
  obtain ⟨fs, x, hu, hf, rfl, rfl, hb⟩ := field_get h
  simp [Instr.fieldAt, run_underlying hu, hf, Instr.sureAddr, fieldPlace, run_size hb, hn, add_at]
theorem part_run {t : TypeId} {b : Bool} {cs : Array Value} {off : Nat} (hb : tagg P t = some b) :
    (b = true → (part t cs off).run P w = .ok (.agg ((cs.toList.drop off).take (tsize P t)).toArray) w) ∧
    (b = false → ∀ v, cs.toList[off]? = some v → (part t cs off).run P w = .ok v w) := by
  constructor
  · rintro rfl
    simp only [part, Sem.run_bind, run_isAgg hb, Result.andThen_ok, if_true, run_size hb, Sem.run_pure]
    congr 2
    apply Array.toList_inj.1
    simp [List.drop_take, Nat.add_sub_cancel_left]
  · rintro rfl v hv
    have hv' : cs[off]? = some v := by simpa using hv
    simp [part, Sem.run_bind, run_isAgg hb, hv']
end
end Go.Eng
