/- Reading memory. -/
import Derived.Test.YtkghicadebeceaaDoorE4
namespace Go.Eng
set_option linter.unusedSectionVars false
variable [Glb]
open Go.RowKit
set_option linter.unusedSimpArgs false

section types
variable {P : Program} {w : World} {t : TypeId} {b : Bool}
theorem info_of_tagg (h : tagg P t = some b) : ∃ i d, P.info? t = some i ∧ P.underlying t = some d := by
  unfold tagg at h
  cases hu : P.underlying t with
  | none => rw [hu] at h; cases h
  | some d =>
    have hu' := hu
    unfold Program.underlying at hu
    cases hi : P.info? t with
    | none => rw [hi] at hu; cases hu
    | some i => exact ⟨i, d, rfl, rfl⟩
theorem run_isAgg (h : tagg P t = some b) : (isAgg t).run P w = .ok b w := by
  obtain ⟨i, d, hi, hd⟩ := info_of_tagg h
  unfold tagg at h
  rw [hd] at h
  simp only [isAgg, Sem.run_bind, run_underlying hd, Result.andThen_ok]
  split at h <;> simp_all
theorem run_size (h : tagg P t = some b) : (sizeOf t).run P w = .ok (tsize P t) w := by
  obtain ⟨i, d, hi, hd⟩ := info_of_tagg h
  simp [sizeOf, typeInfo, hi, tsize, Program.cellsOf]
end types
section
variable {w0 w : World} {R L : Nat → Prop} {N : Fx} {st : St} {a : Act} {loc : Nat → Loc} {γ : Nat → Option Nat} {P : Program}
theorem cell_at {b o : Nat} {vals : Array Value} {ty : TypeId} {fz : Nat × Nat} (hb : w.heap[b]? = some (.cells vals ty fz)) : w.cell? ⟨b, o, none⟩ = vals.toList[o]? := by
  simp [World.cell?, hb]
theorem add_at {b o n : Nat} : (⟨b, o, none⟩ : Addr).add n = ⟨b, o + n, none⟩ := by
  unfold Addr.add
  split
  · rename_i h; subst h; rfl
  · rfl
theorem run_loadVar_agg {b o : Nat} {vals : Array Value} {ty t : TypeId} {fz : Nat × Nat} (hb : w.heap[b]? = some (.cells vals ty fz)) (ht : tagg P t = some true) (hn : o + tsize P t ≤ vals.size) :
    (loadVar t ⟨b, o, none⟩).run P w = .ok (.agg ((vals.toList.drop o).take (tsize P t)).toArray) w := by
  have hl : ((vals.toList.drop o).take (tsize P t)).length = tsize P t := by simp; omega
  have := run_loadCells_list (P := P) w ⟨b, o, none⟩ ((vals.toList.drop o).take (tsize P t)) (fun j v hj => by
    rw [add_at, cell_at hb]
    rw [List.getElem?_take] at hj
    split at hj
    · rwa [List.getElem?_drop] at hj
    · cases hj)
  rw [hl] at this
  simp only [loadVar, Sem.run_bind, run_isAgg ht, Result.andThen_ok, if_true, run_size ht, this, Sem.run_pure]
theorem run_loadVar_one {b o : Nat} {vals : Array Value} {ty t : TypeId} {fz : Nat × Nat} {v : Value} (hb : w.heap[b]? = some (.cells vals ty fz)) (ht : tagg P t = some false) (hv : vals.toList[o]? = some v) :
    (loadVar t ⟨b, o, none⟩).run P w = .ok v w := by
  simp only [loadVar, Sem.run_bind, run_isAgg ht, Result.andThen_ok, Bool.false_eq_true, if_false, run_load, cell_at hb, hv]
theorem CT.rep_toV : ∀ (c : CT) (v : Value) (x : c.D), CT.Cell w0 R c v x → Rep w0 R loc (c.toV x) v
  | .int _, _, _, h => h
  | .bool, _, _, h => h
  | .str, _, _, h => h
  | .row _, _, _, h => h
theorem CTs.get : ∀ (e : CTs) (vs : List Value) (x : e.D) (j : Nat), CTs.Cells w0 R e vs x → j < e.size → ∃ c, vs[j]? = some c ∧ Rep w0 R loc (e.cellV x j) c
  | .one c, vs, x, 0, ⟨v, h1, h2⟩, _ => ⟨v, h1, CT.rep_toV c v x h2⟩
  | .one _, _, _, j + 1, _, hj => by simp [CTs.size] at hj
  | .cons c _, vs, x, 0, ⟨v, h1, h2, _⟩, _ => ⟨v, h1, CT.rep_toV c v x.1 h2⟩
  | .cons _ cs, vs, x, j + 1, ⟨_, _, _, h3⟩, hj => by
    obtain ⟨c, h4, h5⟩ := CTs.get cs (vs.drop 1) x.2 j h3 (by simp [CTs.size] at hj; omega)
    exact ⟨c, by rw [List.getElem?_drop] at h4; rw [Nat.add_comm]; exact h4, h5⟩
theorem CTs.gets (e : CTs) (vs : List Value) (x : e.D) (h : CTs.Cells w0 R e vs x) : ∀ (n j : Nat), j + n ≤ e.size → RepL w0 R loc (e.cellsV x j n) ((vs.drop j).take n)
  | 0, _, _ => by simp [CTs.cellsV, RepL, Rep.go]
  | n + 1, j, hj => by
    obtain ⟨c, h1, h2⟩ := CTs.get (loc := loc) e vs x j h (by omega)
    have hlt : j < vs.length := (List.getElem?_eq_some_iff.1 h1).1
    rw [List.drop_eq_getElem_cons hlt, List.take_succ_cons]
    refine ⟨?_, CTs.gets e vs x h n (j + 1) (by omega)⟩
    rw [List.getElem?_eq_getElem hlt] at h1
    rw [Option.some.inj h1]
    exact h2
theorem CTs.len : ∀ (e : CTs) (vs : List Value) (x : e.D), CTs.Cells w0 R e vs x → e.size ≤ vs.length
  | .one _, vs, _, ⟨v, h1, _⟩ => by have := (List.getElem?_eq_some_iff.1 h1).1; simp [CTs.size]; omega
  | .cons _ cs, vs, x, ⟨v, h1, _, h3⟩ => by
    have := (List.getElem?_eq_some_iff.1 h1).1
    have := CTs.len cs _ x.2 h3
    simp [CTs.size] at *; omega
theorem CTs.size_pos (e : CTs) : 0 < e.size := by cases e <;> simp [CTs.size]
theorem rd_get {α : Type} {xs : List α} {i : Int} {z : α} (h0 : 0 ≤ i) (h : i < xs.length) : xs[i.toNat]? = some (rd xs i z) := by
  have : i.toNat < xs.length := by omega
  simp [rd, List.getD, List.getElem?_eq_getElem this]

theorem load_run {t : TypeId} {x v : V} {cx : Value} {ob' : Ob} {f f' : Fp} (h : (loadE P t x).exec st.ob f = some (v, ob', f')) (hs : Sim w0 R L N st a w loc γ) (hx : Rep w0 R loc x cx) :
    ob' = st.ob ∧ f'.ns = f.ns ∧ ∃ c, Rep w0 R loc v c ∧ (Instr.loadAt t cx).run P w = .ok c w := by
  unfold loadE at h
  split at h
  · -- a box, several cells
    rename_i id off ht
    simp only [Eff.exec] at h
    split at h
    · rename_i o ho
      split at h
      · rename_i cs
        cases hb : Nat.ble (off + tsize P t) cs.length with
        | false => rw [hb] at h; simp [Eff.exec] at h
        | true =>
          rw [hb] at h
          simp only [cond_true, Eff.exec, Option.some.injEq, Prod.mk.injEq] at h
          obtain ⟨rfl, rfl, rfl⟩ := h
          obtain ⟨b, hb1, rfl⟩ := hx
          obtain ⟨b', vals, ty, fz, h1, _, h3, h4, _⟩ := hs.ob id _ ho
          rw [hb1] at h1
          obtain rfl : b = b' := by simpa using h1
          have hn := Nat.le_of_ble_eq_true hb
          rw [RepL.length h4] at hn
          refine ⟨rfl, rfl, _, ⟨_, rfl, ?_⟩, by simp only [Instr.loadAt, Instr.sureAddr, Sem.run_bind, Sem.run_pure, Result.andThen_ok]; exact run_loadVar_agg h3 ht (by simpa using hn)⟩
          simpa using (h4.drop off).take (tsize P t)
      · simp [Eff.exec] at h
    · cases h
  · rename_i id off ht
    simp only [Eff.exec] at h
    split at h
    · rename_i o ho
      split at h
      · rename_i cs
        cases hc : cs[off]? with
        | none => rw [hc] at h; simp [Eff.exec] at h
        | some u =>
          rw [hc] at h
          simp only [Eff.exec, Option.some.injEq, Prod.mk.injEq] at h
          obtain ⟨rfl, rfl, rfl⟩ := h
          obtain ⟨b, hb1, rfl⟩ := hx
          obtain ⟨b', vals, ty, fz, h1, _, h3, h4, _⟩ := hs.ob id _ ho
          rw [hb1] at h1
          obtain rfl : b = b' := by simpa using h1
          obtain ⟨c, hc1, hc2⟩ := h4.get hc
          exact ⟨rfl, rfl, c, hc2, by simp only [Instr.loadAt, Instr.sureAddr, Sem.run_bind, Sem.run_pure, Result.andThen_ok]; exact run_loadVar_one h3 ht hc1⟩
      · simp [Eff.exec] at h
    · cases h
  · rename_i id i off ht
    simp only [Eff.exec] at h
    split at h
    · rename_i o ho
      split at h
      · rename_i nl e xs
        cases hb : Nat.ble (off + tsize P t) e.size with
        | false => rw [hb] at h; simp [Eff.exec] at h
        | true =>
          rw [hb] at h
          simp only [cond_true, Eff.exec, Option.some.injEq, Prod.mk.injEq] at h
          obtain ⟨rfl, rfl, rfl⟩ := h
          obtain ⟨hi0, hi1, ad, had, rfl⟩ := hx
          obtain ⟨_, hsz, hlen, hrow, _, _⟩ := hs.ob id _ ho
          obtain ⟨hsp, _, cs, ty, fz, hh, hcap, hcells⟩ := hrow.2.2 ad had
          rw [hlen] at hi1
          have hcell := hcells _ _ (rd_get (z := e.zero) hi0 hi1)
          have hn := Nat.le_of_ble_eq_true hb
          have hl := CTs.len e _ _ hcell
          simp only [List.length_drop, Array.length_toList] at hl
          have hp := e.size_pos
          refine ⟨rfl, rfl, _, ⟨_, rfl, ?_⟩, by simp only [Instr.loadAt, Instr.sureAddr, Sem.run_bind, Sem.run_pure, Result.andThen_ok]; exact run_loadVar_agg hh ht (by rw [hsz]; omega)⟩
          have := CTs.gets (loc := loc) e _ _ hcell (tsize P t) off hn
          rw [List.drop_drop] at this
          rw [hsz]
          simpa using this
      · simp [Eff.exec] at h
    · cases h
  · rename_i id i off ht
    simp only [Eff.exec] at h
    split at h
    · rename_i o ho
      split at h
      · rename_i nl e xs
        cases hb : Nat.ble (off + 1) e.size with
        | false => rw [hb] at h; simp [Eff.exec] at h
        | true =>
          rw [hb] at h
          simp only [cond_true, Eff.exec, Option.some.injEq, Prod.mk.injEq] at h
          obtain ⟨rfl, rfl, rfl⟩ := h
          obtain ⟨hi0, hi1, ad, had, rfl⟩ := hx
          obtain ⟨_, hsz, hlen, hrow, _, _⟩ := hs.ob id _ ho
          obtain ⟨hsp, _, cs, ty, fz, hh, hcap, hcells⟩ := hrow.2.2 ad had
          rw [hlen] at hi1
          have hcell := hcells _ _ (rd_get (z := e.zero) hi0 hi1)
          have hn := Nat.le_of_ble_eq_true hb
          obtain ⟨c, hc1, hc2⟩ := CTs.get (loc := loc) e _ _ off hcell (by omega)
          rw [List.getElem?_drop] at hc1
          exact ⟨rfl, rfl, c, hc2, by simp only [Instr.loadAt, Instr.sureAddr, Sem.run_bind, Sem.run_pure, Result.andThen_ok]; exact run_loadVar_one hh ht (by rw [hsz]; exact hc1)⟩
      · simp [Eff.exec] at h
    · cases h
  · rename_i e x off ht
    cases hb : Nat.ble (off + tsize P t) e.size with
    | false => rw [hb] at h; simp [Eff.exec] at h
    | true =>
      rw [hb] at h
      simp only [cond_true, Eff.exec, Option.some.injEq, Prod.mk.injEq] at h
      obtain ⟨rfl, rfl, rfl⟩ := h
      obtain ⟨ad, rfl, hR, cs, ty, fz, hh, hcell⟩ := hx
      rw [← hs.same hR] at hh
      have hn := Nat.le_of_ble_eq_true hb
      have hl := CTs.len e _ _ hcell
      simp only [List.length_drop, Array.length_toList] at hl
      by_cases hz : tsize P t = 0
      · by_cases hle : ad.off + off ≤ cs.size
        · refine ⟨rfl, rfl, _, ⟨_, rfl, ?_⟩, by simp only [Instr.loadAt, Instr.sureAddr, Sem.run_bind, Sem.run_pure, Result.andThen_ok]; exact run_loadVar_agg hh ht (by omega)⟩
          rw [hz]; simp [CTs.cellsV, RepL, Rep.go]
        · exact absurd hl (by have : e.size ≠ 0 := by cases e <;> simp [CTs.size]
                              omega)
      · refine ⟨rfl, rfl, _, ⟨_, rfl, ?_⟩, by simp only [Instr.loadAt, Instr.sureAddr, Sem.run_bind, Sem.run_pure, Result.andThen_ok]; exact run_loadVar_agg hh ht (by omega)⟩
        have := CTs.gets (loc := loc) e _ _ hcell (tsize P t) off hn
        rw [List.drop_drop] at this
        simpa using this
  · rename_i e x off ht
    cases hb : Nat.ble (off + 1) e.size with
    | false => rw [hb] at h; simp [Eff.exec] at h
    | true =>
      rw [hb] at h
      simp only [cond_true, Eff.exec, Option.some.injEq, Prod.mk.injEq] at h
      obtain ⟨rfl, rfl, rfl⟩ := h
      obtain ⟨ad, rfl, hR, cs, ty, fz, hh, hcell⟩ := hx
      rw [← hs.same hR] at hh
      have hn := Nat.le_of_ble_eq_true hb
      obtain ⟨c, hc1, hc2⟩ := CTs.get (loc := loc) e _ _ off hcell (by omega)
      rw [List.getElem?_drop] at hc1
      exact ⟨rfl, rfl, c, hc2, by simp only [Instr.loadAt, Instr.sureAddr, Sem.run_bind, Sem.run_pure, Result.andThen_ok]; exact run_loadVar_one hh ht hc1⟩
  · simp [Eff.exec] at h
end
end Go.Eng
