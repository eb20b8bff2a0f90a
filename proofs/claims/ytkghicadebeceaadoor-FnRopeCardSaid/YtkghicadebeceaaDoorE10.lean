/- Stores, appends, conversions. -/
import Derived.Test.YtkghicadebeceaaDoorE9
namespace Go.Eng
set_option linter.unusedSectionVars false
variable [Glb]
open Go.RowKit
set_option linter.unusedSimpArgs false
set_option linter.unusedVariables false

section
variable {w0 w w' : World} {R L : Nat → Prop} {N : Fx} {st : St} {a : Act} {loc : Nat → Loc} {γ : Nat → Option Nat} {P : Program}

theorem store_goes {o : Oper} {t : TypeId} {x y : Operand} {ob' : Ob} {f' : Fp} {v : V} (hop : o.op = .store t x y) (hs : Sim w0 R L N st a w loc γ)
    (h : (storeE P t (st.rv x) (st.rv y)).exec st.ob ⟨[], [], []⟩ = some (v, ob', f')) : Goes P o w0 R L N st a w v ob' f'.ns := by
  have ex := hs.eval x
  have ey := hs.eval y
  unfold storeE at h
  split at h
  · simp [Eff.exec] at h
  · rename_i vs hvs
    have hr := cells_rep hvs ey
    cases hb : Nat.beq vs.length (tsize P t) && (tagg P t).isSome && vs.all V.solid with
    | false => rw [hb] at h; simp [Eff.exec] at h
    | true =>
      rw [hb] at h
      simp only [cond_true] at h
      simp only [Bool.and_eq_true] at hb
      have hsz := Nat.eq_of_beq_eq_true hb.1.1
      rw [RepL.length hr] at hsz
      obtain ⟨bb, ht⟩ := Option.isSome_iff_exists.1 hb.1.2
      have h1 := solids_one hb.2 hr
      split at h
      · rename_i id off hx
        simp only [Eff.exec] at h
        split at h
        · rename_i ox ho
          split at h
          · rename_i cs
            cases hle : Nat.ble (off + vs.length) cs.length with
            | false => rw [hle] at h; simp [Eff.exec] at h
            | true =>
              rw [hle] at h
              simp only [cond_true, Eff.exec, ho, Option.some.injEq, Prod.mk.injEq] at h
              obtain ⟨rfl, rfl, rfl⟩ := h
              have hle := Nat.le_of_ble_eq_true hle
              rw [hx] at ex
              obtain ⟨b, hb1, hxv⟩ := ex
              obtain ⟨b', vals, ty, fz, k1, k2, k3, k4, k5⟩ := hs.ob id _ ho
              rw [hb1] at k1
              obtain rfl : b = b' := by simpa using k1
              rw [RepL.length hr, RepL.length k4] at hle
              have hrun := store_run (P := P) (o := off) k3 k5 ht hsz (by simpa using hle) h1
              obtain ⟨g1, g2, g3⟩ := setCells_heap (a.eval y).cells.toList off w vals k3
              have hcol := hs.col b id k2
              refine goes_skip (loc' := loc) (γ' := γ) (w' := w.setCells b off (a.eval y).cells.toList) (hs.set (id := id) (Frm.setCells hcol.1 _ _ _ hs.fr) (by omega) (fun k j hj hk => g2 k (fun e => by subst e; rw [k2] at hk; exact hj (Option.some.inj hk).symm)) ?_) (Rep_undef) ?_
              · refine ⟨b, _, ty, fz, hb1, k2, g1, ?_, ?_⟩
                · exact k4.sets off hr
                · simpa [setCells_length] using k5
              · simp only [execOp, hop, Sem.run_bind]
                rw [hxv, hrun]
                rfl
          · simp [Eff.exec] at h
        · cases h
      · rename_i id i off hx
        simp only [Eff.exec] at h
        split at h
        · rename_i ox ho
          split at h
          · rename_i nl e xs
            split at h
            · rename_i x' hx'
              simp only [Eff.exec, ho, Option.some.injEq, Prod.mk.injEq] at h
              obtain ⟨rfl, rfl, rfl⟩ := h
              rw [hx] at ex
              obtain ⟨hi0, hi1, ad, had, hxv⟩ := ex
              obtain ⟨k1, k2, k3, k4, k5, k6⟩ := hs.ob id _ ho
              obtain ⟨hsp, hγ, cs, ty, fz, hh, hcap, hcells⟩ := k4.2.2 ad had
              have hsl : (a.eval y).cells.toList.length = (a.eval y).cells.size := by simp
              have k2' : i.toNat * (loc id).sz = i.toNat * e.size := by rw [k2]
              have hi1' := hi1
              rw [k3] at hi1'
              have hcell := hcells _ _ (rd_get (z := e.zero) hi0 hi1')
              have hl := CTs.len e _ _ hcell
              simp only [List.length_drop, Array.length_toList] at hl
              have hp := e.size_pos
              have hoff : vs ≠ [] → off + (a.eval y).cells.toList.length ≤ e.size := fun hne => by
                rw [← RepL.length hr]
                exact Cells_end e _ x' off vs hx' hne
              have hle : ad.off + i.toNat * (loc id).sz + off + (a.eval y).cells.toList.length ≤ cs.size ∨ vs = [] := by
                by_cases hne : vs = []
                · exact .inr hne
                · have := hoff hne
                  rw [k2]
                  exact .inl (by omega)
              have hmul : ∀ k q : Nat, k < xs.length → q < e.size → k * e.size + q < xs.length * e.size := fun k q hk hq => by
                have : (k + 1) * e.size ≤ xs.length * e.size := Nat.mul_le_mul_right _ hk
                rw [Nat.add_mul] at this
                omega
              have hne_or : vs ≠ [] ∨ vs = [] := by by_cases h : vs = [] <;> simp [h]
              have hrun : (Instr.storeAt t (.pointer (some ⟨ad.block, ad.off + i.toNat * (loc id).sz + off, none⟩)) (a.eval y)).run P w = .ok () (w.setCells ad.block (ad.off + i.toNat * (loc id).sz + off) (a.eval y).cells.toList) := by
                rcases hle with hle | hnil
                · exact store_run (P := P) hh (k5 ad cs ty fz had hh) ht hsz hle h1
                · have hcy : (a.eval y).cells.toList = [] := by
                    have := RepL.length hr
                    rw [hnil] at this
                    exact List.eq_nil_of_length_eq_zero this.symm
                  simp only [Instr.storeAt, Instr.sureAddr, Sem.run_bind, Sem.run_pure, Result.andThen_ok, storeVar, run_size ht]
                  rw [if_neg (by simpa using hsz), hcy]
                  rfl
              obtain ⟨g1, g2, g3⟩ := setCells_heap (a.eval y).cells.toList (ad.off + i.toNat * (loc id).sz + off) w cs hh
              have hcol := hs.col ad.block id hγ
              refine goes_skip (loc' := loc) (γ' := γ) (w' := w.setCells ad.block (ad.off + i.toNat * (loc id).sz + off) (a.eval y).cells.toList) (hs.set (id := id) (Frm.setCells hcol.1 _ _ _ hs.fr) (by omega) (fun k j hj hk => g2 k (fun e => by subst e; rw [hγ] at hk; exact hj (Option.some.inj hk).symm)) ?_) (Rep_undef) ?_
              · refine ⟨k1, k2, by simp [setI, k3], ⟨by simpa [setI] using k4.1, k4.2.1, fun ad' had' => ?_⟩, fun ad' cs' ty' fz' had' hh' => ?_, k6⟩
                · rw [had] at had'
                  obtain rfl := Option.some.inj had'
                  refine ⟨hsp, hγ, _, ty, fz, g1, by simpa [setCells_length] using hcap, fun k x hk => ?_⟩
                  simp only [setI, List.getElem?_set] at hk
                  rw [k2]
                  by_cases hki : i.toNat = k
                  · subst hki
                    rw [if_pos rfl, if_pos (by omega)] at hk
                    obtain rfl := Option.some.inj hk
                    have hset := CTs.setsV_rep vs (a.eval y).cells.toList e _ _ x' off hx' hcell hr
                    refine CTs.Cells.congr e _ _ x' (fun j hj => ?_) hset
                    rw [List.getElem?_drop, setCells_get, setCells_get]
                    simp only [List.length_drop, Array.length_toList]
                    by_cases hin : off ≤ j ∧ j < off + (a.eval y).cells.toList.length
                    · rw [if_pos ⟨by omega, by omega, by omega⟩, if_pos ⟨hin.1, hin.2, by omega⟩]
                      congr 1
                      omega
                    · rw [if_neg (fun h => hin ⟨by omega, by omega⟩), if_neg (fun h => hin ⟨h.1, h.2.1⟩), List.getElem?_drop]
                  · rw [if_neg hki] at hk
                    have hc := hcells k x hk
                    have hkl := (List.getElem?_eq_some_iff.1 hk).1
                    refine CTs.Cells.congr e _ _ x (fun j hj => ?_) hc
                    rw [List.getElem?_drop, List.getElem?_drop, setCells_get]
                    rw [if_neg]
                    rintro ⟨q1, q2, q3⟩
                    have hne : vs ≠ [] := fun h => by
                      have := RepL.length hr
                      rw [h] at this
                      simp only [List.length_nil] at this
                      omega
                    have := hoff hne
                    rcases Nat.lt_or_gt_of_ne hki with hlt | hgt
                    · have : (i.toNat + 1) * e.size ≤ k * e.size := Nat.mul_le_mul_right _ hlt
                      rw [Nat.add_mul] at this
                      omega
                    · have : (k + 1) * e.size ≤ i.toNat * e.size := Nat.mul_le_mul_right _ hgt
                      rw [Nat.add_mul] at this
                      omega
                · rw [had] at had'
                  obtain rfl := Option.some.inj had'
                  rw [g1] at hh'
                  simp only [Option.some.injEq, Obj.cells.injEq] at hh'
                  obtain ⟨rfl, _, rfl⟩ := hh'
                  simpa [setCells_length] using k5 ad cs ty fz had hh
              · simp only [execOp, hop, Sem.run_bind]
                rw [hxv, hrun]
                rfl
            · simp [Eff.exec] at h
          · simp [Eff.exec] at h
        · cases h
      · simp [Eff.exec] at h
end
end Go.Eng
