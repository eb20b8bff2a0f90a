/- Rows that are made, written, appended to. -/
import Derived.Test.YtkghicadebeceaaDoorE8
import Derived.Laws.IdiomStrings
namespace Go.Eng
set_option linter.unusedSectionVars false
variable [Glb]
open Go.RowKit
set_option linter.unusedSimpArgs false
set_option linter.unusedVariables false

section
variable {w0 w w' : World} {R L : Nat → Prop} {N : Fx} {st : St} {a : Act} {loc : Nat → Loc} {γ : Nat → Option Nat} {P : Program}

theorem bytes_info {e : TypeId} {i : TypeInfo} (h : P.info? e = some i) : P.bytesOf e = i.bytes := by simp [Program.bytesOf, h]
theorem size_info {e : TypeId} {i : TypeInfo} (h : P.info? e = some i) : tsize P e = i.size := by simp [tsize, Program.cellsOf, h]
theorem made_list {c : Value} {n s : Nat} (hz : c.cells.toList.length = s) : (madeCells c.cells (n * s)).toList = (List.replicate n c.cells.toList).flatten := by
  rw [← range_chunks hz n]
  unfold madeCells
  rw [Array.toList_map, Array.toList_range]
  apply List.map_congr_left
  intro i _
  rw [show c.cells.size = s by simpa using hz]
  rw [List.getElem!_eq_getElem?_getD]
  simp [getElem!_def]
  cases h : c.cells[i % s]? <;> simp [h]

theorem CTs.setV_lt : ∀ (e : CTs) (j : Nat) (x x' : e.D) (v : V), e.setV x j v = some x' → j < e.size
  | .one c => by
    intro j x x' v h
    cases j with
    | zero => simp [CTs.size]
    | succ j => simp [CTs.setV] at h
  | .cons c cs => by
    intro j x x' v h
    cases j with
    | zero => simp [CTs.size]
    | succ j =>
      simp only [CTs.setV] at h
      cases hd : cs.setV x.2 j v with
      | none => rw [hd] at h; cases h
      | some d => have := CTs.setV_lt cs j x.2 d v hd; simp [CTs.size]; omega
theorem makeSlice_goes {o : Oper} {t : TypeId} {x y : Operand} {ob' : Ob} {f' : Fp} {v : V} (hop : o.op = .makeSlice t x y) (hs : Sim w0 R L N st a w loc γ)
    (h : (makeSliceE P o.dst t (st.rv x) (st.rv y)).exec st.ob ⟨[], [], []⟩ = some (v, ob', f')) : Goes P o w0 R L N st a w v ob' f'.ns := by
  unfold makeSliceE at h
  split at h
  · rename_i e ct n by_ k l k' c hq hx hy
    obtain ⟨hu, ⟨b, htb⟩, hn, hcs, hflat, hby, z, hz, hzl⟩ := elemOf_run hq
    cases hb0 : Nat.beq by_ 0 with
    | true => rw [hb0] at h; simp [Eff.exec] at h
    | false =>
      rw [hb0] at h
      simp only [cond_false] at h
      simp only [zeroV, hz] at h
      split at h
      · rename_i d hd
        simp only [Eff.exec] at h
        split at h
        · rename_i h1
          split at h
          · rename_i h2
            split at h
            · rename_i h3
              split at h
              · rename_i hid
                simp only [Option.some.injEq, Prod.mk.injEq] at h
                obtain ⟨rfl, rfl, rfl⟩ := h
                simp only [leI_eq, ltI_eq, decide_eq_true_eq] at h1
                simp only [leI_eq, ltI_eq, decide_eq_true_eq] at h2
                simp only [leI_eq, ltI_eq, decide_eq_true_eq] at h3
                simp only [mulZ_eq, lenBound] at h3
                have hby0 : by_ ≠ 0 := fun e => by subst e; simp at hb0
                obtain ⟨cv, hc1, hc2, i, hi, hiz⟩ := zeroV_run (w0 := w0) (R := R) (loc := loc) (w := w) hz
                have hsi := size_info hi
                have hbi := bytes_info hi
                have hcl := RepL.length hc2
                have hc0 : 0 ≤ c := by omega
                have hcb : (i.bytes : Int) * c < 140737488355328 := by rw [Int.mul_comm, ← hbi, ← hby]; exact h3
                have hc63 : c ≤ 9223372036854775807 := by
                  have : c * 1 ≤ c * (by_ : Int) := Int.mul_le_mul_of_nonneg_left (by omega) hc0
                  omega
                have ex := hs.eval x
                have ey := hs.eval y
                rw [hx] at ex
                rw [hy] at ey
                have hr := run_make (P := P) w t e i cv hu hi hiz k k' l c h1 h2 (by omega) hc63
                have hsz : i.size = ct.size := by rw [← hsi, ← hn, hcs]
                have hml := made_list (c := cv) (n := c.toNat) (s := i.size) (by rw [← hcl, hzl, hn, hsi])
                have hdc := CTs.ofVs_rep ct z _ d hd hc2
                obtain ⟨loc', γ', g1, g2⟩ := hs.new_row (id := tag o.dst 0) (w' := w.alloc (.cells (madeCells cv.cells (c.toNat * i.size)) e)) hid (tag_ge _ _) (hs.fr.alloc _) (by simp) (fun k hk => Below.heap_alloc _ _ _ hk) (heap_new _) (fun o _ h => by simp at h)
                  hflat (xs := repI l d) (cap := c.toNat) (by simp [repI]; omega) (by rw [size_madeCells, hsz]; exact Nat.le_refl _) (fun j x hx => by
                    rw [hml, ← hsz, drop_chunks (by rw [← hcl, hzl, hn, hsi])]
                    simp only [repI, List.getElem?_replicate] at hx
                    split at hx
                    · rename_i hj
                      obtain rfl := Option.some.inj hx
                      have : c.toNat - j ≠ 0 := by omega
                      obtain ⟨m, hm⟩ := Nat.exists_eq_succ_of_ne_zero this
                      rw [hm, List.replicate_succ, List.flatten_cons]
                      refine CTs.Cells.congr ct _ _ _ (fun q hq => ?_) hdc
                      rw [List.getElem?_append_left (by rw [← hcl, hzl]; omega)]
                    · cases hx) (nl := .is false) (by simp)
                refine goes_world g1 g2 ?_
                have ex' : a.eval x = .int k l := ex
                have ey' : a.eval y = .int k' c := ey
                simp only [execOp, hop, Sem.run_bind, ex', ey', hr]
                simp [repI]
              · cases h
            · cases h
          · cases h
        · cases h
      · simp [Eff.exec] at h
  · simp [Eff.exec] at h
theorem buildSlice_goes {o : Oper} {t : TypeId} {n : Nat} {ps : Array (Nat × Operand)} {ob' : Ob} {f' : Fp} {v : V} (hop : o.op = .buildSlice t n ps) (hs : Sim w0 R L N st a w loc γ)
    (h : (buildSliceE P o.dst t n (ps.toList.map fun p => (p.1, st.rv p.2))).exec st.ob ⟨[], [], []⟩ = some (v, ob', f')) : Goes P o w0 R L N st a w v ob' f'.ns := by
  unfold buildSliceE at h
  split at h
  · rename_i e ct s by_ hq
    obtain ⟨hu, ⟨b, htb⟩, hn, hcs, hflat, hby, z, hz, hzl⟩ := elemOf_run hq
    cases hb0 : Nat.ble (n * s) (2 ^ 24) with
    | false => rw [hb0] at h; simp [Eff.exec] at h
    | true =>
      rw [hb0] at h
      simp only [cond_true, zeroV, hz] at h
      split at h
      · rename_i cs hcs'
        split at h
        · rename_i xs hxs
          simp only [Eff.exec] at h
          split at h
          · rename_i hid
            simp only [Option.some.injEq, Prod.mk.injEq] at h
            obtain ⟨rfl, rfl, rfl⟩ := h
            obtain ⟨cv, hc1, hc2, i, hi, hiz⟩ := zeroV_run (w0 := w0) (R := R) (loc := loc) (w := w) hz
            have hcl := RepL.length hc2
            have hle := Nat.le_of_ble_eq_true hb0
            have hml := made_list (c := cv) (n := n) (s := s) (by rw [← hcl, hzl])
            have h0 : RepL w0 R loc (List.replicate n z).flatten (madeCells cv.cells (n * s)).toList := by rw [hml]; exact RepL.chunk hc2 n
            obtain ⟨vals', g1, g2⟩ := putElems_fill (n := s) _ _ _ cs (madeCells cv.cells (n * s)) (RepP.ops hs ps.toList) h0 hcs'
            have hlen : vals'.toList.length = n * s := by
              have e1 := RepL.length g2
              have e2 : cs.length = (List.replicate n z).flatten.length := by
                have key : ∀ (l : List (Nat × V)) (us us' : List V), putElems s us l = some us' → us'.length = us.length := by
                  intro l
                  induction l with
                  | nil => intro us us' h; simp [putElems] at h; rw [h]
                  | cons p l ih =>
                    intro us us' h
                    simp only [putElems] at h
                    split at h
                    · cases hq : Nat.beq (List.length ‹List V›) s && Nat.ble (p.1 * s + s) us.length with
                      | false => rw [hq] at h; cases h
                      | true => rw [hq] at h; rw [ih _ _ h, setCells_length]
                    · cases h
                exact key _ _ _ hcs'
              rw [← e1, e2]
              simp [hzl]
            obtain ⟨k1, k2⟩ := chunks_cells hcs n cs vals'.toList xs hxs g2 (by omega)
            obtain ⟨loc', γ', j1, j2⟩ := hs.new_row (id := tag o.dst 0) (w' := w.alloc (.cells vals' e)) hid (tag_ge _ _) (hs.fr.alloc _) (by simp) (fun k hk => Below.heap_alloc _ _ _ hk) (heap_new _) (fun o _ h => by simp at h)
              hflat (xs := xs) (cap := n) (by omega) (by rw [Array.length_toList] at hlen; rw [hcs]; omega) (fun i x hx => by rw [hcs]; exact k2 i x hx) (nl := .is false) (by simp)
            refine goes_world j1 j2 ?_
            simp only [execOp, hop, Sem.run_bind, Instr.buildSlice, run_underlying hu, Result.andThen_ok, run_size htb, ← hn]
            rw [if_neg (by omega)]
            by_cases hz0 : n * s = 0
            · rw [if_pos hz0]
              have hr : (Array.range (n * s)).map (fun x => (#[] : Array Value)[x % (#[] : Array Value).size]!) = madeCells cv.cells (n * s) := by
                unfold madeCells
                rw [hz0, show Array.range 0 = (#[] : Array Nat) from rfl]
                simp
              simp only [Sem.run_bind, Sem.run_pure, Result.andThen_ok]
              rw [hr, Array.toList_map, g1]
              simp [newRow, k1]
            · rw [if_neg hz0]
              simp only [Sem.run_bind, Sem.run_pure, Result.andThen_ok, hc1]
              rw [show (Array.range (n * s)).map (fun x => cv.cells[x % cv.cells.size]!) = madeCells cv.cells (n * s) from rfl, Array.toList_map, g1]
              simp [newRow, k1]
          · cases h
        · simp [Eff.exec] at h
      · simp [Eff.exec] at h
  · simp [Eff.exec] at h

/-! ### writing -/
theorem setCells_heap {b : Nat} {ty : TypeId} {fz : Nat × Nat} : ∀ (us : List Value) (o : Nat) (w : World) (vals : Array Value), w.heap[b]? = some (.cells vals ty fz) →
    (w.setCells b o us).heap[b]? = some (.cells (setCells vals.toList o us).toArray ty fz) ∧ (∀ k, k ≠ b → (w.setCells b o us).heap[k]? = w.heap[k]?) ∧ (w.setCells b o us).heap.size = w.heap.size
  | [], o, w, vals, h => ⟨by simpa [World.setCells, setCells] using h, fun _ _ => rfl, rfl⟩
  | u :: us, o, w, vals, h => by
    have h1 : (w.setCell ⟨b, o, none⟩ u).heap[b]? = some (.cells (vals.setIfInBounds o u) ty fz) := by simp only [World.setCell, Array.getElem?_modify, h]; rfl
    obtain ⟨h2, h3, h4⟩ := setCells_heap us (o + 1) (w.setCell ⟨b, o, none⟩ u) _ h1
    refine ⟨?_, fun k hk => by simp only [World.setCells]; rw [h3 k hk]; exact Below.heap_setCell _ _ _ _ hk, by simp only [World.setCells]; rw [h4]; simp [World.setCell]⟩
    simp only [World.setCells, setCells]
    rw [h2]
    simp
theorem Frm.setCells {b : Nat} (hb : w0.heap.size ≤ b ∨ L b) : ∀ (us : List Value) (o : Nat) (w : World), Frm w0 L w → Frm w0 L (w.setCells b o us)
  | [], _, _, h => h
  | u :: us, o, w, h => Frm.setCells hb us (o + 1) _ (h.setCell hb u)
theorem store_run {b o : Nat} {t : TypeId} {bb : Bool} {vals : Array Value} {ty : TypeId} {fz : Nat × Nat} {c : Value} (hb : w.heap[b]? = some (.cells vals ty fz)) (hfz : unfroz fz vals.size) (ht : tagg P t = some bb)
    (hsz : c.cells.toList.length = tsize P t) (hle : o + c.cells.toList.length ≤ vals.size) (h1 : ∀ x ∈ c.cells.toList, x.oneCell' = true) :
    (Instr.storeAt t (.pointer (some ⟨b, o, none⟩)) c).run P w = .ok () (w.setCells b o c.cells.toList) := by
  have hst := run_storeCells_cells (P := P) b o c.cells.toList 0 w (fun j hj => by
      rw [cell_at hb]
      simp only [Array.getElem?_toList, Option.isSome_iff_exists]
      exact ⟨_, by rw [Array.getElem?_eq_getElem (by omega)]⟩) (fun j hj => by
      have := hfz (o + 0 + j) (by omega)
      simp [World.frozen?, hb]
      intro h2
      simp only [Nat.add_zero] at this
      omega) h1
  simp only [Nat.add_zero] at hst
  simp only [Instr.storeAt, Instr.sureAddr, Sem.run_bind, Sem.run_pure, Result.andThen_ok, storeVar, run_size ht]
  rw [if_neg (by simpa using hsz)]
  exact hst
theorem Cells_end : ∀ (e : CTs) (x x' : e.D) (j : Nat) (vs : List V), e.setsV x j vs = some x' → vs ≠ [] → j + vs.length ≤ e.size
  | e, x, x', j, [], _, hne => absurd rfl hne
  | e, x, x', j, v :: vs, h, _ => by
    have key : ∀ (e : CTs) (x x' : e.D) (j : Nat) (v : V), e.setV x j v = some x' → j < e.size := fun e => by
      intro x x' j v h
      exact CTs.setV_lt e j x x' v h
    simp only [CTs.setsV] at h
    cases hd : e.setV x j v with
    | none => rw [hd] at h; cases h
    | some d =>
      rw [hd] at h
      have h1 := key e x d j v hd
      by_cases hv : vs = []
      · subst hv; simp; omega
      · have := Cells_end e d x' (j + 1) vs h hv
        simp; omega
end
end Go.Eng
