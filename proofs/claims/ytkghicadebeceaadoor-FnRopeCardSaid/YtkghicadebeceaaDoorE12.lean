/- Conversions, and the rest of the operations that are no calls. -/
import Derived.Test.YtkghicadebeceaaDoorE11
import Derived.Laws.BytesArg
namespace Go.Eng
set_option linter.unusedSectionVars false
variable [Glb]
open Go.RowKit
set_option linter.unusedSimpArgs false
set_option linter.unusedVariables false

section
variable {w0 w w' : World} {R L : Nat → Prop} {N : Fx} {st : St} {a : Act} {loc : Nat → Loc} {γ : Nat → Option Nat} {P : Program}

theorem isU8_run {t : TypeId} (h : isU8 P t = true) : P.underlying t = some (.int .u8) := by
  unfold isU8 at h
  split at h
  · assumption
  · cases h
theorem bytesOf_nums (xs : List Int) : bytesOf xs = strOfNums xs := by
  unfold bytesOf strOfNums
  congr 1
theorem conv_goes {o : Oper} {s d : TypeId} {x : Operand} {ob' : Ob} {f' : Fp} {v : V} (hop : o.op = .convert s d x) (hs : Sim w0 R L N st a w loc γ)
    (h : (convE P o.dst s d (st.rv x)).exec st.ob ⟨[], [], []⟩ = some (v, ob', f')) : Goes P o w0 R L N st a w v ob' f'.ns := by
  have ex := hs.eval x
  have hexec : ∀ {c : Value} {w' : World}, (convert s d (a.eval x)).run P w = .ok c w' → (execOp a.eval o).run P w = .ok (.value c) w' := fun h => by
    simp only [execOp, hop, Sem.run_bind, h]
    rfl
  unfold convE at h
  split at h
  · rename_i hu hd hx
    simp only [Eff.exec, Option.some.injEq, Prod.mk.injEq] at h
    obtain ⟨rfl, rfl, rfl⟩ := h
    rw [hx] at ex
    have ex' : a.eval x = .int _ _ := ex
    exact goes_value hs rfl (hexec (by rw [ex']; simp [convert, run_underlying hu, run_underlying hd, Conv.intToInt, wrI_eq]))
  · rename_i hu hd hx
    simp only [Eff.exec, Option.some.injEq, Prod.mk.injEq] at h
    obtain ⟨rfl, rfl, rfl⟩ := h
    rw [hx] at ex
    have ex' : a.eval x = .int _ _ := ex
    exact goes_value hs rfl (hexec (by rw [ex']; simp [convert, run_underlying hu, run_underlying hd, Conv.intToString]))
  · rename_i hu hd hx
    simp only [Eff.exec, Option.some.injEq, Prod.mk.injEq] at h
    obtain ⟨rfl, rfl, rfl⟩ := h
    rw [hx] at ex
    have ex' : a.eval x = .string _ := ex
    exact goes_value hs rfl (hexec (by rw [ex']; simp [convert, run_underlying hu, run_underlying hd]))
  · rename_i e str hu hd hx
    rw [hx] at ex
    have ex' : a.eval x = .string str := ex
    cases hq : isU8 P e with
    | false => rw [hq] at h; simp [Eff.exec] at h
    | true =>
      rw [hq] at h
      simp only [cond_true, Eff.exec] at h
      split at h
      · rename_i hid
        simp only [Option.some.injEq, Prod.mk.injEq] at h
        obtain ⟨rfl, rfl, rfl⟩ := h
        have he := isU8_run hq
        have hge := grownCap_ge w str.size 0 e
        have hsz : (bytesRow str (grownCap w str.size 0 e)).size = grownCap w str.size 0 e := by
          simp only [bytesRow, Array.size_append, Array.size_map, Array.size_replicate]
          have : str.data.size = str.size := rfl
          omega
        have hrun := run_bytes_of_string (P := P) w s d e str hu hd he
        obtain ⟨loc', γ', j1, j2⟩ := hs.new_row (id := tag o.dst 0) hid (tag_ge _ _) (w' := w.drew.alloc (.cells (bytesRow str (grownCap w str.size 0 e)) e ((bytesRow str (grownCap w str.size 0 e)).size, (bytesRow str (grownCap w str.size 0 e)).size + 1)))
          (hs.fr.drew.alloc _) (by simp) (fun k hk => Below.heap_alloc w.drew _ _ hk) (heap_new (w := w.drew) _) (fun o ho h => by simp only at h; omega) (e := .one (.int .u8)) rfl (xs := numsOf str) (cap := grownCap w str.size 0 e)
          (by rw [numsOf_len]; exact hge) (by rw [hsz]; simp [CTs.size]) (fun i y hy => by
            obtain ⟨b, hb, rfl⟩ := numsOf_get str i y hy
            refine ⟨.int .u8 b.toNat, ?_, rfl⟩
            have hil := (List.getElem?_eq_some_iff.1 hb).1
            rw [List.getElem?_drop]
            simp only [CTs.size, Nat.mul_one, Nat.add_zero, bytesRow, Array.toList_append, Array.toList_map]
            rw [List.getElem?_append_left (by simpa using hil), List.getElem?_map, hb]
            rfl) (nl := .is false) (by simp)
        refine goes_world j1 j2 (hexec ?_)
        rw [ex', hrun, numsOf_len]
      · cases h
  · rename_i e hu hd
    cases hq : isU8 P e && !isStrV (st.rv x) with
    | false => rw [hq] at h; simp [Eff.exec] at h
    | true =>
      rw [hq] at h
      simp only [cond_true] at h
      simp only [Bool.and_eq_true, Bool.not_eq_true'] at hq
      have he := isU8_run hq.1
      obtain ⟨xs, f2, h, hf2, hr⟩ := list_run (P := P) h hs ex
      simp only [Eff.exec, Option.some.injEq, Prod.mk.injEq] at h
      obtain ⟨rfl, rfl, rfl⟩ := h
      rw [hf2]
      rcases hr with ⟨ad, cap, R', hcx, hrow, _⟩ | ⟨str, hxs, _, _⟩
      · refine goes_value hs rfl (hexec ?_)
        rw [hcx]
        cases ad with
        | none =>
          have h0 : xs = [] := List.eq_nil_of_length_eq_zero (by have := hrow.2.1 rfl; have := hrow.1; omega)
          subst h0
          exact run_convert_bytes_nil w s e hu he _ _ d hd
        | some ad =>
          by_cases hc0 : 0 < cap
          case neg =>
            have h0 : xs = [] := List.eq_nil_of_length_eq_zero (by have := hrow.1; omega)
            subst h0
            have hl : (loadCells ad 0).run P w = .ok (([] : List Int).map (Value.int .u8)).toArray w := run_loadCells_list (P := P) w ad [] (fun j v hj => by simp at hj)
            rw [List.length_nil, run_convert_bytes_string w s d e _ 0 cap hu he hd, run_bytesToString w _ 0 cap [] hl]
            rfl
          obtain ⟨hsp, _, cs, ty, fz, hh, hcap, hcells⟩ := (hrow.2.2 hc0).2.2 ad rfl
          obtain ⟨bk, ofs, sp⟩ := ad
          simp only at hsp hh hcap hcells
          subst hsp
          have key : ∀ ys : List Int, (∀ i y, ys[i]? = some y → w.cell? ⟨bk, ofs + i, none⟩ = some (.int .u8 y)) → (convert s d (.slice (some ⟨bk, ofs, none⟩) ys.length cap)).run P w = .ok (.string (bytesOf ys)) w := fun ys hc => by
            rw [bytesOf_nums]
            refine run_convert_bytes_arg w s e hu he bk ofs _ cap ys rfl (fun i hi => ?_) d hd
            rw [hc i ys[i] (List.getElem?_eq_getElem hi), List.getD_eq_getElem?_getD, List.getElem?_eq_getElem hi]
            rfl
          refine key xs (fun i y hy => ?_)
          obtain ⟨v, h1, h2⟩ := hcells i y hy
          rw [cell_at hh]
          rw [List.getElem?_drop] at h1
          simp only [CTs.size, Nat.mul_one, Nat.add_zero] at h1
          rw [h1, show v = .int .u8 y from h2]
      · rw [hxs] at hq
        simp [isStrV] at hq
  · simp [Eff.exec] at h
end
end Go.Eng
