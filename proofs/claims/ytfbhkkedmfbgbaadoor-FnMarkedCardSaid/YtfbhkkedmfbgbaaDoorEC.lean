/- A part of a row is cleared. Appends. Conversions, and the rest of the operations that are no calls. Every operation that is no call of a function. Regions in the text's order, and code. Code. States told otherwise: what lives is kept, under new numbers. -/
import Derived.Test.YtfbhkkedmfbgbaaDoorEB
import Derived.Laws.BytesArg
import Derived.Laws.StructEq
import Derived.Laws.Strings
import Derived.Test.YtfbhkkedmfbgbaaDoorEM
namespace Go.Eng
set_option linter.unusedSectionVars false
variable [Glb]
open Go.RowKit
set_option linter.unusedSimpArgs false
set_option linter.unusedVariables false
section
variable {w0 w w' : World} {R L : Nat → Prop} {N : Fx} {st : St} {a : Act} {loc : Nat → Loc} {γ : Nat → Option Nat} {P : Program}
theorem zeroCells_list {c : Array Value} {n s : Nat} (hz : c.toList.length = s) : (Builtin.zeroCells c n).toList = (List.replicate n c.toList).flatten := by
  rw [← range_chunks hz n]
  unfold Builtin.zeroCells
  rw [Array.toList_map, Array.toList_range]
  have hs : c.size = s := by simpa using hz
  rw [hs]
  apply List.map_congr_left
  intro i _
  rw [List.getElem!_eq_getElem?_getD]
  simp [getElem!_def]
  cases h : c[i % s]? <;> simp [h]
theorem flatten_rep_len {α : Type} (n : Nat) (z : List α) : (List.replicate n z).flatten.length = n * z.length := by simp
theorem clear_run {b o n cp : Nat} {t e : TypeId} {ty tt : TypeId} {vals : Array Value} {fz : Nat × Nat} {c : Value} (ht : P.underlying t = some (.slice e)) (hb : w.heap[b]? = some (.cells vals ty fz)) (hfz : unfroz fz vals.size) (hz : (zeroValue e).run P w = .ok c w)
    (hle : o + n * c.cells.toList.length ≤ vals.size) (h1 : ∀ x ∈ c.cells.toList, x.oneCell' = true) (hn : 0 < n) :
    (Builtin.clear_ #[t] tt #[.slice (some ⟨b, o, none⟩) n cp]).run P w = .ok (.tuple #[]) (w.setCells b o (List.replicate n c.cells.toList).flatten) := by
  have hlen := flatten_rep_len n c.cells.toList
  have hst := run_storeCells_cells (P := P) b o (List.replicate n c.cells.toList).flatten 0 w (fun j hj => by
      rw [cell_at hb]
      simp only [Array.getElem?_toList, Option.isSome_iff_exists]
      exact ⟨_, by rw [Array.getElem?_eq_getElem (by omega)]⟩) (fun j hj => by
      have := hfz (o + 0 + j) (by omega)
      simp [World.frozen?, hb]
      omega) (fun v hv => by
      obtain ⟨l, hl, hv⟩ := List.mem_flatten.1 hv
      rw [List.eq_of_mem_replicate hl] at hv
      exact h1 v hv)
  simp only [Nat.add_zero] at hst
  obtain ⟨m, rfl⟩ : ∃ m, n = m + 1 := ⟨n - 1, by omega⟩
  simp only [Builtin.clear_, List.getElem?_toArray, List.getElem?_cons_zero, Sem.run_bind, run_underlying ht, Result.andThen_ok, hz, zeroCells_list rfl, hst, Sem.run_pure]
theorem clear_goes {o : Oper} {t : TypeId} {x : Operand} {ob' : Ob} {f' : Fp} {v : V} (hop : o.op = .call { callee := .builtin .clear, args := #[x], argTypes := #[t] }) (hs : Sim w0 R L N st a w loc γ)
    (h : (clearE P t (st.rv x)).exec st.ob ⟨[], [], []⟩ = some (v, ob', f')) : Goes P o w0 R L N st a w v ob' f'.ns := by
  have ex := hs.eval x
  unfold clearE at h
  split at h
  · rename_i e ct n by_ id lo hi hq hx
    obtain ⟨hu, ⟨b, htb⟩, hn, hcs, hflat, hby, z, hz, hzl⟩ := elemOf_run hq
    simp only [zeroV, hz] at h
    cases hall : z.all V.solid with
    | false => rw [hall] at h; simp [Eff.exec] at h
    | true =>
      rw [hall] at h
      simp only [cond_true] at h
      split at h
      · rename_i d hd
        simp only [Eff.exec] at h
        split at h
        · rename_i ox ho
          split at h
          · rename_i nl e' xs
            split at h
            · rename_i hsame
              simp only [Eff.exec, ho, Option.some.injEq, Prod.mk.injEq] at h
              obtain ⟨rfl, rfl, rfl⟩ := h
              obtain rfl := CTs.eq_of_same _ _ hsame
              rw [hx] at ex
              obtain ⟨hl0, hlh, hhi, hxv⟩ := ex
              obtain ⟨k1, k2, k3, k4, k5, k6⟩ := hs.ob id _ ho
              obtain ⟨cv, hc1, hc2, i, hi', hiz⟩ := zeroV_run (w0 := w0) (R := R) (loc := loc) (w := w) hz
              have hcl := RepL.length hc2
              have hdc := CTs.ofVs_rep e' z _ d hd hc2
              have h1 := solids_one hall hc2
              have hcsz : cv.cells.toList.length = e'.size := by rw [← hcl, hzl, ← hcs]
              obtain ⟨l, rfl⟩ := Int.eq_ofNat_of_zero_le hl0
              obtain ⟨m, rfl⟩ : ∃ m : Nat, hi = ((l + m : Nat) : Int) := ⟨(hi - l).toNat, by omega⟩
              have hcast : CTs.cast hsame xs = xs := rfl
              have hlist : catL (catL (takeI (CTs.cast hsame xs) (l : Int)) (repI (subZ ((l + m : Nat) : Int) (l : Int)) d)) (dropI (CTs.cast hsame xs) ((l + m : Nat) : Int)) = xs.take l ++ List.replicate m d ++ xs.drop (l + m) := by
                rw [hcast, subZ_eq]
                simp only [catL, takeI, dropI, repI, Int.toNat_natCast]
                congr 3
                omega
              have hhi' : l + m ≤ xs.length := by
                have := hhi
                rw [k3] at this
                omega
              have hlen : (xs.take l ++ List.replicate m d ++ xs.drop (l + m)).length = xs.length := by simp; omega
              rw [hlist]
              have hexec : ∀ {c : Value} {w' : World}, (Builtin.clear_ #[t] o.type #[a.eval x]).run P w = .ok c w' → (execOp a.eval o).run P w = .ok (.value c) w' := fun h => by
                simp only [execOp, hop, resolve, invoke, builtin, Sem.run_bind, Sem.run_pure, Result.andThen_ok, List.map_toArray, List.map_cons, List.map_nil, h]
              by_cases hm : m = 0
              · subst hm
                have hsame : xs.take l ++ List.replicate 0 d ++ xs.drop (l + 0) = xs := by simp
                rw [hsame]
                refine goes_world (loc' := loc) (γ' := γ) (w' := w) (c := .tuple #[]) (hs.set (id := id) hs.fr (Nat.le_refl _) (fun _ _ _ _ => rfl) ⟨k1, k2, k3, k4, k5, k6⟩) ⟨#[], rfl, trivial⟩ (hexec ?_)
                rw [hxv]
                simp only [Int.toNat_natCast, show ((l + 0 : Nat) : Int) - (l : Int) = 0 by omega, Int.toNat_zero]
                split
                · simp only [Builtin.clear_, List.getElem?_toArray, List.getElem?_cons_zero, Sem.run_bind, run_underlying hu, Result.andThen_ok]
                  cases (loc id).a <;> rfl
                · simp only [Builtin.clear_, List.getElem?_toArray, List.getElem?_cons_zero, Sem.run_bind, run_underlying hu, Result.andThen_ok]
                  cases (loc id).a <;> rfl
              · have hcap : (loc id).cap ≠ l := by have := k4.1; omega
                cases had : (loc id).a with
                | none => have := k4.2.1 had; have := k4.1; omega
                | some ad =>
                  obtain ⟨hsp, hγ, cs, ty, fz, hh, hcp, hcells⟩ := k4.2.2 ad had
                  obtain ⟨ab, ao, asp⟩ := ad
                  obtain rfl : asp = none := hsp
                  have hxv' : a.eval x = .slice (some ⟨ab, ao + l * e'.size, none⟩) m ((loc id).cap - l) := by
                    rw [hxv, had, k2]
                    simp only [Int.toNat_natCast]
                    rw [if_neg hcap, Option.map_some, add_at, show (((l + m : Nat) : Int) - (l : Int)).toNat = m by omega]
                  have hfull : ao + l * e'.size + m * e'.size ≤ cs.size := by
                    have : (l + m) * e'.size ≤ (loc id).cap * e'.size := Nat.mul_le_mul_right _ (by have := k4.1; omega)
                    rw [Nat.add_mul] at this
                    simp only at hcp
                    omega
                  have hrun := clear_run (P := P) (tt := o.type) (cp := (loc id).cap - l) (o := ao + l * e'.size) (n := m) hu hh (k5 _ cs ty fz had hh) hc1 (by rw [hcsz]; exact hfull) h1 (by omega)
                  have hfl : (List.replicate m cv.cells.toList).flatten.length = m * e'.size := by rw [flatten_rep_len, hcsz]
                  obtain ⟨g1, g2, g3⟩ := setCells_heap (List.replicate m cv.cells.toList).flatten (ao + l * e'.size) w cs hh
                  have hcol := hs.col ab id hγ
                  refine goes_world (loc' := loc) (γ' := γ) (w' := w.setCells ab (ao + l * e'.size) (List.replicate m cv.cells.toList).flatten) (c := .tuple #[]) (hs.set (id := id) (Frm.setCells hcol.1 _ _ _ hs.fr) (by rw [g3]; exact Nat.le_refl _) (fun k j hj hk => g2 k (fun e => by subst e; rw [hγ] at hk; exact hj (Option.some.inj hk).symm)) ?_) ⟨#[], rfl, trivial⟩ (hexec (by rw [hxv']; exact hrun))
                  refine ⟨k1, k2, by rw [hlen]; exact k3, ⟨by rw [hlen]; exact k4.1, k4.2.1, fun ad' had' => ?_⟩, fun ad' cs' ty' fz' had' hh' => ?_, k6⟩
                  · rw [had] at had'
                    obtain rfl := Option.some.inj had'
                    refine ⟨rfl, hγ, _, ty, fz, g1, by simpa [setCells_length] using hcp, fun k y hk => ?_⟩
                    have hk0 := (List.getElem?_eq_some_iff.1 hk).1
                    rw [hlen] at hk0
                    have hp := e'.size_pos
                    have hmul : ∀ p q : Nat, p < q → p * e'.size + e'.size ≤ q * e'.size := fun p q hpq => by
                      rw [← Nat.succ_mul]; exact Nat.mul_le_mul_right _ hpq
                    by_cases hin : l ≤ k ∧ k < l + m
                    · rw [List.append_assoc, List.getElem?_append_right (by simp; omega), List.getElem?_append_left (by simp; omega), List.getElem?_replicate] at hk
                      simp only [List.length_take] at hk
                      rw [if_pos (by omega)] at hk
                      obtain rfl := Option.some.inj hk
                      obtain ⟨p, rfl⟩ : ∃ p, k = l + p := ⟨k - l, by omega⟩
                      refine CTs.Cells.congr e' _ _ _ (fun j hj => ?_) hdc
                      rw [List.getElem?_drop, setCells_get]
                      have h2 := hmul p m (by omega)
                      rw [if_pos ⟨by show ao + l * e'.size ≤ ao + (l + p) * e'.size + j; rw [Nat.add_mul]; omega, by show ao + (l + p) * e'.size + j < _; rw [hfl, Nat.add_mul]; omega, by show ao + (l + p) * e'.size + j < _; rw [Nat.add_mul]; simp only [Array.length_toList]; omega⟩]
                      rw [show ao + (l + p) * e'.size + j - (ao + l * e'.size) = p * e'.size + j by rw [Nat.add_mul]; omega, ← List.getElem?_drop, drop_chunks hcsz]
                      obtain ⟨q, hq'⟩ := Nat.exists_eq_succ_of_ne_zero (show m - p ≠ 0 by omega)
                      rw [hq', List.replicate_succ, List.flatten_cons, List.getElem?_append_left (by rw [hcsz]; exact hj)]
                    · have hold : xs[k]? = some y := by
                        by_cases hkl : k < l
                        · rw [List.append_assoc, List.getElem?_append_left (by simp; omega), List.getElem?_take, if_pos hkl] at hk
                          exact hk
                        · rw [List.getElem?_append_right (by simp; omega)] at hk
                          simp only [List.length_append, List.length_take, List.length_replicate, List.getElem?_drop] at hk
                          rw [show l + m + (k - (min l xs.length + m)) = k by omega] at hk
                          exact hk
                      refine CTs.Cells.congr e' _ _ y (fun j hj => ?_) (hcells k y hold)
                      rw [List.getElem?_drop, List.getElem?_drop, setCells_get, if_neg]
                      rintro ⟨q1, q2, q3⟩
                      rw [hfl] at q2
                      rcases Nat.lt_or_ge k l with h | h
                      · have := hmul k l h
                        simp only at q1 q2
                        omega
                      · have : (l + m) * e'.size ≤ k * e'.size := Nat.mul_le_mul_right _ (by omega)
                        rw [Nat.add_mul] at this
                        simp only at q1 q2
                        omega
                  · rw [had] at had'
                    obtain rfl := Option.some.inj had'
                    rw [g1] at hh'
                    simp only [Option.some.injEq, Obj.cells.injEq] at hh'
                    obtain ⟨rfl, _, rfl⟩ := hh'
                    simpa [setCells_length] using k5 _ cs ty fz had hh
            · simp [Eff.exec] at h
          · simp [Eff.exec] at h
        · cases h
      · simp [Eff.exec] at h
  · simp [Eff.exec] at h
end
end Go.Eng
namespace Go.Eng
set_option linter.unusedSectionVars false
variable [Glb]
open Go.RowKit
set_option linter.unusedSimpArgs false
set_option linter.unusedVariables false

section
variable {w0 w w' : World} {R L : Nat → Prop} {N : Fx} {st : St} {a : Act} {loc : Nat → Loc} {γ : Nat → Option Nat} {P : Program}

/-- what is appended: its length and its cells -/
structure Src (P : Program) (w0 : World) (R : Nat → Prop) (w : World) (e : CTs) (cx : Value) (ys : List e.D) (news : List Value) : Prop where
  len : ∀ w1, (Builtin.lenOf cx).run P w1 = .ok ys.length w1
  size : news.length = ys.length * e.size
  get : ∀ w1 : World, w1.heap = w.heap → (Builtin.firstCells e.size ys.length cx).run P w1 = .ok news.toArray w1
  cells : ∀ i y, ys[i]? = some y → CTs.Cells w0 R e (news.drop (i * e.size)) y
theorem flat_one : ∀ (e : CTs) (vs : List Value) (x : e.D) (j : Nat), e.flat = true → CTs.Cells w0 R e vs x → j < e.size → ∃ v, vs[j]? = some v ∧ v.oneCell' = true
  | .one (.int _), _, _, 0, _, ⟨v, h1, h2⟩, _ => ⟨v, h1, by obtain rfl := h2; rfl⟩
  | .one .bool, _, _, 0, _, ⟨v, h1, h2⟩, _ => ⟨v, h1, by obtain rfl := h2; rfl⟩
  | .one .str, _, _, 0, _, ⟨v, h1, h2⟩, _ => ⟨v, h1, by obtain rfl := h2; rfl⟩
  | .one (.row _), _, _, _, hf, _, _ => by simp [CTs.flat] at hf
  | .one _, _, _, j + 1, _, _, hj => by simp [CTs.size] at hj
  | .cons (.int _) _, _, _, 0, _, ⟨v, h1, h2, _⟩, _ => ⟨v, h1, by obtain rfl := h2; rfl⟩
  | .cons .bool _, _, _, 0, _, ⟨v, h1, h2, _⟩, _ => ⟨v, h1, by obtain rfl := h2; rfl⟩
  | .cons .str _, _, _, 0, _, ⟨v, h1, h2, _⟩, _ => ⟨v, h1, by obtain rfl := h2; rfl⟩
  | .cons (.row _) _, _, _, _, hf, _, _ => by simp [CTs.flat] at hf
  | .cons (.int _) cs, vs, x, j + 1, hf, ⟨_, _, _, h3⟩, hj => by
    obtain ⟨v, h4, h5⟩ := flat_one cs _ x.2 j (by simpa [CTs.flat] using hf) h3 (by simp [CTs.size] at hj; omega)
    rw [List.getElem?_drop] at h4
    exact ⟨v, by rw [Nat.add_comm]; exact h4, h5⟩
  | .cons .bool cs, vs, x, j + 1, hf, ⟨_, _, _, h3⟩, hj => by
    obtain ⟨v, h4, h5⟩ := flat_one cs _ x.2 j (by simpa [CTs.flat] using hf) h3 (by simp [CTs.size] at hj; omega)
    rw [List.getElem?_drop] at h4
    exact ⟨v, by rw [Nat.add_comm]; exact h4, h5⟩
  | .cons .str cs, vs, x, j + 1, hf, ⟨_, _, _, h3⟩, hj => by
    obtain ⟨v, h4, h5⟩ := flat_one cs _ x.2 j (by simpa [CTs.flat] using hf) h3 (by simp [CTs.size] at hj; omega)
    rw [List.getElem?_drop] at h4
    exact ⟨v, by rw [Nat.add_comm]; exact h4, h5⟩
theorem Src.one {e : CTs} {cx : Value} {ys : List e.D} {news : List Value} (h : Src P w0 R w e cx ys news) (hf : e.flat = true) : ∀ v ∈ news, v.oneCell' = true := by
  intro v hv
  obtain ⟨j, hj, rfl⟩ := List.getElem_of_mem hv
  have hp := e.size_pos
  have hlt : j / e.size < ys.length := by
    rw [h.size] at hj
    exact Nat.div_lt_of_lt_mul (by rw [Nat.mul_comm]; exact hj)
  have hm := Nat.mod_lt j hp
  obtain ⟨v, h1, h2⟩ := flat_one e _ _ (j % e.size) hf (h.cells (j / e.size) _ (List.getElem?_eq_getElem hlt)) hm
  rw [List.getElem?_drop] at h1
  have he : j / e.size * e.size + j % e.size = j := by rw [Nat.mul_comm]; exact Nat.div_add_mod j e.size
  rw [he, List.getElem?_eq_getElem hj] at h1
  rw [Option.some.inj h1]
  exact h2
theorem RowAt.src {R' : Nat → Prop} {e : CTs} {ad : Option Addr} {cap : Nat} {ys : List e.D} (h : RowAt w R' e.size (CTs.Cells w0 R e) ad cap ys) : ∃ news, Src P w0 R w e (.slice ad ys.length cap) ys news := by
  cases ad with
  | none =>
    have h0 : ys = [] := by
      have := h.2.1 rfl
      exact List.eq_nil_of_length_eq_zero (by have := h.1; omega)
    subst h0
    exact ⟨[], fun w1 => rfl, by simp, fun w1 _ => by simp [Builtin.firstCells], fun i y hy => by simp at hy⟩
  | some ad =>
    obtain ⟨hsp, _, cs, ty, fz, hh, hcap, hcells⟩ := h.2.2 ad rfl
    have hle : ys.length * e.size ≤ cap * e.size := Nat.mul_le_mul_right _ h.1
    have hl : ((cs.toList.drop ad.off).take (ys.length * e.size)).length = ys.length * e.size := by simp; omega
    refine ⟨(cs.toList.drop ad.off).take (ys.length * e.size), fun w1 => rfl, hl, fun w1 hw => ?_, fun i y hy => ?_⟩
    · refine run_firstCells_some (P := P) w1 e.size ys.length ad ys.length cap _ hl (fun j v hj => ?_)
      obtain ⟨b, o, sp⟩ := ad
      simp only at hsp hh hj
      subst hsp
      rw [add_at]
      have hh' : w1.heap[b]? = some (.cells cs ty fz) := by rw [hw]; exact hh
      rw [cell_at hh']
      rw [List.getElem?_take] at hj
      split at hj
      · rwa [List.getElem?_drop] at hj
      · cases hj
    · refine CTs.Cells.congr e _ _ y (fun j hj => ?_) (hcells i y hy)
      have hil := (List.getElem?_eq_some_iff.1 hy).1
      have : (i + 1) * e.size ≤ ys.length * e.size := Nat.mul_le_mul_right _ hil
      rw [Nat.add_mul] at this
      rw [List.getElem?_drop, List.getElem?_take, if_pos (by omega), List.getElem?_drop, List.getElem?_drop]
      congr 1
      omega
theorem numsOf_len (s : ByteArray) : List.length (α := (CTs.one (.int .u8)).D) (numsOf s) = s.size := by
  show List.length (α := Int) (numsOf s) = s.size
  simp [numsOf]
theorem numsOf_get (s : ByteArray) (i : Nat) (y : Int) (h : (numsOf s)[i]? = some y) : ∃ b, s.data.toList[i]? = some b ∧ y = b.toNat := by
  simp only [numsOf, List.getElem?_map] at h
  cases hb : s.data.toList[i]? with
  | none => rw [hb] at h; cases h
  | some b =>
    rw [hb] at h
    exact ⟨b, rfl, (Option.some.inj h).symm⟩
theorem str_src (s : ByteArray) : ∃ news, Src P w0 R w (.one (.int .u8)) (.string s) (numsOf s) news := by
  refine ⟨s.data.toList.map fun b => .int .u8 b.toNat, fun w1 => ?_, ?_, fun w1 _ => ?_, fun i y hy => ?_⟩
  · rw [numsOf_len]; rfl
  · rw [numsOf_len]; simp [CTs.size]
  · rw [numsOf_len]
    simp only [Builtin.firstCells, Sem.run_pure]
    congr 1
    apply Array.toList_inj.1
    have : s.extract 0 s.size = s := by
      apply ByteArray.ext
      simp
    rw [this]
    simp
  · obtain ⟨b, hb, rfl⟩ := numsOf_get s i y hy
    refine ⟨.int .u8 b.toNat, ?_, rfl⟩
    rw [List.getElem?_drop, List.getElem?_map]
    simp only [CTs.size, Nat.mul_one, Nat.add_zero, hb]
    rfl
theorem RowRO.src {R' : Nat → Prop} {e : CTs} {ad : Option Addr} {cap : Nat} {ys : List e.D} (h : RowRO w R' e.size (CTs.Cells w0 R e) ad cap ys) : ∃ news, Src P w0 R w e (.slice ad ys.length cap) ys news := by
  by_cases hc : 0 < cap
  · exact (h.2.2 hc).src
  · have h0 : ys = [] := List.eq_nil_of_length_eq_zero (by have := h.1; omega)
    subst h0
    cases ad with
    | none => exact ⟨[], fun w1 => rfl, by simp, fun w1 _ => by simp [Builtin.firstCells], fun i y hy => by simp at hy⟩
    | some ad => exact ⟨[], fun w1 => rfl, by simp, fun w1 _ => run_firstCells_some (P := P) w1 e.size 0 ad 0 cap [] (by simp) (fun j v hj => by simp at hj), fun i y hy => by simp at hy⟩
/-- a slice as a list -/
theorem list_run {e : CTs} {x : V} {cx : Value} {k : List e.D → Eff V} {f f' : Fp} {v : V} {ob' : Ob} (h : (listE e x k).exec st.ob f = some (v, ob', f')) (hs : Sim w0 R L N st a w loc γ) (hx : Rep w0 R loc x cx) :
    ∃ ys f2, (k ys).exec st.ob f2 = some (v, ob', f') ∧ f2.ns = f.ns ∧ ((∃ ad cap R', cx = .slice ad ys.length cap ∧ RowRO w R' e.size (CTs.Cells w0 R e) ad cap ys ∧
      (∀ id, x = .own id → (loc id).a = ad ∧ (loc id).cap = cap ∧ (loc id).len = ys.length ∧ R' = (fun b => γ b = some id) ∧ RowAt w R' e.size (CTs.Cells w0 R e) ad cap ys) ∧
      (∀ id hi, x = .sub id 0 hi → (loc id).a = ad ∧ (loc id).cap = cap ∧ ys.length ≤ (loc id).len ∧ R' = (fun b => γ b = some id) ∧ RowAt w R' e.size (CTs.Cells w0 R e) ad cap ys) ∧ (x = .nil → ad = none)) ∨
      (∃ s, x = .str s ∧ cx = .string s ∧ ∃ news, Src P w0 R w e cx ys news)) := by
  unfold listE at h
  split at h
  · obtain rfl := hx
    exact ⟨[], f, h, rfl, .inl ⟨none, 0, fun _ => True, rfl, ⟨by simp, fun _ => rfl, fun h => by omega⟩, by simp, by simp, fun _ => rfl⟩⟩
  · rename_i id
    simp only [Eff.exec] at h
    split at h
    · rename_i o ho
      split at h
      · rename_i nl e' xs
        split at h
        · rename_i he
          obtain rfl := CTs.eq_of_same _ _ he
          obtain ⟨_, k2, k3, k4, _, _⟩ := hs.ob id _ ho
          obtain rfl := hx
          refine ⟨xs, _, h, rfl, .inl ⟨(loc id).a, (loc id).cap, _, by rw [k3], k4.ro, fun id' h => ?_, by simp, by simp⟩⟩
          obtain rfl : id = id' := by simpa using h
          exact ⟨rfl, rfl, k3, rfl, k4⟩
        · simp [Eff.exec] at h
      · simp [Eff.exec] at h
    · cases h
  · rename_i id lo hi
    simp only [Eff.exec] at h
    split at h
    · rename_i o ho
      split at h
      · rename_i nl e' xs
        split at h
        · rename_i he
          obtain rfl := CTs.eq_of_same _ _ he
          obtain ⟨_, k2, k3, k4, _, _⟩ := hs.ob id _ ho
          obtain ⟨h0, h1, h2, rfl⟩ := hx
          rw [k3] at h2
          have hlen : (dropI (takeI xs hi) lo).length = (hi - lo).toNat := by simp [dropI, takeI]; omega
          refine ⟨dropI (takeI xs hi) lo, _, h, rfl, .inl ⟨_, _, _, by rw [hlen], by rw [k2]; exact (k4.sub h0 h1 h2).ro, by simp, fun id' hi' h => ?_, by simp⟩⟩
          simp only [V.sub.injEq] at h
          obtain ⟨rfl, rfl, rfl⟩ := h
          refine ⟨?_, by simp, by rw [hlen, k3]; omega, rfl, by rw [k2]; exact k4.sub h0 h1 h2⟩
          split
          · rfl
          · cases (loc id).a with
            | none => rfl
            | some ad => simp [Addr.add]
        · simp [Eff.exec] at h
      · simp [Eff.exec] at h
    · cases h
  · rename_i e' xs
    split at h
    · rename_i he
      obtain rfl := CTs.eq_of_same _ _ he
      obtain ⟨ad, cap, rfl, hrow⟩ := hx
      exact ⟨xs, f, h, rfl, .inl ⟨ad, cap, R, rfl, hrow.imp (fun b hb => ⟨hb, hs.same hb⟩) (fun _ _ h => h), by simp, by simp, by simp⟩⟩
    · simp [Eff.exec] at h
  · rename_i s
    split at h
    · rename_i he
      have he' := CTs.eq_of_same _ _ he
      subst he'
      obtain rfl := hx
      exact ⟨numsOf s, f, h, rfl, .inr ⟨s, rfl, rfl, str_src s⟩⟩
    · simp [Eff.exec] at h
  · rename_i e' xs
    split at h
    · rename_i he
      obtain rfl := CTs.eq_of_same _ _ he
      obtain ⟨⟨ad, cap, rfl, hrow⟩, _⟩ := hx
      exact ⟨xs, f, h, rfl, .inl ⟨ad, cap, R, rfl, hrow.imp (fun b hb => ⟨hb, hs.same hb⟩) (fun _ _ h => h), by simp, by simp, by simp⟩⟩
    · simp [Eff.exec] at h
  · simp [Eff.exec] at h

/-! ### what append does -/
theorem append_fits {t u el ty : TypeId} {d : TypeDesc} {bb : Bool} {e : CTs} {cx : Value} {ys : List e.D} {news : List Value} {b o n cap : Nat} {vals : Array Value} {tyb : TypeId} {fz : Nat × Nat}
    (hu : P.underlying t = some (.slice el)) (hv : P.underlying u = some d) (hd : d = .string ∨ ∃ e', d = .slice e') (htb : tagg P el = some bb) (hsz : tsize P el = e.size) (hsrc : Src P w0 R w e cx ys news) (hf : e.flat = true)
    (hb : w.heap[b]? = some (.cells vals tyb fz)) (hfz : unfroz fz vals.size) (hle : n + ys.length ≤ cap) (hcap : o + cap * e.size ≤ vals.size) :
    (Builtin.append_ #[t, u] ty #[.slice (some ⟨b, o, none⟩) n cap, cx]).run P w = .ok (.slice (some ⟨b, o, none⟩) (n + ys.length) cap) (w.setCells b (o + n * e.size) news) := by
  have hle' : (n + ys.length) * e.size ≤ cap * e.size := Nat.mul_le_mul_right _ hle
  rw [Nat.add_mul] at hle'
  have hsl := hsrc.size
  have hst := run_storeCells_cells (P := P) b (o + n * e.size) news 0 w (fun j hj => by
      rw [cell_at hb]
      simp only [Array.getElem?_toList, Option.isSome_iff_exists]
      exact ⟨_, by rw [Array.getElem?_eq_getElem (by omega)]⟩) (fun j hj => by
      have := hfz (o + n * e.size + 0 + j) (by omega)
      simp [World.frozen?, hb]
      intro h2
      simp only [Nat.add_zero] at this
      omega) (hsrc.one hf)
  simp only [Nat.add_zero] at hst
  have hg := hsrc.get w rfl
  rcases hd with rfl | ⟨e', rfl⟩ <;> simp [Builtin.append_, run_underlying hu, run_size htb, hsz, run_underlying hv, hsrc.len, hle, hg, add_at, hst]
theorem append_none {t u el ty : TypeId} {d : TypeDesc} {bb : Bool} {e : CTs} {cx : Value} {ys : List e.D} {news : List Value} (hu : P.underlying t = some (.slice el)) (hv : P.underlying u = some d) (hd : d = .string ∨ ∃ e', d = .slice e') (htb : tagg P el = some bb) (hsz : tsize P el = e.size) (hsrc : Src P w0 R w e cx ys news) (h0 : ys.length = 0) :
    (Builtin.append_ #[t, u] ty #[.slice none 0 0, cx]).run P w = .ok (.slice none 0 0) w := by
  have hg := hsrc.get w rfl
  have hl := hsrc.len
  rw [h0] at hg hl
  rcases hd with rfl | ⟨e', rfl⟩ <;> simp [Builtin.append_, run_underlying hu, run_size htb, hsz, run_underlying hv, hl, hg]
theorem append_grows {t u el ty : TypeId} {d : TypeDesc} {bb : Bool} {e : CTs} {cx : Value} {i : TypeInfo} {z : Value} {sa : Option Addr} {cap : Nat} {xs ys : List e.D} {news olds : List Value}
    (hu : P.underlying t = some (.slice el)) (hv : P.underlying u = some d) (hd : d = .string ∨ ∃ e', d = .slice e') (htb : tagg P el = some bb) (hsz : tsize P el = e.size) (hi : P.info? el = some i) (hz : i.zero = some z) (hzl : z.cells.toList.length = e.size)
    (hold : Src P w0 R w e (.slice sa xs.length cap) xs olds) (hsrc : Src P w0 R w e cx ys news) (hgt : cap < xs.length + ys.length) (hby : i.bytes ≠ 0) (hb : (xs.length + ys.length) * i.bytes ≤ 140737488355328) :
    ∃ C m, xs.length + ys.length ≤ m ∧ (Builtin.append_ #[t, u] ty #[.slice sa xs.length cap, cx]).run P w = .ok (.slice (some ⟨w.heap.size, 0, none⟩) (xs.length + ys.length) m) (w.drew.alloc (.cells C el)) ∧
      m * e.size = C.size ∧ ∃ r, C.toList = olds ++ news ++ r := by
  have hn : ¬ (xs.length + ys.length ≤ cap) := by omega
  have hle1 : (xs.length + ys.length) * 1 ≤ (xs.length + ys.length) * i.bytes := Nat.mul_le_mul_left _ (by omega)
  have h63' : ¬ (9223372036854775807 < ((xs.length : Int) + (ys.length : Int))) := by omega
  have h48' : ¬ (281474976710656 < Builtin.nextslicecap (xs.length + ys.length) cap * i.bytes) := by have := growslice_fits hgt hb; omega
  have hg := hsrc.get w.drew rfl
  have ho := hold.get w.drew rfl
  have hge := grownCap_ge w (xs.length + ys.length) cap el
  refine ⟨(olds ++ news).toArray ++ Builtin.zeroCells z.cells (grownCap w (xs.length + ys.length) cap el - (xs.length + ys.length)), grownCap w (xs.length + ys.length) cap el, hge, ?_, ?_, _, by simp; rfl⟩
  · rcases hd with rfl | ⟨e', rfl⟩ <;> simp [Builtin.append_, run_underlying hu, run_size htb, hsz, run_underlying hv, hsrc.len, hn, typeInfo, hi, h63', h48', zeroValue, hz, Question.forced, hg, ho, newRow, grownCap] <;> (congr 2; apply Array.ext'; simp)
  · simp only [Array.size_append, List.size_toArray, size_zeroCells, List.length_append, hsrc.size, hold.size]
    rw [show z.cells.size = e.size by simpa using hzl, ← Nat.add_mul, ← Nat.add_mul]
    congr 1
    omega
theorem exec_set {α : Type} (id : Nat) (o : Option O) (k : Eff α) (ob : Ob) (f : Fp) : (Eff.set id o k).exec ob f = match ob id with
    | some _ => k.exec (upd ob id o) ⟨f.rs, id :: f.ws, f.ns⟩
    | none => none := rfl
theorem upd_self (ob : Ob) (id : Nat) (o : Option O) : upd ob id o id = o := by unfold upd; rw [beq_self]; rfl
theorem cat_at {e : CTs} {xs ys : List e.D} {D news G : List Value} (hx : ∀ i x, xs[i]? = some x → CTs.Cells w0 R e (D.drop (i * e.size)) x) (hy : ∀ i y, ys[i]? = some y → CTs.Cells w0 R e (news.drop (i * e.size)) y)
    (h1 : ∀ j, j < xs.length * e.size → G[j]? = D[j]?) (h2 : ∀ j, j < ys.length * e.size → G[xs.length * e.size + j]? = news[j]?) : ∀ i x, (catL xs ys)[i]? = some x → CTs.Cells w0 R e (G.drop (i * e.size)) x := by
  intro i x hi
  simp only [catL, List.getElem?_append] at hi
  split at hi
  · rename_i hlt
    refine CTs.Cells.congr e _ _ x (fun j hj => ?_) (hx i x hi)
    have : (i + 1) * e.size ≤ xs.length * e.size := Nat.mul_le_mul_right _ hlt
    rw [Nat.add_mul] at this
    rw [List.getElem?_drop, List.getElem?_drop, h1 _ (by omega)]
  · rename_i hge
    have hkl := (List.getElem?_eq_some_iff.1 hi).1
    refine CTs.Cells.congr e _ _ x (fun j hj => ?_) (hy (i - xs.length) x hi)
    have h3 : (i - xs.length + 1) * e.size ≤ ys.length * e.size := Nat.mul_le_mul_right _ hkl
    rw [Nat.add_mul] at h3
    have h4 : i * e.size + j = xs.length * e.size + ((i - xs.length) * e.size + j) := by
      rw [← Nat.add_assoc, ← Nat.add_mul, Nat.add_sub_cancel' (Nat.le_of_not_lt hge)]
    rw [List.getElem?_drop, List.getElem?_drop, h4, h2 _ (by omega)]
theorem exec_lim {c : Bool} {id : Nat} {o : O} {v v' : V} {ob ob' : Ob} {f f' : Fp} (h : (Eff.ite c (.new id o (.ret v)) .fail).exec ob f = some (v', ob', f')) :
    c = true ∧ ob id = none ∧ v' = v ∧ ob' = upd (killOb id ob) id (some (o.kill id)) ∧ f'.ns = id :: f.ns := by
  cases c with
  | false => cases h
  | true =>
    simp only [Eff.exec] at h
    split at h
    · rename_i hn
      simp only [Option.some.injEq, Prod.mk.injEq] at h
      obtain ⟨rfl, rfl, rfl⟩ := h
      exact ⟨rfl, hn, rfl, rfl, rfl⟩
    · cases h
theorem lim_nat {α : Type} {xs ys : List α} {b : Nat} (h : ltI (mulZ (addZ (ln xs) (ln ys)) b) lenBound = true) : (xs.length + ys.length) * b ≤ 140737488355328 := by
  have h2 := h
  simp only [ltI_eq, decide_eq_true_eq] at h2
  simp only [mulZ_eq, addZ_eq, ln, lenBound] at h2
  have h' : (((xs.length + ys.length) * b : Nat) : Int) < 140737488355328 := by push_cast; exact h2
  omega
theorem isStrV_slice {v : V} {sa : Option Addr} {n c : Nat} (h : Rep w0 R loc v (.slice sa n c)) : isStrV v = false := by
  cases v with
  | str s => exact absurd (show Value.slice sa n c = .string s from h) (by simp)
  | _ => rfl
set_option maxRecDepth 10000 in
theorem append_goes {o : Oper} {t u : TypeId} {sx xx : Operand} {ob' : Ob} {f' : Fp} {v : V} (hop : o.op = .call { callee := .builtin .append, args := #[sx, xx], argTypes := #[t, u] }) (hs : Sim w0 R L N st a w loc γ)
    (hut : ((Nat.beq u t && !isStrV (st.rv xx)) || (isStr P u && isStrV (st.rv xx))) = true)
    (h : (appendE P o.dst t (st.rv sx) (st.rv xx)).exec st.ob ⟨[], [], []⟩ = some (v, ob', f')) : Goes P o w0 R L N st a w v ob' f'.ns := by
  have ex := hs.eval xx
  have es := hs.eval sx
  unfold appendE at h
  split at h
  case h_2 => simp [Eff.exec] at h
  rename_i el e n by_ hq
  obtain ⟨hu, ⟨bb, htb⟩, hn, hcs, hflat, hby, z, hz, hzl⟩ := elemOf_run hq
  have hsz : tsize P el = e.size := by rw [← hn, hcs]
  cases hb0 : Nat.beq by_ 0 with
  | true => rw [hb0] at h; simp [Eff.exec] at h
  | false => ?_
  rw [hb0] at h
  simp only [cond_false] at h
  have hby0 : by_ ≠ 0 := fun e => by subst e; simp at hb0
  obtain ⟨ys, f2, h, hf2, hxr⟩ := list_run (P := P) h hs ex
  obtain ⟨xs, f3, h, hf3, hsr⟩ := list_run (P := P) h hs es
  obtain ⟨cv, hc1, hc2, i, hi, hiz⟩ := zeroV_run (w0 := w0) (R := R) (loc := loc) (w := w) hz
  have hbi := bytes_info hi
  have hns : f3.ns = [] := by rw [hf3, hf2]
  -- what is appended
  obtain ⟨d, hv, hd, news, hsrc⟩ : ∃ d, P.underlying u = some d ∧ (d = .string ∨ ∃ e', d = .slice e') ∧ ∃ news, Src P w0 R w e (a.eval xx) ys news := by
    rcases hxr with ⟨ad, cap, R', hcx, hrow, _⟩ | ⟨s, hxs, _, hsrc⟩
    · have ex' := ex
      rw [hcx] at ex'
      have hns : isStrV (st.rv xx) = false := isStrV_slice ex'
      rw [hns] at hut
      simp only [Bool.not_false, Bool.and_true, Bool.and_false, Bool.or_false] at hut
      obtain rfl := Nat.eq_of_beq_eq_true hut
      rw [hcx]
      exact ⟨.slice el, hu, .inr ⟨el, rfl⟩, hrow.src (P := P)⟩
    · rw [hxs] at hut
      simp only [isStrV, Bool.not_true, Bool.and_false, Bool.and_true, Bool.false_or] at hut
      exact ⟨_, isStr_run hut, .inl rfl, hsrc⟩
  -- what it is appended to
  rcases hsr with ⟨sa, cap, Rs, hcs', hrow, hown, hsub, hnil⟩ | ⟨s, hxs, _, _⟩
  case inr =>
    rw [hxs] at h
    simp [Eff.exec] at h
  have hcase : ∃ (ob1 : Ob) (f4 : Fp) (nl' : NI), (nl' ≠ .is true ∧ (nl' = .is false → sa ≠ none)) ∧ f4.ns = [] ∧ (Eff.ite (ltI (mulZ (addZ (ln xs) (ln ys)) by_) lenBound) (.new (tag o.dst 0) (.row nl' e (catL xs ys)) (.ret (.own (tag o.dst 0)))) .fail : Eff V).exec ob1 f4 = some (v, ob', f') ∧
      Sim w0 R L N { st with ob := ob1 } a w loc γ ∧ (sa = none ∨ ∃ id, (loc id).a = sa ∧ (loc id).cap = cap ∧ ob1 id = none ∧ Rs = (fun b => γ b = some id) ∧ RowAt w Rs e.size (CTs.Cells w0 R e) sa cap xs ∧
        ∀ ad cs ty fz, sa = some ad → w.heap[ad.block]? = some (.cells cs ty fz) → unfroz fz cs.size) := by
    split at h
    · rename_i hx
      exact ⟨st.ob, f3, .unk, ⟨by simp, by simp⟩, hns, h, hs, .inl (hnil hx)⟩
    · rename_i id hx
      simp only [Eff.exec] at h
      split at h
      case h_2 => cases h
      rename_i o1 ho1
      cases o1 with
      | box cs => simp [Eff.exec] at h
      | bld s => simp [Eff.exec] at h
      | mat c xss => simp [Eff.exec] at h
      | row nl e1 x1 =>
        simp only at h
        rw [exec_set] at h
        simp only [ho1] at h
        obtain ⟨q1, q2, q3, q4, qr⟩ := hown id hx
        obtain ⟨_, _, _, _, k5, k6⟩ := hs.ob id _ ho1
        refine ⟨upd st.ob id none, ⟨id :: f3.rs, id :: f3.ws, f3.ns⟩, appNl nl, ⟨by rcases nl with _ | (_ | _) <;> simp [appNl], fun hn => ?_⟩, hns, h, hs.drop id, .inr ⟨id, q1, q2, upd_self _ _ _, q4, qr, ?_⟩⟩
        · rcases nl with _ | (_ | _)
          · simp [appNl] at hn
          · rw [← q1]; exact k6
          · simp [appNl] at hn
        · rw [q1] at k5
          exact k5
    · rename_i id hi' hx
      rw [exec_set] at h
      split at h
      · rename_i o1 ho1
        obtain ⟨q1, q2, q3, q4, qr⟩ := hsub id hi' hx
        refine ⟨upd st.ob id none, ⟨f3.rs, id :: f3.ws, f3.ns⟩, .unk, ⟨by simp, by simp⟩, hns, h, hs.drop id, .inr ⟨id, q1, q2, upd_self _ _ _, q4, qr, ?_⟩⟩
        cases o1 with
        | row nl e1 x1 =>
          obtain ⟨_, _, _, _, k5, _⟩ := hs.ob id _ ho1
          rw [q1] at k5
          exact k5
        | mat c xss =>
          obtain ⟨_, _, _, ad0, cs0, ty0, fz0, k1, k2, k3, k4, k5, _⟩ := hs.ob id _ ho1
          intro ad cs ty' fz' had hh
          rw [← q1, k1] at had
          obtain rfl := Option.some.inj had
          rw [k4] at hh
          simp only [Option.some.injEq, Obj.cells.injEq] at hh
          obtain ⟨rfl, _, rfl⟩ := hh
          exact k5
        | box cs =>
          obtain ⟨b, vals, ty, fz, k1, k2, k3, k4, k5⟩ := hs.ob id _ ho1
          intro ad cs ty' fz' had hh
          rw [← q1, k1] at had
          obtain rfl := Option.some.inj had
          rw [k3] at hh
          simp only [Option.some.injEq, Obj.cells.injEq] at hh
          obtain ⟨rfl, _, rfl⟩ := hh
          exact k5
        | bld s =>
          obtain ⟨b, p, v, k1, k2, k3, k4⟩ := hs.ob id _ ho1
          intro ad cs ty' fz' had hh
          rw [← q1, k1] at had
          obtain rfl := Option.some.inj had
          rw [k4.2.1] at hh
          simp only [Option.some.injEq, Obj.cells.injEq] at hh
          obtain ⟨rfl, _, rfl⟩ := hh
          intro o _ ho
          simp only at ho
          omega
      · cases h
    · simp [Eff.exec] at h
  obtain ⟨ob1, f4, nl', ⟨hnl1, hnl2⟩, hf4, h, hs1, hid⟩ := hcase
  obtain ⟨hlim, hnew, rfl, rfl, hns'⟩ := exec_lim h
  rw [hns', hf4]
  clear h
  have hlim' : (xs.length + ys.length) * i.bytes ≤ 140737488355328 := by
    rw [← hbi, ← hby]
    exact lim_nat hlim
  clear hlim
  have hcat : (catL xs ys).length = xs.length + ys.length := by simp [catL]
  have hexec : ∀ {c : Value} {w' : World}, (Builtin.append_ #[t, u] o.type #[a.eval sx, a.eval xx]).run P w = .ok c w' → (execOp a.eval o).run P w = .ok (.value c) w' := fun h => by
    simp only [execOp, hop, resolve, invoke, builtin, Sem.run_bind, Sem.run_pure, Result.andThen_ok, List.map_toArray, List.map_cons, List.map_nil, h]
  obtain ⟨olds, hold⟩ := hrow.src (P := P)
  by_cases hfit : xs.length + ys.length ≤ cap
  · cases sa with
    | none =>
      have hc0 := hrow.2.1 rfl
      have hx0 : xs = [] := List.eq_nil_of_length_eq_zero (by omega)
      have hy0 : ys = [] := List.eq_nil_of_length_eq_zero (by omega)
      subst hx0 hy0
      have hrun := append_none (P := P) (ty := o.type) hu hv hd htb hsz hsrc rfl
      refine goes_world (loc' := fun j => if j = tag o.dst 0 then { a := none, len := 0, cap := 0, sz := e.size } else loc j) (γ' := γ) (hs1.new (l := { a := none, len := 0, cap := 0, sz := e.size }) hnew (tag_ge _ _) hs.fr (Nat.le_refl _) (fun _ _ _ _ => rfl) (fun b => .inl rfl) ?_) ?_ (hexec (by rw [hcs', hc0]; exact hrun))
      · simp only [O.kill, ObRep, if_true]
        exact ⟨hflat, trivial, rfl, ⟨by simp [catL], fun _ => rfl, (fun ad h => by cases h)⟩, (fun ad cs ty fz h => by cases h), by
          rcases nl' with _ | (_ | _)
          · trivial
          · exact absurd rfl (hnl2 rfl)
          · exact absurd rfl hnl1⟩
      · simp [Rep]
    | some ad =>
      rcases hid with hid | ⟨id, q1, q2, q3, q4, qr, q5⟩
      · cases hid
      subst q4
      obtain ⟨hsp, hγ, cs, ty, fz, hh, hcap, hcells⟩ := qr.2.2 ad rfl
      obtain ⟨bk, ofs, sp⟩ := ad
      simp only at hsp hγ hh hcap hcells
      subst hsp
      have hrun := append_fits (P := P) (ty := o.type) hu hv hd htb hsz hsrc hflat hh (q5 _ _ _ _ rfl hh) hfit hcap
      obtain ⟨g1, g2, g3⟩ := setCells_heap news (ofs + xs.length * e.size) w cs hh
      have hcol := hs.col bk id hγ
      have hle' : (xs.length + ys.length) * e.size ≤ cap * e.size := Nat.mul_le_mul_right _ hfit
      rw [Nat.add_mul] at hle'
      refine goes_world (loc' := fun j => if j = tag o.dst 0 then { a := some ⟨bk, ofs, none⟩, len := xs.length + ys.length, cap := cap, sz := e.size } else loc j) (γ' := fun b => if b = bk then some (tag o.dst 0) else γ b)
        (hs1.new (l := { a := some ⟨bk, ofs, none⟩, len := xs.length + ys.length, cap := cap, sz := e.size }) hnew (tag_ge _ _) (Frm.setCells hcol.1 _ _ _ hs.fr) (by omega) (fun b j hb hj => g2 b (fun he => by
          subst he
          rw [hγ] at hb
          obtain rfl := Option.some.inj hb
          obtain ⟨x, hx⟩ := hj
          simp only at hx
          rw [q3] at hx
          cases hx)) (fun b => ?_) ?_) ?_ (hexec (by rw [hcs']; exact hrun))
      · by_cases he : b = bk
        · subst he
          refine .inr ⟨by simp, fun j hj => ?_, hcol.1, by have := hcol.2; omega⟩
          rw [hγ] at hj
          obtain rfl := Option.some.inj hj
          exact q3
        · exact .inl (by simp [he])
      · simp only [O.kill, ObRep, if_true]
        refine ⟨hflat, trivial, hcat.symm, ⟨by rw [hcat]; exact hfit, (fun h => by cases h), fun ad had => ?_⟩, fun ad cs' ty' fz' had hh' => ?_, by
          rcases nl' with _ | (_ | _)
          · trivial
          · simp [nilOk]
          · exact absurd rfl hnl1⟩
        · obtain rfl := Option.some.inj had
          refine ⟨rfl, by simp, _, ty, fz, g1, by simpa [setCells_length] using hcap, fun k x hk => ?_⟩
          have := cat_at (D := cs.toList.drop ofs) (news := news) (G := (setCells cs.toList (ofs + xs.length * e.size) news).drop ofs) (fun i x hi => by rw [List.drop_drop]; exact hcells i x hi) hsrc.cells (fun j hj => by
              rw [List.getElem?_drop, List.getElem?_drop, setCells_get, if_neg (fun h => by have := h.1; omega)]) (fun j hj => by
              have hnl := hsrc.size
              have hcl : cs.toList.length = cs.size := Array.length_toList
              rw [List.getElem?_drop, setCells_get, if_pos ⟨by omega, by omega, by omega⟩]
              rw [show ofs + (xs.length * e.size + j) - (ofs + xs.length * e.size) = j by omega]) k x hk
          rw [List.drop_drop] at this
          exact this
        · obtain rfl := Option.some.inj had
          rw [g1] at hh'
          simp only [Option.some.injEq, Obj.cells.injEq] at hh'
          obtain ⟨rfl, _, rfl⟩ := hh'
          simpa [setCells_length] using q5 _ _ _ _ rfl hh
      · simp [Rep]
  · have hzl' : cv.cells.toList.length = e.size := by rw [← RepL.length hc2, hzl, hcs]
    obtain ⟨C, m, hm, hrun, hmc, r, hC⟩ := append_grows (P := P) (ty := o.type) hu hv hd htb hsz hi hiz hzl' hold hsrc (by omega) (by rw [← hbi, ← hby]; exact hby0) hlim'
    obtain ⟨loc', γ', j1, j2⟩ := hs1.new_row (id := tag o.dst 0) (w' := w.drew.alloc (.cells C el)) (ty := el) (fz := (0, 0)) (cells := C) hnew (tag_ge _ _) (hs.fr.drew.alloc _) (by simp) (fun k hk => Below.heap_alloc w.drew _ _ hk) (heap_new (w := w.drew) _) (fun o _ h => by simp at h)
      hflat (xs := catL xs ys) (cap := m) (by rw [hcat]; exact hm) (by omega) (cat_at hold.cells hsrc.cells (fun j hj => by
          have := hold.size
          rw [hC, List.append_assoc, List.getElem?_append_left (by omega)]) (fun j hj => by
          have h1 := hold.size
          have h2 := hsrc.size
          rw [hC, List.append_assoc, List.getElem?_append_right (by omega), List.getElem?_append_left (by omega)]
          rw [show xs.length * e.size + j - olds.length = j by omega])) (nl := nl') hnl1
    refine goes_world j1 (by rw [hcat] at j2; exact j2) (hexec (by rw [hcs']; exact hrun))
end
end Go.Eng
namespace Go.Eng
set_option linter.unusedSectionVars false
variable [Glb]
open Go.RowKit
set_option linter.unusedSimpArgs false
set_option linter.unusedVariables false

section
variable {w0 w w' : World} {R L : Nat → Prop} {N : Fx} {st : St} {a : Act} {loc : Nat → Loc} {γ : Nat → Option Nat} {P : Program}

theorem isU8_run {t : TypeId} (h : isU8 P t = true) : P.underlying t = some (.int .u8) := by
  unfold isU8 at h
  split at h
  · assumption
  · cases h
theorem bytesOf_nums (xs : List Int) : bytesOf xs = strOfNums xs := by
  unfold bytesOf strOfNums
  congr 1
theorem conv_goes {o : Oper} {s d : TypeId} {x : Operand} {ob' : Ob} {f' : Fp} {v : V} (hop : o.op = .convert s d x) (hs : Sim w0 R L N st a w loc γ)
    (h : (convE P o.dst s d (st.rv x)).exec st.ob ⟨[], [], []⟩ = some (v, ob', f')) : Goes P o w0 R L N st a w v ob' f'.ns := by
  have ex := hs.eval x
  have hexec : ∀ {c : Value} {w' : World}, (convert s d (a.eval x)).run P w = .ok c w' → (execOp a.eval o).run P w = .ok (.value c) w' := fun h => by
    simp only [execOp, hop, Sem.run_bind, h]
    rfl
  unfold convE at h
  split at h
  · rename_i hu hd hx
    simp only [Eff.exec, Option.some.injEq, Prod.mk.injEq] at h
    obtain ⟨rfl, rfl, rfl⟩ := h
    rw [hx] at ex
    have ex' : a.eval x = .int _ _ := ex
    exact goes_value hs rfl (hexec (by rw [ex']; simp [convert, run_underlying hu, run_underlying hd, Conv.intToInt, wrI_eq]))
  · rename_i hu hd hx
    simp only [Eff.exec, Option.some.injEq, Prod.mk.injEq] at h
    obtain ⟨rfl, rfl, rfl⟩ := h
    rw [hx] at ex
    have ex' : a.eval x = .int _ _ := ex
    exact goes_value hs rfl (hexec (by rw [ex']; simp [convert, run_underlying hu, run_underlying hd, Conv.intToString]))
  · rename_i hu hd hx
    simp only [Eff.exec, Option.some.injEq, Prod.mk.injEq] at h
    obtain ⟨rfl, rfl, rfl⟩ := h
    rw [hx] at ex
    have ex' : a.eval x = .string _ := ex
    exact goes_value hs rfl (hexec (by rw [ex']; simp [convert, run_underlying hu, run_underlying hd]))
  · rename_i e str hu hd hx
    rw [hx] at ex
    have ex' : a.eval x = .string str := ex
    cases hq : isU8 P e with
    | false => rw [hq] at h; simp [Eff.exec] at h
    | true =>
      rw [hq] at h
      simp only [cond_true, Eff.exec] at h
      split at h
      · rename_i hid
        simp only [Option.some.injEq, Prod.mk.injEq] at h
        obtain ⟨rfl, rfl, rfl⟩ := h
        have he := isU8_run hq
        have hge := grownCap_ge w str.size 0 e
        have hsz : (bytesRow str (grownCap w str.size 0 e)).size = grownCap w str.size 0 e := by
          simp only [bytesRow, Array.size_append, Array.size_map, Array.size_replicate]
          have : str.data.size = str.size := rfl
          omega
        have hrun := run_bytes_of_string (P := P) w s d e str hu hd he
        obtain ⟨loc', γ', j1, j2⟩ := hs.new_row (id := tag o.dst 0) hid (tag_ge _ _) (w' := w.drew.alloc (.cells (bytesRow str (grownCap w str.size 0 e)) e ((bytesRow str (grownCap w str.size 0 e)).size, (bytesRow str (grownCap w str.size 0 e)).size + 1)))
          (hs.fr.drew.alloc _) (by simp) (fun k hk => Below.heap_alloc w.drew _ _ hk) (heap_new (w := w.drew) _) (fun o ho h => by simp only at h; omega) (e := .one (.int .u8)) rfl (xs := numsOf str) (cap := grownCap w str.size 0 e)
          (by rw [numsOf_len]; exact hge) (by rw [hsz]; simp [CTs.size]) (fun i y hy => by
            obtain ⟨b, hb, rfl⟩ := numsOf_get str i y hy
            refine ⟨.int .u8 b.toNat, ?_, rfl⟩
            have hil := (List.getElem?_eq_some_iff.1 hb).1
            rw [List.getElem?_drop]
            simp only [CTs.size, Nat.mul_one, Nat.add_zero, bytesRow, Array.toList_append, Array.toList_map]
            rw [List.getElem?_append_left (by simpa using hil), List.getElem?_map, hb]
            rfl) (nl := .is false) (by simp)
        refine goes_world j1 j2 (hexec ?_)
        rw [ex', hrun, numsOf_len]
      · cases h
  · rename_i e hu hd
    cases hq : isU8 P e && !isStrV (st.rv x) with
    | false => rw [hq] at h; simp [Eff.exec] at h
    | true =>
      rw [hq] at h
      simp only [cond_true] at h
      simp only [Bool.and_eq_true, Bool.not_eq_true'] at hq
      have he := isU8_run hq.1
      obtain ⟨xs, f2, h, hf2, hr⟩ := list_run (P := P) h hs ex
      simp only [Eff.exec, Option.some.injEq, Prod.mk.injEq] at h
      obtain ⟨rfl, rfl, rfl⟩ := h
      rw [hf2]
      rcases hr with ⟨ad, cap, R', hcx, hrow, _⟩ | ⟨str, hxs, _, _⟩
      · refine goes_value hs rfl (hexec ?_)
        rw [hcx]
        cases ad with
        | none =>
          have h0 : xs = [] := List.eq_nil_of_length_eq_zero (by have := hrow.2.1 rfl; have := hrow.1; omega)
          subst h0
          exact run_convert_bytes_nil w s e hu he _ _ d hd
        | some ad =>
          by_cases hc0 : 0 < cap
          case neg =>
            have h0 : xs = [] := List.eq_nil_of_length_eq_zero (by have := hrow.1; omega)
            subst h0
            have hl : (loadCells ad 0).run P w = .ok (([] : List Int).map (Value.int .u8)).toArray w := run_loadCells_list (P := P) w ad [] (fun j v hj => by simp at hj)
            rw [List.length_nil, run_convert_bytes_string w s d e _ 0 cap hu he hd, run_bytesToString w _ 0 cap [] hl]
            rfl
          obtain ⟨hsp, _, cs, ty, fz, hh, hcap, hcells⟩ := (hrow.2.2 hc0).2.2 ad rfl
          obtain ⟨bk, ofs, sp⟩ := ad
          simp only at hsp hh hcap hcells
          subst hsp
          have key : ∀ ys : List Int, (∀ i y, ys[i]? = some y → w.cell? ⟨bk, ofs + i, none⟩ = some (.int .u8 y)) → (convert s d (.slice (some ⟨bk, ofs, none⟩) ys.length cap)).run P w = .ok (.string (bytesOf ys)) w := fun ys hc => by
            rw [bytesOf_nums]
            refine run_convert_bytes_arg w s e hu he bk ofs _ cap ys rfl (fun i hi => ?_) d hd
            rw [hc i ys[i] (List.getElem?_eq_getElem hi), List.getD_eq_getElem?_getD, List.getElem?_eq_getElem hi]
            rfl
          refine key xs (fun i y hy => ?_)
          obtain ⟨v, h1, h2⟩ := hcells i y hy
          rw [cell_at hh]
          rw [List.getElem?_drop] at h1
          simp only [CTs.size, Nat.mul_one, Nat.add_zero] at h1
          rw [h1, show v = .int .u8 y from h2]
      · rw [hxs] at hq
        simp [isStrV] at hq
  · simp [Eff.exec] at h
end
end Go.Eng
namespace Go.Eng
set_option linter.unusedSectionVars false
variable [Glb]
open Go.RowKit
set_option linter.unusedSimpArgs false
set_option linter.unusedVariables false

theorem Eff.exec_bind {α β : Type} (e : Eff α) (g : α → Eff β) : ∀ (ob : Ob) (f : Fp) (r : β × Ob × Fp), (e.bind g).exec ob f = some r → ∃ v ob' f', e.exec ob f = some (v, ob', f') ∧ (g v).exec ob' f' = some r := by
  induction e with
  | ret a => exact fun ob f r h => ⟨a, ob, f, rfl, h⟩
  | fail => exact fun ob f r h => by simp [Eff.bind, Eff.exec] at h
  | ite c t e iht ihe =>
    intro ob f r h
    cases c with
    | true => exact iht ob f r h
    | false => exact ihe ob f r h
  | get id k ih =>
    intro ob f r h
    simp only [Eff.bind, Eff.exec] at h ⊢
    cases ho : ob id with
    | none => rw [ho] at h; cases h
    | some o => rw [ho] at h; exact ih o ob _ r h
  | set id o k ih =>
    intro ob f r h
    simp only [Eff.bind, Eff.exec] at h ⊢
    cases ho : ob id with
    | none => rw [ho] at h; cases h
    | some _ => rw [ho] at h; exact ih _ _ r h
  | new id o k ih =>
    intro ob f r h
    simp only [Eff.bind, Eff.exec] at h ⊢
    cases ho : ob id with
    | some _ => rw [ho] at h; cases h
    | none => rw [ho] at h; exact ih _ _ r h
  | opt x k ih =>
    intro ob f r h
    simp only [Eff.bind, Eff.exec] at h ⊢
    cases x with
    | none => cases h
    | some b => exact ih b ob f r h

section
variable {E : Env} {cf : Cf E} {w0 w w' : World} {R L : Nat → Prop} {N : Fx} {st : St} {a : Act} {loc : Nat → Loc} {γ : Nat → Option Nat}

theorem equalIn_nil {P : Program} (d : Nat) (t e : TypeId) (x : Option Addr) (l c : Nat) (h : P.underlying t = some (.slice e)) :
    (Op.equalIn (d + 1) t (.slice x l c) (.slice none 0 0)).run P w = .ok x.isNone w := by
  cases x <;> simp [Op.equalIn, run_underlying h]
theorem equalIn_bool {P : Program} (d : Nat) (t : TypeId) (x y : Bool) (h : P.underlying t = some .bool) : (Op.equalIn (d + 1) t (.bool x) (.bool y)).run P w = .ok (x == y) w := by
  simp [Op.equalIn, run_underlying h]
theorem nilE_run {P : Program} {x : V} {cx : Value} {b : Bool} {ob' : Ob} {f f' : Fp} (h : (nilE x).exec st.ob f = some (b, ob', f')) (hs : Sim w0 R L N st a w loc γ) (hx : Rep w0 R loc x cx) :
    ob' = st.ob ∧ f'.ns = f.ns ∧ ∃ ad l c, cx = .slice ad l c ∧ ad.isNone = b := by
  unfold nilE at h
  split at h
  · simp only [Eff.exec, Option.some.injEq, Prod.mk.injEq] at h
    obtain ⟨rfl, rfl, rfl⟩ := h
    exact ⟨rfl, rfl, none, 0, 0, hx, rfl⟩
  · rename_i id
    simp only [Eff.exec] at h
    split at h
    · rename_i o ho
      split at h
      · rename_i b _ _
        simp only [Eff.exec, Option.some.injEq, Prod.mk.injEq] at h
        obtain ⟨rfl, rfl, rfl⟩ := h
        obtain ⟨_, _, _, _, _, k⟩ := hs.ob id _ ho
        exact ⟨rfl, rfl, _, _, _, hx, by
          cases b with
          | true => simp only [nilOk] at k; rw [k]; rfl
          | false =>
            simp only [nilOk] at k
            cases h : (loc id).a with
            | none => exact absurd h k
            | some _ => rfl⟩
      · simp [Eff.exec] at h
    · cases h
  · simp only [Eff.exec, Option.some.injEq, Prod.mk.injEq] at h
    obtain ⟨rfl, rfl, rfl⟩ := h
    obtain ⟨_, ad, l, c, hc⟩ := hx
    exact ⟨rfl, rfl, some ad, l, c, hc, rfl⟩
  · simp [Eff.exec] at h
theorem isNil_rep {v : V} {c : Value} (h : isNil v = true) (hr : Rep w0 R loc v c) : c = .slice none 0 0 := by
  cases v with
  | nil => exact hr
  | _ => simp [isNil] at h
theorem guard_slice {P : Program} {op : BinOp} {t : TypeId} {x y : Option Addr} {l c l' c' : Nat} {xo yo : Operand} : (eqGuard op t xo yo (.slice x l c) (.slice y l' c')).run P w = .ok () w := by
  simp only [eqGuard]
  split <;> rfl
theorem guard_bool {P : Program} {op : BinOp} {t : TypeId} {x y : Bool} {xo yo : Operand} : (eqGuard op t xo yo (.bool x) (.bool y)).run P w = .ok () w := by
  simp only [eqGuard]
  split <;> rfl
theorem guard_agg {P : Program} {op : BinOp} {t : TypeId} {x y : Array Value} {xo yo : Operand} (h : P.eqGuardType P.depth t = false) : (eqGuard op t xo yo (.agg x) (.agg y)).run P w = .ok () w := by
  simp only [eqGuard]
  split <;> first | rfl | simp [h]
theorem beq_bytes (a b : ByteArray) : (a == b) = bytesEq a b := by
  have e : (a == b) = (a.data == b.data) := rfl
  rw [e, bytesEq_eq, ByteArray.toList_eq, ByteArray.toList_eq, Bool.eq_iff_iff, beq_iff_eq, beq_iff_eq, Array.toList_inj]
theorem eqTV_run {P : Program} {t : TypeId} {x y : V} {cx cy : Value} {r : Bool} (d : Nat) (h : eqTV P t x y = some r) (hx : Rep w0 R loc x cx) (hy : Rep w0 R loc y cy) : tagg P t = some false ∧ (Op.equalIn (d + 1) t cx cy).run P w = .ok r w := by
  unfold eqTV at h
  split at h
  · rename_i k0 k n k' m hu
    have hx : cx = .int k n := hx
    have hy : cy = .int k' m := hy
    subst hx hy
    split at h
    · rename_i hk
      subst hk
      obtain rfl := Option.some.inj h
      exact ⟨by simp [tagg, hu], by simp [Op.equalIn, run_underlying hu, eqI_eq, BEq.beq]⟩
    · cases h
  · rename_i n m hu
    have hx : cx = .bool n := hx
    have hy : cy = .bool m := hy
    subst hx hy
    obtain rfl := Option.some.inj h
    exact ⟨by simp [tagg, hu], by rw [equalIn_bool d t n m hu]; rfl⟩
  · rename_i n m hu
    have hx : cx = .string n := hx
    have hy : cy = .string m := hy
    subst hx hy
    obtain rfl := Option.some.inj h
    exact ⟨by simp [tagg, hu], by simp [Op.equalIn, run_underlying hu, beq_bytes]⟩
  · cases h
theorem eqFields_run {P : Program} {xs ys : List V} {cx cy : Array Value} (d : Nat) (hx : RepL w0 R loc xs cx.toList) (hy : RepL w0 R loc ys cy.toList) : ∀ (fs : List Field) (r : Bool), eqFieldsV P xs ys fs = some r → (Op.eqFields (d + 1) cx cy fs).run P w = .ok r w
  | [], r, h => by
    obtain rfl := Option.some.inj h
    simp [Op.eqFields]
  | f :: fs, r, h => by
    simp only [eqFieldsV] at h
    cases hn : f.name == "_" with
    | true => rw [hn] at h; cases h
    | false =>
      rw [hn] at h
      simp only [cond_false] at h
      split at h
      case h_2 => cases h
      rename_i x y h1 h2
      split at h
      case h_2 => cases h
      rename_i r1 r2 h3 h4
      obtain rfl := Option.some.inj h
      obtain ⟨c1, k1, k2⟩ := hx.get h1
      obtain ⟨c2, k3, k4⟩ := hy.get h2
      obtain ⟨g1, g2⟩ := eqTV_run (w := w) d h3 k2 k4
      have hr := eqFields_run d hx hy fs r2 h4
      have hn' : f.name ≠ "_" := by simpa using hn
      rw [Op.eqFields]
      simp only [if_pos hn', Sem.run_bind, (part_run g1).2 rfl _ k1, (part_run g1).2 rfl _ k3, g2, Result.andThen_ok]
      cases r1
      · simp [andB]
      · simpa [andB] using hr
theorem eqStruct_run {P : Program} {t : TypeId} {fs : Array Field} {x y : V} {cx cy : Value} {b : Bool} {ob ob' : Ob} {f f' : Fp} (hu : P.underlying t = some (.struct fs)) (h : (eqStructE P t fs.toList x y).exec ob f = some (b, ob', f')) (hx : Rep w0 R loc x cx) (hy : Rep w0 R loc y cy) :
    ob' = ob ∧ f' = f ∧ P.eqGuardType P.depth t = false ∧ ∃ ax ay, cx = .agg ax ∧ cy = .agg ay ∧ ∀ d, (Op.equalIn (d + 2) t cx cy).run P w = .ok b w := by
  unfold eqStructE at h
  split at h
  · rename_i xs ys
    cases hq : P.eqGuardType P.depth t with
    | true => rw [hq] at h; simp [Eff.exec] at h
    | false =>
    cases hp : P.stoodInHeld t with
    | true => rw [hp] at h; simp [Eff.exec] at h
    | false =>
      rw [hp, hq] at h
      simp only [Bool.or_false, cond_false] at h
      split at h
      · rename_i r hr
        simp only [Eff.exec, Option.some.injEq, Prod.mk.injEq] at h
        obtain ⟨rfl, rfl, rfl⟩ := h
        obtain ⟨ax, rfl, hx⟩ := hx
        obtain ⟨ay, rfl, hy⟩ := hy
        refine ⟨rfl, rfl, rfl, ax, ay, rfl, rfl, fun d => ?_⟩
        have hf : P.fieldsOf t = fs := by simp [Program.fieldsOf, hu]
        rw [run_equalIn_struct (P := P) w (d + 1) t ax ay (by rw [hf]; exact hu) hp, hf]
        exact eqFields_run d hx hy fs.toList r hr
      · simp [Eff.exec] at h
  · simp [Eff.exec] at h
theorem goes_of {P : Program} {o : Oper} {v : V} {ob' : Ob} {f' : Fp} (hs : Sim w0 R L N st a w loc γ) (h : ob' = st.ob ∧ f'.ns = [] ∧ ∃ c, Rep w0 R loc v c ∧ (execOp a.eval o).run P w = .ok (.value c) w) :
    Goes P o w0 R L N st a w v ob' f'.ns := by
  obtain ⟨rfl, h1, c, h2, h3⟩ := h
  rw [h1]
  exact goes_value hs h2 h3
theorem unE_run {P : Program} {op : UnOp} {x v : V} {cx : Value} {ob ob' : Ob} {f f' : Fp} (h : (unE op x).exec ob f = some (v, ob', f')) (hx : Rep w0 R loc x cx) :
    ob' = ob ∧ f'.ns = f.ns ∧ ∃ c, Rep w0 R loc v c ∧ (Op.unary op cx).run P w = .ok c w := by
  unfold unE at h
  split at h
  · obtain rfl := hx
    simp only [Eff.exec, Option.some.injEq, Prod.mk.injEq] at h
    obtain ⟨rfl, rfl, rfl⟩ := h
    exact ⟨rfl, rfl, _, rfl, by simp [Op.unary, Op.intArith, subI_eq]⟩
  · obtain rfl := hx
    simp only [Eff.exec, Option.some.injEq, Prod.mk.injEq] at h
    obtain ⟨rfl, rfl, rfl⟩ := h
    exact ⟨rfl, rfl, _, rfl, by simp [Op.unary, notB]⟩
  · simp [Eff.exec] at h
theorem mx_run {P : Program} {x y v : V} {cx cy : Value} {ob ob' : Ob} {f f' : Fp} {ts : Array TypeId} {t : TypeId} (h : (mxE x y).exec ob f = some (v, ob', f')) (hx : Rep w0 R loc x cx) (hy : Rep w0 R loc y cy) :
    ob' = ob ∧ f'.ns = f.ns ∧ ∃ c, Rep w0 R loc v c ∧ (Builtin.max_ ts t #[cx, cy]).run P w = .ok c w := by
  unfold mxE at h
  split at h
  · obtain rfl := hx
    obtain rfl := hy
    split at h
    · rename_i hk
      subst hk
      simp only [Eff.exec, Option.some.injEq, Prod.mk.injEq] at h
      obtain ⟨rfl, rfl, rfl⟩ := h
      exact ⟨rfl, rfl, _, rfl, by simp [Builtin.max_, Builtin.max2, maxI_eq]⟩
    · simp [Eff.exec] at h
  · simp [Eff.exec] at h
theorem mn_run {P : Program} {x y v : V} {cx cy : Value} {ob ob' : Ob} {f f' : Fp} {ts : Array TypeId} {t : TypeId} (h : (mnE x y).exec ob f = some (v, ob', f')) (hx : Rep w0 R loc x cx) (hy : Rep w0 R loc y cy) :
    ob' = ob ∧ f'.ns = f.ns ∧ ∃ c, Rep w0 R loc v c ∧ (Builtin.min_ ts t #[cx, cy]).run P w = .ok c w := by
  unfold mnE at h
  split at h
  · obtain rfl := hx
    obtain rfl := hy
    split at h
    · rename_i hk
      subst hk
      simp only [Eff.exec, Option.some.injEq, Prod.mk.injEq] at h
      obtain ⟨rfl, rfl, rfl⟩ := h
      exact ⟨rfl, rfl, _, rfl, by simp [Builtin.min_, Builtin.min2, minI_eq]⟩
    · simp [Eff.exec] at h
  · simp [Eff.exec] at h

set_option maxHeartbeats 2000000 in
theorem op_goes (hB : BldTy E) {o : Oper} {v : V} {ob' : Ob} {f' : Fp} (hs : Sim w0 R L N st a w loc γ) (h : (effOp E cf o st.rv).exec st.ob ⟨[], [], []⟩ = some (v, ob', f'))
    (hcall : ∀ c x f first cap, o.op = .call c → c.callee = .value x → st.rv x = .fn f first cap → (callE E cf o.dst f (first ++ c.args.toList.map st.rv ++ cap)).exec st.ob ⟨[], [], []⟩ = some (v, ob', f') → Goes E.P o w0 R L N st a w v ob' f'.ns) :
    Goes E.P o w0 R L N st a w v ob' f'.ns := by
  have hpure : ∀ {s : Sem Value} {c : Value}, execOp a.eval o = (do pure (.value (← s))) → s.run E.P w = .ok c w → (execOp a.eval o).run E.P w = .ok (.value c) w := fun h1 h2 => by
    rw [h1]; simp only [Sem.run_bind, h2]; rfl
  unfold effOp at h
  dsimp only at h
  split at h
  · -- move
    rename_i x hop
    simp only [Eff.exec, Option.some.injEq, Prod.mk.injEq] at h
    obtain ⟨rfl, rfl, rfl⟩ := h
    exact goes_value hs (hs.eval x) (by simp [execOp, hop])
  · rename_i x hop
    simp only [Eff.exec, Option.some.injEq, Prod.mk.injEq] at h
    obtain ⟨rfl, rfl, rfl⟩ := h
    exact goes_value hs (hs.eval x) (by simp [execOp, hop])
  · -- pick
    rename_i c x y hop
    have ec := hs.eval c
    split at h
    · rename_i t ht
      rw [ht] at ec
      have ec' : a.eval c = .bool t := ec
      cases t with
      | true =>
        simp only [Eff.exec, Option.some.injEq, Prod.mk.injEq] at h
        obtain ⟨rfl, rfl, rfl⟩ := h
        exact goes_value hs (hs.eval x) (by simp [execOp, hop, ec', asBool])
      | false =>
        simp only [Eff.exec, Option.some.injEq, Prod.mk.injEq] at h
        obtain ⟨rfl, rfl, rfl⟩ := h
        exact goes_value hs (hs.eval y) (by simp [execOp, hop, ec', asBool])
    · simp [Eff.exec] at h
  · -- alloc
    rename_i t hop
    cases hb : E.isB t with
    | true =>
      rw [hb] at h
      simp only [cond_true, Eff.exec] at h
      split at h
      · rename_i hid
        simp only [Option.some.injEq, Prod.mk.injEq] at h
        obtain ⟨rfl, rfl, rfl⟩ := h
        exact bld_goes0 hB hop hb hs hid (tag_ge _ _)
      · cases h
    | false =>
      rw [hb] at h
      simp only [cond_false] at h
      split at h
      · rename_i z hz
        simp only [Eff.exec] at h
        split at h
        · rename_i hid
          simp only [Option.some.injEq, Prod.mk.injEq] at h
          obtain ⟨rfl, rfl, rfl⟩ := h
          exact alloc_goes hop hs hz hid (tag_ge _ _)
        · cases h
      · simp [Eff.exec] at h
  · -- box
    rename_i t x hop
    split at h
    · rename_i vs hv
      simp only [Eff.exec] at h
      split at h
      · rename_i hid
        simp only [Option.some.injEq, Prod.mk.injEq] at h
        obtain ⟨rfl, rfl, rfl⟩ := h
        exact box_goes hop hs hv hid (tag_ge _ _)
      · cases h
    · simp [Eff.exec] at h
  · -- build
    rename_i t ps hop
    obtain ⟨h1, h2, c, h3, h4⟩ := build_run (P := E.P) (w := w) h hs
    exact goes_of hs ⟨h1, h2, c, h3, hpure (s := Instr.build t (ps.map fun p => (p.1, a.eval p.2))) (by simp only [execOp, hop]) (by
      rw [show (ps.map fun p => (p.1, a.eval p.2)) = (ps.toList.map fun p => (p.1, a.eval p.2)).toArray by apply Array.toList_inj.1; simp]
      exact h4)⟩
  · rename_i t n ps hop
    exact buildSlice_goes hop hs h
  · rename_i t x hop
    split at h
    · rename_i v' hv'
      cases hf : flatT E.P t with
      | false => rw [hf] at h; simp [Eff.exec] at h
      | true =>
        rw [hf] at h
        simp only [cond_true, Eff.exec, Option.some.injEq, Prod.mk.injEq] at h
        obtain ⟨rfl, rfl, rfl⟩ := h
        cases x with
        | global g =>
          obtain ⟨cs, ty, fz, c, k1, k2, k3⟩ := hB.2 g v' hv' w0 w R loc hs.gl hs.gnow
          exact goes_of hs ⟨rfl, rfl, c, k3, hpure (s := Instr.loadAt t (a.eval (.global g))) (by simp only [execOp, hop]) (by
            rw [show a.eval (.global g) = .pointer (some ⟨g, 0, none⟩) from rfl]
            simp only [Instr.loadAt, Instr.sureAddr, Sem.run_bind, Sem.run_pure, Result.andThen_ok]
            exact run_loadVar_one k1 (flatT_run hf) k2)⟩
        | _ => cases hv'
    split at h
    · rename_i id p hx
      obtain ⟨h1, h2, c, h3, h4⟩ := mtLoad_run (P := E.P) h hs (hx ▸ hs.eval x)
      exact goes_of hs ⟨h1, h2, c, h3, hpure (by simp only [execOp, hop]) h4⟩
    · obtain ⟨h1, h2, c, h3, h4⟩ := load_run (P := E.P) h hs (hs.eval x)
      exact goes_of hs ⟨h1, h2, c, h3, hpure (by simp only [execOp, hop]) h4⟩
  · rename_i t x y hop
    split at h
    · rename_i id p hx
      exact mtStore_goes hop hs hx h
    · exact store_goes hop hs h
  · -- nilCheck
    rename_i x hop
    have ex := hs.eval x
    split at h
    · rename_i id off hx
      simp only [Eff.exec, Option.some.injEq, Prod.mk.injEq] at h
      obtain ⟨rfl, rfl, rfl⟩ := h
      rw [hx] at ex
      have ex2 := ex
      obtain ⟨b, _, hv⟩ := ex
      exact goes_value hs ex2 (by simp [execOp, hop, hv])
    · rename_i id i off hx
      simp only [Eff.exec, Option.some.injEq, Prod.mk.injEq] at h
      obtain ⟨rfl, rfl, rfl⟩ := h
      rw [hx] at ex
      have ex2 := ex
      obtain ⟨_, _, _, _, hv⟩ := ex
      exact goes_value hs ex2 (by simp [execOp, hop, hv])
    · rename_i e y off hx
      simp only [Eff.exec, Option.some.injEq, Prod.mk.injEq] at h
      obtain ⟨rfl, rfl, rfl⟩ := h
      rw [hx] at ex
      have ex2 := ex
      obtain ⟨_, hv, _⟩ := ex
      exact goes_value hs ex2 (by simp [execOp, hop, hv])
    · rename_i id i hx
      simp only [Eff.exec, Option.some.injEq, Prod.mk.injEq] at h
      obtain ⟨rfl, rfl, rfl⟩ := h
      rw [hx] at ex
      have ex2 := ex
      obtain ⟨_, _, _, _, hv⟩ := ex
      exact goes_value hs ex2 (by simp [execOp, hop, hv])
    · rename_i id i j hx
      simp only [Eff.exec, Option.some.injEq, Prod.mk.injEq] at h
      obtain ⟨rfl, rfl, rfl⟩ := h
      rw [hx] at ex
      have ex2 := ex
      obtain ⟨_, _, _, _, _, _, hv⟩ := ex
      exact goes_value hs ex2 (by simp [execOp, hop, hv])
    · rename_i f x1 y1 hx
      simp only [Eff.exec, Option.some.injEq, Prod.mk.injEq] at h
      obtain ⟨rfl, rfl, rfl⟩ := h
      rw [hx] at ex
      have ex2 := ex
      obtain ⟨_, _, hv, _⟩ := ex
      exact goes_value hs ex2 (by simp [execOp, hop, hv])
    · simp [Eff.exec] at h
  · -- binOp
    rename_i op t x y ty hop
    have ex := hs.eval x
    have ey := hs.eval y
    have hbin : ∀ {c : Value}, (binOp op t (a.eval x) (a.eval y)).run E.P w = .ok c w → (eqGuard op t x y (a.eval x) (a.eval y)).run E.P w = .ok () w → (execOp a.eval o).run E.P w = .ok (.value c) w := fun h1 h2 => by
      simp only [execOp, hop, Sem.run_bind, h2, Result.andThen_ok, h1]
      rfl
    split at h
    · rename_i e hu
      cases hn : isNil (st.rv y) with
      | false => rw [hn] at h; simp [Eff.exec] at h
      | true =>
        rw [hn] at h
        have hy := isNil_rep hn ey
        obtain ⟨b, ob1, f1, h1, h2⟩ := Eff.exec_bind _ _ _ _ _ h
        simp only [Eff.exec, Option.some.injEq, Prod.mk.injEq] at h2
        obtain ⟨rfl, rfl, rfl⟩ := h2
        obtain ⟨h3, h4, ad, l, c, hx, h5⟩ := nilE_run (P := E.P) h1 hs ex
        refine goes_of hs ⟨h3, h4, _, rfl, hbin ?_ (by rw [hx, hy]; exact guard_slice)⟩
        rw [hx, hy]
        simp only [binOp, Sem.run_bind, Op.equal, Op.maxDepth]
        rw [equalIn_nil 9999 t e ad l c hu]
        simp [h5]
    · rename_i e hu
      cases hn : isNil (st.rv y) with
      | false => rw [hn] at h; simp [Eff.exec] at h
      | true =>
        rw [hn] at h
        have hy := isNil_rep hn ey
        obtain ⟨b, ob1, f1, h1, h2⟩ := Eff.exec_bind _ _ _ _ _ h
        simp only [Eff.exec, Option.some.injEq, Prod.mk.injEq] at h2
        obtain ⟨rfl, rfl, rfl⟩ := h2
        obtain ⟨h3, h4, ad, l, c, hx, h5⟩ := nilE_run (P := E.P) h1 hs ex
        refine goes_of hs ⟨h3, h4, _, rfl, hbin ?_ (by rw [hx, hy]; exact guard_slice)⟩
        rw [hx, hy]
        simp only [binOp, Sem.run_bind, Op.equal, Op.maxDepth]
        rw [equalIn_nil 9999 t e ad l c hu]
        simp [h5, notB]
    · rename_i fs hu
      obtain ⟨b, ob1, f1, h1, h2⟩ := Eff.exec_bind _ _ _ _ _ h
      simp only [Eff.exec, Option.some.injEq, Prod.mk.injEq] at h2
      obtain ⟨rfl, rfl, rfl⟩ := h2
      obtain ⟨h3, h4, hgt, ax, ay, hx, hy, h5⟩ := eqStruct_run (P := E.P) (w := w) hu h1 ex ey
      refine goes_of hs ⟨h3, by rw [h4], _, rfl, hbin ?_ (by rw [hx, hy]; exact guard_agg hgt)⟩
      have h6 := h5 9998
      rw [hx, hy] at h6 ⊢
      simp only [binOp, Sem.run_bind, Op.equal, Op.maxDepth]
      rw [h6]
      simp
    · rename_i fs hu
      obtain ⟨b, ob1, f1, h1, h2⟩ := Eff.exec_bind _ _ _ _ _ h
      simp only [Eff.exec, Option.some.injEq, Prod.mk.injEq] at h2
      obtain ⟨rfl, rfl, rfl⟩ := h2
      obtain ⟨h3, h4, hgt, ax, ay, hx, hy, h5⟩ := eqStruct_run (P := E.P) (w := w) hu h1 ex ey
      refine goes_of hs ⟨h3, by rw [h4], _, rfl, hbin ?_ (by rw [hx, hy]; exact guard_agg hgt)⟩
      have h6 := h5 9998
      rw [hx, hy] at h6 ⊢
      simp only [binOp, Sem.run_bind, Op.equal, Op.maxDepth]
      rw [h6]
      simp [notB]
    · rename_i hu
      split at h
      · rename_i b1 b2 hx hy
        simp only [Eff.exec, Option.some.injEq, Prod.mk.injEq] at h
        obtain ⟨rfl, rfl, rfl⟩ := h
        rw [hx] at ex
        rw [hy] at ey
        have ex' : a.eval x = .bool b1 := ex
        have ey' : a.eval y = .bool b2 := ey
        refine goes_value hs rfl (hbin ?_ (by rw [ex', ey']; exact guard_bool))
        rw [ex', ey']
        simp only [binOp, Sem.run_bind, Op.equal, Op.maxDepth]
        rw [equalIn_bool 9999 t b1 b2 hu]
        simp [eqB]
      · simp [Eff.exec] at h
    · rename_i hu
      split at h
      · rename_i b1 b2 hx hy
        simp only [Eff.exec, Option.some.injEq, Prod.mk.injEq] at h
        obtain ⟨rfl, rfl, rfl⟩ := h
        rw [hx] at ex
        rw [hy] at ey
        have ex' : a.eval x = .bool b1 := ex
        have ey' : a.eval y = .bool b2 := ey
        refine goes_value hs rfl (hbin ?_ (by rw [ex', ey']; exact guard_bool))
        rw [ex', ey']
        simp only [binOp, Sem.run_bind, Op.equal, Op.maxDepth]
        rw [equalIn_bool 9999 t b1 b2 hu]
        simp [eqB, notB]
      · simp [Eff.exec] at h
    · obtain ⟨h1, h2, c, h3, h4, h5⟩ := binE_run (P := E.P) (w := w) t h ex ey
      exact goes_of hs ⟨h1, by rw [h2], c, h3, hbin h4 (h5 x y)⟩
  · -- unOp
    rename_i op t x hop
    obtain ⟨h1, h2, c, h3, h4⟩ := unE_run (P := E.P) (w := w) h (hs.eval x)
    exact goes_of hs ⟨h1, h2, c, h3, hpure (by simp only [execOp, hop]) h4⟩
  · rename_i s d x hop
    exact conv_goes hop hs h
  · rename_i t x y hop
    cases hm : (matOf? E.P t).isSome with
    | true => rw [hm] at h; exact mtMake_goes hop hs h
    | false => rw [hm] at h; exact makeSlice_goes hop hs h
  · -- slice
    rename_i t x lo hi mx hop
    obtain ⟨h1, h2, c, h3, h4⟩ := slice_run (P := E.P) (clo := lo.map a.eval) (chi := hi.map a.eval) (cmx := mx.map a.eval) h hs (hs.eval x).unrc
      (fun v hv => by cases lo with
        | none => simp at hv
        | some p => simp only [Option.map_some, Option.some.injEq] at hv; subst hv; exact ⟨_, rfl, hs.eval p⟩) (fun hv => by cases lo <;> simp_all)
      (fun v hv => by cases hi with
        | none => simp at hv
        | some p => simp only [Option.map_some, Option.some.injEq] at hv; subst hv; exact ⟨_, rfl, hs.eval p⟩) (fun hv => by cases hi <;> simp_all) (fun hv => by cases mx <;> simp_all)
    exact goes_of hs ⟨h1, h2, c, h3, hpure (by simp only [execOp, hop]) h4⟩
  · -- fieldAddr
    rename_i s x f hop
    have ex := hs.eval x
    split at h
    · rename_i off n b id o1 hf hx
      cases hb : Nat.beq n 0 with
      | true => rw [hb] at h; simp [Eff.exec] at h
      | false =>
        rw [hb] at h
        simp only [cond_false, Eff.exec, Option.some.injEq, Prod.mk.injEq] at h
        obtain ⟨rfl, rfl, rfl⟩ := h
        rw [hx] at ex
        obtain ⟨bk, h1, hv⟩ := ex
        exact goes_value hs ⟨bk, h1, rfl⟩ (hpure (s := Instr.fieldAt s (a.eval x) f) (by simp only [execOp, hop]) (by rw [hv]; exact fieldAt_run hf (fun e => by subst e; simp at hb) bk o1))
    · rename_i off n b id i o1 hf hx
      cases hb : Nat.beq n 0 with
      | true => rw [hb] at h; simp [Eff.exec] at h
      | false =>
        rw [hb] at h
        simp only [cond_false, Eff.exec, Option.some.injEq, Prod.mk.injEq] at h
        obtain ⟨rfl, rfl, rfl⟩ := h
        rw [hx] at ex
        obtain ⟨h1, h2, ad, h3, hv⟩ := ex
        exact goes_value hs ⟨h1, h2, ad, h3, by rw [← Nat.add_assoc]⟩ (hpure (s := Instr.fieldAt s (a.eval x) f) (by simp only [execOp, hop]) (by rw [hv]; exact fieldAt_run hf (fun e => by subst e; simp at hb) _ _))
    · rename_i off n b e y o1 hf hx
      cases hb : Nat.beq n 0 with
      | true => rw [hb] at h; simp [Eff.exec] at h
      | false =>
        rw [hb] at h
        simp only [cond_false, Eff.exec, Option.some.injEq, Prod.mk.injEq] at h
        obtain ⟨rfl, rfl, rfl⟩ := h
        rw [hx] at ex
        obtain ⟨ad, hv, h1, cs, ty, fz, h2, h3⟩ := ex
        exact goes_value hs ⟨ad, by rw [← Nat.add_assoc], h1, cs, ty, fz, h2, h3⟩ (hpure (s := Instr.fieldAt s (a.eval x) f) (by simp only [execOp, hop]) (by rw [hv]; exact fieldAt_run hf (fun e => by subst e; simp at hb) _ _))
    · simp [Eff.exec] at h
  · -- field
    rename_i s x f hop
    have ex := hs.eval x
    split at h
    · rename_i off n ag cs hf hx
      rw [hx] at ex
      obtain ⟨us, hv, hr⟩ := ex
      obtain ⟨fs, xf, hu, hff, rfl, rfl, hb⟩ := field_get hf
      obtain ⟨p1, p2⟩ := part_run (P := E.P) (w := w) (cs := us) (off := xf.offset) hb
      cases ag with
      | true =>
        simp only [cond_true, Eff.exec, Option.some.injEq, Prod.mk.injEq] at h
        obtain ⟨rfl, rfl, rfl⟩ := h
        refine goes_value hs ⟨_, rfl, ?_⟩ (hpure (s := Instr.field s (a.eval x) f) (by simp only [execOp, hop]) (by
          rw [hv]
          simp only [Instr.field, Sem.run_bind, run_underlying hu, Result.andThen_ok, hff, asAgg, Sem.run_pure]
          exact p1 rfl))
        simpa using RepL.take (tsize E.P xf.type) (RepL.drop xf.offset hr)
      | false =>
        simp only [cond_false] at h
        split at h
        · rename_i u hu'
          simp only [Eff.exec, Option.some.injEq, Prod.mk.injEq] at h
          obtain ⟨rfl, rfl, rfl⟩ := h
          obtain ⟨c, hc1, hc2⟩ := RepL.get hr hu'
          exact goes_value hs hc2 (hpure (s := Instr.field s (a.eval x) f) (by simp only [execOp, hop]) (by
            rw [hv]
            simp only [Instr.field, Sem.run_bind, run_underlying hu, Result.andThen_ok, hff, asAgg, Sem.run_pure]
            exact p2 rfl c hc1))
        · simp [Eff.exec] at h
    · simp [Eff.exec] at h
  · -- indexAddr
    rename_i t x i hop
    split at h
    · rename_i id p hx
      obtain ⟨h1, h2, c, h3, h4⟩ := mtIndex_run (P := E.P) h hs (hx ▸ hs.eval x) (hs.eval i)
      exact goes_of hs ⟨h1, h2, c, h3, hpure (by simp only [execOp, hop]) h4⟩
    · rename_i id off hx
      obtain ⟨h1, h2, c, h3, h4⟩ := arrIndex_run (P := E.P) h hs (hx ▸ hs.eval x) (hs.eval i)
      exact goes_of hs ⟨h1, h2, c, h3, hpure (by simp only [execOp, hop]) h4⟩
    · obtain ⟨h1, h2, c, h3, h4⟩ := indexAddr_run (P := E.P) h hs (hs.eval x).unrc (hs.eval i)
      exact goes_of hs ⟨h1, h2, c, h3, hpure (by simp only [execOp, hop]) h4⟩
  · rename_i t x i hop
    obtain ⟨h1, h2, c, h3, h4⟩ := index_run (P := E.P) (w := w) h (hs.eval x) (hs.eval i)
    exact goes_of hs ⟨h1, h2, c, h3, hpure (by simp only [execOp, hop]) h4⟩
  · -- extract
    rename_i x i hop
    have ex := hs.eval x
    split at h
    · rename_i vs hx
      rw [hx] at ex
      obtain ⟨us, hv, hr⟩ := ex
      split at h
      · rename_i u hu
        simp only [Eff.exec, Option.some.injEq, Prod.mk.injEq] at h
        obtain ⟨rfl, rfl, rfl⟩ := h
        obtain ⟨c, hc1, hc2⟩ := RepL.get hr hu
        have hc1' : us[i]? = some c := by simpa using hc1
        exact goes_value hs hc2 (hpure (s := Instr.extract (a.eval x) i) (by simp only [execOp, hop]) (by rw [hv]; simp [Instr.extract, hc1']))
      · simp [Eff.exec] at h
    · simp [Eff.exec] at h
  · -- makeFunc
    rename_i f first cap hop
    simp only [Eff.exec, Option.some.injEq, Prod.mk.injEq] at h
    obtain ⟨rfl, rfl, rfl⟩ := h
    refine goes_value hs (c := .func (.func f) (first.map a.eval) (cap.map a.eval)) ⟨_, _, rfl, ?_, ?_⟩ (hpure (s := Instr.makeFunc (.func f) (first.map a.eval) (cap.map a.eval)) (by simp only [execOp, hop]) (by simp [Instr.makeFunc]))
    · simpa using hs.evals first.toList
    · simpa using hs.evals cap.toList
  · -- calls
    rename_i c hop
    split at h
    · rename_i x hc
      split at h
      · rename_i f first cap hx
        exact hcall c x f first cap hop hc hx h
      · simp [Eff.exec] at h
    · rename_i b hc
      obtain ⟨callee, args, argTypes⟩ := c
      simp only at hc
      subst hc
      have harg : ∀ l : List Operand, args.toList = l → args.map a.eval = (l.map a.eval).toArray := fun l hl => by
        subst hl
        apply Array.toList_inj.1
        simp
      have hbuilt : ∀ {s : Sem Value} {c : Value}, (∀ vs, builtin b argTypes o.type vs (args.map a.eval) = (do pure (.value (← s)))) → s.run E.P w = .ok c w → (execOp a.eval o).run E.P w = .ok (.value c) w := fun h1 h2 => by
        simp only [execOp, hop, resolve, invoke, Sem.run_bind, Sem.run_pure, Result.andThen_ok, h1, h2]
      split at h
      · rename_i x t tl ha ht
        cases hal : args.toList with
        | nil => rw [hal] at ha; simp at ha
        | cons p l =>
          rw [hal] at ha
          simp only [List.map_cons, List.cons.injEq, List.map_eq_nil_iff] at ha
          obtain ⟨rfl, rfl⟩ := ha
          have ht' : argTypes[0]? = some t := by rw [← Array.getElem?_toList, ht]; rfl
          obtain ⟨h1, h2, c, h3, h4⟩ := len_run (P := E.P) (ty := o.type) h hs (hs.eval p).unrc argTypes ht'
          exact goes_of hs ⟨h1, h2, c, h3, hbuilt (s := Builtin.len_ argTypes o.type #[a.eval p]) (fun vs => by rw [harg _ hal]; rfl) h4⟩
      · rename_i s x t u ha ht
        cases hal : args.toList with
        | nil => rw [hal] at ha; simp at ha
        | cons p l =>
          cases l with
          | nil => rw [hal] at ha; simp at ha
          | cons q l =>
            rw [hal] at ha
            simp only [List.map_cons, List.cons.injEq, List.map_eq_nil_iff] at ha
            obtain ⟨rfl, rfl, rfl⟩ := ha
            have e1 : args = #[p, q] := by apply Array.toList_inj.1; rw [hal]
            have e2 : argTypes = #[t, u] := by apply Array.toList_inj.1; rw [ht]
            subst e1 e2
            cases hut : (Nat.beq u t && !isStrV (st.rv q)) || (isStr E.P u && isStrV (st.rv q)) with
            | false => rw [hut] at h; simp [Eff.exec] at h
            | true =>
              rw [hut] at h
              exact append_goes hop hs hut h
      · rename_i x y ts ha
        cases hal : args.toList with
        | nil => rw [hal] at ha; simp at ha
        | cons p l =>
          cases l with
          | nil => rw [hal] at ha; simp at ha
          | cons q l =>
            rw [hal] at ha
            simp only [List.map_cons, List.cons.injEq, List.map_eq_nil_iff] at ha
            obtain ⟨rfl, rfl, rfl⟩ := ha
            obtain ⟨h1, h2, c, h3, h4⟩ := mx_run (P := E.P) (w := w) (ts := argTypes) (t := o.type) h (hs.eval p) (hs.eval q)
            exact goes_of hs ⟨h1, h2, c, h3, hbuilt (s := Builtin.max_ argTypes o.type #[a.eval p, a.eval q]) (fun vs => by rw [harg _ hal]; rfl) h4⟩
      · rename_i x y ts ha
        cases hal : args.toList with
        | nil => rw [hal] at ha; simp at ha
        | cons p l =>
          cases l with
          | nil => rw [hal] at ha; simp at ha
          | cons q l =>
            rw [hal] at ha
            simp only [List.map_cons, List.cons.injEq, List.map_eq_nil_iff] at ha
            obtain ⟨rfl, rfl, rfl⟩ := ha
            obtain ⟨h1, h2, c, h3, h4⟩ := mn_run (P := E.P) (w := w) (ts := argTypes) (t := o.type) h (hs.eval p) (hs.eval q)
            exact goes_of hs ⟨h1, h2, c, h3, hbuilt (s := Builtin.min_ argTypes o.type #[a.eval p, a.eval q]) (fun vs => by rw [harg _ hal]; rfl) h4⟩
      · rename_i x t ha ht
        cases hal : args.toList with
        | nil => rw [hal] at ha; simp at ha
        | cons p l =>
          rw [hal] at ha
          simp only [List.map_cons, List.cons.injEq, List.map_eq_nil_iff] at ha
          obtain ⟨rfl, rfl⟩ := ha
          have e1 : args = #[p] := by apply Array.toList_inj.1; rw [hal]
          have e2 : argTypes = #[t] := by apply Array.toList_inj.1; rw [ht]
          subst e1 e2
          exact clear_goes hop hs h
      · simp [Eff.exec] at h
    · simp [Eff.exec] at h
  · simp [Eff.exec] at h
end
end Go.Eng
namespace Go.Eng
set_option linter.unusedSectionVars false
variable [Glb]
open Go.RowKit
set_option linter.unusedSimpArgs false
set_option linter.unusedVariables false

/-! ### one operation, done -/
/-- is it wanted? -/
noncomputable def wantV (ops : List Oper) (o : Oper) (st : St) : Option Bool := match o.guard with
  | none => some true
  | some (g, want) => match dstOf ops g with
    | none => none
    | some t => match st.tm t with
      | .bool b => some (b == want)
      | .tup [] => some false
      | _ => none
noncomputable def stp (E : Env) (cf : Cf E) (ops : List Oper) (o : Oper) (st : St) : Option St := match wantV ops o st with
  | some true => match (effOp E cf o st.rv).exec st.ob ⟨[], [], []⟩ with
    | some (v, ob', f) => some (St.put? { tm := tmAfter f.ns st.tm, ob := ob' } o.dst v)
    | none => none
  | some false => some (St.put? st o.dst (.tup []))
  | none => none
noncomputable def runL (E : Env) (cf : Cf E) (ops : List Oper) : List Oper → St → Option St
  | [], st => some st
  | o :: l, st => match stp E cf ops o st with
    | some st' => runL E cf ops l st'
    | none => none
theorem put_same {st : St} {t : Nat} {v : V} (h : st.tm t = v) : st.put t v = st := by
  unfold St.put
  have : (fun j => bif Nat.beq j t then v else st.tm j) = st.tm := by
    funext j
    by_cases e : j = t
    · subst e; rw [beq_self]; exact h.symm
    · rw [beq_ne e]; rfl
  rw [this]
theorem stepE_inv {E : Env} {cf : Cf E} {ρ : Type} {o : Oper} {st : St} {K : St → Option ρ} {r : ρ} (h : stepE E cf o st K = some r) :
    ∃ v ob' f, (effOp E cf o st.rv).exec st.ob ⟨[], [], []⟩ = some (v, ob', f) ∧ K (St.put? { tm := tmAfter f.ns st.tm, ob := ob' } o.dst v) = some r := by
  obtain ⟨v, ob', f, h1, h2⟩ := Eff.run_inv _ _ _ _ _ h
  rw [V.force_eq] at h2
  exact ⟨v, ob', f, h1, h2⟩
theorem evR_inv {E : Env} {cf : Cf E} {ρ : Type} {ops : List Oper} : ∀ (l : List Oper) (st : St) (K : St → Option ρ) (r : ρ), evR E cf ops l st K = some r → ∃ st', runL E cf ops l st = some st' ∧ K st' = some r
  | [], st, K, r, h => ⟨st, rfl, h⟩
  | o :: l, st, K, r, h => by
    have hgo : ∀ {st1 : St}, stepE E cf o st1 (fun st' => evR E cf ops l st' K) = some r → wantV ops o st1 = some true → ∃ st', runL E cf ops (o :: l) st1 = some st' ∧ K st' = some r := fun {st1} h hw => by
      obtain ⟨v, ob', f, h1, h2⟩ := stepE_inv h
      obtain ⟨st', h3, h4⟩ := evR_inv l _ K r h2
      exact ⟨st', by simp only [runL, stp, hw, h1]; exact h3, h4⟩
    have hno : ∀ {st1 : St}, evR E cf ops l (St.put? st1 o.dst (.tup [])) K = some r → wantV ops o st1 = some false → ∃ st', runL E cf ops (o :: l) st1 = some st' ∧ K st' = some r := fun {st1} h hw => by
      obtain ⟨st', h3, h4⟩ := evR_inv l _ K r h
      exact ⟨st', by simp only [runL, stp, hw]; exact h3, h4⟩
    simp only [evR] at h
    cases hg : o.guard with
    | none => rw [hg] at h; exact hgo h (by simp [wantV, hg])
    | some p =>
      obtain ⟨g, want⟩ := p
      rw [hg] at h
      simp only at h
      cases ht : dstOf ops g with
      | none => rw [ht] at h; cases h
      | some t =>
        rw [ht] at h
        simp only at h
        split at h
        · rename_i b hb
          have hw : wantV ops o st = some (b == want) := by simp [wantV, hg, ht, hb]
          cases b with
          | true =>
            simp only [brB, cond_true, put_same hb] at h
            cases want with
            | true => exact hgo h hw
            | false => exact hno h hw
          | false =>
            simp only [brB, cond_false, put_same hb] at h
            cases want with
            | true => exact hno h hw
            | false => exact hgo h hw
        · rename_i hb
          exact hno h (by simp [wantV, hg, ht, hb])
        · cases h

section
variable {E : Env} {cf : Cf E} {w0 w w' : World} {R L : Nat → Prop} {N : Fx} {st st' : St} {a : Act} {loc : Nat → Loc} {γ : Nat → Option Nat}

/-- what is asked of the callees -/
noncomputable def CallsOk0 (E : Env) (cf : Cf E) : Prop := ∀ (o : Oper) (w0 w : World) (R L : Nat → Prop) (N : Fx) (st : St) (a : Act) (loc : Nat → Loc) (γ : Nat → Option Nat) (c : Call) (x : Operand) (f : Nat) (first cap : List V) (v : V) (ob' : Ob) (f' : Fp),
  Sim w0 R L N st a w loc γ → o.op = .call c → c.callee = .value x → st.rv x = .fn f first cap → (callE E cf o.dst f (first ++ c.args.toList.map st.rv ++ cap)).exec st.ob ⟨[], [], []⟩ = some (v, ob', f') → Goes E.P o w0 R L N st a w v ob' f'.ns

noncomputable def CallsOk (E : Env) (cf : Cf E) : Prop := CallsOk0 E cf ∧ BldTy E

theorem dsts_lt {ops : List Oper} (h : dstsOk N.n ops = true) {o : Oper} (ho : o ∈ ops) : ∀ x, o.dst = some x → x < N.n := by
  intro x hx
  have := List.all_eq_true.1 h o ho
  rw [hx] at this
  simpa [Nat.blt_eq] using this

/-- one operation of a region -/
theorem op_step (hC : CallsOk E cf) {ops : Array Oper} (hN : dstsOk N.n ops.toList = true) {i : Nat} {o : Oper} (ho : ops[i]? = some o) (hs : Sim w0 R L N st a w loc γ) (h : stp E cf ops.toList o st = some st')
    {Q : Exit → Act → World → Prop} {K : Act → World → Prop} (hk : ∀ a' w' loc' γ', Sim w0 R L N st' a' w' loc' γ' → K a' w') : wpOp E.P ops Q i K a w := by
  have hmem : o ∈ ops.toList := by
    have := (Array.getElem?_eq_some_iff.1 ho).2
    rw [← this]
    exact Array.getElem_mem_toList _
  have hd := dsts_lt hN hmem
  unfold wpOp
  rw [ho]
  simp only
  -- wanted or not
  have hwant : ∀ b, wantV ops.toList o st = some b → Region.wanted o (yielded ops a.tmps) = b := by
    intro b hb
    unfold wantV at hb
    unfold Region.wanted
    cases hg : o.guard with
    | none => rw [hg] at hb; simp at hb; subst hb; rfl
    | some p =>
      obtain ⟨g, want⟩ := p
      rw [hg] at hb
      simp only at hb ⊢
      cases ht : dstOf ops.toList g with
      | none => rw [ht] at hb; cases hb
      | some t =>
        rw [ht] at hb
        simp only at hb
        have hdst : (ops[g]?).bind (·.dst) = some t := by
          unfold dstOf at ht
          rw [Array.getElem?_toList] at ht
          cases hq : ops[g]? with
          | none => rw [hq] at ht; cases ht
          | some q => rw [hq] at ht; exact ht
        have hr := hs.tm t
        unfold yielded
        rw [hdst]
        simp only [Option.bind_some]
        split at hb
        · rename_i bb hbb
          rw [hbb] at hr
          have hr' : a.tmps.getD t undef = .bool bb := hr
          have hx : a.tmps[t]? = some (.bool bb) := by
            rw [Array.getD_eq_getD_getElem?] at hr'
            cases hq : a.tmps[t]? with
            | none => rw [hq] at hr'; cases hr'
            | some y => rw [hq] at hr'; simp at hr'; rw [hr']
          rw [hx]
          simp only [Option.some.injEq] at hb
          subst hb
          cases bb <;> cases want <;> rfl
        · rename_i hbb
          rw [hbb] at hr
          obtain ⟨cs, hr', hcs⟩ := hr
          simp only [Option.some.injEq] at hb
          subst hb
          cases hq : a.tmps[t]? with
          | none => rfl
          | some y =>
            rw [Array.getD_eq_getD_getElem?, hq] at hr'
            simp only [Option.getD_some] at hr'
            subst hr'
            rfl
        · cases hb
  unfold stp at h
  split at h
  · rename_i hw
    rw [if_pos (by rw [hwant _ hw])]
    split at h
    · rename_i v ob' f hx
      obtain rfl := Option.some.inj h
      left
      refine op_goes hC.2 hs hx (fun c x f1 first cap h1 h2 h3 h4 => hC.1 o w0 w R L N st a loc γ c x f1 first cap v ob' f hs h1 h2 h3 h4) K Q (fun c w1 loc' γ' h1 h2 => ?_)
      exact hk _ _ _ _ (h1.put? h2 o.dst hd)
    · cases h
  · rename_i hw
    rw [if_neg (by rw [hwant _ hw]; simp)]
    obtain rfl := Option.some.inj h
    exact hk _ _ _ _ (hs.put? Rep_undef o.dst hd)
  · cases h

/-- a region in the text's order -/
theorem region_ok (hC : CallsOk E cf) {ops : Array Oper} (hN : dstsOk N.n ops.toList = true) {Q : Exit → Act → World → Prop} :
    ∀ (l : List Oper) (k : Nat) (st st' : St) (a : Act) (w : World) (loc : Nat → Loc) (γ : Nat → Option Nat), (∀ j, l[j]? = ops[k + j]?) → Sim w0 R L N st a w loc γ → runL E cf ops.toList l st = some st' →
      (∀ a' w' loc' γ', Sim w0 R L N st' a' w' loc' γ' → Q .normal a' w') → wpOps E.P ops Q (List.range' k l.length) a w
  | [], k, st, st', a, w, loc, γ, _, hs, h, hQ => by
    obtain rfl := Option.some.inj h
    exact hQ _ _ _ _ hs
  | o :: l, k, st, st', a, w, loc, γ, hl, hs, h, hQ => by
    simp only [runL] at h
    split at h
    · rename_i st1 h1
      simp only [List.length_cons, List.range'_succ]
      rw [wpOps_cons]
      refine op_step hC hN (by simpa using (hl 0).symm) hs h1 (fun a' w' loc' γ' hs' => ?_)
      exact region_ok hC hN l (k + 1) st1 st' a' w' loc' γ' (fun j => by have := hl (j + 1); simpa [Nat.add_assoc, Nat.add_comm 1 j] using this) hs' h hQ
    · cases h
end
end Go.Eng
namespace Go.Eng
set_option linter.unusedSectionVars false
variable [Glb]
open Go.RowKit
set_option linter.unusedSimpArgs false
set_option linter.unusedVariables false

noncomputable def DrawOk (E : Env) (cf : Cf E) : Prop := ∀ (N : Fx) (ops : Array Oper), dstsOk N.n ops.toList = true → edgesDown ops.toList 0 = true → ∀ {ρ : Type} (K : St → Option ρ) (r : ρ) (w0 w : World) (R L : Nat → Prop) (st : St) (a : Act) (loc : Nat → Loc) (γ : Nat → Option Nat) (id : Nat) (Q : Exit → Act → World → Prop),
  Sim w0 R L N st a w loc γ → evRD E cf ops (masks ops.toList []) ops.toList 0 st [] K = some r → (∀ st' a' w' loc' γ', Sim w0 R L N st' a' w' loc' γ' → K st' = some r → Q .normal a' w') → (Code.region id ops true).wp E.P Q a w

section
variable {E : Env} {cf : Cf E} {w0 w w' : World} {R L : Nat → Prop} {N : Fx} {st st' : St} {a : Act} {loc : Nat → Loc} {γ : Nat → Option Nat}

/-- the states that a state may be turned into: the same frame, told otherwise -/
noncomputable def Turns (w0 : World) (R L : Nat → Prop) (N : Fx) {ρ : Type} (T : St → (St → Option ρ) → Option ρ) : Prop :=
  ∀ (st : St) (K : St → Option ρ) (r : ρ) (a : Act) (w : World) (loc : Nat → Loc) (γ : Nat → Option Nat), Sim w0 R L N st a w loc γ → T st K = some r → ∃ st' loc' γ', Sim w0 R L N st' a w loc' γ' ∧ K st' = some r

theorem least {p : Nat → Prop} (h : ∃ n, p n) : ∃ m, p m ∧ ∀ k, p k → m ≤ k := by
  classical
  obtain ⟨n, hn⟩ := h
  induction n using Nat.strongRecOn with
  | _ n ih =>
    by_cases hx : ∃ k, k < n ∧ p k
    · obtain ⟨k, hk, hp⟩ := hx
      exact ih k hk hp
    · exact ⟨n, hn, fun k hk => Nat.le_of_not_lt fun hlt => hx ⟨k, hlt, hk⟩⟩
theorem loop_ok {ρ : Type} {r : ρ} {body : St → (Exit → St → Option ρ) → Option ρ} {nm : St → (St → Option ρ) → Option ρ} {c : Code} {K : Exit → St → Option ρ} {Q : Exit → Act → World → Prop}
    (hbody : ∀ (st : St) (K' : Exit → St → Option ρ) (a : Act) (w : World) (loc : Nat → Loc) (γ : Nat → Option Nat) (Q' : Exit → Act → World → Prop), Sim w0 R L N st a w loc γ → body st K' = some r →
      (∀ e st' a' w' loc' γ', Sim w0 R L N st' a' w' loc' γ' → K' e st' = some r → Q' e a' w') → c.wp E.P Q' a w)
    (hnm : Turns w0 R L N nm) (hQ : ∀ e st' a' w' loc' γ', e ≠ .normal → Sim w0 R L N st' a' w' loc' γ' → K e st' = some r → Q e a' w')
    {n : Nat} {st : St} {a : Act} {w : World} {loc : Nat → Loc} {γ : Nat → Option Nat} (hs : Sim w0 R L N st a w loc γ) (h : loopK body nm n st K = some r) : (Code.loop c).wp E.P Q a w := by
  classical
  let W : Nat → Act → World → Prop := fun n a w => ∃ st loc γ, Sim w0 R L N st a w loc γ ∧ loopK body nm n st K = some r
  let I : Act → World → Prop := fun a w => ∃ n, W n a w
  let μ : Act → World → Nat := fun a w => if hI : ∃ n, W n a w then Classical.choose (least hI) else 0
  refine wp_loop I μ ⟨n, st, loc, γ, hs, h⟩ (fun a w hI => ?_)
  have hmu : μ a w = Classical.choose (least hI) := by simp only [μ]; exact dif_pos hI
  obtain ⟨st1, loc1, γ1, hs1, h1⟩ := (Classical.choose_spec (least hI)).1
  cases hn : Classical.choose (least hI) with
  | zero => rw [hn] at h1; simp [loopK] at h1
  | succ m =>
    rw [hn] at h1
    simp only [loopK] at h1
    refine hbody st1 _ a w loc1 γ1 _ hs1 h1 (fun e st2 a2 w2 loc2 γ2 hs2 h2 => ?_)
    cases e with
    | normal =>
      simp only [lpK] at h2
      obtain ⟨st3, loc3, γ3, hs3, h3⟩ := hnm st2 _ r a2 w2 loc2 γ2 hs2 h2
      have hI2 : ∃ n, W n a2 w2 := ⟨m, st3, loc3, γ3, hs3, h3⟩
      refine ⟨hI2, ?_⟩
      rw [hmu, hn]
      simp only [μ]
      rw [dif_pos hI2]
      exact Nat.lt_succ_of_le ((Classical.choose_spec (least hI2)).2 m ⟨st3, loc3, γ3, hs3, h3⟩)
    | _ => exact hQ _ st2 a2 w2 loc2 γ2 (by simp) hs2 h2

/-- what is asked of the turning of states -/
noncomputable def NormsOk (E : Env) (w0 : World) (R L : Nat → Prop) (N : Fx) (m : Nat) : Prop := ∀ (h : Hint) {ρ : Type}, Turns w0 R L N (fun (st : St) (K : St → Option ρ) => normK m h st K)
theorem mark_eq {ρ : Type} (h : Option Hint) (x : Option ρ) : mark h x = x := by cases h <;> first | rfl | exact joinB_eq x
theorem nrmK_turns {m : Nat} (hN : NormsOk E w0 R L N m) (h : Option Hint) {ρ : Type} : Turns w0 R L N (fun (st : St) (K : St → Option ρ) => nrmK m h st K) := by
  cases h with
  | none => exact fun st K r a w loc γ hs h => ⟨st, loc, γ, hs, h⟩
  | some h => exact hN h

theorem code_ok (hC : CallsOk E cf) (hD : DrawOk E cf) {f m k : Nat} (hNm : NormsOk E w0 R L N m) {ρ : Type} {r : ρ} : ∀ (c : Code), codeOk N.n c = true → ∀ (st : St) (K : Exit → St → Option ρ) (a : Act) (w : World) (loc : Nat → Loc) (γ : Nat → Option Nat) (Q : Exit → Act → World → Prop),
    Sim w0 R L N st a w loc γ → evK E cf f m k c st K = some r → (∀ e st' a' w' loc' γ', Sim w0 R L N st' a' w' loc' γ' → K e st' = some r → Q e a' w') → c.wp E.P Q a w
  | .skip, _, st, K, a, w, loc, γ, Q, hs, h, hQ => wp_skip (hQ .normal st a w loc γ hs h)
  | .label _, _, st, K, a, w, loc, γ, Q, hs, h, hQ => wp_label (hQ .normal st a w loc γ hs h)
  | .exit id, _, st, K, a, w, loc, γ, Q, hs, h, hQ => wp_exit (hQ (.exit id) st a w loc γ hs h)
  | .ret, _, st, K, a, w, loc, γ, Q, hs, h, hQ => wp_ret (hQ .ret st a w loc γ hs h)
  | .region id ops draw, hc, st, K, a, w, loc, γ, Q, hs, h, hQ => by
    cases draw with
    | true =>
      simp only [evK, cond_true] at h
      cases he : edgesDown ops.toList 0 with
      | false => rw [he] at h; cases h
      | true =>
        rw [he] at h
        simp only [cond_true, masksK_eq] at h
        exact hD N ops hc he _ r w0 w R L st a loc γ id Q hs h (fun st' a' w' loc' γ' hs' h' => hQ .normal st' a' w' loc' γ' hs' h')
    | false =>
      simp only [evK, cond_false] at h
      obtain ⟨st', h1, h2⟩ := evR_inv _ _ _ _ h
      refine wp_region ?_
      rw [List.range_eq_range', show ops.size = ops.toList.length from (Array.length_toList).symm]
      exact region_ok hC hc ops.toList 0 st st' a w loc γ (by simp) hs h1 (fun a' w' loc' γ' hs' => hQ .normal st' a' w' loc' γ' hs' h2)
  | .seq x y, hc, st, K, a, w, loc, γ, Q, hs, h, hQ => by
    simp only [codeOk, Bool.and_eq_true] at hc
    simp only [evK] at h
    refine wp_seq (code_ok hC hD hNm x hc.1 st _ a w loc γ _ hs h (fun e st1 a1 w1 loc1 γ1 hs1 h1 => ?_))
    cases e with
    | normal =>
      simp only [seqKont] at h1
      obtain ⟨st2, loc2, γ2, hs2, h2⟩ := nrmK_turns hNm _ st1 _ r a1 w1 loc1 γ1 hs1 h1
      rw [mark_eq] at h2
      exact code_ok hC hD hNm y hc.2 st2 K a1 w1 loc2 γ2 Q hs2 h2 hQ
    | _ => exact hQ _ st1 a1 w1 loc1 γ1 hs1 h1
  | .cond c x y, hc, st, K, a, w, loc, γ, Q, hs, h, hQ => by
    simp only [codeOk, Bool.and_eq_true] at hc
    simp only [evK] at h
    have ec := hs.eval c
    split at h
    · rename_i t ht
      rw [ht] at ec
      have ec' : a.eval c = .bool t := ec
      refine wp_cond ec' ?_
      cases t with
      | true => exact code_ok hC hD hNm x hc.1 st K a w loc γ Q hs h hQ
      | false => exact code_ok hC hD hNm y hc.2 st K a w loc γ Q hs h hQ
    · cases h
  | .block id b, hc, st, K, a, w, loc, γ, Q, hs, h, hQ => by
    simp only [evK] at h
    refine wp_block (code_ok hC hD hNm b hc st _ a w loc γ _ hs h (fun e st1 a1 w1 loc1 γ1 hs1 h1 => ?_))
    cases e with
    | exit id' =>
      simp only [blockKont] at h1
      by_cases e : id' = id
      · subst e
        rw [beq_self] at h1
        simp only [Exit.inBlock, if_true]
        exact hQ .normal st1 a1 w1 loc1 γ1 hs1 h1
      · rw [beq_ne e] at h1
        simp only [Exit.inBlock, if_neg e]
        exact hQ (.exit id') st1 a1 w1 loc1 γ1 hs1 h1
    | _ => exact hQ _ st1 a1 w1 loc1 γ1 hs1 h1
  | .loop b, hc, st, K, a, w, loc, γ, Q, hs, h, hQ => by
    simp only [evK] at h
    obtain ⟨st1, loc1, γ1, hs1, h1⟩ := nrmK_turns hNm _ st _ r a w loc γ hs h
    exact loop_ok (body := evK E cf f m k b) (fun st K' a w loc γ Q' hs h hQ' => code_ok hC hD hNm b hc st K' a w loc γ Q' hs h hQ') (nrmK_turns hNm _)
      (fun e st' a' w' loc' γ' _ hs' h' => hQ e st' a' w' loc' γ' hs' h') hs1 h1
  | .rangeFunc _ _ _ _, _, st, K, a, w, loc, γ, Q, hs, h, hQ => by simp [evK] at h
  | .scope _, _, st, K, a, w, loc, γ, Q, hs, h, hQ => by simp [evK] at h
  | .goto _, _, st, K, a, w, loc, γ, Q, hs, h, hQ => by simp [evK] at h
  | .refuse _, _, st, K, a, w, loc, γ, Q, hs, h, hQ => by simp [evK] at h
end
end Go.Eng
namespace Go.Eng
set_option linter.unusedSectionVars false
variable [Glb]
open Go.RowKit
set_option linter.unusedSimpArgs false
set_option linter.unusedVariables false

theorem forceN_eq {ρ : Type} : ∀ (ns : List Nat) (K : List Nat → ρ), forceN ns K = K ns
  | [], _ => rfl
  | n :: ns, K => by simp only [forceN]; rw [forceN_eq ns]
theorem forceObs_eq {ρ : Type} (g : Nat → Option Nat) (ob : Ob) : ∀ (l : List (Nat × Nat)) (K : List (Nat × Option O) → ρ), forceObs g ob l K = K (l.map fun p => (p.2, oneOb g ob p.1 p.2))
  | [], _ => rfl
  | (id, j) :: l, K => by simp only [forceObs, forceO_eq]; rw [forceObs_eq g ob l]; rfl
section
variable {w0 w w' : World} {R L : Nat → Prop} {N : Fx} {st : St} {a : Act} {loc loc' : Nat → Loc} {γ : Nat → Option Nat}
mutual
theorem Rep.ren {g : Nat → Option Nat} (hl : ∀ id j, g id = some j → loc' j = loc id) : ∀ (v : V) (c : Value), Rep w0 R loc v c → Rep w0 R loc' (v.ren g) c
  | .un, _, _ => trivial
  | .int _ _, _, h => h
  | .bool _, _, h => h
  | .str _, _, h => h
  | .nil, _, h => h
  | .pnil, _, h => h
  | .ro _ _, _, h => h
  | .rn _ _, _, h => h
  | .rc _ _ _, _, h => h
  | .roel _ _ _, _, h => h
  | .cst _, _, h => h
  | .own id, c, h => by
    simp only [V.ren]
    cases e : g id with
    | none => trivial
    | some j => simp only [Rep, hl id j e]; exact h
  | .sub id a b, c, h => by
    simp only [V.ren]
    cases e : g id with
    | none => trivial
    | some j => simp only [Rep, hl id j e]; exact h
  | .el id a b, c, h => by
    simp only [V.ren]
    cases e : g id with
    | none => trivial
    | some j => simp only [Rep, hl id j e]; exact h
  | .box id b, c, h => by
    simp only [V.ren]
    cases e : g id with
    | none => trivial
    | some j => simp only [Rep, hl id j e]; exact h
  | .mt id p, c, h => by
    simp only [V.ren]
    cases p.loose with
    | true => trivial
    | false =>
      simp only [cond_false]
      cases e : g id with
      | none => trivial
      | some j => simp only [Rep, hl id j e]; exact h
  | .agg vs, _, ⟨cs, hc, h⟩ => ⟨cs, hc, RepL.ren hl vs cs.toList h⟩
  | .tup vs, _, ⟨cs, hc, h⟩ => ⟨cs, hc, RepL.ren hl vs cs.toList h⟩
  | .fn _ a b, _, ⟨x, y, hc, h, h'⟩ => ⟨x, y, hc, RepL.ren hl a x.toList h, RepL.ren hl b y.toList h'⟩
theorem RepL.ren {g : Nat → Option Nat} (hl : ∀ id j, g id = some j → loc' j = loc id) : ∀ (vs : List V) (cs : List Value), RepL w0 R loc vs cs → RepL w0 R loc' (V.ren.go g vs) cs
  | [], [], _ => trivial
  | v :: vs, c :: cs, h => ⟨Rep.ren hl v c h.1, RepL.ren hl vs cs h.2⟩
  | [], _ :: _, h => h.elim
  | _ :: _, [], h => h.elim
end
theorem ObRep.ren {g : Nat → Option Nat} {γ' : Nat → Option Nat} (hl : ∀ id j, g id = some j → loc' j = loc id) {id j : Nat} (hg : g id = some j) (hγ : ∀ b, γ b = some id → γ' b = some j) {o : O} (h : ObRep w0 R w loc γ id o) : ObRep w0 R w loc' γ' j (o.ren g) := by
  cases o with
  | row nl e xs =>
    obtain ⟨h1, h2, h3, h4, h5, h6⟩ := h
    simp only [O.ren, ObRep, hl id j hg]
    exact ⟨h1, h2, h3, h4.imp (fun b hb => ⟨hγ b hb, rfl⟩) (fun _ _ h => h), h5, h6⟩
  | box cs =>
    obtain ⟨b, vals, ty, fz, h1, h2, h3, h4, h5⟩ := h
    simp only [O.ren, ObRep, hl id j hg]
    exact ⟨b, vals, ty, fz, h1, hγ b h2, h3, RepL.ren hl _ _ h4, h5⟩
  | bld s =>
    obtain ⟨b, p, v, h1, h2, h3, h4⟩ := h
    simp only [O.ren, ObRep, hl id j hg]
    exact ⟨b, p, v, h1, hγ b h2, fun g hg => hγ g (h3 g hg), h4⟩
  | mat c xss =>
    obtain ⟨h1, h2, h3, ad, cs, ty, fz, k1, k2, k3, k4, k5, k6, k7⟩ := h
    simp only [O.ren, ObRep, hl id j hg]
    refine ⟨h1, h2, h3, ad, cs, ty, fz, k1, k2, hγ _ k3, k4, k5, k6, fun i xs hx => ?_⟩
    obtain ⟨q1, q2, q3, q4, q5, q6⟩ := k7 i xs hx
    exact ⟨q1, q2, q3.imp (fun b hb => ⟨hγ b hb, rfl⟩) (fun _ _ h => h), q4, q5, q6⟩
theorem idxFrom_get (id : Nat) : ∀ (l : List Nat) (n j : Nat), idxFrom id l n = some j → n ≤ j ∧ l[j - n]? = some id
  | [], _, _, h => by simp [idxFrom] at h
  | x :: l, n, j, h => by
    simp only [idxFrom] at h
    by_cases e : x = id
    · subst e
      rw [beq_self] at h
      simp only [cond_true, Option.some.injEq] at h
      subst h
      simp
    · rw [beq_ne e] at h
      simp only [cond_false] at h
      obtain ⟨h1, h2⟩ := idxFrom_get id l (n + 1) j h
      refine ⟨by omega, ?_⟩
      rw [show j - n = (j - (n + 1)) + 1 by omega]
      simpa using h2
theorem tabOb_get : ∀ (l : List (Nat × Option O)) (j : Nat) (o : O), tabOb l j = some o → (j, some o) ∈ l
  | [], _, _, h => by simp [tabOb] at h
  | (i, x) :: l, j, o, h => by
    simp only [tabOb] at h
    by_cases e : j = i
    · subst e
      rw [beq_self] at h
      simp only [cond_true] at h
      subst h
      simp
    · rw [beq_ne e] at h
      simp only [cond_false] at h
      exact List.mem_cons_of_mem _ (tabOb_get l j o h)
theorem tabTm_rep {f : Nat → V} {cf : Nat → Value} : ∀ (l : List Nat), (∀ t, Rep w0 R loc (f t) (cf t)) → ∀ i, Rep w0 R loc (tabTm l (l.map f) i) (cf i)
  | [], _, i => trivial
  | t :: l, h, i => by
    simp only [List.map_cons, tabTm]
    by_cases e : i = t
    · subst e; rw [beq_self]; exact h i
    · rw [beq_ne e]; exact tabTm_rep l h i
theorem matOne_ok (hs : Sim w0 R L N st a w loc γ) (t : Nat) (e : CTs) (id : Nat) (h5 : 500 ≤ id) : ∃ loc' γ', Sim w0 R L N (matOne st t e id) a w loc' γ' := by
  unfold matOne
  split
  · rename_i ht
    split
    · rename_i hid
      cases he : e.flat with
      | false => exact ⟨loc, γ, hs⟩
      | true =>
        have h1 := hs.new (id := id) (o := .row .unk e []) (l := { a := none, len := 0, cap := 0, sz := e.size }) (γ' := γ) hid h5 hs.fr (Nat.le_refl _) (fun _ _ _ _ => rfl) (fun b => .inl rfl) (by
          simp only [ObRep, if_true]
          exact ⟨he, trivial, rfl, ⟨by simp, fun _ => rfl, (fun ad h => by cases h)⟩, (fun ad cs ty fz h => by cases h), trivial⟩)
        refine ⟨fun j => if j = id then { a := none, len := 0, cap := 0, sz := e.size } else loc j, γ, ?_⟩
        refine ⟨fun i => ?_, h1.ob, h1.col, h1.fr, h1.ro, h1.n, h1.df, h1.lc, h1.gl⟩
        simp only [cond_true, St.put]
        by_cases e : i = t
        · subst e
          rw [beq_self]
          have := hs.tm i
          rw [ht] at this
          simp only [cond_true, Rep, if_true]
          exact this
        · rw [beq_ne e]
          exact h1.tm i
    · exact ⟨loc, γ, hs⟩
  · exact ⟨loc, γ, hs⟩
theorem matIn_ok : ∀ (l : List (Nat × CTs)) (n : Nat) (st : St) (loc : Nat → Loc) (γ : Nat → Option Nat), Sim w0 R L N st a w loc γ → ∃ loc' γ', Sim w0 R L N (matIn st l n) a w loc' γ'
  | [], _, _, loc, γ, h => ⟨loc, γ, h⟩
  | (t, e) :: l, n, st, loc, γ, h => by
    obtain ⟨loc', γ', h'⟩ := matOne_ok h t e (900 + n) (by omega)
    exact matIn_ok l (n + 1) _ loc' γ' h'
theorem norms_ok (E : Env) (m : Nat) : NormsOk E w0 R L N m := by
  intro h ρ st0 K r a w loc0 γ0 hs0 hK
  obtain ⟨loc, γ, hs⟩ := matIn_ok h.mat 0 st0 loc0 γ0 hs0
  simp only [normK, forceN_eq, V.forceL_eq, forceObs_eq] at hK
  generalize matIn st0 h.mat 0 = st at hs hK
  generalize scan st.ob 60 (lentCells st.ob m ++ V.ids.go (h.live.map st.tm)) [] = ids at hK
  let g : Nat → Option Nat := fun id => bif Nat.ble 500 id then idxFrom id ids 500 else some id
  let loc' : Nat → Loc := fun j => if j < 500 then loc j else match ids[j - 500]? with
    | some id => loc id
    | none => default
  let γ' : Nat → Option Nat := fun b => match γ b with
    | some id => g id
    | none => none
  have hl : ∀ id j, g id = some j → loc' j = loc id := by
    intro id j hg
    simp only [g] at hg
    cases hb : Nat.ble 500 id with
    | false =>
      rw [hb] at hg
      simp only [cond_false, Option.some.injEq] at hg
      subst hg
      have : ¬ 500 ≤ id := fun hle => by rw [Nat.ble_eq_true_of_le hle] at hb; cases hb
      simp only [loc']
      rw [if_pos (by omega)]
    | true =>
      rw [hb] at hg
      simp only [cond_true] at hg
      obtain ⟨h1, h2⟩ := idxFrom_get id ids 500 j hg
      simp only [loc']
      rw [if_neg (by omega), h2]
  refine ⟨_, loc', γ', ⟨fun i => ?_, fun j o ho => ?_, fun b j hb => ?_, hs.fr, hs.ro, hs.n, hs.df, fun j hj => ?_, hs.gl⟩, hK⟩
  · exact tabTm_rep (f := fun i => (st.tm i).ren g) (cf := fun i => a.tmps.getD i undef) h.live (fun t => Rep.ren hl _ _ (hs.tm t)) i
  · have hm := tabOb_get _ j o ho
    obtain ⟨p, _, hp⟩ := List.mem_map.1 hm
    simp only [Prod.mk.injEq] at hp
    obtain ⟨rfl, hp⟩ := hp
    unfold oneOb at hp
    split at hp
    · rename_i j' hg
      by_cases e : j' = p.2
      · subst e
        rw [beq_self] at hp
        simp only [cond_true] at hp
        split at hp
        · rename_i o' ho'
          obtain rfl := Option.some.inj hp
          refine ObRep.ren hl hg (fun b hb => ?_) (hs.ob p.1 o' ho')
          simp only [γ', hb]
          exact hg
        · cases hp
      · rw [beq_ne e] at hp; cases hp
    · cases hp
  · simp only [γ'] at hb
    split at hb
    · rename_i id hid
      exact hs.col b id hid
    · cases hb
  · simp only [loc']
    rw [if_pos hj]
    exact hs.lc j hj
end
end Go.Eng
