/- Appends. -/
import Derived.Test.YtkghicadebeceaaDoorE10
namespace Go.Eng
set_option linter.unusedSectionVars false
variable [Glb]
open Go.RowKit
set_option linter.unusedSimpArgs false
set_option linter.unusedVariables false

section
variable {w0 w w' : World} {R L : Nat → Prop} {N : Fx} {st : St} {a : Act} {loc : Nat → Loc} {γ : Nat → Option Nat} {P : Program}

/-- what is appended: its length and its cells -/
structure Src (P : Program) (w0 : World) (R : Nat → Prop) (w : World) (e : CTs) (cx : Value) (ys : List e.D) (news : List Value) : Prop where
  len : ∀ w1, (Builtin.lenOf cx).run P w1 = .ok ys.length w1
  size : news.length = ys.length * e.size
  get : ∀ w1 : World, w1.heap = w.heap → (Builtin.firstCells e.size ys.length cx).run P w1 = .ok news.toArray w1
  cells : ∀ i y, ys[i]? = some y → CTs.Cells w0 R e (news.drop (i * e.size)) y
theorem flat_one : ∀ (e : CTs) (vs : List Value) (x : e.D) (j : Nat), e.flat = true → CTs.Cells w0 R e vs x → j < e.size → ∃ v, vs[j]? = some v ∧ v.oneCell' = true
  | .one (.int _), _, _, 0, _, ⟨v, h1, h2⟩, _ => ⟨v, h1, by obtain rfl := h2; rfl⟩
  | .one .bool, _, _, 0, _, ⟨v, h1, h2⟩, _ => ⟨v, h1, by obtain rfl := h2; rfl⟩
  | .one .str, _, _, 0, _, ⟨v, h1, h2⟩, _ => ⟨v, h1, by obtain rfl := h2; rfl⟩
  | .one (.row _), _, _, _, hf, _, _ => by simp [CTs.flat] at hf
  | .one _, _, _, j + 1, _, _, hj => by simp [CTs.size] at hj
  | .cons (.int _) _, _, _, 0, _, ⟨v, h1, h2, _⟩, _ => ⟨v, h1, by obtain rfl := h2; rfl⟩
  | .cons .bool _, _, _, 0, _, ⟨v, h1, h2, _⟩, _ => ⟨v, h1, by obtain rfl := h2; rfl⟩
  | .cons .str _, _, _, 0, _, ⟨v, h1, h2, _⟩, _ => ⟨v, h1, by obtain rfl := h2; rfl⟩
  | .cons (.row _) _, _, _, _, hf, _, _ => by simp [CTs.flat] at hf
  | .cons (.int _) cs, vs, x, j + 1, hf, ⟨_, _, _, h3⟩, hj => by
    obtain ⟨v, h4, h5⟩ := flat_one cs _ x.2 j (by simpa [CTs.flat] using hf) h3 (by simp [CTs.size] at hj; omega)
    rw [List.getElem?_drop] at h4
    exact ⟨v, by rw [Nat.add_comm]; exact h4, h5⟩
  | .cons .bool cs, vs, x, j + 1, hf, ⟨_, _, _, h3⟩, hj => by
    obtain ⟨v, h4, h5⟩ := flat_one cs _ x.2 j (by simpa [CTs.flat] using hf) h3 (by simp [CTs.size] at hj; omega)
    rw [List.getElem?_drop] at h4
    exact ⟨v, by rw [Nat.add_comm]; exact h4, h5⟩
  | .cons .str cs, vs, x, j + 1, hf, ⟨_, _, _, h3⟩, hj => by
    obtain ⟨v, h4, h5⟩ := flat_one cs _ x.2 j (by simpa [CTs.flat] using hf) h3 (by simp [CTs.size] at hj; omega)
    rw [List.getElem?_drop] at h4
    exact ⟨v, by rw [Nat.add_comm]; exact h4, h5⟩
theorem Src.one {e : CTs} {cx : Value} {ys : List e.D} {news : List Value} (h : Src P w0 R w e cx ys news) (hf : e.flat = true) : ∀ v ∈ news, v.oneCell' = true := by
  intro v hv
  obtain ⟨j, hj, rfl⟩ := List.getElem_of_mem hv
  have hp := e.size_pos
  have hlt : j / e.size < ys.length := by
    rw [h.size] at hj
    exact Nat.div_lt_of_lt_mul (by rw [Nat.mul_comm]; exact hj)
  have hm := Nat.mod_lt j hp
  obtain ⟨v, h1, h2⟩ := flat_one e _ _ (j % e.size) hf (h.cells (j / e.size) _ (List.getElem?_eq_getElem hlt)) hm
  rw [List.getElem?_drop] at h1
  have he : j / e.size * e.size + j % e.size = j := by rw [Nat.mul_comm]; exact Nat.div_add_mod j e.size
  rw [he, List.getElem?_eq_getElem hj] at h1
  rw [Option.some.inj h1]
  exact h2
theorem RowAt.src {R' : Nat → Prop} {e : CTs} {ad : Option Addr} {cap : Nat} {ys : List e.D} (h : RowAt w R' e.size (CTs.Cells w0 R e) ad cap ys) : ∃ news, Src P w0 R w e (.slice ad ys.length cap) ys news := by
  cases ad with
  | none =>
    have h0 : ys = [] := by
      have := h.2.1 rfl
      exact List.eq_nil_of_length_eq_zero (by have := h.1; omega)
    subst h0
    exact ⟨[], fun w1 => rfl, by simp, fun w1 _ => by simp [Builtin.firstCells], fun i y hy => by simp at hy⟩
  | some ad =>
    obtain ⟨hsp, _, cs, ty, fz, hh, hcap, hcells⟩ := h.2.2 ad rfl
    have hle : ys.length * e.size ≤ cap * e.size := Nat.mul_le_mul_right _ h.1
    have hl : ((cs.toList.drop ad.off).take (ys.length * e.size)).length = ys.length * e.size := by simp; omega
    refine ⟨(cs.toList.drop ad.off).take (ys.length * e.size), fun w1 => rfl, hl, fun w1 hw => ?_, fun i y hy => ?_⟩
    · refine run_firstCells_some (P := P) w1 e.size ys.length ad ys.length cap _ hl (fun j v hj => ?_)
      obtain ⟨b, o, sp⟩ := ad
      simp only at hsp hh hj
      subst hsp
      rw [add_at]
      have hh' : w1.heap[b]? = some (.cells cs ty fz) := by rw [hw]; exact hh
      rw [cell_at hh']
      rw [List.getElem?_take] at hj
      split at hj
      · rwa [List.getElem?_drop] at hj
      · cases hj
    · refine CTs.Cells.congr e _ _ y (fun j hj => ?_) (hcells i y hy)
      have hil := (List.getElem?_eq_some_iff.1 hy).1
      have : (i + 1) * e.size ≤ ys.length * e.size := Nat.mul_le_mul_right _ hil
      rw [Nat.add_mul] at this
      rw [List.getElem?_drop, List.getElem?_take, if_pos (by omega), List.getElem?_drop, List.getElem?_drop]
      congr 1
      omega
theorem numsOf_len (s : ByteArray) : List.length (α := (CTs.one (.int .u8)).D) (numsOf s) = s.size := by
  show List.length (α := Int) (numsOf s) = s.size
  simp [numsOf]
theorem numsOf_get (s : ByteArray) (i : Nat) (y : Int) (h : (numsOf s)[i]? = some y) : ∃ b, s.data.toList[i]? = some b ∧ y = b.toNat := by
  simp only [numsOf, List.getElem?_map] at h
  cases hb : s.data.toList[i]? with
  | none => rw [hb] at h; cases h
  | some b =>
    rw [hb] at h
    exact ⟨b, rfl, (Option.some.inj h).symm⟩
theorem str_src (s : ByteArray) : ∃ news, Src P w0 R w (.one (.int .u8)) (.string s) (numsOf s) news := by
  refine ⟨s.data.toList.map fun b => .int .u8 b.toNat, fun w1 => ?_, ?_, fun w1 _ => ?_, fun i y hy => ?_⟩
  · rw [numsOf_len]; rfl
  · rw [numsOf_len]; simp [CTs.size]
  · rw [numsOf_len]
    simp only [Builtin.firstCells, Sem.run_pure]
    congr 1
    apply Array.toList_inj.1
    have : s.extract 0 s.size = s := by
      apply ByteArray.ext
      simp
    rw [this]
    simp
  · obtain ⟨b, hb, rfl⟩ := numsOf_get s i y hy
    refine ⟨.int .u8 b.toNat, ?_, rfl⟩
    rw [List.getElem?_drop, List.getElem?_map]
    simp only [CTs.size, Nat.mul_one, Nat.add_zero, hb]
    rfl
theorem RowRO.src {R' : Nat → Prop} {e : CTs} {ad : Option Addr} {cap : Nat} {ys : List e.D} (h : RowRO w R' e.size (CTs.Cells w0 R e) ad cap ys) : ∃ news, Src P w0 R w e (.slice ad ys.length cap) ys news := by
  by_cases hc : 0 < cap
  · exact (h.2.2 hc).src
  · have h0 : ys = [] := List.eq_nil_of_length_eq_zero (by have := h.1; omega)
    subst h0
    cases ad with
    | none => exact ⟨[], fun w1 => rfl, by simp, fun w1 _ => by simp [Builtin.firstCells], fun i y hy => by simp at hy⟩
    | some ad => exact ⟨[], fun w1 => rfl, by simp, fun w1 _ => run_firstCells_some (P := P) w1 e.size 0 ad 0 cap [] (by simp) (fun j v hj => by simp at hj), fun i y hy => by simp at hy⟩
/-- a slice as a list -/
theorem list_run {e : CTs} {x : V} {cx : Value} {k : List e.D → Eff V} {f f' : Fp} {v : V} {ob' : Ob} (h : (listE e x k).exec st.ob f = some (v, ob', f')) (hs : Sim w0 R L N st a w loc γ) (hx : Rep w0 R loc x cx) :
    ∃ ys f2, (k ys).exec st.ob f2 = some (v, ob', f') ∧ f2.ns = f.ns ∧ ((∃ ad cap R', cx = .slice ad ys.length cap ∧ RowRO w R' e.size (CTs.Cells w0 R e) ad cap ys ∧
      (∀ id, x = .own id → (loc id).a = ad ∧ (loc id).cap = cap ∧ (loc id).len = ys.length ∧ R' = (fun b => γ b = some id) ∧ RowAt w R' e.size (CTs.Cells w0 R e) ad cap ys) ∧
      (∀ id hi, x = .sub id 0 hi → (loc id).a = ad ∧ (loc id).cap = cap ∧ ys.length ≤ (loc id).len ∧ R' = (fun b => γ b = some id) ∧ RowAt w R' e.size (CTs.Cells w0 R e) ad cap ys) ∧ (x = .nil → ad = none)) ∨
      (∃ s, x = .str s ∧ cx = .string s ∧ ∃ news, Src P w0 R w e cx ys news)) := by
  unfold listE at h
  split at h
  · obtain rfl := hx
    exact ⟨[], f, h, rfl, .inl ⟨none, 0, fun _ => True, rfl, ⟨by simp, fun _ => rfl, fun h => by omega⟩, by simp, by simp, fun _ => rfl⟩⟩
  · rename_i id
    simp only [Eff.exec] at h
    split at h
    · rename_i o ho
      split at h
      · rename_i nl e' xs
        split at h
        · rename_i he
          obtain rfl := CTs.eq_of_same _ _ he
          obtain ⟨_, k2, k3, k4, _, _⟩ := hs.ob id _ ho
          obtain rfl := hx
          refine ⟨xs, _, h, rfl, .inl ⟨(loc id).a, (loc id).cap, _, by rw [k3], k4.ro, fun id' h => ?_, by simp, by simp⟩⟩
          obtain rfl : id = id' := by simpa using h
          exact ⟨rfl, rfl, k3, rfl, k4⟩
        · simp [Eff.exec] at h
      · simp [Eff.exec] at h
    · cases h
  · rename_i id lo hi
    simp only [Eff.exec] at h
    split at h
    · rename_i o ho
      split at h
      · rename_i nl e' xs
        split at h
        · rename_i he
          obtain rfl := CTs.eq_of_same _ _ he
          obtain ⟨_, k2, k3, k4, _, _⟩ := hs.ob id _ ho
          obtain ⟨h0, h1, h2, rfl⟩ := hx
          rw [k3] at h2
          have hlen : (dropI (takeI xs hi) lo).length = (hi - lo).toNat := by simp [dropI, takeI]; omega
          refine ⟨dropI (takeI xs hi) lo, _, h, rfl, .inl ⟨_, _, _, by rw [hlen], by rw [k2]; exact (k4.sub h0 h1 h2).ro, by simp, fun id' hi' h => ?_, by simp⟩⟩
          simp only [V.sub.injEq] at h
          obtain ⟨rfl, rfl, rfl⟩ := h
          refine ⟨?_, by simp, by rw [hlen, k3]; omega, rfl, by rw [k2]; exact k4.sub h0 h1 h2⟩
          split
          · rfl
          · cases (loc id).a with
            | none => rfl
            | some ad => simp [Addr.add]
        · simp [Eff.exec] at h
      · simp [Eff.exec] at h
    · cases h
  · rename_i e' xs
    split at h
    · rename_i he
      obtain rfl := CTs.eq_of_same _ _ he
      obtain ⟨ad, cap, rfl, hrow⟩ := hx
      exact ⟨xs, f, h, rfl, .inl ⟨ad, cap, R, rfl, hrow.imp (fun b hb => ⟨hb, hs.same hb⟩) (fun _ _ h => h), by simp, by simp, by simp⟩⟩
    · simp [Eff.exec] at h
  · rename_i s
    split at h
    · rename_i he
      have he' := CTs.eq_of_same _ _ he
      subst he'
      obtain rfl := hx
      exact ⟨numsOf s, f, h, rfl, .inr ⟨s, rfl, rfl, str_src s⟩⟩
    · simp [Eff.exec] at h
  · rename_i e' xs
    split at h
    · rename_i he
      obtain rfl := CTs.eq_of_same _ _ he
      obtain ⟨⟨ad, cap, rfl, hrow⟩, _⟩ := hx
      exact ⟨xs, f, h, rfl, .inl ⟨ad, cap, R, rfl, hrow.imp (fun b hb => ⟨hb, hs.same hb⟩) (fun _ _ h => h), by simp, by simp, by simp⟩⟩
    · simp [Eff.exec] at h
  · simp [Eff.exec] at h

/-! ### what append does -/
theorem append_fits {t u el ty : TypeId} {d : TypeDesc} {bb : Bool} {e : CTs} {cx : Value} {ys : List e.D} {news : List Value} {b o n cap : Nat} {vals : Array Value} {tyb : TypeId} {fz : Nat × Nat}
    (hu : P.underlying t = some (.slice el)) (hv : P.underlying u = some d) (hd : d = .string ∨ ∃ e', d = .slice e') (htb : tagg P el = some bb) (hsz : tsize P el = e.size) (hsrc : Src P w0 R w e cx ys news) (hf : e.flat = true)
    (hb : w.heap[b]? = some (.cells vals tyb fz)) (hfz : unfroz fz vals.size) (hle : n + ys.length ≤ cap) (hcap : o + cap * e.size ≤ vals.size) :
    (Builtin.append_ #[t, u] ty #[.slice (some ⟨b, o, none⟩) n cap, cx]).run P w = .ok (.slice (some ⟨b, o, none⟩) (n + ys.length) cap) (w.setCells b (o + n * e.size) news) := by
  have hle' : (n + ys.length) * e.size ≤ cap * e.size := Nat.mul_le_mul_right _ hle
  rw [Nat.add_mul] at hle'
  have hsl := hsrc.size
  have hst := run_storeCells_cells (P := P) b (o + n * e.size) news 0 w (fun j hj => by
      rw [cell_at hb]
      simp only [Array.getElem?_toList, Option.isSome_iff_exists]
      exact ⟨_, by rw [Array.getElem?_eq_getElem (by omega)]⟩) (fun j hj => by
      have := hfz (o + n * e.size + 0 + j) (by omega)
      simp [World.frozen?, hb]
      intro h2
      simp only [Nat.add_zero] at this
      omega) (hsrc.one hf)
  simp only [Nat.add_zero] at hst
  have hg := hsrc.get w rfl
  rcases hd with rfl | ⟨e', rfl⟩ <;> simp [Builtin.append_, run_underlying hu, run_size htb, hsz, run_underlying hv, hsrc.len, hle, hg, add_at, hst]
theorem append_none {t u el ty : TypeId} {d : TypeDesc} {bb : Bool} {e : CTs} {cx : Value} {ys : List e.D} {news : List Value} (hu : P.underlying t = some (.slice el)) (hv : P.underlying u = some d) (hd : d = .string ∨ ∃ e', d = .slice e') (htb : tagg P el = some bb) (hsz : tsize P el = e.size) (hsrc : Src P w0 R w e cx ys news) (h0 : ys.length = 0) :
    (Builtin.append_ #[t, u] ty #[.slice none 0 0, cx]).run P w = .ok (.slice none 0 0) w := by
  have hg := hsrc.get w rfl
  have hl := hsrc.len
  rw [h0] at hg hl
  rcases hd with rfl | ⟨e', rfl⟩ <;> simp [Builtin.append_, run_underlying hu, run_size htb, hsz, run_underlying hv, hl, hg]
theorem append_grows {t u el ty : TypeId} {d : TypeDesc} {bb : Bool} {e : CTs} {cx : Value} {i : TypeInfo} {z : Value} {sa : Option Addr} {cap : Nat} {xs ys : List e.D} {news olds : List Value}
    (hu : P.underlying t = some (.slice el)) (hv : P.underlying u = some d) (hd : d = .string ∨ ∃ e', d = .slice e') (htb : tagg P el = some bb) (hsz : tsize P el = e.size) (hi : P.info? el = some i) (hz : i.zero = some z) (hzl : z.cells.toList.length = e.size)
    (hold : Src P w0 R w e (.slice sa xs.length cap) xs olds) (hsrc : Src P w0 R w e cx ys news) (hgt : cap < xs.length + ys.length) (hby : i.bytes ≠ 0) (hb : (xs.length + ys.length) * i.bytes ≤ 140737488355328) :
    ∃ C m, xs.length + ys.length ≤ m ∧ (Builtin.append_ #[t, u] ty #[.slice sa xs.length cap, cx]).run P w = .ok (.slice (some ⟨w.heap.size, 0, none⟩) (xs.length + ys.length) m) (w.drew.alloc (.cells C el)) ∧
      m * e.size = C.size ∧ ∃ r, C.toList = olds ++ news ++ r := by
  have hn : ¬ (xs.length + ys.length ≤ cap) := by omega
  have hle1 : (xs.length + ys.length) * 1 ≤ (xs.length + ys.length) * i.bytes := Nat.mul_le_mul_left _ (by omega)
  have h63' : ¬ (9223372036854775807 < ((xs.length : Int) + (ys.length : Int))) := by omega
  have h48' : ¬ (281474976710656 < Builtin.nextslicecap (xs.length + ys.length) cap * i.bytes) := by have := growslice_fits hgt hb; omega
  have hg := hsrc.get w.drew rfl
  have ho := hold.get w.drew rfl
  have hge := grownCap_ge w (xs.length + ys.length) cap el
  refine ⟨(olds ++ news).toArray ++ Builtin.zeroCells z.cells (grownCap w (xs.length + ys.length) cap el - (xs.length + ys.length)), grownCap w (xs.length + ys.length) cap el, hge, ?_, ?_, _, by simp; rfl⟩
  · rcases hd with rfl | ⟨e', rfl⟩ <;> simp [Builtin.append_, run_underlying hu, run_size htb, hsz, run_underlying hv, hsrc.len, hn, typeInfo, hi, h63', h48', zeroValue, hz, Question.forced, hg, ho, newRow, grownCap] <;> (congr 2; apply Array.ext'; simp)
  · simp only [Array.size_append, List.size_toArray, size_zeroCells, List.length_append, hsrc.size, hold.size]
    rw [show z.cells.size = e.size by simpa using hzl, ← Nat.add_mul, ← Nat.add_mul]
    congr 1
    omega
theorem exec_set {α : Type} (id : Nat) (o : Option O) (k : Eff α) (ob : Ob) (f : Fp) : (Eff.set id o k).exec ob f = match ob id with
    | some _ => k.exec (upd ob id o) ⟨f.rs, id :: f.ws, f.ns⟩
    | none => none := rfl
theorem upd_self (ob : Ob) (id : Nat) (o : Option O) : upd ob id o id = o := by unfold upd; rw [beq_self]; rfl
theorem cat_at {e : CTs} {xs ys : List e.D} {D news G : List Value} (hx : ∀ i x, xs[i]? = some x → CTs.Cells w0 R e (D.drop (i * e.size)) x) (hy : ∀ i y, ys[i]? = some y → CTs.Cells w0 R e (news.drop (i * e.size)) y)
    (h1 : ∀ j, j < xs.length * e.size → G[j]? = D[j]?) (h2 : ∀ j, j < ys.length * e.size → G[xs.length * e.size + j]? = news[j]?) : ∀ i x, (catL xs ys)[i]? = some x → CTs.Cells w0 R e (G.drop (i * e.size)) x := by
  intro i x hi
  simp only [catL, List.getElem?_append] at hi
  split at hi
  · rename_i hlt
    refine CTs.Cells.congr e _ _ x (fun j hj => ?_) (hx i x hi)
    have : (i + 1) * e.size ≤ xs.length * e.size := Nat.mul_le_mul_right _ hlt
    rw [Nat.add_mul] at this
    rw [List.getElem?_drop, List.getElem?_drop, h1 _ (by omega)]
  · rename_i hge
    have hkl := (List.getElem?_eq_some_iff.1 hi).1
    refine CTs.Cells.congr e _ _ x (fun j hj => ?_) (hy (i - xs.length) x hi)
    have h3 : (i - xs.length + 1) * e.size ≤ ys.length * e.size := Nat.mul_le_mul_right _ hkl
    rw [Nat.add_mul] at h3
    have h4 : i * e.size + j = xs.length * e.size + ((i - xs.length) * e.size + j) := by
      rw [← Nat.add_assoc, ← Nat.add_mul, Nat.add_sub_cancel' (Nat.le_of_not_lt hge)]
    rw [List.getElem?_drop, List.getElem?_drop, h4, h2 _ (by omega)]
theorem exec_lim {c : Bool} {id : Nat} {o : O} {v v' : V} {ob ob' : Ob} {f f' : Fp} (h : (Eff.ite c (.new id o (.ret v)) .fail).exec ob f = some (v', ob', f')) :
    c = true ∧ ob id = none ∧ v' = v ∧ ob' = upd (killOb id ob) id (some (o.kill id)) ∧ f'.ns = id :: f.ns := by
  cases c with
  | false => cases h
  | true =>
    simp only [Eff.exec] at h
    split at h
    · rename_i hn
      simp only [Option.some.injEq, Prod.mk.injEq] at h
      obtain ⟨rfl, rfl, rfl⟩ := h
      exact ⟨rfl, hn, rfl, rfl, rfl⟩
    · cases h
theorem lim_nat {α : Type} {xs ys : List α} {b : Nat} (h : ltI (mulZ (addZ (ln xs) (ln ys)) b) lenBound = true) : (xs.length + ys.length) * b ≤ 140737488355328 := by
  have h2 := h
  simp only [ltI_eq, decide_eq_true_eq] at h2
  simp only [mulZ_eq, addZ_eq, ln, lenBound] at h2
  have h' : (((xs.length + ys.length) * b : Nat) : Int) < 140737488355328 := by push_cast; exact h2
  omega
theorem isStrV_slice {v : V} {sa : Option Addr} {n c : Nat} (h : Rep w0 R loc v (.slice sa n c)) : isStrV v = false := by
  cases v with
  | str s => exact absurd (show Value.slice sa n c = .string s from h) (by simp)
  | _ => rfl
set_option maxRecDepth 10000 in
theorem append_goes {o : Oper} {t u : TypeId} {sx xx : Operand} {ob' : Ob} {f' : Fp} {v : V} (hop : o.op = .call { callee := .builtin .append, args := #[sx, xx], argTypes := #[t, u] }) (hs : Sim w0 R L N st a w loc γ)
    (hut : ((Nat.beq u t && !isStrV (st.rv xx)) || (isStr P u && isStrV (st.rv xx))) = true)
    (h : (appendE P o.dst t (st.rv sx) (st.rv xx)).exec st.ob ⟨[], [], []⟩ = some (v, ob', f')) : Goes P o w0 R L N st a w v ob' f'.ns := by
  have ex := hs.eval xx
  have es := hs.eval sx
  unfold appendE at h
  split at h
  case h_2 => simp [Eff.exec] at h
  rename_i el e n by_ hq
  obtain ⟨hu, ⟨bb, htb⟩, hn, hcs, hflat, hby, z, hz, hzl⟩ := elemOf_run hq
  have hsz : tsize P el = e.size := by rw [← hn, hcs]
  cases hb0 : Nat.beq by_ 0 with
  | true => rw [hb0] at h; simp [Eff.exec] at h
  | false => ?_
  rw [hb0] at h
  simp only [cond_false] at h
  have hby0 : by_ ≠ 0 := fun e => by subst e; simp at hb0
  obtain ⟨ys, f2, h, hf2, hxr⟩ := list_run (P := P) h hs ex
  obtain ⟨xs, f3, h, hf3, hsr⟩ := list_run (P := P) h hs es
  obtain ⟨cv, hc1, hc2, i, hi, hiz⟩ := zeroV_run (w0 := w0) (R := R) (loc := loc) (w := w) hz
  have hbi := bytes_info hi
  have hns : f3.ns = [] := by rw [hf3, hf2]
  -- what is appended
  obtain ⟨d, hv, hd, news, hsrc⟩ : ∃ d, P.underlying u = some d ∧ (d = .string ∨ ∃ e', d = .slice e') ∧ ∃ news, Src P w0 R w e (a.eval xx) ys news := by
    rcases hxr with ⟨ad, cap, R', hcx, hrow, _⟩ | ⟨s, hxs, _, hsrc⟩
    · have ex' := ex
      rw [hcx] at ex'
      have hns : isStrV (st.rv xx) = false := isStrV_slice ex'
      rw [hns] at hut
      simp only [Bool.not_false, Bool.and_true, Bool.and_false, Bool.or_false] at hut
      obtain rfl := Nat.eq_of_beq_eq_true hut
      rw [hcx]
      exact ⟨.slice el, hu, .inr ⟨el, rfl⟩, hrow.src (P := P)⟩
    · rw [hxs] at hut
      simp only [isStrV, Bool.not_true, Bool.and_false, Bool.and_true, Bool.false_or] at hut
      exact ⟨_, isStr_run hut, .inl rfl, hsrc⟩
  -- what it is appended to
  rcases hsr with ⟨sa, cap, Rs, hcs', hrow, hown, hsub, hnil⟩ | ⟨s, hxs, _, _⟩
  case inr =>
    rw [hxs] at h
    simp [Eff.exec] at h
  have hcase : ∃ (ob1 : Ob) (f4 : Fp) (nl' : NI), (nl' ≠ .is true ∧ (nl' = .is false → sa ≠ none)) ∧ f4.ns = [] ∧ (Eff.ite (ltI (mulZ (addZ (ln xs) (ln ys)) by_) lenBound) (.new (tag o.dst 0) (.row nl' e (catL xs ys)) (.ret (.own (tag o.dst 0)))) .fail : Eff V).exec ob1 f4 = some (v, ob', f') ∧
      Sim w0 R L N { st with ob := ob1 } a w loc γ ∧ (sa = none ∨ ∃ id, (loc id).a = sa ∧ (loc id).cap = cap ∧ ob1 id = none ∧ Rs = (fun b => γ b = some id) ∧ RowAt w Rs e.size (CTs.Cells w0 R e) sa cap xs ∧
        ∀ ad cs ty fz, sa = some ad → w.heap[ad.block]? = some (.cells cs ty fz) → unfroz fz cs.size) := by
    split at h
    · rename_i hx
      exact ⟨st.ob, f3, .unk, ⟨by simp, by simp⟩, hns, h, hs, .inl (hnil hx)⟩
    · rename_i id hx
      simp only [Eff.exec] at h
      split at h
      case h_2 => cases h
      rename_i o1 ho1
      cases o1 with
      | box cs => simp [Eff.exec] at h
      | bld s => simp [Eff.exec] at h
      | row nl e1 x1 =>
        simp only at h
        rw [exec_set] at h
        simp only [ho1] at h
        obtain ⟨q1, q2, q3, q4, qr⟩ := hown id hx
        obtain ⟨_, _, _, _, k5, k6⟩ := hs.ob id _ ho1
        refine ⟨upd st.ob id none, ⟨id :: f3.rs, id :: f3.ws, f3.ns⟩, appNl nl, ⟨by rcases nl with _ | (_ | _) <;> simp [appNl], fun hn => ?_⟩, hns, h, hs.drop id, .inr ⟨id, q1, q2, upd_self _ _ _, q4, qr, ?_⟩⟩
        · rcases nl with _ | (_ | _)
          · simp [appNl] at hn
          · rw [← q1]; exact k6
          · simp [appNl] at hn
        · rw [q1] at k5
          exact k5
    · rename_i id hi' hx
      rw [exec_set] at h
      split at h
      · rename_i o1 ho1
        obtain ⟨q1, q2, q3, q4, qr⟩ := hsub id hi' hx
        refine ⟨upd st.ob id none, ⟨f3.rs, id :: f3.ws, f3.ns⟩, .unk, ⟨by simp, by simp⟩, hns, h, hs.drop id, .inr ⟨id, q1, q2, upd_self _ _ _, q4, qr, ?_⟩⟩
        cases o1 with
        | row nl e1 x1 =>
          obtain ⟨_, _, _, _, k5, _⟩ := hs.ob id _ ho1
          rw [q1] at k5
          exact k5
        | box cs =>
          obtain ⟨b, vals, ty, fz, k1, k2, k3, k4, k5⟩ := hs.ob id _ ho1
          intro ad cs ty' fz' had hh
          rw [← q1, k1] at had
          obtain rfl := Option.some.inj had
          rw [k3] at hh
          simp only [Option.some.injEq, Obj.cells.injEq] at hh
          obtain ⟨rfl, _, rfl⟩ := hh
          exact k5
        | bld s =>
          obtain ⟨b, p, v, k1, k2, k3, k4⟩ := hs.ob id _ ho1
          intro ad cs ty' fz' had hh
          rw [← q1, k1] at had
          obtain rfl := Option.some.inj had
          rw [k4.2.1] at hh
          simp only [Option.some.injEq, Obj.cells.injEq] at hh
          obtain ⟨rfl, _, rfl⟩ := hh
          intro o _ ho
          simp only at ho
          omega
      · cases h
    · simp [Eff.exec] at h
  obtain ⟨ob1, f4, nl', ⟨hnl1, hnl2⟩, hf4, h, hs1, hid⟩ := hcase
  obtain ⟨hlim, hnew, rfl, rfl, hns'⟩ := exec_lim h
  rw [hns', hf4]
  clear h
  have hlim' : (xs.length + ys.length) * i.bytes ≤ 140737488355328 := by
    rw [← hbi, ← hby]
    exact lim_nat hlim
  clear hlim
  have hcat : (catL xs ys).length = xs.length + ys.length := by simp [catL]
  have hexec : ∀ {c : Value} {w' : World}, (Builtin.append_ #[t, u] o.type #[a.eval sx, a.eval xx]).run P w = .ok c w' → (execOp a.eval o).run P w = .ok (.value c) w' := fun h => by
    simp only [execOp, hop, resolve, invoke, builtin, Sem.run_bind, Sem.run_pure, Result.andThen_ok, List.map_toArray, List.map_cons, List.map_nil, h]
  obtain ⟨olds, hold⟩ := hrow.src (P := P)
  by_cases hfit : xs.length + ys.length ≤ cap
  · cases sa with
    | none =>
      have hc0 := hrow.2.1 rfl
      have hx0 : xs = [] := List.eq_nil_of_length_eq_zero (by omega)
      have hy0 : ys = [] := List.eq_nil_of_length_eq_zero (by omega)
      subst hx0 hy0
      have hrun := append_none (P := P) (ty := o.type) hu hv hd htb hsz hsrc rfl
      refine goes_world (loc' := fun j => if j = tag o.dst 0 then { a := none, len := 0, cap := 0, sz := e.size } else loc j) (γ' := γ) (hs1.new (l := { a := none, len := 0, cap := 0, sz := e.size }) hnew (tag_ge _ _) hs.fr (Nat.le_refl _) (fun _ _ _ _ => rfl) (fun b => .inl rfl) ?_) ?_ (hexec (by rw [hcs', hc0]; exact hrun))
      · simp only [O.kill, ObRep, if_true]
        exact ⟨hflat, trivial, rfl, ⟨by simp [catL], fun _ => rfl, (fun ad h => by cases h)⟩, (fun ad cs ty fz h => by cases h), by
          rcases nl' with _ | (_ | _)
          · trivial
          · exact absurd rfl (hnl2 rfl)
          · exact absurd rfl hnl1⟩
      · simp [Rep]
    | some ad =>
      rcases hid with hid | ⟨id, q1, q2, q3, q4, qr, q5⟩
      · cases hid
      subst q4
      obtain ⟨hsp, hγ, cs, ty, fz, hh, hcap, hcells⟩ := qr.2.2 ad rfl
      obtain ⟨bk, ofs, sp⟩ := ad
      simp only at hsp hγ hh hcap hcells
      subst hsp
      have hrun := append_fits (P := P) (ty := o.type) hu hv hd htb hsz hsrc hflat hh (q5 _ _ _ _ rfl hh) hfit hcap
      obtain ⟨g1, g2, g3⟩ := setCells_heap news (ofs + xs.length * e.size) w cs hh
      have hcol := hs.col bk id hγ
      have hle' : (xs.length + ys.length) * e.size ≤ cap * e.size := Nat.mul_le_mul_right _ hfit
      rw [Nat.add_mul] at hle'
      refine goes_world (loc' := fun j => if j = tag o.dst 0 then { a := some ⟨bk, ofs, none⟩, len := xs.length + ys.length, cap := cap, sz := e.size } else loc j) (γ' := fun b => if b = bk then some (tag o.dst 0) else γ b)
        (hs1.new (l := { a := some ⟨bk, ofs, none⟩, len := xs.length + ys.length, cap := cap, sz := e.size }) hnew (tag_ge _ _) (Frm.setCells hcol.1 _ _ _ hs.fr) (by omega) (fun b j hb hj => g2 b (fun he => by
          subst he
          rw [hγ] at hb
          obtain rfl := Option.some.inj hb
          obtain ⟨x, hx⟩ := hj
          simp only at hx
          rw [q3] at hx
          cases hx)) (fun b => ?_) ?_) ?_ (hexec (by rw [hcs']; exact hrun))
      · by_cases he : b = bk
        · subst he
          refine .inr ⟨by simp, fun j hj => ?_, hcol.1, by have := hcol.2; omega⟩
          rw [hγ] at hj
          obtain rfl := Option.some.inj hj
          exact q3
        · exact .inl (by simp [he])
      · simp only [O.kill, ObRep, if_true]
        refine ⟨hflat, trivial, hcat.symm, ⟨by rw [hcat]; exact hfit, (fun h => by cases h), fun ad had => ?_⟩, fun ad cs' ty' fz' had hh' => ?_, by
          rcases nl' with _ | (_ | _)
          · trivial
          · simp [nilOk]
          · exact absurd rfl hnl1⟩
        · obtain rfl := Option.some.inj had
          refine ⟨rfl, by simp, _, ty, fz, g1, by simpa [setCells_length] using hcap, fun k x hk => ?_⟩
          have := cat_at (D := cs.toList.drop ofs) (news := news) (G := (setCells cs.toList (ofs + xs.length * e.size) news).drop ofs) (fun i x hi => by rw [List.drop_drop]; exact hcells i x hi) hsrc.cells (fun j hj => by
              rw [List.getElem?_drop, List.getElem?_drop, setCells_get, if_neg (fun h => by have := h.1; omega)]) (fun j hj => by
              have hnl := hsrc.size
              have hcl : cs.toList.length = cs.size := Array.length_toList
              rw [List.getElem?_drop, setCells_get, if_pos ⟨by omega, by omega, by omega⟩]
              rw [show ofs + (xs.length * e.size + j) - (ofs + xs.length * e.size) = j by omega]) k x hk
          rw [List.drop_drop] at this
          exact this
        · obtain rfl := Option.some.inj had
          rw [g1] at hh'
          simp only [Option.some.injEq, Obj.cells.injEq] at hh'
          obtain ⟨rfl, _, rfl⟩ := hh'
          simpa [setCells_length] using q5 _ _ _ _ rfl hh
      · simp [Rep]
  · have hzl' : cv.cells.toList.length = e.size := by rw [← RepL.length hc2, hzl, hcs]
    obtain ⟨C, m, hm, hrun, hmc, r, hC⟩ := append_grows (P := P) (ty := o.type) hu hv hd htb hsz hi hiz hzl' hold hsrc (by omega) (by rw [← hbi, ← hby]; exact hby0) hlim'
    obtain ⟨loc', γ', j1, j2⟩ := hs1.new_row (id := tag o.dst 0) (w' := w.drew.alloc (.cells C el)) (ty := el) (fz := (0, 0)) (cells := C) hnew (tag_ge _ _) (hs.fr.drew.alloc _) (by simp) (fun k hk => Below.heap_alloc w.drew _ _ hk) (heap_new (w := w.drew) _) (fun o _ h => by simp at h)
      hflat (xs := catL xs ys) (cap := m) (by rw [hcat]; exact hm) (by omega) (cat_at hold.cells hsrc.cells (fun j hj => by
          have := hold.size
          rw [hC, List.append_assoc, List.getElem?_append_left (by omega)]) (fun j hj => by
          have h1 := hold.size
          have h2 := hsrc.size
          rw [hC, List.append_assoc, List.getElem?_append_right (by omega), List.getElem?_append_left (by omega)]
          rw [show xs.length * e.size + j - olds.length = j by omega])) (nl := nl') hnl1
    refine goes_world j1 (by rw [hcat] at j2; exact j2) (hexec (by rw [hcs']; exact hrun))
end
end Go.Eng
