/- How the arguments of a law are opened. -/
import Derived.Test.YtkghicadebeceaaDoorE25
import Derived.Deep.Slices
import Derived.ChangeArms
import Derived.ChangeSame
namespace Go.Eng
set_option linter.unusedSectionVars false
variable [Glb]
open Go.RowKit
set_option linter.unusedSimpArgs false
set_option linter.unusedVariables false

mutual
noncomputable def CT.good : (c : CT) → c.D → Prop
  | .int k, n => (Lit.int k n).wf = true
  | .bool, _ => True
  | .str, s => ByteArray.size s ≤ maxLen
  | .row e, xs => List.length (α := e.D) xs ≤ maxLen ∧ ∀ x, List.Mem (α := e.D) x xs → CTs.good e x
noncomputable def CTs.good : (e : CTs) → e.D → Prop
  | .one c, x => CT.good c x
  | .cons c cs, x => CT.good c x.1 ∧ CTs.good cs x.2
end
/-- cells that are of their kinds -/
noncomputable def HasL (w : World) (R : Nat → Prop) : List CT → List Value → Prop
  | [], [] => True
  | t :: l, c :: cs => (∃ x, CT.Cell w R t c x ∧ t.good x) ∧ HasL w R l cs
  | _, _ => False
section
variable {w : World} {R : Nat → Prop} {P : Program}
theorem HasL.append : ∀ {l l' : List CT} {cs cs' : List Value}, HasL w R l cs → HasL w R l' cs' → HasL w R (l ++ l') (cs ++ cs')
  | [], _, [], _, _, h' => h'
  | _ :: l, _, _ :: cs, _, h, h' => ⟨h.1, HasL.append (l := l) (cs := cs) h.2 h'⟩
  | [], _, _ :: _, _, h, _ => h.elim
  | _ :: _, _, [], _, h, _ => h.elim
theorem HasL.length : ∀ {l : List CT} {cs : List Value}, HasL w R l cs → cs.length = l.length
  | [], [], _ => rfl
  | _ :: l, _ :: cs, h => by simp [HasL.length (l := l) (cs := cs) h.2]
  | [], _ :: _, h => h.elim
  | _ :: _, [], h => h.elim
theorem mkCTs_has : ∀ {l : List CT} {e : CTs} {cs : List Value}, mkCTs l = some e → HasL w R l cs → ∃ x : e.D, CTs.Cells w R e cs x ∧ e.good x
  | [], _, _, h, _ => by simp [mkCTs] at h
  | [c], e, cs, h, hl => by
    obtain rfl := Option.some.inj h
    match cs, hl with
    | v :: cs, hl =>
      obtain ⟨x, h1, h2⟩ := hl.1
      exact ⟨x, ⟨v, rfl, h1⟩, h2⟩
  | c :: c' :: l, e, cs, h, hl => by
    have h : (mkCTs (c' :: l)).map (CTs.cons c) = some e := h
    cases h1 : mkCTs (c' :: l) with
    | none => rw [h1] at h; cases h
    | some e' =>
      have h1' := h1
      rw [h1] at h
      obtain rfl := Option.some.inj h
      match cs, hl with
      | v :: cs, hl =>
        obtain ⟨x, h2, h3⟩ := hl.1
        obtain ⟨y, h4, h5⟩ := mkCTs_has h1' hl.2
        exact ⟨(x, y), ⟨v, rfl, h2, h4⟩, h3, h5⟩
/-- the cells of a type, where its fields lie one behind the other -/
noncomputable def lctF (P : Program) (g : TypeId → Option (List CT)) (T : Nat) : List Field → Nat → Option (List CT)
  | [], o => bif Nat.beq o T then some [] else none
  | f :: fs, o => bif Nat.beq f.offset o then (match g f.type, lctF P g T fs (o + P.cellsOf f.type) with
    | some a, some b => some (a ++ b)
    | _, _ => none) else none
noncomputable def lct (P : Program) : Nat → TypeId → Option (List CT)
  | 0, _ => none
  | d + 1, t => match P.underlying t with
    | some (.int k) => some [.int k]
    | some .bool => some [.bool]
    | some .string => some [.str]
    | some (.slice e) => match (lct P d e).bind mkCTs with
      | some c => bif Nat.beq c.size (P.cellsOf e) then some [.row c] else none
      | none => none
    | some (.struct fs) => lctF P (lct P d) (P.cellsOf t) fs.toList 0
    | _ => none
noncomputable def inHeap (w : World) (b : Nat) : Prop := b < w.heap.size
theorem cell_some {a : Addr} {v : Value} (h : w.cell? a = some v) : a.spot = none ∧ inHeap w a.block ∧ ∃ cs ty fz, w.heap[a.block]? = some (.cells cs ty fz) ∧ cs.toList[a.off]? = some v := by
  unfold World.cell? at h
  split at h
  · rename_i cs ty fz hh
    split at h
    · cases h
    · rename_i hs
      refine ⟨by cases hq : a.spot with
        | none => rfl
        | some _ => rw [hq] at hs; simp at hs, (Array.getElem?_eq_some_iff.1 hh).1, cs, ty, fz, hh, by rw [Array.getElem?_toList]; exact h⟩
  · cases h
theorem choose_row {α : Type} {n : Nat} {p : Nat → α → Prop} (h : ∀ i, i < n → ∃ a, p i a) : ∃ l : List α, l.length = n ∧ ∀ i a, l[i]? = some a → p i a := by
  induction n with
  | zero => exact ⟨[], rfl, fun i a hi => by simp at hi⟩
  | succ n ih =>
    obtain ⟨l, hl, hp⟩ := ih (fun i hi => h i (by omega))
    obtain ⟨a, ha⟩ := h n (by omega)
    refine ⟨l ++ [a], by simp [hl], fun i b hb => ?_⟩
    rcases Nat.lt_or_ge i l.length with hi | hi
    · rw [List.getElem?_append_left hi] at hb
      exact hp i b hb
    · rw [List.getElem?_append_right hi] at hb
      have h0 : i - l.length = 0 := by
        have := (List.getElem?_eq_some_iff.1 hb).1
        simp at this
        omega
      rw [h0] at hb
      have hi' : i = n := by omega
      subst hi'
      simp at hb
      subst hb
      exact ha
variable {H : Type} {enc : TypeId × Value → H} {base : Nat} {spare : Nat → Bool} {held : Bool}
theorem fields_has {g : TypeId → Option (List CT)} {n T : Nat} {cs : List Value} (hT : cs.length = T)
    (hg : ∀ t l cs x, g t = some l → DataW.trod enc P w base spare held n t cs = some x → HasL w (inHeap w) l cs) : ∀ (fs : List Field) (o : Nat) (l : List CT), lctF P g T fs o = some l →
    (∀ f, f ∈ fs → ∃ x, DataW.trod enc P w base spare held n f.type ((cs.drop f.offset).take (P.cellsOf f.type)) = some x) → HasL w (inHeap w) l (cs.drop o)
  | [], o, l, h, _ => by
    simp only [lctF] at h
    cases hb : Nat.beq o T with
    | false => rw [hb] at h; cases h
    | true =>
      rw [hb] at h
      obtain rfl := Option.some.inj h
      have := Nat.eq_of_beq_eq_true hb
      rw [List.drop_eq_nil_of_le (by omega)]
      trivial
  | f :: fs, o, l, h, hf => by
    simp only [lctF] at h
    cases hb : Nat.beq f.offset o with
    | false => rw [hb] at h; cases h
    | true =>
      rw [hb] at h
      have ho := Nat.eq_of_beq_eq_true hb
      simp only [cond_true] at h
      split at h
      · rename_i a b h1 h2
        obtain rfl := Option.some.inj h
        obtain ⟨x, hx⟩ := hf f (by simp)
        have k1 := hg _ _ _ _ h1 hx
        have k2 := fields_has hT hg fs _ b h2 (fun f' h' => hf f' (by simp [h']))
        rw [ho] at k1
        have := k1.append k2
        rw [← List.drop_drop, List.take_append_drop] at this
        exact this
      · cases h
theorem trod_has (hsp : ∀ b, spare b = true) : ∀ (d : Nat) (t : TypeId) (l : List CT) (fuel : Nat) (cs : List Value) (x : DataW H × List MemPlace), lct P d t = some l → DataW.trod enc P w base spare held fuel t cs = some x → HasL w (inHeap w) l cs
  | 0, _, _, _, _, _, h, _ => by simp [lct] at h
  | d + 1, t, l, fuel, cs, x, h, hx => by
    simp only [lct] at h
    split at h
    · rename_i k ht
      obtain rfl := Option.some.inj h
      obtain ⟨n, hcs, _, hw⟩ := DataW.trod_int ht hx
      subst hcs
      exact ⟨⟨n, rfl, hw⟩, trivial⟩
    · rename_i ht
      obtain rfl := Option.some.inj h
      obtain ⟨b, hcs, _⟩ := DataW.trod_bool ht hx
      subst hcs
      exact ⟨⟨b, rfl, trivial⟩, trivial⟩
    · rename_i ht
      obtain rfl := Option.some.inj h
      obtain ⟨s, hcs, _, hm⟩ := DataW.trod_string ht hx
      subst hcs
      exact ⟨⟨s, rfl, hm⟩, trivial⟩
    · rename_i e ht
      cases hl : lct P d e with
      | none => rw [hl] at h; cases h
      | some le =>
        rw [hl] at h
        simp only [Option.bind_some] at h
        cases hm : mkCTs le with
        | none => rw [hm] at h; cases h
        | some c =>
          rw [hm] at h
          simp only at h
          cases hb : Nat.beq c.size (P.cellsOf e) with
          | false => rw [hb] at h; cases h
          | true =>
            rw [hb] at h
            obtain rfl := Option.some.inj h
            have hsz := Nat.eq_of_beq_eq_true hb
            rcases Go.Deep.open_slice ht hx with ⟨rfl, _⟩ | ⟨a, len, cap, m, n, D, Pl, rfl, _, hle, hmax, hmm, _, hi⟩
            · refine ⟨⟨([] : List c.D), ⟨none, 0, rfl, Nat.le_refl _, fun _ => rfl, fun h => absurd h (by omega)⟩, by simp, fun x hx => by cases hx⟩, trivial⟩
            · rw [hsp] at hmm
              simp only [if_true] at hmm
              subst hmm
              have hel : ∀ i, i < m → ∃ cs', (cs'.length = P.cellsOf e ∧ ∀ j, j < P.cellsOf e → w.cell? (a.add (i * P.cellsOf e + j)) = cs'[j]?) ∧ ∃ x : c.D, CTs.Cells w (inHeap w) c cs' x ∧ c.good x := fun i hlt => by
                obtain ⟨cs', h1, h2⟩ := hi i hlt
                obtain ⟨_, h3, h4⟩ := World.cells?_some h1
                exact ⟨cs', ⟨h3, fun j hj => by rw [← Go.Deep.add_add]; exact h4 j hj⟩, mkCTs_has hm (trod_has hsp d e le n cs' _ hl h2)⟩
              obtain ⟨xs, hxl, hxp⟩ := choose_row (n := len) (p := fun i (x : c.D) => ∃ cs', (cs'.length = P.cellsOf e ∧ ∀ j, j < P.cellsOf e → w.cell? (a.add (i * P.cellsOf e + j)) = cs'[j]?) ∧ CTs.Cells w (inHeap w) c cs' x ∧ c.good x) (fun i hlt => by
                obtain ⟨cs', h1, x, h2, h3⟩ := hel i (by omega)
                exact ⟨x, cs', h1, h2, h3⟩)
              have hpos := CTs.size_pos c
              refine ⟨⟨xs, ⟨some a, m, by rw [hxl], by rw [hxl]; exact hle, fun h => (by cases h), fun hcap => ⟨by rw [hxl]; exact hle, fun h => (by cases h), fun ad had => ?_⟩⟩, by rw [hxl]; simp only [maxLen] at hmax ⊢; omega, fun x hx => ?_⟩, trivial⟩
              · obtain rfl := Option.some.inj had
                -- a cell of the row
                have hat : ∀ k, k < m * P.cellsOf e → ∃ v, w.cell? (a.add k) = some v := fun k hk => by
                  have hq : k / P.cellsOf e < m := Nat.div_lt_of_lt_mul (by rw [Nat.mul_comm]; exact hk)
                  obtain ⟨cs', ⟨h1, h2⟩, _⟩ := hel (k / P.cellsOf e) hq
                  have hr : k % P.cellsOf e < P.cellsOf e := Nat.mod_lt _ (by omega)
                  have h3 := h2 _ hr
                  rw [Nat.mul_comm, Nat.div_add_mod, List.getElem?_eq_getElem (by omega)] at h3
                  exact ⟨_, h3⟩
                have hpm : 0 < m * P.cellsOf e := Nat.mul_pos hcap (by omega)
                obtain ⟨v0, hv0⟩ := hat 0 hpm
                have e0 : a.add 0 = a := by simp [Addr.add]
                rw [e0] at hv0
                obtain ⟨s1, s2, vals, ty, fz, s3, _⟩ := cell_some hv0
                obtain ⟨bk, ofs, sp⟩ := a
                simp only at s1 s2 s3
                subst s1
                refine ⟨rfl, s2, vals, ty, fz, s3, ?_, fun i x hix => ?_⟩
                · obtain ⟨v1, hv1⟩ := hat (m * P.cellsOf e - 1) (by omega)
                  rw [add_at, cell_at s3] at hv1
                  have := (List.getElem?_eq_some_iff.1 hv1).1
                  have hvl : vals.toList.length = vals.size := Array.length_toList
                  rw [hsz]
                  show ofs + m * P.cellsOf e ≤ vals.size
                  omega
                · obtain ⟨cs', ⟨h1, h2⟩, h3, _⟩ := hxp i x hix
                  refine CTs.Cells.congr c _ _ x (fun j hj => ?_) h3
                  have := h2 j (by omega)
                  rw [add_at, cell_at s3] at this
                  rw [List.getElem?_drop, hsz, ← this]
                  congr 1
                  show ofs + i * P.cellsOf e + j = ofs + (i * P.cellsOf e + j)
                  omega
              · obtain ⟨i, hix⟩ := List.getElem?_of_mem hx
                exact (hxp i x hix).choose_spec.2.2
    · rename_i fs ht
      obtain ⟨xs, n, _, _, hl, hlx, hf⟩ := DataW.trod_struct ht hx
      have := fields_has (n := n) (T := P.cellsOf t) hl (fun t l cs x h1 h2 => trod_has hsp d t l n cs x h1 h2) fs.toList 0 l h (fun f hfm => by
        obtain ⟨i, hi⟩ := List.getElem?_of_mem hfm
        have h1 := hf i f (by rw [← Array.getElem?_toList]; exact hi)
        have hil := (List.getElem?_eq_some_iff.1 hi).1
        rw [Array.length_toList] at hil
        rw [List.getElem?_eq_getElem (by omega)] at h1
        exact ⟨_, h1⟩)
      simpa using this
    · cases h
end
end Go.Eng
