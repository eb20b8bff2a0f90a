/- A package-level variable that holds a slice of flat elements, whose numbers are known: it, its row, stay as they were. -/
import Derived.Test.YtmmmlfndnoeedaaDoorEG
import Derived.ChangeSlices
namespace Go.Eng
set_option linter.unusedSectionVars false
set_option linter.unusedSimpArgs false
set_option linter.unusedVariables false
open Go.RowKit Go.ChangeShapes
/-- variable g holds v, a slice over a row that reads xs -/
def VarRow (g : Nat) (e : CTs) (xs : (CT.row e).D) (v : Value) (w : World) : Prop :=
  (∃ cs ty fz, w.heap[g]? = some (.cells cs ty fz) ∧ cs.toList[0]? = some v) ∧ CT.Cell w (fun b => ∃ ad l c, v = .slice (some ad) l c ∧ 0 < c ∧ b = ad.block) (.row e) v xs
theorem VarRow.cell {g : Nat} {e : CTs} {xs : (CT.row e).D} {v : Value} {w w' : World} {R : Nat → Prop} (hf : e.flat = true) (h : VarRow g e xs v w) (hR : ∀ ad l c, v = .slice (some ad) l c → 0 < c → R ad.block ∧ w'.heap[ad.block]? = w.heap[ad.block]?) : CT.Cell w' R (.row e) v xs := by
  obtain ⟨a, cap, h1, h2⟩ := h.2
  exact ⟨a, cap, h1, h2.imp (fun b ⟨ad, l, c, h3, h4, h5⟩ => by subst h5; exact hR ad l c h3 h4) (fun vs x hx => CTs.Cells.flat e vs x hf hx)⟩
theorem VarRow.mono {g : Nat} {e : CTs} {xs : (CT.row e).D} {v : Value} {w w' : World} (hf : e.flat = true) (hg : w'.heap[g]? = w.heap[g]?) (hb : ∀ ad l c, v = .slice (some ad) l c → 0 < c → w'.heap[ad.block]? = w.heap[ad.block]?) (h : VarRow g e xs v w) : VarRow g e xs v w' := by
  refine ⟨?_, h.cell hf (fun ad l c h1 h2 => ⟨⟨ad, l, c, h1, h2, rfl⟩, hb ad l c h1 h2⟩)⟩
  rw [hg]
  exact h.1
/-- the two tables, and such a variable -/
@[reducible] def Glb.utf8V (a b : Nat) (bT eT : Nat) (g : Nat) (e : CTs) (hf : e.flat = true) (xs : (CT.row e).D) (v : Value) : Glb :=
  { gb := fun k => ((k = a ∨ k = b) ∨ k = g) ∨ ∃ ad l c, v = .slice (some ad) l c ∧ 0 < c ∧ k = ad.block, gi := fun w => Lib.Utf8Tabs a b w ∧ VarRow g e xs v w,
    mono := fun w w' h ht => ⟨utf8Tabs_mono a b w w' (h a (.inl (.inl (.inl rfl)))) (h b (.inl (.inl (.inr rfl)))) ht.1, ht.2.mono hf (h g (.inl (.inr rfl))) (fun ad l c h1 h2 => h _ (.inr ⟨ad, l, c, h1, h2, rfl⟩))⟩,
    bT := bT, eT := eT, arg := fun _ => v, argb := fun i ad l c h hc => .inr ⟨ad, l, c, h, hc, rfl⟩ }
/-- what such a variable reads as, in the form's words -/
theorem VarRow.of_trod {P : Program} {w : World} {g t e fuel : Nat} {k : IntKind} {cs : List Value} {l : List Int} {p : List MemPlace} {y : Array Value} {ty : TypeId} {fz : Nat × Nat} (ht : P.underlying t = some (.slice e)) (he : P.underlying e = some (.int k)) (hc : P.cellsOf e = 1)
    (hw : w.heap[g]? = some (.cells y ty fz)) (hy : y.toList = cs) (h : DataW.trod (fun _ => ()) P w 0 (fun _ => true) false fuel t cs = some (.slice (l.map fun n => .lit (.int k n)) [], p)) : ∃ v, VarRow g (.one (.int k)) l v w := by
  rcases open_ints ht he hc h with ⟨_, h2⟩ | ⟨a, len, cap, zs, rfl, hb, hl, hm, hz, hx, hcell, _⟩
  · simp at h2
  simp only [if_true] at hz
  simp only [Prod.mk.injEq, DataW.slice.injEq] at hx
  obtain ⟨⟨hx1, hx2⟩, _⟩ := hx
  have hd : (zs.drop len).length = 0 := by
    have := congrArg List.length hx2
    simpa [lits] using this.symm
  simp only [List.length_drop] at hd
  have hlen : len = cap := by omega
  subst hlen
  have hl2 : l = zs := by
    rw [List.take_of_length_le (by omega)] at hx1
    exact (List.map_inj_right (f := fun n => (DataW.lit (.int k n) : DataW Unit)) fun x y h => by simpa using h).1 hx1
  subst hl2
  refine ⟨_, ⟨_, _, _, hw, by rw [hy]; rfl⟩, some a, len, ?_, ?_⟩
  · show Value.slice (some a) len len = Value.slice (some a) (List.length (α := Int) l) len
    rw [hz]
  refine ⟨by show List.length l ≤ len; omega, fun h => (by cases h), fun hc2 => ⟨by show List.length l ≤ len; omega, fun h => (by cases h), fun ad ha => ?_⟩⟩
  cases ha
  have h0 := hcell 0 (by omega)
  have hblk : a.spot = none ∧ ∃ cs' ty' fz', w.heap[a.block]? = some (.cells cs' ty' fz') := by
    unfold World.cell? at h0
    simp only [Addr.add] at h0
    split at h0 <;> simp_all
  obtain ⟨hs, cs', ty', fz', hh⟩ := hblk
  have hread : ∀ i, i < l.length → cs'.toList[a.off + i]? = some (.int k (l.getD i 0)) := fun i hi => by
    have := hcell i hi
    unfold World.cell? at this
    have e : a.add i = ⟨a.block, a.off + i, none⟩ := by
      obtain ⟨ab, ao, asp⟩ := a
      obtain rfl : asp = none := hs
      by_cases h : i = 0
      · subst h; rfl
      · simp [Addr.add, h]
    rw [e] at this
    simp only [hh] at this
    simpa using this
  refine ⟨hs, ⟨a, len, len, rfl, hc2, rfl⟩, cs', ty', fz', hh, ?_, fun i x hi => ?_⟩
  · have := hread (len - 1) (by omega)
    have := (List.getElem?_eq_some_iff.1 this).1
    simp only [Array.length_toList] at this
    show a.off + len * 1 ≤ cs'.size
    omega
  · have hi' := (List.getElem?_eq_some_iff.1 hi).1
    have h3 : (l[i]?).getD 0 = x := by rw [show l[i]? = some x from hi]; rfl
    refine ⟨.int k x, ?_, rfl⟩
    rw [List.getElem?_drop]
    have := hread i hi'
    rw [List.getD_eq_getElem?_getD, h3] at this
    simpa [CTs.size] using this
end Go.Eng
