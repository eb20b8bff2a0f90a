/- Frames: how a state of the evaluator stands to a state of the machine. -/
import Derived.Test.YtkghicadebeceaaDoorE2
import Derived.Laws.IdiomCopy
import Derived.Laws.Cells
import Derived.Lib.Builder
import Derived.Lib.AppendStr
namespace Go.Eng
open Go.RowKit

/-- of what was there at the entry nothing has turned but the blocks of L -/
structure Frm (w0 : World) (L : Nat → Prop) (w : World) : Prop where
  os : w.os = w0.os
  tape : w.tape = w0.tape
  output : w.output = w0.output
  size : w0.heap.size ≤ w.heap.size
  block : ∀ k, k < w0.heap.size → ¬ L k → w.heap[k]? = w0.heap[k]?
def unfroz (fz : Nat × Nat) (n : Nat) : Prop := ∀ o, o < n → ¬ (fz.1 ≤ o ∧ o < fz.2)
def nilOk (nl : NI) (a : Option Addr) : Prop := match nl with
  | .is true => a = none
  | .is false => a ≠ none
  | .unk => True
set_option linter.unusedSectionVars false
variable [Glb]
/-- a strings.Builder lies in a block, its bytes in another -/
def BldAt (w : World) (b : Nat) (p v : Value) (s : ByteArray) : Prop :=
  (p = .pointer none ∨ p = .pointer (some ⟨b, 0, none⟩)) ∧ w.heap[b]? = some (.cells #[p, v] Glb.bT (0, 0)) ∧ w.ownsRow 0 Glb.eT 1 v s.size (Lib.strCells s) ∧ v.ownBlock ≠ some b
theorem BldAt.keep {w w' : World} {b : Nat} {p v : Value} {s : ByteArray} (hb : w'.heap[b]? = w.heap[b]?) (hg : ∀ g, v.ownBlock = some g → w'.heap[g]? = w.heap[g]?) (h : BldAt w b p v s) : BldAt w' b p v s := by
  obtain ⟨h1, h2, h3, h4⟩ := h
  refine ⟨h1, by rw [hb]; exact h2, ⟨h3.1, ?_⟩, h4⟩
  rcases h3.2 with hn | ⟨g, cap, cur, rfl, hB, hgg, rest⟩
  · exact .inl hn
  · exact .inr ⟨g, cap, cur, rfl, hB, by rw [hg g rfl]; exact hgg, rest⟩
def ObRep (w0 : World) (R : Nat → Prop) (w : World) (loc : Nat → Loc) (γ : Nat → Option Nat) (id : Nat) : O → Prop
  | .row nl e xs => e.flat = true ∧ (loc id).sz = e.size ∧ (loc id).len = xs.length ∧ RowAt w (fun b => γ b = some id) e.size (CTs.Cells w0 R e) (loc id).a (loc id).cap xs ∧
      (∀ ad cs ty fz, (loc id).a = some ad → w.heap[ad.block]? = some (.cells cs ty fz) → unfroz fz cs.size) ∧ nilOk nl (loc id).a
  | .box cs => ∃ b vals ty fz, (loc id).a = some ⟨b, 0, none⟩ ∧ γ b = some id ∧ w.heap[b]? = some (.cells vals ty fz) ∧ RepL w0 R loc cs vals.toList ∧ unfroz fz vals.size
  | .bld s => ∃ b p v, (loc id).a = some ⟨b, 0, none⟩ ∧ γ b = some id ∧ (∀ g, v.ownBlock = some g → γ g = some id) ∧ BldAt w b p v s
/-- what stays in a frame: the number of temporaries, the places of what was lent -/
structure Fx where
  n : Nat
  loc : Nat → Loc
/-- the variables' blocks are read only -/
def Gl (w0 : World) (R : Nat → Prop) : Prop := Glb.gi w0 ∧ ∀ b, Glb.gb b → R b
structure Sim (w0 : World) (R L : Nat → Prop) (N : Fx) (st : St) (a : Act) (w : World) (loc : Nat → Loc) (γ : Nat → Option Nat) : Prop where
  tm : ∀ i, Rep w0 R loc (st.tm i) (a.tmps.getD i undef)
  ob : ∀ id o, st.ob id = some o → ObRep w0 R w loc γ id o
  col : ∀ b id, γ b = some id → (w0.heap.size ≤ b ∨ L b) ∧ b < w.heap.size
  fr : Frm w0 L w
  ro : ∀ b, R b → b < w0.heap.size ∧ ¬ L b
  n : a.tmps.size = N.n
  df : a.defers = []
  lc : ∀ j, j < 500 → loc j = N.loc j
  gl : Gl w0 R

section
variable {w0 w w' : World} {R L : Nat → Prop} {N : Fx} {st : St} {a : Act} {loc loc' : Nat → Loc} {γ γ' : Nat → Option Nat}

theorem constV1 (c : Value) : ∀ v, v = (match c with
      | .int k n => V.int k n
      | .bool b => .bool b
      | .string s => .str s
      | .slice none 0 0 => .nil
      | .pointer none => .pnil
      | c => bif oneC c then .cst c else .un) → Rep w0 R loc v c := by
  intro v h
  subst h
  split <;> first | rfl | (cases h : oneC _ <;> simp [Rep, h])
theorem constV_rep (c : Value) : Rep w0 R loc (constV c) c := by
  unfold constV
  split
  · rfl
  · rfl
  · rfl
  · rfl
  · rfl
  · rename_i cs
    refine ⟨cs, rfl, ?_⟩
    generalize cs.toList = l
    induction l with
    | nil => trivial
    | cons x l ih => exact ⟨constV1 x _ rfl, ih⟩
  · cases h : oneC _ <;> simp [Rep, h]
theorem Sim.eval (h : Sim w0 R L N st a w loc γ) (x : Operand) : Rep w0 R loc (st.rv x) (a.eval x) := by
  cases x with
  | tmp t => exact h.tm t
  | const v => exact constV_rep v
  | func f => exact ⟨#[], #[], rfl, trivial, trivial⟩
  | global g => trivial
theorem Sim.evals (h : Sim w0 R L N st a w loc γ) : ∀ l : List Operand, RepL w0 R loc (l.map st.rv) (l.map a.eval)
  | [] => trivial
  | x :: l => ⟨h.eval x, h.evals l⟩
theorem Rep_undef : Rep w0 R loc (.tup []) undef := ⟨#[], rfl, trivial⟩

theorem Sim.put (h : Sim w0 R L N st a w loc γ) {v : V} {c : Value} (hv : Rep w0 R loc v c) (d : Nat) (hd : d < N.n) :
    Sim w0 R L N (st.put d v) (a.put (some d) c) w loc γ := by
  refine ⟨fun i => ?_, h.ob, h.col, h.fr, h.ro, by simp [Act.put, h.n], h.df, h.lc, h.gl⟩
  simp only [St.put, Act.put]
  by_cases e : i = d
  · subst e
    rw [beq_self]
    simp only [cond_true]
    rw [Array.getD_eq_getD_getElem?, Array.getElem?_setIfInBounds_self_of_lt (by rw [h.n]; exact hd)]
    exact hv
  · rw [beq_ne e]
    simp only [cond_false]
    rw [Array.getD_eq_getD_getElem?, Array.getElem?_setIfInBounds_ne (fun h => e h.symm), ← Array.getD_eq_getD_getElem?]
    exact h.tm i
theorem Sim.put? (h : Sim w0 R L N st a w loc γ) {v : V} {c : Value} (hv : Rep w0 R loc v c) (d : Option Nat) (hd : ∀ x, d = some x → x < N.n) :
    Sim w0 R L N (St.put? st d v) (a.put d c) w loc γ := by
  cases d with
  | none => exact h
  | some d => exact h.put hv d (hd d rfl)

theorem Frm.refl (w : World) (L : Nat → Prop) : Frm w L w := ⟨rfl, rfl, rfl, Nat.le_refl _, fun _ _ _ => rfl⟩
theorem Frm.alloc (h : Frm w0 L w) (o : Obj) : Frm w0 L (w.alloc o) :=
  ⟨h.os, h.tape, h.output, by have := h.size; simp; omega, fun k hk hl => by rw [Below.heap_alloc _ _ _ (by have := h.size; omega)]; exact h.block k hk hl⟩
theorem Frm.drew (h : Frm w0 L w) : Frm w0 L w.drew := ⟨h.os, h.tape, h.output, h.size, h.block⟩
theorem Frm.setCell (h : Frm w0 L w) {p : Addr} (hp : w0.heap.size ≤ p.block ∨ L p.block) (u : Value) : Frm w0 L (w.setCell p u) :=
  ⟨h.os, h.tape, h.output, by simpa [World.setCell] using h.size, fun k hk hl => by
    rw [Below.heap_setCell _ _ _ _ (fun e => by subst e; rcases hp with hp | hp; omega; exact hl hp)]; exact h.block k hk hl⟩

/-- an object stays what it is where its blocks do -/
theorem ObRep.keep {id : Nat} {o : O} (hl : loc' = loc) (hb : ∀ b, γ b = some id → γ' b = some id ∧ w'.heap[b]? = w.heap[b]?) (h : ObRep w0 R w loc γ id o) : ObRep w0 R w' loc' γ' id o := by
  subst hl
  cases o with
  | row nl e xs =>
    obtain ⟨h1, h2, h3, h4, h5, h6⟩ := h
    refine ⟨h1, h2, h3, h4.imp hb (fun _ _ h => h), fun ad cs ty fz ha hc => ?_, h6⟩
    obtain ⟨_, hR, _⟩ := h4.2.2 ad ha
    rw [(hb _ hR).2] at hc
    exact h5 ad cs ty fz ha hc
  | box cs =>
    obtain ⟨b, vals, ty, fz, h1, h2, h3, h4, h5⟩ := h
    exact ⟨b, vals, ty, fz, h1, (hb b h2).1, by rw [(hb b h2).2]; exact h3, h4, h5⟩
  | bld s =>
    obtain ⟨b, p, v, h1, h2, h3, h4⟩ := h
    exact ⟨b, p, v, h1, (hb b h2).1, fun g hg => (hb g (h3 g hg)).1, h4.keep (hb b h2).2 fun g hg => (hb g (h3 g hg)).2⟩
theorem ObRep.kill {id j : Nat} {o : O} (hj : j ≠ id) (hl : ∀ i, i ≠ id → loc' i = loc i) (hb : ∀ b, γ b = some j → γ' b = some j ∧ w'.heap[b]? = w.heap[b]?) (h : ObRep w0 R w loc γ j o) :
    ObRep w0 R w' loc' γ' j (o.kill id) := by
  cases o with
  | row nl e xs =>
    obtain ⟨h1, h2, h3, h4, h5, h6⟩ := h
    simp only [O.kill, ObRep, hl j hj]
    refine ⟨h1, h2, h3, h4.imp hb (fun _ _ h => h), fun ad cs ty fz ha hc => ?_, h6⟩
    obtain ⟨_, hR, _⟩ := h4.2.2 ad ha
    rw [(hb _ hR).2] at hc
    exact h5 ad cs ty fz ha hc
  | box cs =>
    obtain ⟨b, vals, ty, fz, h1, h2, h3, h4, h5⟩ := h
    simp only [O.kill, ObRep, hl j hj]
    exact ⟨b, vals, ty, fz, h1, (hb b h2).1, by rw [(hb b h2).2]; exact h3, RepL.kill hl _ _ h4, h5⟩
  | bld s =>
    obtain ⟨b, p, v, h1, h2, h3, h4⟩ := h
    simp only [O.kill, ObRep, hl j hj]
    exact ⟨b, p, v, h1, (hb b h2).1, fun g hg => (hb g (h3 g hg)).1, h4.keep (hb b h2).2 fun g hg => (hb g (h3 g hg)).2⟩

/-- a new object at a new place: `l` says where, the blocks from the old heap's end on may be its own -/
theorem Sim.new (h : Sim w0 R L N st a w loc γ) {id : Nat} {o : O} {l : Loc} (hid : st.ob id = none) (h5 : 500 ≤ id) (hfr : Frm w0 L w')
    (hsz : w.heap.size ≤ w'.heap.size) (hw : ∀ b id', γ b = some id' → (∃ o, st.ob id' = some o) → w'.heap[b]? = w.heap[b]?)
    (hγ : ∀ b, γ' b = γ b ∨ (γ' b = some id ∧ (∀ id', γ b = some id' → st.ob id' = none) ∧ (w0.heap.size ≤ b ∨ L b) ∧ b < w'.heap.size))
    (ho : ObRep w0 R w' (fun j => if j = id then l else loc j) γ' id o) :
    Sim w0 R L N { tm := fun i => (st.tm i).kill id, ob := upd (killOb id st.ob) id (some o) } a w' (fun j => if j = id then l else loc j) γ' := by
  have hl : ∀ j, j ≠ id → (fun j => if j = id then l else loc j) j = loc j := fun j hj => by simp [hj]
  refine ⟨fun i => Rep.kill hl _ _ (h.tm i), fun j o' hj => ?_, fun b j hb => ?_, hfr, h.ro, h.n, h.df, fun j hj => ?_, h.gl⟩
  · simp only [upd] at hj
    by_cases e : j = id
    · subst e
      rw [beq_self] at hj
      simp only [cond_true, Option.some.injEq] at hj
      subst hj
      exact ho
    · rw [beq_ne e] at hj
      simp only [cond_false, killOb] at hj
      cases hs : st.ob j with
      | none => rw [hs] at hj; cases hj
      | some oj =>
        rw [hs] at hj
        simp only [Option.some.injEq] at hj
        subst hj
        refine ObRep.kill e hl (fun b hb => ?_) (h.ob j oj hs)
        refine ⟨?_, hw b j hb ⟨oj, hs⟩⟩
        rcases hγ b with h1 | ⟨_, h2, _⟩
        · rw [h1]; exact hb
        · have := h2 j hb; rw [hs] at this; cases this
  · rcases hγ b with h1 | ⟨h1, _, h3⟩
    · rw [h1] at hb
      have := h.col b j hb
      exact ⟨this.1, by omega⟩
    · exact h3
  · exact (hl j (by omega)).trans (h.lc j hj)

/-- an object is gone -/
theorem Sim.drop (h : Sim w0 R L N st a w loc γ) (id : Nat) : Sim w0 R L N { st with ob := upd st.ob id none } a w loc γ := by
  refine ⟨h.tm, fun j o hj => ?_, h.col, h.fr, h.ro, h.n, h.df, h.lc, h.gl⟩
  simp only [upd] at hj
  by_cases e : j = id
  · subst e; rw [beq_self] at hj; cases hj
  · rw [beq_ne e] at hj; exact h.ob j o hj
/-- an object is written -/
theorem Sim.set (h : Sim w0 R L N st a w loc γ) {id : Nat} {o : O} (hfr : Frm w0 L w') (hsz : w.heap.size ≤ w'.heap.size)
    (hw : ∀ b j, j ≠ id → γ b = some j → w'.heap[b]? = w.heap[b]?) (ho : ObRep w0 R w' loc γ id o) : Sim w0 R L N { st with ob := upd st.ob id (some o) } a w' loc γ := by
  refine ⟨h.tm, fun j o' hj => ?_, fun b j hb => ⟨(h.col b j hb).1, by have := (h.col b j hb).2; omega⟩, hfr, h.ro, h.n, h.df, h.lc, h.gl⟩
  simp only [upd] at hj
  by_cases e : j = id
  · subst e
    rw [beq_self] at hj
    simp only [cond_true, Option.some.injEq] at hj
    subst hj
    exact ho
  · rw [beq_ne e] at hj
    exact (h.ob j o' hj).keep rfl (fun b hb => ⟨hb, hw b j e hb⟩)
/-- what is read only stays where it was -/
theorem Sim.gnow (h : Sim w0 R L N st a w loc γ) : Glb.gi w := Glb.mono w0 w (fun b hb => h.fr.block b (h.ro b (h.gl.2 b hb)).1 (h.ro b (h.gl.2 b hb)).2) h.gl.1
theorem Sim.same (h : Sim w0 R L N st a w loc γ) {b : Nat} (hb : R b) : w.heap[b]? = w0.heap[b]? := h.fr.block b (h.ro b hb).1 (h.ro b hb).2
end
end Go.Eng
