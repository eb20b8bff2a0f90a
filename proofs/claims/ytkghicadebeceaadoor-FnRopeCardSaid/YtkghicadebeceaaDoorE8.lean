/- New memory. -/
import Derived.Test.YtkghicadebeceaaDoorE7
import Derived.Laws.Append
namespace Go.Eng
set_option linter.unusedSectionVars false
variable [Glb]
open Go.RowKit
set_option linter.unusedSimpArgs false
set_option linter.unusedVariables false

section
variable {w0 w w' : World} {R L : Nat → Prop} {N : Fx} {st : St} {a : Act} {loc : Nat → Loc} {γ : Nat → Option Nat} {P : Program}

/-! ### cells of elements -/
theorem CTs.Cells.congr : ∀ (e : CTs) (vs vs' : List Value) (x : e.D), (∀ j, j < e.size → vs'[j]? = vs[j]?) → CTs.Cells w R e vs x → CTs.Cells w R e vs' x
  | .one c, vs, vs', x, h, ⟨v, h1, h2⟩ => ⟨v, by rw [h 0 (by simp [CTs.size])]; exact h1, h2⟩
  | .cons c cs, vs, vs', x, h, ⟨v, h1, h2, h3⟩ => ⟨v, by rw [h 0 (by simp [CTs.size])]; exact h1, h2,
      CTs.Cells.congr cs _ _ x.2 (fun j hj => by rw [List.getElem?_drop, List.getElem?_drop]; exact h (1 + j) (by simp [CTs.size]; omega)) h3⟩
theorem CT.ofV_rep {c : CT} {v : V} {d : c.D} {u : Value} (h : c.ofV v = some d) (hr : Rep w0 R loc v u) : CT.Cell w0 R c u d := by
  cases c with
  | int k =>
    cases v <;> try (simp [CT.ofV] at h; done)
    simp only [CT.ofV] at h
    split at h
    · rename_i hk
      subst hk
      obtain rfl := Option.some.inj h
      exact hr
    · cases h
  | bool =>
    cases v <;> try (simp [CT.ofV] at h; done)
    obtain rfl := Option.some.inj h
    exact hr
  | str =>
    cases v <;> try (simp [CT.ofV] at h; done)
    obtain rfl := Option.some.inj h
    exact hr
  | row e =>
    cases v <;> try (simp [CT.ofV] at h; done)
    obtain rfl := Option.some.inj h
    obtain rfl := hr
    exact ⟨none, 0, rfl, Nat.le_refl _, fun _ => rfl, fun h => absurd h (by omega)⟩
theorem CTs.ofVs_rep : ∀ (e : CTs) (vs : List V) (us : List Value) (x : e.D), e.ofVs vs = some x → RepL w0 R loc vs us → CTs.Cells w0 R e us x
  | .one c => by
    intro vs us x h hr
    cases vs with
    | nil => exact absurd (show (none : Option _) = some x from h) (by simp)
    | cons v vs =>
      cases vs with
      | cons => exact absurd (show (none : Option _) = some x from h) (by simp)
      | nil =>
        cases us with
        | nil => exact hr.elim
        | cons u us => exact ⟨u, rfl, CT.ofV_rep h hr.1⟩
  | .cons c cs => by
    intro vs us x h hr
    cases vs with
    | nil => exact absurd (show (none : Option _) = some x from h) (by simp)
    | cons v vs =>
      cases us with
      | nil => exact hr.elim
      | cons u us =>
        have h : (match c.ofV v, cs.ofVs vs with
          | some d, some ds => some (d, ds)
          | _, _ => none) = some x := h
        split at h
        · rename_i d ds h1 h2
          obtain rfl := Option.some.inj h
          exact ⟨u, rfl, CT.ofV_rep h1 hr.1, CTs.ofVs_rep cs vs us ds h2 hr.2⟩
        · cases h
theorem CTs.setV_rep : ∀ (e : CTs) (j : Nat) (vs : List Value) (x x' : e.D) (v : V) (u : Value), e.setV x j v = some x' → CTs.Cells w0 R e vs x → Rep w0 R loc v u → CTs.Cells w0 R e (vs.set j u) x'
  | .one c => by
    intro j vs x x' v u h hc hr
    cases j with
    | succ j => simp [CTs.setV] at h
    | zero =>
      obtain ⟨y, h1, _⟩ := hc
      have := (List.getElem?_eq_some_iff.1 h1).1
      exact ⟨u, by simp [List.getElem?_set, this], CT.ofV_rep h hr⟩
  | .cons c cs => by
    intro j vs x x' v u h hc hr
    obtain ⟨y, h1, h2, h3⟩ := hc
    have hlt := (List.getElem?_eq_some_iff.1 h1).1
    cases j with
    | zero =>
      simp only [CTs.setV] at h
      cases hd : c.ofV v with
      | none => rw [hd] at h; cases h
      | some d =>
        rw [hd] at h
        obtain rfl := Option.some.inj h
        refine ⟨u, by simp [List.getElem?_set, hlt], CT.ofV_rep hd hr, ?_⟩
        cases vs with
        | nil => simp at hlt
        | cons a l => exact h3
    | succ j =>
      simp only [CTs.setV] at h
      cases hd : cs.setV x.2 j v with
      | none => rw [hd] at h; cases h
      | some d =>
        rw [hd] at h
        obtain rfl := Option.some.inj h
        cases vs with
        | nil => simp at hlt
        | cons a l => exact ⟨y, by simpa using h1, h2, by simpa using CTs.setV_rep cs j _ x.2 d v u hd h3 hr⟩
theorem CTs.setsV_rep : ∀ (vs : List V) (us : List Value) (e : CTs) (cs : List Value) (x x' : e.D) (j : Nat), e.setsV x j vs = some x' → CTs.Cells w0 R e cs x → RepL w0 R loc vs us → CTs.Cells w0 R e (setCells cs j us) x'
  | [], [], e, cs, x, x', j, h, hc, _ => by obtain rfl := Option.some.inj h; exact hc
  | v :: vs, u :: us, e, cs, x, x', j, h, hc, hr => by
    simp only [CTs.setsV] at h
    cases hd : e.setV x j v with
    | none => rw [hd] at h; cases h
    | some d =>
      rw [hd] at h
      exact CTs.setsV_rep vs us e _ d x' (j + 1) h (CTs.setV_rep e j cs x d v u hd hc hr.1) hr.2
  | [], _ :: _, _, _, _, _, _, _, _, h => h.elim
  | _ :: _, [], _, _, _, _, _, _, _, h => h.elim
theorem setCells_get {α : Type} : ∀ (us cs : List α) (off j : Nat), (setCells cs off us)[j]? = if off ≤ j ∧ j < off + us.length ∧ j < cs.length then us[j - off]? else cs[j]?
  | [], cs, off, j => by
    simp only [setCells, List.length_nil]
    rw [if_neg (by omega)]
  | u :: us, cs, off, j => by
    simp only [setCells]
    rw [setCells_get us]
    simp only [List.length_set, List.length_cons, List.getElem?_set]
    by_cases h1 : off = j
    · subst h1
      by_cases h2 : off < cs.length
      · rw [if_neg (by omega), if_pos rfl, if_pos h2, if_pos (by omega)]
        simp
      · rw [if_neg (by omega), if_pos rfl, if_neg h2, if_neg (by omega)]
        rw [List.getElem?_eq_none (by omega)]
    · by_cases h3 : off + 1 ≤ j ∧ j < off + 1 + us.length ∧ j < cs.length
      · rw [if_pos h3, if_pos (by omega)]
        rw [show j - off = (j - (off + 1)) + 1 by omega]
        simp
      · rw [if_neg h3, if_neg h1, if_neg (by omega)]

/-! ### new objects -/
def Loc.at (g : Nat) : Loc := { a := some ⟨g, 0, none⟩, len := 0, cap := 0, sz := 0 }
theorem lt_of_heap {b : Nat} {o : Obj} (h : w.heap[b]? = some o) : b < w.heap.size := (Array.getElem?_eq_some_iff.1 h).1
theorem Sim.old (hs : Sim w0 R L N st a w loc γ) {b id : Nat} (h : γ b = some id) : b < w.heap.size := (hs.col b id h).2
theorem heap_new (o : Obj) : (w.alloc o).heap[w.heap.size]? = some o := by
  show (w.heap.push o)[w.heap.size]? = some o
  simp
theorem tag_ge (d : Option Nat) (j : Nat) : 500 ≤ tag d j := by
  cases d <;> simp only [tag] <;> omega
/-- a new box -/
theorem Sim.new_box (hs : Sim w0 R L N st a w loc γ) {id : Nat} (hid : st.ob id = none) (h5 : 500 ≤ id) {vs : List V} {cells : Array Value} {ty : TypeId} (hv : RepL w0 R loc vs cells.toList) :
    ∃ loc' γ', Sim w0 R L N { tm := fun i => (st.tm i).kill id, ob := upd (killOb id st.ob) id (some ((O.box vs).kill id)) } a (w.alloc (.cells cells ty)) loc' γ' ∧
      Rep w0 R loc' (.box id 0) (.pointer (some ⟨w.heap.size, 0, none⟩)) := by
  refine ⟨_, fun b => if b = w.heap.size then some id else γ b, hs.new (l := Loc.at w.heap.size) hid h5 (hs.fr.alloc _) (by simp) (fun b id' hb _ => ?_) (fun b => ?_) ?_, ?_⟩
  · exact Below.heap_alloc _ _ _ (hs.old hb)
  · by_cases e : b = w.heap.size
    · subst e
      exact .inr ⟨by simp, fun id' h => absurd (hs.old h) (by omega), .inl hs.fr.size, by simp⟩
    · exact .inl (by simp [e])
  · refine ⟨w.heap.size, cells, ty, (0, 0), by simp [Loc.at], by simp, heap_new _, ?_, fun o _ h => by simp at h⟩
    exact RepL.kill (fun j hj => by simp [hj]) _ _ hv
  · exact ⟨w.heap.size, by simp [Loc.at], rfl⟩
/-- a new row in a block of its own -/
theorem Sim.new_row (hs : Sim w0 R L N st a w loc γ) {id : Nat} (hid : st.ob id = none) (h5 : 500 ≤ id) (hfr : Frm w0 L w') (hsz : w'.heap.size = w.heap.size + 1) (hold : ∀ k, k < w.heap.size → w'.heap[k]? = w.heap[k]?)
    {cells : Array Value} {ty : TypeId} {fz : Nat × Nat} (hnew : w'.heap[w.heap.size]? = some (.cells cells ty fz)) (hfz : unfroz fz cells.size) {e : CTs} (he : e.flat = true) {xs : List e.D} {cap : Nat} (hlen : xs.length ≤ cap)
    (hcap : cap * e.size ≤ cells.size) (hc : ∀ i x, xs[i]? = some x → CTs.Cells w0 R e (cells.toList.drop (i * e.size)) x) {nl : NI} (hnl : nl ≠ .is true) :
    ∃ loc' γ', Sim w0 R L N { tm := fun i => (st.tm i).kill id, ob := upd (killOb id st.ob) id (some ((O.row nl e xs).kill id)) } a w' loc' γ' ∧
      Rep w0 R loc' (.own id) (.slice (some ⟨w.heap.size, 0, none⟩) xs.length cap) := by
  refine ⟨_, fun b => if b = w.heap.size then some id else γ b, hs.new (l := { a := some ⟨w.heap.size, 0, none⟩, len := xs.length, cap := cap, sz := e.size }) hid h5 hfr (by omega) (fun b id' hb _ => hold b (hs.old hb)) (fun b => ?_) ?_, by simp [Rep]⟩
  · by_cases e : b = w.heap.size
    · subst e
      exact .inr ⟨by simp, fun id' h => absurd (hs.old h) (by omega), .inl hs.fr.size, by omega⟩
    · exact .inl (by simp [e])
  · simp only [O.kill, ObRep, if_true]
    refine ⟨he, trivial, trivial, ⟨hlen, (fun h => by cases h), fun ad ha => ?_⟩, fun ad cs ty' fz' ha hh => ?_, ?_⟩
    · obtain rfl := Option.some.inj ha
      exact ⟨rfl, by simp, cells, ty, fz, hnew, by simpa using hcap, fun i x hx => by simpa using hc i x hx⟩
    · obtain rfl := Option.some.inj ha
      rw [hnew] at hh
      simp only [Option.some.injEq, Obj.cells.injEq] at hh
      obtain ⟨rfl, _, rfl⟩ := hh
      exact hfz
    · rcases nl with _ | (_ | _) <;> simp_all [nilOk]

theorem alloc_goes {o : Oper} {t : TypeId} {id : Nat} {z : List V} (hop : o.op = .alloc t) (hs : Sim w0 R L N st a w loc γ) (hz : zeroV? P t = some z) (hid : st.ob id = none) (h5 : 500 ≤ id) :
    Goes P o w0 R L N st a w (.box id 0) (upd (killOb id st.ob) id (some ((O.box z).kill id))) [id] := by
  obtain ⟨c, hc1, hc2, _⟩ := zeroV_run (w0 := w0) (R := R) (loc := loc) (w := w) hz
  obtain ⟨loc', γ', h1, h2⟩ := hs.new_box (ty := t) hid h5 hc2
  refine goes_world h1 h2 ?_
  simp [execOp, hop, Instr.alloc, hc1, newVar, newRow]
theorem box_goes {o : Oper} {t : TypeId} {x : Operand} {id : Nat} {vs : List V} (hop : o.op = .box t x) (hs : Sim w0 R L N st a w loc γ) (hv : (st.rv x).cells? = some vs) (hid : st.ob id = none) (h5 : 500 ≤ id) :
    Goes P o w0 R L N st a w (.box id 0) (upd (killOb id st.ob) id (some ((O.box vs).kill id))) [id] := by
  obtain ⟨loc', γ', h1, h2⟩ := hs.new_box (ty := t) hid h5 (cells_rep hv (hs.eval x))
  refine goes_world h1 h2 ?_
  simp [execOp, hop, Instr.box, newVar, newRow]

/-- the type of strings.Builder, its zero value -/
noncomputable def BldTy (E : Env) : Prop := ∀ t, E.isB t = true → t = Glb.bT ∧ zeroV? E.P t = some [.pnil, .nil]
/-- a new strings.Builder -/
theorem bld_goes0 {E : Env} (hB : BldTy E) {o : Oper} {t : TypeId} {id : Nat} (hop : o.op = .alloc t) (ht : E.isB t = true) (hs : Sim w0 R L N st a w loc γ) (hid : st.ob id = none) (h5 : 500 ≤ id) :
    Goes E.P o w0 R L N st a w (.box id 0) (upd (killOb id st.ob) id (some ((O.bld ⟨#[]⟩).kill id))) [id] := by
  obtain ⟨rfl, hz⟩ := hB t ht
  obtain ⟨c, hc1, hc2, _⟩ := zeroV_run (w0 := w0) (R := R) (loc := loc) (w := w) hz
  have hcs : c.cells = #[.pointer none, .slice none 0 0] := by
    apply Array.toList_inj.1
    match hl : c.cells.toList, hc2 with
    | [x, y], hc2 =>
      obtain ⟨h1, h2, _⟩ := hc2
      have h1 : x = .pointer none := h1
      have h2 : y = .slice none 0 0 := h2
      rw [h1, h2]
  have hsim := hs.new (id := id) (o := .bld ⟨#[]⟩) (l := Loc.at w.heap.size) (w' := w.alloc (.cells c.cells Glb.bT)) (γ' := fun b => if b = w.heap.size then some id else γ b) hid h5 (hs.fr.alloc _) (by simp) (fun b id' hb _ => Below.heap_alloc _ _ _ (hs.old hb)) (fun b => by
    by_cases e : b = w.heap.size
    · subst e
      exact .inr ⟨by simp, fun id' h => absurd (hs.old h) (by omega), .inl hs.fr.size, by simp⟩
    · exact .inl (by simp [e])) (by
    refine ⟨w.heap.size, .pointer none, .slice none 0 0, by simp [Loc.at], by simp, (fun g hg => by cases hg), .inl rfl, ?_, World.ownsRow_nil _ _ _ _, by simp [Value.ownBlock]⟩
    rw [heap_new, hcs])
  refine goes_world (γ' := fun b => if b = w.heap.size then some id else γ b) hsim (c := .pointer (some ⟨w.heap.size, 0, none⟩)) ⟨w.heap.size, by simp [Loc.at], rfl⟩ ?_
  simp [execOp, hop, Instr.alloc, hc1, newVar, newRow]

/-! ### rows that are made -/
theorem range_chunks {z : List Value} {s : Nat} (hz : z.length = s) : ∀ n, (List.range (n * s)).map (fun i => z[i % s]!) = (List.replicate n z).flatten
  | 0 => by simp
  | n + 1 => by
    rw [show (n + 1) * s = s + n * s by rw [Nat.add_mul]; omega, List.range_add, List.map_append, List.replicate_succ, List.flatten_cons, List.map_map]
    congr 1
    · apply List.ext_getElem
      · simp [hz]
      · intro i h1 h2
        simp only [List.length_map, List.length_range] at h1
        simp only [List.getElem_map, List.getElem_range, Nat.mod_eq_of_lt h1]
        rw [List.getElem!_eq_getElem?_getD, List.getElem?_eq_getElem (by omega)]
        rfl
    · rw [← range_chunks hz n]
      apply List.map_congr_left
      intro i _
      simp [Function.comp, Nat.add_mod_left]
theorem drop_chunks {α : Type} {z : List α} {s : Nat} (hz : z.length = s) : ∀ (i n : Nat), (List.replicate n z).flatten.drop (i * s) = (List.replicate (n - i) z).flatten
  | 0, n => by simp
  | i + 1, 0 => by simp
  | i + 1, n + 1 => by
    rw [List.replicate_succ, List.flatten_cons, List.drop_append, List.drop_eq_nil_of_le (by rw [Nat.add_mul]; omega), List.nil_append, show (i + 1) * s - z.length = i * s by rw [hz, Nat.add_mul]; omega, drop_chunks hz i n, Nat.add_sub_add_right]
theorem RepL.chunk {z : List V} {zc : List Value} (h : RepL w0 R loc z zc) : ∀ n, RepL w0 R loc (List.replicate n z).flatten (List.replicate n zc).flatten
  | 0 => trivial
  | n + 1 => by rw [List.replicate_succ, List.replicate_succ, List.flatten_cons, List.flatten_cons]; exact h.append (RepL.chunk h n)
theorem chunks_cells {e : CTs} {s : Nat} (hes : e.size = s) : ∀ (n : Nat) (cs : List V) (vals : List Value) (xs : List e.D), chunks e s n cs = some xs → RepL w0 R loc cs vals → n * s ≤ vals.length →
    xs.length = n ∧ ∀ i x, xs[i]? = some x → CTs.Cells w0 R e (vals.drop (i * s)) x
  | 0, cs, vals, xs, h, _, _ => by
    obtain rfl := Option.some.inj h
    exact ⟨rfl, fun i x hx => by simp at hx⟩
  | n + 1, cs, vals, xs, h, hr, hl => by
    simp only [chunks] at h
    split at h
    · rename_i y ys h1 h2
      obtain rfl := Option.some.inj h
      have hl' : s + n * s ≤ vals.length := by rw [Nat.add_mul] at hl; omega
      obtain ⟨h3, h4⟩ := chunks_cells hes n (cs.drop s) (vals.drop s) ys h2 (hr.drop s) (by simp; omega)
      refine ⟨by simp [h3], fun i x hx => ?_⟩
      cases i with
      | zero =>
        simp only [List.getElem?_cons_zero, Option.some.injEq] at hx
        subst hx
        refine CTs.Cells.congr e (vals.take s) _ y (fun j hj => ?_) (CTs.ofVs_rep e _ _ y h1 (hr.take s))
        simp only [Nat.zero_mul, List.drop_zero]
        rw [List.getElem?_take, if_pos (by omega)]
      | succ i =>
        have := h4 i x (by simpa using hx)
        rw [List.drop_drop] at this
        rw [Nat.add_mul, Nat.one_mul, Nat.add_comm]
        exact this
    · cases h
theorem elemOf_run {t e : TypeId} {c : CTs} {n by_ : Nat} (h : elemOf? P t = some (e, c, n, by_)) : P.underlying t = some (.slice e) ∧ (∃ b, tagg P e = some b) ∧ n = tsize P e ∧ c.size = n ∧ c.flat = true ∧ by_ = P.bytesOf e ∧
    ∃ z, zeroV? P e = some z ∧ z.length = n := by
  unfold elemOf? at h
  split at h
  · rename_i e' n' hq
    split at h
    · rename_i c' z' _ hz
      cases hb : Nat.beq c'.size n' && Nat.beq z'.length n' && c'.flat with
      | false => rw [hb] at h; cases h
      | true =>
        rw [hb] at h
        simp only [cond_true, Option.some.injEq, Prod.mk.injEq] at h
        obtain ⟨rfl, rfl, rfl, rfl⟩ := h
        simp only [Bool.and_eq_true] at hb
        obtain ⟨h1, h2, h3⟩ := slElem_run hq
        exact ⟨h1, h2, h3, Nat.eq_of_beq_eq_true hb.1.1, hb.2, rfl, z', hz, Nat.eq_of_beq_eq_true hb.1.2⟩
    · cases h
  · cases h
end
end Go.Eng
