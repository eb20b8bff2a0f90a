/- A row that is lent to a function by contract: what it holds afterwards. For sorts. -/
import Derived.Test.YtfbhkkedmfbgbaaDoorEG
import Derived.Sort.Row
import Derived.Sort.Grow
import Derived.Shelf.GgSortFunc.RowK
import Derived.Shelf.GgSortFunc.InsertionK
namespace Go.Eng
set_option linter.unusedSectionVars false
set_option linter.unusedSimpArgs false
set_option linter.unusedVariables false
open Go.RowKit Go.Sort
variable [Glb]
/-- the cells of one block are put anew, blocks are laid behind: what a function by contract does to a row that is lent to it -/
def PutsRow (w w' : World) (ad : Addr) (n : Nat) (F : Array Value) : Prop := ∃ k os, F.size = n ∧ w' = grow (putRow id (Sort.ahead w k) ad.block ad.off F) os
theorem heap_putRow {F : Array Value} {blk off : Nat} {w : World} {b : Nat} (h : b ≠ blk) : (putRow id w blk off F).heap[b]? = w.heap[b]? := by
  simp only [putRow, mapBlock, Array.getElem?_modify]
  rw [if_neg (Ne.symm h)]
theorem heap_putRow_same {F : Array Value} {blk off : Nat} {w : World} {cs : Array Value} {ty : TypeId} {fz : Nat × Nat} (h : w.heap[blk]? = some (.cells cs ty fz)) : (putRow id w blk off F).heap[blk]? = some (.cells (putCells id off F cs) ty fz) := by
  simp only [putRow, mapBlock, Array.getElem?_modify, h, if_true, Option.map_some]
  rfl
theorem putCells_get {F cs : Array Value} {off i : Nat} (h1 : off + F.size ≤ cs.size) (h : i < F.size) : (putCells id off F cs)[off + i]? = F[i]? := by
  unfold putCells
  rw [Array.getElem?_mapIdx, Array.getElem?_eq_getElem (show off + i < cs.size by omega)]
  simp only [Option.map_some]
  rw [if_pos ⟨by omega, by omega⟩, show off + i - off = i by omega, getElem!_pos F i h, Array.getElem?_eq_getElem h]
  rfl
theorem size_putCells {F cs : Array Value} {off : Nat} : (putCells id off F cs).size = cs.size := by simp [putCells]
theorem lentRow_ok {E : Env} {f : Nat} {e : CTs} {nl : NI} {xs ys : List e.D} {vs : List V} {os : List O} {x : (E.sig f).T} (hent : ∀ args w, (callFunc f args).run E.P w = .ok (.enter f args) w) (he : e.flat = true)
    (hinj : ∀ T, (E.sig f).inj x T = (.tup [], [some (.row .unk e ys)], [])) (hfin : (E.sig f).fin.length = 1) (hos : os[0]? = some (.row nl e xs)) (hlen : ys.length = xs.length)
    (hcall : ∀ (w : World) (R L : Nat → Prop) (loc : Nat → Loc) (γ : Nat → Option Nat) (args : Array Value), Gl w R → (∀ b, R b → b < w.heap.size ∧ ¬ L b) → (∀ b j, γ b = some j → L b ∧ b < w.heap.size) → RepL w R loc vs args.toList → ObRep w R w loc γ 0 (.row nl e xs) →
      Calls E.P f args w fun r w' => r = .returned (.tuple #[]) ∧ ((w' = w ∧ ys = xs) ∨ ∃ ad F, (loc 0).a = some ad ∧ PutsRow w w' ad (xs.length * e.size) F ∧ ∀ i y, ys[i]? = some y → CTs.Cells w R e (F.toList.drop (i * e.size)) y)) : FnOkAt E f vs os x := by
  intro w R L loc γ args T w1 R1 hT hg hg1 hR hγ hv ho
  have hob := ho 0 _ hos
  refine .inl ⟨hent _ _, (hcall w R L loc γ args hg hR hγ hv hob).mono fun r w' hr => ?_⟩
  obtain ⟨rfl, hr⟩ := hr
  obtain ⟨o1, o2, o3, o4, o5, o6⟩ := hob
  refine ⟨_, rfl, ?_⟩
  have main : Frm w L w' ∧ ObRep w1 R1 w' loc (fun b => if γ b = some 0 then some 0 else none) 0 (.row .unk e ys) := by
    rcases hr with ⟨rfl, rfl⟩ | ⟨ad, F, ha, ⟨k, os', hF, rfl⟩, hc⟩
    · refine ⟨Frm.refl _ _, o1, o2, o3, ⟨o4.1, o4.2.1, fun ad ha => ?_⟩, o5, trivial⟩
      obtain ⟨h1, h2, cs, ty, fz, h3, h4, h5⟩ := o4.2.2 ad ha
      exact ⟨h1, by simp [h2], cs, ty, fz, h3, h4, fun i x hx => CTs.Cells.flat e _ _ he (h5 i x hx)⟩
    · obtain ⟨h1, h2, cs, ty, fz, h3, h4, h5⟩ := o4.2.2 ad ha
      obtain ⟨g1, g2⟩ := hγ _ _ h2
      have hlc : F.size ≤ (loc 0).cap * e.size := by rw [hF]; exact Nat.mul_le_mul_right _ o4.1
      have hblk : (grow (putRow id (Sort.ahead w k) ad.block ad.off F) os').heap[ad.block]? = some (.cells (putCells id ad.off F cs) ty fz) := by
        rw [heap_grow_old _ _ (by rw [size_putRow]; exact g2)]
        exact heap_putRow_same h3
      refine ⟨⟨rfl, rfl, rfl, by rw [size_grow, size_putRow]; show w.heap.size ≤ w.heap.size + _; omega, fun b hb hL => ?_⟩, o1, o2, by rw [hlen]; exact o3, ⟨by rw [hlen]; exact o4.1, o4.2.1, fun ad' ha' => ?_⟩, fun ad' cs' ty' fz' ha' hh => ?_, trivial⟩
      · rw [heap_grow_old _ _ (by rw [size_putRow]; exact hb)]
        exact heap_putRow (w := Sort.ahead w k) (fun h => hL (h ▸ g1))
      · obtain rfl : ad = ad' := Option.some.inj (ha.symm.trans ha')
        refine ⟨h1, by simp [h2], _, _, _, hblk, by rw [size_putCells]; exact h4, fun i y hy => ?_⟩
        have hi := (List.getElem?_eq_some_iff.1 hy).1
        have hin : i * e.size + e.size ≤ F.size := by
          rw [hF, ← Nat.succ_mul]; exact Nat.mul_le_mul_right _ (by omega)
        refine CTs.Cells.congr e _ _ _ (fun j hj => ?_) (CTs.Cells.flat e _ _ he (hc i y hy))
        rw [List.getElem?_drop, List.getElem?_drop, Array.getElem?_toList, Array.getElem?_toList, show ad.off + i * e.size + j = ad.off + (i * e.size + j) by omega]
        exact putCells_get (by omega) (by omega)
      · obtain rfl : ad = ad' := Option.some.inj (ha.symm.trans ha')
        rw [hblk] at hh
        injection hh with hh
        injection hh with q1 q2 q3
        subst q1 q3
        have := o5 ad cs ty fz ha h3
        rwa [size_putCells]
  refine ⟨main.1, loc, fun b => if γ b = some 0 then some 0 else none, fun _ _ _ => rfl, fun b k hb => ?_, fun b k hb => ?_, ?_, ?_, ?_, ?_, ?_⟩
  · have hb : (if γ b = some 0 then some 0 else none) = some k := hb
    split at hb
    · rename_i h0
      exact ⟨.inr (hγ _ _ h0).1, Nat.lt_of_lt_of_le (hγ _ _ h0).2 main.1.size⟩
    · cases hb
  · have hb : (if γ b = some 0 then some 0 else none) = some k := hb
    split at hb
    · obtain rfl := Option.some.inj hb
      exact .inl (by omega)
    · cases hb
  · rw [hinj T]; exact ⟨#[], rfl, trivial⟩
  · rw [hinj T]; intro id hid; cases hid
  · rw [hinj T, hfin]; rfl
  · rw [hinj T]
    refine ⟨fun k o hk => ?_⟩
    cases k with
    | zero =>
      simp only [List.getElem?_cons_zero, Option.some.injEq] at hk
      subst hk
      exact ⟨main.2, fun id hid => by cases hid⟩
    | succ k => simp at hk
  · rw [hinj T]; intro k o hk; simp at hk
/-! ### the cells of plain elements -/
def CT.enc : (c : CT) → c.D → Value
  | .int k, n => .int k n
  | .bool, b => .bool b
  | .str, s => .string s
  | .row _, _ => .slice none 0 0
def CTs.enc : (e : CTs) → e.D → List Value
  | .one c, x => [c.enc x]
  | .cons c cs, x => c.enc x.1 :: cs.enc x.2
theorem CTs.enc_len : ∀ (e : CTs) (x : e.D), (e.enc x).length = e.size
  | .one _, _ => rfl
  | .cons c cs, x => by simp only [CTs.enc, CTs.size, List.length_cons, CTs.enc_len cs]
theorem CT.enc_one (c : CT) (x : c.D) : (c.enc x).oneCell' = true := by cases c <;> rfl
theorem CTs.enc_one : ∀ (e : CTs) (x : e.D) (v : Value), v ∈ e.enc x → v.oneCell' = true
  | .one c, x, v, h => by
    simp only [CTs.enc, List.mem_singleton] at h
    subst h
    exact CT.enc_one c x
  | .cons c cs, x, v, h => by
    simp only [CTs.enc, List.mem_cons] at h
    rcases h with rfl | h
    · exact CT.enc_one c x.1
    · exact CTs.enc_one cs x.2 v h
theorem CTs.Cells_enc {w : World} {R : Nat → Prop} : ∀ (e : CTs) (x : e.D), e.flat = true → CTs.Cells w R e (e.enc x) x
  | .one (.int _), _, _ => ⟨_, rfl, rfl⟩
  | .one .bool, _, _ => ⟨_, rfl, rfl⟩
  | .one .str, _, _ => ⟨_, rfl, rfl⟩
  | .one (.row _), _, hf => by simp [CTs.flat] at hf
  | .cons (.int _) cs, x, hf => ⟨_, rfl, rfl, CTs.Cells_enc cs x.2 (by simpa [CTs.flat] using hf)⟩
  | .cons .bool cs, x, hf => ⟨_, rfl, rfl, CTs.Cells_enc cs x.2 (by simpa [CTs.flat] using hf)⟩
  | .cons .str cs, x, hf => ⟨_, rfl, rfl, CTs.Cells_enc cs x.2 (by simpa [CTs.flat] using hf)⟩
  | .cons (.row _) _, _, hf => by simp [CTs.flat] at hf
theorem CTs.Cells_get {w : World} {R : Nat → Prop} : ∀ (e : CTs) (vs : List Value) (x : e.D), e.flat = true → CTs.Cells w R e vs x → ∀ j, j < e.size → vs[j]? = (e.enc x)[j]?
  | .one (.int _), vs, x, _, ⟨v, h1, h2⟩, 0, _ => by rw [h1, show v = _ from h2]; rfl
  | .one .bool, vs, x, _, ⟨v, h1, h2⟩, 0, _ => by rw [h1, show v = _ from h2]; rfl
  | .one .str, vs, x, _, ⟨v, h1, h2⟩, 0, _ => by rw [h1, show v = _ from h2]; rfl
  | .one _, _, _, _, _, j + 1, hj => by simp [CTs.size] at hj
  | .one (.row _), _, _, hf, _, 0, _ => by simp [CTs.flat] at hf
  | .cons (.int _) cs, vs, x, hf, ⟨v, h1, h2, h3⟩, j, hj => by
    cases j with
    | zero => rw [h1, show v = _ from h2]; rfl
    | succ j =>
      have := CTs.Cells_get cs _ x.2 (by simpa [CTs.flat] using hf) h3 j (by simp [CTs.size] at hj; omega)
      rw [List.getElem?_drop, Nat.add_comm] at this
      exact this
  | .cons .bool cs, vs, x, hf, ⟨v, h1, h2, h3⟩, j, hj => by
    cases j with
    | zero => rw [h1, show v = _ from h2]; rfl
    | succ j =>
      have := CTs.Cells_get cs _ x.2 (by simpa [CTs.flat] using hf) h3 j (by simp [CTs.size] at hj; omega)
      rw [List.getElem?_drop, Nat.add_comm] at this
      exact this
  | .cons .str cs, vs, x, hf, ⟨v, h1, h2, h3⟩, j, hj => by
    cases j with
    | zero => rw [h1, show v = _ from h2]; rfl
    | succ j =>
      have := CTs.Cells_get cs _ x.2 (by simpa [CTs.flat] using hf) h3 j (by simp [CTs.size] at hj; omega)
      rw [List.getElem?_drop, Nat.add_comm] at this
      exact this
  | .cons (.row _) _, _, _, hf, _, _, _ => by simp [CTs.flat] at hf
theorem flatK_get {e : CTs} [Inhabited e.D] (ys : List e.D) {i j : Nat} {y : e.D} (hy : ys[i]? = some y) (hj : j < e.size) : (flatK e.enc e.size ys.toArray)[i * e.size + j]? = (e.enc y)[j]? := by
  have hi := (List.getElem?_eq_some_iff.1 hy).1
  have hp := e.size_pos
  have hlt : i * e.size + j < (flatK e.enc e.size ys.toArray).size := by
    rw [size_flatK]
    have : (i + 1) * e.size ≤ ys.length * e.size := Nat.mul_le_mul_right _ hi
    rw [Nat.add_mul] at this
    simp only [List.size_toArray]
    omega
  have hg := get_flatK e.enc e.size ys.toArray (i * e.size + j) (by simpa using hlt)
  rw [getElem!_pos (flatK e.enc e.size ys.toArray) (i * e.size + j) hlt] at hg
  rw [Array.getElem?_eq_getElem hlt, hg]
  have hd : (i * e.size + j) / e.size = i := by rw [Nat.mul_comm, Nat.mul_add_div hp, Nat.div_eq_of_lt hj]; rfl
  have hm : (i * e.size + j) % e.size = j := by rw [Nat.mul_comm, Nat.mul_add_mod, Nat.mod_eq_of_lt hj]
  have hy' : (ys.toArray[i]! : e.D) = y := by
    rw [getElem!_pos ys.toArray i (by simpa using hi)]
    simpa [List.getElem?_eq_getElem hi] using hy
  rw [hd, hm, hy', getElem!_pos (e.enc y) j (by rw [CTs.enc_len]; exact hj), List.getElem?_eq_getElem (by rw [CTs.enc_len]; exact hj)]
theorem putRow_flat1 {α : Type} [Inhabited α] (enc : α → Value) (w : World) (blk off : Nat) (d : Array α) : putRow enc w blk off d = putRow id w blk off (flatK (fun x => [enc x]) 1 d) := by
  unfold putRow
  refine mapBlock_congr _ _ _ _ fun c t fz _ => ?_
  unfold putCells
  rw [size_flatK, Nat.mul_one]
  apply Array.ext (by simp)
  intro i h1 h2
  simp only [Array.getElem_mapIdx]
  split
  · rename_i h
    rw [get_flatK _ _ _ _ (by omega)]
    simp [Nat.mod_one]
  · rfl
theorem holds_flat1 {α : Type} [Inhabited α] {enc : α → Value} {w : World} {blk off : Nat} {d : Array α} (h : Holds id w blk off (flatK (fun x => [enc x]) 1 d)) : Holds enc w blk off d := by
  intro j hj
  have := h j (by rw [size_flatK]; omega)
  rw [get_flatK _ _ _ _ (by omega)] at this
  simpa [Nat.mod_one] using this
/-- a sort by contract -/
theorem sortRow_ok {E : Env} {f : Nat} {e : CTs} [Inhabited e.D] {nl : NI} {xs ys : List e.D} {vs : List V} {os : List O} {x : (E.sig f).T} (hent : ∀ args w, (callFunc f args).run E.P w = .ok (.enter f args) w) (he : e.flat = true)
    (hinj : ∀ T, (E.sig f).inj x T = (.tup [], [some (.row .unk e ys)], [])) (hfin : (E.sig f).fin.length = 1) (hos : os[0]? = some (.row nl e xs)) (hlen : ys.length = xs.length) (hv0 : vs[0]? = some (.own 0))
    (hcall : ∀ (w : World) (R : Nat → Prop) (loc : Nat → Loc) (args : Array Value) (blk off cap : Nat), RepL w R loc vs args.toList → args[0]? = some (.slice (some ⟨blk, off, none⟩) xs.length cap) → Holds id w blk off (flatK e.enc e.size xs.toArray) → blk < w.heap.size →
      Calls E.P f args w fun r w' => r = .returned (.tuple #[]) ∧ ∃ n os', w' = grow (putRow id (Sort.ahead w n) blk off (flatK e.enc e.size ys.toArray)) os')
    (hnone : xs = [] → ∀ (w : World) (R : Nat → Prop) (loc : Nat → Loc) (args : Array Value) (p : Option Addr) (cap : Nat), RepL w R loc vs args.toList → args[0]? = some (.slice p 0 cap) → Calls E.P f args w fun r w' => r = .returned (.tuple #[]) ∧ w' = w) : FnOkAt E f vs os x := by
  refine lentRow_ok hent he hinj hfin hos hlen fun w R L loc γ args hg hR hγ hv ho => ?_
  obtain ⟨o1, o2, o3, o4, o5, o6⟩ := ho
  obtain ⟨c0, hc0, hc1⟩ := hv.get hv0
  have hc1 : c0 = .slice (loc 0).a (loc 0).len (loc 0).cap := hc1
  subst hc1
  rw [Array.getElem?_toList, o3] at hc0
  cases had : (loc 0).a with
  | none =>
    have hz : xs = [] := List.eq_nil_of_length_eq_zero (by have := o4.2.1 had; have := o4.1; omega)
    subst hz
    have hy : ys = [] := List.eq_nil_of_length_eq_zero (by simpa using hlen)
    exact (hnone rfl w R loc args _ _ hv hc0).mono fun r w' ⟨h1, h2⟩ => ⟨h1, .inl ⟨h2, hy⟩⟩
  | some ad =>
    obtain ⟨hsp, hγ0, cs, ty, fz, hh, hcp, hcells⟩ := o4.2.2 ad had
    obtain ⟨blk, off, sp⟩ := ad
    obtain rfl : sp = none := hsp
    rw [had] at hc0
    have hH : Holds id w blk off (flatK e.enc e.size xs.toArray) := by
      intro j hj
      have hj' : j < xs.length * e.size := by simpa using hj
      have hp := e.size_pos
      have hq : j / e.size < xs.length := (Nat.div_lt_iff_lt_mul hp).2 hj'
      have hr : j % e.size < e.size := Nat.mod_lt _ hp
      have hjj : j / e.size * e.size + j % e.size = j := by rw [Nat.mul_comm]; exact Nat.div_add_mod j e.size
      have hx := List.getElem?_eq_getElem hq
      have h1 := flatK_get xs hx hr
      rw [hjj] at h1
      have h2 := CTs.Cells_get e _ _ he (hcells _ _ hx) _ hr
      rw [← h1, List.getElem?_drop, Array.getElem?_toList, show off + j / e.size * e.size + j % e.size = off + j by omega, Array.getElem?_eq_getElem hj] at h2
      have hlt := (Array.getElem?_eq_some_iff.1 h2).1
      refine ⟨?_, ?_⟩
      · rw [cell_at hh, Array.getElem?_toList, h2, getElem!_pos (flatK e.enc e.size xs.toArray) j hj]; rfl
      · have := o5 _ cs ty fz had hh (off + j) hlt
        simp [World.frozen?, hh]
        omega
    refine (hcall w R loc args blk off _ hv hc0 hH (hγ _ _ hγ0).2).mono fun r w' ⟨h1, n, os', h2⟩ => ⟨h1, .inr ⟨_, flatK e.enc e.size ys.toArray, rfl, ⟨n, os', by rw [size_flatK, List.size_toArray, hlen], h2⟩, fun i y hy => ?_⟩⟩
    refine CTs.Cells.congr e _ _ _ (fun j hj => ?_) (CTs.Cells_enc e y he)
    rw [List.getElem?_drop, Array.getElem?_toList, flatK_get ys hy hj]
/-! ### slices.Sort of int64 -/
noncomputable def xSortI (vs : List V) (os : List O) : Option (Unit × List Int) := match vs, os with
  | [.own 0], .row nl e xs :: _ => if h : CTs.same e (.one (.int .i64)) = true then if List.length (α := Int) (CTs.cast h xs) < 4611686018427387904 then some ((), List.mergeSort (α := Int) (CTs.cast h xs) fun x y => decide (x ≤ y)) else none else none
  | _, _ => none
theorem xSortI_ok {E : Env} {f : Nat} {vs : List V} {os : List O} {x : (E.sig f).T} {y : Unit × List Int} (hent : ∀ args w, (callFunc f args).run E.P w = .ok (.enter f args) w) (hinj : ∀ T, (E.sig f).inj x T = (.tup [], [some (.row .unk (.one (.int .i64)) y.2)], [])) (hfin : (E.sig f).fin.length = 1) (h : xSortI vs os = some y)
    (hcall : ∀ (blk off cap : Nat) (zs : List Int) (w : World), Holds (Value.int .i64) w blk off zs.toArray → blk < w.heap.size → zs.length < 4611686018427387904 →
      Calls E.P f #[.slice (some ⟨blk, off, none⟩) zs.length cap] w fun e w' => e = .returned (.tuple #[]) ∧ ∃ n os, w' = grow (putRow (Value.int .i64) (Sort.ahead w n) blk off (zs.mergeSort fun x y => decide (x ≤ y)).toArray) os)
    (hnone : ∀ (p : Option Addr) (cap : Nat) (w : World), Calls E.P f #[.slice p 0 cap] w fun e w' => e = .returned (.tuple #[]) ∧ w' = w) : FnOkAt E f vs os x := by
  unfold xSortI at h
  split at h
  · rename_i nl e xs tl
    split at h
    · rename_i hs
      split at h
      · rename_i hl
        obtain rfl := Option.some.inj h
        obtain rfl := CTs.eq_of_same _ _ hs
        have harg : ∀ (w : World) (R : Nat → Prop) (loc : Nat → Loc) (args : Array Value) (c : Value), RepL w R loc [.own 0] args.toList → args[0]? = some c → args = #[c] := fun w R loc args c hv hc => by
          obtain ⟨a, ha, _⟩ := hv.one_arg
          subst ha
          simp at hc
          rw [hc]
        letI : Inhabited (CTs.one (CT.int .i64)).D := ⟨(0 : Int)⟩
        refine sortRow_ok (e := .one (.int .i64)) (xs := xs) (ys := List.mergeSort (α := Int) xs fun x y => decide (x ≤ y)) hent rfl hinj hfin rfl (List.length_mergeSort (α := Int) xs) rfl (fun w R loc args blk off cap hv ha hH hb => ?_) (fun hx w R loc args p cap hv ha => ?_)
        · rw [harg w R loc args _ hv ha]
          refine (hcall blk off cap xs w (holds_flat1 (α := Int) (enc := Value.int .i64) hH) hb hl).mono fun r w' ⟨h1, n, os', h2⟩ => ⟨h1, n, os', ?_⟩
          rw [h2, putRow_flat1 (α := Int)]
          rfl
        · rw [harg w R loc args _ hv ha]
          exact hnone p cap w
      · cases h
    · cases h
  · cases h
end Go.Eng
