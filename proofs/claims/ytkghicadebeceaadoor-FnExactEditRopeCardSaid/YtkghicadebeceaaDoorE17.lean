/- What a function hands back. -/
import Derived.Test.YtkghicadebeceaaDoorE16
namespace Go.Eng
set_option linter.unusedSectionVars false
variable [Glb]
open Go.RowKit
set_option linter.unusedSimpArgs false
set_option linter.unusedVariables false

section
variable {w0 w1 w w' : World} {R R1 L : Nat → Prop} {N : Fx} {st : St} {a : Act} {loc loc1 loc' : Nat → Loc} {γ γ1 γ' : Nat → Option Nat}
mutual
theorem Rep.congr : ∀ (v : V) (c : Value), (∀ id, id ∈ v.ids → loc' id = loc id) → Rep w0 R loc v c → Rep w0 R loc' v c
  | .un, _, _, _ => trivial
  | .int _ _, _, _, h => h
  | .bool _, _, _, h => h
  | .str _, _, _, h => h
  | .nil, _, _, h => h
  | .pnil, _, _, h => h
  | .ro _ _, _, _, h => h
  | .rn _ _, _, _, h => h
  | .roel _ _ _, _, _, h => h
  | .cst _, _, _, h => h
  | .own id, c, hl, h => by simp only [Rep, hl id (by simp [V.ids])]; exact h
  | .sub id a b, c, hl, h => by simp only [Rep, hl id (by simp [V.ids])]; exact h
  | .el id a b, c, hl, h => by simp only [Rep, hl id (by simp [V.ids])]; exact h
  | .box id b, c, hl, h => by simp only [Rep, hl id (by simp [V.ids])]; exact h
  | .agg vs, _, hl, ⟨cs, hc, h⟩ => ⟨cs, hc, RepL.congr vs cs.toList (fun id hid => hl id (by simpa [V.ids] using hid)) h⟩
  | .tup vs, _, hl, ⟨cs, hc, h⟩ => ⟨cs, hc, RepL.congr vs cs.toList (fun id hid => hl id (by simpa [V.ids] using hid)) h⟩
  | .fn _ a b, _, hl, ⟨x, y, hc, h, h'⟩ => ⟨x, y, hc, RepL.congr a x.toList (fun id hid => hl id (by simp [V.ids, hid])) h, RepL.congr b y.toList (fun id hid => hl id (by simp [V.ids, hid])) h'⟩
theorem RepL.congr : ∀ (vs : List V) (cs : List Value), (∀ id, id ∈ V.ids.go vs → loc' id = loc id) → RepL w0 R loc vs cs → RepL w0 R loc' vs cs
  | [], [], _, _ => trivial
  | v :: vs, c :: cs, hl, h => ⟨Rep.congr v c (fun id hid => hl id (by simp [V.ids.go, hid])) h.1, RepL.congr vs cs (fun id hid => hl id (by simp [V.ids.go, hid])) h.2⟩
  | [], _ :: _, _, h => h.elim
  | _ :: _, [], _, h => h.elim
end
/-- the colours that are laid come of objects that are used -/
noncomputable def Inv (γ : Nat → Option Nat) (u : List Nat) (γ1 : Nat → Option Nat) : Prop := ∀ b k, γ1 b = some k → ∃ id, id ∈ u ∧ γ b = some id
/-- a further state of the new numbers -/
structure Fur (n : Nat) (loc1 : Nat → Loc) (γ1 : Nat → Option Nat) (loc2 : Nat → Loc) (γ2 : Nat → Option Nat) : Prop where
  loc : ∀ k, k < n → loc2 k = loc1 k
  col : ∀ b k, γ1 b = some k → γ2 b = some k
theorem Fur.refl (n : Nat) (loc1 : Nat → Loc) (γ1 : Nat → Option Nat) : Fur n loc1 γ1 loc1 γ1 := ⟨fun _ _ => rfl, fun _ _ h => h⟩
theorem Fur.trans {n m : Nat} {loc1 loc2 loc3 : Nat → Loc} {γ1 γ2 γ3 : Nat → Option Nat} (h : Fur n loc1 γ1 loc2 γ2) (h' : Fur m loc2 γ2 loc3 γ3) (hnm : n ≤ m) : Fur n loc1 γ1 loc3 γ3 :=
  ⟨fun k hk => (h'.loc k (by omega)).trans (h.loc k hk), fun b k hb => h'.col b k (h.col b k hb)⟩
theorem ObRep.row_fur {n k : Nat} {loc2 : Nat → Loc} {γ2 : Nat → Option Nat} (hf : Fur n loc1 γ1 loc2 γ2) (hk : k < n) {nl : NI} {e : CTs} {xs : List e.D} (h : ObRep w0 R w loc1 γ1 k (.row nl e xs)) : ObRep w0 R w loc2 γ2 k (.row nl e xs) := by
  obtain ⟨h1, h2, h3, h4, h5, h6⟩ := h
  simp only [ObRep, hf.loc k hk]
  exact ⟨h1, h2, h3, h4.imp (fun b hb => ⟨hf.col b k hb, rfl⟩) (fun _ _ h => h), h5, h6⟩
theorem ObRep.unk {k : Nat} {nl : NI} {e : CTs} {xs : List e.D} (h : ObRep w0 R w loc γ k (.row nl e xs)) : ObRep w0 R w loc γ k (.row .unk e xs) := by
  obtain ⟨h1, h2, h3, h4, h5, h6⟩ := h
  exact ⟨h1, h2, h3, h4, h5, trivial⟩
/-- a row under a new number -/
theorem rowOf_ok {ob : Ob} {e : CTs} {u u' : List Nat} {v : V} {c : Value} {xs : List e.D} (n : Nat) (hob : ∀ id o, ob id = some o → ObRep w0 R w loc γ id o) (h : rowOf ob e u v = some (xs, u')) (hr : Rep w0 R loc v c) (hi : Inv γ u γ1) :
    ∃ l γ2, Rep w1 R1 (fun k => if k = n then l else loc1 k) (.own n) c ∧ ObRep w1 R1 w (fun k => if k = n then l else loc1 k) γ2 n (.row (niOf ob v) e xs) ∧ Inv γ u' γ2 ∧ (∀ b k, γ1 b = some k → γ2 b = some k) ∧
      (∀ b k, γ2 b = some k → γ1 b = some k ∨ (k = n ∧ ∃ id, id ∉ u ∧ id ∈ u' ∧ γ b = some id)) := by
  unfold rowOf at h
  split at h
  · cases he : e.flat with
    | false => rw [he] at h; cases h
    | true =>
      rw [he] at h
      simp only [cond_true, Option.some.injEq, Prod.mk.injEq] at h
      obtain ⟨rfl, rfl⟩ := h
      obtain rfl := hr
      refine ⟨{ a := none, len := 0, cap := 0, sz := e.size }, γ1, by simp [Rep], ?_, hi, fun _ _ h => h, fun _ _ h => .inl h⟩
      simp only [ObRep, if_true]
      exact ⟨he, trivial, rfl, ⟨by simp, fun _ => rfl, (fun ad h => by cases h)⟩, (fun ad cs ty fz h => by cases h), rfl⟩
  · rename_i id
    cases hu : u.contains id with
    | true => rw [hu] at h; cases h
    | false =>
      rw [hu] at h
      simp only [cond_false] at h
      split at h
      · rename_i nl e' ys ho
        split at h
        · rename_i he
          obtain rfl := CTs.eq_of_same _ _ he
          simp only [Option.some.injEq, Prod.mk.injEq] at h
          obtain ⟨h1, rfl⟩ := h
          have h1 : ys = xs := h1
          subst h1
          obtain ⟨k1, k2, k3, k4, k5, k6⟩ := hob id _ ho
          have hnu : id ∉ u := by simpa using hu
          refine ⟨loc id, fun b => if γ b = some id then some n else γ1 b, ?_, ?_, fun b k hb => ?_, fun b k hb => ?_, fun b k hb => ?_⟩
          · simp only [Rep, if_true]; exact hr
          · simp only [ObRep, if_true]
            exact ⟨k1, k2, k3, k4.imp (fun b hb => ⟨by rw [if_pos hb], rfl⟩) (fun _ _ h => CTs.Cells.flat _ _ _ k1 h), k5, by simp only [niOf, ho]; exact k6⟩
          · dsimp only at hb
            split at hb
            · rename_i hγ; exact ⟨id, List.mem_cons_self, hγ⟩
            · obtain ⟨id', h1, h2⟩ := hi b k hb
              exact ⟨id', List.mem_cons_of_mem _ h1, h2⟩
          · obtain ⟨id', h1, h2⟩ := hi b k hb
            dsimp only
            rw [if_neg (fun hγ => by rw [h2] at hγ; obtain rfl := Option.some.inj hγ; exact hnu h1)]
            exact hb
          · dsimp only at hb
            split at hb
            · rename_i hγ; exact .inr ⟨(Option.some.inj hb).symm, id, hnu, List.mem_cons_self, hγ⟩
            · exact .inl hb
        · cases h
      · cases h
  · rename_i id hi'
    cases hu : u.contains id with
    | true => rw [hu] at h; cases h
    | false =>
      rw [hu] at h
      simp only [cond_false] at h
      split at h
      · rename_i nl e' ys ho
        split at h
        · rename_i he
          obtain rfl := CTs.eq_of_same _ _ he
          simp only [Option.some.injEq, Prod.mk.injEq] at h
          obtain ⟨h1, rfl⟩ := h
          have h1 : takeI ys hi' = xs := h1
          subst h1
          obtain ⟨k1, k2, k3, k4, k5, k6⟩ := hob id _ ho
          obtain ⟨r0, r1, r2, hr⟩ := hr
          have hnu : id ∉ u := by simpa using hu
          have r1 : (0 : Int) ≤ hi' := r1
          rw [k3] at r2
          have hsub := k4.sub (l := 0) (u := hi') (Int.le_refl _) r1 r2
          have hl : (takeI ys hi').length = hi'.toNat := by simp [takeI]; omega
          have ha : (if (loc id).cap = (0 : Int).toNat then (loc id).a else (loc id).a.map (·.add ((0 : Int).toNat * e'.size))) = (loc id).a := by
            split
            · rfl
            · cases (loc id).a with
              | none => rfl
              | some ad => simp [Addr.add]
          rw [ha] at hsub
          have hsub : RowAt w (fun b => γ b = some id) e'.size (CTs.Cells w0 R e') (loc id).a (loc id).cap (takeI ys hi') := by
            have e1 : dropI (takeI ys hi') 0 = takeI ys hi' := by simp [dropI]
            rw [e1] at hsub
            simpa using hsub
          have ha2 : (if (loc id).cap = (0 : Int).toNat then (loc id).a else (loc id).a.map (·.add ((0 : Int).toNat * (loc id).sz))) = (loc id).a := by rw [k2]; exact ha
          refine ⟨{ a := (loc id).a, len := hi'.toNat, cap := (loc id).cap, sz := (loc id).sz }, fun b => if γ b = some id then some n else γ1 b, ?_, ?_, fun b k hb => ?_, fun b k hb => ?_, fun b k hb => ?_⟩
          · simp only [Rep, if_true]
            rw [hr]
            have := ha2
            simp only [Int.toNat_zero, Int.sub_zero, Nat.sub_zero] at this ⊢
            have e0 : (Int.ofNat 0) = (0 : Int) := rfl
            simp only [e0, Int.toNat_zero, Int.sub_zero, Nat.sub_zero, this]
          · simp only [ObRep, if_true]
            exact ⟨k1, k2, hl.symm, hsub.imp (fun b hb => ⟨by rw [if_pos hb], rfl⟩) (fun _ _ h => CTs.Cells.flat _ _ _ k1 h), k5, trivial⟩
          · dsimp only at hb
            split at hb
            · rename_i hγ; exact ⟨id, List.mem_cons_self, hγ⟩
            · obtain ⟨id', h1, h2⟩ := hi b k hb
              exact ⟨id', List.mem_cons_of_mem _ h1, h2⟩
          · obtain ⟨id', h1, h2⟩ := hi b k hb
            dsimp only
            rw [if_neg (fun hγ => by rw [h2] at hγ; obtain rfl := Option.some.inj hγ; exact hnu h1)]
            exact hb
          · dsimp only at hb
            split at hb
            · rename_i hγ; exact .inr ⟨(Option.some.inj hb).symm, id, hnu, List.mem_cons_self, hγ⟩
            · exact .inl hb
        · cases h
      · cases h
  · cases h
/-- the new objects, from number j on -/
noncomputable def News (w0 : World) (R : Nat → Prop) (w : World) (loc : Nat → Loc) (γ : Nat → Option Nat) (j : Nat) (os : List O) : Prop :=
  ∀ k o, os[k]? = some o → (∃ nl e xs, o = .row nl e xs) ∧ ObRep w0 R w loc γ (j + k) o
theorem News.fur {n j : Nat} {os : List O} {loc2 : Nat → Loc} {γ2 : Nat → Option Nat} (hf : Fur n loc1 γ1 loc2 γ2) (hn : j + os.length ≤ n) (h : News w0 R w loc1 γ1 j os) : News w0 R w loc2 γ2 j os := by
  intro k o hk
  obtain ⟨⟨nl, e, xs, rfl⟩, h2⟩ := h k o hk
  have := (List.getElem?_eq_some_iff.1 hk).1
  exact ⟨⟨nl, e, xs, rfl⟩, h2.row_fur hf (by omega)⟩
theorem News.nil {j : Nat} : News w0 R w loc1 γ1 j [] := fun k o h => by simp at h
theorem News.append {j : Nat} {os os' : List O} (h : News w0 R w loc1 γ1 j os) (h' : News w0 R w loc1 γ1 (j + os.length) os') : News w0 R w loc1 γ1 j (os ++ os') := by
  intro k o hk
  rw [List.getElem?_append] at hk
  split at hk
  · exact h k o hk
  · rename_i hge
    obtain ⟨h1, h2⟩ := h' _ o hk
    rw [show j + os.length + (k - os.length) = j + k by omega] at h2
    exact ⟨h1, h2⟩
structure Got (γ : Nat → Option Nat) (u' : List Nat) (j n : Nat) (loc1 : Nat → Loc) (γ1 : Nat → Option Nat) (loc2 : Nat → Loc) (γ2 : Nat → Option Nat) : Prop where
  fur : Fur j loc1 γ1 loc2 γ2
  inv : Inv γ u' γ2
  lt : ∀ b k, γ2 b = some k → γ1 b = some k ∨ (j ≤ k ∧ k < n)
theorem proj_int (ob : Ob) (k : IntKind) (u : List Nat) (v : V) : RT.proj ob (.int k) u v = match v with
    | .int k' n => if k = k' then some (n, u) else none
    | _ => none := rfl
theorem proj_bool (ob : Ob) (u : List Nat) (v : V) : RT.proj ob .bool u v = match v with
    | .bool b => some (b, u)
    | _ => none := rfl
theorem proj_str (ob : Ob) (u : List Nat) (v : V) : RT.proj ob .str u v = match v with
    | .str s => some (s, u)
    | _ => none := rfl
theorem proj_agg (ob : Ob) (rs : RTs) (u : List Nat) (v : V) : RT.proj ob (.agg rs) u v = match v with
    | .agg vs => RTs.proj ob rs u vs
    | _ => none := rfl
theorem proj_tup (ob : Ob) (rs : RTs) (u : List Nat) (v : V) : RT.proj ob (.tup rs) u v = match v with
    | .tup vs => RTs.proj ob rs u vs
    | _ => none := rfl
theorem projs_nil (ob : Ob) (u : List Nat) (vs : List V) : RTs.proj ob .nil u vs = match vs with
    | [] => some ((), u)
    | _ => none := rfl
theorem projs_one (ob : Ob) (r : RT) (u : List Nat) (vs : List V) : RTs.proj ob (.one r) u vs = match vs with
    | [v] => RT.proj ob r u v
    | _ => none := rfl
theorem projs_cons (ob : Ob) (r : RT) (rs : RTs) (u : List Nat) (vs : List V) : RTs.proj ob (.cons r rs) u vs = match vs with
    | v :: vs => match RT.proj ob r u v with
      | some (x, u1) => match RTs.proj ob rs u1 vs with
        | some (xs, u2) => some ((x, xs), u2)
        | none => none
      | none => none
    | [] => none := rfl
/-- what is to be shown of a kind of answers -/
noncomputable def OutR (w0 : World) (R : Nat → Prop) (w1 : World) (R1 : Nat → Prop) (w : World) (loc : Nat → Loc) (γ : Nat → Option Nat) (ob : Ob) (r : RT) : Prop :=
  ∀ (u u' : List Nat) (v : V) (x : r.T) (c : Value) (j : Nat) (loc1 : Nat → Loc) (γ1 : Nat → Option Nat), RT.proj ob r u v = some (x, u') → Rep w0 R loc v c → Inv γ u γ1 → (∀ b k, γ1 b = some k → k < j) →
    ∃ loc2 γ2, Got γ u' j (j + (r.inj x j).2.length) loc1 γ1 loc2 γ2 ∧ Rep w1 R1 loc2 (r.inj x j).1 c ∧ News w1 R1 w loc2 γ2 j (r.inj x j).2 ∧ ∀ id, id ∈ (r.inj x j).1.ids → j ≤ id ∧ id < j + (r.inj x j).2.length
noncomputable def OutRs (w0 : World) (R : Nat → Prop) (w1 : World) (R1 : Nat → Prop) (w : World) (loc : Nat → Loc) (γ : Nat → Option Nat) (ob : Ob) (rs : RTs) : Prop :=
  ∀ (u u' : List Nat) (vs : List V) (x : rs.T) (cs : List Value) (j : Nat) (loc1 : Nat → Loc) (γ1 : Nat → Option Nat), RTs.proj ob rs u vs = some (x, u') → RepL w0 R loc vs cs → Inv γ u γ1 → (∀ b k, γ1 b = some k → k < j) →
    ∃ loc2 γ2, Got γ u' j (j + (rs.inj x j).2.length) loc1 γ1 loc2 γ2 ∧ RepL w1 R1 loc2 (rs.inj x j).1 cs ∧ News w1 R1 w loc2 γ2 j (rs.inj x j).2 ∧ ∀ id, id ∈ V.ids.go (rs.inj x j).1 → j ≤ id ∧ id < j + (rs.inj x j).2.length
theorem out_int {ob : Ob} (k : IntKind) : OutR w0 R w1 R1 w loc γ ob (.int k) := by
  intro u u' v x c j loc1 γ1 h hr hi hlt
  rw [proj_int] at h
  split at h
  · split at h
    · rename_i hk
      subst hk
      simp only [Option.some.injEq, Prod.mk.injEq] at h
      obtain ⟨rfl, rfl⟩ := h
      exact ⟨loc1, γ1, ⟨Fur.refl _ _ _, hi, fun _ _ h => .inl h⟩, hr, News.nil, fun id hid => absurd hid (by simp [RT.inj, V.ids])⟩
    · cases h
  · cases h
theorem out_bool {ob : Ob} : OutR w0 R w1 R1 w loc γ ob .bool := by
  intro u u' v x c j loc1 γ1 h hr hi hlt
  rw [proj_bool] at h
  split at h
  · simp only [Option.some.injEq, Prod.mk.injEq] at h
    obtain ⟨rfl, rfl⟩ := h
    exact ⟨loc1, γ1, ⟨Fur.refl _ _ _, hi, fun _ _ h => .inl h⟩, hr, News.nil, fun id hid => absurd hid (by simp [RT.inj, V.ids])⟩
  · cases h
theorem out_str {ob : Ob} : OutR w0 R w1 R1 w loc γ ob .str := by
  intro u u' v x c j loc1 γ1 h hr hi hlt
  rw [proj_str] at h
  split at h
  · simp only [Option.some.injEq, Prod.mk.injEq] at h
    obtain ⟨rfl, rfl⟩ := h
    exact ⟨loc1, γ1, ⟨Fur.refl _ _ _, hi, fun _ _ h => .inl h⟩, hr, News.nil, fun id hid => absurd hid (by simp [RT.inj, V.ids])⟩
  · cases h
theorem out_own {ob : Ob} (hob : ∀ id o, ob id = some o → ObRep w0 R w loc γ id o) (e : CTs) : OutR w0 R w1 R1 w loc γ ob (.own e) := by
  intro u u' v x c j loc1 γ1 h hr hi hlt
  obtain ⟨l, γ2, h1, h2, h3, h4, h5⟩ := rowOf_ok (w1 := w1) (R1 := R1) (loc1 := loc1) j hob (show rowOf ob e u v = some (x, u') from h) hr hi
  refine ⟨fun k => if k = j then l else loc1 k, γ2, ⟨⟨fun k hk => by rw [if_neg (by omega)], h4⟩, h3, fun b k hb => ?_⟩, h1, fun k o hk => ?_, fun id hid => ?_⟩
  · show γ1 b = some k ∨ (j ≤ k ∧ k < j + 1)
    rcases h5 b k hb with h | ⟨h, _⟩
    · exact .inl h
    · exact .inr (by omega)
  · have hk : [O.row .unk e x][k]? = some o := hk
    cases k with
    | zero =>
      simp only [List.getElem?_cons_zero, Option.some.injEq] at hk
      subst hk
      exact ⟨⟨_, _, _, rfl⟩, h2.unk⟩
    | succ k => simp at hk
  · have hid : id ∈ [j] := hid
    show j ≤ id ∧ id < j + 1
    simp only [List.mem_singleton] at hid
    omega
theorem out_ownF {ob : Ob} (hob : ∀ id o, ob id = some o → ObRep w0 R w loc γ id o) (e : CTs) : OutR w0 R w1 R1 w loc γ ob (.ownF e) := by
  intro u u' v x c j loc1 γ1 h hr hi hlt
  have h : rowFlag ob e u v = some (x, u') := h
  unfold rowFlag at h
  split at h
  case h_2 => cases h
  rename_i xs u2 hrow
  split at h
  case h_2 => cases h
  rename_i b hni
  injection h with h
  injection h with hx1 hx2
  subst hx1 hx2
  obtain ⟨l, γ2, h1, h2, h3, h4, h5⟩ := rowOf_ok (w1 := w1) (R1 := R1) (loc1 := loc1) j hob hrow hr hi
  rw [hni] at h2
  refine ⟨fun k => if k = j then l else loc1 k, γ2, ⟨⟨fun k hk => by rw [if_neg (by omega)], h4⟩, h3, fun b k hb => ?_⟩, h1, fun k o hk => ?_, fun id hid => ?_⟩
  · show γ1 b = some k ∨ (j ≤ k ∧ k < j + 1)
    rcases h5 b k hb with h | ⟨h, _⟩
    · exact .inl h
    · exact .inr (by omega)
  · have hk : [O.row (.is b) e xs][k]? = some o := hk
    cases k with
    | zero =>
      simp only [List.getElem?_cons_zero, Option.some.injEq] at hk
      subst hk
      exact ⟨⟨_, _, _, rfl⟩, h2⟩
    | succ k => simp at hk
  · have hid : id ∈ [j] := hid
    show j ≤ id ∧ id < j + 1
    simp only [List.mem_singleton] at hid
    omega
theorem out_agg {ob : Ob} {rs : RTs} (hrs : OutRs w0 R w1 R1 w loc γ ob rs) : OutR w0 R w1 R1 w loc γ ob (.agg rs) := by
  intro u u' v x c j loc1 γ1 h hr hi hlt
  cases v with
  | agg vs =>
    obtain ⟨cs, rfl, hr⟩ := hr
    obtain ⟨loc2, γ2, h1, h2, h3, h4⟩ := hrs u u' vs x cs.toList j loc1 γ1 h hr hi hlt
    exact ⟨loc2, γ2, h1, ⟨cs, rfl, h2⟩, h3, fun id hid => h4 id hid⟩
  | _ => exact absurd (show (none : Option (rs.T × List Nat)) = some (x, u') from h) (by simp)
theorem out_tup {ob : Ob} {rs : RTs} (hrs : OutRs w0 R w1 R1 w loc γ ob rs) : OutR w0 R w1 R1 w loc γ ob (.tup rs) := by
  intro u u' v x c j loc1 γ1 h hr hi hlt
  cases v with
  | tup vs =>
    obtain ⟨cs, rfl, hr⟩ := hr
    obtain ⟨loc2, γ2, h1, h2, h3, h4⟩ := hrs u u' vs x cs.toList j loc1 γ1 h hr hi hlt
    exact ⟨loc2, γ2, h1, ⟨cs, rfl, h2⟩, h3, fun id hid => h4 id hid⟩
  | _ => exact absurd (show (none : Option (rs.T × List Nat)) = some (x, u') from h) (by simp)
theorem outs_nil {ob : Ob} : OutRs w0 R w1 R1 w loc γ ob .nil := by
  intro u u' vs x cs j loc1 γ1 h hr hi hlt
  cases vs with
  | nil =>
    obtain rfl : u = u' := congrArg (Prod.snd (α := RTs.nil.T)) (Option.some.inj h)
    cases cs with
    | nil => exact ⟨loc1, γ1, ⟨Fur.refl _ _ _, hi, fun _ _ h => .inl h⟩, trivial, News.nil, fun id hid => absurd hid (by simp [RTs.inj, V.ids.go])⟩
    | cons c cs => exact hr.elim
  | cons v vs => exact absurd (show (none : Option (RTs.nil.T × List Nat)) = some (x, u') from h) (by simp)
theorem outs_one {ob : Ob} {r : RT} (hr' : OutR w0 R w1 R1 w loc γ ob r) : OutRs w0 R w1 R1 w loc γ ob (.one r) := by
  intro u u' vs x cs j loc1 γ1 h hr hi hlt
  cases vs with
  | nil => exact absurd (show (none : Option (r.T × List Nat)) = some (x, u') from h) (by simp)
  | cons v vs =>
    cases vs with
    | cons _ _ => exact absurd (show (none : Option (r.T × List Nat)) = some (x, u') from h) (by simp)
    | nil =>
      cases cs with
      | nil => exact hr.elim
      | cons c cs =>
        cases cs with
        | cons _ _ => exact hr.2.elim
        | nil =>
          obtain ⟨loc2, γ2, h1, h2, h3, h4⟩ := hr' u u' v x c j loc1 γ1 h hr.1 hi hlt
          exact ⟨loc2, γ2, h1, ⟨h2, trivial⟩, h3, fun id hid => h4 id (by
            have hid : id ∈ (r.inj x j).1.ids ++ [] := hid
            simpa using hid)⟩
theorem outs_cons {ob : Ob} {r : RT} {rs : RTs} (hr' : OutR w0 R w1 R1 w loc γ ob r) (hrs : OutRs w0 R w1 R1 w loc γ ob rs) : OutRs w0 R w1 R1 w loc γ ob (.cons r rs) := by
  intro u u' vs x cs j loc1 γ1 h hr hi hlt
  cases vs with
  | nil => exact absurd (show (none : Option ((RTs.cons r rs).T × List Nat)) = some (x, u') from h) (by simp)
  | cons v vs =>
    cases cs with
    | nil => exact hr.elim
    | cons c cs =>
      rw [projs_cons] at h
      dsimp only at h
      cases e1 : RT.proj ob r u v with
      | none => rw [e1] at h; cases h
      | some p1 =>
        obtain ⟨x1, u1⟩ := p1
        rw [e1] at h
        dsimp only at h
        cases e2 : RTs.proj ob rs u1 vs with
        | none => rw [e2] at h; cases h
        | some p2 =>
          obtain ⟨xs, u2⟩ := p2
          rw [e2] at h
          simp only [Option.some.injEq, Prod.mk.injEq] at h
          obtain ⟨rfl, rfl⟩ := h
          obtain ⟨loc2, γ2, h1, h2, h3, h4⟩ := hr' u u1 v x1 c j loc1 γ1 e1 hr.1 hi hlt
          obtain ⟨loc3, γ3, g1, g2, g3, g4⟩ := hrs u1 _ vs xs cs (j + (r.inj x1 j).2.length) loc2 γ2 e2 hr.2 h1.inv (fun b k hb => by
            rcases h1.lt b k hb with h | h
            · have := hlt b k h; omega
            · exact h.2)
          have hos : (RTs.inj (.cons r rs) (x1, xs) j).2 = (r.inj x1 j).2 ++ (rs.inj xs (j + (r.inj x1 j).2.length)).2 := rfl
          have hlen : (RTs.inj (.cons r rs) (x1, xs) j).2.length = (r.inj x1 j).2.length + (rs.inj xs (j + (r.inj x1 j).2.length)).2.length := by rw [hos, List.length_append]
          refine ⟨loc3, γ3, ⟨h1.fur.trans g1.fur (by omega), g1.inv, fun b k hb => by
            rw [hlen]
            rcases g1.lt b k hb with h | h
            · rcases h1.lt b k h with h | h
              · exact .inl h
              · exact .inr (by omega)
            · exact .inr (by omega)⟩, ⟨?_, g2⟩, ?_, fun id hid => ?_⟩
          · exact Rep.congr _ _ (fun id hid => g1.fur.loc id (h4 id hid).2) h2
          · rw [hos]
            exact (h3.fur g1.fur (Nat.le_refl _)).append g3
          · have hid : id ∈ (r.inj x1 j).1.ids ++ V.ids.go (rs.inj xs (j + (r.inj x1 j).2.length)).1 := hid
            simp only [List.mem_append] at hid
            rw [hlen]
            rcases hid with hid | hid
            · have := h4 id hid; omega
            · have := g4 id hid; omega
mutual
theorem RT.out {ob : Ob} (hob : ∀ id o, ob id = some o → ObRep w0 R w loc γ id o) : ∀ (r : RT), OutR w0 R w1 R1 w loc γ ob r
  | .int k => out_int k
  | .bool => out_bool
  | .str => out_str
  | .own e => out_own hob e
  | .ownF e => out_ownF hob e
  | .agg rs => out_agg (RTs.out hob rs)
  | .tup rs => out_tup (RTs.out hob rs)
theorem RTs.out {ob : Ob} (hob : ∀ id o, ob id = some o → ObRep w0 R w loc γ id o) : ∀ (rs : RTs), OutRs w0 R w1 R1 w loc γ ob rs
  | .nil => outs_nil
  | .one r => outs_one (RT.out hob r)
  | .cons r rs => outs_cons (RT.out hob r) (RTs.out hob rs)
end
end
end Go.Eng
