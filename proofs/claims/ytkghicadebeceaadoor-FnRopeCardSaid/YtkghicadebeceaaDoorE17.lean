/- What a function hands back. -/
import Derived.Test.YtkghicadebeceaaDoorE16
namespace Go.Eng
set_option linter.unusedSectionVars false
variable [Glb]
open Go.RowKit
set_option linter.unusedSimpArgs false
set_option linter.unusedVariables false

section
variable {w0 w1 w w' : World} {R R1 L : Nat → Prop} {N : Fx} {st : St} {a : Act} {loc loc1 loc' : Nat → Loc} {γ γ1 γ' : Nat → Option Nat}
mutual
theorem Rep.congr : ∀ (v : V) (c : Value), (∀ id, id ∈ v.ids → loc' id = loc id) → Rep w0 R loc v c → Rep w0 R loc' v c
  | .un, _, _, _ => trivial
  | .int _ _, _, _, h => h
  | .bool _, _, _, h => h
  | .str _, _, _, h => h
  | .nil, _, _, h => h
  | .pnil, _, _, h => h
  | .ro _ _, _, _, h => h
  | .rn _ _, _, _, h => h
  | .rc _ _ _, _, _, h => h
  | .roel _ _ _, _, _, h => h
  | .cst _, _, _, h => h
  | .own id, c, hl, h => by simp only [Rep, hl id (by simp [V.ids])]; exact h
  | .sub id a b, c, hl, h => by simp only [Rep, hl id (by simp [V.ids])]; exact h
  | .el id a b, c, hl, h => by simp only [Rep, hl id (by simp [V.ids])]; exact h
  | .box id b, c, hl, h => by simp only [Rep, hl id (by simp [V.ids])]; exact h
  | .agg vs, _, hl, ⟨cs, hc, h⟩ => ⟨cs, hc, RepL.congr vs cs.toList (fun id hid => hl id (by simpa [V.ids] using hid)) h⟩
  | .tup vs, _, hl, ⟨cs, hc, h⟩ => ⟨cs, hc, RepL.congr vs cs.toList (fun id hid => hl id (by simpa [V.ids] using hid)) h⟩
  | .fn _ a b, _, hl, ⟨x, y, hc, h, h'⟩ => ⟨x, y, hc, RepL.congr a x.toList (fun id hid => hl id (by simp [V.ids, hid])) h, RepL.congr b y.toList (fun id hid => hl id (by simp [V.ids, hid])) h'⟩
theorem RepL.congr : ∀ (vs : List V) (cs : List Value), (∀ id, id ∈ V.ids.go vs → loc' id = loc id) → RepL w0 R loc vs cs → RepL w0 R loc' vs cs
  | [], [], _, _ => trivial
  | v :: vs, c :: cs, hl, h => ⟨Rep.congr v c (fun id hid => hl id (by simp [V.ids.go, hid])) h.1, RepL.congr vs cs (fun id hid => hl id (by simp [V.ids.go, hid])) h.2⟩
  | [], _ :: _, _, h => h.elim
  | _ :: _, [], _, h => h.elim
end
/-- the colours that are laid come of objects that are used -/
noncomputable def Inv (γ : Nat → Option Nat) (u : List Nat) (γ1 : Nat → Option Nat) : Prop := ∀ b k, γ1 b = some k → ∃ id, id ∈ u ∧ γ b = some id
/-- a further state of the new numbers -/
structure Fur (n : Nat) (loc1 : Nat → Loc) (γ1 : Nat → Option Nat) (loc2 : Nat → Loc) (γ2 : Nat → Option Nat) : Prop where
  loc : ∀ k, k < n → loc2 k = loc1 k
  col : ∀ b k, γ1 b = some k → γ2 b = some k
theorem Fur.refl (n : Nat) (loc1 : Nat → Loc) (γ1 : Nat → Option Nat) : Fur n loc1 γ1 loc1 γ1 := ⟨fun _ _ => rfl, fun _ _ h => h⟩
theorem Fur.trans {n m : Nat} {loc1 loc2 loc3 : Nat → Loc} {γ1 γ2 γ3 : Nat → Option Nat} (h : Fur n loc1 γ1 loc2 γ2) (h' : Fur m loc2 γ2 loc3 γ3) (hnm : n ≤ m) : Fur n loc1 γ1 loc3 γ3 :=
  ⟨fun k hk => (h'.loc k (by omega)).trans (h.loc k hk), fun b k hb => h'.col b k (h.col b k hb)⟩
theorem ObRep.row_fur {n k : Nat} {loc2 : Nat → Loc} {γ2 : Nat → Option Nat} (hf : Fur n loc1 γ1 loc2 γ2) (hk : k < n) {nl : NI} {e : CTs} {xs : List e.D} (h : ObRep w0 R w loc1 γ1 k (.row nl e xs)) : ObRep w0 R w loc2 γ2 k (.row nl e xs) := by
  obtain ⟨h1, h2, h3, h4, h5, h6⟩ := h
  simp only [ObRep, hf.loc k hk]
  exact ⟨h1, h2, h3, h4.imp (fun b hb => ⟨hf.col b k hb, rfl⟩) (fun _ _ h => h), h5, h6⟩
noncomputable def obIdsO : O → List Nat
  | .box cs => V.ids.go cs
  | _ => []
theorem ObRep.fur {n k : Nat} {o : O} {loc2 : Nat → Loc} {γ2 : Nat → Option Nat} (hf : Fur n loc1 γ1 loc2 γ2) (hk : k < n) (hi : ∀ id, id ∈ obIdsO o → id < n) (h : ObRep w0 R w loc1 γ1 k o) : ObRep w0 R w loc2 γ2 k o := by
  cases o with
  | row nl e xs => exact h.row_fur hf hk
  | box cs =>
    obtain ⟨b, vals, ty, fz, h1, h2, h3, h4, h5⟩ := h
    refine ⟨b, vals, ty, fz, by rw [hf.loc k hk]; exact h1, hf.col b k h2, h3, ?_, h5⟩
    exact RepL.congr _ _ (fun id hid => hf.loc id (hi id hid)) h4
  | bld s =>
    obtain ⟨b, p, v, h1, h2, h3, h4⟩ := h
    exact ⟨b, p, v, by rw [hf.loc k hk]; exact h1, hf.col b k h2, fun g hg => hf.col g k (h3 g hg), h4⟩
theorem ObRep.unk {k : Nat} {nl : NI} {e : CTs} {xs : List e.D} (h : ObRep w0 R w loc γ k (.row nl e xs)) : ObRep w0 R w loc γ k (.row .unk e xs) := by
  obtain ⟨h1, h2, h3, h4, h5, h6⟩ := h
  exact ⟨h1, h2, h3, h4, h5, trivial⟩
/-- a row under a new number -/
theorem rowOf_ok {ob : Ob} {e : CTs} {u u' : List Nat} {v : V} {c : Value} {xs : List e.D} (n : Nat) (hob : ∀ id o, ob id = some o → ObRep w0 R w loc γ id o) (h : rowOf ob e u v = some (xs, u')) (hr : Rep w0 R loc v c) (hi : Inv γ u γ1) :
    ∃ l γ2, Rep w1 R1 (fun k => if k = n then l else loc1 k) (.own n) c ∧ ObRep w1 R1 w (fun k => if k = n then l else loc1 k) γ2 n (.row (niOf ob v) e xs) ∧ Inv γ u' γ2 ∧ (∀ b k, γ1 b = some k → γ2 b = some k) ∧
      (∀ b k, γ2 b = some k → γ1 b = some k ∨ (k = n ∧ ∃ id, id ∉ u ∧ id ∈ u' ∧ γ b = some id)) := by
  unfold rowOf at h
  split at h
  · cases he : e.flat with
    | false => rw [he] at h; cases h
    | true =>
      rw [he] at h
      simp only [cond_true, Option.some.injEq, Prod.mk.injEq] at h
      obtain ⟨rfl, rfl⟩ := h
      obtain rfl := hr
      refine ⟨{ a := none, len := 0, cap := 0, sz := e.size }, γ1, by simp [Rep], ?_, hi, fun _ _ h => h, fun _ _ h => .inl h⟩
      simp only [ObRep, if_true]
      exact ⟨he, trivial, rfl, ⟨by simp, fun _ => rfl, (fun ad h => by cases h)⟩, (fun ad cs ty fz h => by cases h), rfl⟩
  · rename_i id
    cases hu : u.contains id with
    | true => rw [hu] at h; cases h
    | false =>
      rw [hu] at h
      simp only [cond_false] at h
      split at h
      · rename_i nl e' ys ho
        split at h
        · rename_i he
          obtain rfl := CTs.eq_of_same _ _ he
          simp only [Option.some.injEq, Prod.mk.injEq] at h
          obtain ⟨h1, rfl⟩ := h
          have h1 : ys = xs := h1
          subst h1
          obtain ⟨k1, k2, k3, k4, k5, k6⟩ := hob id _ ho
          have hnu : id ∉ u := by simpa using hu
          refine ⟨loc id, fun b => if γ b = some id then some n else γ1 b, ?_, ?_, fun b k hb => ?_, fun b k hb => ?_, fun b k hb => ?_⟩
          · simp only [Rep, if_true]; exact hr
          · simp only [ObRep, if_true]
            exact ⟨k1, k2, k3, k4.imp (fun b hb => ⟨by rw [if_pos hb], rfl⟩) (fun _ _ h => CTs.Cells.flat _ _ _ k1 h), k5, by simp only [niOf, ho]; exact k6⟩
          · dsimp only at hb
            split at hb
            · rename_i hγ; exact ⟨id, List.mem_cons_self, hγ⟩
            · obtain ⟨id', h1, h2⟩ := hi b k hb
              exact ⟨id', List.mem_cons_of_mem _ h1, h2⟩
          · obtain ⟨id', h1, h2⟩ := hi b k hb
            dsimp only
            rw [if_neg (fun hγ => by rw [h2] at hγ; obtain rfl := Option.some.inj hγ; exact hnu h1)]
            exact hb
          · dsimp only at hb
            split at hb
            · rename_i hγ; exact .inr ⟨(Option.some.inj hb).symm, id, hnu, List.mem_cons_self, hγ⟩
            · exact .inl hb
        · cases h
      · cases h
  · rename_i id hi'
    cases hu : u.contains id with
    | true => rw [hu] at h; cases h
    | false =>
      rw [hu] at h
      simp only [cond_false] at h
      split at h
      · rename_i nl e' ys ho
        split at h
        · rename_i he
          obtain rfl := CTs.eq_of_same _ _ he
          simp only [Option.some.injEq, Prod.mk.injEq] at h
          obtain ⟨h1, rfl⟩ := h
          have h1 : takeI ys hi' = xs := h1
          subst h1
          obtain ⟨k1, k2, k3, k4, k5, k6⟩ := hob id _ ho
          obtain ⟨r0, r1, r2, hr⟩ := hr
          have hnu : id ∉ u := by simpa using hu
          have r1 : (0 : Int) ≤ hi' := r1
          rw [k3] at r2
          have hsub := k4.sub (l := 0) (u := hi') (Int.le_refl _) r1 r2
          have hl : (takeI ys hi').length = hi'.toNat := by simp [takeI]; omega
          have ha : (if (loc id).cap = (0 : Int).toNat then (loc id).a else (loc id).a.map (·.add ((0 : Int).toNat * e'.size))) = (loc id).a := by
            split
            · rfl
            · cases (loc id).a with
              | none => rfl
              | some ad => simp [Addr.add]
          rw [ha] at hsub
          have hsub : RowAt w (fun b => γ b = some id) e'.size (CTs.Cells w0 R e') (loc id).a (loc id).cap (takeI ys hi') := by
            have e1 : dropI (takeI ys hi') 0 = takeI ys hi' := by simp [dropI]
            rw [e1] at hsub
            simpa using hsub
          have ha2 : (if (loc id).cap = (0 : Int).toNat then (loc id).a else (loc id).a.map (·.add ((0 : Int).toNat * (loc id).sz))) = (loc id).a := by rw [k2]; exact ha
          refine ⟨{ a := (loc id).a, len := hi'.toNat, cap := (loc id).cap, sz := (loc id).sz }, fun b => if γ b = some id then some n else γ1 b, ?_, ?_, fun b k hb => ?_, fun b k hb => ?_, fun b k hb => ?_⟩
          · simp only [Rep, if_true]
            rw [hr]
            have := ha2
            simp only [Int.toNat_zero, Int.sub_zero, Nat.sub_zero] at this ⊢
            have e0 : (Int.ofNat 0) = (0 : Int) := rfl
            simp only [e0, Int.toNat_zero, Int.sub_zero, Nat.sub_zero, this]
          · simp only [ObRep, if_true]
            exact ⟨k1, k2, hl.symm, hsub.imp (fun b hb => ⟨by rw [if_pos hb], rfl⟩) (fun _ _ h => CTs.Cells.flat _ _ _ k1 h), k5, trivial⟩
          · dsimp only at hb
            split at hb
            · rename_i hγ; exact ⟨id, List.mem_cons_self, hγ⟩
            · obtain ⟨id', h1, h2⟩ := hi b k hb
              exact ⟨id', List.mem_cons_of_mem _ h1, h2⟩
          · obtain ⟨id', h1, h2⟩ := hi b k hb
            dsimp only
            rw [if_neg (fun hγ => by rw [h2] at hγ; obtain rfl := Option.some.inj hγ; exact hnu h1)]
            exact hb
          · dsimp only at hb
            split at hb
            · rename_i hγ; exact .inr ⟨(Option.some.inj hb).symm, id, hnu, List.mem_cons_self, hγ⟩
            · exact .inl hb
        · cases h
      · cases h
  · cases h
/-- the new objects, from number j on -/
noncomputable def News (w0 : World) (R : Nat → Prop) (w : World) (loc : Nat → Loc) (γ : Nat → Option Nat) (j : Nat) (os : List O) : Prop :=
  ∀ k o, os[k]? = some o → obIdsO o = [] ∧ ObRep w0 R w loc γ (j + k) o
theorem News.fur {n j : Nat} {os : List O} {loc2 : Nat → Loc} {γ2 : Nat → Option Nat} (hf : Fur n loc1 γ1 loc2 γ2) (hn : j + os.length ≤ n) (h : News w0 R w loc1 γ1 j os) : News w0 R w loc2 γ2 j os := by
  intro k o hk
  obtain ⟨h1, h2⟩ := h k o hk
  have := (List.getElem?_eq_some_iff.1 hk).1
  exact ⟨h1, h2.fur hf (by omega) (fun id hid => by rw [h1] at hid; cases hid)⟩
theorem News.nil {j : Nat} : News w0 R w loc1 γ1 j [] := fun k o h => by simp at h
theorem News.append {j : Nat} {os os' : List O} (h : News w0 R w loc1 γ1 j os) (h' : News w0 R w loc1 γ1 (j + os.length) os') : News w0 R w loc1 γ1 j (os ++ os') := by
  intro k o hk
  rw [List.getElem?_append] at hk
  split at hk
  · exact h k o hk
  · rename_i hge
    obtain ⟨h1, h2⟩ := h' _ o hk
    rw [show j + os.length + (k - os.length) = j + k by omega] at h2
    exact ⟨h1, h2⟩
structure Got (γ : Nat → Option Nat) (u' : List Nat) (j n : Nat) (loc1 : Nat → Loc) (γ1 : Nat → Option Nat) (loc2 : Nat → Loc) (γ2 : Nat → Option Nat) : Prop where
  fur : Fur j loc1 γ1 loc2 γ2
  inv : Inv γ u' γ2
  lt : ∀ b k, γ2 b = some k → γ1 b = some k ∨ (j ≤ k ∧ k < n)
theorem proj_int (ob : Ob) (k : IntKind) (u : List Nat) (v : V) : RT.proj ob (.int k) u v = match v with
    | .int k' n => if k = k' then some (n, u) else none
    | _ => none := rfl
theorem proj_bool (ob : Ob) (u : List Nat) (v : V) : RT.proj ob .bool u v = match v with
    | .bool b => some (b, u)
    | _ => none := rfl
theorem proj_str (ob : Ob) (u : List Nat) (v : V) : RT.proj ob .str u v = match v with
    | .str s => some (s, u)
    | _ => none := rfl
theorem proj_agg (ob : Ob) (rs : RTs) (u : List Nat) (v : V) : RT.proj ob (.agg rs) u v = match v with
    | .agg vs => RTs.proj ob rs u vs
    | _ => none := rfl
theorem proj_tup (ob : Ob) (rs : RTs) (u : List Nat) (v : V) : RT.proj ob (.tup rs) u v = match v with
    | .tup vs => RTs.proj ob rs u vs
    | _ => none := rfl
theorem projs_nil (ob : Ob) (u : List Nat) (vs : List V) : RTs.proj ob .nil u vs = match vs with
    | [] => some ((), u)
    | _ => none := rfl
theorem projs_one (ob : Ob) (r : RT) (u : List Nat) (vs : List V) : RTs.proj ob (.one r) u vs = match vs with
    | [v] => RT.proj ob r u v
    | _ => none := rfl
theorem projs_cons (ob : Ob) (r : RT) (rs : RTs) (u : List Nat) (vs : List V) : RTs.proj ob (.cons r rs) u vs = match vs with
    | v :: vs => match RT.proj ob r u v with
      | some (x, u1) => match RTs.proj ob rs u1 vs with
        | some (xs, u2) => some ((x, xs), u2)
        | none => none
      | none => none
    | [] => none := rfl
/-- what is to be shown of a kind of answers -/
noncomputable def OutR (w0 : World) (R : Nat → Prop) (w1 : World) (R1 : Nat → Prop) (w : World) (loc : Nat → Loc) (γ : Nat → Option Nat) (ob : Ob) (r : RT) : Prop :=
  ∀ (u u' : List Nat) (v : V) (x : r.T) (c : Value) (j : Nat) (loc1 : Nat → Loc) (γ1 : Nat → Option Nat), RT.proj ob r u v = some (x, u') → Rep w0 R loc v c → Inv γ u γ1 → (∀ b k, γ1 b = some k → k < j) →
    ∃ loc2 γ2, Got γ u' j (j + (r.inj x j).2.length) loc1 γ1 loc2 γ2 ∧ Rep w1 R1 loc2 (r.inj x j).1 c ∧ News w1 R1 w loc2 γ2 j (r.inj x j).2 ∧ ∀ id, id ∈ (r.inj x j).1.ids → j ≤ id ∧ id < j + (r.inj x j).2.length
noncomputable def OutRs (w0 : World) (R : Nat → Prop) (w1 : World) (R1 : Nat → Prop) (w : World) (loc : Nat → Loc) (γ : Nat → Option Nat) (ob : Ob) (rs : RTs) : Prop :=
  ∀ (u u' : List Nat) (vs : List V) (x : rs.T) (cs : List Value) (j : Nat) (loc1 : Nat → Loc) (γ1 : Nat → Option Nat), RTs.proj ob rs u vs = some (x, u') → RepL w0 R loc vs cs → Inv γ u γ1 → (∀ b k, γ1 b = some k → k < j) →
    ∃ loc2 γ2, Got γ u' j (j + (rs.inj x j).2.length) loc1 γ1 loc2 γ2 ∧ RepL w1 R1 loc2 (rs.inj x j).1 cs ∧ News w1 R1 w loc2 γ2 j (rs.inj x j).2 ∧ ∀ id, id ∈ V.ids.go (rs.inj x j).1 → j ≤ id ∧ id < j + (rs.inj x j).2.length
theorem out_int {ob : Ob} (k : IntKind) : OutR w0 R w1 R1 w loc γ ob (.int k) := by
  intro u u' v x c j loc1 γ1 h hr hi hlt
  rw [proj_int] at h
  split at h
  · split at h
    · rename_i hk
      subst hk
      simp only [Option.some.injEq, Prod.mk.injEq] at h
      obtain ⟨rfl, rfl⟩ := h
      exact ⟨loc1, γ1, ⟨Fur.refl _ _ _, hi, fun _ _ h => .inl h⟩, hr, News.nil, fun id hid => absurd hid (by simp [RT.inj, V.ids])⟩
    · cases h
  · cases h
theorem out_bool {ob : Ob} : OutR w0 R w1 R1 w loc γ ob .bool := by
  intro u u' v x c j loc1 γ1 h hr hi hlt
  rw [proj_bool] at h
  split at h
  · simp only [Option.some.injEq, Prod.mk.injEq] at h
    obtain ⟨rfl, rfl⟩ := h
    exact ⟨loc1, γ1, ⟨Fur.refl _ _ _, hi, fun _ _ h => .inl h⟩, hr, News.nil, fun id hid => absurd hid (by simp [RT.inj, V.ids])⟩
  · cases h
theorem out_str {ob : Ob} : OutR w0 R w1 R1 w loc γ ob .str := by
  intro u u' v x c j loc1 γ1 h hr hi hlt
  rw [proj_str] at h
  split at h
  · simp only [Option.some.injEq, Prod.mk.injEq] at h
    obtain ⟨rfl, rfl⟩ := h
    exact ⟨loc1, γ1, ⟨Fur.refl _ _ _, hi, fun _ _ h => .inl h⟩, hr, News.nil, fun id hid => absurd hid (by simp [RT.inj, V.ids])⟩
  · cases h
theorem out_own {ob : Ob} (hob : ∀ id o, ob id = some o → ObRep w0 R w loc γ id o) (e : CTs) : OutR w0 R w1 R1 w loc γ ob (.own e) := by
  intro u u' v x c j loc1 γ1 h hr hi hlt
  obtain ⟨l, γ2, h1, h2, h3, h4, h5⟩ := rowOf_ok (w1 := w1) (R1 := R1) (loc1 := loc1) j hob (show rowOf ob e u v = some (x, u') from h) hr hi
  refine ⟨fun k => if k = j then l else loc1 k, γ2, ⟨⟨fun k hk => by rw [if_neg (by omega)], h4⟩, h3, fun b k hb => ?_⟩, h1, fun k o hk => ?_, fun id hid => ?_⟩
  · show γ1 b = some k ∨ (j ≤ k ∧ k < j + 1)
    rcases h5 b k hb with h | ⟨h, _⟩
    · exact .inl h
    · exact .inr (by omega)
  · have hk : [O.row .unk e x][k]? = some o := hk
    cases k with
    | zero =>
      simp only [List.getElem?_cons_zero, Option.some.injEq] at hk
      subst hk
      exact ⟨rfl, h2.unk⟩
    | succ k => simp at hk
  · have hid : id ∈ [j] := hid
    show j ≤ id ∧ id < j + 1
    simp only [List.mem_singleton] at hid
    omega
theorem out_ownF {ob : Ob} (hob : ∀ id o, ob id = some o → ObRep w0 R w loc γ id o) (e : CTs) : OutR w0 R w1 R1 w loc γ ob (.ownF e) := by
  intro u u' v x c j loc1 γ1 h hr hi hlt
  have h : rowFlag ob e u v = some (x, u') := h
  unfold rowFlag at h
  split at h
  case h_2 => cases h
  rename_i xs u2 hrow
  split at h
  case h_2 => cases h
  rename_i b hni
  injection h with h
  injection h with hx1 hx2
  subst hx1 hx2
  obtain ⟨l, γ2, h1, h2, h3, h4, h5⟩ := rowOf_ok (w1 := w1) (R1 := R1) (loc1 := loc1) j hob hrow hr hi
  rw [hni] at h2
  refine ⟨fun k => if k = j then l else loc1 k, γ2, ⟨⟨fun k hk => by rw [if_neg (by omega)], h4⟩, h3, fun b k hb => ?_⟩, h1, fun k o hk => ?_, fun id hid => ?_⟩
  · show γ1 b = some k ∨ (j ≤ k ∧ k < j + 1)
    rcases h5 b k hb with h | ⟨h, _⟩
    · exact .inl h
    · exact .inr (by omega)
  · have hk : [O.row (.is b) e xs][k]? = some o := hk
    cases k with
    | zero =>
      simp only [List.getElem?_cons_zero, Option.some.injEq] at hk
      subst hk
      exact ⟨rfl, h2⟩
    | succ k => simp at hk
  · have hid : id ∈ [j] := hid
    show j ≤ id ∧ id < j + 1
    simp only [List.mem_singleton] at hid
    omega
/-- a slice that the run was begun with, in another frame -/
theorem cell_rc (hg : ∀ b, Glb.gb b → R1 b ∧ w1.heap[b]? = w0.heap[b]?) {i : Nat} {e : CTs} {xs : List e.D} {c : Value} (h : Rep w0 R loc (.rc i e xs) c) : Rep w1 R1 loc1 (.rc i e xs) c := by
  obtain ⟨h1, h2, a, cap, h3, h4, h5, h6⟩ := h
  refine ⟨h1, h2, a, cap, h3, h4, h5, fun hc => ?_⟩
  have h7 := h6 hc
  refine ⟨h7.1, h7.2.1, fun ad ha => ?_⟩
  subst ha
  obtain ⟨k1, k2, cs, ty, fz, k3, k4, k5⟩ := h7.2.2 ad rfl
  have hb := hg ad.block (Glb.argb i ad _ _ (h1.symm.trans h3) hc)
  exact ⟨k1, hb.1, cs, ty, fz, by rw [hb.2]; exact k3, k4, fun q x hx => CTs.Cells.flat _ _ _ h2 (k5 q x hx)⟩
theorem proj_rc (ob : Ob) (i : Nat) (e : CTs) (u : List Nat) (v : V) : RT.proj ob (.rc i e) u v = match v with
    | .rc i' e' xs => if i = i' then (if h : CTs.same e' e = true then some (CTs.cast h xs, u) else none) else none
    | _ => none := rfl
theorem proj_ptr (ob : Ob) (rs : RTs) (u : List Nat) (v : V) : RT.proj ob (.ptr rs) u v = match v with
    | .box id 0 => bif u.contains id || !rs.plain then none else match ob id with
      | some (.box cs) => RTs.proj ob rs (id :: u) cs
      | _ => none
    | _ => none := rfl
theorem out_rc {ob : Ob} (hg : ∀ b, Glb.gb b → R1 b ∧ w1.heap[b]? = w0.heap[b]?) (i : Nat) (e : CTs) : OutR w0 R w1 R1 w loc γ ob (.rc i e) := by
  intro u u' v x c j loc1 γ1 h hr hi hlt
  rw [proj_rc] at h
  split at h
  · rename_i i' e' xs
    split at h
    · rename_i hii
      subst hii
      split at h
      · rename_i he
        obtain rfl := CTs.eq_of_same _ _ he
        have h := Option.some.inj h
        obtain rfl : u = u' := congrArg Prod.snd h
        obtain rfl : xs = x := congrArg Prod.fst h
        exact ⟨loc1, γ1, ⟨Fur.refl _ _ _, hi, fun _ _ h => .inl h⟩, cell_rc hg hr, News.nil, fun id hid => absurd hid (by simp [RT.inj, V.ids])⟩
      · cases h
    · cases h
  · cases h
mutual
theorem RT.plain_inj : ∀ (r : RT) (x : r.T) (j : Nat), r.plain = true → (r.inj x j).2 = [] ∧ (r.inj x j).1.ids = []
  | .int _, _, _, _ => ⟨rfl, rfl⟩
  | .bool, _, _, _ => ⟨rfl, rfl⟩
  | .str, _, _, _ => ⟨rfl, rfl⟩
  | .rc _ _, _, _, _ => ⟨rfl, rfl⟩
  | .own _, _, _, h => by simp [RT.plain] at h
  | .ownF _, _, _, h => by simp [RT.plain] at h
  | .ptr _, _, _, h => by simp [RT.plain] at h
  | .agg _, _, _, h => by simp [RT.plain] at h
  | .tup _, _, _, h => by simp [RT.plain] at h
theorem RTs.plain_inj : ∀ (rs : RTs) (x : rs.T) (j : Nat), rs.plain = true → (rs.inj x j).2 = [] ∧ V.ids.go (rs.inj x j).1 = []
  | .nil, _, _, _ => ⟨rfl, rfl⟩
  | .one r, x, j, h => by
    obtain ⟨h1, h2⟩ := RT.plain_inj r x j (by simpa [RTs.plain] using h)
    refine ⟨h1, ?_⟩
    show (r.inj x j).1.ids ++ [] = []
    rw [h2]
    rfl
  | .cons r rs, x, j, h => by
    simp only [RTs.plain, Bool.and_eq_true] at h
    obtain ⟨h1, h2⟩ := RT.plain_inj r x.1 j h.1
    obtain ⟨h3, h4⟩ := RTs.plain_inj rs x.2 (j + (r.inj x.1 j).2.length) h.2
    refine ⟨?_, ?_⟩
    · show (r.inj x.1 j).2 ++ (rs.inj x.2 (j + (r.inj x.1 j).2.length)).2 = []
      rw [h1, h1] at *
      simpa using h3
    · show (r.inj x.1 j).1.ids ++ V.ids.go (rs.inj x.2 (j + (r.inj x.1 j).2.length)).1 = []
      rw [h2, h4]
      rfl
end
mutual
theorem RT.plain_same : ∀ (r : RT) (x : r.T) (j j' : Nat), r.plain = true → (r.inj x j).1 = (r.inj x j').1
  | .int _, _, _, _, _ => rfl
  | .bool, _, _, _, _ => rfl
  | .str, _, _, _, _ => rfl
  | .rc _ _, _, _, _, _ => rfl
  | .own _, _, _, _, h => by simp [RT.plain] at h
  | .ownF _, _, _, _, h => by simp [RT.plain] at h
  | .ptr _, _, _, _, h => by simp [RT.plain] at h
  | .agg _, _, _, _, h => by simp [RT.plain] at h
  | .tup _, _, _, _, h => by simp [RT.plain] at h
theorem RTs.plain_same : ∀ (rs : RTs) (x : rs.T) (j j' : Nat), rs.plain = true → (rs.inj x j).1 = (rs.inj x j').1
  | .nil, _, _, _, _ => rfl
  | .one r, x, j, j', h => by
    show [(r.inj x j).1] = [(r.inj x j').1]
    rw [RT.plain_same r x j j' (by simpa [RTs.plain] using h)]
  | .cons r rs, x, j, j', h => by
    simp only [RTs.plain, Bool.and_eq_true] at h
    show (r.inj x.1 j).1 :: (rs.inj x.2 (j + (r.inj x.1 j).2.length)).1 = (r.inj x.1 j').1 :: (rs.inj x.2 (j' + (r.inj x.1 j').2.length)).1
    rw [RT.plain_same r x.1 j j' h.1, RTs.plain_same rs x.2 _ (j' + (r.inj x.1 j').2.length) h.2]
end
theorem out_ptr {ob : Ob} (hob : ∀ id o, ob id = some o → ObRep w0 R w loc γ id o) {rs : RTs} (hrs : OutRs w0 R w1 R1 w loc γ ob rs) : OutR w0 R w1 R1 w loc γ ob (.ptr rs) := by
  intro u u' v x c j loc1 γ1 h hr hi hlt
  rw [proj_ptr] at h
  split at h
  case h_2 => cases h
  rename_i id
  cases hu : (u.contains id || !rs.plain) with
  | true => rw [hu] at h; cases h
  | false =>
    rw [hu] at h
    simp only [Bool.or_eq_false_iff, Bool.not_eq_false', cond_false] at hu h
    obtain ⟨hnu, hpl⟩ := hu
    have hnu : id ∉ u := by simpa using hnu
    obtain ⟨cs, ho, h⟩ : ∃ cs, ob id = some (.box cs) ∧ RTs.proj ob rs (id :: u) cs = some (x, u') := by
      cases ho : ob id with
      | none => rw [ho] at h; cases h
      | some o =>
        rw [ho] at h
        cases o with
        | box cs => exact ⟨cs, rfl, h⟩
        | row => cases h
        | bld => cases h
    obtain ⟨b, vals, ty, fz, k1, k2, k3, k4, k5⟩ := hob id _ ho
    obtain ⟨b', k6, rfl⟩ := hr
    rw [k1] at k6
    simp only [Option.some.injEq, Addr.mk.injEq, and_true] at k6
    subst k6
    obtain ⟨p1, p2⟩ := RTs.plain_inj rs x j hpl
    have hi1 : Inv γ (id :: u) (fun b => if γ b = some id then some j else γ1 b) := fun b' k hb => by
      have hb : (if γ b' = some id then some j else γ1 b') = some k := hb
      split at hb
      · rename_i hγ; exact ⟨id, List.mem_cons_self, hγ⟩
      · obtain ⟨id', h1, h2⟩ := hi b' k hb
        exact ⟨id', List.mem_cons_of_mem _ h1, h2⟩
    have hc1 : ∀ b' k, γ1 b' = some k → (fun b => if γ b = some id then some j else γ1 b) b' = some k := fun b' k hb => by
      obtain ⟨id', h1, h2⟩ := hi b' k hb
      dsimp only
      rw [if_neg (fun hγ => by rw [h2] at hγ; obtain rfl := Option.some.inj hγ; exact hnu h1)]
      exact hb
    obtain ⟨loc2, γ2, g1, g2, g3, g4⟩ := hrs (id :: u) u' cs x vals.toList (j + 1) (fun k => if k = j then loc id else loc1 k) _ h k4 hi1 (fun b' k hb => by
      have hb : (if γ b' = some id then some j else γ1 b') = some k := hb
      split at hb
      · have := Option.some.inj hb; omega
      · have := hlt b' k hb; omega)
    obtain ⟨p3, p4⟩ := RTs.plain_inj rs x (j + 1) hpl
    have hsame : (rs.inj x (j + 1)).1 = (rs.inj x j).1 := by rw [RTs.plain_same rs x (j + 1) j hpl]
    rw [p3] at g1
    simp only [List.length_nil, Nat.add_zero] at g1
    have hl2 : loc2 j = loc id := by rw [g1.fur.loc j (by omega)]; simp
    refine ⟨loc2, γ2, ⟨⟨fun k hk => by rw [g1.fur.loc k (by omega)]; simp; omega, fun b' k hb => g1.fur.col b' k (hc1 b' k hb)⟩, g1.inv, fun b' k hb => ?_⟩, ⟨b, by rw [hl2]; exact k1, rfl⟩, fun k o hk => ?_, fun q hq => ?_⟩
    · show γ1 b' = some k ∨ (j ≤ k ∧ k < j + 1)
      rcases g1.lt b' k hb with hb | hb
      · have hb : (if γ b' = some id then some j else γ1 b') = some k := hb
        split at hb
        · have := Option.some.inj hb; exact .inr (by omega)
        · exact .inl hb
      · omega
    · have hk : [O.box (rs.inj x j).1][k]? = some o := hk
      cases k with
      | zero =>
        simp only [List.getElem?_cons_zero, Option.some.injEq] at hk
        subst hk
        refine ⟨p2, b, vals, ty, fz, by rw [Nat.add_zero, hl2]; exact k1, g1.fur.col b j (by simp [k2]), k3, ?_, k5⟩
        rw [← hsame]
        exact RepL.congr _ _ (fun _ _ => rfl) g2
      | succ k => simp at hk
    · have hq : q ∈ [j] := hq
      show j ≤ q ∧ q < j + 1
      simp only [List.mem_singleton] at hq
      omega
theorem out_agg {ob : Ob} {rs : RTs} (hrs : OutRs w0 R w1 R1 w loc γ ob rs) : OutR w0 R w1 R1 w loc γ ob (.agg rs) := by
  intro u u' v x c j loc1 γ1 h hr hi hlt
  cases v with
  | agg vs =>
    obtain ⟨cs, rfl, hr⟩ := hr
    obtain ⟨loc2, γ2, h1, h2, h3, h4⟩ := hrs u u' vs x cs.toList j loc1 γ1 h hr hi hlt
    exact ⟨loc2, γ2, h1, ⟨cs, rfl, h2⟩, h3, fun id hid => h4 id hid⟩
  | _ => exact absurd (show (none : Option (rs.T × List Nat)) = some (x, u') from h) (by simp)
theorem out_tup {ob : Ob} {rs : RTs} (hrs : OutRs w0 R w1 R1 w loc γ ob rs) : OutR w0 R w1 R1 w loc γ ob (.tup rs) := by
  intro u u' v x c j loc1 γ1 h hr hi hlt
  cases v with
  | tup vs =>
    obtain ⟨cs, rfl, hr⟩ := hr
    obtain ⟨loc2, γ2, h1, h2, h3, h4⟩ := hrs u u' vs x cs.toList j loc1 γ1 h hr hi hlt
    exact ⟨loc2, γ2, h1, ⟨cs, rfl, h2⟩, h3, fun id hid => h4 id hid⟩
  | _ => exact absurd (show (none : Option (rs.T × List Nat)) = some (x, u') from h) (by simp)
theorem outs_nil {ob : Ob} : OutRs w0 R w1 R1 w loc γ ob .nil := by
  intro u u' vs x cs j loc1 γ1 h hr hi hlt
  cases vs with
  | nil =>
    obtain rfl : u = u' := congrArg (Prod.snd (α := RTs.nil.T)) (Option.some.inj h)
    cases cs with
    | nil => exact ⟨loc1, γ1, ⟨Fur.refl _ _ _, hi, fun _ _ h => .inl h⟩, trivial, News.nil, fun id hid => absurd hid (by simp [RTs.inj, V.ids.go])⟩
    | cons c cs => exact hr.elim
  | cons v vs => exact absurd (show (none : Option (RTs.nil.T × List Nat)) = some (x, u') from h) (by simp)
theorem outs_one {ob : Ob} {r : RT} (hr' : OutR w0 R w1 R1 w loc γ ob r) : OutRs w0 R w1 R1 w loc γ ob (.one r) := by
  intro u u' vs x cs j loc1 γ1 h hr hi hlt
  cases vs with
  | nil => exact absurd (show (none : Option (r.T × List Nat)) = some (x, u') from h) (by simp)
  | cons v vs =>
    cases vs with
    | cons _ _ => exact absurd (show (none : Option (r.T × List Nat)) = some (x, u') from h) (by simp)
    | nil =>
      cases cs with
      | nil => exact hr.elim
      | cons c cs =>
        cases cs with
        | cons _ _ => exact hr.2.elim
        | nil =>
          obtain ⟨loc2, γ2, h1, h2, h3, h4⟩ := hr' u u' v x c j loc1 γ1 h hr.1 hi hlt
          exact ⟨loc2, γ2, h1, ⟨h2, trivial⟩, h3, fun id hid => h4 id (by
            have hid : id ∈ (r.inj x j).1.ids ++ [] := hid
            simpa using hid)⟩
theorem outs_cons {ob : Ob} {r : RT} {rs : RTs} (hr' : OutR w0 R w1 R1 w loc γ ob r) (hrs : OutRs w0 R w1 R1 w loc γ ob rs) : OutRs w0 R w1 R1 w loc γ ob (.cons r rs) := by
  intro u u' vs x cs j loc1 γ1 h hr hi hlt
  cases vs with
  | nil => exact absurd (show (none : Option ((RTs.cons r rs).T × List Nat)) = some (x, u') from h) (by simp)
  | cons v vs =>
    cases cs with
    | nil => exact hr.elim
    | cons c cs =>
      rw [projs_cons] at h
      dsimp only at h
      cases e1 : RT.proj ob r u v with
      | none => rw [e1] at h; cases h
      | some p1 =>
        obtain ⟨x1, u1⟩ := p1
        rw [e1] at h
        dsimp only at h
        cases e2 : RTs.proj ob rs u1 vs with
        | none => rw [e2] at h; cases h
        | some p2 =>
          obtain ⟨xs, u2⟩ := p2
          rw [e2] at h
          simp only [Option.some.injEq, Prod.mk.injEq] at h
          obtain ⟨rfl, rfl⟩ := h
          obtain ⟨loc2, γ2, h1, h2, h3, h4⟩ := hr' u u1 v x1 c j loc1 γ1 e1 hr.1 hi hlt
          obtain ⟨loc3, γ3, g1, g2, g3, g4⟩ := hrs u1 _ vs xs cs (j + (r.inj x1 j).2.length) loc2 γ2 e2 hr.2 h1.inv (fun b k hb => by
            rcases h1.lt b k hb with h | h
            · have := hlt b k h; omega
            · exact h.2)
          have hos : (RTs.inj (.cons r rs) (x1, xs) j).2 = (r.inj x1 j).2 ++ (rs.inj xs (j + (r.inj x1 j).2.length)).2 := rfl
          have hlen : (RTs.inj (.cons r rs) (x1, xs) j).2.length = (r.inj x1 j).2.length + (rs.inj xs (j + (r.inj x1 j).2.length)).2.length := by rw [hos, List.length_append]
          refine ⟨loc3, γ3, ⟨h1.fur.trans g1.fur (by omega), g1.inv, fun b k hb => by
            rw [hlen]
            rcases g1.lt b k hb with h | h
            · rcases h1.lt b k h with h | h
              · exact .inl h
              · exact .inr (by omega)
            · exact .inr (by omega)⟩, ⟨?_, g2⟩, ?_, fun id hid => ?_⟩
          · exact Rep.congr _ _ (fun id hid => g1.fur.loc id (h4 id hid).2) h2
          · rw [hos]
            exact (h3.fur g1.fur (Nat.le_refl _)).append g3
          · have hid : id ∈ (r.inj x1 j).1.ids ++ V.ids.go (rs.inj xs (j + (r.inj x1 j).2.length)).1 := hid
            simp only [List.mem_append] at hid
            rw [hlen]
            rcases hid with hid | hid
            · have := h4 id hid; omega
            · have := g4 id hid; omega
mutual
theorem RT.out {ob : Ob} (hg : ∀ b, Glb.gb b → R1 b ∧ w1.heap[b]? = w0.heap[b]?) (hob : ∀ id o, ob id = some o → ObRep w0 R w loc γ id o) : ∀ (r : RT), OutR w0 R w1 R1 w loc γ ob r
  | .int k => out_int k
  | .bool => out_bool
  | .str => out_str
  | .own e => out_own hob e
  | .ownF e => out_ownF hob e
  | .rc i e => out_rc hg i e
  | .ptr rs => out_ptr hob (RTs.out hg hob rs)
  | .agg rs => out_agg (RTs.out hg hob rs)
  | .tup rs => out_tup (RTs.out hg hob rs)
theorem RTs.out {ob : Ob} (hg : ∀ b, Glb.gb b → R1 b ∧ w1.heap[b]? = w0.heap[b]?) (hob : ∀ id o, ob id = some o → ObRep w0 R w loc γ id o) : ∀ (rs : RTs), OutRs w0 R w1 R1 w loc γ ob rs
  | .nil => outs_nil
  | .one r => outs_one (RT.out hg hob r)
  | .cons r rs => outs_cons (RT.out hg hob r) (RTs.out hg hob rs)
end
end
end Go.Eng
