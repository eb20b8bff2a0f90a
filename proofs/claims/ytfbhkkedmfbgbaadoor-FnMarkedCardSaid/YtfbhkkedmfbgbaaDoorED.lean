/- What a function hands back. What a function leaves: its answer, and what was lent to it. Functions. Calls. Calls of functions that answer as they should. -/
import Derived.Test.YtfbhkkedmfbgbaaDoorEC
namespace Go.Eng
set_option linter.unusedSectionVars false
variable [Glb]
open Go.RowKit
set_option linter.unusedSimpArgs false
set_option linter.unusedVariables false

section
variable {w0 w1 w w' : World} {R R1 L : Nat → Prop} {N : Fx} {st : St} {a : Act} {loc loc1 loc' : Nat → Loc} {γ γ1 γ' : Nat → Option Nat}
mutual
theorem Rep.congr : ∀ (v : V) (c : Value), (∀ id, id ∈ v.ids → loc' id = loc id) → Rep w0 R loc v c → Rep w0 R loc' v c
  | .un, _, _, _ => trivial
  | .int _ _, _, _, h => h
  | .bool _, _, _, h => h
  | .str _, _, _, h => h
  | .nil, _, _, h => h
  | .pnil, _, _, h => h
  | .ro _ _, _, _, h => h
  | .rn _ _, _, _, h => h
  | .rc _ _ _, _, _, h => h
  | .roel _ _ _, _, _, h => h
  | .cst _, _, _, h => h
  | .own id, c, hl, h => by simp only [Rep, hl id (by simp [V.ids])]; exact h
  | .sub id a b, c, hl, h => by simp only [Rep, hl id (by simp [V.ids])]; exact h
  | .el id a b, c, hl, h => by simp only [Rep, hl id (by simp [V.ids])]; exact h
  | .box id b, c, hl, h => by simp only [Rep, hl id (by simp [V.ids])]; exact h
  | .mt id p, c, hl, h => by simp only [Rep, hl id (by simp [V.ids])]; exact h
  | .agg vs, _, hl, ⟨cs, hc, h⟩ => ⟨cs, hc, RepL.congr vs cs.toList (fun id hid => hl id (by simpa [V.ids] using hid)) h⟩
  | .tup vs, _, hl, ⟨cs, hc, h⟩ => ⟨cs, hc, RepL.congr vs cs.toList (fun id hid => hl id (by simpa [V.ids] using hid)) h⟩
  | .fn _ a b, _, hl, ⟨x, y, hc, h, h'⟩ => ⟨x, y, hc, RepL.congr a x.toList (fun id hid => hl id (by simp [V.ids, hid])) h, RepL.congr b y.toList (fun id hid => hl id (by simp [V.ids, hid])) h'⟩
theorem RepL.congr : ∀ (vs : List V) (cs : List Value), (∀ id, id ∈ V.ids.go vs → loc' id = loc id) → RepL w0 R loc vs cs → RepL w0 R loc' vs cs
  | [], [], _, _ => trivial
  | v :: vs, c :: cs, hl, h => ⟨Rep.congr v c (fun id hid => hl id (by simp [V.ids.go, hid])) h.1, RepL.congr vs cs (fun id hid => hl id (by simp [V.ids.go, hid])) h.2⟩
  | [], _ :: _, _, h => h.elim
  | _ :: _, [], _, h => h.elim
end
/-- the colours that are laid come of objects that are used -/
noncomputable def Inv (γ : Nat → Option Nat) (u : List Nat) (γ1 : Nat → Option Nat) : Prop := ∀ b k, γ1 b = some k → ∃ id, id ∈ u ∧ γ b = some id
/-- a further state of the new numbers -/
structure Fur (n : Nat) (loc1 : Nat → Loc) (γ1 : Nat → Option Nat) (loc2 : Nat → Loc) (γ2 : Nat → Option Nat) : Prop where
  loc : ∀ k, k < n → loc2 k = loc1 k
  col : ∀ b k, γ1 b = some k → γ2 b = some k
theorem Fur.refl (n : Nat) (loc1 : Nat → Loc) (γ1 : Nat → Option Nat) : Fur n loc1 γ1 loc1 γ1 := ⟨fun _ _ => rfl, fun _ _ h => h⟩
theorem Fur.trans {n m : Nat} {loc1 loc2 loc3 : Nat → Loc} {γ1 γ2 γ3 : Nat → Option Nat} (h : Fur n loc1 γ1 loc2 γ2) (h' : Fur m loc2 γ2 loc3 γ3) (hnm : n ≤ m) : Fur n loc1 γ1 loc3 γ3 :=
  ⟨fun k hk => (h'.loc k (by omega)).trans (h.loc k hk), fun b k hb => h'.col b k (h.col b k hb)⟩
theorem ObRep.row_fur {n k : Nat} {loc2 : Nat → Loc} {γ2 : Nat → Option Nat} (hf : Fur n loc1 γ1 loc2 γ2) (hk : k < n) {nl : NI} {e : CTs} {xs : List e.D} (h : ObRep w0 R w loc1 γ1 k (.row nl e xs)) : ObRep w0 R w loc2 γ2 k (.row nl e xs) := by
  obtain ⟨h1, h2, h3, h4, h5, h6⟩ := h
  simp only [ObRep, hf.loc k hk]
  exact ⟨h1, h2, h3, h4.imp (fun b hb => ⟨hf.col b k hb, rfl⟩) (fun _ _ h => h), h5, h6⟩
noncomputable def obIdsO : O → List Nat
  | .box cs => V.ids.go cs
  | _ => []
theorem ObRep.fur {n k : Nat} {o : O} {loc2 : Nat → Loc} {γ2 : Nat → Option Nat} (hf : Fur n loc1 γ1 loc2 γ2) (hk : k < n) (hi : ∀ id, id ∈ obIdsO o → id < n) (h : ObRep w0 R w loc1 γ1 k o) : ObRep w0 R w loc2 γ2 k o := by
  cases o with
  | mat c xss => exact ObRep.matTo (hf.loc k hk) (fun b hb => ⟨hf.col b k hb, rfl⟩) h
  | row nl e xs => exact h.row_fur hf hk
  | box cs =>
    obtain ⟨b, vals, ty, fz, h1, h2, h3, h4, h5⟩ := h
    refine ⟨b, vals, ty, fz, by rw [hf.loc k hk]; exact h1, hf.col b k h2, h3, ?_, h5⟩
    exact RepL.congr _ _ (fun id hid => hf.loc id (hi id hid)) h4
  | bld s =>
    obtain ⟨b, p, v, h1, h2, h3, h4⟩ := h
    exact ⟨b, p, v, by rw [hf.loc k hk]; exact h1, hf.col b k h2, fun g hg => hf.col g k (h3 g hg), h4⟩
theorem ObRep.unk {k : Nat} {nl : NI} {e : CTs} {xs : List e.D} (h : ObRep w0 R w loc γ k (.row nl e xs)) : ObRep w0 R w loc γ k (.row .unk e xs) := by
  obtain ⟨h1, h2, h3, h4, h5, h6⟩ := h
  exact ⟨h1, h2, h3, h4, h5, trivial⟩
/-- a row under a new number -/
theorem rowOf_ok {ob : Ob} {e : CTs} {u u' : List Nat} {v : V} {c : Value} {xs : List e.D} (n : Nat) (hob : ∀ id o, ob id = some o → ObRep w0 R w loc γ id o) (h : rowOf ob e u v = some (xs, u')) (hr : Rep w0 R loc v c) (hi : Inv γ u γ1) :
    ∃ l γ2, Rep w1 R1 (fun k => if k = n then l else loc1 k) (.own n) c ∧ ObRep w1 R1 w (fun k => if k = n then l else loc1 k) γ2 n (.row (niOf ob v) e xs) ∧ Inv γ u' γ2 ∧ (∀ b k, γ1 b = some k → γ2 b = some k) ∧
      (∀ b k, γ2 b = some k → γ1 b = some k ∨ (k = n ∧ ∃ id, id ∉ u ∧ id ∈ u' ∧ γ b = some id)) := by
  unfold rowOf at h
  split at h
  · cases he : e.flat with
    | false => rw [he] at h; cases h
    | true =>
      rw [he] at h
      simp only [cond_true, Option.some.injEq, Prod.mk.injEq] at h
      obtain ⟨rfl, rfl⟩ := h
      obtain rfl := hr
      refine ⟨{ a := none, len := 0, cap := 0, sz := e.size }, γ1, by simp [Rep], ?_, hi, fun _ _ h => h, fun _ _ h => .inl h⟩
      simp only [ObRep, if_true]
      exact ⟨he, trivial, rfl, ⟨by simp, fun _ => rfl, (fun ad h => by cases h)⟩, (fun ad cs ty fz h => by cases h), rfl⟩
  · rename_i id
    cases hu : u.contains id with
    | true => rw [hu] at h; cases h
    | false =>
      rw [hu] at h
      simp only [cond_false] at h
      split at h
      · rename_i nl e' ys ho
        split at h
        · rename_i he
          obtain rfl := CTs.eq_of_same _ _ he
          simp only [Option.some.injEq, Prod.mk.injEq] at h
          obtain ⟨h1, rfl⟩ := h
          have h1 : ys = xs := h1
          subst h1
          obtain ⟨k1, k2, k3, k4, k5, k6⟩ := hob id _ ho
          have hnu : id ∉ u := by simpa using hu
          refine ⟨loc id, fun b => if γ b = some id then some n else γ1 b, ?_, ?_, fun b k hb => ?_, fun b k hb => ?_, fun b k hb => ?_⟩
          · simp only [Rep, if_true]; exact hr
          · simp only [ObRep, if_true]
            exact ⟨k1, k2, k3, k4.imp (fun b hb => ⟨by rw [if_pos hb], rfl⟩) (fun _ _ h => CTs.Cells.flat _ _ _ k1 h), k5, by simp only [niOf, ho]; exact k6⟩
          · dsimp only at hb
            split at hb
            · rename_i hγ; exact ⟨id, List.mem_cons_self, hγ⟩
            · obtain ⟨id', h1, h2⟩ := hi b k hb
              exact ⟨id', List.mem_cons_of_mem _ h1, h2⟩
          · obtain ⟨id', h1, h2⟩ := hi b k hb
            dsimp only
            rw [if_neg (fun hγ => by rw [h2] at hγ; obtain rfl := Option.some.inj hγ; exact hnu h1)]
            exact hb
          · dsimp only at hb
            split at hb
            · rename_i hγ; exact .inr ⟨(Option.some.inj hb).symm, id, hnu, List.mem_cons_self, hγ⟩
            · exact .inl hb
        · cases h
      · cases h
  · rename_i id hi'
    cases hu : u.contains id with
    | true => rw [hu] at h; cases h
    | false =>
      rw [hu] at h
      simp only [cond_false] at h
      split at h
      · rename_i nl e' ys ho
        split at h
        · rename_i he
          obtain rfl := CTs.eq_of_same _ _ he
          simp only [Option.some.injEq, Prod.mk.injEq] at h
          obtain ⟨h1, rfl⟩ := h
          have h1 : takeI ys hi' = xs := h1
          subst h1
          obtain ⟨k1, k2, k3, k4, k5, k6⟩ := hob id _ ho
          obtain ⟨r0, r1, r2, hr⟩ := hr
          have hnu : id ∉ u := by simpa using hu
          have r1 : (0 : Int) ≤ hi' := r1
          rw [k3] at r2
          have hsub := k4.sub (l := 0) (u := hi') (Int.le_refl _) r1 r2
          have hl : (takeI ys hi').length = hi'.toNat := by simp [takeI]; omega
          have ha : (if (loc id).cap = (0 : Int).toNat then (loc id).a else (loc id).a.map (·.add ((0 : Int).toNat * e'.size))) = (loc id).a := by
            split
            · rfl
            · cases (loc id).a with
              | none => rfl
              | some ad => simp [Addr.add]
          rw [ha] at hsub
          have hsub : RowAt w (fun b => γ b = some id) e'.size (CTs.Cells w0 R e') (loc id).a (loc id).cap (takeI ys hi') := by
            have e1 : dropI (takeI ys hi') 0 = takeI ys hi' := by simp [dropI]
            rw [e1] at hsub
            simpa using hsub
          have ha2 : (if (loc id).cap = (0 : Int).toNat then (loc id).a else (loc id).a.map (·.add ((0 : Int).toNat * (loc id).sz))) = (loc id).a := by rw [k2]; exact ha
          refine ⟨{ a := (loc id).a, len := hi'.toNat, cap := (loc id).cap, sz := (loc id).sz }, fun b => if γ b = some id then some n else γ1 b, ?_, ?_, fun b k hb => ?_, fun b k hb => ?_, fun b k hb => ?_⟩
          · simp only [Rep, if_true]
            rw [hr]
            have := ha2
            simp only [Int.toNat_zero, Int.sub_zero, Nat.sub_zero] at this ⊢
            have e0 : (Int.ofNat 0) = (0 : Int) := rfl
            simp only [e0, Int.toNat_zero, Int.sub_zero, Nat.sub_zero, this]
          · simp only [ObRep, if_true]
            exact ⟨k1, k2, hl.symm, hsub.imp (fun b hb => ⟨by rw [if_pos hb], rfl⟩) (fun _ _ h => CTs.Cells.flat _ _ _ k1 h), k5, trivial⟩
          · dsimp only at hb
            split at hb
            · rename_i hγ; exact ⟨id, List.mem_cons_self, hγ⟩
            · obtain ⟨id', h1, h2⟩ := hi b k hb
              exact ⟨id', List.mem_cons_of_mem _ h1, h2⟩
          · obtain ⟨id', h1, h2⟩ := hi b k hb
            dsimp only
            rw [if_neg (fun hγ => by rw [h2] at hγ; obtain rfl := Option.some.inj hγ; exact hnu h1)]
            exact hb
          · dsimp only at hb
            split at hb
            · rename_i hγ; exact .inr ⟨(Option.some.inj hb).symm, id, hnu, List.mem_cons_self, hγ⟩
            · exact .inl hb
        · cases h
      · cases h
  · cases h
/-- the new objects, from number j on -/
noncomputable def News (w0 : World) (R : Nat → Prop) (w : World) (loc : Nat → Loc) (γ : Nat → Option Nat) (j : Nat) (os : List O) : Prop :=
  ∀ k o, os[k]? = some o → obIdsO o = [] ∧ ObRep w0 R w loc γ (j + k) o
theorem News.fur {n j : Nat} {os : List O} {loc2 : Nat → Loc} {γ2 : Nat → Option Nat} (hf : Fur n loc1 γ1 loc2 γ2) (hn : j + os.length ≤ n) (h : News w0 R w loc1 γ1 j os) : News w0 R w loc2 γ2 j os := by
  intro k o hk
  obtain ⟨h1, h2⟩ := h k o hk
  have := (List.getElem?_eq_some_iff.1 hk).1
  exact ⟨h1, h2.fur hf (by omega) (fun id hid => by rw [h1] at hid; cases hid)⟩
theorem News.nil {j : Nat} : News w0 R w loc1 γ1 j [] := fun k o h => by simp at h
theorem News.append {j : Nat} {os os' : List O} (h : News w0 R w loc1 γ1 j os) (h' : News w0 R w loc1 γ1 (j + os.length) os') : News w0 R w loc1 γ1 j (os ++ os') := by
  intro k o hk
  rw [List.getElem?_append] at hk
  split at hk
  · exact h k o hk
  · rename_i hge
    obtain ⟨h1, h2⟩ := h' _ o hk
    rw [show j + os.length + (k - os.length) = j + k by omega] at h2
    exact ⟨h1, h2⟩
structure Got (γ : Nat → Option Nat) (u' : List Nat) (j n : Nat) (loc1 : Nat → Loc) (γ1 : Nat → Option Nat) (loc2 : Nat → Loc) (γ2 : Nat → Option Nat) : Prop where
  fur : Fur j loc1 γ1 loc2 γ2
  inv : Inv γ u' γ2
  lt : ∀ b k, γ2 b = some k → γ1 b = some k ∨ (j ≤ k ∧ k < n)
theorem proj_int (ob : Ob) (k : IntKind) (u : List Nat) (v : V) : RT.proj ob (.int k) u v = match v with
    | .int k' n => if k = k' then some (n, u) else none
    | _ => none := rfl
theorem proj_bool (ob : Ob) (u : List Nat) (v : V) : RT.proj ob .bool u v = match v with
    | .bool b => some (b, u)
    | _ => none := rfl
theorem proj_str (ob : Ob) (u : List Nat) (v : V) : RT.proj ob .str u v = match v with
    | .str s => some (s, u)
    | _ => none := rfl
theorem proj_agg (ob : Ob) (rs : RTs) (u : List Nat) (v : V) : RT.proj ob (.agg rs) u v = match v with
    | .agg vs => RTs.proj ob rs u vs
    | _ => none := rfl
theorem proj_tup (ob : Ob) (rs : RTs) (u : List Nat) (v : V) : RT.proj ob (.tup rs) u v = match v with
    | .tup vs => RTs.proj ob rs u vs
    | _ => none := rfl
theorem projs_nil (ob : Ob) (u : List Nat) (vs : List V) : RTs.proj ob .nil u vs = match vs with
    | [] => some ((), u)
    | _ => none := rfl
theorem projs_one (ob : Ob) (r : RT) (u : List Nat) (vs : List V) : RTs.proj ob (.one r) u vs = match vs with
    | [v] => RT.proj ob r u v
    | _ => none := rfl
theorem projs_cons (ob : Ob) (r : RT) (rs : RTs) (u : List Nat) (vs : List V) : RTs.proj ob (.cons r rs) u vs = match vs with
    | v :: vs => match RT.proj ob r u v with
      | some (x, u1) => match RTs.proj ob rs u1 vs with
        | some (xs, u2) => some ((x, xs), u2)
        | none => none
      | none => none
    | [] => none := rfl
/-- what is to be shown of a kind of answers -/
noncomputable def OutR (w0 : World) (R : Nat → Prop) (w1 : World) (R1 : Nat → Prop) (w : World) (loc : Nat → Loc) (γ : Nat → Option Nat) (ob : Ob) (r : RT) : Prop :=
  ∀ (u u' : List Nat) (v : V) (x : r.T) (c : Value) (j : Nat) (loc1 : Nat → Loc) (γ1 : Nat → Option Nat), RT.proj ob r u v = some (x, u') → Rep w0 R loc v c → Inv γ u γ1 → (∀ b k, γ1 b = some k → k < j) →
    ∃ loc2 γ2, Got γ u' j (j + (r.inj x j).2.length) loc1 γ1 loc2 γ2 ∧ Rep w1 R1 loc2 (r.inj x j).1 c ∧ News w1 R1 w loc2 γ2 j (r.inj x j).2 ∧ ∀ id, id ∈ (r.inj x j).1.ids → j ≤ id ∧ id < j + (r.inj x j).2.length
noncomputable def OutRs (w0 : World) (R : Nat → Prop) (w1 : World) (R1 : Nat → Prop) (w : World) (loc : Nat → Loc) (γ : Nat → Option Nat) (ob : Ob) (rs : RTs) : Prop :=
  ∀ (u u' : List Nat) (vs : List V) (x : rs.T) (cs : List Value) (j : Nat) (loc1 : Nat → Loc) (γ1 : Nat → Option Nat), RTs.proj ob rs u vs = some (x, u') → RepL w0 R loc vs cs → Inv γ u γ1 → (∀ b k, γ1 b = some k → k < j) →
    ∃ loc2 γ2, Got γ u' j (j + (rs.inj x j).2.length) loc1 γ1 loc2 γ2 ∧ RepL w1 R1 loc2 (rs.inj x j).1 cs ∧ News w1 R1 w loc2 γ2 j (rs.inj x j).2 ∧ ∀ id, id ∈ V.ids.go (rs.inj x j).1 → j ≤ id ∧ id < j + (rs.inj x j).2.length
theorem out_int {ob : Ob} (k : IntKind) : OutR w0 R w1 R1 w loc γ ob (.int k) := by
  intro u u' v x c j loc1 γ1 h hr hi hlt
  rw [proj_int] at h
  split at h
  · split at h
    · rename_i hk
      subst hk
      simp only [Option.some.injEq, Prod.mk.injEq] at h
      obtain ⟨rfl, rfl⟩ := h
      exact ⟨loc1, γ1, ⟨Fur.refl _ _ _, hi, fun _ _ h => .inl h⟩, hr, News.nil, fun id hid => absurd hid (by simp [RT.inj, V.ids])⟩
    · cases h
  · cases h
theorem out_bool {ob : Ob} : OutR w0 R w1 R1 w loc γ ob .bool := by
  intro u u' v x c j loc1 γ1 h hr hi hlt
  rw [proj_bool] at h
  split at h
  · simp only [Option.some.injEq, Prod.mk.injEq] at h
    obtain ⟨rfl, rfl⟩ := h
    exact ⟨loc1, γ1, ⟨Fur.refl _ _ _, hi, fun _ _ h => .inl h⟩, hr, News.nil, fun id hid => absurd hid (by simp [RT.inj, V.ids])⟩
  · cases h
theorem out_str {ob : Ob} : OutR w0 R w1 R1 w loc γ ob .str := by
  intro u u' v x c j loc1 γ1 h hr hi hlt
  rw [proj_str] at h
  split at h
  · simp only [Option.some.injEq, Prod.mk.injEq] at h
    obtain ⟨rfl, rfl⟩ := h
    exact ⟨loc1, γ1, ⟨Fur.refl _ _ _, hi, fun _ _ h => .inl h⟩, hr, News.nil, fun id hid => absurd hid (by simp [RT.inj, V.ids])⟩
  · cases h
theorem out_own {ob : Ob} (hob : ∀ id o, ob id = some o → ObRep w0 R w loc γ id o) (e : CTs) : OutR w0 R w1 R1 w loc γ ob (.own e) := by
  intro u u' v x c j loc1 γ1 h hr hi hlt
  obtain ⟨l, γ2, h1, h2, h3, h4, h5⟩ := rowOf_ok (w1 := w1) (R1 := R1) (loc1 := loc1) j hob (show rowOf ob e u v = some (x, u') from h) hr hi
  refine ⟨fun k => if k = j then l else loc1 k, γ2, ⟨⟨fun k hk => by rw [if_neg (by omega)], h4⟩, h3, fun b k hb => ?_⟩, h1, fun k o hk => ?_, fun id hid => ?_⟩
  · show γ1 b = some k ∨ (j ≤ k ∧ k < j + 1)
    rcases h5 b k hb with h | ⟨h, _⟩
    · exact .inl h
    · exact .inr (by omega)
  · have hk : [O.row .unk e x][k]? = some o := hk
    cases k with
    | zero =>
      simp only [List.getElem?_cons_zero, Option.some.injEq] at hk
      subst hk
      exact ⟨rfl, h2.unk⟩
    | succ k => simp at hk
  · have hid : id ∈ [j] := hid
    show j ≤ id ∧ id < j + 1
    simp only [List.mem_singleton] at hid
    omega
theorem out_ownF {ob : Ob} (hob : ∀ id o, ob id = some o → ObRep w0 R w loc γ id o) (e : CTs) : OutR w0 R w1 R1 w loc γ ob (.ownF e) := by
  intro u u' v x c j loc1 γ1 h hr hi hlt
  have h : rowFlag ob e u v = some (x, u') := h
  unfold rowFlag at h
  split at h
  case h_2 => cases h
  rename_i xs u2 hrow
  split at h
  case h_2 => cases h
  rename_i b hni
  injection h with h
  injection h with hx1 hx2
  subst hx1 hx2
  obtain ⟨l, γ2, h1, h2, h3, h4, h5⟩ := rowOf_ok (w1 := w1) (R1 := R1) (loc1 := loc1) j hob hrow hr hi
  rw [hni] at h2
  refine ⟨fun k => if k = j then l else loc1 k, γ2, ⟨⟨fun k hk => by rw [if_neg (by omega)], h4⟩, h3, fun b k hb => ?_⟩, h1, fun k o hk => ?_, fun id hid => ?_⟩
  · show γ1 b = some k ∨ (j ≤ k ∧ k < j + 1)
    rcases h5 b k hb with h | ⟨h, _⟩
    · exact .inl h
    · exact .inr (by omega)
  · have hk : [O.row (.is b) e xs][k]? = some o := hk
    cases k with
    | zero =>
      simp only [List.getElem?_cons_zero, Option.some.injEq] at hk
      subst hk
      exact ⟨rfl, h2⟩
    | succ k => simp at hk
  · have hid : id ∈ [j] := hid
    show j ≤ id ∧ id < j + 1
    simp only [List.mem_singleton] at hid
    omega
/-- a slice that the run was begun with, in another frame -/
theorem cell_rc (hg : ∀ b, Glb.gb b → R1 b ∧ w1.heap[b]? = w0.heap[b]?) {i : Nat} {e : CTs} {xs : List e.D} {c : Value} (h : Rep w0 R loc (.rc i e xs) c) : Rep w1 R1 loc1 (.rc i e xs) c := by
  obtain ⟨h1, h2, a, cap, h3, h4, h5, h6⟩ := h
  refine ⟨h1, h2, a, cap, h3, h4, h5, fun hc => ?_⟩
  have h7 := h6 hc
  refine ⟨h7.1, h7.2.1, fun ad ha => ?_⟩
  subst ha
  obtain ⟨k1, k2, cs, ty, fz, k3, k4, k5⟩ := h7.2.2 ad rfl
  have hb := hg ad.block (Glb.argb i ad _ _ (h1.symm.trans h3) hc)
  exact ⟨k1, hb.1, cs, ty, fz, by rw [hb.2]; exact k3, k4, fun q x hx => CTs.Cells.flat _ _ _ h2 (k5 q x hx)⟩
theorem proj_rc (ob : Ob) (i : Nat) (e : CTs) (u : List Nat) (v : V) : RT.proj ob (.rc i e) u v = match v with
    | .rc i' e' xs => if i = i' then (if h : CTs.same e' e = true then some (CTs.cast h xs, u) else none) else none
    | _ => none := rfl
theorem proj_ptr (ob : Ob) (rs : RTs) (u : List Nat) (v : V) : RT.proj ob (.ptr rs) u v = match v with
    | .box id 0 => bif u.contains id || !rs.plain then none else match ob id with
      | some (.box cs) => RTs.proj ob rs (id :: u) cs
      | _ => none
    | _ => none := rfl
theorem out_rc {ob : Ob} (hg : ∀ b, Glb.gb b → R1 b ∧ w1.heap[b]? = w0.heap[b]?) (i : Nat) (e : CTs) : OutR w0 R w1 R1 w loc γ ob (.rc i e) := by
  intro u u' v x c j loc1 γ1 h hr hi hlt
  rw [proj_rc] at h
  split at h
  · rename_i i' e' xs
    split at h
    · rename_i hii
      subst hii
      split at h
      · rename_i he
        obtain rfl := CTs.eq_of_same _ _ he
        have h := Option.some.inj h
        obtain rfl : u = u' := congrArg Prod.snd h
        obtain rfl : xs = x := congrArg Prod.fst h
        exact ⟨loc1, γ1, ⟨Fur.refl _ _ _, hi, fun _ _ h => .inl h⟩, cell_rc hg hr, News.nil, fun id hid => absurd hid (by simp [RT.inj, V.ids])⟩
      · cases h
    · cases h
  · cases h
mutual
theorem RT.plain_inj : ∀ (r : RT) (x : r.T) (j : Nat), r.plain = true → (r.inj x j).2 = [] ∧ (r.inj x j).1.ids = []
  | .int _, _, _, _ => ⟨rfl, rfl⟩
  | .bool, _, _, _ => ⟨rfl, rfl⟩
  | .str, _, _, _ => ⟨rfl, rfl⟩
  | .rc _ _, _, _, _ => ⟨rfl, rfl⟩
  | .own _, _, _, h => by simp [RT.plain] at h
  | .ownF _, _, _, h => by simp [RT.plain] at h
  | .ptr _, _, _, h => by simp [RT.plain] at h
  | .agg _, _, _, h => by simp [RT.plain] at h
  | .tup _, _, _, h => by simp [RT.plain] at h
theorem RTs.plain_inj : ∀ (rs : RTs) (x : rs.T) (j : Nat), rs.plain = true → (rs.inj x j).2 = [] ∧ V.ids.go (rs.inj x j).1 = []
  | .nil, _, _, _ => ⟨rfl, rfl⟩
  | .one r, x, j, h => by
    obtain ⟨h1, h2⟩ := RT.plain_inj r x j (by simpa [RTs.plain] using h)
    refine ⟨h1, ?_⟩
    show (r.inj x j).1.ids ++ [] = []
    rw [h2]
    rfl
  | .cons r rs, x, j, h => by
    simp only [RTs.plain, Bool.and_eq_true] at h
    obtain ⟨h1, h2⟩ := RT.plain_inj r x.1 j h.1
    obtain ⟨h3, h4⟩ := RTs.plain_inj rs x.2 (j + (r.inj x.1 j).2.length) h.2
    refine ⟨?_, ?_⟩
    · show (r.inj x.1 j).2 ++ (rs.inj x.2 (j + (r.inj x.1 j).2.length)).2 = []
      rw [h1, h1] at *
      simpa using h3
    · show (r.inj x.1 j).1.ids ++ V.ids.go (rs.inj x.2 (j + (r.inj x.1 j).2.length)).1 = []
      rw [h2, h4]
      rfl
end
mutual
theorem RT.plain_same : ∀ (r : RT) (x : r.T) (j j' : Nat), r.plain = true → (r.inj x j).1 = (r.inj x j').1
  | .int _, _, _, _, _ => rfl
  | .bool, _, _, _, _ => rfl
  | .str, _, _, _, _ => rfl
  | .rc _ _, _, _, _, _ => rfl
  | .own _, _, _, _, h => by simp [RT.plain] at h
  | .ownF _, _, _, _, h => by simp [RT.plain] at h
  | .ptr _, _, _, _, h => by simp [RT.plain] at h
  | .agg _, _, _, _, h => by simp [RT.plain] at h
  | .tup _, _, _, _, h => by simp [RT.plain] at h
theorem RTs.plain_same : ∀ (rs : RTs) (x : rs.T) (j j' : Nat), rs.plain = true → (rs.inj x j).1 = (rs.inj x j').1
  | .nil, _, _, _, _ => rfl
  | .one r, x, j, j', h => by
    show [(r.inj x j).1] = [(r.inj x j').1]
    rw [RT.plain_same r x j j' (by simpa [RTs.plain] using h)]
  | .cons r rs, x, j, j', h => by
    simp only [RTs.plain, Bool.and_eq_true] at h
    show (r.inj x.1 j).1 :: (rs.inj x.2 (j + (r.inj x.1 j).2.length)).1 = (r.inj x.1 j').1 :: (rs.inj x.2 (j' + (r.inj x.1 j').2.length)).1
    rw [RT.plain_same r x.1 j j' h.1, RTs.plain_same rs x.2 _ (j' + (r.inj x.1 j').2.length) h.2]
end
theorem out_ptr {ob : Ob} (hob : ∀ id o, ob id = some o → ObRep w0 R w loc γ id o) {rs : RTs} (hrs : OutRs w0 R w1 R1 w loc γ ob rs) : OutR w0 R w1 R1 w loc γ ob (.ptr rs) := by
  intro u u' v x c j loc1 γ1 h hr hi hlt
  rw [proj_ptr] at h
  split at h
  case h_2 => cases h
  rename_i id
  cases hu : (u.contains id || !rs.plain) with
  | true => rw [hu] at h; cases h
  | false =>
    rw [hu] at h
    simp only [Bool.or_eq_false_iff, Bool.not_eq_false', cond_false] at hu h
    obtain ⟨hnu, hpl⟩ := hu
    have hnu : id ∉ u := by simpa using hnu
    obtain ⟨cs, ho, h⟩ : ∃ cs, ob id = some (.box cs) ∧ RTs.proj ob rs (id :: u) cs = some (x, u') := by
      cases ho : ob id with
      | none => rw [ho] at h; cases h
      | some o =>
        rw [ho] at h
        cases o with
        | box cs => exact ⟨cs, rfl, h⟩
        | row => cases h
        | bld => cases h
        | mat => cases h
    obtain ⟨b, vals, ty, fz, k1, k2, k3, k4, k5⟩ := hob id _ ho
    obtain ⟨b', k6, rfl⟩ := hr
    rw [k1] at k6
    simp only [Option.some.injEq, Addr.mk.injEq, and_true] at k6
    subst k6
    obtain ⟨p1, p2⟩ := RTs.plain_inj rs x j hpl
    have hi1 : Inv γ (id :: u) (fun b => if γ b = some id then some j else γ1 b) := fun b' k hb => by
      have hb : (if γ b' = some id then some j else γ1 b') = some k := hb
      split at hb
      · rename_i hγ; exact ⟨id, List.mem_cons_self, hγ⟩
      · obtain ⟨id', h1, h2⟩ := hi b' k hb
        exact ⟨id', List.mem_cons_of_mem _ h1, h2⟩
    have hc1 : ∀ b' k, γ1 b' = some k → (fun b => if γ b = some id then some j else γ1 b) b' = some k := fun b' k hb => by
      obtain ⟨id', h1, h2⟩ := hi b' k hb
      dsimp only
      rw [if_neg (fun hγ => by rw [h2] at hγ; obtain rfl := Option.some.inj hγ; exact hnu h1)]
      exact hb
    obtain ⟨loc2, γ2, g1, g2, g3, g4⟩ := hrs (id :: u) u' cs x vals.toList (j + 1) (fun k => if k = j then loc id else loc1 k) _ h k4 hi1 (fun b' k hb => by
      have hb : (if γ b' = some id then some j else γ1 b') = some k := hb
      split at hb
      · have := Option.some.inj hb; omega
      · have := hlt b' k hb; omega)
    obtain ⟨p3, p4⟩ := RTs.plain_inj rs x (j + 1) hpl
    have hsame : (rs.inj x (j + 1)).1 = (rs.inj x j).1 := by rw [RTs.plain_same rs x (j + 1) j hpl]
    rw [p3] at g1
    simp only [List.length_nil, Nat.add_zero] at g1
    have hl2 : loc2 j = loc id := by rw [g1.fur.loc j (by omega)]; simp
    refine ⟨loc2, γ2, ⟨⟨fun k hk => by rw [g1.fur.loc k (by omega)]; simp; omega, fun b' k hb => g1.fur.col b' k (hc1 b' k hb)⟩, g1.inv, fun b' k hb => ?_⟩, ⟨b, by rw [hl2]; exact k1, rfl⟩, fun k o hk => ?_, fun q hq => ?_⟩
    · show γ1 b' = some k ∨ (j ≤ k ∧ k < j + 1)
      rcases g1.lt b' k hb with hb | hb
      · have hb : (if γ b' = some id then some j else γ1 b') = some k := hb
        split at hb
        · have := Option.some.inj hb; exact .inr (by omega)
        · exact .inl hb
      · omega
    · have hk : [O.box (rs.inj x j).1][k]? = some o := hk
      cases k with
      | zero =>
        simp only [List.getElem?_cons_zero, Option.some.injEq] at hk
        subst hk
        refine ⟨p2, b, vals, ty, fz, by rw [Nat.add_zero, hl2]; exact k1, g1.fur.col b j (by simp [k2]), k3, ?_, k5⟩
        rw [← hsame]
        exact RepL.congr _ _ (fun _ _ => rfl) g2
      | succ k => simp at hk
    · have hq : q ∈ [j] := hq
      show j ≤ q ∧ q < j + 1
      simp only [List.mem_singleton] at hq
      omega
theorem out_agg {ob : Ob} {rs : RTs} (hrs : OutRs w0 R w1 R1 w loc γ ob rs) : OutR w0 R w1 R1 w loc γ ob (.agg rs) := by
  intro u u' v x c j loc1 γ1 h hr hi hlt
  cases v with
  | agg vs =>
    obtain ⟨cs, rfl, hr⟩ := hr
    obtain ⟨loc2, γ2, h1, h2, h3, h4⟩ := hrs u u' vs x cs.toList j loc1 γ1 h hr hi hlt
    exact ⟨loc2, γ2, h1, ⟨cs, rfl, h2⟩, h3, fun id hid => h4 id hid⟩
  | _ => exact absurd (show (none : Option (rs.T × List Nat)) = some (x, u') from h) (by simp)
theorem out_tup {ob : Ob} {rs : RTs} (hrs : OutRs w0 R w1 R1 w loc γ ob rs) : OutR w0 R w1 R1 w loc γ ob (.tup rs) := by
  intro u u' v x c j loc1 γ1 h hr hi hlt
  cases v with
  | tup vs =>
    obtain ⟨cs, rfl, hr⟩ := hr
    obtain ⟨loc2, γ2, h1, h2, h3, h4⟩ := hrs u u' vs x cs.toList j loc1 γ1 h hr hi hlt
    exact ⟨loc2, γ2, h1, ⟨cs, rfl, h2⟩, h3, fun id hid => h4 id hid⟩
  | _ => exact absurd (show (none : Option (rs.T × List Nat)) = some (x, u') from h) (by simp)
theorem outs_nil {ob : Ob} : OutRs w0 R w1 R1 w loc γ ob .nil := by
  intro u u' vs x cs j loc1 γ1 h hr hi hlt
  cases vs with
  | nil =>
    obtain rfl : u = u' := congrArg (Prod.snd (α := RTs.nil.T)) (Option.some.inj h)
    cases cs with
    | nil => exact ⟨loc1, γ1, ⟨Fur.refl _ _ _, hi, fun _ _ h => .inl h⟩, trivial, News.nil, fun id hid => absurd hid (by simp [RTs.inj, V.ids.go])⟩
    | cons c cs => exact hr.elim
  | cons v vs => exact absurd (show (none : Option (RTs.nil.T × List Nat)) = some (x, u') from h) (by simp)
theorem outs_one {ob : Ob} {r : RT} (hr' : OutR w0 R w1 R1 w loc γ ob r) : OutRs w0 R w1 R1 w loc γ ob (.one r) := by
  intro u u' vs x cs j loc1 γ1 h hr hi hlt
  cases vs with
  | nil => exact absurd (show (none : Option (r.T × List Nat)) = some (x, u') from h) (by simp)
  | cons v vs =>
    cases vs with
    | cons _ _ => exact absurd (show (none : Option (r.T × List Nat)) = some (x, u') from h) (by simp)
    | nil =>
      cases cs with
      | nil => exact hr.elim
      | cons c cs =>
        cases cs with
        | cons _ _ => exact hr.2.elim
        | nil =>
          obtain ⟨loc2, γ2, h1, h2, h3, h4⟩ := hr' u u' v x c j loc1 γ1 h hr.1 hi hlt
          exact ⟨loc2, γ2, h1, ⟨h2, trivial⟩, h3, fun id hid => h4 id (by
            have hid : id ∈ (r.inj x j).1.ids ++ [] := hid
            simpa using hid)⟩
theorem outs_cons {ob : Ob} {r : RT} {rs : RTs} (hr' : OutR w0 R w1 R1 w loc γ ob r) (hrs : OutRs w0 R w1 R1 w loc γ ob rs) : OutRs w0 R w1 R1 w loc γ ob (.cons r rs) := by
  intro u u' vs x cs j loc1 γ1 h hr hi hlt
  cases vs with
  | nil => exact absurd (show (none : Option ((RTs.cons r rs).T × List Nat)) = some (x, u') from h) (by simp)
  | cons v vs =>
    cases cs with
    | nil => exact hr.elim
    | cons c cs =>
      rw [projs_cons] at h
      dsimp only at h
      cases e1 : RT.proj ob r u v with
      | none => rw [e1] at h; cases h
      | some p1 =>
        obtain ⟨x1, u1⟩ := p1
        rw [e1] at h
        dsimp only at h
        cases e2 : RTs.proj ob rs u1 vs with
        | none => rw [e2] at h; cases h
        | some p2 =>
          obtain ⟨xs, u2⟩ := p2
          rw [e2] at h
          simp only [Option.some.injEq, Prod.mk.injEq] at h
          obtain ⟨rfl, rfl⟩ := h
          obtain ⟨loc2, γ2, h1, h2, h3, h4⟩ := hr' u u1 v x1 c j loc1 γ1 e1 hr.1 hi hlt
          obtain ⟨loc3, γ3, g1, g2, g3, g4⟩ := hrs u1 _ vs xs cs (j + (r.inj x1 j).2.length) loc2 γ2 e2 hr.2 h1.inv (fun b k hb => by
            rcases h1.lt b k hb with h | h
            · have := hlt b k h; omega
            · exact h.2)
          have hos : (RTs.inj (.cons r rs) (x1, xs) j).2 = (r.inj x1 j).2 ++ (rs.inj xs (j + (r.inj x1 j).2.length)).2 := rfl
          have hlen : (RTs.inj (.cons r rs) (x1, xs) j).2.length = (r.inj x1 j).2.length + (rs.inj xs (j + (r.inj x1 j).2.length)).2.length := by rw [hos, List.length_append]
          refine ⟨loc3, γ3, ⟨h1.fur.trans g1.fur (by omega), g1.inv, fun b k hb => by
            rw [hlen]
            rcases g1.lt b k hb with h | h
            · rcases h1.lt b k h with h | h
              · exact .inl h
              · exact .inr (by omega)
            · exact .inr (by omega)⟩, ⟨?_, g2⟩, ?_, fun id hid => ?_⟩
          · exact Rep.congr _ _ (fun id hid => g1.fur.loc id (h4 id hid).2) h2
          · rw [hos]
            exact (h3.fur g1.fur (Nat.le_refl _)).append g3
          · have hid : id ∈ (r.inj x1 j).1.ids ++ V.ids.go (rs.inj xs (j + (r.inj x1 j).2.length)).1 := hid
            simp only [List.mem_append] at hid
            rw [hlen]
            rcases hid with hid | hid
            · have := h4 id hid; omega
            · have := g4 id hid; omega
mutual
theorem RT.out {ob : Ob} (hg : ∀ b, Glb.gb b → R1 b ∧ w1.heap[b]? = w0.heap[b]?) (hob : ∀ id o, ob id = some o → ObRep w0 R w loc γ id o) : ∀ (r : RT), OutR w0 R w1 R1 w loc γ ob r
  | .int k => out_int k
  | .bool => out_bool
  | .str => out_str
  | .own e => out_own hob e
  | .ownF e => out_ownF hob e
  | .rc i e => out_rc hg i e
  | .ptr rs => out_ptr hob (RTs.out hg hob rs)
  | .agg rs => out_agg (RTs.out hg hob rs)
  | .tup rs => out_tup (RTs.out hg hob rs)
theorem RTs.out {ob : Ob} (hg : ∀ b, Glb.gb b → R1 b ∧ w1.heap[b]? = w0.heap[b]?) (hob : ∀ id o, ob id = some o → ObRep w0 R w loc γ id o) : ∀ (rs : RTs), OutRs w0 R w1 R1 w loc γ ob rs
  | .nil => outs_nil
  | .one r => outs_one (RT.out hg hob r)
  | .cons r rs => outs_cons (RT.out hg hob r) (RTs.out hg hob rs)
end
end
end Go.Eng
namespace Go.Eng
set_option linter.unusedSectionVars false
variable [Glb]
open Go.RowKit
set_option linter.unusedSimpArgs false
set_option linter.unusedVariables false

section
variable {w0 w1 w w' : World} {R R1 L : Nat → Prop} {loc loc1 loc' : Nat → Loc} {γ γ1 γ' : Nat → Option Nat}
theorem ftProj_row (ob : Ob) (id : Nat) (u : List Nat) (e : CTs) : FT.proj ob id u (.row e) = bif u.contains id then none else match ob id with
    | some (.row _ e' xs) => if h : CTs.same e' e = true then some (CTs.cast h xs, id :: u) else none
    | _ => none := rfl
theorem ftProj_box (ob : Ob) (id : Nat) (u : List Nat) (rs : RTs) : FT.proj ob id u (.box rs) = bif u.contains id then none else match ob id with
    | some (.box cs) => RTs.proj ob rs (id :: u) cs
    | _ => none := rfl
theorem ftProj_bld (ob : Ob) (id : Nat) (u : List Nat) : FT.proj ob id u .bld = bif u.contains id then none else match ob id with
    | some (.bld s) => some (s, id :: u)
    | _ => none := rfl
/-- one object that was lent -/
theorem FT.out {ob : Ob} (hg : ∀ b, Glb.gb b → R1 b ∧ w1.heap[b]? = w0.heap[b]?) (hob : ∀ id o, ob id = some o → ObRep w0 R w loc γ id o) (f : FT) {i j T : Nat} {u u' : List Nat} {x : f.T} (hi : i < T) (hT : T ≤ j) (h : f.proj ob i u = some (x, u')) (hinv : Inv γ u γ1)
    (hc : ∀ b k, γ1 b = some k → k < i ∨ (T ≤ k ∧ k < j)) (hl : loc1 i = loc i) :
    ∃ loc2 γ2, Fur j loc1 γ1 loc2 γ2 ∧ Inv γ u' γ2 ∧ (∀ b k, γ2 b = some k → k < i + 1 ∨ (T ≤ k ∧ k < j + (f.inj x j).2.length)) ∧
      (∀ o, (f.inj x j).1 = some o → ObRep w1 R1 w loc2 γ2 i o ∧ ∀ id, id ∈ obIdsO o → j ≤ id ∧ id < j + (f.inj x j).2.length) ∧ News w1 R1 w loc2 γ2 j (f.inj x j).2 := by
  have hcol : ∀ (hu : u.contains i = false), Inv γ (i :: u) (fun b => if γ b = some i then some i else γ1 b) ∧ (∀ b k, γ1 b = some k → (fun b => if γ b = some i then some i else γ1 b) b = some k) := fun hu => by
    have hnu : i ∉ u := by simpa using hu
    refine ⟨fun b k hb => ?_, fun b k hb => ?_⟩
    · dsimp only at hb
      split at hb
      · rename_i hγ; exact ⟨i, List.mem_cons_self, hγ⟩
      · obtain ⟨id', h1, h2⟩ := hinv b k hb
        exact ⟨id', List.mem_cons_of_mem _ h1, h2⟩
    · obtain ⟨id', h1, h2⟩ := hinv b k hb
      dsimp only
      rw [if_neg (fun hγ => by rw [h2] at hγ; obtain rfl := Option.some.inj hγ; exact hnu h1)]
      exact hb
  cases f with
  | dead =>
    have h : some ((), u) = some (x, u') := h
    obtain rfl : u = u' := congrArg (Prod.snd (α := Unit)) (Option.some.inj h)
    refine ⟨loc1, γ1, Fur.refl _ _ _, hinv, fun b k hb => ?_, fun o ho => (by cases ho), News.nil⟩
    show k < i + 1 ∨ (T ≤ k ∧ k < j + 0)
    have := hc b k hb; omega
  | row e =>
    rw [ftProj_row] at h
    cases hu : u.contains i with
    | true => rw [hu] at h; cases h
    | false =>
      rw [hu] at h
      simp only [cond_false] at h
      obtain ⟨c1, c2⟩ := hcol hu
      split at h
      · rename_i nl e' xs ho
        split at h
        · rename_i hs
          obtain rfl := CTs.eq_of_same _ _ hs
          have h := Option.some.inj h
          obtain rfl : i :: u = u' := congrArg Prod.snd h
          obtain rfl : xs = x := congrArg Prod.fst h
          obtain ⟨k1, k2, k3, k4, k5, k6⟩ := hob i _ ho
          refine ⟨loc1, _, ⟨fun _ _ => rfl, c2⟩, c1, fun b k hb => ?_, fun o ho' => ?_, News.nil⟩
          · show k < i + 1 ∨ (T ≤ k ∧ k < j + 0)
            have hb : (if γ b = some i then some i else γ1 b) = some k := hb
            split at hb
            · have := Option.some.inj hb; omega
            · have := hc b k hb; omega
          · have ho' : some (O.row .unk e' xs) = some o := ho'
            obtain rfl := Option.some.inj ho'
            refine ⟨?_, fun id hid => absurd hid (by simp [obIdsO])⟩
            simp only [ObRep, hl]
            exact ⟨k1, k2, k3, k4.imp (fun b hb => ⟨by rw [if_pos hb], rfl⟩) (fun _ _ h => CTs.Cells.flat _ _ _ k1 h), k5, trivial⟩
        · cases h
      · cases h
  | bld =>
    rw [ftProj_bld] at h
    cases hu : u.contains i with
    | true => rw [hu] at h; cases h
    | false =>
      rw [hu] at h
      simp only [cond_false] at h
      obtain ⟨c1, c2⟩ := hcol hu
      split at h
      · rename_i s ho
        have h := Option.some.inj h
        obtain rfl : i :: u = u' := congrArg Prod.snd h
        obtain rfl : s = x := congrArg Prod.fst h
        obtain ⟨b, p, v, k1, k2, k3, k4⟩ := hob i _ ho
        refine ⟨loc1, _, ⟨fun _ _ => rfl, c2⟩, c1, fun b k hb => ?_, fun o ho' => ?_, News.nil⟩
        · show k < i + 1 ∨ (T ≤ k ∧ k < j + 0)
          have hb : (if γ b = some i then some i else γ1 b) = some k := hb
          split at hb
          · have := Option.some.inj hb; omega
          · have := hc b k hb; omega
        · have ho' : some (O.bld s) = some o := ho'
          obtain rfl := Option.some.inj ho'
          refine ⟨?_, fun id hid => absurd hid (by simp [obIdsO])⟩
          simp only [ObRep, hl]
          exact ⟨b, p, v, k1, by rw [if_pos k2], fun g hg => by rw [if_pos (k3 g hg)], k4⟩
      · cases h
  | box rs =>
    rw [ftProj_box] at h
    cases hu : u.contains i with
    | true => rw [hu] at h; cases h
    | false =>
      rw [hu] at h
      simp only [cond_false] at h
      obtain ⟨c1, c2⟩ := hcol hu
      split at h
      · rename_i cs ho
        obtain ⟨b, vals, ty, fz, k1, k2, k3, k4, k5⟩ := hob i _ ho
        obtain ⟨loc2, γ2, g1, g2, g3, g4⟩ := RTs.out (w1 := w1) (R1 := R1) hg hob rs (i :: u) u' cs x vals.toList j loc1 _ h k4 c1 (fun b k hb => by
          have hb : (if γ b = some i then some i else γ1 b) = some k := hb
          split at hb
          · have := Option.some.inj hb; omega
          · have := hc b k hb; omega)
        have hlen : ((FT.box rs).inj x j).2.length = (rs.inj x j).2.length := rfl
        refine ⟨loc2, γ2, ⟨g1.fur.loc, fun b k hb => g1.fur.col b k (c2 b k hb)⟩, g1.inv, fun b' k hb => ?_, fun o ho' => ?_, g3⟩
        · rw [hlen]
          rcases g1.lt b' k hb with hb | hb
          · have hb : (if γ b' = some i then some i else γ1 b') = some k := hb
            split at hb
            · have := Option.some.inj hb; omega
            · have := hc b' k hb; omega
          · omega
        · have ho' : some (O.box (rs.inj x j).1) = some o := ho'
          obtain rfl := Option.some.inj ho'
          refine ⟨⟨b, vals, ty, fz, ?_, ?_, k3, g2, k5⟩, fun id hid => g4 id hid⟩
          · rw [g1.fur.loc i (by omega), hl]; exact k1
          · exact g1.fur.col b i (by simp [k2])
      · cases h
theorem ftsProj_one (ob : Ob) (i : Nat) (u : List Nat) (f : FT) : ftsProj ob i u [f] = match f.proj ob i u with
    | some (x, _) => some x
    | none => none := by first | rfl | (simp only [ftsProj]; rfl)
theorem ftsProj_cons (ob : Ob) (i : Nat) (u : List Nat) (f g : FT) (fs : List FT) : ftsProj ob i u (f :: g :: fs) = match f.proj ob i u with
    | some (x, u1) => match ftsProj ob (i + 1) u1 (g :: fs) with
      | some xs => some (x, xs)
      | none => none
    | none => none := by first | rfl | (simp only [ftsProj]; rfl)
/-- what was lent, at the end -/
structure Fins (w1 : World) (R1 : Nat → Prop) (w : World) (loc : Nat → Loc) (γ : Nat → Option Nat) (i : Nat) (l : List (Option O)) (m n : Nat) : Prop where
  at_ : ∀ k o, l[k]? = some (some o) → ObRep w1 R1 w loc γ (i + k) o ∧ ∀ id, id ∈ obIdsO o → m ≤ id ∧ id < n
theorem fts_out {ob : Ob} (hg : ∀ b, Glb.gb b → R1 b ∧ w1.heap[b]? = w0.heap[b]?) (hob : ∀ id o, ob id = some o → ObRep w0 R w loc γ id o) {T : Nat} : ∀ (fs : List FT) (i j : Nat) (u : List Nat) (x : fts fs) (loc1 : Nat → Loc) (γ1 : Nat → Option Nat), i + fs.length ≤ T → T ≤ j → ftsProj ob i u fs = some x → Inv γ u γ1 →
    (∀ b k, γ1 b = some k → k < i ∨ (T ≤ k ∧ k < j)) → (∀ k, k < T → loc1 k = loc k) →
    ∃ loc2 γ2, Fur j loc1 γ1 loc2 γ2 ∧ (∀ b k, γ2 b = some k → ∃ id, γ b = some id) ∧ (∀ b k, γ2 b = some k → k < i + fs.length ∨ (T ≤ k ∧ k < j + (ftsInj fs x j).2.length)) ∧
      (ftsInj fs x j).1.length = fs.length ∧ Fins w1 R1 w loc2 γ2 i (ftsInj fs x j).1 j (j + (ftsInj fs x j).2.length) ∧ News w1 R1 w loc2 γ2 j (ftsInj fs x j).2
  | [], i, j, u, x, loc1, γ1, hi, hj, h, hinv, hc, hl => by
    refine ⟨loc1, γ1, Fur.refl _ _ _, fun b k hb => ?_, fun b k hb => ?_, rfl, ⟨fun k o hk => ?_⟩, News.nil⟩
    · obtain ⟨id, _, h⟩ := hinv b k hb; exact ⟨id, h⟩
    · show k < i + 0 ∨ (T ≤ k ∧ k < j + 0)
      exact hc b k hb
    · have hk : ([] : List (Option O))[k]? = some (some o) := hk
      simp at hk
  | [f], i, j, u, x, loc1, γ1, hi, hj, h, hinv, hc, hl => by
    simp only [List.length_singleton] at hi
    rw [ftsProj_one] at h
    cases e1 : f.proj ob i u with
    | none => rw [e1] at h; cases h
    | some p =>
      obtain ⟨x1, u1⟩ := p
      rw [e1] at h
      obtain rfl : x1 = x := Option.some.inj h
      obtain ⟨loc2, γ2, g1, g2, g3, g4, g5⟩ := FT.out (w1 := w1) (R1 := R1) hg hob f (by omega) hj e1 hinv hc (hl i (by omega))
      refine ⟨loc2, γ2, g1, fun b k hb => ?_, g3, rfl, ⟨fun k o hk => ?_⟩, g5⟩
      · obtain ⟨id, _, h⟩ := g2 b k hb; exact ⟨id, h⟩
      · have hk : [(f.inj x1 j).1][k]? = some (some o) := hk
        cases k with
        | zero => exact g4 o (Option.some.inj hk)
        | succ k => simp at hk
  | f :: g :: fs, i, j, u, x, loc1, γ1, hi, hj, h, hinv, hc, hl => by
    simp only [List.length_cons] at hi
    rw [ftsProj_cons] at h
    cases e1 : f.proj ob i u with
    | none => rw [e1] at h; cases h
    | some p =>
      obtain ⟨x1, u1⟩ := p
      rw [e1] at h
      dsimp only at h
      cases e2 : ftsProj ob (i + 1) u1 (g :: fs) with
      | none => rw [e2] at h; cases h
      | some xs =>
        rw [e2] at h
        obtain rfl : (x1, xs) = x := Option.some.inj h
        obtain ⟨loc2, γ2, g1, g2, g3, g4, g5⟩ := FT.out (w1 := w1) (R1 := R1) hg hob f (by omega) hj e1 hinv hc (hl i (by omega))
        obtain ⟨loc3, γ3, k1, k2, k3, k4, k5, k6⟩ := fts_out hg hob (g :: fs) (i + 1) (j + (f.inj x1 j).2.length) u1 xs loc2 γ2 (by simp only [List.length_cons]; omega) (by omega) e2 g2 g3 (fun k hk => (g1.loc k (by omega)).trans (hl k hk))
        have hos : (ftsInj (f :: g :: fs) (x1, xs) j).2 = (f.inj x1 j).2 ++ (ftsInj (g :: fs) xs (j + (f.inj x1 j).2.length)).2 := rfl
        have hlen : (ftsInj (f :: g :: fs) (x1, xs) j).2.length = (f.inj x1 j).2.length + (ftsInj (g :: fs) xs (j + (f.inj x1 j).2.length)).2.length := by rw [hos, List.length_append]
        have hl1 : (ftsInj (f :: g :: fs) (x1, xs) j).1 = (f.inj x1 j).1 :: (ftsInj (g :: fs) xs (j + (f.inj x1 j).2.length)).1 := rfl
        refine ⟨loc3, γ3, g1.trans k1 (by omega), k2, fun b k hb => ?_, by rw [hl1, List.length_cons, k4]; rfl, ⟨fun k o hk => ?_⟩, ?_⟩
        · rw [hlen]
          have := k3 b k hb
          simp only [List.length_cons] at this ⊢
          omega
        · rw [hl1] at hk
          rw [hlen]
          cases k with
          | zero =>
            obtain ⟨q1, q2⟩ := g4 o (Option.some.inj hk)
            exact ⟨q1.fur k1 (by omega) (fun id hid => (q2 id hid).2), fun id hid => by have := q2 id hid; omega⟩
          | succ k =>
            obtain ⟨q1, q2⟩ := k5.at_ k o hk
            rw [show i + (k + 1) = i + 1 + k by omega]
            exact ⟨q1, fun id hid => by have := q2 id hid; omega⟩
        · rw [hos]
          exact (g5.fur k1 (Nat.le_refl _)).append k6
/-- all that a function leaves -/
theorem Sig.out {ob : Ob} (hg : ∀ b, Glb.gb b → R1 b ∧ w1.heap[b]? = w0.heap[b]?) (hob : ∀ id o, ob id = some o → ObRep w0 R w loc γ id o) (s : Sig) (T : Nat) (x : s.T) {v : V} {c : Value} (hT : s.fin.length ≤ T) (h : s.proj ob v = some x) (hr : Rep w0 R loc v c) :
    ∃ loc2 γ2, (∀ k, k < T → loc2 k = loc k) ∧ (∀ b k, γ2 b = some k → ∃ id, γ b = some id) ∧ (∀ b k, γ2 b = some k → k < s.fin.length ∨ (T ≤ k ∧ k < T + (s.inj x T).2.2.length)) ∧
      Rep w1 R1 loc2 (s.inj x T).1 c ∧ (∀ id, id ∈ (s.inj x T).1.ids → T ≤ id ∧ id < T + (s.inj x T).2.2.length) ∧
      (s.inj x T).2.1.length = s.fin.length ∧ Fins w1 R1 w loc2 γ2 0 (s.inj x T).2.1 T (T + (s.inj x T).2.2.length) ∧ News w1 R1 w loc2 γ2 T (s.inj x T).2.2 := by
  obtain ⟨r, fin⟩ := s
  cases fin with
  | nil =>
    simp only [Sig.proj] at h
    cases e1 : RT.proj ob r [] v with
    | none => rw [e1] at h; cases h
    | some p =>
      obtain ⟨x1, u1⟩ := p
      rw [e1] at h
      obtain rfl : x1 = x := Option.some.inj h
      obtain ⟨loc2, γ2, g1, g2, g3, g4⟩ := RT.out (w1 := w1) (R1 := R1) hg hob r [] u1 v x1 c T loc (fun _ => none) e1 hr (fun b k hb => by cases hb) (fun b k hb => by cases hb)
      refine ⟨loc2, γ2, g1.fur.loc, fun b k hb => ?_, fun b k hb => ?_, g2, g4, rfl, ⟨fun k o hk => ?_⟩, g3⟩
      · obtain ⟨id, _, h⟩ := g1.inv b k hb; exact ⟨id, h⟩
      · rcases g1.lt b k hb with h | h
        · cases h
        · exact .inr h
      · have hk : ([] : List (Option O))[k]? = some (some o) := hk
        simp at hk
  | cons f fs =>
    simp only [Sig.proj] at h
    cases e1 : RT.proj ob r [] v with
    | none => rw [e1] at h; cases h
    | some p =>
      obtain ⟨x1, u1⟩ := p
      rw [e1] at h
      dsimp only at h
      cases e2 : ftsProj ob 0 u1 (f :: fs) with
      | none => rw [e2] at h; cases h
      | some ys =>
        rw [e2] at h
        obtain rfl : (x1, ys) = x := Option.some.inj h
        obtain ⟨loc2, γ2, g1, g2, g3, g4⟩ := RT.out (w1 := w1) (R1 := R1) hg hob r [] u1 v x1 c T loc (fun _ => none) e1 hr (fun b k hb => by cases hb) (fun b k hb => by cases hb)
        obtain ⟨loc3, γ3, k1, k2, k3, k4, k5, k6⟩ := fts_out (w1 := w1) (R1 := R1) (T := T) hg hob (f :: fs) 0 (T + (r.inj x1 T).2.length) u1 ys loc2 γ2 (by simpa using hT) (by omega) e2 g1.inv (fun b k hb => by
          rcases g1.lt b k hb with h | h
          · cases h
          · exact .inr h) g1.fur.loc
        have hos : (Sig.inj ⟨r, f :: fs⟩ (x1, ys) T).2.2 = (r.inj x1 T).2 ++ (ftsInj (f :: fs) ys (T + (r.inj x1 T).2.length)).2 := rfl
        have hlen : (Sig.inj ⟨r, f :: fs⟩ (x1, ys) T).2.2.length = (r.inj x1 T).2.length + (ftsInj (f :: fs) ys (T + (r.inj x1 T).2.length)).2.length := by rw [hos, List.length_append]
        have hv : (Sig.inj ⟨r, f :: fs⟩ (x1, ys) T).1 = (r.inj x1 T).1 := rfl
        refine ⟨loc3, γ3, fun k hk => (k1.loc k (by omega)).trans (g1.fur.loc k hk), k2, fun b k hb => ?_, ?_, fun id hid => ?_, k4, ⟨fun k o hk => ?_⟩, ?_⟩
        · rw [hlen]
          have := k3 b k hb
          simp only [List.length_cons] at this ⊢
          omega
        · rw [hv]
          exact Rep.congr _ _ (fun id hid => k1.loc id (g4 id hid).2) g2
        · rw [hv] at hid
          have := g4 id hid
          rw [hlen]; omega
        · rw [hlen]
          obtain ⟨q1, q2⟩ := k5.at_ k o hk
          exact ⟨q1, fun id hid => by have := q2 id hid; omega⟩
        · rw [hos]
          exact (g3.fur k1 (Nat.le_refl _)).append k6
end
end Go.Eng
namespace Go.Eng
set_option linter.unusedSectionVars false
variable [Glb]
open Go.RowKit
set_option linter.unusedSimpArgs false
set_option linter.unusedVariables false

section
variable {E : Env} {cf : Cf E} {P : Program} {w0 w1 w w' : World} {R R1 L : Nat → Prop} {N : Fx} {st st' : St} {a : Act} {loc loc1 loc' : Nat → Loc} {γ γ1 γ' : Nat → Option Nat}
theorem dstsOk_mono {n m : Nat} (hnm : n ≤ m) {ops : List Oper} (h : dstsOk n ops = true) : dstsOk m ops = true := by
  refine List.all_eq_true.2 fun o ho => ?_
  have := List.all_eq_true.1 h o ho
  split
  · rename_i d hd
    rw [hd] at this
    simp only [Nat.blt_eq] at this ⊢
    omega
  · rfl
theorem codeOk_mono {n m : Nat} (hnm : n ≤ m) : ∀ (c : Code), codeOk n c = true → codeOk m c = true
  | .region _ ops _, h => dstsOk_mono hnm h
  | .seq a b, h => by simp only [codeOk, Bool.and_eq_true] at h ⊢; exact ⟨codeOk_mono hnm a h.1, codeOk_mono hnm b h.2⟩
  | .cond _ a b, h => by simp only [codeOk, Bool.and_eq_true] at h ⊢; exact ⟨codeOk_mono hnm a h.1, codeOk_mono hnm b h.2⟩
  | .block _ b, h => by simp only [codeOk] at h ⊢; exact codeOk_mono hnm b h
  | .loop b, h => by simp only [codeOk] at h ⊢; exact codeOk_mono hnm b h
  | .skip, _ => rfl
  | .label _, _ => rfl
  | .exit _, _ => rfl
  | .ret, _ => rfl
  | .rangeFunc _ _ _ _, _ => rfl
  | .scope _, _ => rfl
  | .goto _, _ => rfl
  | .refuse _, _ => rfl

noncomputable def resSem (tmps : Array Value) : ResultVar → Sem Value
  | .tmp t => pure (tmps.getD t undef)
  | .cell a t => do loadVar t (← asAddr (tmps.getD a undef))
theorem resV_run (hs : Sim w0 R L N st a w loc γ) {r : ResultVar} {v : V} (h : resV P st r = some v) : ∃ c, Rep w0 R loc v c ∧ (resSem a.tmps r).run P w = .ok c w := by
  cases r with
  | tmp t =>
    obtain rfl := Option.some.inj h
    exact ⟨_, hs.tm t, rfl⟩
  | cell t ty =>
    simp only [resV] at h
    split at h
    · rename_i id off hb
      have hr := hs.tm t
      rw [hb] at hr
      obtain ⟨b, h1, h2⟩ := hr
      have hrun : ∀ c, (loadVar ty ⟨b, off, none⟩).run P w = .ok c w → (resSem a.tmps (.cell t ty)).run P w = .ok c w := fun c hc => by
        simp only [resSem, h2, asAddr, Sem.run_bind, Sem.run_pure, Result.andThen_ok, hc]
      split at h
      · rename_i cs ho ht
        obtain ⟨b', vals, ty', fz, k1, k2, k3, k4, k5⟩ := hs.ob _ _ ho
        rw [h1] at k1
        simp only [Option.some.injEq, Addr.mk.injEq, and_true] at k1
        subst k1
        cases hle : Nat.ble (off + tsize P ty) cs.length with
        | false => rw [hle] at h; cases h
        | true =>
          rw [hle] at h
          obtain rfl := Option.some.inj h
          have hle := Nat.le_of_ble_eq_true hle
          have hlen := k4.length
          have hsz : vals.toList.length = vals.size := Array.length_toList
          exact ⟨_, ⟨_, rfl, (k4.drop off).take _⟩, hrun _ (run_loadVar_agg k3 ht (by omega))⟩
      · rename_i cs ho ht
        obtain ⟨b', vals, ty', fz, k1, k2, k3, k4, k5⟩ := hs.ob _ _ ho
        rw [h1] at k1
        simp only [Option.some.injEq, Addr.mk.injEq, and_true] at k1
        subst k1
        obtain ⟨c, hc1, hc2⟩ := k4.get h
        exact ⟨c, hc2, hrun _ (run_loadVar_one k3 ht hc1)⟩
      · cases h
    · cases h
theorem resVs_run (hs : Sim w0 R L N st a w loc γ) : ∀ (rs : List ResultVar) (vs : List V), resVs P st rs = some vs → ∃ cs, RepL w0 R loc vs cs ∧ (rs.mapM (resSem a.tmps)).run P w = .ok cs w
  | [], vs, h => by
    obtain rfl := Option.some.inj h
    exact ⟨[], trivial, rfl⟩
  | r :: rs, vs, h => by
    simp only [resVs] at h
    split at h
    · rename_i v vs' h1 h2
      obtain rfl := Option.some.inj h
      obtain ⟨c, g1, g2⟩ := resV_run hs h1
      obtain ⟨cs, g3, g4⟩ := resVs_run hs rs vs' h2
      refine ⟨c :: cs, ⟨g1, g3⟩, ?_⟩
      rw [List.mapM_cons]
      simp [g2, g4]
    · cases h
theorem res_run (hs : Sim w0 R L N st a w loc γ) {fn : Func} {v : V} (h : resOf P st fn.results.toList = some v) : ∃ c, Rep w0 R loc v c ∧ (results fn a.tmps).run P w = .ok c w := by
  have hres : ∀ cs, (fn.results.toList.mapM (resSem a.tmps)).run P w = .ok cs w → (results fn a.tmps).run P w = .ok (if h : cs.toArray.size = 1 then cs.toArray[0] else .tuple cs.toArray) w := fun cs hc => by
    have e1 : (fn.results.mapM (resSem a.tmps)).run P w = .ok cs.toArray w := by
      rw [Array.mapM_eq_mapM_toList, Sem.run_map, hc]
      rfl
    have e2 : (results fn a.tmps) = (do let vs ← fn.results.mapM (resSem a.tmps); pure (if h : vs.size = 1 then vs[0] else .tuple vs)) := by
      unfold results
      congr 1
    rw [e2]
    simp only [Sem.run_bind, e1, Result.andThen_ok, Sem.run_pure]
  unfold resOf at h
  split at h
  · rename_i v' hv
    obtain rfl := Option.some.inj h
    obtain ⟨cs, g1, g2⟩ := resVs_run hs _ _ hv
    have := g1.length
    match cs, g1, g2, this with
    | [c], g1, g2, _ => exact ⟨c, g1.1, by rw [hres _ g2]; rfl⟩
  · rename_i vs hne hv
    obtain rfl := Option.some.inj h
    obtain ⟨cs, g1, g2⟩ := resVs_run hs _ _ hv
    have hl := g1.length
    refine ⟨.tuple cs.toArray, ⟨cs.toArray, rfl, g1⟩, ?_⟩
    rw [hres _ g2, dif_neg]
    intro h1
    simp only [List.size_toArray] at h1
    rw [← hl] at h1
    match vs, h1, hne with
    | [v], _, hne => exact hne v rfl
  · cases h

/-- what a function leaves, to its caller -/
noncomputable def Left (E : Env) (f : Nat) (x : (E.sig f).T) (w : World) (L : Nat → Prop) (loc : Nat → Loc) (T : Nat) (w1 : World) (R1 : Nat → Prop) (c : Value) (w' : World) : Prop :=
  Frm w L w' ∧ ∃ loc2 γ2, (∀ k, k < T → k < 500 → loc2 k = loc k) ∧ (∀ b k, γ2 b = some k → (w.heap.size ≤ b ∨ L b) ∧ b < w'.heap.size) ∧
    (∀ b k, γ2 b = some k → k < (E.sig f).fin.length ∨ (T ≤ k ∧ k < T + ((E.sig f).inj x T).2.2.length)) ∧
    Rep w1 R1 loc2 ((E.sig f).inj x T).1 c ∧ (∀ id, id ∈ ((E.sig f).inj x T).1.ids → T ≤ id ∧ id < T + ((E.sig f).inj x T).2.2.length) ∧
    ((E.sig f).inj x T).2.1.length = (E.sig f).fin.length ∧ Fins w1 R1 w' loc2 γ2 0 ((E.sig f).inj x T).2.1 T (T + ((E.sig f).inj x T).2.2.length) ∧ News w1 R1 w' loc2 γ2 T ((E.sig f).inj x T).2.2
/-- a function's answer: it is entered and returns, or it is no code and answers -/
noncomputable def Ans (P : Program) (f : FuncId) (args : Array Value) (w : World) (S : Value → World → Prop) : Prop :=
  ((callFunc f args).run P w = .ok (.enter f args) w ∧ Calls P f args w fun e w' => ∃ c, e = .returned c ∧ S c w') ∨ ∃ c w', (callFunc f args).run P w = .ok (.value c) w' ∧ S c w'
noncomputable def Named (P : Program) : Prop := ∀ (f : Nat) (fn : Func), P.funcs[f]? = some fn → fn.body.isSome = true → (fn.name == "runtime.NumGoroutine") = false
noncomputable def FnOkAt (E : Env) (f : Nat) (vs : List V) (os : List O) (x : (E.sig f).T) : Prop :=
  ∀ (w : World) (R L : Nat → Prop) (loc : Nat → Loc) (γ : Nat → Option Nat) (args : Array Value) (T : Nat) (w1 : World) (R1 : Nat → Prop), (E.sig f).fin.length ≤ T → Gl w R → (∀ b, Glb.gb b → R1 b ∧ w1.heap[b]? = w.heap[b]?) →
    (∀ b, R b → b < w.heap.size ∧ ¬ L b) → (∀ b j, γ b = some j → L b ∧ b < w.heap.size) → RepL w R loc vs args.toList → (∀ j o, os[j]? = some o → ObRep w R w loc γ j o) →
    Ans E.P f args w (Left E f x w L loc T w1 R1)
/-- what is asked of all functions -/
noncomputable def FnOk (E : Env) (cf : Cf E) : Prop := ∀ (f : Nat) (vs : List V) (os : List O) (x : (E.sig f).T), cf f vs os = some x → FnOkAt E f vs os x

theorem init_sim {vs : List V} {os : List O} {args : Array Value} (n : Nat) (hg : Gl w R) (hR : ∀ b, R b → b < w.heap.size ∧ ¬ L b) (hγ : ∀ b j, γ b = some j → L b ∧ b < w.heap.size)
    (hv : RepL w R loc vs args.toList) (ho : ∀ j o, os[j]? = some o → ObRep w R w loc γ j o) :
    Sim w R L ⟨args.size + (n - args.size), loc⟩ (initSt vs os) { tmps := args ++ Array.replicate (n - args.size) undef, defers := [] } w loc γ := by
  refine ⟨fun i => ?_, fun j o h => ho j o h, fun b j h => ⟨.inr (hγ b j h).1, (hγ b j h).2⟩, Frm.refl _ _, hR, by simp, rfl, fun _ _ => rfl, hg⟩
  simp only [initSt]
  have hl := hv.length
  have hsz : args.toList.length = args.size := Array.length_toList
  rw [Array.getD_eq_getD_getElem?, Array.getElem?_append]
  cases hi : vs[i]? with
  | some v =>
    have hlt := (List.getElem?_eq_some_iff.1 hi).1
    rw [if_pos (by omega)]
    obtain ⟨c, h1, h2⟩ := hv.get hi
    rw [Array.getElem?_toList] at h1
    rw [h1]
    exact h2
  | none =>
    have hge := List.getElem?_eq_none_iff.1 hi
    rw [if_neg (by omega), Array.getElem?_replicate]
    split <;> exact Rep_undef
theorem run_callFunc {f : FuncId} {fn : Func} {c : Code} {args : Array Value} (hn : Named P) (hf : P.funcs[f]? = some fn) (hb : fn.body = some c) : (callFunc f args).run P w = .ok (.enter f args) w := by
  have h1 := hn f fn hf (by rw [hb]; rfl)
  have h2 : ¬ fn.name = "runtime.NumGoroutine" := by simpa using h1
  simp [callFunc, hf, h2, hb]
theorem evFn_ok (hn : Named E.P) (hC : CallsOk E cf) (hD : DrawOk E cf) {f k : Nat} {fn : Func} {vs : List V} {os : List O} {x : (E.sig f).T} (hf : E.P.funcs[f]? = some fn) (h : evFn E cf f k fn vs os = some x) : FnOkAt E f vs os x := by
  intro w R L loc γ args T w1 R1 hT hg hg1 hR hγ hv ho
  unfold evFn at h
  split at h
  · rename_i c hb
    cases hck : codeOk fn.ntmps c with
    | false => rw [hck] at h; cases h
    | true =>
      rw [hck] at h
      simp only [cond_true] at h
      refine .inl ⟨run_callFunc hn hf hb, calls_of_wp hf hb ?_⟩
      refine code_ok (N := ⟨args.size + (fn.ntmps - args.size), loc⟩) hC hD (norms_ok E os.length) c (codeOk_mono (by show fn.ntmps ≤ args.size + (fn.ntmps - args.size); omega) c hck) _ _ _ _ _ _ _ (init_sim fn.ntmps hg hR hγ hv ho) h (fun e st' a' w' loc' γ' hs hk => ?_)
      have key : ∀ (hk : (match resOf E.P st' fn.results.toList with
          | some v => (E.sig f).proj st'.ob v
          | none => none) = some x), a'.defers = [] ∧ ∃ v, (results fn a'.tmps).run E.P w' = .ok v w' ∧ ∃ c, Ending.returned v = .returned c ∧ Left E f x w L loc T w1 R1 c w' := fun hk => by
        split at hk
        · rename_i v hv'
          obtain ⟨c, g1, g2⟩ := res_run hs hv'
          obtain ⟨loc2, γ2, k1, k2, k3, k4, k5, k6, k7, k8⟩ := Sig.out (w1 := w1) (R1 := R1) (w := w') hg1 hs.ob (E.sig f) T x hT hk g1
          refine ⟨hs.df, c, g2, c, rfl, hs.fr, loc2, γ2, fun k h1 h2 => (k1 k h1).trans (hs.lc k h2), fun b k hb => ?_, k3, k4, k5, k6, k7, k8⟩
          obtain ⟨id, hid⟩ := k2 b k hb
          exact hs.col b id hid
        · cases hk
      unfold finK at hk
      cases e with
      | normal => exact key hk
      | ret => exact key hk
      | _ => cases hk
  · cases h
end
end Go.Eng
namespace Go.Eng
set_option linter.unusedSectionVars false
variable [Glb]
open Go.RowKit
set_option linter.unusedSimpArgs false
set_option linter.unusedVariables false

/-! ### many objects killed -/
noncomputable def killAllO : List Nat → O → O
  | [], o => o
  | id :: ids, o => (killAllO ids o).kill id
noncomputable def killAllL : List Nat → List V → List V
  | [], vs => vs
  | id :: ids, vs => V.kill.go id (killAllL ids vs)
theorem killAllO_row (nl : NI) (e : CTs) (xs : List e.D) : ∀ ns, killAllO ns (.row nl e xs) = .row nl e xs
  | [] => rfl
  | id :: ids => by simp only [killAllO]; rw [killAllO_row nl e xs ids]; rfl
theorem killAllO_box (cs : List V) : ∀ ns, killAllO ns (.box cs) = .box (killAllL ns cs)
  | [] => rfl
  | id :: ids => by simp only [killAllO]; rw [killAllO_box cs ids]; rfl
theorem killAllO_mat (c : CT) (xss : List (List c.D)) : ∀ ns, killAllO ns (.mat c xss) = .mat c xss
  | [] => rfl
  | id :: ids => by simp only [killAllO]; rw [killAllO_mat c xss ids]; rfl
theorem killAllO_bld (s : ByteArray) : ∀ ns, killAllO ns (.bld s) = .bld s
  | [] => rfl
  | id :: ids => by simp only [killAllO]; rw [killAllO_bld s ids]; rfl
mutual
theorem V.kill_id {id : Nat} : ∀ (v : V), id ∉ v.ids → v.kill id = v
  | .un, _ => rfl
  | .int _ _, _ => rfl
  | .bool _, _ => rfl
  | .str _, _ => rfl
  | .nil, _ => rfl
  | .pnil, _ => rfl
  | .ro _ _, _ => rfl
  | .rn _ _, _ => rfl
  | .rc _ _ _, _ => rfl
  | .roel _ _ _, _ => rfl
  | .cst _, _ => rfl
  | .own j, h => by
    have : j ≠ id := fun e => h (by simp [V.ids, e])
    simp only [V.kill, beq_ne this, cond_false]
  | .sub j a b, h => by
    have : j ≠ id := fun e => h (by simp [V.ids, e])
    simp only [V.kill, beq_ne this, cond_false]
  | .el j a b, h => by
    have : j ≠ id := fun e => h (by simp [V.ids, e])
    simp only [V.kill, beq_ne this, cond_false]
  | .box j b, h => by
    have : j ≠ id := fun e => h (by simp [V.ids, e])
    simp only [V.kill, beq_ne this, cond_false]
  | .mt j p, h => by
    have h1 : j ≠ id := fun e => h (by simp [V.ids, e])
    have h2 : gho j ≠ id := fun e => h (by simp [V.ids, e])
    simp only [V.kill, beq_ne h1, beq_ne h2, Bool.and_false, Bool.or_self, cond_false]
  | .agg vs, h => by simp only [V.kill]; rw [V.killL_id vs (by simpa [V.ids] using h)]
  | .tup vs, h => by simp only [V.kill]; rw [V.killL_id vs (by simpa [V.ids] using h)]
  | .fn f a b, h => by
    simp only [V.ids, List.mem_append, not_or] at h
    simp only [V.kill]
    rw [V.killL_id a h.1, V.killL_id b h.2]
theorem V.killL_id {id : Nat} : ∀ (vs : List V), id ∉ V.ids.go vs → V.kill.go id vs = vs
  | [], _ => rfl
  | v :: vs, h => by
    simp only [V.ids.go, List.mem_append, not_or] at h
    simp only [V.kill.go]
    rw [V.kill_id v h.1, V.killL_id vs h.2]
end
theorem killAllL_id : ∀ (ns : List Nat) (v : List V), (∀ id, id ∈ ns → id ∉ V.ids.go v) → killAllL ns v = v
  | [], _, _ => rfl
  | id :: ids, v, h => by
    simp only [killAllL]
    rw [killAllL_id ids v (fun j hj => h j (by simp [hj])), V.killL_id v (h id (by simp))]
theorem killAllO_still (ns : List Nat) {o : O} (h : obIdsO o = []) : killAllO ns o = o := by
  cases o with
  | row nl e xs => exact killAllO_row nl e xs ns
  | bld s => exact killAllO_bld s ns
  | mat c xss => exact killAllO_mat c xss ns
  | box cs =>
    have h : V.ids.go cs = [] := h
    rw [killAllO_box, killAllL_id ns cs (fun id _ hid => by rw [h] at hid; cases hid)]
theorem O.kill_still (id : Nat) {o : O} (h : obIdsO o = []) : o.kill id = o := killAllO_still [id] h
theorem killAllO_append (o : O) (m : List Nat) : ∀ n, killAllO (n ++ m) o = killAllO n (killAllO m o)
  | [] => rfl
  | id :: ids => by simp only [List.cons_append, killAllO]; rw [killAllO_append o m ids]
theorem tmAfter_eq (ns : List Nat) (tm : Nat → V) : tmAfter ns tm = fun i => killAll ns (tm i) := by
  cases ns with
  | nil => rfl
  | cons => rfl
section
variable {E : Env} {cf : Cf E} {P : Program} {w0 w1 w w' : World} {R R1 L : Nat → Prop} {N : Fx} {st st' : St} {a : Act} {loc loc1 loc' : Nat → Loc} {γ γ1 γ' : Nat → Option Nat}
theorem Rep.killAll : ∀ (ns : List Nat) (loc' : Nat → Loc), (∀ j, j ∉ ns → loc' j = loc j) → ∀ (v : V) (c : Value), Rep w0 R loc v c → Rep w0 R loc' (killAll ns v) c
  | [], loc', hl, v, c, h => by
    have : loc' = loc := funext fun j => hl j (by simp)
    subst this
    exact h
  | id :: ids, loc', hl, v, c, h => by
    have h1 := Rep.killAll ids (fun j => if j ∈ ids then loc' j else loc j) (fun j hj => by simp [hj]) v c h
    refine Rep.kill (id := id) (fun j hj => ?_) _ _ h1
    split
    · rfl
    · rename_i hji; exact hl j (by simp [hj, hji])
theorem RepL.killAll : ∀ (ns : List Nat) (loc' : Nat → Loc), (∀ j, j ∉ ns → loc' j = loc j) → ∀ (vs : List V) (cs : List Value), RepL w0 R loc vs cs → RepL w0 R loc' (killAllL ns vs) cs
  | [], loc', hl, v, c, h => by
    have : loc' = loc := funext fun j => hl j (by simp)
    subst this
    exact h
  | id :: ids, loc', hl, v, c, h => by
    have h1 := RepL.killAll ids (fun j => if j ∈ ids then loc' j else loc j) (fun j hj => by simp [hj]) v c h
    refine RepL.kill (id := id) (fun j hj => ?_) _ _ h1
    split
    · rfl
    · rename_i hji; exact hl j (by simp [hj, hji])
theorem ObRep.killAll {ns : List Nat} {j : Nat} {o : O} (hj : j ∉ ns) (hl : ∀ i, i ∉ ns → loc' i = loc i) (hb : ∀ b, γ b = some j → γ' b = some j ∧ w'.heap[b]? = w.heap[b]?) (h : ObRep w0 R w loc γ j o) :
    ObRep w0 R w' loc' γ' j (killAllO ns o) := by
  cases o with
  | row nl e xs =>
    rw [killAllO_row]
    obtain ⟨h1, h2, h3, h4, h5, h6⟩ := h
    simp only [ObRep, hl j hj]
    refine ⟨h1, h2, h3, h4.imp hb (fun _ _ h => h), fun ad cs ty fz ha hc => ?_, h6⟩
    obtain ⟨_, hR, _⟩ := h4.2.2 ad ha
    rw [(hb _ hR).2] at hc
    exact h5 ad cs ty fz ha hc
  | box cs =>
    rw [killAllO_box]
    obtain ⟨b, vals, ty, fz, h1, h2, h3, h4, h5⟩ := h
    simp only [ObRep, hl j hj]
    exact ⟨b, vals, ty, fz, h1, (hb b h2).1, by rw [(hb b h2).2]; exact h3, RepL.killAll ns loc' hl _ _ h4, h5⟩
  | bld s =>
    rw [killAllO_bld]
    obtain ⟨b, p, v, h1, h2, h3, h4⟩ := h
    simp only [ObRep, hl j hj]
    exact ⟨b, p, v, h1, (hb b h2).1, fun g hg => (hb g (h3 g hg)).1, h4.keep (hb b h2).2 fun g hg => (hb g (h3 g hg)).2⟩
  | mat c xss =>
    rw [killAllO_mat]
    exact ObRep.matTo (hl j hj) hb h

/-! ### what is done about a call -/
theorem collect_exec {α : Type} : ∀ (d : Nat) (len : Bool) (vs : List V) (ls : List Nat) (k : List Nat → Eff α) (ob : Ob) (f : Fp) (r : α × Ob × Fp), (collect d len vs ls k).exec ob f = some r → ls.Nodup →
    ∃ ls' f1, ls'.Nodup ∧ (k ls').exec ob f1 = some r ∧ f1.ns = f.ns
  | 0, _, _, _, _, _, _, _, h, _ => by simp [collect, Eff.exec] at h
  | d + 1, len, [], ls, k, ob, f, r, h, hn => ⟨ls, f, hn, by simpa [collect] using h, rfl⟩
  | d + 1, len, v :: vs, ls, k, ob, f, r, h, hn => by
    have two : ∀ (xs : List V) (b : Bool), (collect d b xs ls fun ls' => collect d len vs ls' k).exec ob f = some r → ∃ ls' f1, ls'.Nodup ∧ (k ls').exec ob f1 = some r ∧ f1.ns = f.ns := fun xs b h => by
      obtain ⟨ls1, f1, h1, h2, h3⟩ := collect_exec d _ _ _ _ _ _ _ h hn
      obtain ⟨ls2, f2, h4, h5, h6⟩ := collect_exec d _ _ _ _ _ _ _ h2 h1
      exact ⟨ls2, f2, h4, h5, h6.trans h3⟩
    cases v with
    | own id =>
      simp only [collect] at h
      refine collect_exec d _ _ _ _ _ _ _ h ?_
      cases hc : (len && !ls.contains id) with
      | false => exact hn
      | true =>
        simp only [cond_true]
        simp only [Bool.and_eq_true, Bool.not_eq_true', List.contains_eq_mem, decide_eq_false_iff_not] at hc
        exact List.nodup_append.2 ⟨hn, by simp, fun x hx y hy => by simp only [List.mem_singleton] at hy; subst hy; exact fun e => hc.2 (e ▸ hx)⟩
    | sub id lo hi =>
      simp only [collect] at h
      refine collect_exec d _ _ _ _ _ _ _ h ?_
      cases hc : (len && !ls.contains id) with
      | false => exact hn
      | true =>
        simp only [cond_true]
        simp only [Bool.and_eq_true, Bool.not_eq_true', List.contains_eq_mem, decide_eq_false_iff_not] at hc
        exact List.nodup_append.2 ⟨hn, by simp, fun x hx y hy => by simp only [List.mem_singleton] at hy; subst hy; exact fun e => hc.2 (e ▸ hx)⟩
    | el => simp [collect, Eff.exec] at h
    | mt => simp [collect, Eff.exec] at h
    | box id o =>
      simp only [collect] at h
      cases hc : ls.contains id with
      | true => rw [hc] at h; exact collect_exec d _ _ _ _ _ _ _ h hn
      | false =>
        rw [hc] at h
        simp only [cond_false, Eff.exec] at h
        split at h
        · split at h
          · have hn' : (ls ++ [id]).Nodup := by
              simp only [List.contains_eq_mem, decide_eq_false_iff_not] at hc
              exact List.nodup_append.2 ⟨hn, by simp, fun x hx y hy => by simp only [List.mem_singleton] at hy; subst hy; exact fun e => hc (e ▸ hx)⟩
            obtain ⟨ls1, f1, h1, h2, h3⟩ := collect_exec d _ _ _ _ _ _ _ h hn'
            obtain ⟨ls2, f2, h4, h5, h6⟩ := collect_exec d _ _ _ _ _ _ _ h2 h1
            exact ⟨ls2, f2, h4, h5, h6.trans h3⟩
          · have hn' : (ls ++ [id]).Nodup := by
              simp only [List.contains_eq_mem, decide_eq_false_iff_not] at hc
              exact List.nodup_append.2 ⟨hn, by simp, fun x hx y hy => by simp only [List.mem_singleton] at hy; subst hy; exact fun e => hc (e ▸ hx)⟩
            obtain ⟨ls1, f1, h1, h2, h3⟩ := collect_exec d _ _ _ _ _ _ _ h hn'
            exact ⟨ls1, f1, h1, h2, h3⟩
          · simp [Eff.exec] at h
        · cases h
    | agg xs => simp only [collect] at h; exact two _ _ h
    | fn g x y => simp only [collect] at h; exact two _ _ h
    | _ => simp only [collect] at h; exact collect_exec d _ _ _ _ _ _ _ h hn
theorem collectA_exec {α : Type} : ∀ (mvs : List (Bool × V)) (ls : List Nat) (k : List Nat → Eff α) (ob : Ob) (f : Fp) (r : α × Ob × Fp), (collectA mvs ls k).exec ob f = some r → ls.Nodup →
    ∃ ls' f1, ls'.Nodup ∧ (k ls').exec ob f1 = some r ∧ f1.ns = f.ns
  | [], ls, k, ob, f, r, h, hn => ⟨ls, f, hn, h, rfl⟩
  | (b, v) :: mvs, ls, k, ob, f, r, h, hn => by
    simp only [collectA] at h
    obtain ⟨ls1, f1, h1, h2, h3⟩ := collect_exec _ _ _ _ _ _ _ _ h hn
    obtain ⟨ls2, f2, h4, h5, h6⟩ := collectA_exec mvs _ _ _ _ _ h2 h1
    exact ⟨ls2, f2, h4, h5, h6.trans h3⟩

/-- the blocks that the callee reads only -/
noncomputable def roC (R : Nat → Prop) (γ : Nat → Option Nat) (st : St) (ls : List Nat) (b : Nat) : Prop := R b ∨ ∃ id o, γ b = some id ∧ st.ob id = some o ∧ id ∉ ls
/-- the places of what is lent, under the callee's numbers -/
noncomputable def locC (loc : Nat → Loc) (ls : List Nat) (j : Nat) : Loc := match ls[j]? with
  | some id => loc id
  | none => default
theorem locC_at {ls : List Nat} {id j : Nat} (h : idxFrom id ls 0 = some j) : locC loc ls j = loc id := by
  obtain ⟨_, h2⟩ := idxFrom_get id ls 0 j h
  rw [Nat.sub_zero] at h2
  simp [locC, h2]
theorem idxFrom_none (id : Nat) : ∀ (l : List Nat) (n : Nat), idxFrom id l n = none → id ∉ l
  | [], _, _ => by simp
  | x :: xs, n, h => by
    simp only [idxFrom] at h
    by_cases e : x = id
    · subst e; rw [beq_self] at h; cases h
    · rw [beq_ne e] at h
      simp only [cond_false] at h
      have := idxFrom_none id xs (n + 1) h
      simp only [List.mem_cons, not_or]
      exact ⟨fun h => e h.symm, this⟩
theorem row_ro (hs : Sim w0 R L N st a w loc γ) {ls : List Nat} {id : Nat} {nl : NI} {e : CTs} {xs : List e.D} (ho : st.ob id = some (.row nl e xs)) (hid : id ∉ ls) :
    RowAt w (roC R γ st ls) e.size (CTs.Cells w (roC R γ st ls) e) (loc id).a (loc id).cap xs ∧ (loc id).sz = e.size ∧ (loc id).len = xs.length := by
  obtain ⟨k1, k2, k3, k4, _⟩ := hs.ob id _ ho
  exact ⟨k4.imp (fun b hb => ⟨.inr ⟨id, _, hb, ho, hid⟩, rfl⟩) (fun _ _ h => CTs.Cells.flat _ _ _ k1 h), k2, k3⟩
theorem ro_imp (hs : Sim w0 R L N st a w loc γ) (ls : List Nat) : ∀ b, R b → roC R γ st ls b ∧ w.heap[b]? = w0.heap[b]? := fun b hb => ⟨.inl hb, hs.same hb⟩
theorem export_exec {α : Type} (hs : Sim w0 R L N st a w loc γ) (ls : List Nat) : ∀ (d : Nat) (len : Bool) (vs : List V) (k : List V → Eff α) (f : Fp) (r : α × Ob × Fp), (export_ ls d len vs k).exec st.ob f = some r →
    ∃ ws f1, (k ws).exec st.ob f1 = some r ∧ f1.ns = f.ns ∧ ∀ cs, RepL w0 R loc vs cs → RepL w (roC R γ st ls) (locC loc ls) ws cs
  | 0, _, _, _, _, _, h => by simp [export_, Eff.exec] at h
  | d + 1, len, [], k, f, r, h => ⟨[], f, by simpa [export_] using h, rfl, fun cs hc => by
    cases cs with
    | nil => trivial
    | cons => exact hc.elim⟩
  | d + 1, len, v :: vs, k, f, r, h => by
    -- one value, then the rest
    have one : ∀ (u : V) (f' : Fp), (export_ ls d len vs fun ws => k (u :: ws)).exec st.ob f' = some r → f'.ns = f.ns → (∀ c, Rep w0 R loc v c → Rep w (roC R γ st ls) (locC loc ls) u c) →
        ∃ ws f1, (k ws).exec st.ob f1 = some r ∧ f1.ns = f.ns ∧ ∀ cs, RepL w0 R loc (v :: vs) cs → RepL w (roC R γ st ls) (locC loc ls) ws cs := fun u f' h hf hu => by
      obtain ⟨ws, f1, h1, h2, h3⟩ := export_exec hs ls d _ _ _ _ _ h
      refine ⟨u :: ws, f1, h1, h2.trans hf, fun cs hc => ?_⟩
      cases cs with
      | nil => exact hc.elim
      | cons c cs => exact ⟨hu c hc.1, h3 cs hc.2⟩
    cases v with
    | own id =>
      simp only [export_] at h
      cases hi : idxFrom id ls 0 with
      | some j =>
        rw [hi] at h
        refine one _ _ h rfl fun c hc => ?_
        simp only [Rep, locC_at hi]
        exact hc
      | none =>
        rw [hi] at h
        have hid := idxFrom_none id ls 0 hi
        cases len with
        | true => simp [Eff.exec] at h
        | false =>
          simp only [cond_false, Eff.exec] at h
          split at h
          · rename_i o ho
            split at h
            · rename_i nl e xs
              obtain ⟨k1, k2, k3⟩ := row_ro hs ho hid
              refine one _ _ h rfl fun c hc => ⟨(loc id).a, (loc id).cap, ?_, k1.ro⟩
              rw [← k3]
              exact hc
            · simp [Eff.exec] at h
          · cases h
    | sub id lo hi =>
      simp only [export_] at h
      cases hi' : idxFrom id ls 0 with
      | some j =>
        rw [hi'] at h
        refine one _ _ h rfl fun c hc => ?_
        simp only [Rep, locC_at hi']
        exact hc
      | none =>
        rw [hi'] at h
        have hid := idxFrom_none id ls 0 hi'
        cases len with
        | true => simp [Eff.exec] at h
        | false =>
          simp only [cond_false, Eff.exec] at h
          split at h
          · rename_i o ho
            split at h
            · rename_i nl e xs
              obtain ⟨k1, k2, k3⟩ := row_ro hs ho hid
              refine one _ _ h rfl fun c hc => ?_
              obtain ⟨r0, r1, r2, hr⟩ := hc
              rw [k3] at r2
              have hsub := k1.sub r0 r1 r2
              refine ⟨_, _, ?_, hsub.ro⟩
              have hl : (dropI (takeI xs hi) lo).length = (hi - lo).toNat := by simp [dropI, takeI]; omega
              rw [hl, hr, k2]
            · simp [Eff.exec] at h
          · cases h
    | tup => simp [export_, Eff.exec] at h
    | el => simp [export_, Eff.exec] at h
    | mt => simp [export_, Eff.exec] at h
    | box id o =>
      simp only [export_] at h
      cases hi : idxFrom id ls 0 with
      | some j =>
        rw [hi] at h
        refine one _ _ h rfl fun c hc => ?_
        simp only [Rep, locC_at hi]
        exact hc
      | none => rw [hi] at h; simp [Eff.exec] at h
    | agg xs =>
      simp only [export_] at h
      obtain ⟨ys, f1, h1, h2, h3⟩ := export_exec hs ls d _ _ _ _ _ h
      refine one _ _ h1 h2 fun c hc => ?_
      obtain ⟨cs, hc1, hc2⟩ := hc
      exact ⟨cs, hc1, h3 _ hc2⟩
    | fn g x y =>
      simp only [export_] at h
      obtain ⟨x', f1, h1, h2, h3⟩ := export_exec hs ls d _ _ _ _ _ h
      obtain ⟨y', f2, h4, h5, h6⟩ := export_exec hs ls d _ _ _ _ _ h1
      refine one _ _ h4 (h5.trans h2) fun c hc => ?_
      obtain ⟨cx, cy, hc1, hc2, hc3⟩ := hc
      exact ⟨cx, cy, hc1, h3 _ hc2, h6 _ hc3⟩
    | ro e xs =>
      simp only [export_] at h
      exact one _ _ h rfl fun c hc => CT.Cell.imp (ro_imp hs ls) (.row e) c xs hc
    | rn e xs =>
      simp only [export_] at h
      exact one _ _ h rfl fun c hc => ⟨CT.Cell.imp (ro_imp hs ls) (.row e) c xs hc.1, hc.2⟩
    | rc i e xs =>
      simp only [export_] at h
      exact one _ _ h rfl fun c hc => ⟨hc.1, hc.2.1, CT.Cell.imp (ro_imp hs ls) (.row e) c xs hc.2.2⟩
    | roel e x off =>
      simp only [export_] at h
      refine one _ _ h rfl fun c hc => ?_
      obtain ⟨ad, h1, h2, cs, ty, fz, h3, h4⟩ := hc
      exact ⟨ad, h1, .inl h2, cs, ty, fz, by rw [hs.same h2]; exact h3, CTs.Cells.imp (ro_imp hs ls) e _ x h4⟩
    | un => simp only [export_] at h; exact one _ _ h rfl fun c hc => hc
    | int => simp only [export_] at h; exact one _ _ h rfl fun c hc => hc
    | bool => simp only [export_] at h; exact one _ _ h rfl fun c hc => hc
    | str => simp only [export_] at h; exact one _ _ h rfl fun c hc => hc
    | nil => simp only [export_] at h; exact one _ _ h rfl fun c hc => hc
    | pnil => simp only [export_] at h; exact one _ _ h rfl fun c hc => hc
    | cst => simp only [export_] at h; exact one _ _ h rfl fun c hc => hc
theorem exportA_exec {α : Type} (hs : Sim w0 R L N st a w loc γ) (ls : List Nat) : ∀ (mvs : List (Bool × V)) (k : List V → Eff α) (f : Fp) (r : α × Ob × Fp), (exportA ls mvs k).exec st.ob f = some r →
    ∃ ws f1, (k ws).exec st.ob f1 = some r ∧ f1.ns = f.ns ∧ ∀ cs, RepL w0 R loc (mvs.map (·.2)) cs → RepL w (roC R γ st ls) (locC loc ls) ws cs
  | [], k, f, r, h => ⟨[], f, h, rfl, fun cs hc => by
    cases cs with
    | nil => trivial
    | cons => exact hc.elim⟩
  | (b, v) :: mvs, k, f, r, h => by
    simp only [exportA] at h
    obtain ⟨us, f1, h1, h2, h3⟩ := export_exec hs ls _ _ _ _ _ _ h
    obtain ⟨ws, f2, h4, h5, h6⟩ := exportA_exec hs ls mvs _ _ _ h1
    refine ⟨us ++ ws, f2, h4, h5.trans h2, fun cs hc => ?_⟩
    cases cs with
    | nil => exact hc.elim
    | cons c cs => exact RepL.append (cs := [c]) (h3 [c] ⟨hc.1, trivial⟩) (h6 cs hc.2)
theorem modesOf_snd : ∀ (l : List Bool) (vs : List V), (modesOf l vs).map (·.2) = vs
  | _, [] => by simp [modesOf]
  | [], v :: vs => by simp [modesOf, modesOf_snd [] vs]
  | _ :: l, v :: vs => by simp [modesOf, modesOf_snd l vs]
/-- the colours of what is lent, under the callee's numbers -/
noncomputable def colC (γ : Nat → Option Nat) (ls : List Nat) (b : Nat) : Option Nat := match γ b with
  | some id => idxFrom id ls 0
  | none => none
theorem exportO_exec {α : Type} (hs : Sim w0 R L N st a w loc γ) (ls : List Nat) : ∀ (ids : List Nat) (k : List O → Eff α) (f : Fp) (r : α × Ob × Fp), (exportO ls ids k).exec st.ob f = some r →
    ∃ os f1, (k os).exec st.ob f1 = some r ∧ f1.ns = f.ns ∧ os.length = ids.length ∧ (∀ (i id j : Nat) (o : O), ids[i]? = some id → os[i]? = some o → idxFrom id ls 0 = some j → ObRep w (roC R γ st ls) w (locC loc ls) (colC γ ls) j o) ∧ ∀ id, id ∈ ids → ∃ o, st.ob id = some o
  | [], k, f, r, h => ⟨[], f, h, rfl, rfl, fun i id j o hi => by simp at hi, fun id hid => by simp at hid⟩
  | id :: ids, k, f, r, h => by
    simp only [exportO, Eff.exec] at h
    split at h
    · rename_i o ho
      split at h
      · rename_i nl e xs
        obtain ⟨os, f1, h1, h2, h3, h4, hh⟩ := exportO_exec hs ls ids _ _ _ h
        refine ⟨_, f1, h1, h2, by simp [h3], fun i id' j o' hi ho' hj => ?_, fun id' hid => (List.mem_cons.1 hid).elim (fun e => ⟨_, e ▸ ho⟩) (hh id')⟩
        cases i with
        | succ i => exact h4 i id' j o' hi ho' hj
        | zero =>
          obtain rfl := Option.some.inj hi
          obtain rfl := Option.some.inj ho'
          obtain ⟨k1, k2, k3, k4, k5, k6⟩ := hs.ob _ _ ho
          simp only [ObRep, locC_at hj]
          exact ⟨k1, k2, k3, k4.imp (fun b hb => ⟨by simp only [colC, hb]; exact hj, rfl⟩) (fun _ _ h => CTs.Cells.flat _ _ _ k1 h), k5, k6⟩
      · rename_i cs
        obtain ⟨us, f1, h1, h2, h3⟩ := export_exec hs ls _ _ _ _ _ _ h
        obtain ⟨os, f2, h4, h5, h6, h7, hh⟩ := exportO_exec hs ls ids _ _ _ h1
        refine ⟨_, f2, h4, h5.trans h2, by simp [h6], fun i id' j o' hi ho' hj => ?_, fun id' hid => (List.mem_cons.1 hid).elim (fun e => ⟨_, e ▸ ho⟩) (hh id')⟩
        cases i with
        | succ i => exact h7 i id' j o' hi ho' hj
        | zero =>
          obtain rfl := Option.some.inj hi
          obtain rfl := Option.some.inj ho'
          obtain ⟨b, vals, ty, fz, k1, k2, k3, k4, k5⟩ := hs.ob _ _ ho
          simp only [ObRep, locC_at hj]
          exact ⟨b, vals, ty, fz, k1, by simp only [colC, k2]; exact hj, k3, h3 _ k4, k5⟩
      · rename_i s
        obtain ⟨os, f1, h1, h2, h3, h4, hh⟩ := exportO_exec hs ls ids _ _ _ h
        refine ⟨_, f1, h1, h2, by simp [h3], fun i id' j o' hi ho' hj => ?_, fun id' hid => (List.mem_cons.1 hid).elim (fun e => ⟨_, e ▸ ho⟩) (hh id')⟩
        cases i with
        | succ i => exact h4 i id' j o' hi ho' hj
        | zero =>
          obtain rfl := Option.some.inj hi
          obtain rfl := Option.some.inj ho'
          obtain ⟨b, p, v, k1, k2, k3, k4⟩ := hs.ob _ _ ho
          simp only [ObRep, locC_at hj]
          exact ⟨b, p, v, k1, by simp only [colC, k2]; exact hj, fun g hg => by simp only [colC, k3 g hg]; exact hj, k4⟩
      · simp [Eff.exec] at h
    · cases h
/-- the new numbers, the last one first -/
noncomputable def newIds (j : Nat) : Nat → List Nat
  | 0 => []
  | n + 1 => newIds (j + 1) n ++ [j]
theorem mem_newIds {id : Nat} : ∀ (n j : Nat), id ∈ newIds j n ↔ j ≤ id ∧ id < j + n
  | 0, j => ⟨fun h => by simp [newIds] at h, fun h => by omega⟩
  | n + 1, j => by
    simp only [newIds, List.mem_append, mem_newIds n, List.mem_singleton]
    omega
theorem newAll_exec {α : Type} : ∀ (os : List O) (j : Nat) (k : Eff α) (ob : Ob) (f : Fp) (r : α × Ob × Fp), (newAll os j k).exec ob f = some r → (∀ o, o ∈ os → obIdsO o = []) →
    ∃ ob1 f1, k.exec ob1 f1 = some r ∧ f1.ns = newIds j os.length ++ f.ns ∧ (∀ i, i < os.length → ob (j + i) = none) ∧ (∀ i o, os[i]? = some o → ob1 (j + i) = some o) ∧
      (∀ id, ¬ (j ≤ id ∧ id < j + os.length) → ob1 id = (ob id).map (killAllO (newIds j os.length)))
  | [], j, k, ob, f, r, h, _ => ⟨ob, f, h, rfl, fun i hi => by simp at hi, fun i o hi => by simp at hi, fun id _ => by
    cases hob : ob id <;> simp [newIds, killAllO]⟩
  | o :: os, j, k, ob, f, r, h, hr => by
    simp only [newAll, Eff.exec] at h
    split at h
    · rename_i hj
      have hr0 := hr o (by simp)
      obtain ⟨ob1, f1, h1, h2, h3, h4, h5⟩ := newAll_exec os (j + 1) k _ _ r h (fun o ho => hr o (by simp [ho]))
      refine ⟨ob1, f1, h1, by rw [h2]; simp [newIds], fun i hi => ?_, fun i o' hi => ?_, fun id hid => ?_⟩
      · cases i with
        | zero => exact hj
        | succ i =>
          have := h3 i (by simpa using hi)
          simp only [upd, beq_ne (show j + 1 + i ≠ j by omega), cond_false, killOb] at this
          rw [show j + (i + 1) = j + 1 + i by omega]
          split at this
          · cases this
          · assumption
      · cases i with
        | zero =>
          obtain rfl := Option.some.inj hi
          rw [Nat.add_zero, h5 j (by omega)]
          simp only [upd, beq_self, cond_true, Option.map_some, O.kill_still _ hr0, killAllO_still _ hr0]
        | succ i =>
          have := h4 i o' (by simpa using hi)
          rw [show j + (i + 1) = j + 1 + i by omega]
          exact this
      · simp only [List.length_cons] at hid ⊢
        rw [h5 id (by omega)]
        have hne : id ≠ j := fun e => hid (by omega)
        simp only [upd, beq_ne hne, cond_false, killOb, newIds]
        cases hob : ob id with
        | none => rfl
        | some o' => simp only [Option.map_some, killAllO_append]; rfl
    · cases h
theorem setFins_exec {α : Type} : ∀ (ids : List Nat) (os : List (Option O)) (k : Eff α) (ob : Ob) (f : Fp) (r : α × Ob × Fp), (setFins ids os k).exec ob f = some r → ids.Nodup →
    ∃ ob1 f1, k.exec ob1 f1 = some r ∧ f1.ns = f.ns ∧ ids.length = os.length ∧ (∀ id, id ∉ ids → ob1 id = ob id) ∧ (∀ (i id : Nat) (o : Option O), ids[i]? = some id → os[i]? = some o → ob1 id = o)
  | [], [], k, ob, f, r, h, _ => ⟨ob, f, h, rfl, rfl, fun _ _ => rfl, fun i id o hi => by simp at hi⟩
  | [], _ :: _, _, _, _, _, h, _ => by simp [setFins, Eff.exec] at h
  | _ :: _, [], _, _, _, _, h, _ => by simp [setFins, Eff.exec] at h
  | id :: ids, o :: os, k, ob, f, r, h, hn => by
    simp only [setFins, Eff.exec] at h
    split at h
    · obtain ⟨hn1, hn2⟩ := List.nodup_cons.1 hn
      obtain ⟨ob1, f1, h1, h2, h3, h4, h5⟩ := setFins_exec ids os k _ _ r h hn2
      refine ⟨ob1, f1, h1, h2, by simp [h3], fun id' hid => ?_, fun i id' o' hi ho => ?_⟩
      · simp only [List.mem_cons, not_or] at hid
        rw [h4 id' hid.2]
        simp only [upd, beq_ne hid.1, cond_false]
      · cases i with
        | zero =>
          obtain rfl := Option.some.inj hi
          obtain rfl := Option.some.inj ho
          rw [h4 id hn1]
          simp only [upd, beq_self, cond_true]
        | succ i => exact h5 i id' o' (by simpa using hi) (by simpa using ho)
    · cases h
end
end Go.Eng
namespace Go.Eng
set_option linter.unusedSectionVars false
variable [Glb]
open Go.RowKit
set_option linter.unusedSimpArgs false
set_option linter.unusedVariables false

theorem ftsInj_len : ∀ (fs : List FT) (x : fts fs) (j : Nat), (ftsInj fs x j).1.length = fs.length
  | [], _, _ => rfl
  | [_], _, _ => rfl
  | f :: g :: fs, x, j => by
    have : (ftsInj (f :: g :: fs) x j).1 = (f.inj x.1 j).1 :: (ftsInj (g :: fs) x.2 (j + (f.inj x.1 j).2.length)).1 := rfl
    rw [this, List.length_cons, ftsInj_len (g :: fs)]
    rfl
theorem inj_len : ∀ (s : Sig) (x : s.T) (j : Nat), (s.inj x j).2.1.length = s.fin.length
  | ⟨_, []⟩, _, _ => rfl
  | ⟨r, f :: fs⟩, x, j => by
    have : (Sig.inj ⟨r, f :: fs⟩ x j).2.1 = (ftsInj (f :: fs) x.2 (j + (r.inj x.1 j).2.length)).1 := rfl
    rw [this, ftsInj_len]
theorem newAll_some {α : Type} : ∀ (os : List O) (j : Nat) (k : Eff α) (ob : Ob) (f : Fp) (r : α × Ob × Fp), (newAll os j k).exec ob f = some r → ∃ ob1 f1, k.exec ob1 f1 = some r
  | [], j, k, ob, f, r, h => ⟨ob, f, h⟩
  | o :: os, j, k, ob, f, r, h => by
    simp only [newAll, Eff.exec] at h
    split at h
    · exact newAll_some os _ k _ _ r h
    · cases h
theorem exec_opt {α β : Type} (x : Option β) (k : β → Eff α) (ob : Ob) (f : Fp) : (Eff.opt x k).exec ob f = match x with
    | some b => (k b).exec ob f
    | none => none := by cases x <;> rfl
theorem idxFrom_self : ∀ (l : List Nat) (n i id : Nat), l.Nodup → l[i]? = some id → idxFrom id l n = some (n + i)
  | [], _, _, _, _, h => by simp at h
  | x :: l, n, i, id, hn, h => by
    obtain ⟨h1, h2⟩ := List.nodup_cons.1 hn
    cases i with
    | zero =>
      obtain rfl := Option.some.inj h
      simp only [idxFrom, beq_self, cond_true, Nat.add_zero]
    | succ i =>
      have h : l[i]? = some id := by simpa using h
      have hm : id ∈ l := List.mem_of_getElem? h
      have hne : x ≠ id := fun e => h1 (e ▸ hm)
      simp only [idxFrom, beq_ne hne, cond_false]
      rw [idxFrom_self l (n + 1) i id h2 h]
      congr 1
      omega
theorem args2 {w : World} {R : Nat → Prop} {loc : Nat → Loc} {u v : V} {args : Array Value} (h : RepL w R loc [u, v] args.toList) : ∃ a b, args = #[a, b] ∧ Rep w R loc u a ∧ Rep w R loc v b := by
  match hl : args.toList, h with
  | [a, b], h => exact ⟨a, b, by apply Array.toList_inj.1; rw [hl], h.1, h.2.1⟩
theorem args1 {w : World} {R : Nat → Prop} {loc : Nat → Loc} {u : V} {args : Array Value} (h : RepL w R loc [u] args.toList) : ∃ a, args = #[a] ∧ Rep w R loc u a := by
  match hl : args.toList, h with
  | [a], h => exact ⟨a, by apply Array.toList_inj.1; rw [hl], h.1⟩
section
variable {E : Env} {cf : Cf E}
theorem newAll_ns {α : Type} : ∀ (os : List O) (j : Nat) (k : Eff α) (ob : Ob) (f : Fp) (r : α × Ob × Fp), (newAll os j k).exec ob f = some r → ∃ ob1 f1, k.exec ob1 f1 = some r ∧ f1.ns = newIds j os.length ++ f.ns
  | [], j, k, ob, f, r, h => ⟨ob, f, h, rfl⟩
  | o :: os, j, k, ob, f, r, h => by
    simp only [newAll, Eff.exec] at h
    split at h
    · obtain ⟨ob1, f1, h1, h2⟩ := newAll_ns os _ k _ _ r h
      exact ⟨ob1, f1, h1, by rw [h2]; simp [newIds]⟩
    · cases h
theorem call0_goes (hF : FnOk E cf) {o : Oper} {w0 w : World} {R L : Nat → Prop} {N : Fx} {st : St} {a : Act} {loc : Nat → Loc} {γ : Nat → Option Nat} {f : Nat} {vs : List V} {args : Array Value} {v : V} {ob' : Ob} {f0 f' : Fp}
    (hs : Sim w0 R L N st a w loc γ) (hargs : RepL w0 R loc vs args.toList) (hrun : (execOp a.eval o).run E.P w = (callFunc f args).run E.P w) (h : (callE0 E cf o.dst f vs).exec st.ob f0 = some (v, ob', f')) :
    ∃ ns, f'.ns = ns ++ f0.ns ∧ Goes E.P o w0 R L N st a w v ob' ns := by
  unfold callE0 at h
  obtain ⟨ls, f1, hnd, h1, hns1⟩ := collectA_exec _ _ _ _ _ _ h (by simp)
  cases hle : Nat.ble ls.length 500 with
  | false => rw [hle] at h1; simp [Eff.exec] at h1
  | true =>
    simp only [hle, cond_true] at h1
    have hle := Nat.le_of_ble_eq_true hle
    obtain ⟨us, f2, h2, hns2, hrep⟩ := exportA_exec hs ls _ _ _ _ h1
    rw [modesOf_snd] at hrep
    obtain ⟨os, f3, h3, hns3, hlen3, hob3, hsome⟩ := exportO_exec hs ls ls _ _ _ h2
    change (Eff.opt _ _).exec _ _ = _ at h3
    rw [exec_opt] at h3
    split at h3
    · rename_i y hcf
      generalize hT : tag o.dst 0 = T at h3
      have hT5 : 1000 ≤ T := by
        rw [← hT]; cases o.dst <;> simp only [tag] <;> omega
      have h4 : (newAll ((E.sig f).inj y T).2.2 T (setFins ls ((E.sig f).inj y T).2.1 (.ret ((E.sig f).inj y T).1))).exec st.ob f3 = some (v, ob', f') := by
        revert h3
        generalize ((E.sig f).inj y T).2.1 = fins
        clear hlen3 hob3 hsome hnd h1 hle hrep h2
        cases ls with
        | nil => cases fins <;> exact id
        | cons => exact id
      have hfl : ls.length = (E.sig f).fin.length := by
        obtain ⟨ob1, f4, h5⟩ := newAll_some _ _ _ _ _ _ h4
        obtain ⟨_, _, _, _, h6, _⟩ := setFins_exec _ _ _ _ _ _ h5 hnd
        rw [h6, inj_len]
      have hfns : f'.ns = newIds T ((E.sig f).inj y T).2.2.length ++ f0.ns := by
        obtain ⟨ob1, f4, h5, hns4⟩ := newAll_ns _ _ _ _ _ _ h4
        obtain ⟨ob2, f5, h6, hns5, _⟩ := setFins_exec _ _ _ _ _ _ h5 hnd
        simp only [Eff.exec, Option.some.injEq, Prod.mk.injEq] at h6
        obtain ⟨_, _, rfl⟩ := h6
        rw [hns5, hns4, hns3, hns2, hns1]
      let Lc : Nat → Prop := fun b => ∃ id, γ b = some id ∧ id ∈ ls
      have hcol : ∀ b, Lc b → (w0.heap.size ≤ b ∨ L b) ∧ b < w.heap.size := fun b ⟨id, hb, _⟩ => hs.col b id hb
      have hans := hF f us os y hcf w (roC R γ st ls) Lc (locC loc ls) (colC γ ls) args T w0 R (by omega) ⟨hs.gnow, fun b hb => .inl (hs.gl.2 b hb)⟩ (fun b hb => ⟨hs.gl.2 b hb, (hs.same (hs.gl.2 b hb)).symm⟩) (fun b hb => by
          rcases hb with hb | ⟨id, o', hb, _, hid⟩
          · obtain ⟨q1, q2⟩ := hs.ro b hb
            refine ⟨by have := hs.fr.size; omega, fun hl => ?_⟩
            rcases (hcol b hl).1 with q | q
            · omega
            · exact q2 q
          · refine ⟨(hs.col b id hb).2, fun ⟨id', hb', hid'⟩ => ?_⟩
            rw [hb] at hb'
            obtain rfl := Option.some.inj hb'
            exact hid hid') (fun b j hb => by
          simp only [colC] at hb
          split at hb
          · rename_i id hid
            obtain ⟨_, q⟩ := idxFrom_get id ls 0 j hb
            exact ⟨⟨id, hid, List.mem_of_getElem? q⟩, (hs.col b id hid).2⟩
          · cases hb) (hrep _ hargs) (fun j o' hj => by
          have hjl := (List.getElem?_eq_some_iff.1 hj).1
          have hls : ls[j]? = some (ls[j]'(by omega)) := List.getElem?_eq_getElem (by omega)
          have := hob3 j _ j o' hls hj (by have := idxFrom_self ls 0 j _ hnd hls; rwa [Nat.zero_add] at this)
          exact this)
      refine ⟨newIds T ((E.sig f).inj y T).2.2.length, hfns, ?_⟩
      intro next Q hnext
      have key : ∀ c w', Left E f y w Lc (locC loc ls) T w0 R c w' → next (a.put o.dst c) w' := by
        intro c w' hleft
        obtain ⟨hfr, loc2, γ2, g1, g2, g3, g4, g5, g6, g7, g8⟩ := hleft
        obtain ⟨ob1, f4, h5, hns4, hnone, hnew, hold⟩ := newAll_exec _ _ _ _ _ _ h4 (fun o' ho' => by
          obtain ⟨k, hk⟩ := List.getElem?_of_mem ho'
          exact (g8 k o' hk).1)
        obtain ⟨ob2, f5, h6, hns5, _, hold5, hset5⟩ := setFins_exec _ _ _ _ _ _ h5 hnd
        simp only [Eff.exec, Option.some.injEq, Prod.mk.injEq] at h6
        obtain ⟨rfl, rfl, rfl⟩ := h6
        generalize hn : ((E.sig f).inj y T).2.2.length = n at *
        -- what is lent is not among the new
        have hls_ob : ∀ id, id ∈ ls → ¬ (T ≤ id ∧ id < T + n) := fun id hid hr => by
          obtain ⟨o', ho'⟩ := hsome id hid
          have := hnone (id - T) (by omega)
          rw [show T + (id - T) = id by omega, ho'] at this
          cases this
        let loc'' : Nat → Loc := fun id => if T ≤ id ∧ id < T + n then loc2 id else loc id
        let γ'' : Nat → Option Nat := fun b => match γ2 b with
          | some k => if T ≤ k then some k else ls[k]?
          | none => match γ b with
            | some id => if id ∈ ls ∨ (T ≤ id ∧ id < T + n) then none else some id
            | none => none
        have hold_at : ∀ b id, γ b = some id → id ∉ ls → γ2 b = none := fun b id hb hid => by
          cases hg : γ2 b with
          | none => rfl
          | some k =>
            exfalso
            rcases (g2 b k hg).1 with q | ⟨id', q1, q2⟩
            · have := (hs.col b id hb).2; omega
            · rw [hb] at q1
              obtain rfl := Option.some.inj q1
              exact hid q2
        have hheap : ∀ b id, γ b = some id → id ∉ ls → w'.heap[b]? = w.heap[b]? := fun b id hb hid => by
          refine hfr.block b (hs.col b id hb).2 (fun ⟨id', q1, q2⟩ => ?_)
          rw [hb] at q1
          obtain rfl := Option.some.inj q1
          exact hid q2
        have hfr' : Frm w0 L w' := ⟨hfr.os.trans hs.fr.os, hfr.tape.trans hs.fr.tape, hfr.output.trans hs.fr.output, Nat.le_trans hs.fr.size hfr.size, fun k hk hl => by
          rw [hfr.block k (by have := hs.fr.size; omega) (fun hlc => by
            rcases (hcol k hlc).1 with q | q
            · omega
            · exact hl q)]
          exact hs.fr.block k hk hl⟩
        have hl'' : ∀ j, j ∉ newIds T n → loc'' j = loc j := fun j hj => by
          rw [mem_newIds] at hj
          simp only [loc'']
          rw [if_neg hj]
        refine hnext c w' loc'' γ'' ⟨fun i => ?_, fun id o' ho' => ?_, fun b id hb => ?_, hfr', hs.ro, hs.n, hs.df, fun j hj => ?_, hs.gl⟩ ?_
        · rw [tmAfter_eq]
          exact Rep.killAll _ loc'' hl'' _ _ (hs.tm i)
        · by_cases hid : id ∈ ls
          · -- lent
            obtain ⟨i, hi⟩ := List.getElem?_of_mem hid
            have hil := (List.getElem?_eq_some_iff.1 hi).1
            have hfi : ((E.sig f).inj y T).2.1[i]? = some (((E.sig f).inj y T).2.1[i]'(by omega)) := List.getElem?_eq_getElem (by omega)
            have ho2 := hset5 i id _ hi hfi
            have ho' : ob2 id = some o' := ho'
            rw [ho'] at ho2
            rw [← ho2] at hfi
            obtain ⟨q1, q2⟩ := g7.at_ i o' hfi
            rw [Nat.zero_add] at q1
            have hlo : loc'' id = loc2 i := by
              simp only [loc'']
              rw [if_neg (hls_ob id hid), g1 i (by omega) (by omega)]
              simp [locC, hi]
            have hγ : ∀ b, γ2 b = some i → γ'' b = some id := fun b hb => by
              simp only [γ'', hb]
              rw [if_neg (by omega)]
              exact hi
            cases o' with
            | row nl e xs =>
              obtain ⟨k1, k2, k3, k4, k5, k6⟩ := q1
              simp only [ObRep, hlo]
              exact ⟨k1, k2, k3, k4.imp (fun b hb => ⟨hγ b hb, rfl⟩) (fun _ _ h => h), k5, k6⟩
            | box cs =>
              obtain ⟨b, vals, ty, fz, k1, k2, k3, k4, k5⟩ := q1
              simp only [ObRep, hlo]
              refine ⟨b, vals, ty, fz, k1, hγ b k2, k3, RepL.congr _ _ (fun id' hid' => ?_) k4, k5⟩
              have := q2 id' hid'
              simp only [loc'']
              rw [if_pos this]
            | bld s =>
              obtain ⟨b, p, v, k1, k2, k3, k4⟩ := q1
              simp only [ObRep, hlo]
              exact ⟨b, p, v, k1, hγ b k2, fun g hg => hγ g (k3 g hg), k4⟩
            | mat c xss => exact ObRep.matTo hlo (fun b hb => ⟨hγ b hb, rfl⟩) q1
          · have ho' : ob2 id = some o' := ho'
            rw [hold5 id hid] at ho'
            by_cases hr : T ≤ id ∧ id < T + n
            · -- new
              have hk : ((E.sig f).inj y T).2.2[id - T]? = some (((E.sig f).inj y T).2.2[id - T]'(by omega)) := List.getElem?_eq_getElem (by omega)
              have := hnew _ _ hk
              rw [show T + (id - T) = id by omega, ho'] at this
              rw [← this] at hk
              obtain ⟨q0, q1⟩ := g8 _ _ hk
              rw [show T + (id - T) = id by omega] at q1
              have hlo : loc'' id = loc2 id := by simp only [loc'']; rw [if_pos hr]
              have hγ : ∀ b, γ2 b = some id → γ'' b = some id := fun b hb => by
                simp only [γ'', hb]
                rw [if_pos hr.1]
              cases o' with
              | row nl e xs =>
                obtain ⟨k1, k2, k3, k4, k5, k6⟩ := q1
                simp only [ObRep, hlo]
                exact ⟨k1, k2, k3, k4.imp (fun b hb => ⟨hγ b hb, rfl⟩) (fun _ _ h => h), k5, k6⟩
              | box cs =>
                have q0 : V.ids.go cs = [] := q0
                obtain ⟨b, vals, ty, fz, k1, k2, k3, k4, k5⟩ := q1
                simp only [ObRep, hlo]
                exact ⟨b, vals, ty, fz, k1, hγ b k2, k3, RepL.congr _ _ (fun id' hid' => by rw [q0] at hid'; cases hid') k4, k5⟩
              | bld s =>
                obtain ⟨b, p, v, k1, k2, k3, k4⟩ := q1
                simp only [ObRep, hlo]
                exact ⟨b, p, v, k1, hγ b k2, fun g hg => hγ g (k3 g hg), k4⟩
              | mat c xss => exact ObRep.matTo hlo (fun b hb => ⟨hγ b hb, rfl⟩) q1
            · -- old
              rw [hold id hr] at ho'
              cases hob : st.ob id with
              | none => rw [hob] at ho'; cases ho'
              | some o0 =>
                rw [hob] at ho'
                obtain rfl := Option.some.inj ho'
                refine ObRep.killAll (w := w) (by rw [mem_newIds]; exact hr) hl'' (fun b hb => ⟨?_, hheap b id hb hid⟩) (hs.ob id o0 hob)
                simp only [γ'', hold_at b id hb hid, hb]
                rw [if_neg (by simp only [not_or]; exact ⟨hid, hr⟩)]
        · simp only [γ''] at hb
          split at hb
          · rename_i k hk
            obtain ⟨q1, q2⟩ := g2 b k hk
            refine ⟨?_, q2⟩
            rcases q1 with q | q
            · exact .inl (Nat.le_trans hs.fr.size q)
            · exact (hcol b q).1
          · split at hb
            · rename_i id' hid'
              have := hs.col b id' hid'
              exact ⟨this.1, by have := hfr.size; omega⟩
            · cases hb
        · simp only [loc'']
          rw [if_neg (by omega)]
          exact hs.lc j hj
        · refine Rep.congr _ _ (fun id hid => ?_) g4
          have := g5 id hid
          simp only [loc'']
          rw [if_pos this]
      unfold Oper.wp
      rw [hrun]
      rcases hans with ⟨r1, r2⟩ | ⟨c', w', r1, r2⟩
      · rw [r1, Oper.upon_enter]
        refine r2.mono fun e w' he => ?_
        obtain ⟨c', rfl, he⟩ := he
        exact key c' w' he
      · rw [r1]
        exact key c' w' r2
    · cases h3

theorem killAll_append (v : V) (m : List Nat) : ∀ n, killAll (n ++ m) v = killAll n (killAll m v)
  | [] => rfl
  | id :: ids => by simp only [List.cons_append, killAll]; rw [killAll_append v m ids]
theorem newNil_exec {α : Type} {w0 w : World} {R L : Nat → Prop} {N : Fx} {a : Act} {γ : Nat → Option Nat} : ∀ (l : List (Nat × CTs)) (st : St) (loc : Nat → Loc) (k : Eff α) (f : Fp) (r : α × Ob × Fp), (∀ p, p ∈ l → p.2.flat = true ∧ 500 ≤ p.1) → Sim w0 R L N st a w loc γ →
    (newNil l k).exec st.ob f = some r → ∃ st1 loc1 f1, Sim w0 R L N st1 a w loc1 γ ∧ k.exec st1.ob f1 = some r ∧ (st1.tm = fun i => killAll (l.map (·.1)).reverse (st.tm i)) ∧ f1.ns = (l.map (·.1)).reverse ++ f.ns ∧
      (∀ j, j ∉ l.map (·.1) → loc1 j = loc j) ∧ (∀ p, p ∈ l → loc1 p.1 = { a := none, len := 0, cap := 0, sz := p.2.size }) ∧ ∀ p, p ∈ l → st.ob p.1 = none
  | [], st, loc, k, f, r, _, hs, h => ⟨st, loc, f, hs, h, rfl, rfl, fun _ _ => rfl, fun p hp => absurd hp (by simp), fun p hp => absurd hp (by simp)⟩
  | (id, e) :: l, st, loc, k, f, r, hl, hs, h => by
    simp only [newNil, Eff.exec] at h
    split at h
    · rename_i hid
      obtain ⟨he, h5⟩ := hl (id, e) (by simp)
      have hs' := hs.new (id := id) (o := .row (.is true) e []) (l := { a := none, len := 0, cap := 0, sz := e.size }) (γ' := γ) hid h5 hs.fr (Nat.le_refl _) (fun _ _ _ _ => rfl) (fun b => .inl rfl) (by
          simp only [ObRep, if_true]
          exact ⟨he, trivial, rfl, ⟨by simp, fun _ => rfl, (fun ad h => by cases h)⟩, (fun ad cs ty fz h => by cases h), rfl⟩)
      obtain ⟨st1, loc1, f1, g1, g2, g3, g4, g5, g6, g7⟩ := newNil_exec l _ _ k _ r (fun p hp => hl p (by simp [hp])) hs' h
      have hnot : id ∉ l.map (·.1) := fun hm => by
        obtain ⟨p, hp, rfl⟩ := List.mem_map.1 hm
        have := g7 p hp
        simp only [upd, beq_self, cond_true] at this
        cases this
      refine ⟨st1, loc1, f1, g1, g2, ?_, ?_, fun j hj => ?_, fun p hp => ?_, fun p hp => ?_⟩
      · rw [g3]
        funext i
        show killAll (l.map (·.1)).reverse ((st.tm i).kill id) = killAll (((id, e) :: l).map (·.1)).reverse (st.tm i)
        rw [List.map_cons, List.reverse_cons, killAll_append]
        rfl
      · rw [g4]
        simp
      · simp only [List.map_cons, List.mem_cons, not_or] at hj
        rw [g5 j hj.2, if_neg hj.1]
      · rcases List.mem_cons.1 hp with rfl | hp
        · rw [g5 id hnot]
          simp
        · exact g6 p hp
      · rcases List.mem_cons.1 hp with rfl | hp
        · exact hid
        · have hne : p.1 ≠ id := fun e => hnot (e ▸ List.mem_map_of_mem hp)
          have := g7 p hp
          simp only [upd, beq_ne hne, cond_false, killOb] at this
          cases ho : st.ob p.1 with
          | none => rfl
          | some x => rw [ho] at this; cases this
    · cases h
theorem nilAt_some {P : Program} {b : Bool} {t : TypeId} {v : V} {e : CTs} (h : nilAt P b t v = some e) : v = .nil ∧ e.flat = true := by
  unfold nilAt at h
  split at h
  · split at h
    · rename_i e' n by_ hq
      obtain rfl := Option.some.inj h
      exact ⟨rfl, (elemOf_run hq).2.2.2.2.1⟩
    · cases h
  · cases h
theorem nilIds_ok {P : Program} {T : Nat} (hT : 500 ≤ T) : ∀ (bs : List Bool) (ts : List TypeId) (vs : List V) (i : Nat), ∀ p, p ∈ nilIds P T bs ts vs i → p.2.flat = true ∧ 500 ≤ p.1
  | b :: bs, t :: ts, v :: vs, i, p, hp => by
    simp only [nilIds] at hp
    split at hp
    · rename_i e he
      rcases List.mem_cons.1 hp with rfl | hp
      · exact ⟨(nilAt_some he).2, by show 500 ≤ T + i; omega⟩
      · exact nilIds_ok hT bs ts vs (i + 1) p hp
    · exact nilIds_ok hT bs ts vs (i + 1) p hp
  | [], _, _, _, p, hp => by simp [nilIds] at hp
  | _ :: _, [], _, _, p, hp => by simp [nilIds] at hp
  | _ :: _, _ :: _, [], _, p, hp => by simp [nilIds] at hp
theorem nilVs_rep {w0 : World} {R : Nat → Prop} {P : Program} {T : Nat} {ids : List Nat} {loc loc1 : Nat → Loc} (hl : ∀ j, j ∉ ids → loc1 j = loc j) : ∀ (bs : List Bool) (ts : List TypeId) (vs : List V) (i : Nat) (cs : List Value),
    (∀ p, p ∈ nilIds P T bs ts vs i → loc1 p.1 = { a := none, len := 0, cap := 0, sz := p.2.size }) → RepL w0 R loc vs cs → RepL w0 R loc1 (nilVs P T ids bs ts vs i) cs := by
  have all : ∀ (vs : List V) (cs : List Value), RepL w0 R loc vs cs → RepL w0 R loc1 (vs.map (killAll ids)) cs := by
    intro vs
    induction vs with
    | nil =>
      intro cs h
      cases cs with
      | nil => trivial
      | cons => exact h.elim
    | cons v vs ih =>
      intro cs h
      cases cs with
      | nil => exact h.elim
      | cons c cs => exact ⟨Rep.killAll ids loc1 hl v c h.1, ih cs h.2⟩
  intro bs
  induction bs with
  | nil => intro ts vs i cs _ h; exact all vs cs h
  | cons b bs ih =>
    intro ts vs i cs hn h
    cases ts with
    | nil => exact all vs cs h
    | cons t ts =>
      cases vs with
      | nil =>
        cases cs with
        | nil => trivial
        | cons => exact h.elim
      | cons v vs =>
        cases cs with
        | nil => exact h.elim
        | cons c cs =>
          simp only [nilVs, nilIds] at hn ⊢
          cases he : nilAt P b t v with
          | none =>
            rw [he] at hn
            exact ⟨Rep.killAll ids loc1 hl v c h.1, ih ts vs (i + 1) cs hn h.2⟩
          | some e =>
            rw [he] at hn
            obtain ⟨rfl, _⟩ := nilAt_some he
            have h0 := hn (T + i, e) (by simp)
            have hc : c = .slice none 0 0 := h.1
            refine ⟨?_, ih ts vs (i + 1) cs (fun p hp => hn p (by simp [hp])) h.2⟩
            show Rep w0 R loc1 (.own (T + i)) c
            simp only [Rep]
            rw [show loc1 (T + i) = _ from h0, hc]
/-- behind a method of strings.Builder -/
def BldGo (w w' : World) (b : Nat) (v : Value) (s : ByteArray) : Prop :=
  w'.os = w.os ∧ w'.tape = w.tape ∧ w'.output = w.output ∧ w.heap.size ≤ w'.heap.size ∧ (∀ k, k < w.heap.size → k ≠ b → v.ownBlock ≠ some k → w'.heap[k]? = w.heap[k]?) ∧
    ∃ p' v', BldAt w' b p' v' s ∧ ∀ g, v'.ownBlock = some g → v.ownBlock = some g ∨ w.heap.size ≤ g
def BldEnd (w w' : World) (b : Nat) (v : Value) : Prop :=
  w'.os = w.os ∧ w'.tape = w.tape ∧ w'.output = w.output ∧ w.heap.size ≤ w'.heap.size ∧ ∀ k, k < w.heap.size → k ≠ b → v.ownBlock ≠ some k → w'.heap[k]? = w.heap[k]?
/-- the methods of strings.Builder -/
structure BldOk (E : Env) : Prop where
  ty : BldTy0 E
  call : ∀ (f n : Nat), E.bld f = n + 1 → ∀ args w, (callFunc f args).run E.P w = .ok (.enter f args) w
  ws : ∀ f, E.bld f = 1 → ∀ (b : Nat) (p v : Value) (a s : ByteArray) (w : World), BldAt w b p v a → a.size + s.size ≤ 140737488355328 →
    Calls E.P f #[.pointer (some ⟨b, 0, none⟩), .string s] w fun e w' => e = .returned (.tuple #[.int .i64 s.size, .nilIface]) ∧ BldGo w w' b v (a ++ s)
  wb : ∀ f, E.bld f = 2 → ∀ (b : Nat) (p v : Value) (a : ByteArray) (c : Int) (w : World), BldAt w b p v a → 0 ≤ c → c < 256 → a.size + 1 ≤ 140737488355328 →
    Calls E.P f #[.pointer (some ⟨b, 0, none⟩), .int .u8 c] w fun e w' => e = .returned .nilIface ∧ BldGo w w' b v (a ++ bytesOf [c])
  str : ∀ f, E.bld f = 3 → ∀ (b : Nat) (p v : Value) (a : ByteArray) (w : World), BldAt w b p v a →
    Calls E.P f #[.pointer (some ⟨b, 0, none⟩)] w fun e w' => e = .returned (.string a) ∧ BldEnd w w' b v
  len : ∀ f, E.bld f = 4 → ∀ (b : Nat) (p v : Value) (a : ByteArray) (w : World), BldAt w b p v a →
    Calls E.P f #[.pointer (some ⟨b, 0, none⟩)] w fun e w' => e = .returned (.int .i64 a.size) ∧ w' = w
  gv : GvOk E := by intro g v h; cases h
/-- no strings.Builder -/
theorem BldOk.none (h1 : ∀ f, E.bld f = 0) (h2 : ∀ t, E.isB t = false) (h3 : GvOk E := by intro g v h; cases h) : BldOk E :=
  ⟨fun t h => absurd h (by rw [h2 t]; simp), fun f n h => absurd h (by rw [h1 f]; omega), fun f h => absurd h (by rw [h1 f]; omega), fun f h => absurd h (by rw [h1 f]; omega), fun f h => absurd h (by rw [h1 f]; omega), fun f h => absurd h (by rw [h1 f]; omega), h3⟩
theorem Sim.set_grow {w0 w w' : World} {R L : Nat → Prop} {N : Fx} {st : St} {a : Act} {loc : Nat → Loc} {γ γ' : Nat → Option Nat} (h : Sim w0 R L N st a w loc γ) {id : Nat} {o : O} (hfr : Frm w0 L w') (hsz : w.heap.size ≤ w'.heap.size)
    (hw : ∀ b j, j ≠ id → γ b = some j → w'.heap[b]? = w.heap[b]?) (hγ : ∀ b, γ' b = γ b ∨ (γ' b = some id ∧ w.heap.size ≤ b ∧ b < w'.heap.size)) (ho : ObRep w0 R w' loc γ' id o) : Sim w0 R L N { st with ob := upd st.ob id (some o) } a w' loc γ' := by
  refine ⟨h.tm, fun j o' hj => ?_, fun b j hb => ?_, hfr, h.ro, h.n, h.df, h.lc, h.gl⟩
  · simp only [upd] at hj
    by_cases e : j = id
    · subst e
      rw [beq_self] at hj
      simp only [cond_true, Option.some.injEq] at hj
      subst hj
      exact ho
    · rw [beq_ne e] at hj
      refine (h.ob j o' hj).keep rfl (fun b hb => ⟨?_, hw b j e hb⟩)
      rcases hγ b with q | ⟨_, q, _⟩
      · rw [q]; exact hb
      · have := (h.col b j hb).2; omega
  · rcases hγ b with q | ⟨_, q1, q2⟩
    · rw [q] at hb
      exact ⟨(h.col b j hb).1, by have := (h.col b j hb).2; omega⟩
    · exact ⟨.inl (by have := h.fr.size; omega), q2⟩
section
variable {w0 w w' : World} {R L : Nat → Prop} {N : Fx} {st : St} {a : Act} {loc : Nat → Loc} {γ : Nat → Option Nat}
theorem bld_at (hs : Sim w0 R L N st a w loc γ) {id : Nat} {s : ByteArray} {c : Value} (ho : st.ob id = some (.bld s)) (hc : Rep w0 R loc (.box id 0) c) :
    ∃ b p v, c = .pointer (some ⟨b, 0, none⟩) ∧ (loc id).a = some ⟨b, 0, none⟩ ∧ γ b = some id ∧ (∀ g, v.ownBlock = some g → γ g = some id) ∧ BldAt w b p v s := by
  obtain ⟨b, p, v, h1, h2, h3, h4⟩ := hs.ob id _ ho
  obtain ⟨b', h5, rfl⟩ := hc
  rw [h1] at h5
  simp only [Option.some.injEq, Addr.mk.injEq, and_true] at h5
  subst h5
  exact ⟨b, p, v, rfl, h1, h2, h3, h4⟩
theorem bld_frm (hs : Sim w0 R L N st a w loc γ) {id b : Nat} {v : Value} (h2 : γ b = some id) (h3 : ∀ g, v.ownBlock = some g → γ g = some id) (h : BldEnd w w' b v) : Frm w0 L w' := by
  obtain ⟨g1, g2, g3, g4, g5⟩ := h
  refine ⟨g1.trans hs.fr.os, g2.trans hs.fr.tape, g3.trans hs.fr.output, Nat.le_trans hs.fr.size g4, fun k hk hl => ?_⟩
  have hkw : k < w.heap.size := Nat.lt_of_lt_of_le hk hs.fr.size
  have hno : ∀ j, γ k ≠ some j := fun j hj => by
    rcases (hs.col k j hj).1 with q | q
    · omega
    · exact hl q
  rw [g5 k hkw (fun e => hno id (e ▸ h2)) (fun e => hno id (h3 k e))]
  exact hs.fr.block k hk hl
theorem bld_go (hs : Sim w0 R L N st a w loc γ) {id b : Nat} {v : Value} {s : ByteArray} (h1 : (loc id).a = some ⟨b, 0, none⟩) (h2 : γ b = some id) (h3 : ∀ g, v.ownBlock = some g → γ g = some id) (h : BldGo w w' b v s) :
    ∃ γ', Sim w0 R L N { st with ob := upd st.ob id (some (.bld s)) } a w' loc γ' := by
  obtain ⟨g1, g2, g3, g4, g5, p', v', g6, g7⟩ := h
  have hbl : b < w.heap.size := (hs.col b id h2).2
  refine ⟨fun k => if v'.ownBlock = some k then some id else γ k, hs.set_grow (bld_frm hs h2 h3 ⟨g1, g2, g3, g4, g5⟩) g4 (fun k j hj hk => ?_) (fun k => ?_) ?_⟩
  · refine g5 k (hs.col k j hk).2 (fun e => ?_) (fun e => ?_)
    · subst e; rw [h2] at hk; exact hj (Option.some.inj hk).symm
    · rw [h3 k e] at hk; exact hj (Option.some.inj hk).symm
  · by_cases e : v'.ownBlock = some k
    · simp only [e, if_true]
      rcases g7 k e with q | q
      · exact .inl (h3 k q).symm
      · exact .inr ⟨trivial, q, (g6.2.2.1.lt k e).2⟩
    · simp only [e, if_false]
      exact .inl trivial
  · refine ⟨b, p', v', h1, ?_, fun g hg => by simp [hg], g6⟩
    show (if v'.ownBlock = some b then some id else γ b) = some id
    split
    · rfl
    · exact h2
theorem bld_goes (hB : BldOk E) {o : Oper} {f n : Nat} {vs : List V} {args : Array Value} {v : V} {ob' : Ob} {f0 f' : Fp} (hn : E.bld f = n + 1)
    (hs : Sim w0 R L N st a w loc γ) (hargs : RepL w0 R loc vs args.toList) (hrun : (execOp a.eval o).run E.P w = (callFunc f args).run E.P w) (h : (bldE (n + 1) vs).exec st.ob f0 = some (v, ob', f')) :
    f'.ns = f0.ns ∧ Goes E.P o w0 R L N st a w v ob' [] := by
  have key : ∀ (c : Value) (Q : Ending → World → Prop), Calls E.P f args w (fun e w' => e = .returned c ∧ Q e w') → (∀ w', Q (.returned c) w' → ∃ loc' γ', Sim w0 R L N { st with ob := ob' } a w' loc' γ' ∧ Rep w0 R loc' v c) → Goes E.P o w0 R L N st a w v ob' [] := fun c Q hc hq => by
    intro next Q' hnext
    unfold Oper.wp
    rw [hrun, hB.call f n hn, Oper.upon_enter]
    refine hc.mono fun e w' he => ?_
    obtain ⟨rfl, he⟩ := he
    obtain ⟨loc', γ', q1, q2⟩ := hq w' he
    exact hnext c w' loc' γ' q1 q2
  unfold bldE at h
  split at h
  · rename_i id s hn1
    obtain ⟨c1, c2, rfl, hc1, hc2⟩ := args2 hargs
    obtain rfl : c2 = .string s := hc2
    simp only [Eff.exec] at h
    split at h
    case h_2 => cases h
    rename_i ob1 ho
    split at h
    case h_2 => simp [Eff.exec] at h
    rename_i s0
    simp only [Eff.exec] at h
    split at h
    case h_2 => cases h
    rename_i hle
    rw [ho] at h
    simp only [Option.some.injEq, Prod.mk.injEq] at h
    obtain ⟨rfl, rfl, rfl⟩ := h
    rw [leI_eq, addZ_eq, decide_eq_true_eq] at hle
    obtain ⟨b, p, vv, rfl, h1, h2, h3, h4⟩ := bld_at hs ho hc1
    refine ⟨rfl, key _ _ (hB.ws f (by rw [hn, hn1]) b p vv s0 s w h4 (by simp only [sz, lenBound] at hle; omega)) (fun w' hgo => ?_)⟩
    obtain ⟨γ', hs'⟩ := bld_go hs h1 h2 h3 hgo
    exact ⟨loc, γ', hs', _, rfl, rfl, ⟨rfl, rfl⟩, trivial⟩
  · rename_i id c hn1
    obtain ⟨c1, c2, rfl, hc1, hc2⟩ := args2 hargs
    obtain rfl : c2 = .int .u8 c := hc2
    simp only [Eff.exec] at h
    split at h
    case h_2 => cases h
    rename_i ob1 ho
    split at h
    case h_2 => simp [Eff.exec] at h
    rename_i s0
    simp only [Eff.exec] at h
    split at h
    case h_2 => cases h
    rename_i hl1
    split at h
    case h_2 => cases h
    rename_i hl2
    split at h
    case h_2 => cases h
    rename_i hle
    rw [ho] at h
    simp only [Option.some.injEq, Prod.mk.injEq] at h
    obtain ⟨rfl, rfl, rfl⟩ := h
    rw [leI_eq, addZ_eq, decide_eq_true_eq] at hle
    rw [leI_eq, decide_eq_true_eq] at hl1
    rw [ltI_eq, decide_eq_true_eq] at hl2
    obtain ⟨b, p, vv, rfl, h1, h2, h3, h4⟩ := bld_at hs ho hc1
    refine ⟨rfl, key _ _ (hB.wb f (by rw [hn, hn1]) b p vv s0 c w h4 hl1 hl2 (by simp only [sz, lenBound] at hle; omega)) (fun w' hgo => ?_)⟩
    obtain ⟨γ', hs'⟩ := bld_go hs h1 h2 h3 hgo
    exact ⟨loc, γ', hs', rfl, rfl⟩
  · rename_i id hn1
    obtain ⟨c1, rfl, hc1⟩ := args1 hargs
    simp only [Eff.exec] at h
    split at h
    case h_2 => cases h
    rename_i ob1 ho
    split at h
    case h_2 => simp [Eff.exec] at h
    rename_i s0
    simp only [Eff.exec, ho, Option.some.injEq, Prod.mk.injEq] at h
    obtain ⟨rfl, rfl, rfl⟩ := h
    obtain ⟨b, p, vv, rfl, h1, h2, h3, h4⟩ := bld_at hs ho hc1
    refine ⟨rfl, key _ _ (hB.str f (by rw [hn, hn1]) b p vv s0 w h4) (fun w' hgo => ⟨loc, γ, ?_, rfl⟩)⟩
    have hfr := bld_frm hs h2 h3 hgo
    obtain ⟨g1, g2, g3, g4, g5⟩ := hgo
    refine ⟨hs.tm, fun j o' hj => ?_, fun k j hk => ⟨(hs.col k j hk).1, by have := (hs.col k j hk).2; omega⟩, hfr, hs.ro, hs.n, hs.df, hs.lc, hs.gl⟩
    simp only [upd] at hj
    by_cases e : j = id
    · subst e; rw [beq_self] at hj; cases hj
    · rw [beq_ne e] at hj
      refine (hs.ob j o' hj).keep rfl (fun k hk => ⟨hk, g5 k (hs.col k j hk).2 (fun e' => ?_) (fun e' => ?_)⟩)
      · subst e'; rw [h2] at hk; exact e (Option.some.inj hk).symm
      · rw [h3 k e'] at hk; exact e (Option.some.inj hk).symm
  · rename_i id hn1
    obtain ⟨c1, rfl, hc1⟩ := args1 hargs
    simp only [Eff.exec] at h
    split at h
    case h_2 => cases h
    rename_i ob1 ho
    split at h
    case h_2 => simp [Eff.exec] at h
    rename_i s0
    simp only [Eff.exec, Option.some.injEq, Prod.mk.injEq] at h
    obtain ⟨rfl, rfl, rfl⟩ := h
    obtain ⟨b, p, vv, rfl, h1, h2, h3, h4⟩ := bld_at hs ho hc1
    refine ⟨rfl, key _ _ (hB.len f (by rw [hn, hn1]) b p vv s0 w h4) (fun w' hgo => ⟨loc, γ, ?_, rfl⟩)⟩
    subst hgo
    exact hs
  · simp [Eff.exec] at h
end
theorem calls_ok (hF : FnOk E cf) (hB : BldOk E) : CallsOk E cf := by
  refine ⟨?_, hB.ty, hB.gv⟩
  intro o w0 w R L N st a loc γ c x f first cap v ob' f' hs hop hc hx h
  have hrx := hs.eval x
  rw [hx] at hrx
  obtain ⟨X, Y, hX, hf1, hf2⟩ := hrx
  have hargs : RepL w0 R loc (first ++ c.args.toList.map st.rv ++ cap) (X ++ c.args.map a.eval ++ Y).toList := by
    simp only [Array.toList_append, Array.toList_map]
    exact (RepL.append hf1 (hs.evals _)).append hf2
  have hrun : (execOp a.eval o).run E.P w = (callFunc f (X ++ c.args.map a.eval ++ Y)).run E.P w := by
    have e1 : resolve a.eval c o.type = pure { target := .fn (.func f) Y, args := X ++ c.args.map a.eval } := by
      obtain ⟨callee, args, argTypes⟩ := c
      simp only at hc
      subst hc
      simp only [resolve, hX, Deferred.ofValue]
    unfold execOp
    rw [hop]
    simp only [e1, invoke, Sem.run_bind, Sem.run_pure, Result.andThen_ok]
  generalize hvs : first ++ c.args.toList.map st.rv ++ cap = vs at h hargs
  generalize X ++ c.args.map a.eval ++ Y = args at hargs hrun
  unfold callE at h
  split at h
  case h_2 =>
    rename_i hn0
    obtain ⟨m, hm⟩ : ∃ m, E.bld f = m + 1 := by
      cases hq : E.bld f with
      | zero => exact absurd hq hn0
      | succ m => exact ⟨m, rfl⟩
    rw [hm] at h
    obtain ⟨hns, hg⟩ := bld_goes hB hm hs hargs hrun h
    rw [hns]
    exact hg
  unfold callE1 at h
  have hT9 : 500 ≤ tag o.dst 900 := by cases o.dst <;> simp only [tag] <;> omega
  obtain ⟨st1, loc1, f1, hs1, h1, htm, hns1, hloc, hnil, _⟩ := newNil_exec _ st loc _ _ _ (nilIds_ok hT9 _ _ _ _) hs h
  have hargs1 := nilVs_rep (P := E.P) (T := tag o.dst 900) (ids := ((nilIds E.P (tag o.dst 900) (E.lend f) (paramsOf E.P f) vs 0).map (·.1)).reverse) (loc1 := loc1) (fun j hj => hloc j (by simpa using hj)) (E.lend f) (paramsOf E.P f) vs 0 _ hnil hargs
  obtain ⟨ns, hns, hg⟩ := call0_goes hF hs1 hargs1 hrun h1
  intro next Q hnext
  refine hg next Q (fun c w' loc' γ' hs' hv => hnext c w' loc' γ' ?_ hv)
  have e : tmAfter f'.ns st.tm = tmAfter ns st1.tm := by
    rw [hns, hns1, tmAfter_eq, tmAfter_eq, htm]
    funext i
    simp only [List.append_nil]
    rw [killAll_append]
  rw [e]
  exact hs'
end
end Go.Eng
