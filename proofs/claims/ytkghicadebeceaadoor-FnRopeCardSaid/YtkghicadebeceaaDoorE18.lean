/- What a function leaves: its answer, and what was lent to it. -/
import Derived.Test.YtkghicadebeceaaDoorE17
namespace Go.Eng
set_option linter.unusedSectionVars false
variable [Glb]
open Go.RowKit
set_option linter.unusedSimpArgs false
set_option linter.unusedVariables false

section
variable {w0 w1 w w' : World} {R R1 L : Nat → Prop} {loc loc1 loc' : Nat → Loc} {γ γ1 γ' : Nat → Option Nat}
theorem ftProj_row (ob : Ob) (id : Nat) (u : List Nat) (e : CTs) : FT.proj ob id u (.row e) = bif u.contains id then none else match ob id with
    | some (.row _ e' xs) => if h : CTs.same e' e = true then some (CTs.cast h xs, id :: u) else none
    | _ => none := rfl
theorem ftProj_box (ob : Ob) (id : Nat) (u : List Nat) (rs : RTs) : FT.proj ob id u (.box rs) = bif u.contains id then none else match ob id with
    | some (.box cs) => RTs.proj ob rs (id :: u) cs
    | _ => none := rfl
theorem ftProj_bld (ob : Ob) (id : Nat) (u : List Nat) : FT.proj ob id u .bld = bif u.contains id then none else match ob id with
    | some (.bld s) => some (s, id :: u)
    | _ => none := rfl
/-- one object that was lent -/
theorem FT.out {ob : Ob} (hg : ∀ b, Glb.gb b → R1 b ∧ w1.heap[b]? = w0.heap[b]?) (hob : ∀ id o, ob id = some o → ObRep w0 R w loc γ id o) (f : FT) {i j T : Nat} {u u' : List Nat} {x : f.T} (hi : i < T) (hT : T ≤ j) (h : f.proj ob i u = some (x, u')) (hinv : Inv γ u γ1)
    (hc : ∀ b k, γ1 b = some k → k < i ∨ (T ≤ k ∧ k < j)) (hl : loc1 i = loc i) :
    ∃ loc2 γ2, Fur j loc1 γ1 loc2 γ2 ∧ Inv γ u' γ2 ∧ (∀ b k, γ2 b = some k → k < i + 1 ∨ (T ≤ k ∧ k < j + (f.inj x j).2.length)) ∧
      (∀ o, (f.inj x j).1 = some o → ObRep w1 R1 w loc2 γ2 i o ∧ ∀ id, id ∈ obIdsO o → j ≤ id ∧ id < j + (f.inj x j).2.length) ∧ News w1 R1 w loc2 γ2 j (f.inj x j).2 := by
  have hcol : ∀ (hu : u.contains i = false), Inv γ (i :: u) (fun b => if γ b = some i then some i else γ1 b) ∧ (∀ b k, γ1 b = some k → (fun b => if γ b = some i then some i else γ1 b) b = some k) := fun hu => by
    have hnu : i ∉ u := by simpa using hu
    refine ⟨fun b k hb => ?_, fun b k hb => ?_⟩
    · dsimp only at hb
      split at hb
      · rename_i hγ; exact ⟨i, List.mem_cons_self, hγ⟩
      · obtain ⟨id', h1, h2⟩ := hinv b k hb
        exact ⟨id', List.mem_cons_of_mem _ h1, h2⟩
    · obtain ⟨id', h1, h2⟩ := hinv b k hb
      dsimp only
      rw [if_neg (fun hγ => by rw [h2] at hγ; obtain rfl := Option.some.inj hγ; exact hnu h1)]
      exact hb
  cases f with
  | dead =>
    have h : some ((), u) = some (x, u') := h
    obtain rfl : u = u' := congrArg (Prod.snd (α := Unit)) (Option.some.inj h)
    refine ⟨loc1, γ1, Fur.refl _ _ _, hinv, fun b k hb => ?_, fun o ho => (by cases ho), News.nil⟩
    show k < i + 1 ∨ (T ≤ k ∧ k < j + 0)
    have := hc b k hb; omega
  | row e =>
    rw [ftProj_row] at h
    cases hu : u.contains i with
    | true => rw [hu] at h; cases h
    | false =>
      rw [hu] at h
      simp only [cond_false] at h
      obtain ⟨c1, c2⟩ := hcol hu
      split at h
      · rename_i nl e' xs ho
        split at h
        · rename_i hs
          obtain rfl := CTs.eq_of_same _ _ hs
          have h := Option.some.inj h
          obtain rfl : i :: u = u' := congrArg Prod.snd h
          obtain rfl : xs = x := congrArg Prod.fst h
          obtain ⟨k1, k2, k3, k4, k5, k6⟩ := hob i _ ho
          refine ⟨loc1, _, ⟨fun _ _ => rfl, c2⟩, c1, fun b k hb => ?_, fun o ho' => ?_, News.nil⟩
          · show k < i + 1 ∨ (T ≤ k ∧ k < j + 0)
            have hb : (if γ b = some i then some i else γ1 b) = some k := hb
            split at hb
            · have := Option.some.inj hb; omega
            · have := hc b k hb; omega
          · have ho' : some (O.row .unk e' xs) = some o := ho'
            obtain rfl := Option.some.inj ho'
            refine ⟨?_, fun id hid => absurd hid (by simp [obIdsO])⟩
            simp only [ObRep, hl]
            exact ⟨k1, k2, k3, k4.imp (fun b hb => ⟨by rw [if_pos hb], rfl⟩) (fun _ _ h => CTs.Cells.flat _ _ _ k1 h), k5, trivial⟩
        · cases h
      · cases h
  | bld =>
    rw [ftProj_bld] at h
    cases hu : u.contains i with
    | true => rw [hu] at h; cases h
    | false =>
      rw [hu] at h
      simp only [cond_false] at h
      obtain ⟨c1, c2⟩ := hcol hu
      split at h
      · rename_i s ho
        have h := Option.some.inj h
        obtain rfl : i :: u = u' := congrArg Prod.snd h
        obtain rfl : s = x := congrArg Prod.fst h
        obtain ⟨b, p, v, k1, k2, k3, k4⟩ := hob i _ ho
        refine ⟨loc1, _, ⟨fun _ _ => rfl, c2⟩, c1, fun b k hb => ?_, fun o ho' => ?_, News.nil⟩
        · show k < i + 1 ∨ (T ≤ k ∧ k < j + 0)
          have hb : (if γ b = some i then some i else γ1 b) = some k := hb
          split at hb
          · have := Option.some.inj hb; omega
          · have := hc b k hb; omega
        · have ho' : some (O.bld s) = some o := ho'
          obtain rfl := Option.some.inj ho'
          refine ⟨?_, fun id hid => absurd hid (by simp [obIdsO])⟩
          simp only [ObRep, hl]
          exact ⟨b, p, v, k1, by rw [if_pos k2], fun g hg => by rw [if_pos (k3 g hg)], k4⟩
      · cases h
  | box rs =>
    rw [ftProj_box] at h
    cases hu : u.contains i with
    | true => rw [hu] at h; cases h
    | false =>
      rw [hu] at h
      simp only [cond_false] at h
      obtain ⟨c1, c2⟩ := hcol hu
      split at h
      · rename_i cs ho
        obtain ⟨b, vals, ty, fz, k1, k2, k3, k4, k5⟩ := hob i _ ho
        obtain ⟨loc2, γ2, g1, g2, g3, g4⟩ := RTs.out (w1 := w1) (R1 := R1) hg hob rs (i :: u) u' cs x vals.toList j loc1 _ h k4 c1 (fun b k hb => by
          have hb : (if γ b = some i then some i else γ1 b) = some k := hb
          split at hb
          · have := Option.some.inj hb; omega
          · have := hc b k hb; omega)
        have hlen : ((FT.box rs).inj x j).2.length = (rs.inj x j).2.length := rfl
        refine ⟨loc2, γ2, ⟨g1.fur.loc, fun b k hb => g1.fur.col b k (c2 b k hb)⟩, g1.inv, fun b' k hb => ?_, fun o ho' => ?_, g3⟩
        · rw [hlen]
          rcases g1.lt b' k hb with hb | hb
          · have hb : (if γ b' = some i then some i else γ1 b') = some k := hb
            split at hb
            · have := Option.some.inj hb; omega
            · have := hc b' k hb; omega
          · omega
        · have ho' : some (O.box (rs.inj x j).1) = some o := ho'
          obtain rfl := Option.some.inj ho'
          refine ⟨⟨b, vals, ty, fz, ?_, ?_, k3, g2, k5⟩, fun id hid => g4 id hid⟩
          · rw [g1.fur.loc i (by omega), hl]; exact k1
          · exact g1.fur.col b i (by simp [k2])
      · cases h
theorem ftsProj_one (ob : Ob) (i : Nat) (u : List Nat) (f : FT) : ftsProj ob i u [f] = match f.proj ob i u with
    | some (x, _) => some x
    | none => none := by first | rfl | (simp only [ftsProj]; rfl)
theorem ftsProj_cons (ob : Ob) (i : Nat) (u : List Nat) (f g : FT) (fs : List FT) : ftsProj ob i u (f :: g :: fs) = match f.proj ob i u with
    | some (x, u1) => match ftsProj ob (i + 1) u1 (g :: fs) with
      | some xs => some (x, xs)
      | none => none
    | none => none := by first | rfl | (simp only [ftsProj]; rfl)
/-- what was lent, at the end -/
structure Fins (w1 : World) (R1 : Nat → Prop) (w : World) (loc : Nat → Loc) (γ : Nat → Option Nat) (i : Nat) (l : List (Option O)) (m n : Nat) : Prop where
  at_ : ∀ k o, l[k]? = some (some o) → ObRep w1 R1 w loc γ (i + k) o ∧ ∀ id, id ∈ obIdsO o → m ≤ id ∧ id < n
theorem fts_out {ob : Ob} (hg : ∀ b, Glb.gb b → R1 b ∧ w1.heap[b]? = w0.heap[b]?) (hob : ∀ id o, ob id = some o → ObRep w0 R w loc γ id o) {T : Nat} : ∀ (fs : List FT) (i j : Nat) (u : List Nat) (x : fts fs) (loc1 : Nat → Loc) (γ1 : Nat → Option Nat), i + fs.length ≤ T → T ≤ j → ftsProj ob i u fs = some x → Inv γ u γ1 →
    (∀ b k, γ1 b = some k → k < i ∨ (T ≤ k ∧ k < j)) → (∀ k, k < T → loc1 k = loc k) →
    ∃ loc2 γ2, Fur j loc1 γ1 loc2 γ2 ∧ (∀ b k, γ2 b = some k → ∃ id, γ b = some id) ∧ (∀ b k, γ2 b = some k → k < i + fs.length ∨ (T ≤ k ∧ k < j + (ftsInj fs x j).2.length)) ∧
      (ftsInj fs x j).1.length = fs.length ∧ Fins w1 R1 w loc2 γ2 i (ftsInj fs x j).1 j (j + (ftsInj fs x j).2.length) ∧ News w1 R1 w loc2 γ2 j (ftsInj fs x j).2
  | [], i, j, u, x, loc1, γ1, hi, hj, h, hinv, hc, hl => by
    refine ⟨loc1, γ1, Fur.refl _ _ _, fun b k hb => ?_, fun b k hb => ?_, rfl, ⟨fun k o hk => ?_⟩, News.nil⟩
    · obtain ⟨id, _, h⟩ := hinv b k hb; exact ⟨id, h⟩
    · show k < i + 0 ∨ (T ≤ k ∧ k < j + 0)
      exact hc b k hb
    · have hk : ([] : List (Option O))[k]? = some (some o) := hk
      simp at hk
  | [f], i, j, u, x, loc1, γ1, hi, hj, h, hinv, hc, hl => by
    simp only [List.length_singleton] at hi
    rw [ftsProj_one] at h
    cases e1 : f.proj ob i u with
    | none => rw [e1] at h; cases h
    | some p =>
      obtain ⟨x1, u1⟩ := p
      rw [e1] at h
      obtain rfl : x1 = x := Option.some.inj h
      obtain ⟨loc2, γ2, g1, g2, g3, g4, g5⟩ := FT.out (w1 := w1) (R1 := R1) hg hob f (by omega) hj e1 hinv hc (hl i (by omega))
      refine ⟨loc2, γ2, g1, fun b k hb => ?_, g3, rfl, ⟨fun k o hk => ?_⟩, g5⟩
      · obtain ⟨id, _, h⟩ := g2 b k hb; exact ⟨id, h⟩
      · have hk : [(f.inj x1 j).1][k]? = some (some o) := hk
        cases k with
        | zero => exact g4 o (Option.some.inj hk)
        | succ k => simp at hk
  | f :: g :: fs, i, j, u, x, loc1, γ1, hi, hj, h, hinv, hc, hl => by
    simp only [List.length_cons] at hi
    rw [ftsProj_cons] at h
    cases e1 : f.proj ob i u with
    | none => rw [e1] at h; cases h
    | some p =>
      obtain ⟨x1, u1⟩ := p
      rw [e1] at h
      dsimp only at h
      cases e2 : ftsProj ob (i + 1) u1 (g :: fs) with
      | none => rw [e2] at h; cases h
      | some xs =>
        rw [e2] at h
        obtain rfl : (x1, xs) = x := Option.some.inj h
        obtain ⟨loc2, γ2, g1, g2, g3, g4, g5⟩ := FT.out (w1 := w1) (R1 := R1) hg hob f (by omega) hj e1 hinv hc (hl i (by omega))
        obtain ⟨loc3, γ3, k1, k2, k3, k4, k5, k6⟩ := fts_out hg hob (g :: fs) (i + 1) (j + (f.inj x1 j).2.length) u1 xs loc2 γ2 (by simp only [List.length_cons]; omega) (by omega) e2 g2 g3 (fun k hk => (g1.loc k (by omega)).trans (hl k hk))
        have hos : (ftsInj (f :: g :: fs) (x1, xs) j).2 = (f.inj x1 j).2 ++ (ftsInj (g :: fs) xs (j + (f.inj x1 j).2.length)).2 := rfl
        have hlen : (ftsInj (f :: g :: fs) (x1, xs) j).2.length = (f.inj x1 j).2.length + (ftsInj (g :: fs) xs (j + (f.inj x1 j).2.length)).2.length := by rw [hos, List.length_append]
        have hl1 : (ftsInj (f :: g :: fs) (x1, xs) j).1 = (f.inj x1 j).1 :: (ftsInj (g :: fs) xs (j + (f.inj x1 j).2.length)).1 := rfl
        refine ⟨loc3, γ3, g1.trans k1 (by omega), k2, fun b k hb => ?_, by rw [hl1, List.length_cons, k4]; rfl, ⟨fun k o hk => ?_⟩, ?_⟩
        · rw [hlen]
          have := k3 b k hb
          simp only [List.length_cons] at this ⊢
          omega
        · rw [hl1] at hk
          rw [hlen]
          cases k with
          | zero =>
            obtain ⟨q1, q2⟩ := g4 o (Option.some.inj hk)
            exact ⟨q1.fur k1 (by omega) (fun id hid => (q2 id hid).2), fun id hid => by have := q2 id hid; omega⟩
          | succ k =>
            obtain ⟨q1, q2⟩ := k5.at_ k o hk
            rw [show i + (k + 1) = i + 1 + k by omega]
            exact ⟨q1, fun id hid => by have := q2 id hid; omega⟩
        · rw [hos]
          exact (g5.fur k1 (Nat.le_refl _)).append k6
/-- all that a function leaves -/
theorem Sig.out {ob : Ob} (hg : ∀ b, Glb.gb b → R1 b ∧ w1.heap[b]? = w0.heap[b]?) (hob : ∀ id o, ob id = some o → ObRep w0 R w loc γ id o) (s : Sig) (T : Nat) (x : s.T) {v : V} {c : Value} (hT : s.fin.length ≤ T) (h : s.proj ob v = some x) (hr : Rep w0 R loc v c) :
    ∃ loc2 γ2, (∀ k, k < T → loc2 k = loc k) ∧ (∀ b k, γ2 b = some k → ∃ id, γ b = some id) ∧ (∀ b k, γ2 b = some k → k < s.fin.length ∨ (T ≤ k ∧ k < T + (s.inj x T).2.2.length)) ∧
      Rep w1 R1 loc2 (s.inj x T).1 c ∧ (∀ id, id ∈ (s.inj x T).1.ids → T ≤ id ∧ id < T + (s.inj x T).2.2.length) ∧
      (s.inj x T).2.1.length = s.fin.length ∧ Fins w1 R1 w loc2 γ2 0 (s.inj x T).2.1 T (T + (s.inj x T).2.2.length) ∧ News w1 R1 w loc2 γ2 T (s.inj x T).2.2 := by
  obtain ⟨r, fin⟩ := s
  cases fin with
  | nil =>
    simp only [Sig.proj] at h
    cases e1 : RT.proj ob r [] v with
    | none => rw [e1] at h; cases h
    | some p =>
      obtain ⟨x1, u1⟩ := p
      rw [e1] at h
      obtain rfl : x1 = x := Option.some.inj h
      obtain ⟨loc2, γ2, g1, g2, g3, g4⟩ := RT.out (w1 := w1) (R1 := R1) hg hob r [] u1 v x1 c T loc (fun _ => none) e1 hr (fun b k hb => by cases hb) (fun b k hb => by cases hb)
      refine ⟨loc2, γ2, g1.fur.loc, fun b k hb => ?_, fun b k hb => ?_, g2, g4, rfl, ⟨fun k o hk => ?_⟩, g3⟩
      · obtain ⟨id, _, h⟩ := g1.inv b k hb; exact ⟨id, h⟩
      · rcases g1.lt b k hb with h | h
        · cases h
        · exact .inr h
      · have hk : ([] : List (Option O))[k]? = some (some o) := hk
        simp at hk
  | cons f fs =>
    simp only [Sig.proj] at h
    cases e1 : RT.proj ob r [] v with
    | none => rw [e1] at h; cases h
    | some p =>
      obtain ⟨x1, u1⟩ := p
      rw [e1] at h
      dsimp only at h
      cases e2 : ftsProj ob 0 u1 (f :: fs) with
      | none => rw [e2] at h; cases h
      | some ys =>
        rw [e2] at h
        obtain rfl : (x1, ys) = x := Option.some.inj h
        obtain ⟨loc2, γ2, g1, g2, g3, g4⟩ := RT.out (w1 := w1) (R1 := R1) hg hob r [] u1 v x1 c T loc (fun _ => none) e1 hr (fun b k hb => by cases hb) (fun b k hb => by cases hb)
        obtain ⟨loc3, γ3, k1, k2, k3, k4, k5, k6⟩ := fts_out (w1 := w1) (R1 := R1) (T := T) hg hob (f :: fs) 0 (T + (r.inj x1 T).2.length) u1 ys loc2 γ2 (by simpa using hT) (by omega) e2 g1.inv (fun b k hb => by
          rcases g1.lt b k hb with h | h
          · cases h
          · exact .inr h) g1.fur.loc
        have hos : (Sig.inj ⟨r, f :: fs⟩ (x1, ys) T).2.2 = (r.inj x1 T).2 ++ (ftsInj (f :: fs) ys (T + (r.inj x1 T).2.length)).2 := rfl
        have hlen : (Sig.inj ⟨r, f :: fs⟩ (x1, ys) T).2.2.length = (r.inj x1 T).2.length + (ftsInj (f :: fs) ys (T + (r.inj x1 T).2.length)).2.length := by rw [hos, List.length_append]
        have hv : (Sig.inj ⟨r, f :: fs⟩ (x1, ys) T).1 = (r.inj x1 T).1 := rfl
        refine ⟨loc3, γ3, fun k hk => (k1.loc k (by omega)).trans (g1.fur.loc k hk), k2, fun b k hb => ?_, ?_, fun id hid => ?_, k4, ⟨fun k o hk => ?_⟩, ?_⟩
        · rw [hlen]
          have := k3 b k hb
          simp only [List.length_cons] at this ⊢
          omega
        · rw [hv]
          exact Rep.congr _ _ (fun id hid => k1.loc id (g4 id hid).2) g2
        · rw [hv] at hid
          have := g4 id hid
          rw [hlen]; omega
        · rw [hlen]
          obtain ⟨q1, q2⟩ := k5.at_ k o hk
          exact ⟨q1, fun id hid => by have := q2 id hid; omega⟩
        · rw [hos]
          exact (g3.fur k1 (Nat.le_refl _)).append k6
end
end Go.Eng
