/- slices.SortFunc by contract, of a row that is not empty. -/
import Derived.Test.YtfbhkkedmfbgbaaDoorES
import Derived.Sort.AssemblyPlain
import Derived.Shelf.SlSortCmp.InsertionK
namespace Go.Eng
set_option linter.unusedSectionVars false
set_option linter.unusedSimpArgs false
set_option linter.unusedVariables false
open Go.RowKit Go.Sort
variable [Glb]
instance CTs.inh (e : CTs) : Inhabited e.D := ⟨e.zero⟩
/-- the row as Go's pdqsort leaves it -/
noncomputable def srtF {α : Type} [Inhabited α] (cf : α → α → Int) (xs : List α) : List α := (pdq (Go.Proofs.ltOf cf) xs.toArray 0 xs.length (Lib.bitLen xs.length) true true).toList
theorem srtF_perm {α : Type} [Inhabited α] {cf : α → α → Int} (hO : SWO (Go.Proofs.ltOf cf)) (xs : List α) : (srtF cf xs).Perm xs ∧ (srtF cf xs).Pairwise fun a b => Go.Proofs.ltOf cf b a = false := by
  have h := pdq_sorts (Go.Proofs.ltOf cf) hO xs.toArray 0 xs.length (Lib.bitLen xs.length) true true (Nat.zero_le _) (by simp) (Or.inl rfl)
  obtain ⟨⟨h1, h2, h3⟩, h4⟩ := h
  have hs : (pdq (Go.Proofs.ltOf cf) xs.toArray 0 xs.length (Lib.bitLen xs.length) true true).size = xs.length := by rw [h1]; simp
  refine ⟨?_, ?_⟩
  · have e1 : ∀ a : Array α, a.size = xs.length → a.extract 0 xs.length = a := fun a ha => by rw [← ha]; simp
    rw [e1 _ hs, e1 _ (by simp)] at h3
    exact h3
  · rw [List.pairwise_iff_getElem]
    intro i j hi hj hij
    have hj' : j < xs.length := by simpa [srtF, hs] using hj
    have := h4 i j (Nat.zero_le _) hij hj'
    rw [getElem!_pos _ i (by omega), getElem!_pos _ j (by omega)] at this
    simpa [srtF] using this
noncomputable def xSortF (e : CTs) (g : Nat) (cf : e.D → e.D → Int) (vs : List V) (os : List O) : Option (Unit × List e.D) := match vs, os with
  | [.own 0, .fn g' [] []], .row nl e' xs :: _ => if h : CTs.same e' e = true then bif Nat.beq g' g then if 0 < (CTs.cast h xs).length ∧ (CTs.cast h xs).length < 4611686018427387904 then some ((), srtF cf (CTs.cast h xs)) else none else none else none
  | _, _ => none
theorem xSortF_ok {E : Env} {f : Nat} {e : CTs} {g : Nat} {cf : e.D → e.D → Int} {vs : List V} {os : List O} {x : (E.sig f).T} {y : Unit × List e.D} (hO : SWO (Go.Proofs.ltOf cf)) (he : e.flat = true) (hent : ∀ args w, (callFunc f args).run E.P w = .ok (.enter f args) w)
    (hinj : ∀ T, (E.sig f).inj x T = (.tup [], [some (.row .unk e y.2)], [])) (hfin : (E.sig f).fin.length = 1) (h : xSortF e g cf vs os = some y)
    (hcall : ∀ (blk off cap : Nat) (d : Array e.D) (w : World), HoldsK e.enc e.size w blk off d → blk < w.heap.size → d.size < 4611686018427387904 →
      Calls E.P f #[.slice (some ⟨blk, off, none⟩) d.size cap, .func (.func g) #[] #[]] w fun r w' => r = .returned (.tuple #[]) ∧ ∃ n os, w' = Go.Proofs.sortWorldK e.enc e.size w blk off n (pdq (Go.Proofs.ltOf cf) d 0 d.size (Lib.bitLen d.size) true true) os) : FnOkAt E f vs os x := by
  unfold xSortF at h
  split at h
  · rename_i g' nl e' xs tl
    split at h
    · rename_i hs
      cases hg : Nat.beq g' g with
      | false => rw [hg] at h; cases h
      | true =>
        rw [hg] at h
        simp only [cond_true] at h
        split at h
        · rename_i hl
          obtain rfl := Option.some.inj h
          obtain rfl := CTs.eq_of_same _ _ hs
          obtain rfl := Nat.eq_of_beq_eq_true hg
          have harg : ∀ (w : World) (R : Nat → Prop) (loc : Nat → Loc) (args : Array Value) (c : Value), RepL w R loc [.own 0, .fn g' [] []] args.toList → args[0]? = some c → args = #[c, .func (.func g') #[] #[]] := fun w R loc args c hv hc => by
            obtain ⟨a, b, ha, _, hb⟩ := hv.two
            obtain ⟨x1, y1, hb, hx, hy⟩ := hb
            have hx : x1 = #[] := by
              cases hq : x1.toList with
              | nil => exact Array.toList_inj.1 hq
              | cons p q => rw [hq] at hx; exact hx.elim
            have hy : y1 = #[] := by
              cases hq : y1.toList with
              | nil => exact Array.toList_inj.1 hq
              | cons p q => rw [hq] at hy; exact hy.elim
            subst hx hy
            rw [ha] at hc ⊢
            simp at hc
            rw [hc, hb]
          refine sortRow_ok (e := e') (xs := xs) (ys := srtF cf xs) hent he hinj hfin rfl (srtF_perm hO xs).1.length_eq rfl (fun w R loc args blk off cap hv ha hH hb => ?_) (fun hx w R loc args p cap hv ha => ?_)
          · rw [harg w R loc args _ hv ha]
            have := hcall blk off cap xs.toArray w hH hb (by rw [List.size_toArray]; exact hl.2)
            simp only [List.size_toArray] at this
            refine this.mono fun r w' ⟨h1, n, os', h2⟩ => ⟨h1, n, os', ?_⟩
            rw [h2]
            rfl
          · subst hx
            exact absurd hl.1 (by simp [CTs.cast])
        · cases h
    · cases h
  · cases h
end Go.Eng
