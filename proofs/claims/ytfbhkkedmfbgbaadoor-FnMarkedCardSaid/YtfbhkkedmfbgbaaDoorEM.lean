/- Rows of rows: what the operations do to them. -/
import Derived.Test.YtfbhkkedmfbgbaaDoorEB
namespace Go.Eng
set_option linter.unusedSectionVars false
variable [Glb]
open Go.RowKit
set_option linter.unusedSimpArgs false
set_option linter.unusedVariables false
section
variable {w0 w w' : World} {R L : Nat → Prop} {N : Fx} {st : St} {a : Act} {loc : Nat → Loc} {γ : Nat → Option Nat} {P : Program}
/-! ### rows of rows -/
theorem flatT_run {t : TypeId} (h : flatT P t = true) : tagg P t = some false := by
  unfold flatT at h
  split at h
  · assumption
  · cases h
theorem one_run {t : TypeId} (h : one? P t = true) : ∃ e, slElem P t = some (e, 1) := by
  unfold one? at h
  split at h
  · rename_i e n hq
    exact ⟨e, by rw [hq, Nat.eq_of_beq_eq_true h]⟩
  · cases h
theorem mtLoad_run {t : TypeId} {id : Nat} {p : MP} {v : V} {cx : Value} {ob' : Ob} {f f' : Fp} (h : (mtLoadE P t id p).exec st.ob f = some (v, ob', f')) (hs : Sim w0 R L N st a w loc γ) (hx : Rep w0 R loc (.mt id p) cx) :
    ob' = st.ob ∧ f'.ns = f.ns ∧ ∃ c, Rep w0 R loc v c ∧ (Instr.loadAt t cx).run P w = .ok c w := by
  unfold mtLoadE at h
  cases hf : flatT P t with
  | false => rw [hf] at h; simp [Eff.exec] at h
  | true =>
    rw [hf] at h
    have ht := flatT_run hf
    simp only [cond_true] at h
    split at h
    · rename_i i
      simp only [Eff.exec] at h
      split at h
      · rename_i o ho
        split at h
        · rename_i c xss
          simp only [Eff.exec, Option.some.injEq, Prod.mk.injEq] at h
          obtain ⟨rfl, rfl, rfl⟩ := h
          obtain ⟨hi0, hi1, ad, had, rfl⟩ := hx
          obtain ⟨_, _, hlen, ad', cs, ty, fz, k1, k2, k3, k4, k5, k6, k7⟩ := hs.ob id _ ho
          rw [had] at k1
          obtain rfl := Option.some.inj k1
          have hi1' := hi1
          rw [hlen] at hi1'
          obtain ⟨_, q2, _⟩ := k7 _ _ (rd_get (z := []) hi0 hi1')
          exact ⟨rfl, rfl, _, ⟨hi0, hi1, rfl⟩, by simp only [Instr.loadAt, Instr.sureAddr, Sem.run_bind, Sem.run_pure, Result.andThen_ok]; exact run_loadVar_one k4 ht (by rw [Array.getElem?_toList]; exact q2)⟩
        · simp [Eff.exec] at h
      · cases h
    · rename_i i j
      simp only [Eff.exec] at h
      split at h
      · rename_i o ho
        split at h
        · rename_i c xss
          simp only [Eff.exec, Option.some.injEq, Prod.mk.injEq] at h
          obtain ⟨rfl, rfl, rfl⟩ := h
          obtain ⟨hi0, hi1, hj0, hj1, bd, hbd, rfl⟩ := hx
          obtain ⟨_, _, hlen, ad', cs, ty, fz, k1, k2, k3, k4, k5, k6, k7⟩ := hs.ob id _ ho
          rw [hlen] at hi1
          obtain ⟨q1, _, q3, _⟩ := k7 _ _ (rd_get (z := []) hi0 hi1)
          obtain ⟨hsp, hγ, cs', ty', fz', hh, hcap, hcells⟩ := q3.2.2 bd hbd
          rw [q1] at hj1
          obtain ⟨u, hu, hc⟩ := hcells _ _ (rd_get (z := c.zero) hj0 hj1)
          rw [List.getElem?_drop, Nat.mul_one, Nat.add_zero] at hu
          exact ⟨rfl, rfl, u, CT.rep_toV _ _ _ hc, by simp only [Instr.loadAt, Instr.sureAddr, Sem.run_bind, Sem.run_pure, Result.andThen_ok]; exact run_loadVar_one hh ht hu⟩
        · simp [Eff.exec] at h
      · cases h
    · simp [Eff.exec] at h
theorem pickBox_exec {id : Nat} {i : Int} {ob ob' : Ob} {v : V} {f f' : Fp} (hi : 0 ≤ i) : ∀ (n m : Nat), (pickBox id i m n).exec ob f = some (v, ob', f') → (m : Int) ≤ i → v = .box id i.toNat ∧ ob' = ob ∧ f' = f
  | 0, m, h, _ => by simp [pickBox, Eff.exec] at h
  | n + 1, m, h, hm => by
    simp only [pickBox, Eff.exec] at h
    split at h
    · rename_i hc
      simp only [eqI_eq, decide_eq_true_eq] at hc
      simp only [Option.some.injEq, Prod.mk.injEq] at h
      obtain ⟨rfl, rfl, rfl⟩ := h
      subst hc
      exact ⟨by simp, rfl, rfl⟩
    · rename_i hc
      simp only [eqI_eq, decide_eq_false_iff_not] at hc
      exact pickBox_exec hi n (m + 1) h (by omega)
theorem mtIndex_run {t : TypeId} {id : Nat} {p : MP} {i v : V} {cx ci : Value} {ob' : Ob} {f f' : Fp} (h : (mtIndexE P t id p i).exec st.ob f = some (v, ob', f')) (hs : Sim w0 R L N st a w loc γ)
    (hx : Rep w0 R loc (.mt id p) cx) (hi : Rep w0 R loc i ci) : ob' = st.ob ∧ f'.ns = f.ns ∧ ∃ c, Rep w0 R loc v c ∧ (Instr.indexAt t cx ci).run P w = .ok c w := by
  unfold mtIndexE at h
  split at h
  · rename_i k i
    obtain rfl := hi
    simp only [Eff.exec] at h
    split at h
    · rename_i o ho
      split at h
      · rename_i c xss
        cases hb : one? P t with
        | false => rw [hb] at h; simp [Eff.exec] at h
        | true =>
          rw [hb] at h
          obtain ⟨e, hq⟩ := one_run hb
          obtain ⟨hu, ⟨b, htb⟩, hn⟩ := slElem_run hq
          simp only [cond_true, Eff.exec] at h
          split at h
          · rename_i h1
            split at h
            · rename_i h2
              simp only [leI_eq, ltI_eq, decide_eq_true_eq] at h1
              simp only [leI_eq, ltI_eq, decide_eq_true_eq, ln] at h2
              simp only [Option.some.injEq, Prod.mk.injEq] at h
              obtain ⟨rfl, rfl, rfl⟩ := h
              obtain rfl := hx
              obtain ⟨_, _, hlen, ad', cs, ty, fz, k1, k2, k3, k4, k5, k6, k7⟩ := hs.ob id _ ho
              rw [← hlen] at h2
              obtain ⟨bk, off, sp⟩ := ad'
              simp only at k2
              subst k2
              refine ⟨rfl, rfl, _, ⟨h1, h2, _, k1, rfl⟩, ?_⟩
              simp only [Instr.indexAt, asIntOf, Sem.run_bind, Sem.run_pure, Result.andThen_ok, run_underlying hu, k1]
              rw [if_pos ⟨h1, h2⟩]
              simp [Sem.run_bind, run_size htb, ← hn, add_at]
            · cases h
          · cases h
      · simp [Eff.exec] at h
    · cases h
  · rename_i i k j
    obtain rfl := hi
    simp only [Eff.exec] at h
    split at h
    · rename_i o ho
      split at h
      · rename_i c xss
        cases hb : one? P t with
        | false => rw [hb] at h; simp [Eff.exec] at h
        | true =>
          rw [hb] at h
          obtain ⟨e, hq⟩ := one_run hb
          obtain ⟨hu, ⟨b, htb⟩, hn⟩ := slElem_run hq
          simp only [cond_true, Eff.exec] at h
          split at h
          · rename_i h1
            split at h
            · rename_i h2
              simp only [leI_eq, ltI_eq, decide_eq_true_eq] at h1
              simp only [leI_eq, ltI_eq, decide_eq_true_eq, ln] at h2
              simp only [Option.some.injEq, Prod.mk.injEq] at h
              obtain ⟨rfl, rfl, rfl⟩ := h
              obtain ⟨hi0, hi1, rfl⟩ := hx
              obtain ⟨_, _, hlen, ad', cs, ty, fz, k1, k2, k3, k4, k5, k6, k7⟩ := hs.ob id _ ho
              have hi1' := hi1
              rw [hlen] at hi1'
              obtain ⟨q1, _, q3, _⟩ := k7 _ _ (rd_get (z := []) hi0 hi1')
              rw [← q1] at h2
              cases hbd : ((loc id).inn i.toNat).1 with
              | none =>
                have e1 := q3.2.1 hbd
                have e2 := q3.1
                rw [e1] at e2
                have e3 : ((loc id).inn i.toNat).2.1 ≤ 0 := by rw [q1]; exact e2
                omega
              | some bd =>
                have hsp := (q3.2.2 bd hbd).1
                obtain ⟨bk, off, sp⟩ := bd
                simp only at hsp
                subst hsp
                refine ⟨rfl, rfl, _, ⟨hi0, hi1, h1, h2, _, hbd, rfl⟩, ?_⟩
                simp only [Instr.indexAt, asIntOf, Sem.run_bind, Sem.run_pure, Result.andThen_ok, run_underlying hu]
                rw [if_pos ⟨h1, h2⟩]
                simp [Sem.run_bind, run_size htb, ← hn, add_at]
            · cases h
          · cases h
      · simp [Eff.exec] at h
    · cases h
  · rename_i n k i
    obtain rfl := hi
    cases hb : one? P t with
    | false => rw [hb] at h; simp [Eff.exec] at h
    | true =>
      rw [hb] at h
      obtain ⟨e, hq⟩ := one_run hb
      obtain ⟨hu, ⟨b, htb⟩, hn⟩ := slElem_run hq
      simp only [cond_true, Eff.exec] at h
      split at h
      · rename_i h1
        split at h
        · rename_i h2
          simp only [leI_eq, ltI_eq, decide_eq_true_eq] at h1 h2
          obtain ⟨bk, hbk, rfl⟩ := hx
          obtain ⟨rfl, rfl, rfl⟩ := pickBox_exec h1 n 0 h (by omega)
          refine ⟨rfl, rfl, _, ⟨bk, hbk, rfl⟩, ?_⟩
          simp only [Instr.indexAt, asIntOf, Sem.run_bind, Sem.run_pure, Result.andThen_ok, run_underlying hu]
          rw [if_pos ⟨h1, h2⟩]
          simp [Sem.run_bind, run_size htb, ← hn, add_at]
        · cases h
      · cases h
  · simp [Eff.exec] at h
theorem gho_eq {i j : Nat} : Nat.beq (gho i) (gho j) = Nat.beq i j := by
  by_cases h : i = j
  · subst h; rw [beq_self, beq_self]
  · rw [beq_ne h, beq_ne (by unfold gho; omega)]
section
variable {loc' : Nat → Loc} {id : Nat} (hl : ∀ j, j ≠ id → loc' j = loc j) (ha : (loc' id).a = (loc id).a ∧ (loc' id).len = (loc id).len ∧ (loc' id).cap = (loc id).cap ∧ (loc' id).sz = (loc id).sz)
include hl ha
theorem loc_same (j : Nat) : (loc' j).a = (loc j).a ∧ (loc' j).len = (loc j).len ∧ (loc' j).cap = (loc j).cap ∧ (loc' j).sz = (loc j).sz := by
  by_cases e : j = id
  · subst e; exact ha
  · rw [hl j e]; exact ⟨rfl, rfl, rfl, rfl⟩
mutual
theorem Rep.killg : ∀ (v : V) (c : Value), Rep w0 R loc v c → Rep w0 R loc' (v.kill (gho id)) c
  | .un, _, _ => trivial
  | .int _ _, _, h => h
  | .bool _, _, h => h
  | .str _, _, h => h
  | .nil, _, h => h
  | .pnil, _, h => h
  | .ro _ _, _, h => h
  | .rn _ _, _, h => h
  | .rc _ _ _, _, h => h
  | .roel _ _ _, _, h => h
  | .cst _, _, h => h
  | .own j, c, h => by
    obtain ⟨e1, e2, e3, e4⟩ := loc_same hl ha j
    simp only [V.kill]
    cases Nat.beq j (gho id) with
    | true => trivial
    | false => simp only [cond_false, Rep, e1, e2, e3]; exact h
  | .sub j a b, c, h => by
    obtain ⟨e1, e2, e3, e4⟩ := loc_same hl ha j
    simp only [V.kill]
    cases Nat.beq j (gho id) with
    | true => trivial
    | false => simp only [cond_false, Rep, e1, e2, e3, e4]; exact h
  | .el j a b, c, h => by
    obtain ⟨e1, e2, e3, e4⟩ := loc_same hl ha j
    simp only [V.kill]
    cases Nat.beq j (gho id) with
    | true => trivial
    | false => simp only [cond_false, Rep, e1, e2, e3, e4]; exact h
  | .box j b, c, h => by
    obtain ⟨e1, e2, e3, e4⟩ := loc_same hl ha j
    simp only [V.kill]
    cases Nat.beq j (gho id) with
    | true => trivial
    | false => simp only [cond_false, Rep, e1]; exact h
  | .mt j p, c, h => by
    obtain ⟨e1, e2, e3, e4⟩ := loc_same hl ha j
    simp only [V.kill]
    cases Nat.beq j (gho id) with
    | true => trivial
    | false =>
      rw [gho_eq]
      by_cases e : j = id
      · subst e
        rw [beq_self]
        cases p with
        | all => simp only [MP.loose, Bool.false_and, Bool.or_self, cond_false, Rep, e1, e2, e3]; exact h
        | adr i => simp only [MP.loose, Bool.false_and, Bool.or_self, cond_false, Rep, e1, e2]; exact h
        | row i => trivial
        | cel i j => trivial
        | bsl n => simp only [MP.loose, Bool.false_and, Bool.or_self, cond_false, Rep, e1]; exact h
      · rw [beq_ne e, Bool.and_false, Bool.or_self, cond_false]
        simp only [Rep, hl j e]
        exact h
  | .agg vs, _, ⟨cs, hc, h⟩ => ⟨cs, hc, RepL.killg vs cs.toList h⟩
  | .tup vs, _, ⟨cs, hc, h⟩ => ⟨cs, hc, RepL.killg vs cs.toList h⟩
  | .fn _ a b, _, ⟨x, y, hc, h, h'⟩ => ⟨x, y, hc, RepL.killg a x.toList h, RepL.killg b y.toList h'⟩
theorem RepL.killg : ∀ (vs : List V) (cs : List Value), RepL w0 R loc vs cs → RepL w0 R loc' (V.kill.go (gho id) vs) cs
  | [], [], _ => trivial
  | v :: vs, c :: cs, h => ⟨Rep.killg v c h.1, RepL.killg vs cs h.2⟩
  | [], _ :: _, h => h.elim
  | _ :: _, [], h => h.elim
end
theorem ObRep.killg {γ' : Nat → Option Nat} {w' : World} {j : Nat} {o : O} (hj : j ≠ id) (hb : ∀ b, γ b = some j → γ' b = some j ∧ w'.heap[b]? = w.heap[b]?) (h : ObRep w0 R w loc γ j o) :
    ObRep w0 R w' loc' γ' j (o.kill (gho id)) := by
  cases o with
  | row nl e xs =>
    obtain ⟨h1, h2, h3, h4, h5, h6⟩ := h
    simp only [O.kill, ObRep, hl j hj]
    refine ⟨h1, h2, h3, h4.imp hb (fun _ _ h => h), fun ad cs ty fz ha hc => ?_, h6⟩
    obtain ⟨_, hR, _⟩ := h4.2.2 ad ha
    rw [(hb _ hR).2] at hc
    exact h5 ad cs ty fz ha hc
  | box cs =>
    obtain ⟨b, vals, ty, fz, h1, h2, h3, h4, h5⟩ := h
    simp only [O.kill, ObRep, hl j hj]
    exact ⟨b, vals, ty, fz, h1, (hb b h2).1, by rw [(hb b h2).2]; exact h3, RepL.killg hl ha _ _ h4, h5⟩
  | bld s =>
    obtain ⟨b, p, v, h1, h2, h3, h4⟩ := h
    simp only [O.kill, ObRep, hl j hj]
    exact ⟨b, p, v, h1, (hb b h2).1, fun g hg => (hb g (h3 g hg)).1, h4.keep (hb b h2).2 fun g hg => (hb g (h3 g hg)).2⟩
  | mat c xss => exact ObRep.matTo (hl j hj) hb h
end
theorem cells_slice {a : Option Addr} {l c : Nat} : (Value.slice a l c).cells.toList = [Value.slice a l c] := rfl
theorem cell_one {c : CT} {u : Value} {d : c.D} (hfl : (CTs.one c).flat = true) (hcell : CT.Cell w0 R c u d) : u.cells.toList = [u] ∧ ∀ x ∈ u.cells.toList, x.oneCell' = true := by
  cases c with
  | row e => simp [CTs.flat] at hfl
  | int k =>
    have hc : u = .int k d := hcell
    subst hc
    exact ⟨rfl, fun x hx => by rw [List.mem_singleton.1 hx]; rfl⟩
  | bool =>
    have hc : u = .bool d := hcell
    subst hc
    exact ⟨rfl, fun x hx => by rw [List.mem_singleton.1 hx]; rfl⟩
  | str =>
    have hc : u = .string d := hcell
    subst hc
    exact ⟨rfl, fun x hx => by rw [List.mem_singleton.1 hx]; rfl⟩
theorem set_get {α : Type} (xs : List α) (j k : Nat) (d x : α) (h : (xs.set j d)[k]? = some x) (hj : j < xs.length) : (j = k ∧ x = d) ∨ (j ≠ k ∧ xs[k]? = some x) := by
  rw [List.getElem?_set] at h
  by_cases e : j = k
  · subst e
    rw [if_pos rfl, if_pos hj] at h
    exact .inl ⟨rfl, (Option.some.inj h).symm⟩
  · rw [if_neg e] at h
    exact .inr ⟨e, h⟩
theorem mtCel_goes {o : Oper} {t : TypeId} {x y : Operand} {id : Nat} {i j : Int} {ob' : Ob} {f' : Fp} {v : V} (hop : o.op = .store t x y) (hs : Sim w0 R L N st a w loc γ) (hx : st.rv x = .mt id (.cel i j))
    (h : (mtStoreE P t id (.cel i j) (st.rv y)).exec st.ob ⟨[], [], []⟩ = some (v, ob', f')) : Goes P o w0 R L N st a w v ob' f'.ns := by
  have ex := hs.eval x
  have ey := hs.eval y
  rw [hx] at ex
  unfold mtStoreE at h
  cases hf : flatT P t && Nat.beq (tsize P t) 1 with
  | false => rw [hf] at h; simp [Eff.exec] at h
  | true =>
    rw [hf] at h
    rw [Bool.and_eq_true] at hf
    have ht := flatT_run hf.1
    have hsz := Nat.eq_of_beq_eq_true hf.2
    simp only [cond_true, Eff.exec] at h
    split at h
    · rename_i ox ho
      split at h
      · rename_i c xss
        split at h
        · rename_i d hd
          simp only [Eff.exec, ho, Option.some.injEq, Prod.mk.injEq] at h
          obtain ⟨rfl, rfl, rfl⟩ := h
          obtain ⟨hi0, hi1, hj0, hj1, bd, hbd, hxv⟩ := ex
          obtain ⟨hfl, hsz1, hlen, ad, cs, ty, fz, k1, k2, k3, k4, k5, k6, k7⟩ := hs.ob id _ ho
          rw [hlen] at hi1
          have hrow := rd_get (z := []) hi0 hi1
          obtain ⟨q1, q2, q3, q4, q5, q6⟩ := k7 _ _ hrow
          obtain ⟨hsp, hγ, cs', ty', fz', hh, hcap, hcells⟩ := q3.2.2 bd hbd
          have hj1' : j < (List.length (α := c.D) (rd xss i [])) := by rw [← q1]; exact hj1
          have hcell := CT.ofV_rep hd ey
          obtain ⟨hone, h1⟩ := cell_one hfl hcell
          have hcl : List.length (α := c.D) (rd xss i []) ≤ ((loc id).inn i.toNat).2.2 := q3.1
          have hle : bd.off + j.toNat + (a.eval y).cells.toList.length ≤ cs'.size := by rw [hone, List.length_singleton]; omega
          have hrun := store_run (P := P) (o := bd.off + j.toNat) hh (q4 bd cs' ty' fz' hbd hh) ht (by rw [hone, hsz]; rfl) hle h1
          obtain ⟨g1, g2, g3⟩ := setCells_heap (a.eval y).cells.toList (bd.off + j.toNat) w cs' hh
          have hcol := hs.col bd.block id hγ
          have hset : ∀ (q : Nat) (u : Value), (setCells cs'.toList (bd.off + j.toNat) (a.eval y).cells.toList)[q]? = some u ↔ (if q = bd.off + j.toNat then some (a.eval y) else cs'.toList[q]?) = some u := fun q u => by
            rw [setCells_get, hone]
            simp only [List.length_singleton, Array.length_toList]
            by_cases e : q = bd.off + j.toNat
            · rw [if_pos ⟨by omega, by omega, by rw [hone, List.length_singleton] at hle; omega⟩, if_pos e, e, Nat.sub_self]; rfl
            · rw [if_neg (fun h => e (by omega)), if_neg e]
          refine goes_skip (loc' := loc) (γ' := γ) (w' := w.setCells bd.block (bd.off + j.toNat) (a.eval y).cells.toList) (hs.set (id := id) (Frm.setCells hcol.1 _ _ _ hs.fr) (by omega) (fun k j' hj' hk => g2 k (fun e => by subst e; rw [hγ] at hk; exact hj' (Option.some.inj hk).symm)) ?_) (Rep_undef) ?_
          · refine ⟨hfl, hsz1, by simp [setI, hlen], ad, cs, ty, fz, k1, k2, k3, by rw [g2 _ (fun e => q5 bd hbd e.symm)]; exact k4, k5, by simpa [setI] using k6, fun i' xs' hx' => ?_⟩
            simp only [setI, List.getElem?_set] at hx'
            by_cases hii : i.toNat = i'
            · subst hii
              rw [if_pos rfl, if_pos (by omega)] at hx'
              obtain rfl := Option.some.inj hx'
              refine ⟨by rw [q1]; exact (List.length_set (α := c.D)).symm, q2, ⟨Nat.le_trans (Nat.le_of_eq (List.length_set (α := c.D))) hcl, q3.2.1, fun bd2 hbd2 => ?_⟩, fun bd2 cs2 ty2 fz2 hbd2 hh2 => ?_, q5, fun i2 b1 b2 h1 h2 => q6 i2 b1 b2 (by simpa [setI] using h1) h2⟩
              · rw [hbd] at hbd2
                obtain rfl := Option.some.inj hbd2
                refine ⟨hsp, hγ, _, ty', fz', g1, by simpa [setCells_length] using hcap, fun k x hk => ?_⟩
                simp only [Nat.mul_one]
                rcases set_get (α := c.D) (rd xss i []) j.toNat k d x hk (by omega) with ⟨hjk, rfl⟩ | ⟨hjk, hk⟩
                · subst hjk
                  exact ⟨a.eval y, by rw [List.getElem?_drop, Nat.add_zero]; exact (hset _ _).2 (if_pos rfl), hcell⟩
                · obtain ⟨u, hu, hc⟩ := hcells k x hk
                  refine ⟨u, ?_, hc⟩
                  rw [List.getElem?_drop, Nat.mul_one, Nat.add_zero] at hu
                  rw [List.getElem?_drop, Nat.add_zero]
                  refine (hset _ _).2 ?_
                  rw [if_neg (by omega)]
                  exact hu
              · rw [hbd] at hbd2
                obtain rfl := Option.some.inj hbd2
                rw [g1] at hh2
                simp only [Option.some.injEq, Obj.cells.injEq] at hh2
                obtain ⟨rfl, _, rfl⟩ := hh2
                simpa [setCells_length] using q4 bd cs' ty' fz' hbd hh
            · rw [if_neg hii] at hx'
              obtain ⟨p1, p2, p3, p4, p5, p6⟩ := k7 i' xs' hx'
              have hne : ∀ bd2, ((loc id).inn i').1 = some bd2 → bd2.block ≠ bd.block := fun bd2 hb2 => p6 i.toNat bd2 bd (by omega) (fun e => hii e.symm) hb2 hbd
              refine ⟨p1, p2, ⟨p3.1, p3.2.1, fun bd2 hb2 => ?_⟩, fun bd2 cs2 ty2 fz2 hb2 hh2 => ?_, p5, fun i2 b1 b2 h1 h2 => p6 i2 b1 b2 (by simpa [setI] using h1) h2⟩
              · obtain ⟨r1, r2, r3, r4, r5, r6, r7⟩ := p3.2.2 bd2 hb2
                exact ⟨r1, r2, r3, r4, r5, by rw [g2 _ (hne bd2 hb2)]; exact r6, r7⟩
              · rw [g2 _ (hne bd2 hb2)] at hh2
                exact p4 bd2 cs2 ty2 fz2 hb2 hh2
          · simp only [execOp, hop, Sem.run_bind]
            rw [hxv, hrun]
            rfl
        · simp [Eff.exec] at h
      · simp [Eff.exec] at h
    · cases h
theorem gho_ne (i : Nat) : gho i ≠ i := by unfold gho; omega
/-- a row goes into a row of rows -/
theorem Sim.putRow (hs : Sim w0 R L N st a w loc γ) {id id2 : Nat} {c : CT} {xss : List (List c.D)} {nl : NI} {xs : List c.D} {i : Nat} (ho : st.ob id = some (.mat c xss)) (ho2 : st.ob id2 = some (.row nl (.one c) xs))
    (hne : id2 ≠ id) (h5 : 500 ≤ id) (hi : i < xss.length) {ad : Addr} (had : (loc id).a = some ad) :
    ∃ loc' γ', Sim w0 R L N { tm := fun k => (st.tm k).kill (gho id), ob := fun j => if j = gho id ∨ j = id2 then none else if j = id then some (.mat c (xss.set i xs)) else (st.ob j).map (O.kill (gho id)) } a
      (w.setCells ad.block (ad.off + i) [.slice (loc id2).a (loc id2).len (loc id2).cap]) loc' γ' := by
  obtain ⟨hfl, hsz1, hlen, ad', cs, ty, fz, k1, k2, k3, k4, k5, k6, k7⟩ := hs.ob id _ ho
  rw [had] at k1
  obtain rfl := Option.some.inj k1
  obtain ⟨r1, r2, r3, r4, r5, r6⟩ := hs.ob id2 _ ho2
  obtain ⟨g1, g2, g3⟩ := setCells_heap [Value.slice (loc id2).a (loc id2).len (loc id2).cap] (ad.off + i) w cs k4
  have hcol := hs.col ad.block id k3
  have hset : ∀ (q : Nat), (setCells cs.toList (ad.off + i) [Value.slice (loc id2).a (loc id2).len (loc id2).cap])[q]? = if q = ad.off + i then some (Value.slice (loc id2).a (loc id2).len (loc id2).cap) else cs.toList[q]? := fun q => by
    rw [setCells_get]
    simp only [List.length_singleton, Array.length_toList]
    by_cases e : q = ad.off + i
    · rw [if_pos ⟨by omega, by omega, by omega⟩, if_pos e, e, Nat.sub_self]; rfl
    · rw [if_neg (fun h => e (by omega)), if_neg e]
  let loc' : Nat → Loc := fun j => if j = id then { loc id with inn := fun k => if k = i then ((loc id2).a, (loc id2).len, (loc id2).cap) else (loc id).inn k } else loc j
  have hl : ∀ j, j ≠ id → loc' j = loc j := fun j hj => if_neg hj
  have hid : loc' id = { loc id with inn := fun k => if k = i then ((loc id2).a, (loc id2).len, (loc id2).cap) else (loc id).inn k } := if_pos rfl
  have ha : (loc' id).a = (loc id).a ∧ (loc' id).len = (loc id).len ∧ (loc' id).cap = (loc id).cap ∧ (loc' id).sz = (loc id).sz := by rw [hid]; exact ⟨rfl, rfl, rfl, rfl⟩
  let γ' : Nat → Option Nat := fun b => if γ b = some id2 then some id else γ b
  have hγ1 : ∀ b, γ b = some id → γ' b = some id := fun b hb => by
    show (if γ b = some id2 then some id else γ b) = some id
    rw [hb, if_neg (fun e => hne (Option.some.inj e).symm)]
  have hγ2 : ∀ b, γ b = some id2 → γ' b = some id := fun b hb => if_pos hb
  have hi2 : ∀ bd : Addr, (loc id2).a = some bd → γ bd.block = some id2 := fun bd hb => (r4.2.2 bd hb).2.1
  have hb2 : ∀ bd : Addr, (loc id2).a = some bd → bd.block ≠ ad.block := fun bd hb e => by
    have := hi2 bd hb
    rw [e, k3] at this
    exact hne (Option.some.inj this).symm
  refine ⟨loc', γ', fun k => Rep.killg hl ha _ _ (hs.tm k), fun j o hj => ?_, fun b j hb => ?_, Frm.setCells hcol.1 _ _ _ hs.fr, hs.ro, hs.n, hs.df, fun j hj => (hl j (by omega)).trans (hs.lc j hj), hs.gl⟩
  · by_cases e1 : j = gho id ∨ j = id2
    · simp only [if_pos e1] at hj; cases hj
    · simp only [if_neg e1] at hj
      by_cases e2 : j = id
      · simp only [if_pos e2, Option.some.injEq] at hj
        subst hj
        subst e2
        simp only [ObRep, hid]
        refine ⟨hfl, hsz1, by rw [List.length_set]; exact hlen, ad, _, ty, fz, had, k2, hγ1 _ k3, g1, by simpa [setCells_length] using k5, by rw [List.length_set]; simpa [setCells_length] using k6, fun q ys hq => ?_⟩
        have hcell : (setCells cs.toList (ad.off + i) [Value.slice (loc id2).a (loc id2).len (loc id2).cap]).toArray[ad.off + q]? = if ad.off + q = ad.off + i then some (Value.slice (loc id2).a (loc id2).len (loc id2).cap) else cs.toList[ad.off + q]? := by
          rw [List.getElem?_toArray]; exact hset _
        rw [hcell]
        rcases set_get xss i q xs ys hq hi with ⟨rfl, rfl⟩ | ⟨hiq, hq⟩
        · simp only [if_true]
          refine ⟨r3, trivial, ?_, fun bd cs' ty' fz' hbd hh => ?_, fun bd hbd => hb2 bd hbd, fun q' b1 b2 hq' hqq h1 h2 => ?_⟩
          · refine ⟨r4.1, r4.2.1, fun bd hbd => ?_⟩
            obtain ⟨s1, s2, cs2, ty2, fz2, s3, s4, s5⟩ := r4.2.2 bd hbd
            exact ⟨s1, hγ2 _ s2, cs2, ty2, fz2, by rw [g2 _ (hb2 bd hbd)]; exact s3, s4, s5⟩
          · rw [g2 _ (hb2 bd hbd)] at hh
            exact r5 bd cs' ty' fz' hbd hh
          · rw [if_neg (fun e => hqq e.symm)] at h2
            have hq'2 : q' < xss.length := by rw [List.length_set] at hq'; exact hq'
            have := (k7 q' _ (List.getElem?_eq_getElem hq'2)).2.2.1.2.2 b2 h2
            intro e
            have h3 := hi2 b1 h1
            rw [e, this.2.1] at h3
            exact hne (Option.some.inj h3).symm
        · obtain ⟨p1, p2, p3, p4, p5, p6⟩ := k7 q ys hq
          have hqi : q ≠ i := fun e => hiq e.symm
          simp only [if_neg hqi, if_neg (show ¬ ad.off + q = ad.off + i by omega)]
          refine ⟨p1, by rw [Array.getElem?_toList]; exact p2, ?_, fun bd cs' ty' fz' hbd hh => ?_, p5, fun q' b1 b2 hq' hqq h1 h2 => ?_⟩
          · refine ⟨p3.1, p3.2.1, fun bd hbd => ?_⟩
            obtain ⟨s1, s2, cs2, ty2, fz2, s3, s4, s5⟩ := p3.2.2 bd hbd
            exact ⟨s1, hγ1 _ s2, cs2, ty2, fz2, by rw [g2 _ (p5 bd hbd)]; exact s3, s4, s5⟩
          · rw [g2 _ (p5 bd hbd)] at hh
            exact p4 bd cs' ty' fz' hbd hh
          · by_cases e : q' = i
            · rw [if_pos e] at h2
              intro e3
              have h3 := hi2 b2 h2
              rw [← e3, (p3.2.2 b1 h1).2.1] at h3
              exact hne (Option.some.inj h3).symm
            · rw [if_neg e] at h2
              exact p6 q' b1 b2 (by rw [List.length_set] at hq'; exact hq') hqq h1 h2
      · simp only [if_neg e2] at hj
        cases hoj : st.ob j with
        | none => rw [hoj] at hj; cases hj
        | some oj =>
          rw [hoj] at hj
          obtain rfl := Option.some.inj hj
          refine ObRep.killg hl ha e2 (fun b hb => ⟨?_, ?_⟩) (hs.ob j oj hoj)
          · show (if γ b = some id2 then some id else γ b) = some j
            rw [hb, if_neg (fun e => e1 (.inr (Option.some.inj e)))]
          · refine g2 b (fun e => ?_)
            rw [e, k3] at hb
            exact e2 (Option.some.inj hb).symm
  · rw [g3]
    by_cases e : γ b = some id2
    · exact hs.col b id2 e
    · have : γ' b = γ b := if_neg e
      rw [this] at hb
      exact hs.col b j hb
theorem putRow_ob (ob : Ob) (id id2 : Nat) (o : O) (ho : o.kill (gho id) = o) (o3 : O) (hne : id2 ≠ id) :
    upd (upd (killOb (gho id) (upd (upd ob id2 none) id (some o))) (gho id) (some o3)) (gho id) none = fun j => if j = gho id ∨ j = id2 then none else if j = id then some o else (ob j).map (O.kill (gho id)) := by
  funext j
  by_cases e1 : j = gho id
  · rw [if_pos (.inl e1)]; simp only [upd, e1, beq_self, cond_true]
  · have h1 := beq_ne e1
    simp only [upd, h1, cond_false, killOb]
    by_cases e3 : j = id
    · subst e3
      rw [if_neg (fun h => h.elim e1 (fun h => hne h.symm)), if_pos rfl]
      simp only [beq_self, cond_true, ho]
    · simp only [beq_ne e3, cond_false]
      by_cases e2 : j = id2
      · rw [if_pos (.inr e2)]; simp only [e2, beq_self, cond_true]
      · rw [if_neg (fun h => h.elim e1 e2), if_neg e3]
        simp only [beq_ne e2, cond_false]
        cases ob j <;> rfl
theorem mtAdr_goes {o : Oper} {t : TypeId} {x y : Operand} {id id2 : Nat} {i : Int} {ob' : Ob} {f' : Fp} {v : V} (hop : o.op = .store t x y) (hs : Sim w0 R L N st a w loc γ) (hx : st.rv x = .mt id (.adr i)) (hy : st.rv y = .own id2)
    (h : (mtStoreE P t id (.adr i) (.own id2)).exec st.ob ⟨[], [], []⟩ = some (v, ob', f')) : Goes P o w0 R L N st a w v ob' f'.ns := by
  have ex := hs.eval x
  have ey := hs.eval y
  rw [hx] at ex
  rw [hy] at ey
  unfold mtStoreE at h
  cases hf : flatT P t && Nat.beq (tsize P t) 1 with
  | false => rw [hf] at h; simp [Eff.exec] at h
  | true =>
    rw [hf] at h
    rw [Bool.and_eq_true] at hf
    have ht := flatT_run hf.1
    have hsz := Nat.eq_of_beq_eq_true hf.2
    simp only [cond_true] at h
    cases hne : Nat.beq id2 id || !Nat.ble 500 id with
    | true => rw [hne] at h; simp [Eff.exec] at h
    | false =>
      rw [hne] at h
      rw [Bool.or_eq_false_iff, Bool.not_eq_false'] at hne
      have hid5 := Nat.le_of_ble_eq_true hne.2
      have hid2 : id2 ≠ id := fun e => by rw [e, beq_self] at hne; exact absurd hne.1 (by simp)
      simp only [cond_false, Eff.exec] at h
      cases ho : st.ob id with
      | none => rw [ho] at h; cases h
      | some ox =>
        rw [ho] at h
        cases ox with
        | row nl e xs => simp [Eff.exec] at h
        | box cs => simp [Eff.exec] at h
        | bld s => simp [Eff.exec] at h
        | mat c xss =>
          simp only [Eff.exec] at h
          cases ho2 : st.ob id2 with
          | none => rw [ho2] at h; cases h
          | some o2 =>
            rw [ho2] at h
            cases o2 with
            | box cs => simp [Eff.exec] at h
            | bld s => simp [Eff.exec] at h
            | mat c xss => simp [Eff.exec] at h
            | row nl e xs =>
              cases e with
              | cons c1 cs1 => simp [Eff.exec] at h
              | one c' =>
                simp only at h
                split at h
                · rename_i hsame
                  obtain rfl := CT.eq_of_same _ _ hsame
                  have hcast : CTs.cast (a := .one c') (b := .one c') hsame xs = xs := rfl
                  rw [hcast] at h
                  simp only [Eff.exec, ho2] at h
                  have hob1 : upd st.ob id2 none id = some (.mat c' xss) := by unfold upd; rw [beq_ne (fun e => hid2 e.symm)]; exact ho
                  simp only [hob1] at h
                  split at h
                  · have hup : ∀ (ob : Ob) (oo : O), upd ob (gho id) (some oo) (gho id) = some oo := fun ob oo => by unfold upd; rw [beq_self]; rfl
                    simp only [hup, Option.some.injEq, Prod.mk.injEq] at h
                    obtain ⟨rfl, rfl, rfl⟩ := h
                    obtain ⟨hi0, hi1, ad, had, hxv⟩ := ex
                    obtain ⟨_, _, hlen, ad', cs, ty, fz, k1, k2, k3, k4, k5, k6, k7⟩ := hs.ob id _ ho
                    rw [had] at k1
                    obtain rfl := Option.some.inj k1
                    have hi : i.toNat < xss.length := by rw [hlen] at hi1; omega
                    obtain ⟨loc', γ', hS⟩ := hs.putRow ho ho2 hid2 hid5 hi had
                    rw [putRow_ob st.ob id id2 _ rfl _ hid2]
                    have hyv : a.eval y = .slice (loc id2).a (loc id2).len (loc id2).cap := ey
                    have hrun := store_run (P := P) (c := a.eval y) (o := ad.off + i.toNat) k4 k5 ht (by rw [hyv, hsz]; rfl) (by rw [hyv]; show ad.off + i.toNat + 1 ≤ cs.size; omega) (by rw [hyv]; intro u hu; rw [List.mem_singleton.1 hu]; rfl)
                    refine goes_skip (loc' := loc') (γ' := γ') (w' := w.setCells ad.block (ad.off + i.toNat) [.slice (loc id2).a (loc id2).len (loc id2).cap]) hS (Rep_undef) ?_
                    simp only [execOp, hop, Sem.run_bind]
                    rw [hxv, hrun, hyv]
                    rfl
                  · cases h
                · simp [Eff.exec] at h
theorem mtStore_goes {o : Oper} {t : TypeId} {x y : Operand} {id : Nat} {p : MP} {ob' : Ob} {f' : Fp} {v : V} (hop : o.op = .store t x y) (hs : Sim w0 R L N st a w loc γ) (hx : st.rv x = .mt id p)
    (h : (mtStoreE P t id p (st.rv y)).exec st.ob ⟨[], [], []⟩ = some (v, ob', f')) : Goes P o w0 R L N st a w v ob' f'.ns := by
  cases p with
  | all => unfold mtStoreE at h; cases hf : flatT P t && Nat.beq (tsize P t) 1 <;> rw [hf] at h <;> simp [Eff.exec] at h
  | row i => unfold mtStoreE at h; cases hf : flatT P t && Nat.beq (tsize P t) 1 <;> rw [hf] at h <;> simp [Eff.exec] at h
  | bsl n => unfold mtStoreE at h; cases hf : flatT P t && Nat.beq (tsize P t) 1 <;> rw [hf] at h <;> simp [Eff.exec] at h
  | cel i j => exact mtCel_goes hop hs hx h
  | adr i =>
    have key : ∀ u, st.rv y = u → (∀ id2, u ≠ .own id2) → (mtStoreE P t id (.adr i) u).exec st.ob ⟨[], [], []⟩ = none := fun u _ hu => by
      unfold mtStoreE
      cases hf : flatT P t && Nat.beq (tsize P t) 1 with
      | false => rfl
      | true =>
        cases u with
        | own id2 => exact absurd rfl (hu id2)
        | _ => rfl
    cases hy : st.rv y with
    | own id2 => rw [hy] at h; exact mtAdr_goes hop hs hx hy h
    | _ => rw [key _ rfl (fun id2 => by rw [hy]; simp)] at h; cases h
theorem matOf_run {t e : TypeId} {c : CT} {by_ : Nat} (h : matOf? P t = some (e, c, by_)) : P.underlying t = some (.slice e) ∧ (∃ b, tagg P e = some b) ∧ tsize P e = 1 ∧ (CTs.one c).flat = true ∧ by_ = P.bytesOf e ∧ zeroV? P e = some [.nil] := by
  unfold matOf? at h
  split at h
  · rename_i e' n' hq
    split at h
    · rename_i c' _ hz
      cases hb : Nat.beq n' 1 && (CTs.one c').flat with
      | false => rw [hb] at h; cases h
      | true =>
        rw [hb] at h
        simp only [cond_true, Option.some.injEq, Prod.mk.injEq] at h
        obtain ⟨rfl, rfl, rfl⟩ := h
        rw [Bool.and_eq_true] at hb
        obtain ⟨h1, h2, h3⟩ := slElem_run hq
        exact ⟨h1, h2, by rw [← h3]; exact Nat.eq_of_beq_eq_true hb.1, hb.2, rfl, hz⟩
    · cases h
  · cases h
theorem mtMake_goes {o : Oper} {t : TypeId} {x y : Operand} {ob' : Ob} {f' : Fp} {v : V} (hop : o.op = .makeSlice t x y) (hs : Sim w0 R L N st a w loc γ)
    (h : (mtMakeE P o.dst t (st.rv x) (st.rv y)).exec st.ob ⟨[], [], []⟩ = some (v, ob', f')) : Goes P o w0 R L N st a w v ob' f'.ns := by
  unfold mtMakeE at h
  split at h
  · rename_i e ct by_ k l k' c hq hx hy
    obtain ⟨hu, ⟨b, htb⟩, hn, hflat, hby, hz⟩ := matOf_run hq
    cases hb0 : Nat.beq by_ 0 with
    | true => rw [hb0] at h; simp [Eff.exec] at h
    | false =>
      rw [hb0] at h
      simp only [cond_false, Eff.exec] at h
      split at h
      · rename_i h1
        split at h
        · rename_i h2
          split at h
          · rename_i h3
            split at h
            · rename_i hid
              simp only [Option.some.injEq, Prod.mk.injEq] at h
              obtain ⟨rfl, rfl, rfl⟩ := h
              simp only [leI_eq, decide_eq_true_eq] at h1
              simp only [leI_eq, decide_eq_true_eq] at h2
              simp only [ltI_eq, decide_eq_true_eq, mulZ_eq, lenBound] at h3
              have hby0 : by_ ≠ 0 := fun e => by subst e; simp at hb0
              obtain ⟨cv, hc1, hc2, i, hi, hiz⟩ := zeroV_run (w0 := w0) (R := R) (loc := loc) (w := w) hz
              have hsi := size_info hi
              have hbi := bytes_info hi
              have hcl := RepL.length hc2
              have hc0 : 0 ≤ c := by omega
              have hcb : (i.bytes : Int) * c < 140737488355328 := by rw [Int.mul_comm, ← hbi, ← hby]; exact h3
              have hc63 : c ≤ 9223372036854775807 := by
                have : c * 1 ≤ c * (by_ : Int) := Int.mul_le_mul_of_nonneg_left (by omega) hc0
                omega
              have ex := hs.eval x
              have ey := hs.eval y
              rw [hx] at ex
              rw [hy] at ey
              have hr := run_make (P := P) w t e i cv hu hi hiz k k' l c h1 h2 (by omega) hc63
              have hisz : i.size = 1 := by rw [← hsi]; exact hn
              have hcv : cv.cells.toList = [.slice none 0 0] := by
                cases hq2 : cv.cells.toList with
                | nil => rw [hq2] at hcl; cases hcl
                | cons u us =>
                  rw [hq2] at hc2 hcl
                  have : us = [] := by cases us with | nil => rfl | cons _ _ => simp at hcl
                  subst this
                  obtain rfl : u = .slice none 0 0 := hc2.1
                  rfl
              have hml := made_list (c := cv) (n := c.toNat) (s := i.size) (by rw [hcv, hisz]; rfl)
              have hsize : (madeCells cv.cells (c.toNat * i.size)).size = c.toNat := by rw [size_madeCells, hisz, Nat.mul_one]
              have hget : ∀ q, q < c.toNat → (madeCells cv.cells (c.toNat * i.size))[q]? = some (.slice none 0 0) := fun q hq => by
                rw [← Array.getElem?_toList, hml, hcv]
                have : (List.replicate c.toNat [Value.slice none 0 0]).flatten = List.replicate c.toNat (Value.slice none 0 0) := by
                  generalize c.toNat = n
                  induction n with
                  | zero => rfl
                  | succ n ih => rw [List.replicate_succ, List.flatten_cons, ih]; rfl
                rw [this, List.getElem?_replicate, if_pos hq]
              have hnew := hs.new (id := tag o.dst 0) (o := .mat ct (repI l [])) (l := { a := some ⟨w.heap.size, 0, none⟩, len := l.toNat, cap := c.toNat, sz := 1 }) (w' := w.alloc (.cells (madeCells cv.cells (c.toNat * i.size)) e))
                (γ' := fun b => if b = w.heap.size then some (tag o.dst 0) else γ b) hid (tag_ge _ _) (hs.fr.alloc _) (by simp) (fun b id' hb _ => Below.heap_alloc _ _ _ (hs.old hb)) (fun b => by
                  by_cases e : b = w.heap.size
                  · subst e
                    exact .inr ⟨by simp, fun id' h => absurd (hs.old h) (by omega), .inl hs.fr.size, by simp⟩
                  · exact .inl (by simp [e])) (by
                  simp only [ObRep, if_true]
                  refine ⟨hflat, trivial, by simp [repI], ⟨w.heap.size, 0, none⟩, _, e, (0, 0), rfl, rfl, by simp, heap_new _, (fun o _ h => by simp at h), by rw [hsize]; simp [repI]; omega, fun q ys hq => ?_⟩
                  simp only [repI, List.getElem?_replicate] at hq
                  split at hq
                  · rename_i hql
                    obtain rfl := Option.some.inj hq
                    refine ⟨rfl, by rw [Nat.zero_add]; exact hget q (by omega), ⟨Nat.le_refl _, fun _ => rfl, fun ad h => (by cases h)⟩, fun bd _ _ _ h => (by cases h), fun bd h => (by cases h), fun _ bd _ _ _ h => (by cases h)⟩
                  · cases hq)
              refine goes_world hnew (by simp [Rep]; rfl) ?_
              have ex' : a.eval x = .int k l := ex
              have ey' : a.eval y = .int k' c := ey
              simp only [execOp, hop, Sem.run_bind, ex', ey', hr]
              rfl
            · cases h
          · cases h
        · cases h
      · cases h
  · simp [Eff.exec] at h
theorem arrIndex_run {t : TypeId} {id off : Nat} {i v : V} {cx ci : Value} {ob' : Ob} {f f' : Fp} (h : (arrIndexE P t id off i).exec st.ob f = some (v, ob', f')) (hs : Sim w0 R L N st a w loc γ)
    (hx : Rep w0 R loc (.box id off) cx) (hi : Rep w0 R loc i ci) : ob' = st.ob ∧ f'.ns = f.ns ∧ ∃ c, Rep w0 R loc v c ∧ (Instr.indexAt t cx ci).run P w = .ok c w := by
  unfold arrIndexE at h
  split at h
  · rename_i n e kk k hu
    obtain rfl := hi
    cases hb : (tagg P e).isSome && Nat.blt k n with
    | false => rw [hb] at h; simp [Eff.exec] at h
    | true =>
      rw [hb] at h
      simp only [cond_true, Eff.exec, Option.some.injEq, Prod.mk.injEq] at h
      obtain ⟨rfl, rfl, rfl⟩ := h
      rw [Bool.and_eq_true] at hb
      obtain ⟨bb, ht⟩ := Option.isSome_iff_exists.1 hb.1
      have hk : k < n := Nat.le_of_ble_eq_true hb.2
      obtain ⟨b, hb1, rfl⟩ := hx
      refine ⟨rfl, rfl, _, ⟨b, hb1, rfl⟩, ?_⟩
      simp only [Instr.indexAt, Instr.sureAddr, asIntOf, Sem.run_bind, Sem.run_pure, Result.andThen_ok, run_underlying hu]
      rw [if_pos ⟨Int.natCast_nonneg k, Int.ofNat_lt.2 hk⟩]
      simp [Sem.run_bind, run_size ht, add_at]
  · simp [Eff.exec] at h
end
end Go.Eng
