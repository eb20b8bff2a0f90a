/- strings.Repeat and strings.Join, as the kit's contracts tell them. unicode/utf8.ValidString, as the kit's contract tells it. -/
import Derived.Test.YtmmmlfndnoeedaaDoorEG
import Derived.Lib.Repeat
import Derived.Lib.Join
import Derived.Test.YtmmmlfndnoeedaaDoorEM
import Derived.Lib.ValidU
namespace Go.Eng
set_option linter.unusedSectionVars false
set_option linter.unusedSimpArgs false
set_option linter.unusedVariables false
open Go.RowKit
variable [Glb]
noncomputable def xRepeat (vs : List V) (os : List O) : Option ByteArray := match vs with
  | [.str s, .int .i64 c] => if 0 ≤ c ∧ c ≤ 9223372036854775807 ∧ s.size * c.toNat ≤ 140737488355328 then some ⟨(Lib.repeatL s.data.toList c.toNat).toArray⟩ else none
  | _ => none
theorem xRepeat_ok {E : Env} {f : Nat} {fn : Func} {cd : Code} {vs : List V} {os : List O} {x : (E.sig f).T} {y : ByteArray} (hn : Named E.P) (hf : E.P.funcs[f]? = some fn) (hb : fn.body = some cd)
    (hinj : ∀ T, (E.sig f).inj x T = (.str y, [], [])) (hfin : (E.sig f).fin = []) (h : xRepeat vs os = some y)
    (hcall : ∀ (s : ByteArray) (c : Nat) (w : World), c ≤ 9223372036854775807 → s.size * c ≤ 140737488355328 → Calls E.P f #[.string s, .int .i64 c] w fun e w' => e = .returned (.string ⟨(Lib.repeatL s.data.toList c).toArray⟩) ∧ Below w.heap.size w w') : FnOkAt E f vs os x := by
  unfold xRepeat at h
  split at h
  · rename_i s c
    split at h
    · rename_i hc
      obtain ⟨h1, h2, h3⟩ := hc
      obtain rfl := Option.some.inj h
      refine calls_value_ok (c := .string ⟨(Lib.repeatL s.data.toList c.toNat).toArray⟩) hn hf hb hinj hfin rfl (fun w R loc => rfl) (fun w R loc args hg hv => ?_)
      obtain ⟨a, b, rfl, ha, hb'⟩ := hv.two
      obtain rfl : a = .string s := ha
      obtain rfl : b = .int .i64 c := hb'
      have := hcall s c.toNat w (by omega) h3
      rwa [Int.toNat_of_nonneg h1] at this
    · cases h
  · cases h
/-! ### strings.Join -/
noncomputable def joinS (xs : List ByteArray) (sep : ByteArray) : ByteArray := ⟨(Lib.join (xs.map (·.data.toList)) sep.data.toList).toArray⟩
noncomputable def xJoin (vs : List V) (os : List O) : Option ByteArray := match vs with
  | [.ro (.one .str) xs, .str sep] => if List.length (α := ByteArray) xs ≤ 140737488355328 ∧ (joinS xs sep).size ≤ 140737488355328 then some (joinS xs sep) else none
  | _ => none
theorem xJoin_ok {E : Env} {f : Nat} {fn : Func} {cd : Code} {vs : List V} {os : List O} {x : (E.sig f).T} {y : ByteArray} (hn : Named E.P) (hf : E.P.funcs[f]? = some fn) (hb : fn.body = some cd)
    (hinj : ∀ T, (E.sig f).inj x T = (.str y, [], [])) (hfin : (E.sig f).fin = []) (h : xJoin vs os = some y)
    (hnone : ∀ (a : Option Addr) (c : Nat) (sep : ByteArray) (w : World), Calls E.P f #[.slice a 0 c, .string sep] w fun e w' => e = .returned (.string ⟨#[]⟩) ∧ w' = w)
    (hcall : ∀ (bk o c : Nat) (xs : List ByteArray) (sep : ByteArray) (w : World), (∀ (j : Nat) x, xs[j]? = some x → w.cell? ⟨bk, o + j, none⟩ = some (.string x)) → bk < w.heap.size → xs.length ≤ 140737488355328 → xs.length ≤ c →
      (Lib.join (xs.map (·.data.toList)) sep.data.toList).length ≤ 140737488355328 → Calls E.P f #[.slice (some ⟨bk, o, none⟩) xs.length c, .string sep] w fun e w' => e = .returned (.string ⟨(Lib.join (xs.map (·.data.toList)) sep.data.toList).toArray⟩) ∧ Below w.heap.size w w') : FnOkAt E f vs os x := by
  unfold xJoin at h
  split at h
  · rename_i xs sep
    split at h
    · rename_i hc
      obtain ⟨h1, h2⟩ := hc
      obtain rfl := Option.some.inj h
      refine calls_value_ok (c := .string (joinS xs sep)) hn hf hb hinj hfin rfl (fun w R loc => rfl) (fun w R loc args hg hv => ?_)
      obtain ⟨a, b, rfl, ha, hb'⟩ := hv.two
      obtain rfl : b = .string sep := hb'
      obtain ⟨ad, cap, rfl, hrow⟩ := ha
      by_cases hz : List.length (α := ByteArray) xs = 0
      · have hx : xs = ([] : List ByteArray) := List.length_eq_zero_iff.1 hz
        have := hnone ad cap sep w
        refine (show Calls E.P f #[.slice ad (List.length (α := ByteArray) xs) cap, .string sep] w _ from ?_)
        rw [hz]
        refine this.mono fun e w' ⟨he, hw⟩ => ⟨?_, hw ▸ Below.refl _ _⟩
        rw [he]
        subst hx
        rfl
      · have hlc : List.length (α := ByteArray) xs ≤ cap := hrow.1
        have hat := hrow.2.2 (by omega)
        cases hads : ad with
        | none =>
          have := hat.2.1 hads
          omega
        | some ad =>
          obtain ⟨hsp, _, cs, ty, fz, hh, hcap, hcells⟩ := hat.2.2 ad hads
          obtain ⟨bk, o, sp⟩ := ad
          simp only at hsp hh hcap hcells
          subst hsp
          refine hcall bk o cap xs sep w (fun j x hx => ?_) (Array.getElem?_eq_some_iff.1 hh).1 h1 hlc (by have := h2; unfold joinS at this; simpa [ByteArray.size] using this)
          obtain ⟨u, hu, hux⟩ := hcells j x hx
          obtain rfl : u = .string x := hux
          rw [cell_at hh]
          rw [List.getElem?_drop] at hu
          simpa [CTs.size] using hu
    · cases h
  · cases h
end Go.Eng
namespace Go.Eng
set_option linter.unusedSectionVars false
set_option linter.unusedSimpArgs false
set_option linter.unusedVariables false
open Go.RowKit
variable [Glb]
noncomputable def xValid (vs : List V) (os : List O) : Option Bool := match vs with
  | [.str s] => if s.size ≤ 9223372036854775807 then some (Lib.validD s.data.toList) else none
  | _ => none
theorem xValid_ok {E : Env} {f : Nat} {fn : Func} {cd : Code} {vs : List V} {os : List O} {x : (E.sig f).T} {y : Bool} (hn : Named E.P) (hf : E.P.funcs[f]? = some fn) (hb : fn.body = some cd)
    (hinj : ∀ T, (E.sig f).inj x T = (.bool y, [], [])) (hfin : (E.sig f).fin = []) (h : xValid vs os = some y)
    (hcall : ∀ (s : ByteArray) (w : World), s.size ≤ 9223372036854775807 → Glb.gi w → Calls E.P f #[.string s] w fun e w' => e = .returned (.bool (Lib.validD s.data.toList)) ∧ Below w.heap.size w w') : FnOkAt E f vs os x := by
  unfold xValid at h
  split at h
  · rename_i s
    split at h
    · rename_i hc
      obtain rfl := Option.some.inj h
      refine calls_value_ok (c := .bool (Lib.validD s.data.toList)) hn hf hb hinj hfin rfl (fun w R loc => rfl) (fun w R loc args hg hv => ?_)
      obtain ⟨a, rfl, ha⟩ := hv.one_arg
      obtain rfl : a = .string s := ha
      exact hcall s w hc hg
    · cases h
  · cases h
end Go.Eng
