/- Functions without code, and functions read by hand: what they answer. -/
import Derived.Test.YtkghicadebeceaaDoorE29
import Derived.Laws.Externs
import Derived.Lib.Bytealg
namespace Go.Eng
set_option linter.unusedSectionVars false
variable [Glb]
open Go.RowKit
set_option linter.unusedSimpArgs false
set_option linter.unusedVariables false

/-- a function that answers one plain value and leaves the world as it was -/
theorem value_ok {E : Env} {f : Nat} {vs : List V} {os : List O} {x : (E.sig f).T} {v : V} {c : Value} (hinj : ∀ T, (E.sig f).inj x T = (v, [], [])) (hfin : (E.sig f).fin = []) (hids : v.ids = [])
    (hrep : ∀ (w : World) (R : Nat → Prop) (loc : Nat → Loc), Rep w R loc v c)
    (hrun : ∀ (w : World) (R : Nat → Prop) (loc : Nat → Loc) (args : Array Value), RepL w R loc vs args.toList → (callFunc f args).run E.P w = .ok (.value c) w) : FnOkAt E f vs os x := by
  intro w R L loc γ args T w1 R1 hT hg hg1 hR hγ hv ho
  refine .inr ⟨c, w, hrun w R loc args hv, Frm.refl _ _, loc, fun _ => none, fun k _ _ => rfl, fun b k h => absurd h (by simp), fun b k h => absurd h (by simp), ?_, ?_, ?_, ?_, ?_⟩
  · rw [hinj T]; exact hrep _ _ _
  · rw [hinj T]; intro id hid; rw [hids] at hid; cases hid
  · rw [hinj T, hfin]; rfl
  · rw [hinj T]; exact ⟨fun k o hk => by simp at hk⟩
  · rw [hinj T]; intro k o hk; simp at hk
theorem RepL.two {w : World} {R : Nat → Prop} {loc : Nat → Loc} {u v : V} {args : Array Value} (h : RepL w R loc [u, v] args.toList) : ∃ a b, args = #[a, b] ∧ Rep w R loc u a ∧ Rep w R loc v b := by
  match hl : args.toList, h with
  | [a, b], h => exact ⟨a, b, by apply Array.toList_inj.1; rw [hl], h.1, h.2.1⟩
theorem RepL.one_arg {w : World} {R : Nat → Prop} {loc : Nat → Loc} {u : V} {args : Array Value} (h : RepL w R loc [u] args.toList) : ∃ a, args = #[a] ∧ Rep w R loc u a := by
  match hl : args.toList, h with
  | [a], h => exact ⟨a, by apply Array.toList_inj.1; rw [hl], h.1⟩

/-! ### internal/bytealg.IndexByteString -/
def xIndexByteString (vs : List V) (os : List O) : Option Int := match vs with
  | [.str s, .int .u8 c] => some (Lib.indexByte s.data.toList c.toNat.toUInt8)
  | _ => none
theorem xIndexByteString_ok {E : Env} {f : Nat} {vs : List V} {os : List O} {x : (E.sig f).T} {n : Int} {fn : Func} (hinj : ∀ T, (E.sig f).inj x T = (.int .i64 n, [], [])) (hfin : (E.sig f).fin = []) (h : xIndexByteString vs os = some n)
    (hf : E.P.funcs[f]? = some fn) (hname : (fn.name == "runtime.NumGoroutine") = false) (hb : fn.body.isNone = true) (hn : Extern.findNext fn = none) (he : Extern.find fn = some Extern.BytealgIndexByte.indexByte) : FnOkAt E f vs os x := by
  unfold xIndexByteString at h
  split at h
  · rename_i s c
    obtain rfl := Option.some.inj h
    refine value_ok (c := .int .i64 _) hinj hfin rfl (fun w R loc => rfl) (fun w R loc args hv => ?_)
    obtain ⟨a, b, rfl, ha, hb'⟩ := hv.two
    obtain rfl : a = .string s := ha
    obtain rfl : b = .int .u8 c := hb'
    rw [run_callFunc_extern hf hname hb hn he, Lib.run_indexByteString]
    rfl
  · cases h
end Go.Eng
namespace Go.Eng
set_option linter.unusedSectionVars false
variable [Glb]
theorem named_of {P : Program} (h : (P.funcs.toList.all fun fn => !(fn.body.isSome && fn.name == "runtime.NumGoroutine")) = true) : Named P := by
  intro f fn hf hb
  have hm : fn ∈ P.funcs.toList := by
    obtain ⟨hlt, rfl⟩ := Array.getElem?_eq_some_iff.1 hf
    simp
  have := List.all_eq_true.1 h fn hm
  rw [hb] at this
  simpa using this
end Go.Eng
namespace Go.Eng
set_option linter.unusedSectionVars false
variable [Glb]
/-! ### slices.Clone -/
/-- a function whose answer is the same for a slice that is nil and for one that isn't -/
theorem ro_split {E : Env} (hB : BldOk E) (hn : Named E.P) (hm : E.P.follows .mixedOrders = true) {f k : Nat} {fn : Func} {e : CTs} {xs : List e.D} {x : (E.sig f).T} (hf : E.P.funcs[f]? = some fn)
    (hnil : xs = [] → evFn E (noExt E) f k fn [.nil] [] = some x) (hrn : evFn E (noExt E) f k fn [.rn e xs] [] = some x) : FnOkAt E f [.ro e xs] [] x := by
  have hC : CallsOk E (noExt E) := calls_ok (noExt_ok (E := E)) hB
  have hD := draw_ok (cf := noExt E) hm hC
  intro w R L loc γ args T w1 R1 hT hg hg1 hR hγ hv ho
  have hv0 := hv
  obtain ⟨c, rfl, hc⟩ := hv.one_arg
  obtain ⟨ad, cap, rfl, hrow⟩ := hc
  cases ad with
  | none =>
    have hx0 : xs = [] := by
      have h0 := hrow.2.1 rfl
      have h1 := hrow.1
      exact List.eq_nil_of_length_eq_zero (by omega)
    have hc0 := hrow.2.1 rfl
    subst hx0
    subst hc0
    exact evFn_ok hn hC hD hf (hnil rfl) w R L loc γ _ T w1 R1 hT hg hg1 hR hγ ⟨rfl, trivial⟩ ho
  | some a => exact evFn_ok hn hC hD hf hrn w R L loc γ _ T w1 R1 hT hg hg1 hR hγ ⟨⟨⟨some a, cap, rfl, hrow⟩, a, _, _, rfl⟩, trivial⟩ ho
noncomputable def xClone (e : CTs) (by_ : Int) (vs : List V) (os : List O) : Option (List e.D) := match vs, os with
  | [.ro e' xs], [] => if h : CTs.same e' e = true then chk (ltI (mulZ (addZ (ln ([] : List e.D)) (ln (CTs.cast h xs))) by_) 140737488355328) (some (catL [] (CTs.cast h xs))) else none
  | [.nil], [] => some []
  | _, _ => none
theorem xClone_ok {E : Env} (hB : BldOk E) (hn : Named E.P) (hm : E.P.follows .mixedOrders = true) {f : Nat} {fn : Func} {e : CTs} {by_ : Int} {vs : List V} {os : List O} {x : (E.sig f).T} {y : List e.D} (hf : E.P.funcs[f]? = some fn) (h : xClone e by_ vs os = some y)
    (hnil : y = [] → evFn E (noExt E) f 1 fn [.nil] [] = some x)
    (hrn : ∀ xs : List e.D, chk (ltI (mulZ (addZ (ln ([] : List e.D)) (ln xs)) by_) 140737488355328) (some (catL [] xs)) = some y → evFn E (noExt E) f 1 fn [.rn e xs] [] = some x) : FnOkAt E f vs os x := by
  unfold xClone at h
  split at h
  · rename_i e' xs
    split at h
    · rename_i he
      obtain rfl := CTs.eq_of_same _ _ he
      have h' : chk (ltI (mulZ (addZ (ln ([] : List e'.D)) (ln xs)) by_) 140737488355328) (some (catL [] xs)) = some y := h
      have hy : y = xs := by
        simp only [W1, W2, chk, brB] at h'
        cases hc : ltI (mulZ (addZ (ln ([] : List e'.D)) (ln xs)) by_) 140737488355328 with
        | false =>
          have h2 : chk (ltI (mulZ (addZ (ln ([] : List e'.D)) (ln xs)) by_) 140737488355328) (some (catL [] xs)) = some y := h
          rw [hc] at h2
          cases h2
        | true =>
          have h2 : chk (ltI (mulZ (addZ (ln ([] : List e'.D)) (ln xs)) by_) 140737488355328) (some (catL [] xs)) = some y := h
          rw [hc] at h2
          exact (Option.some.inj h2).symm
      exact ro_split hB hn hm hf (fun h0 => hnil (by rw [hy, h0])) (hrn xs h)
    · cases h
  · obtain rfl := Option.some.inj h
    have hC : CallsOk E (noExt E) := calls_ok (noExt_ok (E := E)) hB
    exact evFn_ok hn hC (draw_ok (cf := noExt E) hm hC) hf (hnil rfl)
  · cases h
end Go.Eng
