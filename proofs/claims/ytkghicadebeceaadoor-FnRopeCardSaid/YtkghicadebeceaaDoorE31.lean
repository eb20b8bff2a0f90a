/- Functions of the library that read laid tables, or have no code: what they answer. -/
import Derived.Test.YtkghicadebeceaaDoorE30
import Derived.Shelf.Unicode.DecodeAny
namespace Go.Eng
set_option linter.unusedSectionVars false
set_option linter.unusedSimpArgs false
set_option linter.unusedVariables false
open Go.RowKit
/-! ### the two tables of unicode/utf8, as package-level variables -/
theorem cell_same {w w' : World} {a : Nat} (h : w'.heap[a]? = w.heap[a]?) (c : Nat) : w'.cell? ⟨a, c, none⟩ = w.cell? ⟨a, c, none⟩ := by
  unfold World.cell?
  rw [h]
theorem utf8Tabs_mono (a b : Nat) (w w' : World) (ha : w'.heap[a]? = w.heap[a]?) (hb : w'.heap[b]? = w.heap[b]?) (h : Lib.Utf8Tabs a b w) : Lib.Utf8Tabs a b w' := by
  unfold Lib.Utf8Tabs at h ⊢
  simp only [cell_same ha, cell_same hb]
  exact h
@[reducible] def Glb.utf8 (a b : Nat) (bT eT : Nat := 0) : Glb := { gb := fun k => k = a ∨ k = b, gi := Lib.Utf8Tabs a b, mono := fun w w' h ht => utf8Tabs_mono a b w w' (h a (.inl rfl)) (h b (.inr rfl)) ht, bT := bT, eT := eT }
/-- .. and a slice that the run was begun with -/
@[reducible] def Glb.utf8A (a b : Nat) (bT eT : Nat) (v : Value) : Glb := { gb := fun k => (k = a ∨ k = b) ∨ ∃ ad l c, v = .slice (some ad) l c ∧ 0 < c ∧ k = ad.block, gi := Lib.Utf8Tabs a b, mono := fun w w' h ht => utf8Tabs_mono a b w w' (h a (.inl (.inl rfl))) (h b (.inl (.inr rfl))) ht, bT := bT, eT := eT, arg := fun _ => v, argb := fun i ad l c h hc => .inr ⟨ad, l, c, h, hc, rfl⟩ }
@[reducible] def Glb.argA (bT eT : Nat) (v : Value) : Glb := { gb := fun k => ∃ ad l c, v = .slice (some ad) l c ∧ 0 < c ∧ k = ad.block, gi := fun _ => True, mono := fun _ _ _ _ => trivial, bT := bT, eT := eT, arg := fun _ => v, argb := fun i ad l c h hc => ⟨ad, l, c, h, hc, rfl⟩ }
theorem cell_in {w : World} {a c : Nat} {v : Value} (h : w.cell? ⟨a, c, none⟩ = some v) : a < w.heap.size := by
  by_cases hc : a < w.heap.size
  · exact hc
  · unfold World.cell? at h
    rw [show w.heap[a]? = none from Array.getElem?_eq_none (by omega)] at h
    cases h
variable [Glb]

/-- a function that is entered, answers plain values and leaves the old world as it was -/
theorem calls_value_ok {E : Env} {f : Nat} {fn : Func} {cd : Code} {vs : List V} {os : List O} {x : (E.sig f).T} {v : V} {c : Value} (hn : Named E.P) (hf : E.P.funcs[f]? = some fn) (hb : fn.body = some cd) (hinj : ∀ T, (E.sig f).inj x T = (v, [], [])) (hfin : (E.sig f).fin = []) (hids : v.ids = [])
    (hrep : ∀ (w : World) (R : Nat → Prop) (loc : Nat → Loc), Rep w R loc v c)
    (hcall : ∀ (w : World) (R : Nat → Prop) (loc : Nat → Loc) (args : Array Value), Glb.gi w → RepL w R loc vs args.toList → Calls E.P f args w fun e w' => e = .returned c ∧ Below w.heap.size w w') : FnOkAt E f vs os x := by
  intro w R L loc γ args T w1 R1 hT hg hg1 hR hγ hv ho
  refine .inl ⟨run_callFunc hn hf hb, (hcall w R loc args hg.1 hv).mono fun e w' he => ?_⟩
  obtain ⟨rfl, bel⟩ := he
  refine ⟨c, rfl, ⟨bel.os, bel.tape, bel.output, bel.size, fun k hk _ => bel.block k hk⟩, loc, fun _ => none, fun k _ _ => rfl, fun b k h => absurd h (by simp), fun b k h => absurd h (by simp), ?_, ?_, ?_, ?_, ?_⟩
  · rw [hinj T]; exact hrep _ _ _
  · rw [hinj T]; intro id hid; rw [hids] at hid; cases hid
  · rw [hinj T, hfin]; rfl
  · rw [hinj T]; exact ⟨fun k o hk => by simp at hk⟩
  · rw [hinj T]; intro k o hk; simp at hk
/-! ### unicode/utf8.DecodeRuneInString -/
noncomputable def xDecodeRune (vs : List V) (os : List O) : Option (Int × Int) := match vs with
  | [.str s] => some (((Lib.decodeGo s).1 : Int), ((Lib.decodeGo s).2 : Int))
  | _ => none
theorem xDecodeRune_ok {E : Env} {f : Nat} {fn : Func} {cd : Code} {vs : List V} {os : List O} {x : (E.sig f).T} {y : Int × Int} (hn : Named E.P) (hf : E.P.funcs[f]? = some fn) (hb : fn.body = some cd)
    (hinj : ∀ T, (E.sig f).inj x T = (.tup [.int .i32 y.1, .int .i64 y.2], [], [])) (hfin : (E.sig f).fin = []) (h : xDecodeRune vs os = some y)
    (hcall : ∀ (s : ByteArray) (w : World), Glb.gi w → Calls E.P f #[.string s] w fun e w' => e = .returned (.tuple #[.int .i32 (Lib.decodeGo s).1, .int .i64 (Lib.decodeGo s).2]) ∧ Below w.heap.size w w') : FnOkAt E f vs os x := by
  unfold xDecodeRune at h
  split at h
  · rename_i s
    obtain rfl := Option.some.inj h
    refine calls_value_ok (c := .tuple #[.int .i32 (Lib.decodeGo s).1, .int .i64 (Lib.decodeGo s).2]) hn hf hb hinj hfin rfl (fun w R loc => ⟨_, rfl, rfl, rfl, trivial⟩) (fun w R loc args hg hv => ?_)
    obtain ⟨a, rfl, ha⟩ := hv.one_arg
    obtain rfl : a = .string s := ha
    exact hcall s w hg
  · cases h
/-! ### internal/bytealg.CountString -/
def xCountString (vs : List V) (os : List O) : Option Int := match vs with
  | [.str s, .int .u8 c] => some (Lib.countByte s.data.toList c.toNat.toUInt8 : Nat)
  | _ => none
theorem xCountString_ok {E : Env} {f : Nat} {vs : List V} {os : List O} {x : (E.sig f).T} {n : Int} {fn : Func} (hinj : ∀ T, (E.sig f).inj x T = (.int .i64 n, [], [])) (hfin : (E.sig f).fin = []) (h : xCountString vs os = some n)
    (hf : E.P.funcs[f]? = some fn) (hname : (fn.name == "runtime.NumGoroutine") = false) (hb : fn.body.isNone = true) (hn : Extern.findNext fn = none) (he : Extern.find fn = some Extern.BytealgCount.count) : FnOkAt E f vs os x := by
  unfold xCountString at h
  split at h
  · rename_i s c
    obtain rfl := Option.some.inj h
    refine value_ok (c := .int .i64 _) hinj hfin rfl (fun w R loc => rfl) (fun w R loc args hv => ?_)
    obtain ⟨a, b, rfl, ha, hb'⟩ := hv.two
    obtain rfl : a = .string s := ha
    obtain rfl : b = .int .u8 c := hb'
    rw [run_callFunc_extern hf hname hb hn he, Lib.run_countString]
    rfl
  · cases h
end Go.Eng
