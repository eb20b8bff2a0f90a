/- A law, from the evaluator's answer. -/
import Derived.Test.YtkghicadebeceaaDoorE26
import Derived.WideShapes
namespace Go.Eng
set_option linter.unusedSectionVars false
variable [Glb]
open Go.RowKit
set_option linter.unusedSimpArgs false
set_option linter.unusedVariables false

/-- what cells of these kinds say -/
noncomputable def LD : List CT → Type
  | [] => Unit
  | t :: l => t.D × LD l
noncomputable def LD.toVs : (l : List CT) → LD l → List V
  | [], _ => []
  | t :: l, x => t.toV x.1 :: LD.toVs l x.2
noncomputable def LD.good : (l : List CT) → LD l → Prop
  | [], _ => True
  | t :: l, x => t.good x.1 ∧ LD.good l x.2
section
variable {w : World} {R : Nat → Prop} {P : Program} {loc : Nat → Loc}
theorem HasL.open : ∀ {l : List CT} {cs : List Value}, HasL w R l cs → ∃ x : LD l, RepL w R loc (LD.toVs l x) cs ∧ LD.good l x
  | [], [], _ => ⟨(), trivial, trivial⟩
  | t :: l, c :: cs, h => by
    obtain ⟨x, h1, h2⟩ := h.1
    obtain ⟨y, h3, h4⟩ := HasL.open (l := l) (cs := cs) h.2
    exact ⟨(x, y), ⟨CT.rep_toV t c x h1, h3⟩, h2, h4⟩
  | [], _ :: _, h => h.elim
  | _ :: _, [], h => h.elim
/-- a parameter: is it an aggregate, its cells -/
noncomputable def argV (ag : Bool) (l : List CT) (x : LD l) : V := match ag with
  | true => .agg (LD.toVs l x)
  | false => (LD.toVs l x).headD .un
variable {H : Type} {enc : TypeId × Value → H} {base : Nat} {spare : Nat → Bool} {held : Bool} {fuel : Nat} {y : DataW H × List MemPlace}
theorem arg_agg (hsp : ∀ b, spare b = true) (d : Nat) {t : TypeId} {l : List CT} {cs : Array Value} (hl : lct P d t = some l) (h : DataW.trod enc P w base spare held fuel t (Value.agg cs).cells.toList = some y) :
    ∃ x : LD l, Rep w (inHeap w) loc (argV true l x) (.agg cs) ∧ LD.good l x := by
  obtain ⟨x, h1, h2⟩ := (trod_has hsp d t l fuel _ y hl h).open (loc := loc)
  exact ⟨x, ⟨cs, rfl, h1⟩, h2⟩
theorem arg_one (hsp : ∀ b, spare b = true) (d : Nat) {t : TypeId} {c : CT} {v : Value} (hl : lct P d t = some [c]) (hv : v.cells.toList = [v]) (h : DataW.trod enc P w base spare held fuel t v.cells.toList = some y) :
    ∃ x : LD [c], Rep w (inHeap w) loc (argV false [c] x) v ∧ LD.good [c] x := by
  have := trod_has hsp d t [c] fuel _ y hl h
  rw [hv] at this
  obtain ⟨x, h1, h2⟩ := this.open (loc := loc)
  exact ⟨x, h1.1, h2⟩
/-- the law's call -/
theorem law_calls {E : Env} {ext : Cf E} (hB : BldOk E) (hn : Named E.P) (hm : E.P.follows .mixedOrders = true) (hext : FnOk E ext) {k f : Nat} {fn : Func} {c : Code} {vs : List V} {x : (E.sig f).T} (hf : E.P.funcs[f]? = some fn) (hb : fn.body = some c)
    (h : evF E ext k f vs [] = some x) (hfin : (E.sig f).fin = []) (hx : ∀ loc2 (v : Value), Rep w (inHeap w) loc2 ((E.sig f).inj x 0).1 v → v = .bool true) {args : Array Value} (hg : Gl w (inHeap w)) (hv : RepL w (inHeap w) loc vs args.toList) :
    Calls E.P f args w fun e w' => e = .returned (.bool true) ∧ Below w.heap.size w w' := by
  have hans := evF_calls hB hn hm hext h 0 (by rw [hfin]; exact Nat.le_refl _) (R := inHeap w) hg (fun b hb => hb) hv
  have key : ∀ v w', Left E f x w (fun _ => False) loc 0 w (inHeap w) v w' → v = .bool true ∧ Below w.heap.size w w' := fun v w' hl => by
    obtain ⟨hfr, loc2, γ2, _, _, _, g4, _⟩ := hl
    exact ⟨hx loc2 v g4, hfr.os, hfr.tape, hfr.output, hfr.size, fun k hk => hfr.block k hk (fun h => h)⟩
  rcases hans with ⟨_, r2⟩ | ⟨v, w', r1, _⟩
  · refine r2.mono fun e w' he => ?_
    obtain ⟨v, rfl, he⟩ := he
    obtain ⟨rfl, hbel⟩ := key v w' he
    exact ⟨rfl, hbel⟩
  · rw [run_callFunc hn hf hb] at r1
    cases r1
end
end Go.Eng
