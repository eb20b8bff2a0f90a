/- What values stand for in memory. -/
import Derived.Test.YtkghicadebeceaaDoorE1
import Derived.Below
import Derived.Laws.MakeOwn
namespace Go.Eng
open Go.RowKit

theorem beq_ne {a b : Nat} (h : a ≠ b) : Nat.beq a b = false := by
  cases e : Nat.beq a b with
  | false => rfl
  | true => exact absurd (Nat.eq_of_beq_eq_true e) h
theorem beq_self (a : Nat) : Nat.beq a a = true := Nat.beq_refl a
structure Loc where
  a : Option Addr
  len : Nat
  cap : Nat
  sz : Nat
  deriving Inhabited

/-- a row of elements lies at a place -/
def RowAt {α : Type} (w : World) (R : Nat → Prop) (sz : Nat) (C : List Value → α → Prop) (a : Option Addr) (cap : Nat) (xs : List α) : Prop :=
  xs.length ≤ cap ∧ (a = none → cap = 0) ∧ ∀ ad, a = some ad → ad.spot = none ∧ R ad.block ∧ ∃ cs ty fz,
    w.heap[ad.block]? = some (.cells cs ty fz) ∧ ad.off + cap * sz ≤ cs.size ∧ ∀ i x, xs[i]? = some x → C (cs.toList.drop (ad.off + i * sz)) x
/-- a row that is read only: where it has no room nothing is asked of its place -/
def RowRO {α : Type} (w : World) (R : Nat → Prop) (sz : Nat) (C : List Value → α → Prop) (a : Option Addr) (cap : Nat) (xs : List α) : Prop :=
  xs.length ≤ cap ∧ (a = none → cap = 0) ∧ (0 < cap → RowAt w R sz C a cap xs)
theorem RowAt.ro {α : Type} {w : World} {R : Nat → Prop} {sz cap : Nat} {C : List Value → α → Prop} {a : Option Addr} {xs : List α} (h : RowAt w R sz C a cap xs) : RowRO w R sz C a cap xs := ⟨h.1, h.2.1, fun _ => h⟩
mutual
def CT.Cell (w : World) (R : Nat → Prop) : (c : CT) → Value → c.D → Prop
  | .int k, v, n => v = .int k n
  | .bool, v, b => v = .bool b
  | .str, v, s => v = .string s
  | .row e, v, xs => ∃ a cap, v = .slice a (List.length (α := e.D) xs) cap ∧ RowRO w R e.size (CTs.Cells w R e) a cap xs
def CTs.Cells (w : World) (R : Nat → Prop) : (e : CTs) → List Value → e.D → Prop
  | .one c, vs, x => ∃ v, vs[0]? = some v ∧ CT.Cell w R c v x
  | .cons c cs, vs, x => ∃ v, vs[0]? = some v ∧ CT.Cell w R c v x.1 ∧ CTs.Cells w R cs (vs.drop 1) x.2
end
theorem RowAt.imp {α : Type} {w w' : World} {R R' : Nat → Prop} {sz cap : Nat} {C C' : List Value → α → Prop} {a : Option Addr} {xs : List α}
    (hR : ∀ b, R b → R' b ∧ w'.heap[b]? = w.heap[b]?) (hC : ∀ vs x, C vs x → C' vs x) (h : RowAt w R sz C a cap xs) : RowAt w' R' sz C' a cap xs := by
  refine ⟨h.1, h.2.1, fun ad ha => ?_⟩
  obtain ⟨h1, h2, cs, ty, fz, h3, h4, h5⟩ := h.2.2 ad ha
  exact ⟨h1, (hR _ h2).1, cs, ty, fz, by rw [(hR _ h2).2]; exact h3, h4, fun i x hx => hC _ _ (h5 i x hx)⟩
theorem RowRO.imp {α : Type} {w w' : World} {R R' : Nat → Prop} {sz cap : Nat} {C C' : List Value → α → Prop} {a : Option Addr} {xs : List α}
    (hR : ∀ b, R b → R' b ∧ w'.heap[b]? = w.heap[b]?) (hC : ∀ vs x, C vs x → C' vs x) (h : RowRO w R sz C a cap xs) : RowRO w' R' sz C' a cap xs :=
  ⟨h.1, h.2.1, fun hc => (h.2.2 hc).imp hR hC⟩
mutual
theorem CT.Cell.imp {w w' : World} {R R' : Nat → Prop} (hR : ∀ b, R b → R' b ∧ w'.heap[b]? = w.heap[b]?) :
    ∀ (c : CT) (v : Value) (x : c.D), CT.Cell w R c v x → CT.Cell w' R' c v x
  | .int _, _, _, h => h
  | .bool, _, _, h => h
  | .str, _, _, h => h
  | .row e, _, _, ⟨a, cap, hv, h⟩ => ⟨a, cap, hv, h.imp hR (fun vs x hx => CTs.Cells.imp hR e vs x hx)⟩
theorem CTs.Cells.imp {w w' : World} {R R' : Nat → Prop} (hR : ∀ b, R b → R' b ∧ w'.heap[b]? = w.heap[b]?) :
    ∀ (e : CTs) (vs : List Value) (x : e.D), CTs.Cells w R e vs x → CTs.Cells w' R' e vs x
  | .one c, _, _, ⟨v, h1, h2⟩ => ⟨v, h1, CT.Cell.imp hR c v _ h2⟩
  | .cons c cs, _, _, ⟨v, h1, h2, h3⟩ => ⟨v, h1, CT.Cell.imp hR c v _ h2, CTs.Cells.imp hR cs _ _ h3⟩
end
/-- a flat element's cells are looked for nowhere -/
theorem CTs.Cells.flat {w w' : World} {R R' : Nat → Prop} : ∀ (e : CTs) (vs : List Value) (x : e.D), e.flat = true → CTs.Cells w R e vs x → CTs.Cells w' R' e vs x
  | .one (.int _), _, _, _, h => h
  | .one .bool, _, _, _, h => h
  | .one .str, _, _, _, h => h
  | .one (.row _), _, _, hf, _ => by simp [CTs.flat] at hf
  | .cons (.int _) cs, _, _, hf, ⟨v, h1, h2, h3⟩ => ⟨v, h1, h2, CTs.Cells.flat cs _ _ (by simpa [CTs.flat] using hf) h3⟩
  | .cons .bool cs, _, _, hf, ⟨v, h1, h2, h3⟩ => ⟨v, h1, h2, CTs.Cells.flat cs _ _ (by simpa [CTs.flat] using hf) h3⟩
  | .cons .str cs, _, _, hf, ⟨v, h1, h2, h3⟩ => ⟨v, h1, h2, CTs.Cells.flat cs _ _ (by simpa [CTs.flat] using hf) h3⟩
  | .cons (.row _) _, _, _, hf, _ => by simp [CTs.flat] at hf

/-- what is known of the program's variables: their blocks, what lies there; the types of strings.Builder and of bytes -/
class Glb where
  gb : Nat → Prop
  gi : World → Prop
  mono : ∀ w w' : World, (∀ b, gb b → w'.heap[b]? = w.heap[b]?) → gi w → gi w'
  bT : TypeId := 0
  eT : TypeId := 0
  arg : Nat → Value := fun _ => .bool false
  argb : ∀ i ad l c, arg i = .slice (some ad) l c → 0 < c → gb ad.block := by intro i ad l c h; cases h
@[reducible] def Glb.none : Glb := { gb := fun _ => False, gi := fun _ => True, mono := fun _ _ _ _ => trivial }
set_option linter.unusedSectionVars false
variable [Glb]
section rep
variable (w0 : World) (R : Nat → Prop) (loc : Nat → Loc)
/-- the concrete value that a value stands for -/
def Rep : V → Value → Prop
  | .un, _ => True
  | .int k n, v => v = .int k n
  | .bool b, v => v = .bool b
  | .str s, v => v = .string s
  | .nil, v => v = .slice none 0 0
  | .pnil, v => v = .pointer none
  | .ro e xs, v => CT.Cell w0 R (.row e) v xs
  | .rn e xs, v => CT.Cell w0 R (.row e) v xs ∧ ∃ ad l c, v = .slice (some ad) l c
  | .rc i e xs, v => v = Glb.arg i ∧ e.flat = true ∧ CT.Cell w0 R (.row e) v xs
  | .roel e x off, v => ∃ ad : Addr, v = .pointer (some ⟨ad.block, ad.off + off, none⟩) ∧ R ad.block ∧ ∃ cs ty fz,
      w0.heap[ad.block]? = some (.cells cs ty fz) ∧ CTs.Cells w0 R e (cs.toList.drop ad.off) x
  | .own id, v => v = .slice (loc id).a (loc id).len (loc id).cap
  | .sub id lo hi, v => 0 ≤ lo ∧ lo ≤ hi ∧ hi ≤ (loc id).len ∧ v = .slice (if (loc id).cap = lo.toNat then (loc id).a else (loc id).a.map (·.add (lo.toNat * (loc id).sz))) (hi - lo).toNat ((loc id).cap - lo.toNat)
  | .el id i off, v => 0 ≤ i ∧ i < (loc id).len ∧ ∃ ad, (loc id).a = some ad ∧ v = .pointer (some ⟨ad.block, ad.off + i.toNat * (loc id).sz + off, none⟩)
  | .box id off, v => ∃ b, (loc id).a = some ⟨b, 0, none⟩ ∧ v = .pointer (some ⟨b, off, none⟩)
  | .agg vs, v => ∃ cs, v = .agg cs ∧ go vs cs.toList
  | .tup vs, v => ∃ cs, v = .tuple cs ∧ go vs cs.toList
  | .fn f a b, v => ∃ x y, v = .func (.func f) x y ∧ go a x.toList ∧ go b y.toList
  | .cst c, v => v = c ∧ oneC c = true
  where go : List V → List Value → Prop
  | [], [] => True
  | v :: vs, c :: cs => Rep v c ∧ go vs cs
  | _, _ => False
abbrev RepL := Rep.go w0 R loc
end rep

section
variable {w0 : World} {R : Nat → Prop} {loc loc' : Nat → Loc}
theorem Rep.unrc : ∀ {v : V} {c : Value}, Rep w0 R loc v c → Rep w0 R loc v.unrc c := by
  intro v c h
  cases v with
  | rc i e xs => exact h.2.2
  | _ => exact h
theorem RepL.length : ∀ {vs : List V} {cs : List Value}, RepL w0 R loc vs cs → vs.length = cs.length
  | [], [], _ => rfl
  | _ :: vs, _ :: cs, h => by simp [RepL.length (vs := vs) (cs := cs) h.2]
  | [], _ :: _, h => by simp [RepL, Rep.go] at h
  | _ :: _, [], h => by simp [RepL, Rep.go] at h
theorem RepL.get : ∀ {vs : List V} {cs : List Value} {i : Nat} {v : V}, RepL w0 R loc vs cs → vs[i]? = some v → ∃ c, cs[i]? = some c ∧ Rep w0 R loc v c
  | _ :: _, c :: _, 0, v, h, hi => ⟨c, rfl, by simp at hi; subst hi; exact h.1⟩
  | _ :: vs, _ :: cs, i + 1, v, h, hi => by simpa using RepL.get (vs := vs) (cs := cs) (i := i) h.2 (by simpa using hi)
  | [], _, _, _, _, hi => by simp at hi
  | _ :: _, [], _, _, h, _ => by simp [RepL, Rep.go] at h
theorem RepL.append : ∀ {vs vs' : List V} {cs cs' : List Value}, RepL w0 R loc vs cs → RepL w0 R loc vs' cs' → RepL w0 R loc (vs ++ vs') (cs ++ cs')
  | [], _, [], _, _, h' => h'
  | _ :: vs, _, _ :: cs, _, h, h' => ⟨h.1, RepL.append (vs := vs) (cs := cs) h.2 h'⟩
  | [], _, _ :: _, _, h, _ => by simp [RepL, Rep.go] at h
  | _ :: _, _, [], _, h, _ => by simp [RepL, Rep.go] at h
theorem RepL.drop : ∀ {vs : List V} {cs : List Value} (n : Nat), RepL w0 R loc vs cs → RepL w0 R loc (vs.drop n) (cs.drop n)
  | [], [], n, _ => by simp [RepL, Rep.go]
  | _ :: _, _ :: _, 0, h => h
  | _ :: vs, _ :: cs, n + 1, h => by simpa using RepL.drop (vs := vs) (cs := cs) n h.2
  | [], _ :: _, _, h => by simp [RepL, Rep.go] at h
  | _ :: _, [], _, h => by simp [RepL, Rep.go] at h
theorem RepL.take : ∀ {vs : List V} {cs : List Value} (n : Nat), RepL w0 R loc vs cs → RepL w0 R loc (vs.take n) (cs.take n)
  | [], [], n, _ => by simp [RepL, Rep.go]
  | _ :: _, _ :: _, 0, _ => by simp [RepL, Rep.go]
  | _ :: vs, _ :: cs, n + 1, h => ⟨h.1, RepL.take (vs := vs) (cs := cs) n h.2⟩
  | [], _ :: _, _, h => by simp [RepL, Rep.go] at h
  | _ :: _, [], _, h => by simp [RepL, Rep.go] at h
theorem RepL.set : ∀ {vs : List V} {cs : List Value} (n : Nat) {v : V} {c : Value}, RepL w0 R loc vs cs → Rep w0 R loc v c → RepL w0 R loc (vs.set n v) (cs.set n c)
  | [], [], _, _, _, h, _ => h
  | _ :: _, _ :: _, 0, _, _, h, h' => ⟨h', h.2⟩
  | _ :: vs, _ :: cs, n + 1, _, _, h, h' => ⟨h.1, RepL.set (vs := vs) (cs := cs) n h.2 h'⟩
  | [], _ :: _, _, _, _, h, _ => by simp [RepL, Rep.go] at h
  | _ :: _, [], _, _, _, h, _ => by simp [RepL, Rep.go] at h

-- another table of places, where it is looked at the same
mutual
theorem Rep.kill {id : Nat} (hl : ∀ j, j ≠ id → loc' j = loc j) : ∀ (v : V) (c : Value), Rep w0 R loc v c → Rep w0 R loc' (v.kill id) c
  | .un, _, _ => trivial
  | .int _ _, _, h => h
  | .bool _, _, h => h
  | .str _, _, h => h
  | .nil, _, h => h
  | .pnil, _, h => h
  | .ro _ _, _, h => h
  | .rn _ _, _, h => h
  | .rc _ _ _, _, h => h
  | .roel _ _ _, _, h => h
  | .cst _, _, h => h
  | .own j, c, h => by
    simp only [V.kill]
    by_cases e : j = id
    · subst e; simp [Rep]
    · rw [show Nat.beq j id = false from beq_ne e]; simp only [cond_false, Rep, hl j e]; exact h
  | .sub j a b, c, h => by
    simp only [V.kill]
    by_cases e : j = id
    · subst e; simp [Rep]
    · rw [show Nat.beq j id = false from beq_ne e]; simp only [cond_false, Rep, hl j e]; exact h
  | .el j a b, c, h => by
    simp only [V.kill]
    by_cases e : j = id
    · subst e; simp [Rep]
    · rw [show Nat.beq j id = false from beq_ne e]; simp only [cond_false, Rep, hl j e]; exact h
  | .box j b, c, h => by
    simp only [V.kill]
    by_cases e : j = id
    · subst e; simp [Rep]
    · rw [show Nat.beq j id = false from beq_ne e]; simp only [cond_false, Rep, hl j e]; exact h
  | .agg vs, _, ⟨cs, hc, h⟩ => ⟨cs, hc, RepL.kill hl vs cs.toList h⟩
  | .tup vs, _, ⟨cs, hc, h⟩ => ⟨cs, hc, RepL.kill hl vs cs.toList h⟩
  | .fn _ a b, _, ⟨x, y, hc, h, h'⟩ => ⟨x, y, hc, RepL.kill hl a x.toList h, RepL.kill hl b y.toList h'⟩
theorem RepL.kill {id : Nat} (hl : ∀ j, j ≠ id → loc' j = loc j) : ∀ (vs : List V) (cs : List Value), RepL w0 R loc vs cs → RepL w0 R loc' (V.kill.go id vs) cs
  | [], [], _ => trivial
  | v :: vs, c :: cs, h => ⟨Rep.kill hl v c h.1, RepL.kill hl vs cs h.2⟩
  | [], _ :: _, h => h.elim
  | _ :: _, [], h => h.elim
end
end
end Go.Eng
