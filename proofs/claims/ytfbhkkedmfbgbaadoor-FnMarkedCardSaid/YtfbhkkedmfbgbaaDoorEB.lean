/- What values stand for in memory. Frames: how a state of the evaluator stands to a state of the machine. The operations that turn no memory. Reading memory. More operations that turn no memory: slices, places, parts. Building values; the operations that turn no memory, all of them. New memory. Rows that are made, written, appended to. Stores, appends, conversions. -/
import Derived.Test.YtfbhkkedmfbgbaaDoorEA
import Derived.Below
import Derived.Laws.MakeOwn
import Derived.Laws.IdiomCopy
import Derived.Laws.Cells
import Derived.Lib.Builder
import Derived.Lib.AppendStr
import Derived.Laws.Append
import Derived.Laws.IdiomStrings
namespace Go.Eng
open Go.RowKit

theorem beq_ne {a b : Nat} (h : a ≠ b) : Nat.beq a b = false := by
  cases e : Nat.beq a b with
  | false => rfl
  | true => exact absurd (Nat.eq_of_beq_eq_true e) h
theorem beq_self (a : Nat) : Nat.beq a a = true := Nat.beq_refl a
structure Loc where
  a : Option Addr
  len : Nat
  cap : Nat
  sz : Nat
  inn : Nat → Option Addr × Nat × Nat := fun _ => (none, 0, 0)
  deriving Inhabited

/-- a row of elements lies at a place -/
def RowAt {α : Type} (w : World) (R : Nat → Prop) (sz : Nat) (C : List Value → α → Prop) (a : Option Addr) (cap : Nat) (xs : List α) : Prop :=
  xs.length ≤ cap ∧ (a = none → cap = 0) ∧ ∀ ad, a = some ad → ad.spot = none ∧ R ad.block ∧ ∃ cs ty fz,
    w.heap[ad.block]? = some (.cells cs ty fz) ∧ ad.off + cap * sz ≤ cs.size ∧ ∀ i x, xs[i]? = some x → C (cs.toList.drop (ad.off + i * sz)) x
/-- a row that is read only: where it has no room nothing is asked of its place -/
def RowRO {α : Type} (w : World) (R : Nat → Prop) (sz : Nat) (C : List Value → α → Prop) (a : Option Addr) (cap : Nat) (xs : List α) : Prop :=
  xs.length ≤ cap ∧ (a = none → cap = 0) ∧ (0 < cap → RowAt w R sz C a cap xs)
theorem RowAt.ro {α : Type} {w : World} {R : Nat → Prop} {sz cap : Nat} {C : List Value → α → Prop} {a : Option Addr} {xs : List α} (h : RowAt w R sz C a cap xs) : RowRO w R sz C a cap xs := ⟨h.1, h.2.1, fun _ => h⟩
mutual
def CT.Cell (w : World) (R : Nat → Prop) : (c : CT) → Value → c.D → Prop
  | .int k, v, n => v = .int k n
  | .bool, v, b => v = .bool b
  | .str, v, s => v = .string s
  | .row e, v, xs => ∃ a cap, v = .slice a (List.length (α := e.D) xs) cap ∧ RowRO w R e.size (CTs.Cells w R e) a cap xs
def CTs.Cells (w : World) (R : Nat → Prop) : (e : CTs) → List Value → e.D → Prop
  | .one c, vs, x => ∃ v, vs[0]? = some v ∧ CT.Cell w R c v x
  | .cons c cs, vs, x => ∃ v, vs[0]? = some v ∧ CT.Cell w R c v x.1 ∧ CTs.Cells w R cs (vs.drop 1) x.2
end
theorem RowAt.imp {α : Type} {w w' : World} {R R' : Nat → Prop} {sz cap : Nat} {C C' : List Value → α → Prop} {a : Option Addr} {xs : List α}
    (hR : ∀ b, R b → R' b ∧ w'.heap[b]? = w.heap[b]?) (hC : ∀ vs x, C vs x → C' vs x) (h : RowAt w R sz C a cap xs) : RowAt w' R' sz C' a cap xs := by
  refine ⟨h.1, h.2.1, fun ad ha => ?_⟩
  obtain ⟨h1, h2, cs, ty, fz, h3, h4, h5⟩ := h.2.2 ad ha
  exact ⟨h1, (hR _ h2).1, cs, ty, fz, by rw [(hR _ h2).2]; exact h3, h4, fun i x hx => hC _ _ (h5 i x hx)⟩
theorem RowRO.imp {α : Type} {w w' : World} {R R' : Nat → Prop} {sz cap : Nat} {C C' : List Value → α → Prop} {a : Option Addr} {xs : List α}
    (hR : ∀ b, R b → R' b ∧ w'.heap[b]? = w.heap[b]?) (hC : ∀ vs x, C vs x → C' vs x) (h : RowRO w R sz C a cap xs) : RowRO w' R' sz C' a cap xs :=
  ⟨h.1, h.2.1, fun hc => (h.2.2 hc).imp hR hC⟩
mutual
theorem CT.Cell.imp {w w' : World} {R R' : Nat → Prop} (hR : ∀ b, R b → R' b ∧ w'.heap[b]? = w.heap[b]?) :
    ∀ (c : CT) (v : Value) (x : c.D), CT.Cell w R c v x → CT.Cell w' R' c v x
  | .int _, _, _, h => h
  | .bool, _, _, h => h
  | .str, _, _, h => h
  | .row e, _, _, ⟨a, cap, hv, h⟩ => ⟨a, cap, hv, h.imp hR (fun vs x hx => CTs.Cells.imp hR e vs x hx)⟩
theorem CTs.Cells.imp {w w' : World} {R R' : Nat → Prop} (hR : ∀ b, R b → R' b ∧ w'.heap[b]? = w.heap[b]?) :
    ∀ (e : CTs) (vs : List Value) (x : e.D), CTs.Cells w R e vs x → CTs.Cells w' R' e vs x
  | .one c, _, _, ⟨v, h1, h2⟩ => ⟨v, h1, CT.Cell.imp hR c v _ h2⟩
  | .cons c cs, _, _, ⟨v, h1, h2, h3⟩ => ⟨v, h1, CT.Cell.imp hR c v _ h2, CTs.Cells.imp hR cs _ _ h3⟩
end
/-- a flat element's cells are looked for nowhere -/
theorem CTs.Cells.flat {w w' : World} {R R' : Nat → Prop} : ∀ (e : CTs) (vs : List Value) (x : e.D), e.flat = true → CTs.Cells w R e vs x → CTs.Cells w' R' e vs x
  | .one (.int _), _, _, _, h => h
  | .one .bool, _, _, _, h => h
  | .one .str, _, _, _, h => h
  | .one (.row _), _, _, hf, _ => by simp [CTs.flat] at hf
  | .cons (.int _) cs, _, _, hf, ⟨v, h1, h2, h3⟩ => ⟨v, h1, h2, CTs.Cells.flat cs _ _ (by simpa [CTs.flat] using hf) h3⟩
  | .cons .bool cs, _, _, hf, ⟨v, h1, h2, h3⟩ => ⟨v, h1, h2, CTs.Cells.flat cs _ _ (by simpa [CTs.flat] using hf) h3⟩
  | .cons .str cs, _, _, hf, ⟨v, h1, h2, h3⟩ => ⟨v, h1, h2, CTs.Cells.flat cs _ _ (by simpa [CTs.flat] using hf) h3⟩
  | .cons (.row _) _, _, _, hf, _ => by simp [CTs.flat] at hf

/-- what is known of the program's variables: their blocks, what lies there; the types of strings.Builder and of bytes -/
class Glb where
  gb : Nat → Prop
  gi : World → Prop
  mono : ∀ w w' : World, (∀ b, gb b → w'.heap[b]? = w.heap[b]?) → gi w → gi w'
  bT : TypeId := 0
  eT : TypeId := 0
  arg : Nat → Value := fun _ => .bool false
  argb : ∀ i ad l c, arg i = .slice (some ad) l c → 0 < c → gb ad.block := by intro i ad l c h; cases h
@[reducible] def Glb.none : Glb := { gb := fun _ => False, gi := fun _ => True, mono := fun _ _ _ _ => trivial }
set_option linter.unusedSectionVars false
variable [Glb]
section rep
variable (w0 : World) (R : Nat → Prop) (loc : Nat → Loc)
/-- the concrete value that a value stands for -/
def Rep : V → Value → Prop
  | .un, _ => True
  | .int k n, v => v = .int k n
  | .bool b, v => v = .bool b
  | .str s, v => v = .string s
  | .nil, v => v = .slice none 0 0
  | .pnil, v => v = .pointer none
  | .ro e xs, v => CT.Cell w0 R (.row e) v xs
  | .rn e xs, v => CT.Cell w0 R (.row e) v xs ∧ ∃ ad l c, v = .slice (some ad) l c
  | .rc i e xs, v => v = Glb.arg i ∧ e.flat = true ∧ CT.Cell w0 R (.row e) v xs
  | .roel e x off, v => ∃ ad : Addr, v = .pointer (some ⟨ad.block, ad.off + off, none⟩) ∧ R ad.block ∧ ∃ cs ty fz,
      w0.heap[ad.block]? = some (.cells cs ty fz) ∧ CTs.Cells w0 R e (cs.toList.drop ad.off) x
  | .own id, v => v = .slice (loc id).a (loc id).len (loc id).cap
  | .sub id lo hi, v => 0 ≤ lo ∧ lo ≤ hi ∧ hi ≤ (loc id).len ∧ v = .slice (if (loc id).cap = lo.toNat then (loc id).a else (loc id).a.map (·.add (lo.toNat * (loc id).sz))) (hi - lo).toNat ((loc id).cap - lo.toNat)
  | .el id i off, v => 0 ≤ i ∧ i < (loc id).len ∧ ∃ ad, (loc id).a = some ad ∧ v = .pointer (some ⟨ad.block, ad.off + i.toNat * (loc id).sz + off, none⟩)
  | .box id off, v => ∃ b, (loc id).a = some ⟨b, 0, none⟩ ∧ v = .pointer (some ⟨b, off, none⟩)
  | .agg vs, v => ∃ cs, v = .agg cs ∧ go vs cs.toList
  | .tup vs, v => ∃ cs, v = .tuple cs ∧ go vs cs.toList
  | .fn f a b, v => ∃ x y, v = .func (.func f) x y ∧ go a x.toList ∧ go b y.toList
  | .cst c, v => v = c ∧ oneC c = true
  | .mt id p, v => match p with
    | .all => v = .slice (loc id).a (loc id).len (loc id).cap
    | .adr i => 0 ≤ i ∧ i < (loc id).len ∧ ∃ ad, (loc id).a = some ad ∧ v = .pointer (some ⟨ad.block, ad.off + i.toNat, none⟩)
    | .bsl n => ∃ b, (loc id).a = some ⟨b, 0, none⟩ ∧ v = .slice (some ⟨b, 0, none⟩) n n
    | .row i => 0 ≤ i ∧ i < (loc id).len ∧ v = .slice ((loc id).inn i.toNat).1 ((loc id).inn i.toNat).2.1 ((loc id).inn i.toNat).2.2
    | .cel i j => 0 ≤ i ∧ i < (loc id).len ∧ 0 ≤ j ∧ j < ((loc id).inn i.toNat).2.1 ∧ ∃ bd, ((loc id).inn i.toNat).1 = some bd ∧ v = .pointer (some ⟨bd.block, bd.off + j.toNat, none⟩)
  where go : List V → List Value → Prop
  | [], [] => True
  | v :: vs, c :: cs => Rep v c ∧ go vs cs
  | _, _ => False
abbrev RepL := Rep.go w0 R loc
end rep

section
variable {w0 : World} {R : Nat → Prop} {loc loc' : Nat → Loc}
theorem Rep.unrc : ∀ {v : V} {c : Value}, Rep w0 R loc v c → Rep w0 R loc v.unrc c := by
  intro v c h
  cases v with
  | rc i e xs => exact h.2.2
  | _ => exact h
theorem RepL.length : ∀ {vs : List V} {cs : List Value}, RepL w0 R loc vs cs → vs.length = cs.length
  | [], [], _ => rfl
  | _ :: vs, _ :: cs, h => by simp [RepL.length (vs := vs) (cs := cs) h.2]
  | [], _ :: _, h => by simp [RepL, Rep.go] at h
  | _ :: _, [], h => by simp [RepL, Rep.go] at h
theorem RepL.get : ∀ {vs : List V} {cs : List Value} {i : Nat} {v : V}, RepL w0 R loc vs cs → vs[i]? = some v → ∃ c, cs[i]? = some c ∧ Rep w0 R loc v c
  | _ :: _, c :: _, 0, v, h, hi => ⟨c, rfl, by simp at hi; subst hi; exact h.1⟩
  | _ :: vs, _ :: cs, i + 1, v, h, hi => by simpa using RepL.get (vs := vs) (cs := cs) (i := i) h.2 (by simpa using hi)
  | [], _, _, _, _, hi => by simp at hi
  | _ :: _, [], _, _, h, _ => by simp [RepL, Rep.go] at h
theorem RepL.append : ∀ {vs vs' : List V} {cs cs' : List Value}, RepL w0 R loc vs cs → RepL w0 R loc vs' cs' → RepL w0 R loc (vs ++ vs') (cs ++ cs')
  | [], _, [], _, _, h' => h'
  | _ :: vs, _, _ :: cs, _, h, h' => ⟨h.1, RepL.append (vs := vs) (cs := cs) h.2 h'⟩
  | [], _, _ :: _, _, h, _ => by simp [RepL, Rep.go] at h
  | _ :: _, _, [], _, h, _ => by simp [RepL, Rep.go] at h
theorem RepL.drop : ∀ {vs : List V} {cs : List Value} (n : Nat), RepL w0 R loc vs cs → RepL w0 R loc (vs.drop n) (cs.drop n)
  | [], [], n, _ => by simp [RepL, Rep.go]
  | _ :: _, _ :: _, 0, h => h
  | _ :: vs, _ :: cs, n + 1, h => by simpa using RepL.drop (vs := vs) (cs := cs) n h.2
  | [], _ :: _, _, h => by simp [RepL, Rep.go] at h
  | _ :: _, [], _, h => by simp [RepL, Rep.go] at h
theorem RepL.take : ∀ {vs : List V} {cs : List Value} (n : Nat), RepL w0 R loc vs cs → RepL w0 R loc (vs.take n) (cs.take n)
  | [], [], n, _ => by simp [RepL, Rep.go]
  | _ :: _, _ :: _, 0, _ => by simp [RepL, Rep.go]
  | _ :: vs, _ :: cs, n + 1, h => ⟨h.1, RepL.take (vs := vs) (cs := cs) n h.2⟩
  | [], _ :: _, _, h => by simp [RepL, Rep.go] at h
  | _ :: _, [], _, h => by simp [RepL, Rep.go] at h
theorem RepL.set : ∀ {vs : List V} {cs : List Value} (n : Nat) {v : V} {c : Value}, RepL w0 R loc vs cs → Rep w0 R loc v c → RepL w0 R loc (vs.set n v) (cs.set n c)
  | [], [], _, _, _, h, _ => h
  | _ :: _, _ :: _, 0, _, _, h, h' => ⟨h', h.2⟩
  | _ :: vs, _ :: cs, n + 1, _, _, h, h' => ⟨h.1, RepL.set (vs := vs) (cs := cs) n h.2 h'⟩
  | [], _ :: _, _, _, _, h, _ => by simp [RepL, Rep.go] at h
  | _ :: _, [], _, _, _, h, _ => by simp [RepL, Rep.go] at h

-- another table of places, where it is looked at the same
mutual
theorem Rep.kill {id : Nat} (hl : ∀ j, j ≠ id → loc' j = loc j) : ∀ (v : V) (c : Value), Rep w0 R loc v c → Rep w0 R loc' (v.kill id) c
  | .un, _, _ => trivial
  | .int _ _, _, h => h
  | .bool _, _, h => h
  | .str _, _, h => h
  | .nil, _, h => h
  | .pnil, _, h => h
  | .ro _ _, _, h => h
  | .rn _ _, _, h => h
  | .rc _ _ _, _, h => h
  | .roel _ _ _, _, h => h
  | .cst _, _, h => h
  | .own j, c, h => by
    simp only [V.kill]
    by_cases e : j = id
    · subst e; simp [Rep]
    · rw [show Nat.beq j id = false from beq_ne e]; simp only [cond_false, Rep, hl j e]; exact h
  | .sub j a b, c, h => by
    simp only [V.kill]
    by_cases e : j = id
    · subst e; simp [Rep]
    · rw [show Nat.beq j id = false from beq_ne e]; simp only [cond_false, Rep, hl j e]; exact h
  | .el j a b, c, h => by
    simp only [V.kill]
    by_cases e : j = id
    · subst e; simp [Rep]
    · rw [show Nat.beq j id = false from beq_ne e]; simp only [cond_false, Rep, hl j e]; exact h
  | .box j b, c, h => by
    simp only [V.kill]
    by_cases e : j = id
    · subst e; simp [Rep]
    · rw [show Nat.beq j id = false from beq_ne e]; simp only [cond_false, Rep, hl j e]; exact h
  | .mt j p, c, h => by
    simp only [V.kill]
    by_cases e : j = id
    · subst e; simp [Rep]
    · rw [show Nat.beq j id = false from beq_ne e]
      cases p.loose && Nat.beq (gho j) id with
      | true => trivial
      | false => simp only [Bool.false_or, cond_false, Rep, hl j e]; exact h
  | .agg vs, _, ⟨cs, hc, h⟩ => ⟨cs, hc, RepL.kill hl vs cs.toList h⟩
  | .tup vs, _, ⟨cs, hc, h⟩ => ⟨cs, hc, RepL.kill hl vs cs.toList h⟩
  | .fn _ a b, _, ⟨x, y, hc, h, h'⟩ => ⟨x, y, hc, RepL.kill hl a x.toList h, RepL.kill hl b y.toList h'⟩
theorem RepL.kill {id : Nat} (hl : ∀ j, j ≠ id → loc' j = loc j) : ∀ (vs : List V) (cs : List Value), RepL w0 R loc vs cs → RepL w0 R loc' (V.kill.go id vs) cs
  | [], [], _ => trivial
  | v :: vs, c :: cs, h => ⟨Rep.kill hl v c h.1, RepL.kill hl vs cs h.2⟩
  | [], _ :: _, h => h.elim
  | _ :: _, [], h => h.elim
end
end
end Go.Eng
namespace Go.Eng
open Go.RowKit

/-- of what was there at the entry nothing has turned but the blocks of L -/
structure Frm (w0 : World) (L : Nat → Prop) (w : World) : Prop where
  os : w.os = w0.os
  tape : w.tape = w0.tape
  output : w.output = w0.output
  size : w0.heap.size ≤ w.heap.size
  block : ∀ k, k < w0.heap.size → ¬ L k → w.heap[k]? = w0.heap[k]?
def unfroz (fz : Nat × Nat) (n : Nat) : Prop := ∀ o, o < n → ¬ (fz.1 ≤ o ∧ o < fz.2)
def nilOk (nl : NI) (a : Option Addr) : Prop := match nl with
  | .is true => a = none
  | .is false => a ≠ none
  | .unk => True
set_option linter.unusedSectionVars false
variable [Glb]
/-- a strings.Builder lies in a block, its bytes in another -/
def BldAt (w : World) (b : Nat) (p v : Value) (s : ByteArray) : Prop :=
  (p = .pointer none ∨ p = .pointer (some ⟨b, 0, none⟩)) ∧ w.heap[b]? = some (.cells #[p, v] Glb.bT (0, 0)) ∧ w.ownsRow 0 Glb.eT 1 v s.size (Lib.strCells s) ∧ v.ownBlock ≠ some b
theorem BldAt.keep {w w' : World} {b : Nat} {p v : Value} {s : ByteArray} (hb : w'.heap[b]? = w.heap[b]?) (hg : ∀ g, v.ownBlock = some g → w'.heap[g]? = w.heap[g]?) (h : BldAt w b p v s) : BldAt w' b p v s := by
  obtain ⟨h1, h2, h3, h4⟩ := h
  refine ⟨h1, by rw [hb]; exact h2, ⟨h3.1, ?_⟩, h4⟩
  rcases h3.2 with hn | ⟨g, cap, cur, rfl, hB, hgg, rest⟩
  · exact .inl hn
  · exact .inr ⟨g, cap, cur, rfl, hB, by rw [hg g rfl]; exact hgg, rest⟩
def ObRep (w0 : World) (R : Nat → Prop) (w : World) (loc : Nat → Loc) (γ : Nat → Option Nat) (id : Nat) : O → Prop
  | .row nl e xs => e.flat = true ∧ (loc id).sz = e.size ∧ (loc id).len = xs.length ∧ RowAt w (fun b => γ b = some id) e.size (CTs.Cells w0 R e) (loc id).a (loc id).cap xs ∧
      (∀ ad cs ty fz, (loc id).a = some ad → w.heap[ad.block]? = some (.cells cs ty fz) → unfroz fz cs.size) ∧ nilOk nl (loc id).a
  | .box cs => ∃ b vals ty fz, (loc id).a = some ⟨b, 0, none⟩ ∧ γ b = some id ∧ w.heap[b]? = some (.cells vals ty fz) ∧ RepL w0 R loc cs vals.toList ∧ unfroz fz vals.size
  | .bld s => ∃ b p v, (loc id).a = some ⟨b, 0, none⟩ ∧ γ b = some id ∧ (∀ g, v.ownBlock = some g → γ g = some id) ∧ BldAt w b p v s
  | .mat c xss => (CTs.one c).flat = true ∧ (loc id).sz = 1 ∧ (loc id).len = xss.length ∧
      (∃ ad cs ty fz, (loc id).a = some ad ∧ ad.spot = none ∧ γ ad.block = some id ∧ w.heap[ad.block]? = some (.cells cs ty fz) ∧ unfroz fz cs.size ∧ ad.off + xss.length ≤ cs.size ∧
        (∀ i xs, xss[i]? = some xs → ((loc id).inn i).2.1 = List.length (α := c.D) xs ∧ cs[ad.off + i]? = some (.slice ((loc id).inn i).1 ((loc id).inn i).2.1 ((loc id).inn i).2.2) ∧
          RowAt w (fun b => γ b = some id) 1 (CTs.Cells w0 R (.one c)) ((loc id).inn i).1 ((loc id).inn i).2.2 xs ∧
          (∀ bd cs' ty' fz', ((loc id).inn i).1 = some bd → w.heap[bd.block]? = some (.cells cs' ty' fz') → unfroz fz' cs'.size) ∧
          (∀ bd, ((loc id).inn i).1 = some bd → bd.block ≠ ad.block) ∧
          (∀ i' bd bd', i' < xss.length → i ≠ i' → ((loc id).inn i).1 = some bd → ((loc id).inn i').1 = some bd' → bd.block ≠ bd'.block)))
/-- what stays in a frame: the number of temporaries, the places of what was lent -/
structure Fx where
  n : Nat
  loc : Nat → Loc
/-- the variables' blocks are read only -/
def Gl (w0 : World) (R : Nat → Prop) : Prop := Glb.gi w0 ∧ ∀ b, Glb.gb b → R b
structure Sim (w0 : World) (R L : Nat → Prop) (N : Fx) (st : St) (a : Act) (w : World) (loc : Nat → Loc) (γ : Nat → Option Nat) : Prop where
  tm : ∀ i, Rep w0 R loc (st.tm i) (a.tmps.getD i undef)
  ob : ∀ id o, st.ob id = some o → ObRep w0 R w loc γ id o
  col : ∀ b id, γ b = some id → (w0.heap.size ≤ b ∨ L b) ∧ b < w.heap.size
  fr : Frm w0 L w
  ro : ∀ b, R b → b < w0.heap.size ∧ ¬ L b
  n : a.tmps.size = N.n
  df : a.defers = []
  lc : ∀ j, j < 500 → loc j = N.loc j
  gl : Gl w0 R

section
variable {w0 w w' : World} {R L : Nat → Prop} {N : Fx} {st : St} {a : Act} {loc loc' : Nat → Loc} {γ γ' : Nat → Option Nat}

theorem constV1 (c : Value) : ∀ v, v = (match c with
      | .int k n => V.int k n
      | .bool b => .bool b
      | .string s => .str s
      | .slice none 0 0 => .nil
      | .pointer none => .pnil
      | c => bif oneC c then .cst c else .un) → Rep w0 R loc v c := by
  intro v h
  subst h
  split <;> first | rfl | (cases h : oneC _ <;> simp [Rep, h])
theorem constV_rep (c : Value) : Rep w0 R loc (constV c) c := by
  unfold constV
  split
  · rfl
  · rfl
  · rfl
  · rfl
  · rfl
  · rename_i cs
    refine ⟨cs, rfl, ?_⟩
    generalize cs.toList = l
    induction l with
    | nil => trivial
    | cons x l ih => exact ⟨constV1 x _ rfl, ih⟩
  · cases h : oneC _ <;> simp [Rep, h]
theorem Sim.eval (h : Sim w0 R L N st a w loc γ) (x : Operand) : Rep w0 R loc (st.rv x) (a.eval x) := by
  cases x with
  | tmp t => exact h.tm t
  | const v => exact constV_rep v
  | func f => exact ⟨#[], #[], rfl, trivial, trivial⟩
  | global g => trivial
theorem Sim.evals (h : Sim w0 R L N st a w loc γ) : ∀ l : List Operand, RepL w0 R loc (l.map st.rv) (l.map a.eval)
  | [] => trivial
  | x :: l => ⟨h.eval x, h.evals l⟩
theorem Rep_undef : Rep w0 R loc (.tup []) undef := ⟨#[], rfl, trivial⟩

theorem Sim.put (h : Sim w0 R L N st a w loc γ) {v : V} {c : Value} (hv : Rep w0 R loc v c) (d : Nat) (hd : d < N.n) :
    Sim w0 R L N (st.put d v) (a.put (some d) c) w loc γ := by
  refine ⟨fun i => ?_, h.ob, h.col, h.fr, h.ro, by simp [Act.put, h.n], h.df, h.lc, h.gl⟩
  simp only [St.put, Act.put]
  by_cases e : i = d
  · subst e
    rw [beq_self]
    simp only [cond_true]
    rw [Array.getD_eq_getD_getElem?, Array.getElem?_setIfInBounds_self_of_lt (by rw [h.n]; exact hd)]
    exact hv
  · rw [beq_ne e]
    simp only [cond_false]
    rw [Array.getD_eq_getD_getElem?, Array.getElem?_setIfInBounds_ne (fun h => e h.symm), ← Array.getD_eq_getD_getElem?]
    exact h.tm i
theorem Sim.put? (h : Sim w0 R L N st a w loc γ) {v : V} {c : Value} (hv : Rep w0 R loc v c) (d : Option Nat) (hd : ∀ x, d = some x → x < N.n) :
    Sim w0 R L N (St.put? st d v) (a.put d c) w loc γ := by
  cases d with
  | none => exact h
  | some d => exact h.put hv d (hd d rfl)

theorem Frm.refl (w : World) (L : Nat → Prop) : Frm w L w := ⟨rfl, rfl, rfl, Nat.le_refl _, fun _ _ _ => rfl⟩
theorem Frm.alloc (h : Frm w0 L w) (o : Obj) : Frm w0 L (w.alloc o) :=
  ⟨h.os, h.tape, h.output, by have := h.size; simp; omega, fun k hk hl => by rw [Below.heap_alloc _ _ _ (by have := h.size; omega)]; exact h.block k hk hl⟩
theorem Frm.drew (h : Frm w0 L w) : Frm w0 L w.drew := ⟨h.os, h.tape, h.output, h.size, h.block⟩
theorem Frm.setCell (h : Frm w0 L w) {p : Addr} (hp : w0.heap.size ≤ p.block ∨ L p.block) (u : Value) : Frm w0 L (w.setCell p u) :=
  ⟨h.os, h.tape, h.output, by simpa [World.setCell] using h.size, fun k hk hl => by
    rw [Below.heap_setCell _ _ _ _ (fun e => by subst e; rcases hp with hp | hp; omega; exact hl hp)]; exact h.block k hk hl⟩

/-- a row of rows stays what it is where its blocks do -/
theorem ObRep.matTo {w0' : World} {R' : Nat → Prop} {id j : Nat} {c : CT} {xss : List (List c.D)} (hl : loc' j = loc id) (hb : ∀ b, γ b = some id → γ' b = some j ∧ w'.heap[b]? = w.heap[b]?) (h : ObRep w0 R w loc γ id (.mat c xss)) : ObRep w0' R' w' loc' γ' j (.mat c xss) := by
  obtain ⟨h1, h2, h3, ad, cs, ty, fz, k1, k2, k3, k4, k5, k6, k7⟩ := h
  simp only [ObRep, hl]
  refine ⟨h1, h2, h3, ad, cs, ty, fz, k1, k2, (hb _ k3).1, by rw [(hb _ k3).2]; exact k4, k5, k6, fun i xs hx => ?_⟩
  obtain ⟨q1, q2, q3, q4, q5, q6⟩ := k7 i xs hx
  refine ⟨q1, q2, q3.imp hb (fun _ _ h => CTs.Cells.flat _ _ _ h1 h), fun bd cs' ty' fz' hbd hh => ?_, q5, q6⟩
  have hg := (q3.2.2 bd hbd).2.1
  rw [(hb _ hg).2] at hh
  exact q4 bd cs' ty' fz' hbd hh
/-- an object stays what it is where its blocks do -/
theorem ObRep.keep {id : Nat} {o : O} (hl : loc' = loc) (hb : ∀ b, γ b = some id → γ' b = some id ∧ w'.heap[b]? = w.heap[b]?) (h : ObRep w0 R w loc γ id o) : ObRep w0 R w' loc' γ' id o := by
  subst hl
  cases o with
  | row nl e xs =>
    obtain ⟨h1, h2, h3, h4, h5, h6⟩ := h
    refine ⟨h1, h2, h3, h4.imp hb (fun _ _ h => h), fun ad cs ty fz ha hc => ?_, h6⟩
    obtain ⟨_, hR, _⟩ := h4.2.2 ad ha
    rw [(hb _ hR).2] at hc
    exact h5 ad cs ty fz ha hc
  | box cs =>
    obtain ⟨b, vals, ty, fz, h1, h2, h3, h4, h5⟩ := h
    exact ⟨b, vals, ty, fz, h1, (hb b h2).1, by rw [(hb b h2).2]; exact h3, h4, h5⟩
  | bld s =>
    obtain ⟨b, p, v, h1, h2, h3, h4⟩ := h
    exact ⟨b, p, v, h1, (hb b h2).1, fun g hg => (hb g (h3 g hg)).1, h4.keep (hb b h2).2 fun g hg => (hb g (h3 g hg)).2⟩
  | mat c xss => exact ObRep.matTo rfl hb h
theorem ObRep.kill {id j : Nat} {o : O} (hj : j ≠ id) (hl : ∀ i, i ≠ id → loc' i = loc i) (hb : ∀ b, γ b = some j → γ' b = some j ∧ w'.heap[b]? = w.heap[b]?) (h : ObRep w0 R w loc γ j o) :
    ObRep w0 R w' loc' γ' j (o.kill id) := by
  cases o with
  | row nl e xs =>
    obtain ⟨h1, h2, h3, h4, h5, h6⟩ := h
    simp only [O.kill, ObRep, hl j hj]
    refine ⟨h1, h2, h3, h4.imp hb (fun _ _ h => h), fun ad cs ty fz ha hc => ?_, h6⟩
    obtain ⟨_, hR, _⟩ := h4.2.2 ad ha
    rw [(hb _ hR).2] at hc
    exact h5 ad cs ty fz ha hc
  | box cs =>
    obtain ⟨b, vals, ty, fz, h1, h2, h3, h4, h5⟩ := h
    simp only [O.kill, ObRep, hl j hj]
    exact ⟨b, vals, ty, fz, h1, (hb b h2).1, by rw [(hb b h2).2]; exact h3, RepL.kill hl _ _ h4, h5⟩
  | bld s =>
    obtain ⟨b, p, v, h1, h2, h3, h4⟩ := h
    simp only [O.kill, ObRep, hl j hj]
    exact ⟨b, p, v, h1, (hb b h2).1, fun g hg => (hb g (h3 g hg)).1, h4.keep (hb b h2).2 fun g hg => (hb g (h3 g hg)).2⟩
  | mat c xss => exact ObRep.matTo (hl j hj) hb h

/-- a new object at a new place: `l` says where, the blocks from the old heap's end on may be its own -/
theorem Sim.new (h : Sim w0 R L N st a w loc γ) {id : Nat} {o : O} {l : Loc} (hid : st.ob id = none) (h5 : 500 ≤ id) (hfr : Frm w0 L w')
    (hsz : w.heap.size ≤ w'.heap.size) (hw : ∀ b id', γ b = some id' → (∃ o, st.ob id' = some o) → w'.heap[b]? = w.heap[b]?)
    (hγ : ∀ b, γ' b = γ b ∨ (γ' b = some id ∧ (∀ id', γ b = some id' → st.ob id' = none) ∧ (w0.heap.size ≤ b ∨ L b) ∧ b < w'.heap.size))
    (ho : ObRep w0 R w' (fun j => if j = id then l else loc j) γ' id o) :
    Sim w0 R L N { tm := fun i => (st.tm i).kill id, ob := upd (killOb id st.ob) id (some o) } a w' (fun j => if j = id then l else loc j) γ' := by
  have hl : ∀ j, j ≠ id → (fun j => if j = id then l else loc j) j = loc j := fun j hj => by simp [hj]
  refine ⟨fun i => Rep.kill hl _ _ (h.tm i), fun j o' hj => ?_, fun b j hb => ?_, hfr, h.ro, h.n, h.df, fun j hj => ?_, h.gl⟩
  · simp only [upd] at hj
    by_cases e : j = id
    · subst e
      rw [beq_self] at hj
      simp only [cond_true, Option.some.injEq] at hj
      subst hj
      exact ho
    · rw [beq_ne e] at hj
      simp only [cond_false, killOb] at hj
      cases hs : st.ob j with
      | none => rw [hs] at hj; cases hj
      | some oj =>
        rw [hs] at hj
        simp only [Option.some.injEq] at hj
        subst hj
        refine ObRep.kill e hl (fun b hb => ?_) (h.ob j oj hs)
        refine ⟨?_, hw b j hb ⟨oj, hs⟩⟩
        rcases hγ b with h1 | ⟨_, h2, _⟩
        · rw [h1]; exact hb
        · have := h2 j hb; rw [hs] at this; cases this
  · rcases hγ b with h1 | ⟨h1, _, h3⟩
    · rw [h1] at hb
      have := h.col b j hb
      exact ⟨this.1, by omega⟩
    · exact h3
  · exact (hl j (by omega)).trans (h.lc j hj)

/-- an object is gone -/
theorem Sim.drop (h : Sim w0 R L N st a w loc γ) (id : Nat) : Sim w0 R L N { st with ob := upd st.ob id none } a w loc γ := by
  refine ⟨h.tm, fun j o hj => ?_, h.col, h.fr, h.ro, h.n, h.df, h.lc, h.gl⟩
  simp only [upd] at hj
  by_cases e : j = id
  · subst e; rw [beq_self] at hj; cases hj
  · rw [beq_ne e] at hj; exact h.ob j o hj
/-- an object is written -/
theorem Sim.set (h : Sim w0 R L N st a w loc γ) {id : Nat} {o : O} (hfr : Frm w0 L w') (hsz : w.heap.size ≤ w'.heap.size)
    (hw : ∀ b j, j ≠ id → γ b = some j → w'.heap[b]? = w.heap[b]?) (ho : ObRep w0 R w' loc γ id o) : Sim w0 R L N { st with ob := upd st.ob id (some o) } a w' loc γ := by
  refine ⟨h.tm, fun j o' hj => ?_, fun b j hb => ⟨(h.col b j hb).1, by have := (h.col b j hb).2; omega⟩, hfr, h.ro, h.n, h.df, h.lc, h.gl⟩
  simp only [upd] at hj
  by_cases e : j = id
  · subst e
    rw [beq_self] at hj
    simp only [cond_true, Option.some.injEq] at hj
    subst hj
    exact ho
  · rw [beq_ne e] at hj
    exact (h.ob j o' hj).keep rfl (fun b hb => ⟨hb, hw b j e hb⟩)
/-- what is read only stays where it was -/
theorem Sim.gnow (h : Sim w0 R L N st a w loc γ) : Glb.gi w := Glb.mono w0 w (fun b hb => h.fr.block b (h.ro b (h.gl.2 b hb)).1 (h.ro b (h.gl.2 b hb)).2) h.gl.1
theorem Sim.same (h : Sim w0 R L N st a w loc γ) {b : Nat} (hb : R b) : w.heap[b]? = w0.heap[b]? := h.fr.block b (h.ro b hb).1 (h.ro b hb).2
end
end Go.Eng
namespace Go.Eng
set_option linter.unusedSectionVars false
variable [Glb]
open Go.RowKit
set_option linter.unusedSimpArgs false

mutual
theorem V.force_eq {ρ : Type} : ∀ (v : V) (K : V → ρ), v.force K = K v
  | .un, _ => rfl
  | .int _ _, _ => rfl
  | .bool _, _ => rfl
  | .str _, _ => rfl
  | .nil, _ => rfl
  | .pnil, _ => rfl
  | .ro _ _, _ => rfl
  | .rn _ _, _ => rfl
  | .rc _ _ _, _ => rfl
  | .roel _ _ _, _ => rfl
  | .own _, _ => rfl
  | .sub _ _ _, _ => rfl
  | .el _ _ _, _ => rfl
  | .box _ _, _ => rfl
  | .cst _, _ => rfl
  | .mt _ _, _ => rfl
  | .agg vs, K => by simp only [V.force]; exact V.forceL_eq vs _
  | .tup vs, K => by simp only [V.force]; exact V.forceL_eq vs _
  | .fn f a b, K => by simp only [V.force]; rw [V.forceL_eq a, V.forceL_eq b]
theorem V.forceL_eq {ρ : Type} : ∀ (vs : List V) (K : List V → ρ), V.force.go vs K = K vs
  | [], _ => rfl
  | v :: vs, K => by simp only [V.force.go]; rw [V.force_eq v, V.forceL_eq vs]
end
theorem O.force_eq {ρ : Type} (o : O) (K : O → ρ) : o.force K = K o := by
  cases o with
  | row => rfl
  | box cs => simp only [O.force]; rw [V.forceL_eq]
  | bld => rfl
  | mat => rfl
theorem forceO_eq {ρ : Type} (o : Option O) (K : Option O → ρ) : forceO o K = K o := by
  cases o with
  | none => rfl
  | some o => simp only [forceO]; rw [O.force_eq]

/-- the effect, done -/
def Eff.exec {α : Type} : Eff α → Ob → Fp → Option (α × Ob × Fp)
  | .ret a, ob, f => some (a, ob, f)
  | .fail, _, _ => none
  | .ite c t e, ob, f => match c with
    | true => t.exec ob f
    | false => e.exec ob f
  | .get id k, ob, f => match ob id with
    | some o => (k o).exec ob ⟨id :: f.rs, f.ws, f.ns⟩
    | none => none
  | .set id o k, ob, f => match ob id with
    | some _ => k.exec (upd ob id o) ⟨f.rs, id :: f.ws, f.ns⟩
    | none => none
  | .new id o k, ob, f => match ob id with
    | none => k.exec (upd (killOb id ob) id (some (o.kill id))) ⟨f.rs, f.ws, id :: f.ns⟩
    | some _ => none
  | .opt x k, ob, f => match x with
    | some b => (k b).exec ob f
    | none => none
theorem Eff.run_inv {α ρ : Type} (e : Eff α) : ∀ (ob : Ob) (f : Fp) (K : α → Ob → Fp → Option ρ) (r : ρ), e.run ob f K = some r →
    ∃ v ob' f', e.exec ob f = some (v, ob', f') ∧ K v ob' f' = some r := by
  induction e with
  | ret a => exact fun ob f K r h => ⟨a, ob, f, rfl, h⟩
  | fail => exact fun ob f K r h => by simp [Eff.run] at h
  | ite c t e iht ihe =>
    intro ob f K r h
    cases c with
    | true => exact iht ob f K r (by simpa [Eff.run, brB] using h)
    | false => exact ihe ob f K r (by simpa [Eff.run, brB] using h)
  | get id k ih =>
    intro ob f K r h
    simp only [Eff.run] at h
    cases ho : ob id with
    | none => rw [ho] at h; cases h
    | some o => rw [ho] at h; simp only [Eff.exec, ho]; exact ih o ob _ K r h
  | set id o k ih =>
    intro ob f K r h
    simp only [Eff.run] at h
    cases ho : ob id with
    | none => rw [ho] at h; cases h
    | some _ => rw [ho] at h; simp only [Eff.exec, ho]; simp only [forceO_eq] at h; exact ih _ _ K r h
  | new id o k ih =>
    intro ob f K r h
    simp only [Eff.run] at h
    cases ho : ob id with
    | some _ => rw [ho] at h; cases h
    | none => rw [ho] at h; simp only [Eff.exec, ho]; simp only [O.force_eq] at h; exact ih _ _ K r h
  | opt x k ih =>
    intro ob f K r h
    simp only [Eff.run, optB] at h
    cases x with
    | none => cases h
    | some b => simp only [Eff.exec]; exact ih b ob f K r h

section
variable {E : Env} {cf : Cf E} {w0 w : World} {R L : Nat → Prop} {N : Fx} {st : St} {a : Act} {loc : Nat → Loc} {γ : Nat → Option Nat}
/-- where an operation leads -/
def Goes (P : Program) (o : Oper) (w0 : World) (R L : Nat → Prop) (N : Fx) (st : St) (a : Act) (w : World) (v : V) (ob' : Ob) (ns : List Nat) : Prop :=
  ∀ (next : Act → World → Prop) (Q : Exit → Act → World → Prop),
    (∀ c w' loc' γ', Sim w0 R L N { tm := tmAfter ns st.tm, ob := ob' } a w' loc' γ' → Rep w0 R loc' v c → next (a.put o.dst c) w') → o.wp P a w next Q
theorem goes_value {P : Program} {o : Oper} {v : V} {c : Value} (hs : Sim w0 R L N st a w loc γ) (hv : Rep w0 R loc v c) (hrun : (execOp a.eval o).run P w = .ok (.value c) w) :
    Goes P o w0 R L N st a w v st.ob [] := by
  intro next Q h
  unfold Oper.wp
  rw [hrun]
  exact h c w loc γ hs hv
theorem goes_world {P : Program} {o : Oper} {v : V} {c : Value} {w' : World} {loc' : Nat → Loc} {γ' : Nat → Option Nat} {ob' : Ob} {ns : List Nat}
    (hs : Sim w0 R L N { tm := tmAfter ns st.tm, ob := ob' } a w' loc' γ') (hv : Rep w0 R loc' v c) (hrun : (execOp a.eval o).run P w = .ok (.value c) w') :
    Goes P o w0 R L N st a w v ob' ns := by
  intro next Q h
  unfold Oper.wp
  rw [hrun]
  exact h c w' loc' γ' hs hv
theorem goes_skip {P : Program} {o : Oper} {v : V} {w' : World} {loc' : Nat → Loc} {γ' : Nat → Option Nat} {ob' : Ob} {ns : List Nat}
    (hs : Sim w0 R L N { tm := tmAfter ns st.tm, ob := ob' } a w' loc' γ') (hv : Rep w0 R loc' v undef) (hrun : (execOp a.eval o).run P w = .ok .skip w') :
    Goes P o w0 R L N st a w v ob' ns := by
  intro next Q h
  unfold Oper.wp
  rw [hrun]
  exact h undef w' loc' γ' hs hv

theorem guard_int {P : Program} {op : BinOp} {t : TypeId} {k k' : IntKind} {m n : Int} {xo yo : Operand} : (eqGuard op t xo yo (.int k m) (.int k' n)).run P w = .ok () w := by
  simp only [eqGuard]
  split <;> rfl
theorem guard_str {P : Program} {op : BinOp} {t : TypeId} {m n : ByteArray} {xo yo : Operand} : (eqGuard op t xo yo (.string m) (.string n)).run P w = .ok () w := by
  simp only [eqGuard]
  split <;> rfl
/-- tests between numbers and strings -/
theorem binE_run {P : Program} {op : BinOp} {x y v : V} {cx cy : Value} {ob ob' : Ob} {f f' : Fp} (t : TypeId)
    (h : (binE op x y).exec ob f = some (v, ob', f')) (hx : Rep w0 R loc x cx) (hy : Rep w0 R loc y cy) :
    ob' = ob ∧ f' = f ∧ ∃ c, Rep w0 R loc v c ∧ (binOp op t cx cy).run P w = .ok c w ∧ ∀ xo yo, (eqGuard op t xo yo cx cy).run P w = .ok () w := by
  unfold binE at h
  split at h
  · -- shl
    obtain rfl := hx
    obtain rfl := hy
    simp only [Eff.exec] at h
    split at h
    · rename_i hb
      simp only [Eff.exec, Option.some.injEq, Prod.mk.injEq] at h
      obtain ⟨rfl, rfl, rfl⟩ := h
      have hb' := hb; simp only [leI_eq, decide_eq_true_eq] at hb'; replace hb' := Int.not_lt.mpr hb'
      exact ⟨rfl, rfl, _, rfl, by simp [binOp, Op.shift, hb', shlI_eq], fun _ _ => guard_int⟩
    · cases h
  · obtain rfl := hx
    obtain rfl := hy
    simp only [Eff.exec] at h
    split at h
    · rename_i hb
      simp only [Eff.exec, Option.some.injEq, Prod.mk.injEq] at h
      obtain ⟨rfl, rfl, rfl⟩ := h
      have hb' := hb; simp only [leI_eq, decide_eq_true_eq] at hb'; replace hb' := Int.not_lt.mpr hb'
      exact ⟨rfl, rfl, _, rfl, by simp [binOp, Op.shift, hb', shrI_eq], fun _ _ => guard_int⟩
    · cases h
  · obtain rfl := hx
    obtain rfl := hy
    split at h
    · rename_i hk
      subst hk
      split at h <;> simp only [Eff.exec, Option.some.injEq, Prod.mk.injEq] at h
      all_goals first
        | (obtain ⟨rfl, rfl, rfl⟩ := h
           refine ⟨rfl, rfl, _, rfl, ?_, fun _ _ => guard_int⟩
           simp only [binOp, Op.intArith, Op.intBits, Op.intCmp, addI_eq, subI_eq, mulI_eq, andI_eq, orI_eq, xorI_eq, andNotI_eq, eqI_eq, ltI_eq, leI_eq, notB, ne_eq, not_true_eq_false, if_false]; rfl)
        | (split at h
           · rename_i hb
             simp only [Eff.exec, Option.some.injEq, Prod.mk.injEq] at h
             obtain ⟨rfl, rfl, rfl⟩ := h
             refine ⟨rfl, rfl, _, rfl, ?_, fun _ _ => guard_int⟩
             simp only [notB, eqI_eq, Bool.not_eq_true', decide_eq_false_iff_not] at hb
             simp [binOp, Op.intDiv, hb, quoI_eq, remI_eq]; done
           · cases h)
        | (cases h; done)
    · simp [Eff.exec] at h
  all_goals first
    | (simp [Eff.exec] at h; done)
    | (obtain rfl := hx
       obtain rfl := hy
       simp only [Eff.exec, Option.some.injEq, Prod.mk.injEq] at h
       obtain ⟨rfl, rfl, rfl⟩ := h
       exact ⟨rfl, rfl, _, rfl, by simp [binOp, Op.stringOp, bytesEq_eq, strLess_eq, notB, orB], fun _ _ => guard_str⟩)
    | (obtain rfl := hx
       obtain rfl := hy
       simp only [Eff.exec] at h
       split at h
       · rename_i hb
         simp only [Eff.exec, Option.some.injEq, Prod.mk.injEq] at h
         obtain ⟨rfl, rfl, rfl⟩ := h
         have hb' := hb
         simp only [leI_eq, decide_eq_true_eq] at hb'
         simp only [addZ_eq, sz] at hb'
         have hm : IntKind.i64.max = 9223372036854775807 := rfl
         exact ⟨rfl, rfl, _, rfl, by simp only [binOp, Op.stringOp, catS]; rw [if_neg (by rw [hm]; omega)]; rfl, fun _ _ => guard_str⟩
       · cases h)
end
end Go.Eng
namespace Go.Eng
set_option linter.unusedSectionVars false
variable [Glb]
open Go.RowKit
set_option linter.unusedSimpArgs false

section types
variable {P : Program} {w : World} {t : TypeId} {b : Bool}
theorem info_of_tagg (h : tagg P t = some b) : ∃ i d, P.info? t = some i ∧ P.underlying t = some d := by
  unfold tagg at h
  cases hu : P.underlying t with
  | none => rw [hu] at h; cases h
  | some d =>
    have hu' := hu
    unfold Program.underlying at hu
    cases hi : P.info? t with
    | none => rw [hi] at hu; cases hu
    | some i => exact ⟨i, d, rfl, rfl⟩
theorem run_isAgg (h : tagg P t = some b) : (isAgg t).run P w = .ok b w := by
  obtain ⟨i, d, hi, hd⟩ := info_of_tagg h
  unfold tagg at h
  rw [hd] at h
  simp only [isAgg, Sem.run_bind, run_underlying hd, Result.andThen_ok]
  split at h <;> simp_all
theorem run_size (h : tagg P t = some b) : (sizeOf t).run P w = .ok (tsize P t) w := by
  obtain ⟨i, d, hi, hd⟩ := info_of_tagg h
  simp [sizeOf, typeInfo, hi, tsize, Program.cellsOf]
end types
section
variable {w0 w : World} {R L : Nat → Prop} {N : Fx} {st : St} {a : Act} {loc : Nat → Loc} {γ : Nat → Option Nat} {P : Program}
theorem cell_at {b o : Nat} {vals : Array Value} {ty : TypeId} {fz : Nat × Nat} (hb : w.heap[b]? = some (.cells vals ty fz)) : w.cell? ⟨b, o, none⟩ = vals.toList[o]? := by
  simp [World.cell?, hb]
theorem add_at {b o n : Nat} : (⟨b, o, none⟩ : Addr).add n = ⟨b, o + n, none⟩ := by
  unfold Addr.add
  split
  · rename_i h; subst h; rfl
  · rfl
theorem run_loadVar_agg {b o : Nat} {vals : Array Value} {ty t : TypeId} {fz : Nat × Nat} (hb : w.heap[b]? = some (.cells vals ty fz)) (ht : tagg P t = some true) (hn : o + tsize P t ≤ vals.size) :
    (loadVar t ⟨b, o, none⟩).run P w = .ok (.agg ((vals.toList.drop o).take (tsize P t)).toArray) w := by
  have hl : ((vals.toList.drop o).take (tsize P t)).length = tsize P t := by simp; omega
  have := run_loadCells_list (P := P) w ⟨b, o, none⟩ ((vals.toList.drop o).take (tsize P t)) (fun j v hj => by
    rw [add_at, cell_at hb]
    rw [List.getElem?_take] at hj
    split at hj
    · rwa [List.getElem?_drop] at hj
    · cases hj)
  rw [hl] at this
  simp only [loadVar, Sem.run_bind, run_isAgg ht, Result.andThen_ok, if_true, run_size ht, this, Sem.run_pure]
theorem run_loadVar_one {b o : Nat} {vals : Array Value} {ty t : TypeId} {fz : Nat × Nat} {v : Value} (hb : w.heap[b]? = some (.cells vals ty fz)) (ht : tagg P t = some false) (hv : vals.toList[o]? = some v) :
    (loadVar t ⟨b, o, none⟩).run P w = .ok v w := by
  simp only [loadVar, Sem.run_bind, run_isAgg ht, Result.andThen_ok, Bool.false_eq_true, if_false, run_load, cell_at hb, hv]
theorem CT.rep_toV : ∀ (c : CT) (v : Value) (x : c.D), CT.Cell w0 R c v x → Rep w0 R loc (c.toV x) v
  | .int _, _, _, h => h
  | .bool, _, _, h => h
  | .str, _, _, h => h
  | .row _, _, _, h => h
theorem CTs.get : ∀ (e : CTs) (vs : List Value) (x : e.D) (j : Nat), CTs.Cells w0 R e vs x → j < e.size → ∃ c, vs[j]? = some c ∧ Rep w0 R loc (e.cellV x j) c
  | .one c, vs, x, 0, ⟨v, h1, h2⟩, _ => ⟨v, h1, CT.rep_toV c v x h2⟩
  | .one _, _, _, j + 1, _, hj => by simp [CTs.size] at hj
  | .cons c _, vs, x, 0, ⟨v, h1, h2, _⟩, _ => ⟨v, h1, CT.rep_toV c v x.1 h2⟩
  | .cons _ cs, vs, x, j + 1, ⟨_, _, _, h3⟩, hj => by
    obtain ⟨c, h4, h5⟩ := CTs.get cs (vs.drop 1) x.2 j h3 (by simp [CTs.size] at hj; omega)
    exact ⟨c, by rw [List.getElem?_drop] at h4; rw [Nat.add_comm]; exact h4, h5⟩
theorem CTs.gets (e : CTs) (vs : List Value) (x : e.D) (h : CTs.Cells w0 R e vs x) : ∀ (n j : Nat), j + n ≤ e.size → RepL w0 R loc (e.cellsV x j n) ((vs.drop j).take n)
  | 0, _, _ => by simp [CTs.cellsV, RepL, Rep.go]
  | n + 1, j, hj => by
    obtain ⟨c, h1, h2⟩ := CTs.get (loc := loc) e vs x j h (by omega)
    have hlt : j < vs.length := (List.getElem?_eq_some_iff.1 h1).1
    rw [List.drop_eq_getElem_cons hlt, List.take_succ_cons]
    refine ⟨?_, CTs.gets e vs x h n (j + 1) (by omega)⟩
    rw [List.getElem?_eq_getElem hlt] at h1
    rw [Option.some.inj h1]
    exact h2
theorem CTs.len : ∀ (e : CTs) (vs : List Value) (x : e.D), CTs.Cells w0 R e vs x → e.size ≤ vs.length
  | .one _, vs, _, ⟨v, h1, _⟩ => by have := (List.getElem?_eq_some_iff.1 h1).1; simp [CTs.size]; omega
  | .cons _ cs, vs, x, ⟨v, h1, _, h3⟩ => by
    have := (List.getElem?_eq_some_iff.1 h1).1
    have := CTs.len cs _ x.2 h3
    simp [CTs.size] at *; omega
theorem CTs.size_pos (e : CTs) : 0 < e.size := by cases e <;> simp [CTs.size]
theorem rd_get {α : Type} {xs : List α} {i : Int} {z : α} (h0 : 0 ≤ i) (h : i < xs.length) : xs[i.toNat]? = some (rd xs i z) := by
  have : i.toNat < xs.length := by omega
  simp [rd, List.getD, List.getElem?_eq_getElem this]

theorem load_run {t : TypeId} {x v : V} {cx : Value} {ob' : Ob} {f f' : Fp} (h : (loadE P t x).exec st.ob f = some (v, ob', f')) (hs : Sim w0 R L N st a w loc γ) (hx : Rep w0 R loc x cx) :
    ob' = st.ob ∧ f'.ns = f.ns ∧ ∃ c, Rep w0 R loc v c ∧ (Instr.loadAt t cx).run P w = .ok c w := by
  unfold loadE at h
  split at h
  · -- a box, several cells
    rename_i id off ht
    simp only [Eff.exec] at h
    split at h
    · rename_i o ho
      split at h
      · rename_i cs
        cases hb : Nat.ble (off + tsize P t) cs.length with
        | false => rw [hb] at h; simp [Eff.exec] at h
        | true =>
          rw [hb] at h
          simp only [cond_true, Eff.exec, Option.some.injEq, Prod.mk.injEq] at h
          obtain ⟨rfl, rfl, rfl⟩ := h
          obtain ⟨b, hb1, rfl⟩ := hx
          obtain ⟨b', vals, ty, fz, h1, _, h3, h4, _⟩ := hs.ob id _ ho
          rw [hb1] at h1
          obtain rfl : b = b' := by simpa using h1
          have hn := Nat.le_of_ble_eq_true hb
          rw [RepL.length h4] at hn
          refine ⟨rfl, rfl, _, ⟨_, rfl, ?_⟩, by simp only [Instr.loadAt, Instr.sureAddr, Sem.run_bind, Sem.run_pure, Result.andThen_ok]; exact run_loadVar_agg h3 ht (by simpa using hn)⟩
          simpa using (h4.drop off).take (tsize P t)
      · simp [Eff.exec] at h
    · cases h
  · rename_i id off ht
    simp only [Eff.exec] at h
    split at h
    · rename_i o ho
      split at h
      · rename_i cs
        cases hc : cs[off]? with
        | none => rw [hc] at h; simp [Eff.exec] at h
        | some u =>
          rw [hc] at h
          simp only [Eff.exec, Option.some.injEq, Prod.mk.injEq] at h
          obtain ⟨rfl, rfl, rfl⟩ := h
          obtain ⟨b, hb1, rfl⟩ := hx
          obtain ⟨b', vals, ty, fz, h1, _, h3, h4, _⟩ := hs.ob id _ ho
          rw [hb1] at h1
          obtain rfl : b = b' := by simpa using h1
          obtain ⟨c, hc1, hc2⟩ := h4.get hc
          exact ⟨rfl, rfl, c, hc2, by simp only [Instr.loadAt, Instr.sureAddr, Sem.run_bind, Sem.run_pure, Result.andThen_ok]; exact run_loadVar_one h3 ht hc1⟩
      · simp [Eff.exec] at h
    · cases h
  · rename_i id i off ht
    simp only [Eff.exec] at h
    split at h
    · rename_i o ho
      split at h
      · rename_i nl e xs
        cases hb : Nat.ble (off + tsize P t) e.size with
        | false => rw [hb] at h; simp [Eff.exec] at h
        | true =>
          rw [hb] at h
          simp only [cond_true, Eff.exec, Option.some.injEq, Prod.mk.injEq] at h
          obtain ⟨rfl, rfl, rfl⟩ := h
          obtain ⟨hi0, hi1, ad, had, rfl⟩ := hx
          obtain ⟨_, hsz, hlen, hrow, _, _⟩ := hs.ob id _ ho
          obtain ⟨hsp, _, cs, ty, fz, hh, hcap, hcells⟩ := hrow.2.2 ad had
          rw [hlen] at hi1
          have hcell := hcells _ _ (rd_get (z := e.zero) hi0 hi1)
          have hn := Nat.le_of_ble_eq_true hb
          have hl := CTs.len e _ _ hcell
          simp only [List.length_drop, Array.length_toList] at hl
          have hp := e.size_pos
          refine ⟨rfl, rfl, _, ⟨_, rfl, ?_⟩, by simp only [Instr.loadAt, Instr.sureAddr, Sem.run_bind, Sem.run_pure, Result.andThen_ok]; exact run_loadVar_agg hh ht (by rw [hsz]; omega)⟩
          have := CTs.gets (loc := loc) e _ _ hcell (tsize P t) off hn
          rw [List.drop_drop] at this
          rw [hsz]
          simpa using this
      · simp [Eff.exec] at h
    · cases h
  · rename_i id i off ht
    simp only [Eff.exec] at h
    split at h
    · rename_i o ho
      split at h
      · rename_i nl e xs
        cases hb : Nat.ble (off + 1) e.size with
        | false => rw [hb] at h; simp [Eff.exec] at h
        | true =>
          rw [hb] at h
          simp only [cond_true, Eff.exec, Option.some.injEq, Prod.mk.injEq] at h
          obtain ⟨rfl, rfl, rfl⟩ := h
          obtain ⟨hi0, hi1, ad, had, rfl⟩ := hx
          obtain ⟨_, hsz, hlen, hrow, _, _⟩ := hs.ob id _ ho
          obtain ⟨hsp, _, cs, ty, fz, hh, hcap, hcells⟩ := hrow.2.2 ad had
          rw [hlen] at hi1
          have hcell := hcells _ _ (rd_get (z := e.zero) hi0 hi1)
          have hn := Nat.le_of_ble_eq_true hb
          obtain ⟨c, hc1, hc2⟩ := CTs.get (loc := loc) e _ _ off hcell (by omega)
          rw [List.getElem?_drop] at hc1
          exact ⟨rfl, rfl, c, hc2, by simp only [Instr.loadAt, Instr.sureAddr, Sem.run_bind, Sem.run_pure, Result.andThen_ok]; exact run_loadVar_one hh ht (by rw [hsz]; exact hc1)⟩
      · simp [Eff.exec] at h
    · cases h
  · rename_i e x off ht
    cases hb : Nat.ble (off + tsize P t) e.size with
    | false => rw [hb] at h; simp [Eff.exec] at h
    | true =>
      rw [hb] at h
      simp only [cond_true, Eff.exec, Option.some.injEq, Prod.mk.injEq] at h
      obtain ⟨rfl, rfl, rfl⟩ := h
      obtain ⟨ad, rfl, hR, cs, ty, fz, hh, hcell⟩ := hx
      rw [← hs.same hR] at hh
      have hn := Nat.le_of_ble_eq_true hb
      have hl := CTs.len e _ _ hcell
      simp only [List.length_drop, Array.length_toList] at hl
      by_cases hz : tsize P t = 0
      · by_cases hle : ad.off + off ≤ cs.size
        · refine ⟨rfl, rfl, _, ⟨_, rfl, ?_⟩, by simp only [Instr.loadAt, Instr.sureAddr, Sem.run_bind, Sem.run_pure, Result.andThen_ok]; exact run_loadVar_agg hh ht (by omega)⟩
          rw [hz]; simp [CTs.cellsV, RepL, Rep.go]
        · exact absurd hl (by have : e.size ≠ 0 := by cases e <;> simp [CTs.size]
                              omega)
      · refine ⟨rfl, rfl, _, ⟨_, rfl, ?_⟩, by simp only [Instr.loadAt, Instr.sureAddr, Sem.run_bind, Sem.run_pure, Result.andThen_ok]; exact run_loadVar_agg hh ht (by omega)⟩
        have := CTs.gets (loc := loc) e _ _ hcell (tsize P t) off hn
        rw [List.drop_drop] at this
        simpa using this
  · rename_i e x off ht
    cases hb : Nat.ble (off + 1) e.size with
    | false => rw [hb] at h; simp [Eff.exec] at h
    | true =>
      rw [hb] at h
      simp only [cond_true, Eff.exec, Option.some.injEq, Prod.mk.injEq] at h
      obtain ⟨rfl, rfl, rfl⟩ := h
      obtain ⟨ad, rfl, hR, cs, ty, fz, hh, hcell⟩ := hx
      rw [← hs.same hR] at hh
      have hn := Nat.le_of_ble_eq_true hb
      obtain ⟨c, hc1, hc2⟩ := CTs.get (loc := loc) e _ _ off hcell (by omega)
      rw [List.getElem?_drop] at hc1
      exact ⟨rfl, rfl, c, hc2, by simp only [Instr.loadAt, Instr.sureAddr, Sem.run_bind, Sem.run_pure, Result.andThen_ok]; exact run_loadVar_one hh ht hc1⟩
  · simp [Eff.exec] at h
end
end Go.Eng
namespace Go.Eng
set_option linter.unusedSectionVars false
variable [Glb]
open Go.RowKit
set_option linter.unusedSimpArgs false
set_option linter.unusedVariables false

section
variable {w0 w : World} {R L : Nat → Prop} {N : Fx} {st : St} {a : Act} {loc : Nat → Loc} {γ : Nat → Option Nat} {P : Program}

theorem slElem_run {t e : TypeId} {n : Nat} (h : slElem P t = some (e, n)) : P.underlying t = some (.slice e) ∧ (∃ b, tagg P e = some b) ∧ n = tsize P e := by
  unfold slElem at h
  split at h
  · rename_i e' hu
    cases ht : tagg P e' with
    | none => rw [ht] at h; cases h
    | some b =>
      rw [ht] at h
      simp only [Option.some.injEq, Prod.mk.injEq] at h
      obtain ⟨rfl, rfl⟩ := h
      exact ⟨hu, ⟨b, ht⟩, rfl⟩
  · cases h
theorem isStr_run {t : TypeId} (h : isStr P t = true) : P.underlying t = some .string := by
  unfold isStr at h
  split at h
  · assumption
  · cases h

theorem run_sliceBound {k : IntKind} {i : Int} {y : Nat} {code : BoundsCode} (h0 : 0 ≤ i) (h : i ≤ y) : (Instr.sliceBound (.int k i) y code).run P w = .ok i.toNat w := by
  simp [Instr.sliceBound, asIntOf, h0, h]
/-- the bounds of a slice, as the evaluator and as the machine have them -/
theorem bounds_exec {lo hi : Option V} {clo chi : Option Value} {n : Int} {cap : Nat} {K : Int → Int → Eff V} {ob ob' : Ob} {f f' : Fp} {v : V} {isS : Bool} {len : Nat}
    (h : (bounds lo hi n K).exec ob f = some (v, ob', f')) (hlo : ∀ x, lo = some x → ∃ c, clo = some c ∧ Rep w0 R loc x c) (hlo' : lo = none → clo = none)
    (hhi : ∀ x, hi = some x → ∃ c, chi = some c ∧ Rep w0 R loc x c) (hhi' : hi = none → chi = none) (hn : n = len) (hcap : len ≤ cap) :
    ∃ l u : Int, 0 ≤ l ∧ l ≤ u ∧ u ≤ n ∧ (K l u).exec ob f = some (v, ob', f') ∧ (Instr.sliceBounds isS len cap clo chi none).run P w = .ok (l.toNat, u.toNat, cap) w := by
  subst hn
  unfold bounds at h
  split at h
  · rw [hlo' rfl, hhi' rfl]
    exact ⟨0, len, by omega, by omega, by omega, h, by simp [Instr.sliceBounds]⟩
  · rename_i k u
    obtain ⟨c, hc, rfl⟩ := hhi _ rfl
    rw [hlo' rfl, hc]
    try simp only [Eff.exec] at h
    split at h
    · rename_i h1
      try simp only [Eff.exec] at h
      split at h
      · rename_i h2
        simp only [leI_eq, ltI_eq, decide_eq_true_eq] at h1
        simp only [leI_eq, ltI_eq, decide_eq_true_eq] at h2
        refine ⟨0, u, by omega, h1, h2, h, ?_⟩
        have hb := fun code => run_sliceBound (P := P) (w := w) (k := k) (i := u) (y := cap) (code := code) h1 (by omega)
        simp [Instr.sliceBounds, hb]
      · cases h
    · cases h
  · rename_i k l
    obtain ⟨c, hc, rfl⟩ := hlo _ rfl
    rw [hhi' rfl, hc]
    try simp only [Eff.exec] at h
    split at h
    · rename_i h1
      try simp only [Eff.exec] at h
      split at h
      · rename_i h2
        simp only [leI_eq, ltI_eq, decide_eq_true_eq] at h1
        simp only [leI_eq, ltI_eq, decide_eq_true_eq] at h2
        refine ⟨l, len, h1, h2, by omega, h, ?_⟩
        have hb := fun code => run_sliceBound (P := P) (w := w) (k := k) (i := l) (y := len) (code := code) h1 h2
        simp [Instr.sliceBounds, hb]
      · cases h
    · cases h
  · rename_i k l k' u
    obtain ⟨c, hc, rfl⟩ := hlo _ rfl
    obtain ⟨c', hc', rfl⟩ := hhi _ rfl
    rw [hc, hc']
    try simp only [Eff.exec] at h
    split at h
    · rename_i h1
      try simp only [Eff.exec] at h
      split at h
      · rename_i h2
        try simp only [Eff.exec] at h
        split at h
        · rename_i h3
          simp only [leI_eq, ltI_eq, decide_eq_true_eq] at h1
          simp only [leI_eq, ltI_eq, decide_eq_true_eq] at h2
          simp only [leI_eq, ltI_eq, decide_eq_true_eq] at h3
          refine ⟨l, u, h1, h2, h3, h, ?_⟩
          have hb := fun code => run_sliceBound (P := P) (w := w) (k := k) (i := l) (y := u.toNat) (code := code) h1 (by omega)
          have hb' := fun code => run_sliceBound (P := P) (w := w) (k := k') (i := u) (y := cap) (code := code) (by omega) (by omega)
          simp [Instr.sliceBounds, hb, hb']
        · cases h
      · cases h
    · cases h
  · simp [Eff.exec] at h

theorem RowAt.sub {α : Type} {R' : Nat → Prop} {s cap : Nat} {C : List Value → α → Prop} {ad : Option Addr} {xs : List α} (h : RowAt w R' s C ad cap xs) {l u : Int} (h0 : 0 ≤ l) (h1 : l ≤ u) (h2 : u ≤ xs.length) :
    RowAt w R' s C (if cap = l.toNat then ad else ad.map (·.add (l.toNat * s))) (cap - l.toNat) (dropI (takeI xs u) l) := by
  obtain ⟨k1, k2, k3⟩ := h
  have hlen : (dropI (takeI xs u) l).length = (u - l).toNat := by simp [dropI, takeI]; omega
  by_cases hc : cap = l.toNat
  · rw [if_pos hc]
    refine ⟨by rw [hlen]; omega, fun h => by have := k2 h; omega, fun x hx => ?_⟩
    obtain ⟨k4, k5, cs, ty, fz, k6, k7, k8⟩ := k3 x hx
    refine ⟨k4, k5, cs, ty, fz, k6, by have : (cap - l.toNat) * s = 0 := by rw [hc]; simp
                                       omega, fun i y hy => ?_⟩
    have := (List.getElem?_eq_some_iff.1 hy).1
    omega
  · rw [if_neg hc]
    refine ⟨by rw [hlen]; omega, fun h => ?_, fun x hx => ?_⟩
    · cases ad with
      | none => have := k2 rfl; omega
      | some _ => simp at h
    · cases ad with
      | none => simp at hx
      | some y =>
        simp only [Option.map_some, Option.some.injEq] at hx
        obtain ⟨k4, k5, cs, ty, fz, k6, k7, k8⟩ := k3 y rfl
        have hx' : x = ⟨y.block, y.off + l.toNat * s, none⟩ := by
          rw [← hx]
          obtain ⟨b, o, sp⟩ := y
          simp only at k4
          subst k4
          exact add_at
        subst hx'
        refine ⟨rfl, k5, cs, ty, fz, k6, ?_, fun i z hz => ?_⟩
        · have : l.toNat * s + (cap - l.toNat) * s = cap * s := by rw [← Nat.add_mul]; congr 1; omega
          simp only; omega
        · simp only [dropI, takeI, List.getElem?_drop, List.getElem?_take] at hz
          split at hz
          · have := k8 _ _ hz
            rw [Nat.add_mul, ← Nat.add_assoc] at this
            exact this
          · cases hz

theorem RowRO.sub {α : Type} {R' : Nat → Prop} {s cap : Nat} {C : List Value → α → Prop} {ad : Option Addr} {xs : List α} (h : RowRO w R' s C ad cap xs) {l u : Int} (h0 : 0 ≤ l) (h1 : l ≤ u) (h2 : u ≤ xs.length) :
    RowRO w R' s C (if cap = l.toNat then ad else ad.map (·.add (l.toNat * s))) (cap - l.toNat) (dropI (takeI xs u) l) := by
  obtain ⟨k1, k2, k3⟩ := h
  have hlen : (dropI (takeI xs u) l).length = (u - l).toNat := by simp [dropI, takeI]; omega
  by_cases hc : 0 < cap
  · exact ((k3 hc).sub h0 h1 h2).ro
  · refine ⟨by rw [hlen]; omega, fun _ => by omega, fun h => by omega⟩
theorem slice_run {t : TypeId} {x v : V} {cx : Value} {lo hi mx : Option V} {clo chi cmx : Option Value} {ob' : Ob} {f f' : Fp}
    (h : (sliceE P t x lo hi mx).exec st.ob f = some (v, ob', f')) (hs : Sim w0 R L N st a w loc γ) (hx : Rep w0 R loc x cx)
    (hlo : ∀ x, lo = some x → ∃ c, clo = some c ∧ Rep w0 R loc x c) (hlo' : lo = none → clo = none)
    (hhi : ∀ x, hi = some x → ∃ c, chi = some c ∧ Rep w0 R loc x c) (hhi' : hi = none → chi = none) (hmx : mx = none → cmx = none) :
    ob' = st.ob ∧ f'.ns = f.ns ∧ ∃ c, Rep w0 R loc v c ∧ (Instr.sliceAt t cx clo chi cmx).run P w = .ok c w := by
  unfold sliceE at h
  split at h
  · rename_i s
    rw [hmx rfl]
    obtain rfl := hx
    cases hq : isStr P t with
    | false => rw [hq] at h; simp [Eff.exec] at h
    | true =>
      rw [hq] at h
      have hu := isStr_run hq
      simp only [cond_true] at h
      obtain ⟨l, u, h0, h1, h2, hk, hr⟩ := bounds_exec (P := P) (w := w) (isS := false) (cap := s.size) (len := s.size) h hlo hlo' hhi hhi' rfl (Nat.le_refl _)
      simp only [Eff.exec, Option.some.injEq, Prod.mk.injEq] at hk
      obtain ⟨rfl, rfl, rfl⟩ := hk
      refine ⟨rfl, rfl, _, rfl, ?_⟩
      simp only [Instr.sliceAt, Sem.run_bind, run_underlying hu, Result.andThen_ok, Instr.slice, Option.isSome_none, Bool.false_eq_true, if_false, Sem.run_pure, hr, subs]
  · rename_i e xs
    rw [hmx rfl]
    obtain ⟨ad, cap, rfl, hrow⟩ := hx
    cases hq : slElem P t with
    | none => rw [hq] at h; simp [Eff.exec] at h
    | some p =>
      obtain ⟨el, n⟩ := p
      rw [hq] at h
      simp only at h
      cases hb : Nat.beq n e.size with
      | false => rw [hb] at h; simp [Eff.exec] at h
      | true =>
        rw [hb] at h
        obtain ⟨hu, ⟨b, htb⟩, rfl⟩ := slElem_run hq
        have hsz := Nat.eq_of_beq_eq_true hb
        simp only [cond_true] at h
        obtain ⟨l, u, h0, h1, h2, hk, hr⟩ := bounds_exec (P := P) (w := w) (isS := true) (cap := cap) (len := List.length xs) h hlo hlo' hhi hhi' rfl hrow.1
        simp only [Eff.exec, Option.some.injEq, Prod.mk.injEq] at hk
        obtain ⟨rfl, rfl, rfl⟩ := hk
        refine ⟨rfl, rfl, .slice (if cap = l.toNat then ad else ad.map (·.add (l.toNat * tsize P el))) (u.toNat - l.toNat) (cap - l.toNat), ?_, ?_⟩
        · rw [hsz]
          refine ⟨_, _, ?_, hrow.sub h0 h1 h2⟩
          congr 1
          simp [dropI, takeI]; simp [ln] at h2; omega
        · simp only [Instr.sliceAt, Sem.run_bind, run_underlying hu, Result.andThen_ok, Instr.slice, hr, run_size htb, Sem.run_pure]
  · rename_i id
    rw [hmx rfl]
    try simp only [Eff.exec] at h
    split at h
    · rename_i o ho
      split at h
      · rename_i nl e xs
        cases hq : slElem P t with
        | none => rw [hq] at h; simp [Eff.exec] at h
        | some p =>
          obtain ⟨el, n⟩ := p
          rw [hq] at h
          simp only at h
          cases hb : Nat.beq n e.size with
          | false => rw [hb] at h; simp [Eff.exec] at h
          | true =>
            rw [hb] at h
            obtain ⟨hu, ⟨b, htb⟩, rfl⟩ := slElem_run hq
            have hsz := Nat.eq_of_beq_eq_true hb
            obtain ⟨_, k2, k3, k4, _, _⟩ := hs.ob id _ ho
            obtain rfl := hx
            simp only [cond_true] at h
            obtain ⟨l, u, h0, h1, h2, hk, hr⟩ := bounds_exec (P := P) (w := w) (isS := true) (cap := (loc id).cap) (len := (loc id).len) h hlo hlo' hhi hhi' (by rw [k3]; rfl) (by rw [k3]; exact k4.1)
            simp only [Eff.exec, Option.some.injEq, Prod.mk.injEq] at hk
            obtain ⟨rfl, rfl, rfl⟩ := hk
            simp only [ln] at h2
            refine ⟨rfl, rfl, _, ⟨h0, h1, by rw [k3]; exact h2, rfl⟩, ?_⟩
            simp only [Instr.sliceAt, Sem.run_bind, run_underlying hu, Result.andThen_ok, Instr.slice, hr, run_size htb, Sem.run_pure]
            rw [k2, hsz, show (u - l).toNat = u.toNat - l.toNat by omega]
      · simp [Eff.exec] at h
    · cases h
  · rw [hmx rfl]
    cases hq : slElem P t with
    | none => rw [hq] at h; simp [Eff.exec] at h
    | some p =>
      obtain ⟨el, n⟩ := p
      rw [hq] at h
      simp only at h
      obtain ⟨hu, ⟨b, htb⟩, rfl⟩ := slElem_run hq
      obtain rfl := hx
      obtain ⟨l, u, h0, h1, h2, hk, hr⟩ := bounds_exec (P := P) (w := w) (isS := true) (cap := 0) (len := 0) h hlo hlo' hhi hhi' rfl (Nat.le_refl _)
      simp only [Eff.exec, Option.some.injEq, Prod.mk.injEq] at hk
      obtain ⟨rfl, rfl, rfl⟩ := hk
      obtain rfl : u = 0 := by omega
      obtain rfl : l = 0 := by omega
      refine ⟨rfl, rfl, _, rfl, ?_⟩
      simp only [Instr.sliceAt, Sem.run_bind, run_underlying hu, Result.andThen_ok, Instr.slice, hr, run_size htb, Sem.run_pure]
      rfl
  · simp [Eff.exec] at h

theorem indexAddr_run {t : TypeId} {x i v : V} {cx ci : Value} {ob' : Ob} {f f' : Fp} (h : (indexAddrE P t x i).exec st.ob f = some (v, ob', f')) (hs : Sim w0 R L N st a w loc γ)
    (hx : Rep w0 R loc x cx) (hi : Rep w0 R loc i ci) : ob' = st.ob ∧ f'.ns = f.ns ∧ ∃ c, Rep w0 R loc v c ∧ (Instr.indexAt t cx ci).run P w = .ok c w := by
  unfold indexAddrE at h
  split at h
  · rename_i id k i
    obtain rfl := hi
    try simp only [Eff.exec] at h
    split at h
    · rename_i o ho
      split at h
      · rename_i nl e xs
        cases hq : slElem P t with
        | none => rw [hq] at h; simp [Eff.exec] at h
        | some p =>
          obtain ⟨el, n⟩ := p
          rw [hq] at h
          simp only at h
          cases hb : Nat.beq n e.size with
          | false => rw [hb] at h; simp [Eff.exec] at h
          | true =>
            rw [hb] at h
            obtain ⟨hu, ⟨b, htb⟩, rfl⟩ := slElem_run hq
            have hsz := Nat.eq_of_beq_eq_true hb
            obtain ⟨_, k2, k3, k4, _, _⟩ := hs.ob id _ ho
            obtain rfl := hx
            simp only [cond_true, Eff.exec] at h
            split at h
            · rename_i h1
              try simp only [Eff.exec] at h
              split at h
              · rename_i h2
                simp only [leI_eq, ltI_eq, decide_eq_true_eq] at h1
                simp only [leI_eq, ltI_eq, decide_eq_true_eq] at h2
                simp only [Eff.exec, Option.some.injEq, Prod.mk.injEq] at h
                obtain ⟨rfl, rfl, rfl⟩ := h
                simp only [ln] at h2
                rw [← k3] at h2
                cases hlo : (loc id).a with
                | none => have := k4.2.1 hlo; have := k4.1; omega
                | some ad =>
                  have hsp := (k4.2.2 ad hlo).1
                  obtain ⟨bk, o, sp⟩ := ad
                  simp only at hsp
                  subst hsp
                  refine ⟨rfl, rfl, _, ⟨h1, h2, _, hlo, rfl⟩, ?_⟩
                  simp only [Instr.indexAt, asIntOf, Sem.run_bind, Sem.run_pure, Result.andThen_ok, run_underlying hu]
                  rw [if_pos ⟨h1, h2⟩]
                  simp [Sem.run_bind, run_size htb, k2, hsz, add_at]
              · cases h
            · cases h
      · simp [Eff.exec] at h
    · cases h
  · rename_i id lo hi' k i
    obtain rfl := hi
    try simp only [Eff.exec] at h
    split at h
    · rename_i o ho
      split at h
      · rename_i nl e xs
        cases hq : slElem P t with
        | none => rw [hq] at h; simp [Eff.exec] at h
        | some p =>
          obtain ⟨el, n⟩ := p
          rw [hq] at h
          simp only at h
          cases hb : Nat.beq n e.size with
          | false => rw [hb] at h; simp [Eff.exec] at h
          | true =>
            rw [hb] at h
            obtain ⟨hu, ⟨b, htb⟩, rfl⟩ := slElem_run hq
            have hsz := Nat.eq_of_beq_eq_true hb
            obtain ⟨_, k2, k3, k4, _, _⟩ := hs.ob id _ ho
            obtain ⟨j0, j1, j2, rfl⟩ := hx
            simp only [cond_true, Eff.exec] at h
            split at h
            · rename_i h1
              try simp only [Eff.exec] at h
              split at h
              · rename_i h2
                simp only [leI_eq, ltI_eq, decide_eq_true_eq] at h1
                simp only [leI_eq, ltI_eq, decide_eq_true_eq] at h2
                simp only [Eff.exec, Option.some.injEq, Prod.mk.injEq] at h
                obtain ⟨rfl, rfl, rfl⟩ := h
                simp only [subZ_eq] at h2
                have hcl := k4.1
                rw [← k3] at hcl
                cases hlo : (loc id).a with
                | none => have := k4.2.1 hlo; omega
                | some ad =>
                  have hsp := (k4.2.2 ad hlo).1
                  obtain ⟨bk, o, sp⟩ := ad
                  simp only at hsp
                  subst hsp
                  refine ⟨rfl, rfl, _, ⟨by simp only [addZ_eq]; omega, by simp only [addZ_eq]; omega, _, hlo, rfl⟩, ?_⟩
                  simp only [Instr.indexAt, asIntOf, Sem.run_bind, Sem.run_pure, Result.andThen_ok, run_underlying hu]
                  rw [if_neg (by omega)]
                  simp only [Option.map_some, add_at]
                  rw [if_pos ⟨h1, by omega⟩]
                  have e1 : (addZ lo i).toNat = lo.toNat + i.toNat := by simp only [addZ_eq]; omega
                  simp [Sem.run_bind, run_size htb, k2, hsz, add_at, e1, Nat.add_mul, Nat.add_assoc]
              · cases h
            · cases h
      · simp [Eff.exec] at h
    · cases h
  · rename_i e xs k i
    obtain rfl := hi
    cases hq : slElem P t with
    | none => rw [hq] at h; simp [Eff.exec] at h
    | some p =>
      obtain ⟨el, n⟩ := p
      rw [hq] at h
      simp only at h
      cases hb : Nat.beq n e.size with
      | false => rw [hb] at h; simp [Eff.exec] at h
      | true =>
        rw [hb] at h
        obtain ⟨hu, ⟨b, htb⟩, rfl⟩ := slElem_run hq
        have hsz := Nat.eq_of_beq_eq_true hb
        obtain ⟨ad, cap, rfl, k4⟩ := hx
        simp only [cond_true, Eff.exec] at h
        split at h
        · rename_i h1
          try simp only [Eff.exec] at h
          split at h
          · rename_i h2
            simp only [leI_eq, ltI_eq, decide_eq_true_eq] at h1
            simp only [leI_eq, ltI_eq, decide_eq_true_eq] at h2
            simp only [Eff.exec, Option.some.injEq, Prod.mk.injEq] at h
            obtain ⟨rfl, rfl, rfl⟩ := h
            simp only [ln] at h2
            cases ad with
            | none => have := k4.2.1 rfl; have := k4.1; omega
            | some ad =>
              obtain ⟨hsp, hR, cs, ty, fz, hh, hcap, hcells⟩ := (k4.2.2 (by have := k4.1; omega)).2.2 ad rfl
              obtain ⟨bk, o, sp⟩ := ad
              simp only at hsp hR hh hcap hcells
              subst hsp
              refine ⟨rfl, rfl, _, ⟨⟨bk, o + i.toNat * e.size, none⟩, rfl, hR, cs, ty, fz, hh, hcells _ _ (rd_get h1 h2)⟩, ?_⟩
              simp only [Instr.indexAt, asIntOf, Sem.run_bind, Sem.run_pure, Result.andThen_ok, run_underlying hu]
              rw [if_pos ⟨h1, h2⟩]
              simp [Sem.run_bind, run_size htb, hsz, add_at]
          · cases h
        · cases h
  · simp [Eff.exec] at h

theorem index_run {t : TypeId} {x i v : V} {cx ci : Value} {ob' : Ob} {f f' : Fp} (h : (indexE P t x i).exec st.ob f = some (v, ob', f'))
    (hx : Rep w0 R loc x cx) (hi : Rep w0 R loc i ci) : ob' = st.ob ∧ f'.ns = f.ns ∧ ∃ c, Rep w0 R loc v c ∧ (Instr.index t cx ci).run P w = .ok c w := by
  unfold indexE at h
  split at h
  · rename_i s k i
    obtain rfl := hi
    obtain rfl := hx
    cases hq : isStr P t with
    | false => rw [hq] at h; simp [Eff.exec] at h
    | true =>
      rw [hq] at h
      have hu := isStr_run hq
      simp only [cond_true, Eff.exec] at h
      split at h
      · rename_i h1
        try simp only [Eff.exec] at h
        split at h
        · rename_i h2
          simp only [leI_eq, ltI_eq, decide_eq_true_eq] at h1
          simp only [leI_eq, ltI_eq, decide_eq_true_eq] at h2
          simp only [Eff.exec, Option.some.injEq, Prod.mk.injEq] at h
          obtain ⟨rfl, rfl, rfl⟩ := h
          simp only [sz] at h2
          have hlt : i.toNat < s.size := by omega
          have hb : s[i.toNat]? = some s[i.toNat] := by simp [hlt]
          refine ⟨rfl, rfl, _, rfl, ?_⟩
          simp only [Instr.index, asIntOf, Sem.run_bind, Sem.run_pure, Result.andThen_ok, run_underlying hu]
          rw [if_pos h1, hb]
          have hg : s.data.toList.getD i.toNat 0 = s[i.toNat] := by
            have : i.toNat < s.data.toList.length := by simpa using hlt
            rw [List.getD_eq_getElem?_getD, List.getElem?_eq_getElem this]
            rfl
          simp only [bt, hg, Sem.run_pure]
        · cases h
      · cases h
  · simp [Eff.exec] at h

theorem field_get {s : TypeId} {f off n : Nat} {b : Bool} (h : field? P s f = some (off, n, b)) :
    ∃ fs x, P.underlying s = some (.struct fs) ∧ fs[f]? = some x ∧ x.offset = off ∧ tsize P x.type = n ∧ tagg P x.type = some b := by
  unfold field? at h
  split at h
  · rename_i fs hu
    cases hf : fs.toList[f]? with
    | none => rw [hf] at h; cases h
    | some x =>
      rw [hf] at h
      simp only at h
      cases hb : tagg P x.type with
      | none => rw [hb] at h; cases h
      | some b' =>
        rw [hb] at h
        simp only [Option.some.injEq, Prod.mk.injEq] at h
        exact ⟨fs, x, hu, by simpa using hf, h.1, h.2.1, by rw [hb, h.2.2]⟩
  · cases h
theorem fieldAt_run {s : TypeId} {f off n : Nat} {b : Bool} (h : field? P s f = some (off, n, b)) (hn : n ≠ 0) (bk o : Nat) :
    (Instr.fieldAt s (.pointer (some ⟨bk, o, none⟩)) f).run P w = .ok (.pointer (some ⟨bk, o + off, none⟩)) w := by
  obtain ⟨fs, x, hu, hf, rfl, rfl, hb⟩ := field_get h
  simp [Instr.fieldAt, run_underlying hu, hf, Instr.sureAddr, fieldPlace, run_size hb, hn, add_at]
theorem part_run {t : TypeId} {b : Bool} {cs : Array Value} {off : Nat} (hb : tagg P t = some b) :
    (b = true → (part t cs off).run P w = .ok (.agg ((cs.toList.drop off).take (tsize P t)).toArray) w) ∧
    (b = false → ∀ v, cs.toList[off]? = some v → (part t cs off).run P w = .ok v w) := by
  constructor
  · rintro rfl
    simp only [part, Sem.run_bind, run_isAgg hb, Result.andThen_ok, if_true, run_size hb, Sem.run_pure]
    congr 2
    apply Array.toList_inj.1
    simp [List.drop_take, Nat.add_sub_cancel_left]
  · rintro rfl v hv
    have hv' : cs[off]? = some v := by simpa using hv
    simp [part, Sem.run_bind, run_isAgg hb, hv']
end
end Go.Eng
namespace Go.Eng
set_option linter.unusedSectionVars false
variable [Glb]
open Go.RowKit
set_option linter.unusedSimpArgs false
set_option linter.unusedVariables false

section
variable {w0 w : World} {R L : Nat → Prop} {N : Fx} {st : St} {a : Act} {loc : Nat → Loc} {γ : Nat → Option Nat} {P : Program}

theorem cells_rep {v : V} {vs : List V} {c : Value} (h : v.cells? = some vs) (hr : Rep w0 R loc v c) : RepL w0 R loc vs c.cells.toList := by
  cases v with
  | un => simp [V.cells?] at h
  | tup => simp [V.cells?] at h
  | agg us =>
    obtain rfl := Option.some.inj h
    obtain ⟨cs, rfl, h'⟩ := hr
    exact h'
  | int | bool | str | nil | pnil | own =>
    obtain rfl := Option.some.inj h
    obtain rfl := hr
    exact ⟨rfl, trivial⟩
  | ro e xs =>
    obtain rfl := Option.some.inj h
    have h2 := hr
    obtain ⟨_, _, rfl, _⟩ := hr
    exact ⟨h2, trivial⟩
  | rn e xs =>
    obtain rfl := Option.some.inj h
    have h2 := hr
    obtain ⟨⟨_, _, rfl, _⟩, _⟩ := hr
    exact ⟨h2, trivial⟩
  | rc i e xs =>
    obtain rfl := Option.some.inj h
    have h2 := hr
    obtain ⟨_, _, _, _, rfl, _⟩ := hr
    exact ⟨h2, trivial⟩
  | roel e x off =>
    obtain rfl := Option.some.inj h
    have h2 := hr
    obtain ⟨_, rfl, _⟩ := hr
    exact ⟨h2, trivial⟩
  | sub id lo hi =>
    obtain rfl := Option.some.inj h
    have h2 := hr
    obtain ⟨_, _, _, rfl⟩ := hr
    exact ⟨h2, trivial⟩
  | el id i off =>
    obtain rfl := Option.some.inj h
    have h2 := hr
    obtain ⟨_, _, _, _, rfl⟩ := hr
    exact ⟨h2, trivial⟩
  | box id off =>
    obtain rfl := Option.some.inj h
    have h2 := hr
    obtain ⟨_, _, rfl⟩ := hr
    exact ⟨h2, trivial⟩
  | fn f x y =>
    obtain rfl := Option.some.inj h
    have h2 := hr
    obtain ⟨_, _, rfl, _⟩ := hr
    exact ⟨h2, trivial⟩
  | mt id p =>
    obtain rfl := Option.some.inj h
    have h2 := hr
    cases p with
    | all => obtain rfl := hr; exact ⟨h2, trivial⟩
    | adr i => obtain ⟨_, _, _, _, rfl⟩ := hr; exact ⟨h2, trivial⟩
    | row i => obtain ⟨_, _, rfl⟩ := hr; exact ⟨h2, trivial⟩
    | bsl n => obtain ⟨_, _, rfl⟩ := hr; exact ⟨h2, trivial⟩
    | cel i j => obtain ⟨_, _, _, _, _, _, rfl⟩ := hr; exact ⟨h2, trivial⟩
  | cst c' =>
    obtain rfl := Option.some.inj h
    have h2 := hr
    obtain ⟨rfl, h3⟩ := hr
    cases c with
    | agg | tuple => simp [oneC] at h3
    | _ => exact ⟨h2, trivial⟩
theorem solid_one {v : V} {c : Value} (h : v.solid = true) (hr : Rep w0 R loc v c) : c.oneCell' = true := by
  cases v with
  | un | tup | agg => simp [V.solid] at h
  | int | bool | str | nil | pnil | own => obtain rfl := hr; rfl
  | ro e xs => obtain ⟨_, _, rfl, _⟩ := hr; rfl
  | rn e xs => obtain ⟨⟨_, _, rfl, _⟩, _⟩ := hr; rfl
  | rc i e xs => obtain ⟨_, _, _, _, rfl, _⟩ := hr; rfl
  | roel e x off => obtain ⟨_, rfl, _⟩ := hr; rfl
  | sub id lo hi => obtain ⟨_, _, _, rfl⟩ := hr; rfl
  | el id i off => obtain ⟨_, _, _, _, rfl⟩ := hr; rfl
  | box id off => obtain ⟨_, _, rfl⟩ := hr; rfl
  | fn f x y => obtain ⟨_, _, rfl, _⟩ := hr; rfl
  | mt id p =>
    cases p with
    | all => obtain rfl := hr; rfl
    | adr i => obtain ⟨_, _, _, _, rfl⟩ := hr; rfl
    | row i => obtain ⟨_, _, rfl⟩ := hr; rfl
    | bsl n => obtain ⟨_, _, rfl⟩ := hr; rfl
    | cel i j => obtain ⟨_, _, _, _, _, _, rfl⟩ := hr; rfl
  | cst c' =>
    obtain ⟨rfl, h3⟩ := hr
    cases c <;> first | rfl | (simp [oneC] at h3)
theorem solids_one : ∀ {vs : List V} {cs : List Value}, vs.all V.solid = true → RepL w0 R loc vs cs → ∀ c ∈ cs, c.oneCell' = true
  | [], [], _, _ => by simp
  | v :: vs, c :: cs, h, hr => by
    simp only [List.all_cons, Bool.and_eq_true] at h
    intro x hx
    rcases List.mem_cons.1 hx with rfl | hx
    · exact solid_one h.1 hr.1
    · exact solids_one (vs := vs) h.2 hr.2 x hx
  | [], _ :: _, _, h => h.elim
  | _ :: _, [], _, h => h.elim
theorem setCells_length {α : Type} : ∀ (us cs : List α) (off : Nat), (setCells cs off us).length = cs.length
  | [], _, _ => rfl
  | u :: us, cs, off => by simp only [setCells]; rw [setCells_length us]; simp
theorem RepL.sets : ∀ {us : List V} {cus : List Value} {cs : List V} {vals : List Value} (off : Nat), RepL w0 R loc cs vals → RepL w0 R loc us cus →
    RepL w0 R loc (setCells cs off us) (setCells vals off cus)
  | [], [], _, _, _, h, _ => h
  | u :: us, c :: cus, _, _, off, h, h' => RepL.sets (us := us) (cus := cus) (off + 1) (h.set off h'.1) h'.2
  | [], _ :: _, _, _, _, _, h => h.elim
  | _ :: _, [], _, _, _, _, h => h.elim
theorem zeroV_run {t : TypeId} {z : List V} (h : zeroV? P t = some z) : ∃ c, (zeroValue t).run P w = .ok c w ∧ RepL w0 R loc z c.cells.toList ∧ ∃ i, P.info? t = some i ∧ i.zero = some c := by
  unfold zeroV? at h
  split at h
  · rename_i i hi
    split at h
    · rename_i c hc
      exact ⟨c, by simp [zeroValue, typeInfo, hi, hc], cells_rep h (constV_rep c), i, hi, hc⟩
    · cases h
  · cases h
theorem foldl_sets (off : Nat) : ∀ (l : List Value) (k : Nat) (cells : Array Value),
    ((l.zipIdx k).foldl (fun cs (p : Value × Nat) => cs.setIfInBounds (off + p.2) p.1) cells).toList = setCells cells.toList (off + k) l
  | [], _, _ => rfl
  | c :: l, k, cells => by
    simp only [List.zipIdx_cons, List.foldl_cons, setCells]
    rw [foldl_sets off l (k + 1)]
    simp [Nat.add_assoc]
def RepP (w0 : World) (R : Nat → Prop) (loc : Nat → Loc) : List (Nat × V) → List (Nat × Value) → Prop
  | [], [] => True
  | p :: ps, q :: qs => p.1 = q.1 ∧ Rep w0 R loc p.2 q.2 ∧ RepP w0 R loc ps qs
  | _, _ => False
theorem fill_one {vals : Array Value} {off : Nat} {c : Value} : (c.cells.zipIdx.foldl (fun cs (p : Value × Nat) => cs.setIfInBounds (off + p.2) p.1) vals).toList = setCells vals.toList off c.cells.toList := by
  rw [← Array.foldl_toList, Array.toList_zipIdx]
  have := foldl_sets off c.cells.toList 0 vals
  simpa using this
theorem putParts_fill {t : TypeId} (place : Nat → Option (Nat × Nat)) (hp : ∀ i off n b, field? P t i = some (off, n, b) → place i = some (off, n)) :
    ∀ (ps : List (Nat × V)) (qs : List (Nat × Value)) (cs cs' : List V) (vals : Array Value), RepP w0 R loc ps qs → RepL w0 R loc cs vals.toList → putParts P t cs ps = some cs' →
      ∃ vals', Instr.fill place vals qs = some vals' ∧ RepL w0 R loc cs' vals'.toList
  | [], [], cs, cs', vals, _, h, hc => ⟨vals, rfl, by simp [putParts] at hc; subst hc; exact h⟩
  | (i, v) :: ps, (j, c) :: qs, cs, cs', vals, ⟨hij, hv, hps⟩, h, hc => by
    obtain rfl : i = j := hij
    simp only [putParts] at hc
    split at hc
    · rename_i off n b us hf hcl
      have hr := cells_rep hcl hv
      cases hb : Nat.beq us.length n && Nat.ble (off + n) cs.length with
      | false => rw [hb] at hc; cases hc
      | true =>
        rw [hb] at hc
        simp only [cond_true] at hc
        simp only [Bool.and_eq_true] at hb
        have h1 := Nat.eq_of_beq_eq_true hb.1
        have h2 := Nat.le_of_ble_eq_true hb.2
        rw [RepL.length hr] at h1
        rw [RepL.length h] at h2
        simp only [Array.length_toList] at h1 h2
        simp only [Instr.fill, hp i off n b hf]
        rw [if_neg (by simp [h1]; omega)]
        refine putParts_fill place hp ps qs _ cs' _ hps ?_ hc
        rw [fill_one]
        exact h.sets off hr
    · cases hc
  | [], _ :: _, _, _, _, h, _, _ => h.elim
  | _ :: _, [], _, _, _, h, _, _ => h.elim
theorem putElems_fill {n : Nat} : ∀ (ps : List (Nat × V)) (qs : List (Nat × Value)) (cs cs' : List V) (vals : Array Value), RepP w0 R loc ps qs → RepL w0 R loc cs vals.toList → putElems n cs ps = some cs' →
      ∃ vals', Instr.fill (fun i => some (i * n, n)) vals qs = some vals' ∧ RepL w0 R loc cs' vals'.toList
  | [], [], cs, cs', vals, _, h, hc => ⟨vals, rfl, by simp [putElems] at hc; subst hc; exact h⟩
  | (i, v) :: ps, (j, c) :: qs, cs, cs', vals, ⟨hij, hv, hps⟩, h, hc => by
    obtain rfl : i = j := hij
    simp only [putElems] at hc
    split at hc
    · rename_i us hcl
      have hr := cells_rep hcl hv
      cases hb : Nat.beq us.length n && Nat.ble (i * n + n) cs.length with
      | false => rw [hb] at hc; cases hc
      | true =>
        rw [hb] at hc
        simp only [cond_true] at hc
        simp only [Bool.and_eq_true] at hb
        have h1 := Nat.eq_of_beq_eq_true hb.1
        have h2 := Nat.le_of_ble_eq_true hb.2
        rw [RepL.length hr] at h1
        rw [RepL.length h] at h2
        simp only [Array.length_toList] at h1 h2
        simp only [Instr.fill]
        rw [if_neg (by simp [h1]; omega)]
        refine putElems_fill ps qs _ cs' _ hps ?_ hc
        rw [fill_one]
        exact h.sets (i * n) hr
    · cases hc
  | [], _ :: _, _, _, _, h, _, _ => h.elim
  | _ :: _, [], _, _, _, h, _, _ => h.elim
theorem RepP.ops (hs : Sim w0 R L N st a w loc γ) : ∀ l : List (Nat × Operand), RepP w0 R loc (l.map fun p => (p.1, st.rv p.2)) (l.map fun (p : Nat × Operand) => (p.1, a.eval p.2))
  | [] => trivial
  | p :: l => ⟨rfl, hs.eval p.2, RepP.ops hs l⟩
theorem run_mapM {α β : Type} (f : α → Sem β) (g : α → β) (xs : Array α) (h : ∀ x ∈ xs.toList, (f x).run P w = .ok (g x) w) : (xs.mapM f).run P w = .ok (xs.toList.map g).toArray w := by
  rw [Array.mapM_eq_mapM_toList, Sem.run_map]
  have : ∀ l : List α, (∀ x ∈ l, (f x).run P w = .ok (g x) w) → (l.mapM f).run P w = .ok (l.map g) w := by
    intro l
    induction l with
    | nil => intro _; rfl
    | cons x l ih =>
      intro h
      rw [List.mapM_cons]
      simp [h x (by simp), ih (fun y hy => h y (by simp [hy]))]
  rw [this _ h]
  rfl
theorem fieldsOk_mem : ∀ {fs : List Field}, fieldsOk P fs = true → ∀ x ∈ fs, ∃ b, tagg P x.type = some b
  | [], _ => by simp
  | f :: fs, h => by
    simp only [fieldsOk, Bool.and_eq_true] at h
    intro x hx
    rcases List.mem_cons.1 hx with rfl | hx
    · exact Option.isSome_iff_exists.1 h.1
    · exact fieldsOk_mem h.2 x hx
theorem build_run {t : TypeId} {l : List (Nat × Operand)} {v : V} {ob' : Ob} {f f' : Fp} (h : (buildE P t (l.map fun p => (p.1, st.rv p.2))).exec st.ob f = some (v, ob', f')) (hs : Sim w0 R L N st a w loc γ) :
    ob' = st.ob ∧ f'.ns = f.ns ∧ ∃ c, Rep w0 R loc v c ∧ (Instr.build t (l.map fun p => (p.1, a.eval p.2)).toArray).run P w = .ok c w := by
  unfold buildE at h
  split at h
  · rename_i fs hu
    cases hb : fieldsOk P fs.toList && (zeroV? P t).isSome with
    | false => rw [hb] at h; simp [Eff.exec] at h
    | true =>
      rw [hb] at h
      simp only [cond_true] at h
      simp only [Bool.and_eq_true] at hb
      obtain ⟨z, hz⟩ := Option.isSome_iff_exists.1 hb.2
      obtain ⟨c, hc1, hc2, _⟩ := zeroV_run (w0 := w0) (R := R) (loc := loc) (w := w) hz
      simp only [zeroV, hz] at h
      split at h
      · rename_i cs hcs
        simp only [Eff.exec, Option.some.injEq, Prod.mk.injEq] at h
        obtain ⟨rfl, rfl, rfl⟩ := h
        have hm := run_mapM (P := P) (w := w) (fun f : Field => do pure (f.offset, ← sizeOf f.type)) (fun f => (f.offset, tsize P f.type)) fs (fun x hx => by
          obtain ⟨b, hb⟩ := fieldsOk_mem hb.1 x hx
          simp [run_size hb])
        obtain ⟨vals', h1, h2⟩ := putParts_fill (P := P) (t := t) (fun i => ((fs.toList.map fun f => (f.offset, tsize P f.type)).toArray)[i]?) (fun i off n b hf => by
          obtain ⟨fs', x, hu', hx, rfl, rfl, _⟩ := field_get hf
          rw [hu] at hu'
          obtain rfl : fs = fs' := by simpa using hu'
          have : fs.toList[i]? = some x := by simpa using hx
          simp [this]) _ _ z cs c.cells (RepP.ops hs l) hc2 hcs
        refine ⟨rfl, rfl, _, ⟨vals', rfl, h2⟩, ?_⟩
        simp only [Instr.build, Sem.run_bind, hc1, Result.andThen_ok, run_underlying hu, hm]
        rw [h1]
        rfl
      · simp [Eff.exec] at h
  · rename_i n e hu
    cases hb : (tagg P e).isSome && (zeroV? P t).isSome with
    | false => rw [hb] at h; simp [Eff.exec] at h
    | true =>
      rw [hb] at h
      simp only [cond_true] at h
      simp only [Bool.and_eq_true] at hb
      obtain ⟨z, hz⟩ := Option.isSome_iff_exists.1 hb.2
      obtain ⟨b, hte⟩ := Option.isSome_iff_exists.1 hb.1
      obtain ⟨c, hc1, hc2, _⟩ := zeroV_run (w0 := w0) (R := R) (loc := loc) (w := w) hz
      simp only [zeroV, hz] at h
      split at h
      · rename_i cs hcs
        simp only [Eff.exec, Option.some.injEq, Prod.mk.injEq] at h
        obtain ⟨rfl, rfl, rfl⟩ := h
        obtain ⟨vals', h1, h2⟩ := putElems_fill _ _ z cs c.cells (RepP.ops hs l) hc2 hcs
        refine ⟨rfl, rfl, _, ⟨vals', rfl, h2⟩, ?_⟩
        simp only [Instr.build, Sem.run_bind, hc1, Result.andThen_ok, run_underlying hu, run_size hte]
        rw [h1]
        rfl
      · simp [Eff.exec] at h
  · simp [Eff.exec] at h
theorem len_run {t ty : TypeId} {x v : V} {cx : Value} {ob' : Ob} {f f' : Fp} (h : (lenE P t x).exec st.ob f = some (v, ob', f')) (hs : Sim w0 R L N st a w loc γ) (hx : Rep w0 R loc x cx) (ts : Array TypeId) (ht : ts[0]? = some t) :
    ob' = st.ob ∧ f'.ns = f.ns ∧ ∃ c, Rep w0 R loc v c ∧ (Builtin.len_ ts ty #[cx]).run P w = .ok c w := by
  unfold lenE at h
  split at h
  · obtain rfl := hx
    cases hq : isStr P t with
    | false => rw [hq] at h; simp [Eff.exec] at h
    | true =>
      rw [hq] at h
      simp only [cond_true, Eff.exec, Option.some.injEq, Prod.mk.injEq] at h
      obtain ⟨rfl, rfl, rfl⟩ := h
      exact ⟨rfl, rfl, _, rfl, by simp [Builtin.len_, ht, run_underlying (isStr_run hq), goInt, sz]⟩
  all_goals try (
    cases hq : slElem P t with
    | none => rw [hq] at h; simp [Eff.exec] at h
    | some p => ?_
    rw [hq] at h
    have hu := (slElem_run (e := p.1) (n := p.2) hq).1
    simp only [Option.isSome_some, cond_true, Eff.exec] at h)
  · simp only [Option.some.injEq, Prod.mk.injEq] at h
    obtain ⟨rfl, rfl, rfl⟩ := h
    obtain rfl := hx
    exact ⟨rfl, rfl, _, rfl, by simp [Builtin.len_, ht, run_underlying hu, goInt]⟩
  · rename_i id
    split at h
    · rename_i o ho
      split at h
      · simp only [Eff.exec, Option.some.injEq, Prod.mk.injEq] at h
        obtain ⟨rfl, rfl, rfl⟩ := h
        obtain rfl := hx
        obtain ⟨_, _, k3, _⟩ := hs.ob id _ ho
        exact ⟨rfl, rfl, _, rfl, by simp [Builtin.len_, ht, run_underlying hu, goInt, ln, k3]⟩
      · simp [Eff.exec] at h
    · cases h
  · simp only [Option.some.injEq, Prod.mk.injEq] at h
    obtain ⟨rfl, rfl, rfl⟩ := h
    obtain ⟨h0, h1, h2, rfl⟩ := hx
    exact ⟨rfl, rfl, _, rfl, by simp [Builtin.len_, ht, run_underlying hu, goInt, subZ_eq]; omega⟩
  · simp only [Option.some.injEq, Prod.mk.injEq] at h
    obtain ⟨rfl, rfl, rfl⟩ := h
    obtain ⟨_, _, rfl, _⟩ := hx
    exact ⟨rfl, rfl, _, rfl, by simp [Builtin.len_, ht, run_underlying hu, goInt, ln]⟩
  · simp [Eff.exec] at h
end
end Go.Eng
namespace Go.Eng
set_option linter.unusedSectionVars false
variable [Glb]
open Go.RowKit
set_option linter.unusedSimpArgs false
set_option linter.unusedVariables false

section
variable {w0 w w' : World} {R L : Nat → Prop} {N : Fx} {st : St} {a : Act} {loc : Nat → Loc} {γ : Nat → Option Nat} {P : Program}

/-! ### cells of elements -/
theorem CTs.Cells.congr : ∀ (e : CTs) (vs vs' : List Value) (x : e.D), (∀ j, j < e.size → vs'[j]? = vs[j]?) → CTs.Cells w R e vs x → CTs.Cells w R e vs' x
  | .one c, vs, vs', x, h, ⟨v, h1, h2⟩ => ⟨v, by rw [h 0 (by simp [CTs.size])]; exact h1, h2⟩
  | .cons c cs, vs, vs', x, h, ⟨v, h1, h2, h3⟩ => ⟨v, by rw [h 0 (by simp [CTs.size])]; exact h1, h2,
      CTs.Cells.congr cs _ _ x.2 (fun j hj => by rw [List.getElem?_drop, List.getElem?_drop]; exact h (1 + j) (by simp [CTs.size]; omega)) h3⟩
theorem CT.ofV_rep {c : CT} {v : V} {d : c.D} {u : Value} (h : c.ofV v = some d) (hr : Rep w0 R loc v u) : CT.Cell w0 R c u d := by
  cases c with
  | int k =>
    cases v <;> try (simp [CT.ofV] at h; done)
    simp only [CT.ofV] at h
    split at h
    · rename_i hk
      subst hk
      obtain rfl := Option.some.inj h
      exact hr
    · cases h
  | bool =>
    cases v <;> try (simp [CT.ofV] at h; done)
    obtain rfl := Option.some.inj h
    exact hr
  | str =>
    cases v <;> try (simp [CT.ofV] at h; done)
    obtain rfl := Option.some.inj h
    exact hr
  | row e =>
    cases v <;> try (simp [CT.ofV] at h; done)
    obtain rfl := Option.some.inj h
    obtain rfl := hr
    exact ⟨none, 0, rfl, Nat.le_refl _, fun _ => rfl, fun h => absurd h (by omega)⟩
theorem CTs.ofVs_rep : ∀ (e : CTs) (vs : List V) (us : List Value) (x : e.D), e.ofVs vs = some x → RepL w0 R loc vs us → CTs.Cells w0 R e us x
  | .one c => by
    intro vs us x h hr
    cases vs with
    | nil => exact absurd (show (none : Option _) = some x from h) (by simp)
    | cons v vs =>
      cases vs with
      | cons => exact absurd (show (none : Option _) = some x from h) (by simp)
      | nil =>
        cases us with
        | nil => exact hr.elim
        | cons u us => exact ⟨u, rfl, CT.ofV_rep h hr.1⟩
  | .cons c cs => by
    intro vs us x h hr
    cases vs with
    | nil => exact absurd (show (none : Option _) = some x from h) (by simp)
    | cons v vs =>
      cases us with
      | nil => exact hr.elim
      | cons u us =>
        have h : (match c.ofV v, cs.ofVs vs with
          | some d, some ds => some (d, ds)
          | _, _ => none) = some x := h
        split at h
        · rename_i d ds h1 h2
          obtain rfl := Option.some.inj h
          exact ⟨u, rfl, CT.ofV_rep h1 hr.1, CTs.ofVs_rep cs vs us ds h2 hr.2⟩
        · cases h
theorem CTs.setV_rep : ∀ (e : CTs) (j : Nat) (vs : List Value) (x x' : e.D) (v : V) (u : Value), e.setV x j v = some x' → CTs.Cells w0 R e vs x → Rep w0 R loc v u → CTs.Cells w0 R e (vs.set j u) x'
  | .one c => by
    intro j vs x x' v u h hc hr
    cases j with
    | succ j => simp [CTs.setV] at h
    | zero =>
      obtain ⟨y, h1, _⟩ := hc
      have := (List.getElem?_eq_some_iff.1 h1).1
      exact ⟨u, by simp [List.getElem?_set, this], CT.ofV_rep h hr⟩
  | .cons c cs => by
    intro j vs x x' v u h hc hr
    obtain ⟨y, h1, h2, h3⟩ := hc
    have hlt := (List.getElem?_eq_some_iff.1 h1).1
    cases j with
    | zero =>
      simp only [CTs.setV] at h
      cases hd : c.ofV v with
      | none => rw [hd] at h; cases h
      | some d =>
        rw [hd] at h
        obtain rfl := Option.some.inj h
        refine ⟨u, by simp [List.getElem?_set, hlt], CT.ofV_rep hd hr, ?_⟩
        cases vs with
        | nil => simp at hlt
        | cons a l => exact h3
    | succ j =>
      simp only [CTs.setV] at h
      cases hd : cs.setV x.2 j v with
      | none => rw [hd] at h; cases h
      | some d =>
        rw [hd] at h
        obtain rfl := Option.some.inj h
        cases vs with
        | nil => simp at hlt
        | cons a l => exact ⟨y, by simpa using h1, h2, by simpa using CTs.setV_rep cs j _ x.2 d v u hd h3 hr⟩
theorem CTs.setsV_rep : ∀ (vs : List V) (us : List Value) (e : CTs) (cs : List Value) (x x' : e.D) (j : Nat), e.setsV x j vs = some x' → CTs.Cells w0 R e cs x → RepL w0 R loc vs us → CTs.Cells w0 R e (setCells cs j us) x'
  | [], [], e, cs, x, x', j, h, hc, _ => by obtain rfl := Option.some.inj h; exact hc
  | v :: vs, u :: us, e, cs, x, x', j, h, hc, hr => by
    simp only [CTs.setsV] at h
    cases hd : e.setV x j v with
    | none => rw [hd] at h; cases h
    | some d =>
      rw [hd] at h
      exact CTs.setsV_rep vs us e _ d x' (j + 1) h (CTs.setV_rep e j cs x d v u hd hc hr.1) hr.2
  | [], _ :: _, _, _, _, _, _, _, _, h => h.elim
  | _ :: _, [], _, _, _, _, _, _, _, h => h.elim
theorem setCells_get {α : Type} : ∀ (us cs : List α) (off j : Nat), (setCells cs off us)[j]? = if off ≤ j ∧ j < off + us.length ∧ j < cs.length then us[j - off]? else cs[j]?
  | [], cs, off, j => by
    simp only [setCells, List.length_nil]
    rw [if_neg (by omega)]
  | u :: us, cs, off, j => by
    simp only [setCells]
    rw [setCells_get us]
    simp only [List.length_set, List.length_cons, List.getElem?_set]
    by_cases h1 : off = j
    · subst h1
      by_cases h2 : off < cs.length
      · rw [if_neg (by omega), if_pos rfl, if_pos h2, if_pos (by omega)]
        simp
      · rw [if_neg (by omega), if_pos rfl, if_neg h2, if_neg (by omega)]
        rw [List.getElem?_eq_none (by omega)]
    · by_cases h3 : off + 1 ≤ j ∧ j < off + 1 + us.length ∧ j < cs.length
      · rw [if_pos h3, if_pos (by omega)]
        rw [show j - off = (j - (off + 1)) + 1 by omega]
        simp
      · rw [if_neg h3, if_neg h1, if_neg (by omega)]

/-! ### new objects -/
def Loc.at (g : Nat) : Loc := { a := some ⟨g, 0, none⟩, len := 0, cap := 0, sz := 0 }
theorem lt_of_heap {b : Nat} {o : Obj} (h : w.heap[b]? = some o) : b < w.heap.size := (Array.getElem?_eq_some_iff.1 h).1
theorem Sim.old (hs : Sim w0 R L N st a w loc γ) {b id : Nat} (h : γ b = some id) : b < w.heap.size := (hs.col b id h).2
theorem heap_new (o : Obj) : (w.alloc o).heap[w.heap.size]? = some o := by
  show (w.heap.push o)[w.heap.size]? = some o
  simp
theorem tag_ge (d : Option Nat) (j : Nat) : 500 ≤ tag d j := by
  cases d <;> simp only [tag] <;> omega
/-- a new box -/
theorem Sim.new_box (hs : Sim w0 R L N st a w loc γ) {id : Nat} (hid : st.ob id = none) (h5 : 500 ≤ id) {vs : List V} {cells : Array Value} {ty : TypeId} (hv : RepL w0 R loc vs cells.toList) :
    ∃ loc' γ', Sim w0 R L N { tm := fun i => (st.tm i).kill id, ob := upd (killOb id st.ob) id (some ((O.box vs).kill id)) } a (w.alloc (.cells cells ty)) loc' γ' ∧
      Rep w0 R loc' (.box id 0) (.pointer (some ⟨w.heap.size, 0, none⟩)) := by
  refine ⟨_, fun b => if b = w.heap.size then some id else γ b, hs.new (l := Loc.at w.heap.size) hid h5 (hs.fr.alloc _) (by simp) (fun b id' hb _ => ?_) (fun b => ?_) ?_, ?_⟩
  · exact Below.heap_alloc _ _ _ (hs.old hb)
  · by_cases e : b = w.heap.size
    · subst e
      exact .inr ⟨by simp, fun id' h => absurd (hs.old h) (by omega), .inl hs.fr.size, by simp⟩
    · exact .inl (by simp [e])
  · refine ⟨w.heap.size, cells, ty, (0, 0), by simp [Loc.at], by simp, heap_new _, ?_, fun o _ h => by simp at h⟩
    exact RepL.kill (fun j hj => by simp [hj]) _ _ hv
  · exact ⟨w.heap.size, by simp [Loc.at], rfl⟩
/-- a new row in a block of its own -/
theorem Sim.new_row (hs : Sim w0 R L N st a w loc γ) {id : Nat} (hid : st.ob id = none) (h5 : 500 ≤ id) (hfr : Frm w0 L w') (hsz : w'.heap.size = w.heap.size + 1) (hold : ∀ k, k < w.heap.size → w'.heap[k]? = w.heap[k]?)
    {cells : Array Value} {ty : TypeId} {fz : Nat × Nat} (hnew : w'.heap[w.heap.size]? = some (.cells cells ty fz)) (hfz : unfroz fz cells.size) {e : CTs} (he : e.flat = true) {xs : List e.D} {cap : Nat} (hlen : xs.length ≤ cap)
    (hcap : cap * e.size ≤ cells.size) (hc : ∀ i x, xs[i]? = some x → CTs.Cells w0 R e (cells.toList.drop (i * e.size)) x) {nl : NI} (hnl : nl ≠ .is true) :
    ∃ loc' γ', Sim w0 R L N { tm := fun i => (st.tm i).kill id, ob := upd (killOb id st.ob) id (some ((O.row nl e xs).kill id)) } a w' loc' γ' ∧
      Rep w0 R loc' (.own id) (.slice (some ⟨w.heap.size, 0, none⟩) xs.length cap) := by
  refine ⟨_, fun b => if b = w.heap.size then some id else γ b, hs.new (l := { a := some ⟨w.heap.size, 0, none⟩, len := xs.length, cap := cap, sz := e.size }) hid h5 hfr (by omega) (fun b id' hb _ => hold b (hs.old hb)) (fun b => ?_) ?_, by simp [Rep]⟩
  · by_cases e : b = w.heap.size
    · subst e
      exact .inr ⟨by simp, fun id' h => absurd (hs.old h) (by omega), .inl hs.fr.size, by omega⟩
    · exact .inl (by simp [e])
  · simp only [O.kill, ObRep, if_true]
    refine ⟨he, trivial, trivial, ⟨hlen, (fun h => by cases h), fun ad ha => ?_⟩, fun ad cs ty' fz' ha hh => ?_, ?_⟩
    · obtain rfl := Option.some.inj ha
      exact ⟨rfl, by simp, cells, ty, fz, hnew, by simpa using hcap, fun i x hx => by simpa using hc i x hx⟩
    · obtain rfl := Option.some.inj ha
      rw [hnew] at hh
      simp only [Option.some.injEq, Obj.cells.injEq] at hh
      obtain ⟨rfl, _, rfl⟩ := hh
      exact hfz
    · rcases nl with _ | (_ | _) <;> simp_all [nilOk]

theorem alloc_goes {o : Oper} {t : TypeId} {id : Nat} {z : List V} (hop : o.op = .alloc t) (hs : Sim w0 R L N st a w loc γ) (hz : zeroV? P t = some z) (hid : st.ob id = none) (h5 : 500 ≤ id) :
    Goes P o w0 R L N st a w (.box id 0) (upd (killOb id st.ob) id (some ((O.box z).kill id))) [id] := by
  obtain ⟨c, hc1, hc2, _⟩ := zeroV_run (w0 := w0) (R := R) (loc := loc) (w := w) hz
  obtain ⟨loc', γ', h1, h2⟩ := hs.new_box (ty := t) hid h5 hc2
  refine goes_world h1 h2 ?_
  simp [execOp, hop, Instr.alloc, hc1, newVar, newRow]
theorem box_goes {o : Oper} {t : TypeId} {x : Operand} {id : Nat} {vs : List V} (hop : o.op = .box t x) (hs : Sim w0 R L N st a w loc γ) (hv : (st.rv x).cells? = some vs) (hid : st.ob id = none) (h5 : 500 ≤ id) :
    Goes P o w0 R L N st a w (.box id 0) (upd (killOb id st.ob) id (some ((O.box vs).kill id))) [id] := by
  obtain ⟨loc', γ', h1, h2⟩ := hs.new_box (ty := t) hid h5 (cells_rep hv (hs.eval x))
  refine goes_world h1 h2 ?_
  simp [execOp, hop, Instr.box, newVar, newRow]

/-- the type of strings.Builder, its zero value -/
noncomputable def BldTy0 (E : Env) : Prop := ∀ t, E.isB t = true → t = Glb.bT ∧ zeroV? E.P t = some [.pnil, .nil]
/-- what is known of the program's variables is what lies there -/
def GvOk (E : Env) : Prop := ∀ g v, E.gv g = some v → ∀ (w0 w : World) (R : Nat → Prop) (loc : Nat → Loc), Gl w0 R → Glb.gi w → ∃ cs ty fz c, w.heap[g]? = some (.cells cs ty fz) ∧ cs.toList[0]? = some c ∧ Rep w0 R loc v c
noncomputable def BldTy (E : Env) : Prop := BldTy0 E ∧ GvOk E
/-- a new strings.Builder -/
theorem bld_goes0 {E : Env} (hB : BldTy E) {o : Oper} {t : TypeId} {id : Nat} (hop : o.op = .alloc t) (ht : E.isB t = true) (hs : Sim w0 R L N st a w loc γ) (hid : st.ob id = none) (h5 : 500 ≤ id) :
    Goes E.P o w0 R L N st a w (.box id 0) (upd (killOb id st.ob) id (some ((O.bld ⟨#[]⟩).kill id))) [id] := by
  obtain ⟨rfl, hz⟩ := hB.1 t ht
  obtain ⟨c, hc1, hc2, _⟩ := zeroV_run (w0 := w0) (R := R) (loc := loc) (w := w) hz
  have hcs : c.cells = #[.pointer none, .slice none 0 0] := by
    apply Array.toList_inj.1
    match hl : c.cells.toList, hc2 with
    | [x, y], hc2 =>
      obtain ⟨h1, h2, _⟩ := hc2
      have h1 : x = .pointer none := h1
      have h2 : y = .slice none 0 0 := h2
      rw [h1, h2]
  have hsim := hs.new (id := id) (o := .bld ⟨#[]⟩) (l := Loc.at w.heap.size) (w' := w.alloc (.cells c.cells Glb.bT)) (γ' := fun b => if b = w.heap.size then some id else γ b) hid h5 (hs.fr.alloc _) (by simp) (fun b id' hb _ => Below.heap_alloc _ _ _ (hs.old hb)) (fun b => by
    by_cases e : b = w.heap.size
    · subst e
      exact .inr ⟨by simp, fun id' h => absurd (hs.old h) (by omega), .inl hs.fr.size, by simp⟩
    · exact .inl (by simp [e])) (by
    refine ⟨w.heap.size, .pointer none, .slice none 0 0, by simp [Loc.at], by simp, (fun g hg => by cases hg), .inl rfl, ?_, World.ownsRow_nil _ _ _ _, by simp [Value.ownBlock]⟩
    rw [heap_new, hcs])
  refine goes_world (γ' := fun b => if b = w.heap.size then some id else γ b) hsim (c := .pointer (some ⟨w.heap.size, 0, none⟩)) ⟨w.heap.size, by simp [Loc.at], rfl⟩ ?_
  simp [execOp, hop, Instr.alloc, hc1, newVar, newRow]

/-! ### rows that are made -/
theorem range_chunks {z : List Value} {s : Nat} (hz : z.length = s) : ∀ n, (List.range (n * s)).map (fun i => z[i % s]!) = (List.replicate n z).flatten
  | 0 => by simp
  | n + 1 => by
    rw [show (n + 1) * s = s + n * s by rw [Nat.add_mul]; omega, List.range_add, List.map_append, List.replicate_succ, List.flatten_cons, List.map_map]
    congr 1
    · apply List.ext_getElem
      · simp [hz]
      · intro i h1 h2
        simp only [List.length_map, List.length_range] at h1
        simp only [List.getElem_map, List.getElem_range, Nat.mod_eq_of_lt h1]
        rw [List.getElem!_eq_getElem?_getD, List.getElem?_eq_getElem (by omega)]
        rfl
    · rw [← range_chunks hz n]
      apply List.map_congr_left
      intro i _
      simp [Function.comp, Nat.add_mod_left]
theorem drop_chunks {α : Type} {z : List α} {s : Nat} (hz : z.length = s) : ∀ (i n : Nat), (List.replicate n z).flatten.drop (i * s) = (List.replicate (n - i) z).flatten
  | 0, n => by simp
  | i + 1, 0 => by simp
  | i + 1, n + 1 => by
    rw [List.replicate_succ, List.flatten_cons, List.drop_append, List.drop_eq_nil_of_le (by rw [Nat.add_mul]; omega), List.nil_append, show (i + 1) * s - z.length = i * s by rw [hz, Nat.add_mul]; omega, drop_chunks hz i n, Nat.add_sub_add_right]
theorem RepL.chunk {z : List V} {zc : List Value} (h : RepL w0 R loc z zc) : ∀ n, RepL w0 R loc (List.replicate n z).flatten (List.replicate n zc).flatten
  | 0 => trivial
  | n + 1 => by rw [List.replicate_succ, List.replicate_succ, List.flatten_cons, List.flatten_cons]; exact h.append (RepL.chunk h n)
theorem chunks_cells {e : CTs} {s : Nat} (hes : e.size = s) : ∀ (n : Nat) (cs : List V) (vals : List Value) (xs : List e.D), chunks e s n cs = some xs → RepL w0 R loc cs vals → n * s ≤ vals.length →
    xs.length = n ∧ ∀ i x, xs[i]? = some x → CTs.Cells w0 R e (vals.drop (i * s)) x
  | 0, cs, vals, xs, h, _, _ => by
    obtain rfl := Option.some.inj h
    exact ⟨rfl, fun i x hx => by simp at hx⟩
  | n + 1, cs, vals, xs, h, hr, hl => by
    simp only [chunks] at h
    split at h
    · rename_i y ys h1 h2
      obtain rfl := Option.some.inj h
      have hl' : s + n * s ≤ vals.length := by rw [Nat.add_mul] at hl; omega
      obtain ⟨h3, h4⟩ := chunks_cells hes n (cs.drop s) (vals.drop s) ys h2 (hr.drop s) (by simp; omega)
      refine ⟨by simp [h3], fun i x hx => ?_⟩
      cases i with
      | zero =>
        simp only [List.getElem?_cons_zero, Option.some.injEq] at hx
        subst hx
        refine CTs.Cells.congr e (vals.take s) _ y (fun j hj => ?_) (CTs.ofVs_rep e _ _ y h1 (hr.take s))
        simp only [Nat.zero_mul, List.drop_zero]
        rw [List.getElem?_take, if_pos (by omega)]
      | succ i =>
        have := h4 i x (by simpa using hx)
        rw [List.drop_drop] at this
        rw [Nat.add_mul, Nat.one_mul, Nat.add_comm]
        exact this
    · cases h
theorem elemOf_run {t e : TypeId} {c : CTs} {n by_ : Nat} (h : elemOf? P t = some (e, c, n, by_)) : P.underlying t = some (.slice e) ∧ (∃ b, tagg P e = some b) ∧ n = tsize P e ∧ c.size = n ∧ c.flat = true ∧ by_ = P.bytesOf e ∧
    ∃ z, zeroV? P e = some z ∧ z.length = n := by
  unfold elemOf? at h
  split at h
  · rename_i e' n' hq
    split at h
    · rename_i c' z' _ hz
      cases hb : Nat.beq c'.size n' && Nat.beq z'.length n' && c'.flat with
      | false => rw [hb] at h; cases h
      | true =>
        rw [hb] at h
        simp only [cond_true, Option.some.injEq, Prod.mk.injEq] at h
        obtain ⟨rfl, rfl, rfl, rfl⟩ := h
        simp only [Bool.and_eq_true] at hb
        obtain ⟨h1, h2, h3⟩ := slElem_run hq
        exact ⟨h1, h2, h3, Nat.eq_of_beq_eq_true hb.1.1, hb.2, rfl, z', hz, Nat.eq_of_beq_eq_true hb.1.2⟩
    · cases h
  · cases h
end
end Go.Eng
namespace Go.Eng
set_option linter.unusedSectionVars false
variable [Glb]
open Go.RowKit
set_option linter.unusedSimpArgs false
set_option linter.unusedVariables false

section
variable {w0 w w' : World} {R L : Nat → Prop} {N : Fx} {st : St} {a : Act} {loc : Nat → Loc} {γ : Nat → Option Nat} {P : Program}

theorem bytes_info {e : TypeId} {i : TypeInfo} (h : P.info? e = some i) : P.bytesOf e = i.bytes := by simp [Program.bytesOf, h]
theorem size_info {e : TypeId} {i : TypeInfo} (h : P.info? e = some i) : tsize P e = i.size := by simp [tsize, Program.cellsOf, h]
theorem made_list {c : Value} {n s : Nat} (hz : c.cells.toList.length = s) : (madeCells c.cells (n * s)).toList = (List.replicate n c.cells.toList).flatten := by
  rw [← range_chunks hz n]
  unfold madeCells
  rw [Array.toList_map, Array.toList_range]
  apply List.map_congr_left
  intro i _
  rw [show c.cells.size = s by simpa using hz]
  rw [List.getElem!_eq_getElem?_getD]
  simp [getElem!_def]
  cases h : c.cells[i % s]? <;> simp [h]

theorem CTs.setV_lt : ∀ (e : CTs) (j : Nat) (x x' : e.D) (v : V), e.setV x j v = some x' → j < e.size
  | .one c => by
    intro j x x' v h
    cases j with
    | zero => simp [CTs.size]
    | succ j => simp [CTs.setV] at h
  | .cons c cs => by
    intro j x x' v h
    cases j with
    | zero => simp [CTs.size]
    | succ j =>
      simp only [CTs.setV] at h
      cases hd : cs.setV x.2 j v with
      | none => rw [hd] at h; cases h
      | some d => have := CTs.setV_lt cs j x.2 d v hd; simp [CTs.size]; omega
theorem makeSlice_goes {o : Oper} {t : TypeId} {x y : Operand} {ob' : Ob} {f' : Fp} {v : V} (hop : o.op = .makeSlice t x y) (hs : Sim w0 R L N st a w loc γ)
    (h : (makeSliceE P o.dst t (st.rv x) (st.rv y)).exec st.ob ⟨[], [], []⟩ = some (v, ob', f')) : Goes P o w0 R L N st a w v ob' f'.ns := by
  unfold makeSliceE at h
  split at h
  · rename_i e ct n by_ k l k' c hq hx hy
    obtain ⟨hu, ⟨b, htb⟩, hn, hcs, hflat, hby, z, hz, hzl⟩ := elemOf_run hq
    cases hb0 : Nat.beq by_ 0 with
    | true => rw [hb0] at h; simp [Eff.exec] at h
    | false =>
      rw [hb0] at h
      simp only [cond_false] at h
      simp only [zeroV, hz] at h
      split at h
      · rename_i d hd
        simp only [Eff.exec] at h
        split at h
        · rename_i h1
          split at h
          · rename_i h2
            split at h
            · rename_i h3
              split at h
              · rename_i hid
                simp only [Option.some.injEq, Prod.mk.injEq] at h
                obtain ⟨rfl, rfl, rfl⟩ := h
                simp only [leI_eq, ltI_eq, decide_eq_true_eq] at h1
                simp only [leI_eq, ltI_eq, decide_eq_true_eq] at h2
                simp only [leI_eq, ltI_eq, decide_eq_true_eq] at h3
                simp only [mulZ_eq, lenBound] at h3
                have hby0 : by_ ≠ 0 := fun e => by subst e; simp at hb0
                obtain ⟨cv, hc1, hc2, i, hi, hiz⟩ := zeroV_run (w0 := w0) (R := R) (loc := loc) (w := w) hz
                have hsi := size_info hi
                have hbi := bytes_info hi
                have hcl := RepL.length hc2
                have hc0 : 0 ≤ c := by omega
                have hcb : (i.bytes : Int) * c < 140737488355328 := by rw [Int.mul_comm, ← hbi, ← hby]; exact h3
                have hc63 : c ≤ 9223372036854775807 := by
                  have : c * 1 ≤ c * (by_ : Int) := Int.mul_le_mul_of_nonneg_left (by omega) hc0
                  omega
                have ex := hs.eval x
                have ey := hs.eval y
                rw [hx] at ex
                rw [hy] at ey
                have hr := run_make (P := P) w t e i cv hu hi hiz k k' l c h1 h2 (by omega) hc63
                have hsz : i.size = ct.size := by rw [← hsi, ← hn, hcs]
                have hml := made_list (c := cv) (n := c.toNat) (s := i.size) (by rw [← hcl, hzl, hn, hsi])
                have hdc := CTs.ofVs_rep ct z _ d hd hc2
                obtain ⟨loc', γ', g1, g2⟩ := hs.new_row (id := tag o.dst 0) (w' := w.alloc (.cells (madeCells cv.cells (c.toNat * i.size)) e)) hid (tag_ge _ _) (hs.fr.alloc _) (by simp) (fun k hk => Below.heap_alloc _ _ _ hk) (heap_new _) (fun o _ h => by simp at h)
                  hflat (xs := repI l d) (cap := c.toNat) (by simp [repI]; omega) (by rw [size_madeCells, hsz]; exact Nat.le_refl _) (fun j x hx => by
                    rw [hml, ← hsz, drop_chunks (by rw [← hcl, hzl, hn, hsi])]
                    simp only [repI, List.getElem?_replicate] at hx
                    split at hx
                    · rename_i hj
                      obtain rfl := Option.some.inj hx
                      have : c.toNat - j ≠ 0 := by omega
                      obtain ⟨m, hm⟩ := Nat.exists_eq_succ_of_ne_zero this
                      rw [hm, List.replicate_succ, List.flatten_cons]
                      refine CTs.Cells.congr ct _ _ _ (fun q hq => ?_) hdc
                      rw [List.getElem?_append_left (by rw [← hcl, hzl]; omega)]
                    · cases hx) (nl := .is false) (by simp)
                refine goes_world g1 g2 ?_
                have ex' : a.eval x = .int k l := ex
                have ey' : a.eval y = .int k' c := ey
                simp only [execOp, hop, Sem.run_bind, ex', ey', hr]
                simp [repI]
              · cases h
            · cases h
          · cases h
        · cases h
      · simp [Eff.exec] at h
  · simp [Eff.exec] at h
theorem buildSlice_goes {o : Oper} {t : TypeId} {n : Nat} {ps : Array (Nat × Operand)} {ob' : Ob} {f' : Fp} {v : V} (hop : o.op = .buildSlice t n ps) (hs : Sim w0 R L N st a w loc γ)
    (h : (buildSliceE P o.dst t n (ps.toList.map fun p => (p.1, st.rv p.2))).exec st.ob ⟨[], [], []⟩ = some (v, ob', f')) : Goes P o w0 R L N st a w v ob' f'.ns := by
  unfold buildSliceE at h
  split at h
  · rename_i e ct s by_ hq
    obtain ⟨hu, ⟨b, htb⟩, hn, hcs, hflat, hby, z, hz, hzl⟩ := elemOf_run hq
    cases hb0 : Nat.ble (n * s) (2 ^ 24) with
    | false => rw [hb0] at h; simp [Eff.exec] at h
    | true =>
      rw [hb0] at h
      simp only [cond_true, zeroV, hz] at h
      split at h
      · rename_i cs hcs'
        split at h
        · rename_i xs hxs
          simp only [Eff.exec] at h
          split at h
          · rename_i hid
            simp only [Option.some.injEq, Prod.mk.injEq] at h
            obtain ⟨rfl, rfl, rfl⟩ := h
            obtain ⟨cv, hc1, hc2, i, hi, hiz⟩ := zeroV_run (w0 := w0) (R := R) (loc := loc) (w := w) hz
            have hcl := RepL.length hc2
            have hle := Nat.le_of_ble_eq_true hb0
            have hml := made_list (c := cv) (n := n) (s := s) (by rw [← hcl, hzl])
            have h0 : RepL w0 R loc (List.replicate n z).flatten (madeCells cv.cells (n * s)).toList := by rw [hml]; exact RepL.chunk hc2 n
            obtain ⟨vals', g1, g2⟩ := putElems_fill (n := s) _ _ _ cs (madeCells cv.cells (n * s)) (RepP.ops hs ps.toList) h0 hcs'
            have hlen : vals'.toList.length = n * s := by
              have e1 := RepL.length g2
              have e2 : cs.length = (List.replicate n z).flatten.length := by
                have key : ∀ (l : List (Nat × V)) (us us' : List V), putElems s us l = some us' → us'.length = us.length := by
                  intro l
                  induction l with
                  | nil => intro us us' h; simp [putElems] at h; rw [h]
                  | cons p l ih =>
                    intro us us' h
                    simp only [putElems] at h
                    split at h
                    · cases hq : Nat.beq (List.length ‹List V›) s && Nat.ble (p.1 * s + s) us.length with
                      | false => rw [hq] at h; cases h
                      | true => rw [hq] at h; rw [ih _ _ h, setCells_length]
                    · cases h
                exact key _ _ _ hcs'
              rw [← e1, e2]
              simp [hzl]
            obtain ⟨k1, k2⟩ := chunks_cells hcs n cs vals'.toList xs hxs g2 (by omega)
            obtain ⟨loc', γ', j1, j2⟩ := hs.new_row (id := tag o.dst 0) (w' := w.alloc (.cells vals' e)) hid (tag_ge _ _) (hs.fr.alloc _) (by simp) (fun k hk => Below.heap_alloc _ _ _ hk) (heap_new _) (fun o _ h => by simp at h)
              hflat (xs := xs) (cap := n) (by omega) (by rw [Array.length_toList] at hlen; rw [hcs]; omega) (fun i x hx => by rw [hcs]; exact k2 i x hx) (nl := .is false) (by simp)
            refine goes_world j1 j2 ?_
            simp only [execOp, hop, Sem.run_bind, Instr.buildSlice, run_underlying hu, Result.andThen_ok, run_size htb, ← hn]
            rw [if_neg (by omega)]
            by_cases hz0 : n * s = 0
            · rw [if_pos hz0]
              have hr : (Array.range (n * s)).map (fun x => (#[] : Array Value)[x % (#[] : Array Value).size]!) = madeCells cv.cells (n * s) := by
                unfold madeCells
                rw [hz0, show Array.range 0 = (#[] : Array Nat) from rfl]
                simp
              simp only [Sem.run_bind, Sem.run_pure, Result.andThen_ok]
              rw [hr, Array.toList_map, g1]
              simp [newRow, k1]
            · rw [if_neg hz0]
              simp only [Sem.run_bind, Sem.run_pure, Result.andThen_ok, hc1]
              rw [show (Array.range (n * s)).map (fun x => cv.cells[x % cv.cells.size]!) = madeCells cv.cells (n * s) from rfl, Array.toList_map, g1]
              simp [newRow, k1]
          · cases h
        · simp [Eff.exec] at h
      · simp [Eff.exec] at h
  · split at h
    · rename_i e s hq
      obtain ⟨hu, ⟨b, htb⟩, hn⟩ := slElem_run hq
      cases hb0 : Nat.beq s 1 && (zeroV? P e).isSome && Nat.beq (zeroV P e).length 1 && Nat.ble n (2 ^ 24) with
      | false => rw [hb0] at h; simp [Eff.exec] at h
      | true =>
        rw [hb0] at h
        simp only [Bool.and_eq_true] at hb0
        obtain ⟨⟨⟨hs1, hz0⟩, hz1⟩, hle0⟩ := hb0
        obtain ⟨z, hz⟩ := Option.isSome_iff_exists.1 hz0
        have hs1 := Nat.eq_of_beq_eq_true hs1
        subst hs1
        have hle := Nat.le_of_ble_eq_true hle0
        simp only [zeroV, hz] at hz1 h
        have hzl := Nat.eq_of_beq_eq_true hz1
        simp only [cond_true] at h
        split at h
        · rename_i cs hcs'
          simp only [Eff.exec] at h
          split at h
          · rename_i hid
            simp only [Option.some.injEq, Prod.mk.injEq] at h
            obtain ⟨rfl, rfl, rfl⟩ := h
            obtain ⟨cv, hc1, hc2, i, hi, hiz⟩ := zeroV_run (w0 := w0) (R := R) (loc := loc) (w := w) hz
            have hcl := RepL.length hc2
            have hml := made_list (c := cv) (n := n) (s := 1) (by rw [← hcl, hzl])
            rw [Nat.mul_one] at hml
            have h0 : RepL w0 R loc (List.replicate n z).flatten (madeCells cv.cells n).toList := by rw [hml]; exact RepL.chunk hc2 n
            obtain ⟨vals', g1, g2⟩ := putElems_fill (n := 1) _ _ _ cs (madeCells cv.cells n) (RepP.ops hs ps.toList) h0 hcs'
            obtain ⟨loc', γ', j1, b', hb1, hb2⟩ := hs.new_box (id := tag o.dst 0) (ty := e) hid (tag_ge _ _) g2
            obtain rfl : b' = w.heap.size := by cases hb2; rfl
            refine goes_world j1 (c := .slice (some ⟨w.heap.size, 0, none⟩) n n) ⟨_, hb1, rfl⟩ ?_
            simp only [execOp, hop, Sem.run_bind, Instr.buildSlice, run_underlying hu, Result.andThen_ok, run_size htb, ← hn, Nat.mul_one]
            rw [if_neg (by omega)]
            by_cases hz0 : n = 0
            · rw [if_pos hz0]
              have hr : (Array.range n).map (fun x => (#[] : Array Value)[x % (#[] : Array Value).size]!) = madeCells cv.cells n := by
                unfold madeCells
                rw [hz0, show Array.range 0 = (#[] : Array Nat) from rfl]
                simp
              simp only [Sem.run_bind, Sem.run_pure, Result.andThen_ok]
              rw [hr, Array.toList_map]
              simp only [Nat.mul_one] at g1
              rw [g1]
              simp [newRow]
            · rw [if_neg hz0]
              simp only [Sem.run_bind, Sem.run_pure, Result.andThen_ok, hc1]
              rw [show (Array.range n).map (fun x => cv.cells[x % cv.cells.size]!) = madeCells cv.cells n from rfl, Array.toList_map]
              simp only [Nat.mul_one] at g1
              rw [g1]
              simp [newRow]
          · cases h
        · simp [Eff.exec] at h
    · simp [Eff.exec] at h

/-! ### writing -/
theorem setCells_heap {b : Nat} {ty : TypeId} {fz : Nat × Nat} : ∀ (us : List Value) (o : Nat) (w : World) (vals : Array Value), w.heap[b]? = some (.cells vals ty fz) →
    (w.setCells b o us).heap[b]? = some (.cells (setCells vals.toList o us).toArray ty fz) ∧ (∀ k, k ≠ b → (w.setCells b o us).heap[k]? = w.heap[k]?) ∧ (w.setCells b o us).heap.size = w.heap.size
  | [], o, w, vals, h => ⟨by simpa [World.setCells, setCells] using h, fun _ _ => rfl, rfl⟩
  | u :: us, o, w, vals, h => by
    have h1 : (w.setCell ⟨b, o, none⟩ u).heap[b]? = some (.cells (vals.setIfInBounds o u) ty fz) := by simp only [World.setCell, Array.getElem?_modify, h]; rfl
    obtain ⟨h2, h3, h4⟩ := setCells_heap us (o + 1) (w.setCell ⟨b, o, none⟩ u) _ h1
    refine ⟨?_, fun k hk => by simp only [World.setCells]; rw [h3 k hk]; exact Below.heap_setCell _ _ _ _ hk, by simp only [World.setCells]; rw [h4]; simp [World.setCell]⟩
    simp only [World.setCells, setCells]
    rw [h2]
    simp
theorem Frm.setCells {b : Nat} (hb : w0.heap.size ≤ b ∨ L b) : ∀ (us : List Value) (o : Nat) (w : World), Frm w0 L w → Frm w0 L (w.setCells b o us)
  | [], _, _, h => h
  | u :: us, o, w, h => Frm.setCells hb us (o + 1) _ (h.setCell hb u)
theorem store_run {b o : Nat} {t : TypeId} {bb : Bool} {vals : Array Value} {ty : TypeId} {fz : Nat × Nat} {c : Value} (hb : w.heap[b]? = some (.cells vals ty fz)) (hfz : unfroz fz vals.size) (ht : tagg P t = some bb)
    (hsz : c.cells.toList.length = tsize P t) (hle : o + c.cells.toList.length ≤ vals.size) (h1 : ∀ x ∈ c.cells.toList, x.oneCell' = true) :
    (Instr.storeAt t (.pointer (some ⟨b, o, none⟩)) c).run P w = .ok () (w.setCells b o c.cells.toList) := by
  have hst := run_storeCells_cells (P := P) b o c.cells.toList 0 w (fun j hj => by
      rw [cell_at hb]
      simp only [Array.getElem?_toList, Option.isSome_iff_exists]
      exact ⟨_, by rw [Array.getElem?_eq_getElem (by omega)]⟩) (fun j hj => by
      have := hfz (o + 0 + j) (by omega)
      simp [World.frozen?, hb]
      intro h2
      simp only [Nat.add_zero] at this
      omega) h1
  simp only [Nat.add_zero] at hst
  simp only [Instr.storeAt, Instr.sureAddr, Sem.run_bind, Sem.run_pure, Result.andThen_ok, storeVar, run_size ht]
  rw [if_neg (by simpa using hsz)]
  exact hst
theorem Cells_end : ∀ (e : CTs) (x x' : e.D) (j : Nat) (vs : List V), e.setsV x j vs = some x' → vs ≠ [] → j + vs.length ≤ e.size
  | e, x, x', j, [], _, hne => absurd rfl hne
  | e, x, x', j, v :: vs, h, _ => by
    have key : ∀ (e : CTs) (x x' : e.D) (j : Nat) (v : V), e.setV x j v = some x' → j < e.size := fun e => by
      intro x x' j v h
      exact CTs.setV_lt e j x x' v h
    simp only [CTs.setsV] at h
    cases hd : e.setV x j v with
    | none => rw [hd] at h; cases h
    | some d =>
      rw [hd] at h
      have h1 := key e x d j v hd
      by_cases hv : vs = []
      · subst hv; simp; omega
      · have := Cells_end e d x' (j + 1) vs h hv
        simp; omega
end
end Go.Eng
namespace Go.Eng
set_option linter.unusedSectionVars false
variable [Glb]
open Go.RowKit
set_option linter.unusedSimpArgs false
set_option linter.unusedVariables false

section
variable {w0 w w' : World} {R L : Nat → Prop} {N : Fx} {st : St} {a : Act} {loc : Nat → Loc} {γ : Nat → Option Nat} {P : Program}

theorem store_goes {o : Oper} {t : TypeId} {x y : Operand} {ob' : Ob} {f' : Fp} {v : V} (hop : o.op = .store t x y) (hs : Sim w0 R L N st a w loc γ)
    (h : (storeE P t (st.rv x) (st.rv y)).exec st.ob ⟨[], [], []⟩ = some (v, ob', f')) : Goes P o w0 R L N st a w v ob' f'.ns := by
  have ex := hs.eval x
  have ey := hs.eval y
  unfold storeE at h
  split at h
  · simp [Eff.exec] at h
  · rename_i vs hvs
    have hr := cells_rep hvs ey
    cases hb : Nat.beq vs.length (tsize P t) && (tagg P t).isSome && vs.all V.solid with
    | false => rw [hb] at h; simp [Eff.exec] at h
    | true =>
      rw [hb] at h
      simp only [cond_true] at h
      simp only [Bool.and_eq_true] at hb
      have hsz := Nat.eq_of_beq_eq_true hb.1.1
      rw [RepL.length hr] at hsz
      obtain ⟨bb, ht⟩ := Option.isSome_iff_exists.1 hb.1.2
      have h1 := solids_one hb.2 hr
      split at h
      · rename_i id off hx
        simp only [Eff.exec] at h
        split at h
        · rename_i ox ho
          split at h
          · rename_i cs
            cases hle : Nat.ble (off + vs.length) cs.length with
            | false => rw [hle] at h; simp [Eff.exec] at h
            | true =>
              rw [hle] at h
              simp only [cond_true, Eff.exec, ho, Option.some.injEq, Prod.mk.injEq] at h
              obtain ⟨rfl, rfl, rfl⟩ := h
              have hle := Nat.le_of_ble_eq_true hle
              rw [hx] at ex
              obtain ⟨b, hb1, hxv⟩ := ex
              obtain ⟨b', vals, ty, fz, k1, k2, k3, k4, k5⟩ := hs.ob id _ ho
              rw [hb1] at k1
              obtain rfl : b = b' := by simpa using k1
              rw [RepL.length hr, RepL.length k4] at hle
              have hrun := store_run (P := P) (o := off) k3 k5 ht hsz (by simpa using hle) h1
              obtain ⟨g1, g2, g3⟩ := setCells_heap (a.eval y).cells.toList off w vals k3
              have hcol := hs.col b id k2
              refine goes_skip (loc' := loc) (γ' := γ) (w' := w.setCells b off (a.eval y).cells.toList) (hs.set (id := id) (Frm.setCells hcol.1 _ _ _ hs.fr) (by omega) (fun k j hj hk => g2 k (fun e => by subst e; rw [k2] at hk; exact hj (Option.some.inj hk).symm)) ?_) (Rep_undef) ?_
              · refine ⟨b, _, ty, fz, hb1, k2, g1, ?_, ?_⟩
                · exact k4.sets off hr
                · simpa [setCells_length] using k5
              · simp only [execOp, hop, Sem.run_bind]
                rw [hxv, hrun]
                rfl
          · simp [Eff.exec] at h
        · cases h
      · rename_i id i off hx
        simp only [Eff.exec] at h
        split at h
        · rename_i ox ho
          split at h
          · rename_i nl e xs
            split at h
            · rename_i x' hx'
              simp only [Eff.exec, ho, Option.some.injEq, Prod.mk.injEq] at h
              obtain ⟨rfl, rfl, rfl⟩ := h
              rw [hx] at ex
              obtain ⟨hi0, hi1, ad, had, hxv⟩ := ex
              obtain ⟨k1, k2, k3, k4, k5, k6⟩ := hs.ob id _ ho
              obtain ⟨hsp, hγ, cs, ty, fz, hh, hcap, hcells⟩ := k4.2.2 ad had
              have hsl : (a.eval y).cells.toList.length = (a.eval y).cells.size := by simp
              have k2' : i.toNat * (loc id).sz = i.toNat * e.size := by rw [k2]
              have hi1' := hi1
              rw [k3] at hi1'
              have hcell := hcells _ _ (rd_get (z := e.zero) hi0 hi1')
              have hl := CTs.len e _ _ hcell
              simp only [List.length_drop, Array.length_toList] at hl
              have hp := e.size_pos
              have hoff : vs ≠ [] → off + (a.eval y).cells.toList.length ≤ e.size := fun hne => by
                rw [← RepL.length hr]
                exact Cells_end e _ x' off vs hx' hne
              have hle : ad.off + i.toNat * (loc id).sz + off + (a.eval y).cells.toList.length ≤ cs.size ∨ vs = [] := by
                by_cases hne : vs = []
                · exact .inr hne
                · have := hoff hne
                  rw [k2]
                  exact .inl (by omega)
              have hmul : ∀ k q : Nat, k < xs.length → q < e.size → k * e.size + q < xs.length * e.size := fun k q hk hq => by
                have : (k + 1) * e.size ≤ xs.length * e.size := Nat.mul_le_mul_right _ hk
                rw [Nat.add_mul] at this
                omega
              have hne_or : vs ≠ [] ∨ vs = [] := by by_cases h : vs = [] <;> simp [h]
              have hrun : (Instr.storeAt t (.pointer (some ⟨ad.block, ad.off + i.toNat * (loc id).sz + off, none⟩)) (a.eval y)).run P w = .ok () (w.setCells ad.block (ad.off + i.toNat * (loc id).sz + off) (a.eval y).cells.toList) := by
                rcases hle with hle | hnil
                · exact store_run (P := P) hh (k5 ad cs ty fz had hh) ht hsz hle h1
                · have hcy : (a.eval y).cells.toList = [] := by
                    have := RepL.length hr
                    rw [hnil] at this
                    exact List.eq_nil_of_length_eq_zero this.symm
                  simp only [Instr.storeAt, Instr.sureAddr, Sem.run_bind, Sem.run_pure, Result.andThen_ok, storeVar, run_size ht]
                  rw [if_neg (by simpa using hsz), hcy]
                  rfl
              obtain ⟨g1, g2, g3⟩ := setCells_heap (a.eval y).cells.toList (ad.off + i.toNat * (loc id).sz + off) w cs hh
              have hcol := hs.col ad.block id hγ
              refine goes_skip (loc' := loc) (γ' := γ) (w' := w.setCells ad.block (ad.off + i.toNat * (loc id).sz + off) (a.eval y).cells.toList) (hs.set (id := id) (Frm.setCells hcol.1 _ _ _ hs.fr) (by omega) (fun k j hj hk => g2 k (fun e => by subst e; rw [hγ] at hk; exact hj (Option.some.inj hk).symm)) ?_) (Rep_undef) ?_
              · refine ⟨k1, k2, by simp [setI, k3], ⟨by simpa [setI] using k4.1, k4.2.1, fun ad' had' => ?_⟩, fun ad' cs' ty' fz' had' hh' => ?_, k6⟩
                · rw [had] at had'
                  obtain rfl := Option.some.inj had'
                  refine ⟨hsp, hγ, _, ty, fz, g1, by simpa [setCells_length] using hcap, fun k x hk => ?_⟩
                  simp only [setI, List.getElem?_set] at hk
                  rw [k2]
                  by_cases hki : i.toNat = k
                  · subst hki
                    rw [if_pos rfl, if_pos (by omega)] at hk
                    obtain rfl := Option.some.inj hk
                    have hset := CTs.setsV_rep vs (a.eval y).cells.toList e _ _ x' off hx' hcell hr
                    refine CTs.Cells.congr e _ _ x' (fun j hj => ?_) hset
                    rw [List.getElem?_drop, setCells_get, setCells_get]
                    simp only [List.length_drop, Array.length_toList]
                    by_cases hin : off ≤ j ∧ j < off + (a.eval y).cells.toList.length
                    · rw [if_pos ⟨by omega, by omega, by omega⟩, if_pos ⟨hin.1, hin.2, by omega⟩]
                      congr 1
                      omega
                    · rw [if_neg (fun h => hin ⟨by omega, by omega⟩), if_neg (fun h => hin ⟨h.1, h.2.1⟩), List.getElem?_drop]
                  · rw [if_neg hki] at hk
                    have hc := hcells k x hk
                    have hkl := (List.getElem?_eq_some_iff.1 hk).1
                    refine CTs.Cells.congr e _ _ x (fun j hj => ?_) hc
                    rw [List.getElem?_drop, List.getElem?_drop, setCells_get]
                    rw [if_neg]
                    rintro ⟨q1, q2, q3⟩
                    have hne : vs ≠ [] := fun h => by
                      have := RepL.length hr
                      rw [h] at this
                      simp only [List.length_nil] at this
                      omega
                    have := hoff hne
                    rcases Nat.lt_or_gt_of_ne hki with hlt | hgt
                    · have : (i.toNat + 1) * e.size ≤ k * e.size := Nat.mul_le_mul_right _ hlt
                      rw [Nat.add_mul] at this
                      omega
                    · have : (k + 1) * e.size ≤ i.toNat * e.size := Nat.mul_le_mul_right _ hgt
                      rw [Nat.add_mul] at this
                      omega
                · rw [had] at had'
                  obtain rfl := Option.some.inj had'
                  rw [g1] at hh'
                  simp only [Option.some.injEq, Obj.cells.injEq] at hh'
                  obtain ⟨rfl, _, rfl⟩ := hh'
                  simpa [setCells_length] using k5 ad cs ty fz had hh
              · simp only [execOp, hop, Sem.run_bind]
                rw [hxv, hrun]
                rfl
            · simp [Eff.exec] at h
          · simp [Eff.exec] at h
        · cases h
      · simp [Eff.exec] at h
end
end Go.Eng
