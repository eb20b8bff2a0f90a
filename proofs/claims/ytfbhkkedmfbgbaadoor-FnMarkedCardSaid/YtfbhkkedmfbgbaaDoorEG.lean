/- Loops and joins of a function, by their place in its code. Plain lemmas: what the evaluator's words say; answers for all rounds from some number on. Functions without code, and functions read by hand: what they answer. Functions of the library that read laid tables, or have no code: what they answer. Loops over rows that laws share: copied, held against each other, measured. Loops in loops; rows that a caller writes marks into, and looks at again. -/
import Derived.Test.YtfbhkkedmfbgbaaDoorEF
import Derived.Laws.BitsLemmas
import Derived.Laws.Strings
import Derived.Laws.Externs
import Derived.Lib.Bytealg
import Derived.Shelf.Unicode.DecodeAny
namespace Go.Eng
noncomputable section
set_option linter.unusedVariables false

def atK {ρ : Type} (E : Env) (cf : Cf E) (f m k : Nat) (J : Code → (Exit → St → Option ρ) → Option ρ) : Code → List Bool → List Nat → (Exit → St → Option ρ) → Option ρ
  | .seq a b, p, ks, K => match p with
    | [] => J (.seq a b) K
    | false :: p => atK E cf f m k J a p ks (seqKont m (E.joinHint f (keyOf b)) (evK E cf f m k b) K)
    | true :: p => atK E cf f m k J b p ks K
  | .cond c a b, p, ks, K => match p with
    | [] => J (.cond c a b) K
    | false :: p => atK E cf f m k J a p ks K
    | true :: p => atK E cf f m k J b p ks K
  | .block id b, p, ks, K => match p with
    | [] => J (.block id b) K
    | _ :: p => atK E cf f m k J b p ks (blockKont id K)
  | .loop b, p, ks, K => match p, ks with
    | [], _ => J (.loop b) K
    | _ :: p, kk :: ks => atK E cf f m k J b p ks (lpK (loopK (evK E cf f m k b) (nrmK m (E.loopHint f (keyOf b))) kk) (nrmK m (E.loopHint f (keyOf b))) K)
    | _, _ => none
  | c, _, _, K => J c K
def bodyAt {ρ : Type} (E : Env) (f : Nat) (g : Code → List ResultVar → Option ρ) : Option ρ := match E.P.funcs[f]? with
  | some fn => match fn.body with
    | some c => g c fn.results.toList
    | none => none
  | none => none
/-- the loop at a place, from a state on -/
def loopAt (E : Env) (ext : Cf E) (f m k : Nat) (p : List Bool) (ks : List Nat) (kk : Nat) (tm : Nat → V) (ob : Ob) : Option (E.sig f).T :=
  bodyAt E f fun c rs => atK E (evF E ext k) f m k (fun c K => match c with
    | .loop b => loopK (evK E (evF E ext k) f m k b) (nrmK m (E.loopHint f (keyOf b))) kk ⟨tm, ob⟩ K
    | _ => none) c p ks (finK E f rs)
/-- the code at a place, from a state on -/
def joinAt (E : Env) (ext : Cf E) (f m k : Nat) (p : List Bool) (ks : List Nat) (tm : Nat → V) (ob : Ob) : Option (E.sig f).T :=
  bodyAt E f fun c rs => atK E (evF E ext k) f m k (fun c K => joinB (evK E (evF E ext k) f m k c ⟨tm, ob⟩ K)) c p ks (finK E f rs)
def joinRaw (E : Env) (ext : Cf E) (f m k : Nat) (p : List Bool) (ks : List Nat) (tm : Nat → V) (ob : Ob) : Option (E.sig f).T :=
  bodyAt E f fun c rs => atK E (evF E ext k) f m k (fun c K => evK E (evF E ext k) f m k c ⟨tm, ob⟩ K) c p ks (finK E f rs)
theorem joinAt_eq (E : Env) (ext : Cf E) (f m k : Nat) (p : List Bool) (ks : List Nat) (tm : Nat → V) (ob : Ob) : joinAt E ext f m k p ks tm ob = joinRaw E ext f m k p ks tm ob := by
  unfold joinAt joinRaw
  simp only [joinB_eq]
/-- a test that holds, else nothing -/
def chk {α : Type} (c : Bool) (a : Option α) : Option α := brB c a none
def lookN {α : Type} (d : α) (n : Nat) : List (Nat × α) → α
  | [] => d
  | (m, a) :: l => bif Nat.beq n m then a else lookN d n l
def memb (n : Nat) : List Nat → Bool
  | [] => false
  | m :: l => bif Nat.beq n m then true else memb n l
def lookT (n j : Nat) (l : List (Nat × List (Nat × Hint))) : Option Hint := lookN none j ((lookN [] n l).map fun p => (p.1, some p.2))
end
end Go.Eng
namespace Go.Eng
open Go.RowKit
set_option linter.unusedSimpArgs false
set_option linter.unusedVariables false

/-! ### rounds -/
/-- for all numbers of rounds from some number on the answer is r -/
def Ev {α : Type} (g : Nat → Option α) (r : α) : Prop := ∃ n, ∀ k, n ≤ k → g k = some r
theorem Ev.of {α : Type} {g : Nat → Option α} {r : α} (h : ∀ k, g k = some r) : Ev g r := ⟨0, fun k _ => h k⟩
theorem Ev.now {α : Type} (r : α) : Ev (fun _ => some r) r := ⟨0, fun _ _ => rfl⟩
theorem Ev.congr {α : Type} {g f : Nat → Option α} {r : α} (h : ∀ k, g k = f k) (hf : Ev f r) : Ev g r := hf.elim fun n hn => ⟨n, fun k hk => (h k).trans (hn k hk)⟩
/-- one round more -/
theorem Ev.step {α : Type} {g f : Nat → Option α} {r : α} (h : ∀ k, g (k + 1) = f k) (hf : Ev f r) : Ev g r := by
  obtain ⟨n, hn⟩ := hf
  refine ⟨n + 1, fun k hk => ?_⟩
  cases k with
  | zero => omega
  | succ k => exact (h k).trans (hn k (by omega))
theorem Ev.ret {α : Type} {g : Nat → Option α} {r : α} (h : ∀ k, g (k + 1) = some r) : Ev g r := Ev.step (f := fun _ => some r) h (Ev.now r)
theorem Ev.bind {α β : Type} {g : Nat → Option α} {f : Nat → α → Option β} {a : α} {r : β} (h : Ev g a) (hf : Ev (fun k => f k a) r) : Ev (fun k => (g k).bind (f k)) r := by
  obtain ⟨n, hn⟩ := h
  obtain ⟨m, hm⟩ := hf
  refine ⟨n + m, fun k hk => ?_⟩
  show (g k).bind (f k) = some r
  rw [hn k (by omega)]
  exact hm k (by omega)
theorem Ev.opt {α β : Type} {g : Nat → Option α} {f : Nat → α → Option β} {a : α} {r : β} (h : Ev g a) (hf : Ev (fun k => f k a) r) : Ev (fun k => optB (g k) (f k)) r := h.bind hf
theorem Ev.uniq {α : Type} {g : Nat → Option α} {r r' : α} (h : Ev g r) (h' : Ev g r') : r = r' := by
  obtain ⟨n, h⟩ := h
  obtain ⟨m, h'⟩ := h'
  have h1 := h (max n m) (by omega)
  have h2 := h' (max n m) (by omega)
  rw [h1] at h2
  exact Option.some.inj h2
theorem Ev.has {α : Type} {g : Nat → Option α} {r : α} (h : Ev g r) : ∃ k, g k = some r := h.elim fun n hn => ⟨n, hn n (Nat.le_refl _)⟩
/-- all of finitely many at once -/
theorem Ev.all_lt {α : Type} {g : Nat → Nat → Option α} {r : Nat → α} (n : Nat) (h : ∀ i, i < n → Ev (g i) (r i)) : ∃ m, ∀ k, m ≤ k → ∀ i, i < n → g i k = some (r i) := by
  induction n with
  | zero => exact ⟨0, fun k _ i hi => by omega⟩
  | succ n ih =>
    obtain ⟨m1, h1⟩ := ih fun i hi => h i (by omega)
    obtain ⟨m2, h2⟩ := h n (by omega)
    refine ⟨m1 + m2, fun k hk i hi => ?_⟩
    rcases Nat.lt_or_ge i n with h3 | h3
    · exact h1 k (by omega) i h3
    · obtain rfl : i = n := by omega
      exact h2 k (by omega)
/-- a loop's rounds are counted apart: enough of both -/
def Ev2 {α : Type} (g : Nat → Nat → Option α) (r : α) : Prop := ∃ n, ∀ k j, n ≤ k → n ≤ j → g k j = some r
theorem Ev2.ev {α : Type} {g : Nat → Nat → Option α} {r : α} (h : Ev2 g r) : Ev (fun k => g k k) r := h.elim fun n hn => ⟨n, fun k hk => hn k k hk hk⟩
theorem Ev2.ret {α : Type} {g : Nat → Nat → Option α} {r : α} (h : ∀ k j, g k (j + 1) = some r) : Ev2 g r := by
  refine ⟨1, fun k j _ hj => ?_⟩
  cases j with
  | zero => omega
  | succ j => exact h k j
theorem Ev2.step {α : Type} {g f : Nat → Nat → Option α} {r : α} (h : ∀ k j, g k (j + 1) = f k j) (hf : Ev2 f r) : Ev2 g r := by
  obtain ⟨n, hn⟩ := hf
  refine ⟨n + 1, fun k j hk hj => ?_⟩
  cases j with
  | zero => omega
  | succ j => exact (h k j).trans (hn k j (by omega) (by omega))
theorem Ev2.now {α : Type} (r : α) : Ev2 (fun _ _ => some r) r := ⟨0, fun _ _ _ _ => rfl⟩
theorem Ev2.congr {α : Type} {g f : Nat → Nat → Option α} {r : α} (h : ∀ k j, g k j = f k j) (hf : Ev2 f r) : Ev2 g r := hf.elim fun n hn => ⟨n, fun k j hk hj => (h k j).trans (hn k j hk hj)⟩
theorem Ev2.bind {α β : Type} {g : Nat → Option α} {f : Nat → Nat → α → Option β} {a : α} {r : β} (h : Ev g a) (hf : Ev2 (fun k j => f k j a) r) : Ev2 (fun k j => (g k).bind (f k j)) r := by
  obtain ⟨n, hn⟩ := h
  obtain ⟨m, hm⟩ := hf
  refine ⟨n + m, fun k j hk hj => ?_⟩
  show (g k).bind (f k j) = some r
  rw [hn k (by omega)]
  exact hm k j (by omega) (by omega)
/-- what does not look at the loop's rounds -/
theorem Ev.two {α : Type} {g : Nat → Option α} {r : α} (h : Ev g r) : Ev2 (fun k _ => g k) r := h.elim fun n hn => ⟨n, fun k _ hk _ => hn k hk⟩

/-! ### words -/
theorem toList_inj {a b : ByteArray} (h : a.toList = b.toList) : a = b := by
  rw [ByteArray.toList_eq, ByteArray.toList_eq] at h
  exact ByteArray.ext (Array.toList_inj.1 h)
theorem bytesEq_dec (a b : ByteArray) : bytesEq a b = decide (a = b) := by
  rw [bytesEq_eq, Bool.eq_iff_iff, beq_iff_eq, decide_eq_true_eq]
  exact ⟨toList_inj, fun h => by rw [h]⟩
theorem brB_dec {α : Type} (p : Prop) [Decidable p] (x y : α) : brB (decide p) x y = if p then x else y := by
  unfold brB
  by_cases h : p
  · rw [if_pos h, decide_eq_true h]; rfl
  · rw [if_neg h, decide_eq_false h]; rfl
theorem chk_dec {α : Type} (p : Prop) [Decidable p] (x : Option α) : chk (decide p) x = if p then x else none := brB_dec p x none
theorem brB_not {α : Type} (c : Bool) (x y : α) : brB (!c) x y = brB c y x := by cases c <;> rfl
theorem chk_not {α : Type} (c : Bool) (x : Option α) : chk (!c) x = brB c none x := by cases c <;> rfl
theorem brB_t {α : Type} {c : Bool} (h : c = true) (x y : α) : brB c x y = x := by subst h; rfl
theorem brB_f {α : Type} {c : Bool} (h : c = false) (x y : α) : brB c x y = y := by subst h; rfl
theorem brB_b {α : Type} (c : Bool) (x y : α) : brB c x y = if c = true then x else y := by cases c <;> rfl
/-- the evaluator's words, plainly -/
theorem W : (∀ a b, ltI a b = decide (a < b)) ∧ (∀ a b, leI a b = decide (a ≤ b)) ∧ (∀ a b, eqI a b = decide (a = b)) ∧ (∀ a b, bytesEq a b = decide (a = b)) ∧ (∀ a b, strLess a b = Op.bytesLess a.toList b.toList) ∧
    (∀ b, notB b = !b) ∧ (∀ a b, orB a b = (a || b)) ∧ (∀ a b, eqB a b = (a == b)) ∧ (∀ a b, addZ a b = a + b) ∧ (∀ a b, subZ a b = a - b) ∧ (∀ a b, mulZ a b = a * b) ∧ (∀ s, sz s = (ByteArray.size s : Int)) ∧
    (∀ a b, catS a b = a ++ b) ∧ (∀ s l h, subs s l h = s.extract l.toNat h.toNat) :=
  ⟨ltI_eq, leI_eq, eqI_eq, bytesEq_dec, strLess_eq, fun _ => rfl, fun _ _ => rfl, fun _ _ => rfl, addZ_eq, subZ_eq, mulZ_eq, fun _ => rfl, fun _ _ => rfl, fun _ _ _ => rfl⟩
theorem W1 {α : Type} : (∀ (p : Prop) [Decidable p] (x y : α), brB (decide p) x y = if p then x else y) ∧ (∀ (p : Prop) [Decidable p] (x : Option α), chk (decide p) x = if p then x else none) ∧ (∀ (c : Bool) (x y : α), brB (!c) x y = brB c y x) ∧
    (∀ (c : Bool) (x : Option α), chk (!c) x = brB c none x) ∧ (∀ x y : α, brB true x y = x) ∧ (∀ x y : α, brB false x y = y) :=
  ⟨brB_dec, chk_dec, brB_not, chk_not, fun _ _ => rfl, fun _ _ => rfl⟩
theorem W2 {α : Type} : (∀ xs : List α, ln xs = (xs.length : Int)) ∧ (∀ xs ys : List α, catL xs ys = xs ++ ys) ∧ (∀ (xs : List α) n, takeI xs n = xs.take n.toNat) ∧ (∀ (xs : List α) n, dropI xs n = xs.drop n.toNat) ∧
    (∀ (xs : List α) i x, setI xs i x = xs.set i.toNat x) ∧ (∀ n (z : α), repI n z = List.replicate n.toNat z) :=
  ⟨fun _ => rfl, fun _ _ => rfl, fun _ _ => rfl, fun _ _ => rfl, fun _ _ _ => rfl, fun _ _ => rfl⟩
theorem W3 {α β : Type} (x : Option α) (k : α → Option β) : optB x k = x.bind k := rfl
theorem rd_nat {α : Type} (xs : List α) (i : Nat) (z : α) (h : i < xs.length) : rd xs (i : Int) z = xs[i] := by simp [rd, h]
theorem rd_at {α : Type} {xs : List α} {i : Nat} {x : α} (z : α) (h : xs[i]? = some x) : rd xs (i : Int) z = x := by simp [rd, h]
theorem rd_mid {α : Type} (pre suf : List α) (x z : α) : rd (pre ++ x :: suf) (pre.length : Int) z = x := by simp [rd]
theorem set_mid {α : Type} (pre suf : List α) (x y : α) : (pre ++ x :: suf).set ((pre.length : Int)).toNat y = (pre ++ [y]) ++ suf := by simp
theorem len_snoc {α : Type} (pre : List α) (x : α) : (pre.length : Int) + 1 = ((pre ++ [x]).length : Int) := by simp
theorem bt_nat (s : ByteArray) (i : Nat) : bt s (i : Int) = ((s.data.toList.getD i 0).toNat : Int) := by simp [bt]
theorem wrap_i64 {a : Int} (h1 : -9223372036854775808 ≤ a) (h2 : a ≤ 9223372036854775807) : IntKind.i64.wrap a = a := by
  rw [IntKind.wrap_i64]
  omega
theorem addI_i64 {a b : Int} (h1 : -9223372036854775808 ≤ a + b) (h2 : a + b ≤ 9223372036854775807) : addI .i64 a b = a + b := by rw [addI_eq, wrap_i64 h1 h2]
theorem subI_i64 {a b : Int} (h1 : -9223372036854775808 ≤ a - b) (h2 : a - b ≤ 9223372036854775807) : subI .i64 a b = a - b := by rw [subI_eq, wrap_i64 h1 h2]
theorem mulI_i64 {a b : Int} (h1 : -9223372036854775808 ≤ a * b) (h2 : a * b ≤ 9223372036854775807) : mulI .i64 a b = a * b := by rw [mulI_eq, wrap_i64 h1 h2]
theorem wrI_i64 {a : Int} (h1 : -9223372036854775808 ≤ a) (h2 : a ≤ 9223372036854775807) : wrI .i64 a = a := by rw [wrI_eq, wrap_i64 h1 h2]
theorem wf64 {n : Int} (h : (Lit.int .i64 n).wf = true) : -9223372036854775808 ≤ n ∧ n ≤ 9223372036854775807 := by
  simp only [Lit.wf, IntKind.min, IntKind.max, IntKind.signed, IntKind.bits, Bool.and_eq_true, decide_eq_true_eq, if_true] at h
  omega
end Go.Eng
namespace Go.Eng
set_option linter.unusedSectionVars false
variable [Glb]
open Go.RowKit
set_option linter.unusedSimpArgs false
set_option linter.unusedVariables false

/-- a function that answers one plain value and leaves the world as it was -/
theorem value_ok {E : Env} {f : Nat} {vs : List V} {os : List O} {x : (E.sig f).T} {v : V} {c : Value} (hinj : ∀ T, (E.sig f).inj x T = (v, [], [])) (hfin : (E.sig f).fin = []) (hids : v.ids = [])
    (hrep : ∀ (w : World) (R : Nat → Prop) (loc : Nat → Loc), Rep w R loc v c)
    (hrun : ∀ (w : World) (R : Nat → Prop) (loc : Nat → Loc) (args : Array Value), RepL w R loc vs args.toList → (callFunc f args).run E.P w = .ok (.value c) w) : FnOkAt E f vs os x := by
  intro w R L loc γ args T w1 R1 hT hg hg1 hR hγ hv ho
  refine .inr ⟨c, w, hrun w R loc args hv, Frm.refl _ _, loc, fun _ => none, fun k _ _ => rfl, fun b k h => absurd h (by simp), fun b k h => absurd h (by simp), ?_, ?_, ?_, ?_, ?_⟩
  · rw [hinj T]; exact hrep _ _ _
  · rw [hinj T]; intro id hid; rw [hids] at hid; cases hid
  · rw [hinj T, hfin]; rfl
  · rw [hinj T]; exact ⟨fun k o hk => by simp at hk⟩
  · rw [hinj T]; intro k o hk; simp at hk
theorem RepL.two {w : World} {R : Nat → Prop} {loc : Nat → Loc} {u v : V} {args : Array Value} (h : RepL w R loc [u, v] args.toList) : ∃ a b, args = #[a, b] ∧ Rep w R loc u a ∧ Rep w R loc v b := by
  match hl : args.toList, h with
  | [a, b], h => exact ⟨a, b, by apply Array.toList_inj.1; rw [hl], h.1, h.2.1⟩
theorem RepL.one_arg {w : World} {R : Nat → Prop} {loc : Nat → Loc} {u : V} {args : Array Value} (h : RepL w R loc [u] args.toList) : ∃ a, args = #[a] ∧ Rep w R loc u a := by
  match hl : args.toList, h with
  | [a], h => exact ⟨a, by apply Array.toList_inj.1; rw [hl], h.1⟩

/-! ### internal/bytealg.IndexByteString -/
def xIndexByteString (vs : List V) (os : List O) : Option Int := match vs with
  | [.str s, .int .u8 c] => some (Lib.indexByte s.data.toList c.toNat.toUInt8)
  | _ => none
theorem xIndexByteString_ok {E : Env} {f : Nat} {vs : List V} {os : List O} {x : (E.sig f).T} {n : Int} {fn : Func} (hinj : ∀ T, (E.sig f).inj x T = (.int .i64 n, [], [])) (hfin : (E.sig f).fin = []) (h : xIndexByteString vs os = some n)
    (hf : E.P.funcs[f]? = some fn) (hname : (fn.name == "runtime.NumGoroutine") = false) (hb : fn.body.isNone = true) (hn : Extern.findNext fn = none) (he : Extern.find fn = some Extern.BytealgIndexByte.indexByte) : FnOkAt E f vs os x := by
  unfold xIndexByteString at h
  split at h
  · rename_i s c
    obtain rfl := Option.some.inj h
    refine value_ok (c := .int .i64 _) hinj hfin rfl (fun w R loc => rfl) (fun w R loc args hv => ?_)
    obtain ⟨a, b, rfl, ha, hb'⟩ := hv.two
    obtain rfl : a = .string s := ha
    obtain rfl : b = .int .u8 c := hb'
    rw [run_callFunc_extern hf hname hb hn he, Lib.run_indexByteString]
    rfl
  · cases h
end Go.Eng
namespace Go.Eng
set_option linter.unusedSectionVars false
variable [Glb]
theorem named_of {P : Program} (h : (P.funcs.toList.all fun fn => !(fn.body.isSome && fn.name == "runtime.NumGoroutine")) = true) : Named P := by
  intro f fn hf hb
  have hm : fn ∈ P.funcs.toList := by
    obtain ⟨hlt, rfl⟩ := Array.getElem?_eq_some_iff.1 hf
    simp
  have := List.all_eq_true.1 h fn hm
  rw [hb] at this
  simpa using this
end Go.Eng
namespace Go.Eng
set_option linter.unusedSectionVars false
variable [Glb]
/-! ### slices.Clone -/
/-- a function whose answer is the same for a slice that is nil and for one that isn't -/
theorem ro_split {E : Env} (hB : BldOk E) (hn : Named E.P) (hm : E.P.follows .mixedOrders = true) {f k : Nat} {fn : Func} {e : CTs} {xs : List e.D} {x : (E.sig f).T} (hf : E.P.funcs[f]? = some fn)
    (hnil : xs = [] → evFn E (noExt E) f k fn [.nil] [] = some x) (hrn : evFn E (noExt E) f k fn [.rn e xs] [] = some x) : FnOkAt E f [.ro e xs] [] x := by
  have hC : CallsOk E (noExt E) := calls_ok (noExt_ok (E := E)) hB
  have hD := draw_ok (cf := noExt E) hm hC
  intro w R L loc γ args T w1 R1 hT hg hg1 hR hγ hv ho
  have hv0 := hv
  obtain ⟨c, rfl, hc⟩ := hv.one_arg
  obtain ⟨ad, cap, rfl, hrow⟩ := hc
  cases ad with
  | none =>
    have hx0 : xs = [] := by
      have h0 := hrow.2.1 rfl
      have h1 := hrow.1
      exact List.eq_nil_of_length_eq_zero (by omega)
    have hc0 := hrow.2.1 rfl
    subst hx0
    subst hc0
    exact evFn_ok hn hC hD hf (hnil rfl) w R L loc γ _ T w1 R1 hT hg hg1 hR hγ ⟨rfl, trivial⟩ ho
  | some a => exact evFn_ok hn hC hD hf hrn w R L loc γ _ T w1 R1 hT hg hg1 hR hγ ⟨⟨⟨some a, cap, rfl, hrow⟩, a, _, _, rfl⟩, trivial⟩ ho
noncomputable def xClone (e : CTs) (by_ : Int) (vs : List V) (os : List O) : Option (List e.D) := match vs, os with
  | [.ro e' xs], [] => if h : CTs.same e' e = true then chk (ltI (mulZ (addZ (ln ([] : List e.D)) (ln (CTs.cast h xs))) by_) 140737488355328) (some (catL [] (CTs.cast h xs))) else none
  | [.nil], [] => some []
  | _, _ => none
theorem xClone_ok {E : Env} (hB : BldOk E) (hn : Named E.P) (hm : E.P.follows .mixedOrders = true) {f : Nat} {fn : Func} {e : CTs} {by_ : Int} {vs : List V} {os : List O} {x : (E.sig f).T} {y : List e.D} (hf : E.P.funcs[f]? = some fn) (h : xClone e by_ vs os = some y)
    (hnil : y = [] → evFn E (noExt E) f 1 fn [.nil] [] = some x)
    (hrn : ∀ xs : List e.D, chk (ltI (mulZ (addZ (ln ([] : List e.D)) (ln xs)) by_) 140737488355328) (some (catL [] xs)) = some y → evFn E (noExt E) f 1 fn [.rn e xs] [] = some x) : FnOkAt E f vs os x := by
  unfold xClone at h
  split at h
  · rename_i e' xs
    split at h
    · rename_i he
      obtain rfl := CTs.eq_of_same _ _ he
      have h' : chk (ltI (mulZ (addZ (ln ([] : List e'.D)) (ln xs)) by_) 140737488355328) (some (catL [] xs)) = some y := h
      have hy : y = xs := by
        simp only [W1, W2, chk, brB] at h'
        cases hc : ltI (mulZ (addZ (ln ([] : List e'.D)) (ln xs)) by_) 140737488355328 with
        | false =>
          have h2 : chk (ltI (mulZ (addZ (ln ([] : List e'.D)) (ln xs)) by_) 140737488355328) (some (catL [] xs)) = some y := h
          rw [hc] at h2
          cases h2
        | true =>
          have h2 : chk (ltI (mulZ (addZ (ln ([] : List e'.D)) (ln xs)) by_) 140737488355328) (some (catL [] xs)) = some y := h
          rw [hc] at h2
          exact (Option.some.inj h2).symm
      exact ro_split hB hn hm hf (fun h0 => hnil (by rw [hy, h0])) (hrn xs h)
    · cases h
  · obtain rfl := Option.some.inj h
    have hC : CallsOk E (noExt E) := calls_ok (noExt_ok (E := E)) hB
    exact evFn_ok hn hC (draw_ok (cf := noExt E) hm hC) hf (hnil rfl)
  · cases h
end Go.Eng
namespace Go.Eng
set_option linter.unusedSectionVars false
set_option linter.unusedSimpArgs false
set_option linter.unusedVariables false
open Go.RowKit
/-! ### the two tables of unicode/utf8, as package-level variables -/
theorem cell_same {w w' : World} {a : Nat} (h : w'.heap[a]? = w.heap[a]?) (c : Nat) : w'.cell? ⟨a, c, none⟩ = w.cell? ⟨a, c, none⟩ := by
  unfold World.cell?
  rw [h]
theorem utf8Tabs_mono (a b : Nat) (w w' : World) (ha : w'.heap[a]? = w.heap[a]?) (hb : w'.heap[b]? = w.heap[b]?) (h : Lib.Utf8Tabs a b w) : Lib.Utf8Tabs a b w' := by
  unfold Lib.Utf8Tabs at h ⊢
  simp only [cell_same ha, cell_same hb]
  exact h
@[reducible] def Glb.utf8 (a b : Nat) (bT eT : Nat := 0) : Glb := { gb := fun k => k = a ∨ k = b, gi := Lib.Utf8Tabs a b, mono := fun w w' h ht => utf8Tabs_mono a b w w' (h a (.inl rfl)) (h b (.inr rfl)) ht, bT := bT, eT := eT }
/-- .. and a slice that the run was begun with -/
@[reducible] def Glb.utf8A (a b : Nat) (bT eT : Nat) (v : Value) : Glb := { gb := fun k => (k = a ∨ k = b) ∨ ∃ ad l c, v = .slice (some ad) l c ∧ 0 < c ∧ k = ad.block, gi := Lib.Utf8Tabs a b, mono := fun w w' h ht => utf8Tabs_mono a b w w' (h a (.inl (.inl rfl))) (h b (.inl (.inr rfl))) ht, bT := bT, eT := eT, arg := fun _ => v, argb := fun i ad l c h hc => .inr ⟨ad, l, c, h, hc, rfl⟩ }
@[reducible] def Glb.argA (bT eT : Nat) (v : Value) : Glb := { gb := fun k => ∃ ad l c, v = .slice (some ad) l c ∧ 0 < c ∧ k = ad.block, gi := fun _ => True, mono := fun _ _ _ _ => trivial, bT := bT, eT := eT, arg := fun _ => v, argb := fun i ad l c h hc => ⟨ad, l, c, h, hc, rfl⟩ }
theorem cell_in {w : World} {a c : Nat} {v : Value} (h : w.cell? ⟨a, c, none⟩ = some v) : a < w.heap.size := by
  by_cases hc : a < w.heap.size
  · exact hc
  · unfold World.cell? at h
    rw [show w.heap[a]? = none from Array.getElem?_eq_none (by omega)] at h
    cases h
variable [Glb]

/-- a function that is entered, answers plain values and leaves the old world as it was -/
theorem calls_value_ok {E : Env} {f : Nat} {fn : Func} {cd : Code} {vs : List V} {os : List O} {x : (E.sig f).T} {v : V} {c : Value} (hn : Named E.P) (hf : E.P.funcs[f]? = some fn) (hb : fn.body = some cd) (hinj : ∀ T, (E.sig f).inj x T = (v, [], [])) (hfin : (E.sig f).fin = []) (hids : v.ids = [])
    (hrep : ∀ (w : World) (R : Nat → Prop) (loc : Nat → Loc), Rep w R loc v c)
    (hcall : ∀ (w : World) (R : Nat → Prop) (loc : Nat → Loc) (args : Array Value), Glb.gi w → RepL w R loc vs args.toList → Calls E.P f args w fun e w' => e = .returned c ∧ Below w.heap.size w w') : FnOkAt E f vs os x := by
  intro w R L loc γ args T w1 R1 hT hg hg1 hR hγ hv ho
  refine .inl ⟨run_callFunc hn hf hb, (hcall w R loc args hg.1 hv).mono fun e w' he => ?_⟩
  obtain ⟨rfl, bel⟩ := he
  refine ⟨c, rfl, ⟨bel.os, bel.tape, bel.output, bel.size, fun k hk _ => bel.block k hk⟩, loc, fun _ => none, fun k _ _ => rfl, fun b k h => absurd h (by simp), fun b k h => absurd h (by simp), ?_, ?_, ?_, ?_, ?_⟩
  · rw [hinj T]; exact hrep _ _ _
  · rw [hinj T]; intro id hid; rw [hids] at hid; cases hid
  · rw [hinj T, hfin]; rfl
  · rw [hinj T]; exact ⟨fun k o hk => by simp at hk⟩
  · rw [hinj T]; intro k o hk; simp at hk
/-! ### unicode/utf8.DecodeRuneInString -/
noncomputable def xDecodeRune (vs : List V) (os : List O) : Option (Int × Int) := match vs with
  | [.str s] => some (((Lib.decodeGo s).1 : Int), ((Lib.decodeGo s).2 : Int))
  | _ => none
theorem xDecodeRune_ok {E : Env} {f : Nat} {fn : Func} {cd : Code} {vs : List V} {os : List O} {x : (E.sig f).T} {y : Int × Int} (hn : Named E.P) (hf : E.P.funcs[f]? = some fn) (hb : fn.body = some cd)
    (hinj : ∀ T, (E.sig f).inj x T = (.tup [.int .i32 y.1, .int .i64 y.2], [], [])) (hfin : (E.sig f).fin = []) (h : xDecodeRune vs os = some y)
    (hcall : ∀ (s : ByteArray) (w : World), Glb.gi w → Calls E.P f #[.string s] w fun e w' => e = .returned (.tuple #[.int .i32 (Lib.decodeGo s).1, .int .i64 (Lib.decodeGo s).2]) ∧ Below w.heap.size w w') : FnOkAt E f vs os x := by
  unfold xDecodeRune at h
  split at h
  · rename_i s
    obtain rfl := Option.some.inj h
    refine calls_value_ok (c := .tuple #[.int .i32 (Lib.decodeGo s).1, .int .i64 (Lib.decodeGo s).2]) hn hf hb hinj hfin rfl (fun w R loc => ⟨_, rfl, rfl, rfl, trivial⟩) (fun w R loc args hg hv => ?_)
    obtain ⟨a, rfl, ha⟩ := hv.one_arg
    obtain rfl : a = .string s := ha
    exact hcall s w hg
  · cases h
/-! ### internal/bytealg.CountString -/
def xCountString (vs : List V) (os : List O) : Option Int := match vs with
  | [.str s, .int .u8 c] => some (Lib.countByte s.data.toList c.toNat.toUInt8 : Nat)
  | _ => none
theorem xCountString_ok {E : Env} {f : Nat} {vs : List V} {os : List O} {x : (E.sig f).T} {n : Int} {fn : Func} (hinj : ∀ T, (E.sig f).inj x T = (.int .i64 n, [], [])) (hfin : (E.sig f).fin = []) (h : xCountString vs os = some n)
    (hf : E.P.funcs[f]? = some fn) (hname : (fn.name == "runtime.NumGoroutine") = false) (hb : fn.body.isNone = true) (hn : Extern.findNext fn = none) (he : Extern.find fn = some Extern.BytealgCount.count) : FnOkAt E f vs os x := by
  unfold xCountString at h
  split at h
  · rename_i s c
    obtain rfl := Option.some.inj h
    refine value_ok (c := .int .i64 _) hinj hfin rfl (fun w R loc => rfl) (fun w R loc args hv => ?_)
    obtain ⟨a, b, rfl, ha, hb'⟩ := hv.two
    obtain rfl : a = .string s := ha
    obtain rfl : b = .int .u8 c := hb'
    rw [run_callFunc_extern hf hname hb hn he, Lib.run_countString]
    rfl
  · cases h
end Go.Eng
namespace Go.Eng
open Go.RowKit
set_option linter.unusedSimpArgs false
set_option linter.unusedVariables false
theorem set_mid0 {α : Type} (pre suf : List α) (x y : α) : (pre ++ x :: suf).set ((pre.length : Int)).toNat y = pre ++ y :: suf := by simp
theorem next_i {α : Type} (pre : List α) (x : α) (h : pre.length ≤ 4611686018427387904) : addI .i64 (pre.length : Int) 1 = ((pre ++ [x]).length : Int) := by rw [addI_i64 (by omega) (by omega)]; exact len_snoc pre x
theorem mid_lt {α : Type} (pre suf : List α) (x : α) : (pre.length : Int) < ((pre ++ x :: suf).length : Int) := by simp; omega
theorem end_nlt {α : Type} (pre : List α) : ¬ (pre.length : Int) < ((pre ++ []).length : Int) := by simp
theorem nat_ge (n : Nat) : (0 : Int) ≤ (n : Int) := by omega
section
variable {α : Type} {z : α}
/-- a row that is copied, element by element -/
theorem to_loop {L : Nat → Nat → List α → Int → List α → Option (List α)} {one : Nat → α → Option α}
    (hL : ∀ k j a i out, L k (j + 1) a i out = brB (ltI i (ln a)) (chk (leI 0 i) <| chk (ltI i (ln a)) <| optB (one k (rd a i z)) fun r => chk (leI 0 i) <| chk (ltI i (ln out)) <| L k j a (addI .i64 i 1) (setI out i r)) (some out))
    (a : List α) (h1 : ∀ x, x ∈ a → Ev (fun k => one k x) x) (hl : a.length ≤ 4611686018427387904) : Ev2 (fun k j => L k j a 0 (repI (ln a) z)) a := by
  have key : ∀ (suf pre : List α), a = pre ++ suf → Ev2 (fun k j => L k j a (pre.length : Int) (pre ++ List.replicate suf.length z)) a := by
    intro suf
    induction suf with
    | nil =>
      intro pre hp
      refine Ev2.ret fun k j => ?_
      rw [hL]
      subst hp
      simp only [W, W1, W2, List.length_nil, List.replicate_zero]
      rw [if_neg (end_nlt pre)]
    | cons x suf ih =>
      intro pre hp
      have hle : pre.length ≤ 4611686018427387904 := by rw [hp] at hl; simp at hl; omega
      have e := fun k j => hL k j a (pre.length : Int) (pre ++ List.replicate (x :: suf).length z)
      have c1 : (pre.length : Int) < (a.length : Int) := by rw [hp]; exact mid_lt pre suf x
      have c2 : (pre.length : Int) < ((pre ++ z :: List.replicate suf.length z).length : Int) := mid_lt _ _ _
      have hr : rd a (pre.length : Int) z = x := by rw [hp]; exact rd_mid pre suf x z
      simp only [W, W1, W2, W3, List.length_cons, List.replicate_succ, if_pos (nat_ge _), if_pos c1, if_pos c2, hr, set_mid0] at e
      simp only [List.length_cons, List.replicate_succ]
      refine Ev2.step e (Ev2.bind (h1 x (by rw [hp]; simp)) ?_)
      rw [next_i pre x hle]
      have := ih (pre ++ [x]) (by rw [hp]; simp)
      simpa using this
  have := key a [] rfl
  simpa [W2] using this
/-- two rows held against each other -/
theorem eq_loop [DecidableEq α] {L : Nat → Nat → List α → List α → Int → Option Bool} {one : Nat → α → α → Option Bool}
    (hL : ∀ k j a b i, L k (j + 1) a b i = brB (ltI i (ln a)) (chk (leI 0 i) <| chk (ltI i (ln a)) <| chk (leI 0 i) <| chk (ltI i (ln b)) <| optB (one k (rd a i z) (rd b i z)) fun r => brB (notB r) (some false) (L k j a b (addI .i64 i 1))) (some true))
    (h1 : ∀ x y, Ev (fun k => one k x y) (decide (x = y))) (a b : List α) (hl : a.length ≤ 4611686018427387904) (hab : a.length = b.length) : Ev2 (fun k j => L k j a b 0) (decide (a = b)) := by
  have key : ∀ (s1 s2 pre : List α), s1.length = s2.length → pre.length + s1.length ≤ 4611686018427387904 → Ev2 (fun k j => L k j (pre ++ s1) (pre ++ s2) (pre.length : Int)) (decide (s1 = s2)) := by
    intro s1
    induction s1 with
    | nil =>
      intro s2 pre h hp
      obtain rfl : s2 = [] := List.eq_nil_of_length_eq_zero h.symm
      refine Ev2.ret fun k j => ?_
      rw [hL]
      simp only [W, W1, W2]
      rw [if_neg (end_nlt pre)]
      simp
    | cons x s1 ih =>
      intro s2 pre h hp
      cases s2 with
      | nil => simp at h
      | cons y s2 =>
        simp only [List.length_cons] at h hp
        have e := fun k j => hL k j (pre ++ x :: s1) (pre ++ y :: s2) (pre.length : Int)
        simp only [W, W1, W2, W3, if_pos (nat_ge _), if_pos (mid_lt _ _ _), rd_mid] at e
        refine Ev2.step e (Ev2.bind (h1 x y) ?_)
        by_cases hxy : x = y
        · subst hxy
          simp only [decide_true, W1, next_i pre x (by omega)]
          have := ih s2 (pre ++ [x]) (by omega) (by simp; omega)
          rw [show decide (x :: s1 = x :: s2) = decide (s1 = s2) by simp]
          simpa using this
        · simp only [decide_eq_false hxy, W1]
          rw [show decide (x :: s1 = y :: s2) = false by simp [hxy]]
          exact Ev2.now _
  have := key a b [] hab (by simpa using hl)
  simpa using this
/-- the weight of a row's elements -/
def wsum (wt : α → Nat) : List α → Nat
  | [] => 0
  | x :: l => wt x + wsum wt l
theorem wsum_le {wt : α → Nat} {l : List α} {x : α} (h : x ∈ l) : wt x ≤ wsum wt l := by
  induction l with
  | nil => cases h
  | cons y l ih =>
    simp only [wsum]
    rcases List.mem_cons.1 h with rfl | h
    · omega
    · have := ih h; omega
/-- a row that is measured: what is left, or -1 -/
theorem sz_loop {L : Nat → Nat → List α → Int → Int → Option Int} {one : Nat → α → Int → Option Int} {wt : α → Nat}
    (hL : ∀ k j a left i, L k (j + 1) a left i = brB (ltI i (ln a)) (chk (leI 0 i) <| chk (ltI i (ln a)) <| optB (one k (rd a i z) left) fun r => brB (ltI r 0) (some (-1)) (L k j a r (addI .i64 i 1))) (some left))
    (a : List α) (h1 : ∀ (x : α) (n : Nat), x ∈ a → n ≤ 1048576 → Ev (fun k => one k x (n : Int)) (if n < wt x then (-1 : Int) else ((n - wt x : Nat) : Int))) (hl : a.length ≤ 4611686018427387904) (n : Nat) (hn : n ≤ 1048576) :
    Ev2 (fun k j => L k j a (n : Int) 0) (if n < wsum wt a then (-1 : Int) else ((n - wsum wt a : Nat) : Int)) := by
  have key : ∀ (suf pre : List α) (n : Nat), n ≤ 1048576 → a = pre ++ suf → Ev2 (fun k j => L k j a (n : Int) (pre.length : Int)) (if n < wsum wt suf then (-1 : Int) else ((n - wsum wt suf : Nat) : Int)) := by
    intro suf
    induction suf with
    | nil =>
      intro pre n hn hp
      refine Ev2.ret fun k j => ?_
      rw [hL]
      subst hp
      simp only [W, W1, W2, wsum]
      rw [if_neg (end_nlt pre)]
      simp
    | cons x suf ih =>
      intro pre n hn hp
      have hle : pre.length ≤ 4611686018427387904 := by rw [hp] at hl; simp at hl; omega
      have e := fun k j => hL k j a (n : Int) (pre.length : Int)
      have c1 : (pre.length : Int) < (a.length : Int) := by rw [hp]; exact mid_lt pre suf x
      have hr : rd a (pre.length : Int) z = x := by rw [hp]; exact rd_mid pre suf x z
      simp only [W, W1, W2, W3, if_pos (nat_ge _), if_pos c1, hr] at e
      refine Ev2.step e (Ev2.bind (h1 x n (by rw [hp]; simp) hn) ?_)
      rw [show wsum wt (x :: suf) = wt x + wsum wt suf from rfl]
      by_cases c : n < wt x
      · rw [if_pos c, if_pos (show n < wt x + wsum wt suf by omega)]
        simp only [if_pos (show (-1 : Int) < 0 by omega)]
        exact Ev2.now _
      · rw [if_neg c]
        simp only [if_neg (show ¬ ((n - wt x : Nat) : Int) < 0 by omega)]
        rw [next_i pre x hle]
        have := ih (pre ++ [x]) (n - wt x) (by omega) (by rw [hp]; simp)
        rw [show (if n < wt x + wsum wt suf then (-1 : Int) else ((n - (wt x + wsum wt suf) : Nat) : Int)) = if n - wt x < wsum wt suf then (-1 : Int) else ((n - wt x - wsum wt suf : Nat) : Int) by
          by_cases c2 : n - wt x < wsum wt suf
          · rw [if_pos c2, if_pos (by omega)]
          · rw [if_neg c2, if_neg (by omega)]; omega]
        exact this
  have := key a [] n hn rfl
  simpa using this
end
/-! ### bytes of strings -/
theorem numsOf_append (a b : ByteArray) : numsOf (a ++ b) = numsOf a ++ numsOf b := by
  unfold numsOf
  rw [ByteArray.data_append, Array.toList_append, List.map_append]
theorem bytesOf_numsOf (a : ByteArray) : bytesOf (numsOf a) = a := by
  unfold bytesOf numsOf
  have : (a.data.toList.map fun b => ((b.toNat : Int))).map (fun n => UInt8.ofNat n.toNat) = a.data.toList := by
    rw [List.map_map]
    conv => rhs; rw [← List.map_id a.data.toList]
    apply List.map_congr_left
    intro x _
    simp
  rw [this]
theorem numsOf_length (a : ByteArray) : (numsOf a).length = a.size := by
  unfold numsOf
  rw [List.length_map, Array.length_toList]
  rfl
theorem bytesOf_nil : bytesOf [] = ⟨#[]⟩ := rfl
end Go.Eng
namespace Go.Eng
open Go.RowKit
set_option linter.unusedSimpArgs false
set_option linter.unusedVariables false
/-- three numbers of rounds: enough of all -/
def Ev3 {α : Type} (g : Nat → Nat → Nat → Option α) (r : α) : Prop := ∃ n, ∀ k j i, n ≤ k → n ≤ j → n ≤ i → g k j i = some r
theorem Ev3.two {α : Type} {g : Nat → Nat → Nat → Option α} {r : α} (h : Ev3 g r) : Ev2 (fun k j => g k j k) r := h.elim fun n hn => ⟨n, fun k j hk hj => hn k j k hk hj hk⟩
theorem Ev3.ret {α : Type} {g : Nat → Nat → Nat → Option α} {r : α} (h : ∀ k j i, g k j (i + 1) = some r) : Ev3 g r := by
  refine ⟨1, fun k j i _ _ hi => ?_⟩
  cases i with
  | zero => omega
  | succ i => exact h k j i
theorem Ev3.step {α : Type} {g f : Nat → Nat → Nat → Option α} {r : α} (h : ∀ k j i, g k j (i + 1) = f k j i) (hf : Ev3 f r) : Ev3 g r := by
  obtain ⟨n, hn⟩ := hf
  refine ⟨n + 1, fun k j i hk hj hi => ?_⟩
  cases i with
  | zero => omega
  | succ i => exact (h k j i).trans (hn k j i (by omega) (by omega) (by omega))
theorem Ev3.bind {α β : Type} {g : Nat → Option α} {f : Nat → Nat → Nat → α → Option β} {a : α} {r : β} (h : Ev g a) (hf : Ev3 (fun k j i => f k j i a) r) : Ev3 (fun k j i => (g k).bind (f k j i)) r := by
  obtain ⟨n, hn⟩ := h
  obtain ⟨m, hm⟩ := hf
  refine ⟨n + m, fun k j i hk hj hi => ?_⟩
  show (g k).bind (f k j i) = some r
  rw [hn k (by omega)]
  exact hm k j i (by omega) (by omega) (by omega)
theorem Ev3.now {α : Type} (r : α) : Ev3 (fun _ _ _ => some r) r := ⟨0, fun _ _ _ _ _ _ => rfl⟩
/-- what does not look at the innermost rounds -/
theorem Ev2.three {α : Type} {g : Nat → Nat → Option α} {r : α} (h : Ev2 g r) : Ev3 (fun k j _ => g k j) r := h.elim fun n hn => ⟨n, fun k j _ hk hj _ => hn k j hk hj⟩
section
variable {α : Type}
/-- marks, element by element: each takes c numbers -/
def rowsV (v : Nat → α) (c : Nat) : Nat → Nat → List α
  | _, 0 => []
  | k, m + 1 => v k :: rowsV v c (k + c) m
theorem rowsV_len (v : Nat → α) (c : Nat) : ∀ (m k : Nat), (rowsV v c k m).length = m
  | 0, _ => rfl
  | m + 1, k => by simp only [rowsV, List.length_cons, rowsV_len v c m]
theorem mark_loop {L : Nat → Nat → Int → Int → List α → Option (Int × List α)} {v : Nat → α} {c : Nat}
    (hend : ∀ (a : List α) (k0 : Int) k j, L k (j + 1) k0 (a.length : Int) a = some (k0, a))
    (hstep : ∀ (pre suf : List α) (x : α) (k0 : Nat) (r : Int × List α), pre.length ≤ 1048576 → k0 ≤ 100000000 → Ev2 (fun k j => L k j ((k0 + c : Nat) : Int) ((pre ++ [v k0]).length : Int) (pre ++ v k0 :: suf)) r → Ev2 (fun k j => L k j (k0 : Int) (pre.length : Int) (pre ++ x :: suf)) r)
    (a : List α) (k0 : Nat) (ha : a.length ≤ 1048576) (hk : k0 + c * a.length ≤ 100000000) : Ev2 (fun k j => L k j (k0 : Int) 0 a) (((k0 + c * a.length : Nat) : Int), rowsV v c k0 a.length) := by
  have key : ∀ (suf pre : List α) (k0 : Nat), pre.length + suf.length ≤ 1048576 → k0 + c * suf.length ≤ 100000000 → Ev2 (fun k j => L k j (k0 : Int) (pre.length : Int) (pre ++ suf)) (((k0 + c * suf.length : Nat) : Int), pre ++ rowsV v c k0 suf.length) := by
    intro suf
    induction suf with
    | nil =>
      intro pre k0 h1 h2
      refine Ev2.ret fun k j => ?_
      rw [show (pre.length : Int) = ((pre ++ ([] : List α)).length : Int) by simp, hend]
      simp [rowsV]
    | cons x suf ih =>
      intro pre k0 h1 h2
      simp only [List.length_cons] at h1 h2
      have h3 : c * (suf.length + 1) = c * suf.length + c := Nat.mul_succ _ _
      refine hstep pre suf x k0 _ (by omega) (by omega) ?_
      have := ih (pre ++ [v k0]) (k0 + c) (by simp; omega) (by omega)
      simp only [List.length_cons, rowsV, h3]
      rw [show k0 + (c * suf.length + c) = k0 + c + c * suf.length by omega]
      simpa using this
  have := key a [] k0 (by simpa using ha) hk
  simpa using this
theorem held_loop {L : Nat → Nat → List α → Int → Int → Option Int} {v : Nat → α} {c : Nat}
    (hend : ∀ (a : List α) (k0 : Int) k j, L k (j + 1) a k0 (a.length : Int) = some k0)
    (hstep : ∀ (pre suf : List α) (k0 : Nat) (r : Int), pre.length ≤ 1048576 → k0 ≤ 100000000 → Ev2 (fun k j => L k j (pre ++ v k0 :: suf) ((k0 + c : Nat) : Int) ((pre ++ [v k0]).length : Int)) r → Ev2 (fun k j => L k j (pre ++ v k0 :: suf) (k0 : Int) (pre.length : Int)) r)
    (m k0 : Nat) (ha : m ≤ 1048576) (hk : k0 + c * m ≤ 100000000) : Ev2 (fun k j => L k j (rowsV v c k0 m) (k0 : Int) 0) ((k0 + c * m : Nat) : Int) := by
  have key : ∀ (m : Nat) (pre : List α) (k0 : Nat), pre.length + m ≤ 1048576 → k0 + c * m ≤ 100000000 → Ev2 (fun k j => L k j (pre ++ rowsV v c k0 m) (k0 : Int) (pre.length : Int)) ((k0 + c * m : Nat) : Int) := by
    intro m
    induction m with
    | zero =>
      intro pre k0 h1 h2
      refine Ev2.ret fun k j => ?_
      rw [show (pre.length : Int) = ((pre ++ rowsV v c k0 0).length : Int) by simp [rowsV], hend]
      simp
    | succ m ih =>
      intro pre k0 h1 h2
      have h3 : c * (m + 1) = c * m + c := Nat.mul_succ _ _
      simp only [rowsV]
      refine hstep pre _ k0 _ (by omega) (by omega) ?_
      have := ih (pre ++ [v k0]) (k0 + c) (by simp; omega) (by omega)
      rw [show k0 + c * (m + 1) = k0 + c + c * m by omega]
      simpa using this
  have := key m [] k0 (by simpa using ha) hk
  simpa using this
end
end Go.Eng
