/- Plain lemmas: what the evaluator's words say; answers for all rounds from some number on. -/
import Derived.Test.YtkghicadebeceaaDoorE28
import Derived.Laws.BitsLemmas
import Derived.Laws.Strings
namespace Go.Eng
open Go.RowKit
set_option linter.unusedSimpArgs false
set_option linter.unusedVariables false

/-! ### rounds -/
/-- for all numbers of rounds from some number on the answer is r -/
def Ev {α : Type} (g : Nat → Option α) (r : α) : Prop := ∃ n, ∀ k, n ≤ k → g k = some r
theorem Ev.of {α : Type} {g : Nat → Option α} {r : α} (h : ∀ k, g k = some r) : Ev g r := ⟨0, fun k _ => h k⟩
theorem Ev.now {α : Type} (r : α) : Ev (fun _ => some r) r := ⟨0, fun _ _ => rfl⟩
theorem Ev.congr {α : Type} {g f : Nat → Option α} {r : α} (h : ∀ k, g k = f k) (hf : Ev f r) : Ev g r := hf.elim fun n hn => ⟨n, fun k hk => (h k).trans (hn k hk)⟩
/-- one round more -/
theorem Ev.step {α : Type} {g f : Nat → Option α} {r : α} (h : ∀ k, g (k + 1) = f k) (hf : Ev f r) : Ev g r := by
  obtain ⟨n, hn⟩ := hf
  refine ⟨n + 1, fun k hk => ?_⟩
  cases k with
  | zero => omega
  | succ k => exact (h k).trans (hn k (by omega))
theorem Ev.ret {α : Type} {g : Nat → Option α} {r : α} (h : ∀ k, g (k + 1) = some r) : Ev g r := Ev.step (f := fun _ => some r) h (Ev.now r)
theorem Ev.bind {α β : Type} {g : Nat → Option α} {f : Nat → α → Option β} {a : α} {r : β} (h : Ev g a) (hf : Ev (fun k => f k a) r) : Ev (fun k => (g k).bind (f k)) r := by
  obtain ⟨n, hn⟩ := h
  obtain ⟨m, hm⟩ := hf
  refine ⟨n + m, fun k hk => ?_⟩
  show (g k).bind (f k) = some r
  rw [hn k (by omega)]
  exact hm k (by omega)
theorem Ev.opt {α β : Type} {g : Nat → Option α} {f : Nat → α → Option β} {a : α} {r : β} (h : Ev g a) (hf : Ev (fun k => f k a) r) : Ev (fun k => optB (g k) (f k)) r := h.bind hf
theorem Ev.uniq {α : Type} {g : Nat → Option α} {r r' : α} (h : Ev g r) (h' : Ev g r') : r = r' := by
  obtain ⟨n, h⟩ := h
  obtain ⟨m, h'⟩ := h'
  have h1 := h (max n m) (by omega)
  have h2 := h' (max n m) (by omega)
  rw [h1] at h2
  exact Option.some.inj h2
theorem Ev.has {α : Type} {g : Nat → Option α} {r : α} (h : Ev g r) : ∃ k, g k = some r := h.elim fun n hn => ⟨n, hn n (Nat.le_refl _)⟩
/-- all of finitely many at once -/
theorem Ev.all_lt {α : Type} {g : Nat → Nat → Option α} {r : Nat → α} (n : Nat) (h : ∀ i, i < n → Ev (g i) (r i)) : ∃ m, ∀ k, m ≤ k → ∀ i, i < n → g i k = some (r i) := by
  induction n with
  | zero => exact ⟨0, fun k _ i hi => by omega⟩
  | succ n ih =>
    obtain ⟨m1, h1⟩ := ih fun i hi => h i (by omega)
    obtain ⟨m2, h2⟩ := h n (by omega)
    refine ⟨m1 + m2, fun k hk i hi => ?_⟩
    rcases Nat.lt_or_ge i n with h3 | h3
    · exact h1 k (by omega) i h3
    · obtain rfl : i = n := by omega
      exact h2 k (by omega)
/-- a loop's rounds are counted apart: enough of both -/
def Ev2 {α : Type} (g : Nat → Nat → Option α) (r : α) : Prop := ∃ n, ∀ k j, n ≤ k → n ≤ j → g k j = some r
theorem Ev2.ev {α : Type} {g : Nat → Nat → Option α} {r : α} (h : Ev2 g r) : Ev (fun k => g k k) r := h.elim fun n hn => ⟨n, fun k hk => hn k k hk hk⟩
theorem Ev2.ret {α : Type} {g : Nat → Nat → Option α} {r : α} (h : ∀ k j, g k (j + 1) = some r) : Ev2 g r := by
  refine ⟨1, fun k j _ hj => ?_⟩
  cases j with
  | zero => omega
  | succ j => exact h k j
theorem Ev2.step {α : Type} {g f : Nat → Nat → Option α} {r : α} (h : ∀ k j, g k (j + 1) = f k j) (hf : Ev2 f r) : Ev2 g r := by
  obtain ⟨n, hn⟩ := hf
  refine ⟨n + 1, fun k j hk hj => ?_⟩
  cases j with
  | zero => omega
  | succ j => exact (h k j).trans (hn k j (by omega) (by omega))
theorem Ev2.now {α : Type} (r : α) : Ev2 (fun _ _ => some r) r := ⟨0, fun _ _ _ _ => rfl⟩
theorem Ev2.congr {α : Type} {g f : Nat → Nat → Option α} {r : α} (h : ∀ k j, g k j = f k j) (hf : Ev2 f r) : Ev2 g r := hf.elim fun n hn => ⟨n, fun k j hk hj => (h k j).trans (hn k j hk hj)⟩
theorem Ev2.bind {α β : Type} {g : Nat → Option α} {f : Nat → Nat → α → Option β} {a : α} {r : β} (h : Ev g a) (hf : Ev2 (fun k j => f k j a) r) : Ev2 (fun k j => (g k).bind (f k j)) r := by
  obtain ⟨n, hn⟩ := h
  obtain ⟨m, hm⟩ := hf
  refine ⟨n + m, fun k j hk hj => ?_⟩
  show (g k).bind (f k j) = some r
  rw [hn k (by omega)]
  exact hm k j (by omega) (by omega)
/-- what does not look at the loop's rounds -/
theorem Ev.two {α : Type} {g : Nat → Option α} {r : α} (h : Ev g r) : Ev2 (fun k _ => g k) r := h.elim fun n hn => ⟨n, fun k _ hk _ => hn k hk⟩

/-! ### words -/
theorem toList_inj {a b : ByteArray} (h : a.toList = b.toList) : a = b := by
  rw [ByteArray.toList_eq, ByteArray.toList_eq] at h
  exact ByteArray.ext (Array.toList_inj.1 h)
theorem bytesEq_dec (a b : ByteArray) : bytesEq a b = decide (a = b) := by
  rw [bytesEq_eq, Bool.eq_iff_iff, beq_iff_eq, decide_eq_true_eq]
  exact ⟨toList_inj, fun h => by rw [h]⟩
theorem brB_dec {α : Type} (p : Prop) [Decidable p] (x y : α) : brB (decide p) x y = if p then x else y := by
  unfold brB
  by_cases h : p
  · rw [if_pos h, decide_eq_true h]; rfl
  · rw [if_neg h, decide_eq_false h]; rfl
theorem chk_dec {α : Type} (p : Prop) [Decidable p] (x : Option α) : chk (decide p) x = if p then x else none := brB_dec p x none
theorem brB_not {α : Type} (c : Bool) (x y : α) : brB (!c) x y = brB c y x := by cases c <;> rfl
theorem chk_not {α : Type} (c : Bool) (x : Option α) : chk (!c) x = brB c none x := by cases c <;> rfl
theorem brB_t {α : Type} {c : Bool} (h : c = true) (x y : α) : brB c x y = x := by subst h; rfl
theorem brB_f {α : Type} {c : Bool} (h : c = false) (x y : α) : brB c x y = y := by subst h; rfl
theorem brB_b {α : Type} (c : Bool) (x y : α) : brB c x y = if c = true then x else y := by cases c <;> rfl
/-- the evaluator's words, plainly -/
theorem W : (∀ a b, ltI a b = decide (a < b)) ∧ (∀ a b, leI a b = decide (a ≤ b)) ∧ (∀ a b, eqI a b = decide (a = b)) ∧ (∀ a b, bytesEq a b = decide (a = b)) ∧ (∀ a b, strLess a b = Op.bytesLess a.toList b.toList) ∧
    (∀ b, notB b = !b) ∧ (∀ a b, orB a b = (a || b)) ∧ (∀ a b, eqB a b = (a == b)) ∧ (∀ a b, addZ a b = a + b) ∧ (∀ a b, subZ a b = a - b) ∧ (∀ a b, mulZ a b = a * b) ∧ (∀ s, sz s = (ByteArray.size s : Int)) ∧
    (∀ a b, catS a b = a ++ b) ∧ (∀ s l h, subs s l h = s.extract l.toNat h.toNat) :=
  ⟨ltI_eq, leI_eq, eqI_eq, bytesEq_dec, strLess_eq, fun _ => rfl, fun _ _ => rfl, fun _ _ => rfl, addZ_eq, subZ_eq, mulZ_eq, fun _ => rfl, fun _ _ => rfl, fun _ _ _ => rfl⟩
theorem W1 {α : Type} : (∀ (p : Prop) [Decidable p] (x y : α), brB (decide p) x y = if p then x else y) ∧ (∀ (p : Prop) [Decidable p] (x : Option α), chk (decide p) x = if p then x else none) ∧ (∀ (c : Bool) (x y : α), brB (!c) x y = brB c y x) ∧
    (∀ (c : Bool) (x : Option α), chk (!c) x = brB c none x) ∧ (∀ x y : α, brB true x y = x) ∧ (∀ x y : α, brB false x y = y) :=
  ⟨brB_dec, chk_dec, brB_not, chk_not, fun _ _ => rfl, fun _ _ => rfl⟩
theorem W2 {α : Type} : (∀ xs : List α, ln xs = (xs.length : Int)) ∧ (∀ xs ys : List α, catL xs ys = xs ++ ys) ∧ (∀ (xs : List α) n, takeI xs n = xs.take n.toNat) ∧ (∀ (xs : List α) n, dropI xs n = xs.drop n.toNat) ∧
    (∀ (xs : List α) i x, setI xs i x = xs.set i.toNat x) ∧ (∀ n (z : α), repI n z = List.replicate n.toNat z) :=
  ⟨fun _ => rfl, fun _ _ => rfl, fun _ _ => rfl, fun _ _ => rfl, fun _ _ _ => rfl, fun _ _ => rfl⟩
theorem W3 {α β : Type} (x : Option α) (k : α → Option β) : optB x k = x.bind k := rfl
theorem rd_nat {α : Type} (xs : List α) (i : Nat) (z : α) (h : i < xs.length) : rd xs (i : Int) z = xs[i] := by simp [rd, h]
theorem rd_at {α : Type} {xs : List α} {i : Nat} {x : α} (z : α) (h : xs[i]? = some x) : rd xs (i : Int) z = x := by simp [rd, h]
theorem rd_mid {α : Type} (pre suf : List α) (x z : α) : rd (pre ++ x :: suf) (pre.length : Int) z = x := by simp [rd]
theorem set_mid {α : Type} (pre suf : List α) (x y : α) : (pre ++ x :: suf).set ((pre.length : Int)).toNat y = (pre ++ [y]) ++ suf := by simp
theorem len_snoc {α : Type} (pre : List α) (x : α) : (pre.length : Int) + 1 = ((pre ++ [x]).length : Int) := by simp
theorem bt_nat (s : ByteArray) (i : Nat) : bt s (i : Int) = ((s.data.toList.getD i 0).toNat : Int) := by simp [bt]
theorem wrap_i64 {a : Int} (h1 : -9223372036854775808 ≤ a) (h2 : a ≤ 9223372036854775807) : IntKind.i64.wrap a = a := by
  rw [IntKind.wrap_i64]
  omega
theorem addI_i64 {a b : Int} (h1 : -9223372036854775808 ≤ a + b) (h2 : a + b ≤ 9223372036854775807) : addI .i64 a b = a + b := by rw [addI_eq, wrap_i64 h1 h2]
theorem subI_i64 {a b : Int} (h1 : -9223372036854775808 ≤ a - b) (h2 : a - b ≤ 9223372036854775807) : subI .i64 a b = a - b := by rw [subI_eq, wrap_i64 h1 h2]
theorem mulI_i64 {a b : Int} (h1 : -9223372036854775808 ≤ a * b) (h2 : a * b ≤ 9223372036854775807) : mulI .i64 a b = a * b := by rw [mulI_eq, wrap_i64 h1 h2]
theorem wrI_i64 {a : Int} (h1 : -9223372036854775808 ≤ a) (h2 : a ≤ 9223372036854775807) : wrI .i64 a = a := by rw [wrI_eq, wrap_i64 h1 h2]
theorem wf64 {n : Int} (h : (Lit.int .i64 n).wf = true) : -9223372036854775808 ≤ n ∧ n ≤ 9223372036854775807 := by
  simp only [Lit.wf, IntKind.min, IntKind.max, IntKind.signed, IntKind.bits, Bool.and_eq_true, decide_eq_true_eq, if_true] at h
  omega
end Go.Eng
