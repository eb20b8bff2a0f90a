/- Loops and joins of a function, by their place in its code. -/
import Derived.Test.YtkghicadebeceaaDoorE27
namespace Go.Eng
noncomputable section
set_option linter.unusedVariables false

def atK {ρ : Type} (E : Env) (cf : Cf E) (f m k : Nat) (J : Code → (Exit → St → Option ρ) → Option ρ) : Code → List Bool → List Nat → (Exit → St → Option ρ) → Option ρ
  | .seq a b, p, ks, K => match p with
    | [] => J (.seq a b) K
    | false :: p => atK E cf f m k J a p ks (seqKont m (E.joinHint f (keyOf b)) (evK E cf f m k b) K)
    | true :: p => atK E cf f m k J b p ks K
  | .cond c a b, p, ks, K => match p with
    | [] => J (.cond c a b) K
    | false :: p => atK E cf f m k J a p ks K
    | true :: p => atK E cf f m k J b p ks K
  | .block id b, p, ks, K => match p with
    | [] => J (.block id b) K
    | _ :: p => atK E cf f m k J b p ks (blockKont id K)
  | .loop b, p, ks, K => match p, ks with
    | [], _ => J (.loop b) K
    | _ :: p, kk :: ks => atK E cf f m k J b p ks (lpK (loopK (evK E cf f m k b) (nrmK m (E.loopHint f (keyOf b))) kk) (nrmK m (E.loopHint f (keyOf b))) K)
    | _, _ => none
  | c, _, _, K => J c K
def bodyAt {ρ : Type} (E : Env) (f : Nat) (g : Code → List ResultVar → Option ρ) : Option ρ := match E.P.funcs[f]? with
  | some fn => match fn.body with
    | some c => g c fn.results.toList
    | none => none
  | none => none
/-- the loop at a place, from a state on -/
def loopAt (E : Env) (ext : Cf E) (f m k : Nat) (p : List Bool) (ks : List Nat) (kk : Nat) (tm : Nat → V) (ob : Ob) : Option (E.sig f).T :=
  bodyAt E f fun c rs => atK E (evF E ext k) f m k (fun c K => match c with
    | .loop b => loopK (evK E (evF E ext k) f m k b) (nrmK m (E.loopHint f (keyOf b))) kk ⟨tm, ob⟩ K
    | _ => none) c p ks (finK E f rs)
/-- the code at a place, from a state on -/
def joinAt (E : Env) (ext : Cf E) (f m k : Nat) (p : List Bool) (ks : List Nat) (tm : Nat → V) (ob : Ob) : Option (E.sig f).T :=
  bodyAt E f fun c rs => atK E (evF E ext k) f m k (fun c K => joinB (evK E (evF E ext k) f m k c ⟨tm, ob⟩ K)) c p ks (finK E f rs)
def joinRaw (E : Env) (ext : Cf E) (f m k : Nat) (p : List Bool) (ks : List Nat) (tm : Nat → V) (ob : Ob) : Option (E.sig f).T :=
  bodyAt E f fun c rs => atK E (evF E ext k) f m k (fun c K => evK E (evF E ext k) f m k c ⟨tm, ob⟩ K) c p ks (finK E f rs)
theorem joinAt_eq (E : Env) (ext : Cf E) (f m k : Nat) (p : List Bool) (ks : List Nat) (tm : Nat → V) (ob : Ob) : joinAt E ext f m k p ks tm ob = joinRaw E ext f m k p ks tm ob := by
  unfold joinAt joinRaw
  simp only [joinB_eq]
/-- a test that holds, else nothing -/
def chk {α : Type} (c : Bool) (a : Option α) : Option α := brB c a none
def lookN {α : Type} (d : α) (n : Nat) : List (Nat × α) → α
  | [] => d
  | (m, a) :: l => bif Nat.beq n m then a else lookN d n l
def memb (n : Nat) : List Nat → Bool
  | [] => false
  | m :: l => bif Nat.beq n m then true else memb n l
def lookT (n j : Nat) (l : List (Nat × List (Nat × Hint))) : Option Hint := lookN none j ((lookN [] n l).map fun p => (p.1, some p.2))
end
end Go.Eng
