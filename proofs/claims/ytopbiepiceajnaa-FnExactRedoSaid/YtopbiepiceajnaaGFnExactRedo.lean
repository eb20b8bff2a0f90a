/- What is known of the arguments of FnExactRedo: that they can be read as data. -/
import Derived.Test.YtopbiepiceajnaaQx10
import Derived.Test.YtopbiepiceajnaaXOpen
namespace Go.Proofs.Ytopbiepiceajnaa.GFnExactRedo
open Go.RowKit Go.Proofs.Ytopbiepiceajnaa.XOpen Go.Proofs.Ytopbiepiceajnaa.Q Go.Proofs.YtopbiepiceajnaaW.PrintWords
set_option linter.unusedVariables false
def G96 (x : S96) : Prop := ((Lit.int .i64 x.f0).wf = true) ∧ ((x.f1).size ≤ maxLen) ∧ ((x.f2).size ≤ maxLen) ∧ ((Lit.int .i64 x.f3).wf = true)
theorem opens96 : Opens Try.prog 96 k96 G96 := (opens_iso (fun a => (⟨a.1, a.2.1, a.2.2.1, a.2.2.2⟩ : S96)) (fun _ => rfl) (opens_struct Try.underlying96 (opensF_cons (opens_int Try.underlying2 (by kernel_rfl)) (opensF_cons (opens_string Try.underlying9 (by kernel_rfl)) (opensF_cons (opens_string Try.underlying9 (by kernel_rfl)) (opensF_one (opens_int Try.underlying2 (by kernel_rfl)) (by kernel_rfl)) (by kernel_rfl)) (by kernel_rfl)) (by kernel_rfl)))).imp (fun _ h => h)
/-- The plain statement. -/
def Pure : Prop := ∀ (a0_0 : ByteArray) (l0_1 : List (S96)) (a0_2 : Int), ((a0_0).size ≤ maxLen) → ((l0_1).length ≤ maxLen ∧ ∀ (i : Nat) a, (l0_1)[i]? = some a → G96 a) → ((Lit.int .i64 a0_2).wf = true) → ∃ k, laws_FnExactRedo.f k a0_0 l0_1 a0_2 = some true
end Go.Proofs.Ytopbiepiceajnaa.GFnExactRedo
