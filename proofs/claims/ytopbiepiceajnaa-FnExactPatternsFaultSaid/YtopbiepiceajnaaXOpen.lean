/-
  How the arguments of a law are opened: for each kind of plain data, whatever can be read as data of that type is what the kind says.
-/
import Derived.Test.YtopbiepiceajnaaWWords
import Derived.Deep.Slices
import Derived.ChangeArms
import Derived.ChangeSame
import Derived.WideShapes
set_option linter.unusedVariables false
namespace Go.Proofs.Ytopbiepiceajnaa.XOpen
open Go.RowKit Go.Proofs.YtopbiepiceajnaaW.PrintWords Go.WideShapes Go.ChangeShapes

def Opens {α : Type} (P : Program) (t : TypeId) (d : Kd α) (G : α → Prop) : Prop :=
  d.sz = P.cellsOf t ∧ ∀ (H : Type) (enc : TypeId × Value → H) (w : World) (base : Nat) (spare : Nat → Bool) (held : Bool) (fuel : Nat) (cs : List Value) (x : DataW H × List MemPlace),
    DataW.trod enc P w base spare held fuel t cs = some x → ∃ a, d.K w a cs ∧ G a

theorem opens_int {P : Program} {t : TypeId} {k : IntKind} (ht : P.underlying t = some (.int k)) (hc : P.cellsOf t = 1) : Opens P t (Kd.int k) (fun n => (Lit.int k n).wf = true) :=
  ⟨hc.symm, fun H enc w base spare held fuel cs x h => by
    obtain ⟨n, hcs, _, hw⟩ := DataW.trod_int ht h
    exact ⟨n, hcs, hw⟩⟩
theorem opens_bool {P : Program} {t : TypeId} (ht : P.underlying t = some .bool) (hc : P.cellsOf t = 1) : Opens P t Kd.bool (fun _ => True) :=
  ⟨hc.symm, fun H enc w base spare held fuel cs x h => by
    obtain ⟨b, hcs, _⟩ := DataW.trod_bool ht h
    exact ⟨b, hcs, trivial⟩⟩
theorem opens_string {P : Program} {t : TypeId} (ht : P.underlying t = some .string) (hc : P.cellsOf t = 1) : Opens P t Kd.string (fun s => s.size ≤ maxLen) :=
  ⟨hc.symm, fun H enc w base spare held fuel cs x h => by
    obtain ⟨s, hcs, _, hm⟩ := DataW.trod_string ht h
    exact ⟨s, hcs, hm⟩⟩
theorem choose_list {α : Type} {n : Nat} {p : Nat → α → Prop} (h : ∀ i, i < n → ∃ a, p i a) : ∃ l : List α, l.length = n ∧ ∀ i a, l[i]? = some a → p i a := by
  induction n with
  | zero => exact ⟨[], rfl, fun i a hi => by simp at hi⟩
  | succ n ih =>
    obtain ⟨l, hl, hp⟩ := ih (fun i hi => h i (by omega))
    obtain ⟨a, ha⟩ := h n (by omega)
    refine ⟨l ++ [a], by simp [hl], fun i b hb => ?_⟩
    rcases Nat.lt_or_ge i l.length with hi | hi
    · rw [List.getElem?_append_left hi] at hb
      exact hp i b hb
    · rw [List.getElem?_append_right hi] at hb
      have h0 : i - l.length = 0 := by
        have := (List.getElem?_eq_some_iff.1 hb).1
        simp at this
        omega
      rw [h0] at hb
      have hi' : i = n := by omega
      subst hi'
      simp at hb
      subst hb
      exact ha
theorem opens_slice {α : Type} {P : Program} {t e : TypeId} {d : Kd α} {G : α → Prop} (ht : P.underlying t = some (.slice e)) (hc : P.cellsOf t = 1) (he : Opens P e d G) :
    Opens P t (Kd.slice e d) (fun (l : List α) => l.length ≤ maxLen ∧ ∀ (i : Nat) (a : α), l[i]? = some a → G a) :=
  ⟨hc.symm, fun H enc w base spare held fuel cs x h => by
    obtain ⟨hsz, hop⟩ := he
    rcases Go.Deep.open_slice ht h with ⟨hcs, _⟩ | ⟨a, len, cap, m, n, D, Pl, hcs, _, hl, hm, hmm, _, hi⟩
    · exact ⟨[], ⟨none, 0, hcs, by simp, rfl, by simp, fun hn => absurd hn (by simp)⟩, by simp, by simp⟩
    · have hlm : len ≤ m := by
        rw [hmm]
        split
        · exact hl
        · exact Nat.le_refl _
      obtain ⟨l, hll, hlp⟩ := choose_list (n := len) (p := fun i b => ∃ cs', w.cells? base (a.add (i * P.cellsOf e)) (P.cellsOf e) = some cs' ∧ d.K w b cs' ∧ G b) (fun i hlt => by
        obtain ⟨cs', h1, h2⟩ := hi i (by omega)
        obtain ⟨b, hb, hg⟩ := hop H enc w base spare held n cs' _ h2
        exact ⟨b, cs', h1, hb, hg⟩)
      refine ⟨l, ⟨some a, cap, by rw [hcs, hll], by omega, rfl, by simp only [maxLen] at hm; omega, fun _ => ⟨a, rfl, fun j p hj => ?_⟩⟩, by omega, fun i b hb => (hlp i b hb).choose_spec.2.2⟩
      obtain ⟨cs', h1, h2, _⟩ := hlp j p hj
      obtain ⟨_, hcl, hat⟩ := World.cells?_some h1
      refine ⟨cs', by rw [hcl, hsz], h2, fun i u hu => ?_⟩
      have hil : i < P.cellsOf e := by
        have := (List.getElem?_eq_some_iff.1 hu).1
        omega
      have h3 := hat i hil
      rw [hu, Go.Deep.add_add] at h3
      rw [hsz]
      exact h3⟩
/-- The fields from one on. T: how many cells the struct has. -/
def OpensF {α : Type} (P : Program) (T : Nat) (fs : List Field) (o : Nat) (d : Kd α) (G : α → Prop) : Prop :=
  d.sz + o = T ∧ ∀ (H : Type) (enc : TypeId × Value → H) (w : World) (base : Nat) (spare : Nat → Bool) (held : Bool) (n : Nat) (cs : List Value) (xs : List (DataW H × List MemPlace)), cs.length = T → xs.length = fs.length →
    (∀ (i : Nat) (f : Field), fs[i]? = some f → DataW.trod enc P w base spare held n f.type ((cs.drop f.offset).take (P.cellsOf f.type)) = xs[i]?) → ∃ a, d.K w a (cs.drop o) ∧ G a
theorem opensF_one {α : Type} {P : Program} {T : Nat} {f : Field} {d : Kd α} {G : α → Prop} (h : Opens P f.type d G) (hT : P.cellsOf f.type + f.offset = T) : OpensF P T [f] f.offset d G :=
  ⟨by rw [h.1]; exact hT, fun H enc w base spare held n cs xs hl hx hf => by
    have h0 := hf 0 f rfl
    have hlx : 0 < xs.length := by rw [hx]; simp
    rw [List.getElem?_eq_getElem hlx, List.take_of_length_le (by rw [List.length_drop]; omega)] at h0
    exact h.2 H enc w base spare held n _ _ h0⟩
theorem opensF_cons {α β : Type} {P : Program} {T : Nat} {f : Field} {fs : List Field} {o' : Nat} {d : Kd α} {d' : Kd β} {G : α → Prop} {G' : β → Prop} (h : Opens P f.type d G) (h' : OpensF P T fs o' d' G') (ho : f.offset + P.cellsOf f.type = o') :
    OpensF P T (f :: fs) f.offset (Kd.pair d d') (fun x => G x.1 ∧ G' x.2) :=
  ⟨by show d.sz + d'.sz + f.offset = T; have := h.1; have := h'.1; omega, fun H enc w base spare held n cs xs hl hx hf => by
    have h0 := hf 0 f rfl
    match xs, hx with
    | x :: xs, hx =>
      obtain ⟨a, ha, hg⟩ := h.2 H enc w base spare held n _ _ h0
      obtain ⟨b, hb, hg'⟩ := h'.2 H enc w base spare held n cs xs hl (by simpa using hx) (fun i g hi => by simpa using hf (i + 1) g (by simpa using hi))
      refine ⟨(a, b), ⟨_, _, ?_, ha, hb⟩, hg, hg'⟩
      rw [← ho, ← List.drop_drop, List.take_append_drop]⟩
theorem opens_struct {α : Type} {P : Program} {t : TypeId} {fs : Array Field} {d : Kd α} {G : α → Prop} (ht : P.underlying t = some (.struct fs)) (h : OpensF P (P.cellsOf t) fs.toList 0 d G) : Opens P t d G :=
  ⟨by have := h.1; omega, fun H enc w base spare held fuel cs x hx => by
    obtain ⟨xs, n, _, _, hl, hlx, hf⟩ := DataW.trod_struct ht hx
    have := h.2 H enc w base spare held n cs xs hl (by rw [hlx]; simp) (fun i f hi => hf i f (by simpa using hi))
    simpa using this⟩
theorem opens_iso {α β : Type} {P : Program} {t : TypeId} {d : Kd α} {G : α → Prop} {f : β → α} (g : α → β) (hfg : ∀ a, f (g a) = a) (h : Opens P t d G) : Opens P t (Kd.iso d f) (fun b => G (f b)) :=
  ⟨h.1, fun H enc w base spare held fuel cs x hx => by
    obtain ⟨a, ha, hg⟩ := h.2 H enc w base spare held fuel cs x hx
    exact ⟨g a, by show d.K w (f (g a)) cs; rw [hfg]; exact ha, by show G (f (g a)); rw [hfg]; exact hg⟩⟩
theorem Opens.imp {α : Type} {P : Program} {t : TypeId} {d : Kd α} {G G' : α → Prop} (h : Opens P t d G) (hg : ∀ a, G a → G' a) : Opens P t d G' :=
  ⟨h.1, fun H enc w base spare held fuel cs x hx => by
    obtain ⟨a, ha, h1⟩ := h.2 H enc w base spare held fuel cs x hx
    exact ⟨a, ha, hg a h1⟩⟩
end Go.Proofs.Ytopbiepiceajnaa.XOpen
