/- Marks in order: pushed back one by one, or run by run, the same row. -/
import Derived.Test.YtmmmlfndnoeedaaDoorPStab
namespace Go.Proofs.YtmmmlfndnoeedaaDoor.IX
set_option linter.unusedVariables false
set_option linter.unusedSimpArgs false
section
variable {α : Type} (kf : α → Int)
/-- one more element, pushed back behind all that do not stand behind it (the row turned) -/
def bub (c : α) : List α → List α
  | [] => [c]
  | x :: acc => if kf c ≠ 0 ∧ kf c < kf x then x :: bub c acc else c :: x :: acc
def bubs (acc : List α) : List α → List α
  | [] => acc
  | c :: l => bubs (bub kf c acc) l
variable {kf}
theorem bubs_app : ∀ (a b acc : List α), bubs kf acc (a ++ b) = bubs kf (bubs kf acc a) b
  | [], _, _ => rfl
  | c :: a, b, acc => bubs_app a b _
def hd0 (acc : List α) : Prop := ∀ x r, acc = x :: r → kf x = 0
theorem bub_zero {c : α} (h : kf c = 0) (acc : List α) : bub kf c acc = c :: acc := by
  cases acc with
  | nil => rfl
  | cons x acc => exact if_neg fun g => g.1 h
theorem bub_hd {c : α} {acc : List α} (hc : 0 ≤ kf c) (h : hd0 (kf := kf) acc) : bub kf c acc = c :: acc := by
  cases acc with
  | nil => rfl
  | cons x acc =>
    refine if_neg fun g => ?_
    have := h x acc rfl
    omega
/-- a mark among marks -/
theorem bub_run {c : α} (hc : 0 < kf c) : ∀ (r : List α) (acc : List α), (∀ x ∈ r, 0 < kf x) → hd0 (kf := kf) acc → Srt kf r.reverse →
    ∃ r', bub kf c (r ++ acc) = r' ++ acc ∧ Same kf (r.reverse ++ [c]) r'.reverse ∧ Srt kf r'.reverse ∧ (∀ x ∈ r', 0 < kf x)
  | [], acc, _, h, _ => by
    refine ⟨[c], by rw [List.nil_append, bub_hd (by omega) h]; rfl, Same.refl _, srt_one c, fun x hx => ?_⟩
    rw [List.mem_singleton.1 hx]; exact hc
  | x :: r, acc, hp, h, hs => by
    have hx := hp x List.mem_cons_self
    rw [List.reverse_cons] at hs
    obtain ⟨s1, _, s3⟩ := srt_app.1 hs
    by_cases g : kf c < kf x
    · obtain ⟨r', e1, e2, e3, e4⟩ := bub_run hc r acc (fun y hy => hp y (List.mem_cons_of_mem _ hy)) h s1
      refine ⟨x :: r', ?_, ?_, ?_, fun y hy => ?_⟩
      · show (if kf c ≠ 0 ∧ kf c < kf x then x :: bub kf c (r ++ acc) else c :: x :: (r ++ acc)) = _
        rw [if_pos ⟨by omega, g⟩, e1]; rfl
      · rw [List.reverse_cons, List.reverse_cons, List.append_assoc]
        have t : Same kf ([x] ++ [c]) ([c] ++ [x]) := Same.turn fun p hp q hq => by rw [List.mem_singleton.1 hp, List.mem_singleton.1 hq]; exact g
        have := (Same.refl (kf := kf) r.reverse).app t
        refine this.trans ?_
        rw [← List.append_assoc]
        exact e2.app (Same.refl [x])
      · rw [List.reverse_cons]
        refine srt_app.2 ⟨e3, srt_one x, fun p hp q hq => ?_⟩
        rw [List.mem_singleton.1 hq]
        rcases List.mem_append.1 ((e2.mem p).2 hp) with hp | hp
        · exact s3 p hp x (List.mem_singleton.2 rfl)
        · rw [List.mem_singleton.1 hp]; omega
      · rcases List.mem_cons.1 hy with e | e
        · rw [e]; exact hx
        · exact e4 y e
    · refine ⟨c :: x :: r, ?_, ?_, ?_, fun y hy => ?_⟩
      · show (if kf c ≠ 0 ∧ kf c < kf x then x :: bub kf c (r ++ acc) else c :: x :: (r ++ acc)) = _
        rw [if_neg fun g' => g g'.2]; rfl
      · rw [List.reverse_cons, List.reverse_cons, List.reverse_cons]
        exact Same.refl _
      · rw [List.reverse_cons, List.reverse_cons]
        refine srt_app.2 ⟨hs, srt_one c, fun p hp q hq => ?_⟩
        rw [List.mem_singleton.1 hq]
        rcases List.mem_append.1 hp with hp | hp
        · have := s3 p hp x (List.mem_singleton.2 rfl); omega
        · rw [List.mem_singleton.1 hp]; omega
      · rcases List.mem_cons.1 hy with e | e
        · rw [e]; exact hc
        · exact hp y e
theorem bubs_run : ∀ (u : List α) (r acc : List α), (∀ x ∈ u, 0 < kf x) → (∀ x ∈ r, 0 < kf x) → hd0 (kf := kf) acc → Srt kf r.reverse →
    ∃ r', bubs kf (r ++ acc) u = r' ++ acc ∧ Same kf (r.reverse ++ u) r'.reverse ∧ Srt kf r'.reverse
  | [], r, acc, _, _, _, hs => ⟨r, rfl, by rw [List.append_nil]; exact Same.refl _, hs⟩
  | c :: u, r, acc, hu, hr, h, hs => by
    obtain ⟨r1, e1, e2, e3, e4⟩ := bub_run (hu c List.mem_cons_self) r acc hr h hs
    obtain ⟨r2, f1, f2, f3⟩ := bubs_run u r1 acc (fun y hy => hu y (List.mem_cons_of_mem _ hy)) e4 h e3
    refine ⟨r2, ?_, ?_, f3⟩
    · show bubs kf (bub kf c (r ++ acc)) u = _
      rw [e1, f1]
    · have : r.reverse ++ c :: u = (r.reverse ++ [c]) ++ u := by simp
      rw [this]
      exact (e2.app (Same.refl u)).trans f2
/-- a run of marks behind a point that is none: the run in order -/
theorem bubs_srt {u s acc : List α} (hu : ∀ x ∈ u, 0 < kf x) (h : hd0 (kf := kf) acc) (h1 : Same kf u s) (h2 : Srt kf s) : bubs kf acc u = s.reverse ++ acc := by
  obtain ⟨r', e1, e2, e3⟩ := bubs_run u [] acc hu (fun x hx => by cases hx) h srt_nil
  rw [List.nil_append] at e1
  rw [List.reverse_nil, List.nil_append] at e2
  have : r'.reverse = s := (e2.symm.trans h1).one e3 h2
  rw [e1, ← this, List.reverse_reverse]
/-- each stands not behind the next one, or the next one is no mark -/
def Ordd : List α → Prop
  | [] => True
  | x :: l => (∀ y r, l = y :: r → kf y = 0 ∨ kf x ≤ kf y) ∧ Ordd l
/-- the same of a turned row -/
def OrdR : List α → Prop
  | [] => True
  | x :: l => (∀ y r, l = y :: r → kf x = 0 ∨ kf y ≤ kf x) ∧ OrdR l
theorem bub_ord {c : α} (hc : 0 ≤ kf c) : ∀ {acc : List α}, OrdR (kf := kf) acc → OrdR (kf := kf) (bub kf c acc)
  | [], _ => ⟨fun y r h => (by cases h), trivial⟩
  | x :: acc, h => by
    show OrdR (if kf c ≠ 0 ∧ kf c < kf x then x :: bub kf c acc else c :: x :: acc)
    by_cases g : kf c ≠ 0 ∧ kf c < kf x
    · rw [if_pos g]
      refine ⟨fun y r hy => ?_, bub_ord hc h.2⟩
      cases acc with
      | nil =>
        obtain ⟨rfl, _⟩ := List.cons.inj hy
        right; omega
      | cons z acc =>
        have hz := h.1 z acc rfl
        have hy : (if kf c ≠ 0 ∧ kf c < kf z then z :: bub kf c acc else c :: z :: acc) = y :: r := hy
        by_cases g2 : kf c ≠ 0 ∧ kf c < kf z
        · rw [if_pos g2] at hy
          obtain ⟨rfl, _⟩ := List.cons.inj hy
          exact hz
        · rw [if_neg g2] at hy
          obtain ⟨rfl, _⟩ := List.cons.inj hy
          right; omega
    · rw [if_neg g]
      refine ⟨fun y r hy => ?_, h⟩
      obtain ⟨rfl, _⟩ := List.cons.inj hy
      omega
theorem bubs_ord : ∀ (l : List α) {acc : List α}, (∀ x ∈ l, 0 ≤ kf x) → OrdR (kf := kf) acc → OrdR (kf := kf) (bubs kf acc l)
  | [], _, _, h => h
  | c :: l, acc, hl, h => bubs_ord l (fun x hx => hl x (List.mem_cons_of_mem _ hx)) (bub_ord (hl c List.mem_cons_self) h)
theorem ordR_app : ∀ {a b : List α}, OrdR (kf := kf) (a ++ b) → OrdR (kf := kf) b
  | [], _, h => h
  | _ :: a, _, h => ordR_app (a := a) h.2
theorem ordd_rev_go : ∀ (a l : List α), OrdR (kf := kf) a → Ordd (kf := kf) l → (∀ x a' y l', a = x :: a' → l = y :: l' → kf y = 0 ∨ kf x ≤ kf y) → Ordd (kf := kf) (a.reverse ++ l)
  | [], l, _, h, _ => h
  | x :: a, l, h1, h2, h3 => by
    rw [List.reverse_cons, List.append_assoc]
    refine ordd_rev_go a (x :: l) h1.2 ⟨fun y r hy => h3 x a y r rfl hy, h2⟩ fun p a' q l' hp hq => ?_
    obtain ⟨rfl, rfl⟩ := List.cons.inj hq
    exact h1.1 p a' hp
theorem ordd_rev {a : List α} (h : OrdR (kf := kf) a) : Ordd (kf := kf) a.reverse := by
  have := ordd_rev_go a [] h trivial fun x a' y l' _ hl => by cases hl
  rwa [List.append_nil] at this
end
end Go.Proofs.YtmmmlfndnoeedaaDoor.IX
