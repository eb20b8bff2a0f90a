/- Every operation that is no call of a function. -/
import Derived.Laws.StructEq
import Derived.Laws.Strings
import Derived.Test.YtkghicadebeceaaDoorE12
namespace Go.Eng
set_option linter.unusedSectionVars false
variable [Glb]
open Go.RowKit
set_option linter.unusedSimpArgs false
set_option linter.unusedVariables false

theorem Eff.exec_bind {α β : Type} (e : Eff α) (g : α → Eff β) : ∀ (ob : Ob) (f : Fp) (r : β × Ob × Fp), (e.bind g).exec ob f = some r → ∃ v ob' f', e.exec ob f = some (v, ob', f') ∧ (g v).exec ob' f' = some r := by
  induction e with
  | ret a => exact fun ob f r h => ⟨a, ob, f, rfl, h⟩
  | fail => exact fun ob f r h => by simp [Eff.bind, Eff.exec] at h
  | ite c t e iht ihe =>
    intro ob f r h
    cases c with
    | true => exact iht ob f r h
    | false => exact ihe ob f r h
  | get id k ih =>
    intro ob f r h
    simp only [Eff.bind, Eff.exec] at h ⊢
    cases ho : ob id with
    | none => rw [ho] at h; cases h
    | some o => rw [ho] at h; exact ih o ob _ r h
  | set id o k ih =>
    intro ob f r h
    simp only [Eff.bind, Eff.exec] at h ⊢
    cases ho : ob id with
    | none => rw [ho] at h; cases h
    | some _ => rw [ho] at h; exact ih _ _ r h
  | new id o k ih =>
    intro ob f r h
    simp only [Eff.bind, Eff.exec] at h ⊢
    cases ho : ob id with
    | some _ => rw [ho] at h; cases h
    | none => rw [ho] at h; exact ih _ _ r h
  | opt x k ih =>
    intro ob f r h
    simp only [Eff.bind, Eff.exec] at h ⊢
    cases x with
    | none => cases h
    | some b => exact ih b ob f r h

section
variable {E : Env} {cf : Cf E} {w0 w w' : World} {R L : Nat → Prop} {N : Fx} {st : St} {a : Act} {loc : Nat → Loc} {γ : Nat → Option Nat}

theorem equalIn_nil {P : Program} (d : Nat) (t e : TypeId) (x : Option Addr) (l c : Nat) (h : P.underlying t = some (.slice e)) :
    (Op.equalIn (d + 1) t (.slice x l c) (.slice none 0 0)).run P w = .ok x.isNone w := by
  cases x <;> simp [Op.equalIn, run_underlying h]
theorem equalIn_bool {P : Program} (d : Nat) (t : TypeId) (x y : Bool) (h : P.underlying t = some .bool) : (Op.equalIn (d + 1) t (.bool x) (.bool y)).run P w = .ok (x == y) w := by
  simp [Op.equalIn, run_underlying h]
theorem nilE_run {P : Program} {x : V} {cx : Value} {b : Bool} {ob' : Ob} {f f' : Fp} (h : (nilE x).exec st.ob f = some (b, ob', f')) (hs : Sim w0 R L N st a w loc γ) (hx : Rep w0 R loc x cx) :
    ob' = st.ob ∧ f'.ns = f.ns ∧ ∃ ad l c, cx = .slice ad l c ∧ ad.isNone = b := by
  unfold nilE at h
  split at h
  · simp only [Eff.exec, Option.some.injEq, Prod.mk.injEq] at h
    obtain ⟨rfl, rfl, rfl⟩ := h
    exact ⟨rfl, rfl, none, 0, 0, hx, rfl⟩
  · rename_i id
    simp only [Eff.exec] at h
    split at h
    · rename_i o ho
      split at h
      · rename_i b _ _
        simp only [Eff.exec, Option.some.injEq, Prod.mk.injEq] at h
        obtain ⟨rfl, rfl, rfl⟩ := h
        obtain ⟨_, _, _, _, _, k⟩ := hs.ob id _ ho
        exact ⟨rfl, rfl, _, _, _, hx, by
          cases b with
          | true => simp only [nilOk] at k; rw [k]; rfl
          | false =>
            simp only [nilOk] at k
            cases h : (loc id).a with
            | none => exact absurd h k
            | some _ => rfl⟩
      · simp [Eff.exec] at h
    · cases h
  · simp only [Eff.exec, Option.some.injEq, Prod.mk.injEq] at h
    obtain ⟨rfl, rfl, rfl⟩ := h
    obtain ⟨_, ad, l, c, hc⟩ := hx
    exact ⟨rfl, rfl, some ad, l, c, hc, rfl⟩
  · simp [Eff.exec] at h
theorem isNil_rep {v : V} {c : Value} (h : isNil v = true) (hr : Rep w0 R loc v c) : c = .slice none 0 0 := by
  cases v with
  | nil => exact hr
  | _ => simp [isNil] at h
theorem guard_slice {P : Program} {op : BinOp} {t : TypeId} {x y : Option Addr} {l c l' c' : Nat} {xo yo : Operand} : (eqGuard op t xo yo (.slice x l c) (.slice y l' c')).run P w = .ok () w := by
  simp only [eqGuard]
  split <;> rfl
theorem guard_bool {P : Program} {op : BinOp} {t : TypeId} {x y : Bool} {xo yo : Operand} : (eqGuard op t xo yo (.bool x) (.bool y)).run P w = .ok () w := by
  simp only [eqGuard]
  split <;> rfl
theorem guard_agg {P : Program} {op : BinOp} {t : TypeId} {x y : Array Value} {xo yo : Operand} (h : P.eqGuardType P.depth t = false) : (eqGuard op t xo yo (.agg x) (.agg y)).run P w = .ok () w := by
  simp only [eqGuard]
  split <;> first | rfl | simp [h]
theorem beq_bytes (a b : ByteArray) : (a == b) = bytesEq a b := by
  have e : (a == b) = (a.data == b.data) := rfl
  rw [e, bytesEq_eq, ByteArray.toList_eq, ByteArray.toList_eq, Bool.eq_iff_iff, beq_iff_eq, beq_iff_eq, Array.toList_inj]
theorem eqTV_run {P : Program} {t : TypeId} {x y : V} {cx cy : Value} {r : Bool} (d : Nat) (h : eqTV P t x y = some r) (hx : Rep w0 R loc x cx) (hy : Rep w0 R loc y cy) : tagg P t = some false ∧ (Op.equalIn (d + 1) t cx cy).run P w = .ok r w := by
  unfold eqTV at h
  split at h
  · rename_i k0 k n k' m hu
    have hx : cx = .int k n := hx
    have hy : cy = .int k' m := hy
    subst hx hy
    split at h
    · rename_i hk
      subst hk
      obtain rfl := Option.some.inj h
      exact ⟨by simp [tagg, hu], by simp [Op.equalIn, run_underlying hu, eqI_eq, BEq.beq]⟩
    · cases h
  · rename_i n m hu
    have hx : cx = .bool n := hx
    have hy : cy = .bool m := hy
    subst hx hy
    obtain rfl := Option.some.inj h
    exact ⟨by simp [tagg, hu], by rw [equalIn_bool d t n m hu]; rfl⟩
  · rename_i n m hu
    have hx : cx = .string n := hx
    have hy : cy = .string m := hy
    subst hx hy
    obtain rfl := Option.some.inj h
    exact ⟨by simp [tagg, hu], by simp [Op.equalIn, run_underlying hu, beq_bytes]⟩
  · cases h
theorem eqFields_run {P : Program} {xs ys : List V} {cx cy : Array Value} (d : Nat) (hx : RepL w0 R loc xs cx.toList) (hy : RepL w0 R loc ys cy.toList) : ∀ (fs : List Field) (r : Bool), eqFieldsV P xs ys fs = some r → (Op.eqFields (d + 1) cx cy fs).run P w = .ok r w
  | [], r, h => by
    obtain rfl := Option.some.inj h
    simp [Op.eqFields]
  | f :: fs, r, h => by
    simp only [eqFieldsV] at h
    cases hn : f.name == "_" with
    | true => rw [hn] at h; cases h
    | false =>
      rw [hn] at h
      simp only [cond_false] at h
      split at h
      case h_2 => cases h
      rename_i x y h1 h2
      split at h
      case h_2 => cases h
      rename_i r1 r2 h3 h4
      obtain rfl := Option.some.inj h
      obtain ⟨c1, k1, k2⟩ := hx.get h1
      obtain ⟨c2, k3, k4⟩ := hy.get h2
      obtain ⟨g1, g2⟩ := eqTV_run (w := w) d h3 k2 k4
      have hr := eqFields_run d hx hy fs r2 h4
      have hn' : f.name ≠ "_" := by simpa using hn
      rw [Op.eqFields]
      simp only [if_pos hn', Sem.run_bind, (part_run g1).2 rfl _ k1, (part_run g1).2 rfl _ k3, g2, Result.andThen_ok]
      cases r1
      · simp [andB]
      · simpa [andB] using hr
theorem eqStruct_run {P : Program} {t : TypeId} {fs : Array Field} {x y : V} {cx cy : Value} {b : Bool} {ob ob' : Ob} {f f' : Fp} (hu : P.underlying t = some (.struct fs)) (h : (eqStructE P t fs.toList x y).exec ob f = some (b, ob', f')) (hx : Rep w0 R loc x cx) (hy : Rep w0 R loc y cy) :
    ob' = ob ∧ f' = f ∧ P.eqGuardType P.depth t = false ∧ ∃ ax ay, cx = .agg ax ∧ cy = .agg ay ∧ ∀ d, (Op.equalIn (d + 2) t cx cy).run P w = .ok b w := by
  unfold eqStructE at h
  split at h
  · rename_i xs ys
    cases hq : P.eqGuardType P.depth t with
    | true => rw [hq] at h; simp [Eff.exec] at h
    | false =>
    cases hp : P.stoodInHeld t with
    | true => rw [hp] at h; simp [Eff.exec] at h
    | false =>
      rw [hp, hq] at h
      simp only [Bool.or_false, cond_false] at h
      split at h
      · rename_i r hr
        simp only [Eff.exec, Option.some.injEq, Prod.mk.injEq] at h
        obtain ⟨rfl, rfl, rfl⟩ := h
        obtain ⟨ax, rfl, hx⟩ := hx
        obtain ⟨ay, rfl, hy⟩ := hy
        refine ⟨rfl, rfl, rfl, ax, ay, rfl, rfl, fun d => ?_⟩
        have hf : P.fieldsOf t = fs := by simp [Program.fieldsOf, hu]
        rw [run_equalIn_struct (P := P) w (d + 1) t ax ay (by rw [hf]; exact hu) hp, hf]
        exact eqFields_run d hx hy fs.toList r hr
      · simp [Eff.exec] at h
  · simp [Eff.exec] at h
theorem goes_of {P : Program} {o : Oper} {v : V} {ob' : Ob} {f' : Fp} (hs : Sim w0 R L N st a w loc γ) (h : ob' = st.ob ∧ f'.ns = [] ∧ ∃ c, Rep w0 R loc v c ∧ (execOp a.eval o).run P w = .ok (.value c) w) :
    Goes P o w0 R L N st a w v ob' f'.ns := by
  obtain ⟨rfl, h1, c, h2, h3⟩ := h
  rw [h1]
  exact goes_value hs h2 h3
theorem unE_run {P : Program} {op : UnOp} {x v : V} {cx : Value} {ob ob' : Ob} {f f' : Fp} (h : (unE op x).exec ob f = some (v, ob', f')) (hx : Rep w0 R loc x cx) :
    ob' = ob ∧ f'.ns = f.ns ∧ ∃ c, Rep w0 R loc v c ∧ (Op.unary op cx).run P w = .ok c w := by
  unfold unE at h
  split at h
  · obtain rfl := hx
    simp only [Eff.exec, Option.some.injEq, Prod.mk.injEq] at h
    obtain ⟨rfl, rfl, rfl⟩ := h
    exact ⟨rfl, rfl, _, rfl, by simp [Op.unary, Op.intArith, subI_eq]⟩
  · obtain rfl := hx
    simp only [Eff.exec, Option.some.injEq, Prod.mk.injEq] at h
    obtain ⟨rfl, rfl, rfl⟩ := h
    exact ⟨rfl, rfl, _, rfl, by simp [Op.unary, notB]⟩
  · simp [Eff.exec] at h
theorem mx_run {P : Program} {x y v : V} {cx cy : Value} {ob ob' : Ob} {f f' : Fp} {ts : Array TypeId} {t : TypeId} (h : (mxE x y).exec ob f = some (v, ob', f')) (hx : Rep w0 R loc x cx) (hy : Rep w0 R loc y cy) :
    ob' = ob ∧ f'.ns = f.ns ∧ ∃ c, Rep w0 R loc v c ∧ (Builtin.max_ ts t #[cx, cy]).run P w = .ok c w := by
  unfold mxE at h
  split at h
  · obtain rfl := hx
    obtain rfl := hy
    split at h
    · rename_i hk
      subst hk
      simp only [Eff.exec, Option.some.injEq, Prod.mk.injEq] at h
      obtain ⟨rfl, rfl, rfl⟩ := h
      exact ⟨rfl, rfl, _, rfl, by simp [Builtin.max_, Builtin.max2, maxI_eq]⟩
    · simp [Eff.exec] at h
  · simp [Eff.exec] at h
theorem mn_run {P : Program} {x y v : V} {cx cy : Value} {ob ob' : Ob} {f f' : Fp} {ts : Array TypeId} {t : TypeId} (h : (mnE x y).exec ob f = some (v, ob', f')) (hx : Rep w0 R loc x cx) (hy : Rep w0 R loc y cy) :
    ob' = ob ∧ f'.ns = f.ns ∧ ∃ c, Rep w0 R loc v c ∧ (Builtin.min_ ts t #[cx, cy]).run P w = .ok c w := by
  unfold mnE at h
  split at h
  · obtain rfl := hx
    obtain rfl := hy
    split at h
    · rename_i hk
      subst hk
      simp only [Eff.exec, Option.some.injEq, Prod.mk.injEq] at h
      obtain ⟨rfl, rfl, rfl⟩ := h
      exact ⟨rfl, rfl, _, rfl, by simp [Builtin.min_, Builtin.min2, minI_eq]⟩
    · simp [Eff.exec] at h
  · simp [Eff.exec] at h

set_option maxHeartbeats 2000000 in
theorem op_goes (hB : BldTy E) {o : Oper} {v : V} {ob' : Ob} {f' : Fp} (hs : Sim w0 R L N st a w loc γ) (h : (effOp E cf o st.rv).exec st.ob ⟨[], [], []⟩ = some (v, ob', f'))
    (hcall : ∀ c x f first cap, o.op = .call c → c.callee = .value x → st.rv x = .fn f first cap → (callE E cf o.dst f (first ++ c.args.toList.map st.rv ++ cap)).exec st.ob ⟨[], [], []⟩ = some (v, ob', f') → Goes E.P o w0 R L N st a w v ob' f'.ns) :
    Goes E.P o w0 R L N st a w v ob' f'.ns := by
  have hpure : ∀ {s : Sem Value} {c : Value}, execOp a.eval o = (do pure (.value (← s))) → s.run E.P w = .ok c w → (execOp a.eval o).run E.P w = .ok (.value c) w := fun h1 h2 => by
    rw [h1]; simp only [Sem.run_bind, h2]; rfl
  unfold effOp at h
  dsimp only at h
  split at h
  · -- move
    rename_i x hop
    simp only [Eff.exec, Option.some.injEq, Prod.mk.injEq] at h
    obtain ⟨rfl, rfl, rfl⟩ := h
    exact goes_value hs (hs.eval x) (by simp [execOp, hop])
  · rename_i x hop
    simp only [Eff.exec, Option.some.injEq, Prod.mk.injEq] at h
    obtain ⟨rfl, rfl, rfl⟩ := h
    exact goes_value hs (hs.eval x) (by simp [execOp, hop])
  · -- pick
    rename_i c x y hop
    have ec := hs.eval c
    split at h
    · rename_i t ht
      rw [ht] at ec
      have ec' : a.eval c = .bool t := ec
      cases t with
      | true =>
        simp only [Eff.exec, Option.some.injEq, Prod.mk.injEq] at h
        obtain ⟨rfl, rfl, rfl⟩ := h
        exact goes_value hs (hs.eval x) (by simp [execOp, hop, ec', asBool])
      | false =>
        simp only [Eff.exec, Option.some.injEq, Prod.mk.injEq] at h
        obtain ⟨rfl, rfl, rfl⟩ := h
        exact goes_value hs (hs.eval y) (by simp [execOp, hop, ec', asBool])
    · simp [Eff.exec] at h
  · -- alloc
    rename_i t hop
    cases hb : E.isB t with
    | true =>
      rw [hb] at h
      simp only [cond_true, Eff.exec] at h
      split at h
      · rename_i hid
        simp only [Option.some.injEq, Prod.mk.injEq] at h
        obtain ⟨rfl, rfl, rfl⟩ := h
        exact bld_goes0 hB hop hb hs hid (tag_ge _ _)
      · cases h
    | false =>
      rw [hb] at h
      simp only [cond_false] at h
      split at h
      · rename_i z hz
        simp only [Eff.exec] at h
        split at h
        · rename_i hid
          simp only [Option.some.injEq, Prod.mk.injEq] at h
          obtain ⟨rfl, rfl, rfl⟩ := h
          exact alloc_goes hop hs hz hid (tag_ge _ _)
        · cases h
      · simp [Eff.exec] at h
  · -- box
    rename_i t x hop
    split at h
    · rename_i vs hv
      simp only [Eff.exec] at h
      split at h
      · rename_i hid
        simp only [Option.some.injEq, Prod.mk.injEq] at h
        obtain ⟨rfl, rfl, rfl⟩ := h
        exact box_goes hop hs hv hid (tag_ge _ _)
      · cases h
    · simp [Eff.exec] at h
  · -- build
    rename_i t ps hop
    obtain ⟨h1, h2, c, h3, h4⟩ := build_run (P := E.P) (w := w) h hs
    exact goes_of hs ⟨h1, h2, c, h3, hpure (s := Instr.build t (ps.map fun p => (p.1, a.eval p.2))) (by simp only [execOp, hop]) (by
      rw [show (ps.map fun p => (p.1, a.eval p.2)) = (ps.toList.map fun p => (p.1, a.eval p.2)).toArray by apply Array.toList_inj.1; simp]
      exact h4)⟩
  · rename_i t n ps hop
    exact buildSlice_goes hop hs h
  · rename_i t x hop
    obtain ⟨h1, h2, c, h3, h4⟩ := load_run (P := E.P) h hs (hs.eval x)
    exact goes_of hs ⟨h1, h2, c, h3, hpure (by simp only [execOp, hop]) h4⟩
  · rename_i t x y hop
    exact store_goes hop hs h
  · -- nilCheck
    rename_i x hop
    have ex := hs.eval x
    split at h
    · rename_i id off hx
      simp only [Eff.exec, Option.some.injEq, Prod.mk.injEq] at h
      obtain ⟨rfl, rfl, rfl⟩ := h
      rw [hx] at ex
      have ex2 := ex
      obtain ⟨b, _, hv⟩ := ex
      exact goes_value hs ex2 (by simp [execOp, hop, hv])
    · rename_i id i off hx
      simp only [Eff.exec, Option.some.injEq, Prod.mk.injEq] at h
      obtain ⟨rfl, rfl, rfl⟩ := h
      rw [hx] at ex
      have ex2 := ex
      obtain ⟨_, _, _, _, hv⟩ := ex
      exact goes_value hs ex2 (by simp [execOp, hop, hv])
    · rename_i e y off hx
      simp only [Eff.exec, Option.some.injEq, Prod.mk.injEq] at h
      obtain ⟨rfl, rfl, rfl⟩ := h
      rw [hx] at ex
      have ex2 := ex
      obtain ⟨_, hv, _⟩ := ex
      exact goes_value hs ex2 (by simp [execOp, hop, hv])
    · rename_i f x1 y1 hx
      simp only [Eff.exec, Option.some.injEq, Prod.mk.injEq] at h
      obtain ⟨rfl, rfl, rfl⟩ := h
      rw [hx] at ex
      have ex2 := ex
      obtain ⟨_, _, hv, _⟩ := ex
      exact goes_value hs ex2 (by simp [execOp, hop, hv])
    · simp [Eff.exec] at h
  · -- binOp
    rename_i op t x y ty hop
    have ex := hs.eval x
    have ey := hs.eval y
    have hbin : ∀ {c : Value}, (binOp op t (a.eval x) (a.eval y)).run E.P w = .ok c w → (eqGuard op t x y (a.eval x) (a.eval y)).run E.P w = .ok () w → (execOp a.eval o).run E.P w = .ok (.value c) w := fun h1 h2 => by
      simp only [execOp, hop, Sem.run_bind, h2, Result.andThen_ok, h1]
      rfl
    split at h
    · rename_i e hu
      cases hn : isNil (st.rv y) with
      | false => rw [hn] at h; simp [Eff.exec] at h
      | true =>
        rw [hn] at h
        have hy := isNil_rep hn ey
        obtain ⟨b, ob1, f1, h1, h2⟩ := Eff.exec_bind _ _ _ _ _ h
        simp only [Eff.exec, Option.some.injEq, Prod.mk.injEq] at h2
        obtain ⟨rfl, rfl, rfl⟩ := h2
        obtain ⟨h3, h4, ad, l, c, hx, h5⟩ := nilE_run (P := E.P) h1 hs ex
        refine goes_of hs ⟨h3, h4, _, rfl, hbin ?_ (by rw [hx, hy]; exact guard_slice)⟩
        rw [hx, hy]
        simp only [binOp, Sem.run_bind, Op.equal, Op.maxDepth]
        rw [equalIn_nil 9999 t e ad l c hu]
        simp [h5]
    · rename_i e hu
      cases hn : isNil (st.rv y) with
      | false => rw [hn] at h; simp [Eff.exec] at h
      | true =>
        rw [hn] at h
        have hy := isNil_rep hn ey
        obtain ⟨b, ob1, f1, h1, h2⟩ := Eff.exec_bind _ _ _ _ _ h
        simp only [Eff.exec, Option.some.injEq, Prod.mk.injEq] at h2
        obtain ⟨rfl, rfl, rfl⟩ := h2
        obtain ⟨h3, h4, ad, l, c, hx, h5⟩ := nilE_run (P := E.P) h1 hs ex
        refine goes_of hs ⟨h3, h4, _, rfl, hbin ?_ (by rw [hx, hy]; exact guard_slice)⟩
        rw [hx, hy]
        simp only [binOp, Sem.run_bind, Op.equal, Op.maxDepth]
        rw [equalIn_nil 9999 t e ad l c hu]
        simp [h5, notB]
    · rename_i fs hu
      obtain ⟨b, ob1, f1, h1, h2⟩ := Eff.exec_bind _ _ _ _ _ h
      simp only [Eff.exec, Option.some.injEq, Prod.mk.injEq] at h2
      obtain ⟨rfl, rfl, rfl⟩ := h2
      obtain ⟨h3, h4, hgt, ax, ay, hx, hy, h5⟩ := eqStruct_run (P := E.P) (w := w) hu h1 ex ey
      refine goes_of hs ⟨h3, by rw [h4], _, rfl, hbin ?_ (by rw [hx, hy]; exact guard_agg hgt)⟩
      have h6 := h5 9998
      rw [hx, hy] at h6 ⊢
      simp only [binOp, Sem.run_bind, Op.equal, Op.maxDepth]
      rw [h6]
      simp
    · rename_i fs hu
      obtain ⟨b, ob1, f1, h1, h2⟩ := Eff.exec_bind _ _ _ _ _ h
      simp only [Eff.exec, Option.some.injEq, Prod.mk.injEq] at h2
      obtain ⟨rfl, rfl, rfl⟩ := h2
      obtain ⟨h3, h4, hgt, ax, ay, hx, hy, h5⟩ := eqStruct_run (P := E.P) (w := w) hu h1 ex ey
      refine goes_of hs ⟨h3, by rw [h4], _, rfl, hbin ?_ (by rw [hx, hy]; exact guard_agg hgt)⟩
      have h6 := h5 9998
      rw [hx, hy] at h6 ⊢
      simp only [binOp, Sem.run_bind, Op.equal, Op.maxDepth]
      rw [h6]
      simp [notB]
    · rename_i hu
      split at h
      · rename_i b1 b2 hx hy
        simp only [Eff.exec, Option.some.injEq, Prod.mk.injEq] at h
        obtain ⟨rfl, rfl, rfl⟩ := h
        rw [hx] at ex
        rw [hy] at ey
        have ex' : a.eval x = .bool b1 := ex
        have ey' : a.eval y = .bool b2 := ey
        refine goes_value hs rfl (hbin ?_ (by rw [ex', ey']; exact guard_bool))
        rw [ex', ey']
        simp only [binOp, Sem.run_bind, Op.equal, Op.maxDepth]
        rw [equalIn_bool 9999 t b1 b2 hu]
        simp [eqB]
      · simp [Eff.exec] at h
    · rename_i hu
      split at h
      · rename_i b1 b2 hx hy
        simp only [Eff.exec, Option.some.injEq, Prod.mk.injEq] at h
        obtain ⟨rfl, rfl, rfl⟩ := h
        rw [hx] at ex
        rw [hy] at ey
        have ex' : a.eval x = .bool b1 := ex
        have ey' : a.eval y = .bool b2 := ey
        refine goes_value hs rfl (hbin ?_ (by rw [ex', ey']; exact guard_bool))
        rw [ex', ey']
        simp only [binOp, Sem.run_bind, Op.equal, Op.maxDepth]
        rw [equalIn_bool 9999 t b1 b2 hu]
        simp [eqB, notB]
      · simp [Eff.exec] at h
    · obtain ⟨h1, h2, c, h3, h4, h5⟩ := binE_run (P := E.P) (w := w) t h ex ey
      exact goes_of hs ⟨h1, by rw [h2], c, h3, hbin h4 (h5 x y)⟩
  · -- unOp
    rename_i op t x hop
    obtain ⟨h1, h2, c, h3, h4⟩ := unE_run (P := E.P) (w := w) h (hs.eval x)
    exact goes_of hs ⟨h1, h2, c, h3, hpure (by simp only [execOp, hop]) h4⟩
  · rename_i s d x hop
    exact conv_goes hop hs h
  · rename_i t x y hop
    exact makeSlice_goes hop hs h
  · -- slice
    rename_i t x lo hi mx hop
    obtain ⟨h1, h2, c, h3, h4⟩ := slice_run (P := E.P) (clo := lo.map a.eval) (chi := hi.map a.eval) (cmx := mx.map a.eval) h hs (hs.eval x).unrc
      (fun v hv => by cases lo with
        | none => simp at hv
        | some p => simp only [Option.map_some, Option.some.injEq] at hv; subst hv; exact ⟨_, rfl, hs.eval p⟩) (fun hv => by cases lo <;> simp_all)
      (fun v hv => by cases hi with
        | none => simp at hv
        | some p => simp only [Option.map_some, Option.some.injEq] at hv; subst hv; exact ⟨_, rfl, hs.eval p⟩) (fun hv => by cases hi <;> simp_all) (fun hv => by cases mx <;> simp_all)
    exact goes_of hs ⟨h1, h2, c, h3, hpure (by simp only [execOp, hop]) h4⟩
  · -- fieldAddr
    rename_i s x f hop
    have ex := hs.eval x
    split at h
    · rename_i off n b id o1 hf hx
      cases hb : Nat.beq n 0 with
      | true => rw [hb] at h; simp [Eff.exec] at h
      | false =>
        rw [hb] at h
        simp only [cond_false, Eff.exec, Option.some.injEq, Prod.mk.injEq] at h
        obtain ⟨rfl, rfl, rfl⟩ := h
        rw [hx] at ex
        obtain ⟨bk, h1, hv⟩ := ex
        exact goes_value hs ⟨bk, h1, rfl⟩ (hpure (s := Instr.fieldAt s (a.eval x) f) (by simp only [execOp, hop]) (by rw [hv]; exact fieldAt_run hf (fun e => by subst e; simp at hb) bk o1))
    · rename_i off n b id i o1 hf hx
      cases hb : Nat.beq n 0 with
      | true => rw [hb] at h; simp [Eff.exec] at h
      | false =>
        rw [hb] at h
        simp only [cond_false, Eff.exec, Option.some.injEq, Prod.mk.injEq] at h
        obtain ⟨rfl, rfl, rfl⟩ := h
        rw [hx] at ex
        obtain ⟨h1, h2, ad, h3, hv⟩ := ex
        exact goes_value hs ⟨h1, h2, ad, h3, by rw [← Nat.add_assoc]⟩ (hpure (s := Instr.fieldAt s (a.eval x) f) (by simp only [execOp, hop]) (by rw [hv]; exact fieldAt_run hf (fun e => by subst e; simp at hb) _ _))
    · rename_i off n b e y o1 hf hx
      cases hb : Nat.beq n 0 with
      | true => rw [hb] at h; simp [Eff.exec] at h
      | false =>
        rw [hb] at h
        simp only [cond_false, Eff.exec, Option.some.injEq, Prod.mk.injEq] at h
        obtain ⟨rfl, rfl, rfl⟩ := h
        rw [hx] at ex
        obtain ⟨ad, hv, h1, cs, ty, fz, h2, h3⟩ := ex
        exact goes_value hs ⟨ad, by rw [← Nat.add_assoc], h1, cs, ty, fz, h2, h3⟩ (hpure (s := Instr.fieldAt s (a.eval x) f) (by simp only [execOp, hop]) (by rw [hv]; exact fieldAt_run hf (fun e => by subst e; simp at hb) _ _))
    · simp [Eff.exec] at h
  · -- field
    rename_i s x f hop
    have ex := hs.eval x
    split at h
    · rename_i off n ag cs hf hx
      rw [hx] at ex
      obtain ⟨us, hv, hr⟩ := ex
      obtain ⟨fs, xf, hu, hff, rfl, rfl, hb⟩ := field_get hf
      obtain ⟨p1, p2⟩ := part_run (P := E.P) (w := w) (cs := us) (off := xf.offset) hb
      cases ag with
      | true =>
        simp only [cond_true, Eff.exec, Option.some.injEq, Prod.mk.injEq] at h
        obtain ⟨rfl, rfl, rfl⟩ := h
        refine goes_value hs ⟨_, rfl, ?_⟩ (hpure (s := Instr.field s (a.eval x) f) (by simp only [execOp, hop]) (by
          rw [hv]
          simp only [Instr.field, Sem.run_bind, run_underlying hu, Result.andThen_ok, hff, asAgg, Sem.run_pure]
          exact p1 rfl))
        simpa using RepL.take (tsize E.P xf.type) (RepL.drop xf.offset hr)
      | false =>
        simp only [cond_false] at h
        split at h
        · rename_i u hu'
          simp only [Eff.exec, Option.some.injEq, Prod.mk.injEq] at h
          obtain ⟨rfl, rfl, rfl⟩ := h
          obtain ⟨c, hc1, hc2⟩ := RepL.get hr hu'
          exact goes_value hs hc2 (hpure (s := Instr.field s (a.eval x) f) (by simp only [execOp, hop]) (by
            rw [hv]
            simp only [Instr.field, Sem.run_bind, run_underlying hu, Result.andThen_ok, hff, asAgg, Sem.run_pure]
            exact p2 rfl c hc1))
        · simp [Eff.exec] at h
    · simp [Eff.exec] at h
  · -- indexAddr
    rename_i t x i hop
    obtain ⟨h1, h2, c, h3, h4⟩ := indexAddr_run (P := E.P) h hs (hs.eval x).unrc (hs.eval i)
    exact goes_of hs ⟨h1, h2, c, h3, hpure (by simp only [execOp, hop]) h4⟩
  · rename_i t x i hop
    obtain ⟨h1, h2, c, h3, h4⟩ := index_run (P := E.P) (w := w) h (hs.eval x) (hs.eval i)
    exact goes_of hs ⟨h1, h2, c, h3, hpure (by simp only [execOp, hop]) h4⟩
  · -- extract
    rename_i x i hop
    have ex := hs.eval x
    split at h
    · rename_i vs hx
      rw [hx] at ex
      obtain ⟨us, hv, hr⟩ := ex
      split at h
      · rename_i u hu
        simp only [Eff.exec, Option.some.injEq, Prod.mk.injEq] at h
        obtain ⟨rfl, rfl, rfl⟩ := h
        obtain ⟨c, hc1, hc2⟩ := RepL.get hr hu
        have hc1' : us[i]? = some c := by simpa using hc1
        exact goes_value hs hc2 (hpure (s := Instr.extract (a.eval x) i) (by simp only [execOp, hop]) (by rw [hv]; simp [Instr.extract, hc1']))
      · simp [Eff.exec] at h
    · simp [Eff.exec] at h
  · -- makeFunc
    rename_i f first cap hop
    simp only [Eff.exec, Option.some.injEq, Prod.mk.injEq] at h
    obtain ⟨rfl, rfl, rfl⟩ := h
    refine goes_value hs (c := .func (.func f) (first.map a.eval) (cap.map a.eval)) ⟨_, _, rfl, ?_, ?_⟩ (hpure (s := Instr.makeFunc (.func f) (first.map a.eval) (cap.map a.eval)) (by simp only [execOp, hop]) (by simp [Instr.makeFunc]))
    · simpa using hs.evals first.toList
    · simpa using hs.evals cap.toList
  · -- calls
    rename_i c hop
    split at h
    · rename_i x hc
      split at h
      · rename_i f first cap hx
        exact hcall c x f first cap hop hc hx h
      · simp [Eff.exec] at h
    · rename_i b hc
      obtain ⟨callee, args, argTypes⟩ := c
      simp only at hc
      subst hc
      have harg : ∀ l : List Operand, args.toList = l → args.map a.eval = (l.map a.eval).toArray := fun l hl => by
        subst hl
        apply Array.toList_inj.1
        simp
      have hbuilt : ∀ {s : Sem Value} {c : Value}, (∀ vs, builtin b argTypes o.type vs (args.map a.eval) = (do pure (.value (← s)))) → s.run E.P w = .ok c w → (execOp a.eval o).run E.P w = .ok (.value c) w := fun h1 h2 => by
        simp only [execOp, hop, resolve, invoke, Sem.run_bind, Sem.run_pure, Result.andThen_ok, h1, h2]
      split at h
      · rename_i x t tl ha ht
        cases hal : args.toList with
        | nil => rw [hal] at ha; simp at ha
        | cons p l =>
          rw [hal] at ha
          simp only [List.map_cons, List.cons.injEq, List.map_eq_nil_iff] at ha
          obtain ⟨rfl, rfl⟩ := ha
          have ht' : argTypes[0]? = some t := by rw [← Array.getElem?_toList, ht]; rfl
          obtain ⟨h1, h2, c, h3, h4⟩ := len_run (P := E.P) (ty := o.type) h hs (hs.eval p).unrc argTypes ht'
          exact goes_of hs ⟨h1, h2, c, h3, hbuilt (s := Builtin.len_ argTypes o.type #[a.eval p]) (fun vs => by rw [harg _ hal]; rfl) h4⟩
      · rename_i s x t u ha ht
        cases hal : args.toList with
        | nil => rw [hal] at ha; simp at ha
        | cons p l =>
          cases l with
          | nil => rw [hal] at ha; simp at ha
          | cons q l =>
            rw [hal] at ha
            simp only [List.map_cons, List.cons.injEq, List.map_eq_nil_iff] at ha
            obtain ⟨rfl, rfl, rfl⟩ := ha
            have e1 : args = #[p, q] := by apply Array.toList_inj.1; rw [hal]
            have e2 : argTypes = #[t, u] := by apply Array.toList_inj.1; rw [ht]
            subst e1 e2
            cases hut : (Nat.beq u t && !isStrV (st.rv q)) || (isStr E.P u && isStrV (st.rv q)) with
            | false => rw [hut] at h; simp [Eff.exec] at h
            | true =>
              rw [hut] at h
              exact append_goes hop hs hut h
      · rename_i x y ts ha
        cases hal : args.toList with
        | nil => rw [hal] at ha; simp at ha
        | cons p l =>
          cases l with
          | nil => rw [hal] at ha; simp at ha
          | cons q l =>
            rw [hal] at ha
            simp only [List.map_cons, List.cons.injEq, List.map_eq_nil_iff] at ha
            obtain ⟨rfl, rfl, rfl⟩ := ha
            obtain ⟨h1, h2, c, h3, h4⟩ := mx_run (P := E.P) (w := w) (ts := argTypes) (t := o.type) h (hs.eval p) (hs.eval q)
            exact goes_of hs ⟨h1, h2, c, h3, hbuilt (s := Builtin.max_ argTypes o.type #[a.eval p, a.eval q]) (fun vs => by rw [harg _ hal]; rfl) h4⟩
      · rename_i x y ts ha
        cases hal : args.toList with
        | nil => rw [hal] at ha; simp at ha
        | cons p l =>
          cases l with
          | nil => rw [hal] at ha; simp at ha
          | cons q l =>
            rw [hal] at ha
            simp only [List.map_cons, List.cons.injEq, List.map_eq_nil_iff] at ha
            obtain ⟨rfl, rfl, rfl⟩ := ha
            obtain ⟨h1, h2, c, h3, h4⟩ := mn_run (P := E.P) (w := w) (ts := argTypes) (t := o.type) h (hs.eval p) (hs.eval q)
            exact goes_of hs ⟨h1, h2, c, h3, hbuilt (s := Builtin.min_ argTypes o.type #[a.eval p, a.eval q]) (fun vs => by rw [harg _ hal]; rfl) h4⟩
      · simp [Eff.exec] at h
    · simp [Eff.exec] at h
  · simp [Eff.exec] at h
end
end Go.Eng
