/- Two operations in either order. -/
import Derived.Test.YtkghicadebeceaaDoorE22
namespace Go.Eng
set_option linter.unusedSectionVars false
variable [Glb]
open Go.RowKit
set_option linter.unusedSimpArgs false
set_option linter.unusedVariables false

theorem put?_tm (st : St) (d : Option Nat) (v : V) (t : Nat) : (St.put? st d v).tm t = if d = some t then v else st.tm t := by
  cases d with
  | none => rfl
  | some d =>
    simp only [St.put?, St.put, Option.some.injEq]
    by_cases e : t = d
    · subst e; rw [beq_self, if_pos rfl]; rfl
    · rw [beq_ne e, if_neg (fun h => e h.symm)]; rfl
theorem put?_ob (st : St) (d : Option Nat) (v : V) : (St.put? st d v).ob = st.ob := by
  cases d <;> rfl
theorem St.ext' {s t : St} (h1 : ∀ i, s.tm i = t.tm i) (h2 : s.ob = t.ob) : s = t := by
  obtain ⟨a, b⟩ := s
  obtain ⟨c, d⟩ := t
  simp only at h1 h2
  obtain rfl := funext h1
  subst h2
  rfl
/-- what is done, or left out -/
noncomputable def act (E : Env) (cf : Cf E) (ops : List Oper) (o : Oper) (st : St) : Option (V × Ob × Fp) := match wantV ops o st with
  | some true => (effOp E cf o st.rv).exec st.ob ⟨[], [], []⟩
  | some false => some (.tup [], st.ob, ⟨[], [], []⟩)
  | none => none
noncomputable def recOf (ops : List Oper) (o : Oper) (st : St) (v : V) (f : Fp) : Rec := match wantV ops o st with
  | some true => mkRec o st v f
  | _ => skipRec o
noncomputable def aft (o : Oper) (st : St) (v : V) (ob' : Ob) (f : Fp) : St := St.put? { tm := tmAfter f.ns st.tm, ob := ob' } o.dst v
theorem aft_tm (o : Oper) (st : St) (v : V) (ob' : Ob) (f : Fp) (t : Nat) : (aft o st v ob' f).tm t = if o.dst = some t then v else killAll f.ns (st.tm t) := by
  unfold aft
  rw [put?_tm, tmAfter_eq]
theorem aft_ob (o : Oper) (st : St) (v : V) (ob' : Ob) (f : Fp) : (aft o st v ob' f).ob = ob' := by
  unfold aft
  rw [put?_ob]
noncomputable def Did (E : Env) (cf : Cf E) (ops : List Oper) (o : Oper) (r : Rec) (st st' : St) : Prop := ∃ v ob' f, act E cf ops o st = some (v, ob', f) ∧ recOf ops o st v f = r ∧ st' = aft o st v ob' f
section
variable {E : Env} {cf : Cf E} {ops : List Oper} {o x y : Oper} {r rx ry : Rec} {st st1 st2 st' : St} {v : V} {ob' : Ob} {f : Fp}
theorem Did.stp (h : Did E cf ops o r st st') : stp E cf ops o st = some st' := by
  obtain ⟨v, ob', f, h1, _, rfl⟩ := h
  unfold act at h1
  unfold Eng.stp
  split at h1
  · rename_i hw
    simp only [hw, h1]
    rfl
  · rename_i hw
    simp only [Option.some.injEq, Prod.mk.injEq] at h1
    obtain ⟨rfl, rfl, rfl⟩ := h1
    simp only [hw]
    rfl
  · cases h1
theorem act_grow (h : act E cf ops o st = some (v, ob', f)) : ∀ id, id ∉ f.ws → id ∉ f.ns → ob' id = (st.ob id).map (killAllO f.ns) := by
  unfold act at h
  split at h
  · obtain ⟨r, m, n, _, h2, h3, h4⟩ := Eff.exec_grow _ _ _ _ _ _ h
    simp only [List.append_nil] at h2 h3
    rw [h2, h3]
    exact h4
  · simp only [Option.some.injEq, Prod.mk.injEq] at h
    obtain ⟨rfl, rfl, rfl⟩ := h
    intro id _ _
    cases st.ob id <;> rfl
  · cases h
structure Facts (ops : List Oper) (o : Oper) (st : St) (v : V) (f : Fp) (r : Rec) : Prop where
  ro : r.o = o
  q : r.q = true → f.ws = [] ∧ f.ns = []
  xs : ∀ id, id ∈ f.ns ∨ id ∈ f.ws → id ∈ r.xs
  vid : ∀ id, id ∈ v.ids → id ∈ r.ids
  uid : wantV ops o st = some true → ∀ x, x ∈ o.op.operands → ∀ id, id ∈ (st.rv x).ids → id ∈ r.ids
  oid : ∀ k, k ∈ f.rs → ∀ id, id ∈ obIds (st.ob k) → id ∈ r.ids
  rs : ∀ k, k ∈ f.rs → k ∈ r.rs
  fu : r.fl = true → wantV ops o st = some true → ∀ x, x ∈ o.op.operands → (st.rv x).full = true
  fo : r.fl = true → ∀ k, k ∈ f.rs → obFull (st.ob k) = true
theorem mem_idsL {id : Nat} : ∀ {vs : List V} {v : V}, v ∈ vs → id ∈ v.ids → id ∈ V.ids.go vs
  | _ :: vs, v, h, hid => by
    simp only [V.ids.go, List.mem_append]
    rcases List.mem_cons.1 h with rfl | h
    · exact .inl hid
    · exact .inr (mem_idsL h hid)
theorem mem_fullL : ∀ {vs : List V} {v : V}, V.full.go vs = true → v ∈ vs → v.full = true
  | w :: vs, v, hf, h => by
    simp only [V.full.go, Bool.and_eq_true] at hf
    rcases List.mem_cons.1 h with rfl | h
    · exact hf.1
    · exact mem_fullL hf.2 h
theorem facts (h : act E cf ops o st = some (v, ob', f)) (hr : recOf ops o st v f = r) : Facts ops o st v f r := by
  subst hr
  unfold act at h
  unfold recOf
  split at h
  · rename_i hw
    simp only [hw]
    refine ⟨rfl, fun hq => ?_, fun id hid => ?_, fun id hid => ?_, fun _ x hx id hid => ?_, fun k hk id hid => ?_, fun k hk => hk, fun hf _ x hx => ?_, fun hf k hk => ?_⟩
    · simpa [mkRec] using hq
    · simpa [mkRec] using hid
    · simp only [mkRec, List.mem_append]; exact .inl (.inr hid)
    · simp only [mkRec, List.mem_append]
      exact .inl (.inl (mem_idsL (List.mem_map.2 ⟨x, by simpa using hx, rfl⟩) hid))
    · simp only [mkRec, List.mem_append]
      exact .inr (List.mem_flatten.2 ⟨_, List.mem_map.2 ⟨k, hk, rfl⟩, hid⟩)
    · simp only [mkRec, Bool.and_eq_true] at hf
      exact mem_fullL hf.1 (List.mem_map.2 ⟨x, by simpa using hx, rfl⟩)
    · simp only [mkRec, Bool.and_eq_true, List.all_eq_true] at hf
      exact hf.2 k hk
  · rename_i hw
    simp only [Option.some.injEq, Prod.mk.injEq] at h
    obtain ⟨rfl, rfl, rfl⟩ := h
    simp only [hw]
    refine ⟨rfl, fun _ => ⟨rfl, rfl⟩, fun id hid => ?_, fun id hid => ?_, (fun h => by rw [hw] at h; cases h), (fun k hk => by cases hk), (fun k hk => by cases hk), (fun _ h => by rw [hw] at h; cases h), (fun _ k hk => by cases hk)⟩
    · simp at hid
    · simp [V.ids, V.ids.go] at hid
  · cases h
theorem rec_same (hw : wantV ops o st' = wantV ops o st) (hu : wantV ops o st = some true → ∀ x, x ∈ o.op.operands → st'.rv x = st.rv x) (ho : ∀ id, id ∈ f.rs → st'.ob id = st.ob id) : recOf ops o st' v f = recOf ops o st v f := by
  unfold recOf
  rw [hw]
  split
  · rename_i h
    have hu := hu h
    have e1 : o.op.operands.toList.map st'.rv = o.op.operands.toList.map st.rv := List.map_congr_left fun x hx => hu x (by simpa using hx)
    have e2 : (f.rs.map fun id => obIds (st'.ob id)) = (f.rs.map fun id => obIds (st.ob id)) := List.map_congr_left fun k hk => by rw [ho k hk]
    have e3 : (f.rs.all fun id => obFull (st'.ob id)) = (f.rs.all fun id => obFull (st.ob id)) := by
      rw [Bool.eq_iff_iff, List.all_eq_true, List.all_eq_true]
      exact ⟨fun h k hk => by rw [← ho k hk]; exact h k hk, fun h k hk => by rw [ho k hk]; exact h k hk⟩
    simp only [mkRec, e1, e2, e3]
  · rfl
/-- an act that writes nothing, elsewhere -/
theorem act_quiet (h : act E cf ops o st = some (v, ob', f)) (h1 : f.ws = []) (h2 : f.ns = []) (hw : wantV ops o st' = wantV ops o st) (hu : wantV ops o st = some true → ∀ x, x ∈ o.op.operands → st'.rv x = st.rv x)
    (ho : ∀ id, id ∈ f.rs → st'.ob id = st.ob id) : ob' = st.ob ∧ act E cf ops o st' = some (v, st'.ob, f) := by
  unfold act at h ⊢
  rw [hw]
  split at h
  · rename_i hx
    rw [effOp_congr o (hu hx)]
    exact Eff.exec_quiet _ _ _ _ _ _ _ h h1 h2 ho
  · rename_i hx
    simp only [Option.some.injEq, Prod.mk.injEq] at h
    obtain ⟨rfl, rfl, rfl⟩ := h
    exact ⟨rfl, rfl⟩
  · cases h
theorem act_same (h : act E cf ops o st = some (v, ob', f)) (hw : wantV ops o st' = wantV ops o st) (hu : wantV ops o st = some true → ∀ x, x ∈ o.op.operands → st'.rv x = st.rv x)
    (ho : st'.ob = st.ob) : act E cf ops o st' = some (v, ob', f) := by
  unfold act at h ⊢
  rw [hw]
  split at h
  · rename_i hx
    rw [effOp_congr o (hu hx), ho]
    exact h
  · rename_i hx
    rw [ho]
    exact h
  · cases h
noncomputable def wv : V → Option (Option Bool)
  | .bool b => some (some b)
  | .tup [] => some none
  | _ => none
theorem wv_kill (id : Nat) (v : V) : wv (v.kill id) = wv v := by
  cases v with
  | own j => simp only [V.kill]; cases Nat.beq j id <;> rfl
  | sub j a b => simp only [V.kill]; cases Nat.beq j id <;> rfl
  | el j a b => simp only [V.kill]; cases Nat.beq j id <;> rfl
  | box j b => simp only [V.kill]; cases Nat.beq j id <;> rfl
  | tup vs => cases vs <;> rfl
  | _ => rfl
theorem wv_killAll (v : V) : ∀ ns, wv (killAll ns v) = wv v
  | [] => rfl
  | id :: ids => by simp only [killAll]; rw [wv_kill, wv_killAll v ids]
theorem wantV_eq : wantV ops o st = match o.guard with
  | none => some true
  | some (g, want) => match dstOf ops g with
    | none => none
    | some t => (wv (st.tm t)).map fun b => match b with
      | some b => b == want
      | none => false := by
  unfold wantV
  cases o.guard with
  | none => rfl
  | some p =>
    obtain ⟨g, want⟩ := p
    dsimp only
    cases dstOf ops g with
    | none => rfl
    | some t =>
      dsimp only
      generalize st.tm t = v
      cases v with
      | tup vs => cases vs <;> rfl
      | _ => rfl
theorem wantV_same {ops : Array Oper} (h : ∀ t, t ∈ o.looksAt ops → wv (st'.tm t) = wv (st.tm t)) : wantV ops.toList o st' = wantV ops.toList o st := by
  rw [wantV_eq, wantV_eq]
  split
  · rfl
  · rename_i g want hg
    split
    · rfl
    · rename_i t ht
      rw [h t]
      unfold Oper.looksAt
      refine List.mem_append_right _ ?_
      rw [hg]
      unfold dstOf at ht
      rw [Array.getElem?_toList] at ht
      cases hq : ops[g]? with
      | none => rw [hq] at ht; cases ht
      | some q => rw [hq] at ht; simp at ht; simp [hq, ht]
theorem rv_same {ops : Array Oper} {z : Operand} (hz : z ∈ o.op.operands) (h : ∀ t, z = .tmp t → t ∈ o.looksAt ops → st'.tm t = st.tm t) : st'.rv z = st.rv z := by
  cases z with
  | tmp t =>
    refine h t rfl ?_
    unfold Oper.looksAt
    exact List.mem_append_left _ (List.mem_filterMap.2 ⟨.tmp t, by simpa using hz, rfl⟩)
  | _ => rfl
theorem did_swap {ops : Array Oper} (hx : Did E cf ops.toList x rx st st1) (hy : Did E cf ops.toList y ry st1 st2) (hp : pairOk ops rx ry = true) :
    ∃ st1', Did E cf ops.toList y ry st st1' ∧ Did E cf ops.toList x rx st1' st2 := by
  obtain ⟨vx, obx, fx, ax, ex, rfl⟩ := hx
  obtain ⟨vy, oby, fy, ay, ey, rfl⟩ := hy
  have Fx := facts ax ex
  have Fy := facts ay ey
  simp only [pairOk, Bool.and_eq_true] at hp
  obtain ⟨hap, hp⟩ := hp
  rw [Fx.ro, Fy.ro] at hap
  obtain ⟨a1, a2, a3⟩ := Oper.apart_spec hap
  have hcase : (rx.q = true ∧ ∀ id, id ∈ fy.ns ∨ id ∈ fy.ws → id ∉ rx.ids ∧ id ∉ rx.rs) ∨ (ry.q = true ∧ ry.fl = true ∧ ∀ id, id ∈ fx.ns ∨ id ∈ fx.ws → id ∉ ry.ids ∧ id ∉ ry.rs) := by
    simp only [Bool.or_eq_true, Bool.and_eq_true] at hp
    have hids : ∀ {p q : Rec}, apartIds p q = true → ∀ id, id ∈ p.xs → id ∉ q.ids ∧ id ∉ q.rs := fun h id hid => by
      have := List.all_eq_true.1 h id hid
      simpa using this
    rcases hp with (⟨h1, h2⟩ | ⟨⟨h1, h2⟩, h3⟩) | ⟨⟨h1, h2⟩, h3⟩
    · refine .inl ⟨h1, fun id hid => ?_⟩
      obtain ⟨q1, q2⟩ := Fy.q h2
      rw [q1, q2] at hid
      simp at hid
    · exact .inl ⟨h1, fun id hid => hids h3 id (Fy.xs id hid)⟩
    · exact .inr ⟨h1, h2, fun id hid => hids h3 id (Fx.xs id hid)⟩
  rcases hcase with ⟨hq, hd⟩ | ⟨hq, hfl, hd⟩
  · -- the first one writes nothing
    obtain ⟨qx1, qx2⟩ := Fx.q hq
    obtain ⟨rfl, _⟩ := act_quiet (st' := st) ax qx1 qx2 rfl (fun _ _ _ => rfl) (fun _ _ => rfl)
    have l1 : ∀ t, t ∈ y.looksAt ops → (aft x st vx st.ob fx).tm t = st.tm t := fun t ht => by
      rw [aft_tm, if_neg (fun h => a1 t h ht), qx2]; rfl
    have w1 : wantV ops.toList y st = wantV ops.toList y (aft x st vx st.ob fx) := wantV_same fun t ht => by rw [l1 t ht]
    have u1 : ∀ z, z ∈ y.op.operands → st.rv z = (aft x st vx st.ob fx).rv z := fun z hz => rv_same (ops := ops) hz fun t _ ht => (l1 t ht).symm
    have ay' := act_same ay w1 (fun _ => u1) (aft_ob x st vx st.ob fx).symm
    have ey' : recOf ops.toList y st vy fy = ry := (rec_same w1 (fun _ => u1) (fun id _ => by rw [aft_ob])).trans ey
    have hk : ∀ u : V, (∀ id, id ∈ u.ids → id ∈ rx.ids) → killAll fy.ns u = u := fun u hu => killAll_id _ _ fun id hid hid' => (hd id (.inl hid)).1 (hu id hid')
    refine ⟨aft y st vy oby fy, ⟨vy, oby, fy, ay', ey', rfl⟩, ?_⟩
    have w2 : wantV ops.toList x (aft y st vy oby fy) = wantV ops.toList x st := wantV_same fun t ht => by
      rw [aft_tm, if_neg (fun h => a3 t h ht), wv_killAll]
    have u2 : wantV ops.toList x st = some true → ∀ z, z ∈ x.op.operands → (aft y st vy oby fy).rv z = st.rv z := fun hw z hz => rv_same (ops := ops) hz fun t hzt ht => by
      rw [aft_tm, if_neg (fun h => a3 t h ht)]
      subst hzt
      exact hk _ (Fx.uid hw _ hz)
    have o2 : ∀ id, id ∈ fx.rs → (aft y st vy oby fy).ob id = st.ob id := fun id hid => by
      rw [aft_ob, act_grow ay id (fun h => (hd id (.inr h)).2 (Fx.rs id hid)) (fun h => (hd id (.inl h)).2 (Fx.rs id hid)), aft_ob]
      exact obKill_id _ _ fun k hk1 hk2 => (hd k (.inl hk1)).1 (Fx.oid id hid k hk2)
    obtain ⟨_, ax'⟩ := act_quiet ax qx1 qx2 w2 u2 o2
    rw [aft_ob] at ax'
    refine ⟨vx, oby, fx, ax', (rec_same w2 u2 o2).trans ex, St.ext' (fun t => ?_) ?_⟩
    · simp only [aft_tm, qx2, killAll]
      by_cases e1 : x.dst = some t
      · by_cases e2 : y.dst = some t
        · exact absurd e2 (a2 t e1)
        · rw [if_neg e2, if_pos e1, if_pos e1]
          exact hk _ Fx.vid
      · rw [if_neg e1, if_neg e1]
    · simp only [aft_ob]
  · -- the second one writes nothing
    obtain ⟨qy1, qy2⟩ := Fy.q hq
    have hk : ∀ t, t ∈ y.looksAt ops → (aft x st vx obx fx).tm t = killAll fx.ns (st.tm t) := fun t ht => by
      rw [aft_tm, if_neg (fun h => a1 t h ht)]
    have w1 : wantV ops.toList y st = wantV ops.toList y (aft x st vx obx fx) := wantV_same fun t ht => by rw [hk t ht, wv_killAll]
    have u1 : wantV ops.toList y (aft x st vx obx fx) = some true → ∀ z, z ∈ y.op.operands → st.rv z = (aft x st vx obx fx).rv z := fun hw z hz => rv_same (ops := ops) hz fun t hzt ht => by
      have hf := Fy.fu hfl hw z hz
      subst hzt
      have hf : ((aft x st vx obx fx).tm t).full = true := hf
      rw [hk t ht] at hf ⊢
      exact (killAll_full _ _ hf).symm
    have o1 : ∀ id, id ∈ fy.rs → st.ob id = (aft x st vx obx fx).ob id := fun id hid => by
      have hf := Fy.fo hfl id hid
      rw [aft_ob] at hf ⊢
      have hg := act_grow ax id (fun h => (hd id (.inr h)).2 (Fy.rs id hid)) (fun h => (hd id (.inl h)).2 (Fy.rs id hid))
      rw [hg] at hf ⊢
      exact (obKill_full _ _ hf).symm
    obtain ⟨rfl, ay'⟩ := act_quiet ay qy1 qy2 w1 u1 o1
    refine ⟨aft y st vy st.ob fy, ⟨vy, st.ob, fy, ay', (rec_same w1 u1 o1).trans ey, rfl⟩, ?_⟩
    have l2 : ∀ t, t ∈ x.looksAt ops → (aft y st vy st.ob fy).tm t = st.tm t := fun t ht => by
      rw [aft_tm, if_neg (fun h => a3 t h ht), qy2]; rfl
    have w2 : wantV ops.toList x (aft y st vy st.ob fy) = wantV ops.toList x st := wantV_same fun t ht => by rw [l2 t ht]
    have u2 : ∀ z, z ∈ x.op.operands → (aft y st vy st.ob fy).rv z = st.rv z := fun z hz => rv_same (ops := ops) hz fun t _ ht => l2 t ht
    have ax' := act_same ax w2 (fun _ => u2) (aft_ob y st vy st.ob fy)
    refine ⟨vx, obx, fx, ax', (rec_same w2 (fun _ => u2) (fun id _ => by rw [aft_ob])).trans ex, St.ext' (fun t => ?_) ?_⟩
    · simp only [aft_tm, qy2, killAll]
      by_cases e1 : x.dst = some t
      · rw [if_neg (a2 t e1), if_pos e1, if_pos e1]
      · by_cases e2 : y.dst = some t
        · rw [if_pos e2, if_neg e1, if_pos e2]
          exact (killAll_id _ _ fun id hid hid' => (hd id (.inl hid)).1 (Fy.vid id hid')).symm
        · rw [if_neg e2, if_neg e1, if_neg e1, if_neg e2]
    · simp only [aft_ob]
end
end Go.Eng
