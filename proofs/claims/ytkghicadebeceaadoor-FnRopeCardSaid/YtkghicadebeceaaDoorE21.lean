/- Calls of functions that answer as they should. -/
import Derived.Test.YtkghicadebeceaaDoorE20
namespace Go.Eng
set_option linter.unusedSectionVars false
variable [Glb]
open Go.RowKit
set_option linter.unusedSimpArgs false
set_option linter.unusedVariables false

theorem ftsInj_len : ∀ (fs : List FT) (x : fts fs) (j : Nat), (ftsInj fs x j).1.length = fs.length
  | [], _, _ => rfl
  | [_], _, _ => rfl
  | f :: g :: fs, x, j => by
    have : (ftsInj (f :: g :: fs) x j).1 = (f.inj x.1 j).1 :: (ftsInj (g :: fs) x.2 (j + (f.inj x.1 j).2.length)).1 := rfl
    rw [this, List.length_cons, ftsInj_len (g :: fs)]
    rfl
theorem inj_len : ∀ (s : Sig) (x : s.T) (j : Nat), (s.inj x j).2.1.length = s.fin.length
  | ⟨_, []⟩, _, _ => rfl
  | ⟨r, f :: fs⟩, x, j => by
    have : (Sig.inj ⟨r, f :: fs⟩ x j).2.1 = (ftsInj (f :: fs) x.2 (j + (r.inj x.1 j).2.length)).1 := rfl
    rw [this, ftsInj_len]
theorem newAll_some {α : Type} : ∀ (os : List O) (j : Nat) (k : Eff α) (ob : Ob) (f : Fp) (r : α × Ob × Fp), (newAll os j k).exec ob f = some r → ∃ ob1 f1, k.exec ob1 f1 = some r
  | [], j, k, ob, f, r, h => ⟨ob, f, h⟩
  | o :: os, j, k, ob, f, r, h => by
    simp only [newAll, Eff.exec] at h
    split at h
    · exact newAll_some os _ k _ _ r h
    · cases h
theorem exec_opt {α β : Type} (x : Option β) (k : β → Eff α) (ob : Ob) (f : Fp) : (Eff.opt x k).exec ob f = match x with
    | some b => (k b).exec ob f
    | none => none := by cases x <;> rfl
theorem idxFrom_self : ∀ (l : List Nat) (n i id : Nat), l.Nodup → l[i]? = some id → idxFrom id l n = some (n + i)
  | [], _, _, _, _, h => by simp at h
  | x :: l, n, i, id, hn, h => by
    obtain ⟨h1, h2⟩ := List.nodup_cons.1 hn
    cases i with
    | zero =>
      obtain rfl := Option.some.inj h
      simp only [idxFrom, beq_self, cond_true, Nat.add_zero]
    | succ i =>
      have h : l[i]? = some id := by simpa using h
      have hm : id ∈ l := List.mem_of_getElem? h
      have hne : x ≠ id := fun e => h1 (e ▸ hm)
      simp only [idxFrom, beq_ne hne, cond_false]
      rw [idxFrom_self l (n + 1) i id h2 h]
      congr 1
      omega
theorem args2 {w : World} {R : Nat → Prop} {loc : Nat → Loc} {u v : V} {args : Array Value} (h : RepL w R loc [u, v] args.toList) : ∃ a b, args = #[a, b] ∧ Rep w R loc u a ∧ Rep w R loc v b := by
  match hl : args.toList, h with
  | [a, b], h => exact ⟨a, b, by apply Array.toList_inj.1; rw [hl], h.1, h.2.1⟩
theorem args1 {w : World} {R : Nat → Prop} {loc : Nat → Loc} {u : V} {args : Array Value} (h : RepL w R loc [u] args.toList) : ∃ a, args = #[a] ∧ Rep w R loc u a := by
  match hl : args.toList, h with
  | [a], h => exact ⟨a, by apply Array.toList_inj.1; rw [hl], h.1⟩
section
variable {E : Env} {cf : Cf E}
theorem newAll_ns {α : Type} : ∀ (os : List O) (j : Nat) (k : Eff α) (ob : Ob) (f : Fp) (r : α × Ob × Fp), (newAll os j k).exec ob f = some r → ∃ ob1 f1, k.exec ob1 f1 = some r ∧ f1.ns = newIds j os.length ++ f.ns
  | [], j, k, ob, f, r, h => ⟨ob, f, h, rfl⟩
  | o :: os, j, k, ob, f, r, h => by
    simp only [newAll, Eff.exec] at h
    split at h
    · obtain ⟨ob1, f1, h1, h2⟩ := newAll_ns os _ k _ _ r h
      exact ⟨ob1, f1, h1, by rw [h2]; simp [newIds]⟩
    · cases h
theorem call0_goes (hF : FnOk E cf) {o : Oper} {w0 w : World} {R L : Nat → Prop} {N : Fx} {st : St} {a : Act} {loc : Nat → Loc} {γ : Nat → Option Nat} {f : Nat} {vs : List V} {args : Array Value} {v : V} {ob' : Ob} {f0 f' : Fp}
    (hs : Sim w0 R L N st a w loc γ) (hargs : RepL w0 R loc vs args.toList) (hrun : (execOp a.eval o).run E.P w = (callFunc f args).run E.P w) (h : (callE0 E cf o.dst f vs).exec st.ob f0 = some (v, ob', f')) :
    ∃ ns, f'.ns = ns ++ f0.ns ∧ Goes E.P o w0 R L N st a w v ob' ns := by
  unfold callE0 at h
  obtain ⟨ls, f1, hnd, h1, hns1⟩ := collectA_exec _ _ _ _ _ _ h (by simp)
  cases hle : Nat.ble ls.length 500 with
  | false => rw [hle] at h1; simp [Eff.exec] at h1
  | true =>
    simp only [hle, cond_true] at h1
    have hle := Nat.le_of_ble_eq_true hle
    obtain ⟨us, f2, h2, hns2, hrep⟩ := exportA_exec hs ls _ _ _ _ h1
    rw [modesOf_snd] at hrep
    obtain ⟨os, f3, h3, hns3, hlen3, hob3, hsome⟩ := exportO_exec hs ls ls _ _ _ h2
    change (Eff.opt _ _).exec _ _ = _ at h3
    rw [exec_opt] at h3
    split at h3
    · rename_i y hcf
      generalize hT : tag o.dst 0 = T at h3
      have hT5 : 1000 ≤ T := by
        rw [← hT]; cases o.dst <;> simp only [tag] <;> omega
      have h4 : (newAll ((E.sig f).inj y T).2.2 T (setFins ls ((E.sig f).inj y T).2.1 (.ret ((E.sig f).inj y T).1))).exec st.ob f3 = some (v, ob', f') := by
        revert h3
        generalize ((E.sig f).inj y T).2.1 = fins
        clear hlen3 hob3 hsome hnd h1 hle hrep h2
        cases ls with
        | nil => cases fins <;> exact id
        | cons => exact id
      have hfl : ls.length = (E.sig f).fin.length := by
        obtain ⟨ob1, f4, h5⟩ := newAll_some _ _ _ _ _ _ h4
        obtain ⟨_, _, _, _, h6, _⟩ := setFins_exec _ _ _ _ _ _ h5 hnd
        rw [h6, inj_len]
      have hfns : f'.ns = newIds T ((E.sig f).inj y T).2.2.length ++ f0.ns := by
        obtain ⟨ob1, f4, h5, hns4⟩ := newAll_ns _ _ _ _ _ _ h4
        obtain ⟨ob2, f5, h6, hns5, _⟩ := setFins_exec _ _ _ _ _ _ h5 hnd
        simp only [Eff.exec, Option.some.injEq, Prod.mk.injEq] at h6
        obtain ⟨_, _, rfl⟩ := h6
        rw [hns5, hns4, hns3, hns2, hns1]
      let Lc : Nat → Prop := fun b => ∃ id, γ b = some id ∧ id ∈ ls
      have hcol : ∀ b, Lc b → (w0.heap.size ≤ b ∨ L b) ∧ b < w.heap.size := fun b ⟨id, hb, _⟩ => hs.col b id hb
      have hans := hF f us os y hcf w (roC R γ st ls) Lc (locC loc ls) (colC γ ls) args T w0 R (by omega) ⟨hs.gnow, fun b hb => .inl (hs.gl.2 b hb)⟩ (fun b hb => ⟨hs.gl.2 b hb, (hs.same (hs.gl.2 b hb)).symm⟩) (fun b hb => by
          rcases hb with hb | ⟨id, o', hb, _, hid⟩
          · obtain ⟨q1, q2⟩ := hs.ro b hb
            refine ⟨by have := hs.fr.size; omega, fun hl => ?_⟩
            rcases (hcol b hl).1 with q | q
            · omega
            · exact q2 q
          · refine ⟨(hs.col b id hb).2, fun ⟨id', hb', hid'⟩ => ?_⟩
            rw [hb] at hb'
            obtain rfl := Option.some.inj hb'
            exact hid hid') (fun b j hb => by
          simp only [colC] at hb
          split at hb
          · rename_i id hid
            obtain ⟨_, q⟩ := idxFrom_get id ls 0 j hb
            exact ⟨⟨id, hid, List.mem_of_getElem? q⟩, (hs.col b id hid).2⟩
          · cases hb) (hrep _ hargs) (fun j o' hj => by
          have hjl := (List.getElem?_eq_some_iff.1 hj).1
          have hls : ls[j]? = some (ls[j]'(by omega)) := List.getElem?_eq_getElem (by omega)
          have := hob3 j _ j o' hls hj (by have := idxFrom_self ls 0 j _ hnd hls; rwa [Nat.zero_add] at this)
          exact this)
      refine ⟨newIds T ((E.sig f).inj y T).2.2.length, hfns, ?_⟩
      intro next Q hnext
      have key : ∀ c w', Left E f y w Lc (locC loc ls) T w0 R c w' → next (a.put o.dst c) w' := by
        intro c w' hleft
        obtain ⟨hfr, loc2, γ2, g1, g2, g3, g4, g5, g6, g7, g8⟩ := hleft
        obtain ⟨ob1, f4, h5, hns4, hnone, hnew, hold⟩ := newAll_exec _ _ _ _ _ _ h4 (fun o' ho' => by
          obtain ⟨k, hk⟩ := List.getElem?_of_mem ho'
          exact (g8 k o' hk).1)
        obtain ⟨ob2, f5, h6, hns5, _, hold5, hset5⟩ := setFins_exec _ _ _ _ _ _ h5 hnd
        simp only [Eff.exec, Option.some.injEq, Prod.mk.injEq] at h6
        obtain ⟨rfl, rfl, rfl⟩ := h6
        generalize hn : ((E.sig f).inj y T).2.2.length = n at *
        -- what is lent is not among the new
        have hls_ob : ∀ id, id ∈ ls → ¬ (T ≤ id ∧ id < T + n) := fun id hid hr => by
          obtain ⟨o', ho'⟩ := hsome id hid
          have := hnone (id - T) (by omega)
          rw [show T + (id - T) = id by omega, ho'] at this
          cases this
        let loc'' : Nat → Loc := fun id => if T ≤ id ∧ id < T + n then loc2 id else loc id
        let γ'' : Nat → Option Nat := fun b => match γ2 b with
          | some k => if T ≤ k then some k else ls[k]?
          | none => match γ b with
            | some id => if id ∈ ls ∨ (T ≤ id ∧ id < T + n) then none else some id
            | none => none
        have hold_at : ∀ b id, γ b = some id → id ∉ ls → γ2 b = none := fun b id hb hid => by
          cases hg : γ2 b with
          | none => rfl
          | some k =>
            exfalso
            rcases (g2 b k hg).1 with q | ⟨id', q1, q2⟩
            · have := (hs.col b id hb).2; omega
            · rw [hb] at q1
              obtain rfl := Option.some.inj q1
              exact hid q2
        have hheap : ∀ b id, γ b = some id → id ∉ ls → w'.heap[b]? = w.heap[b]? := fun b id hb hid => by
          refine hfr.block b (hs.col b id hb).2 (fun ⟨id', q1, q2⟩ => ?_)
          rw [hb] at q1
          obtain rfl := Option.some.inj q1
          exact hid q2
        have hfr' : Frm w0 L w' := ⟨hfr.os.trans hs.fr.os, hfr.tape.trans hs.fr.tape, hfr.output.trans hs.fr.output, Nat.le_trans hs.fr.size hfr.size, fun k hk hl => by
          rw [hfr.block k (by have := hs.fr.size; omega) (fun hlc => by
            rcases (hcol k hlc).1 with q | q
            · omega
            · exact hl q)]
          exact hs.fr.block k hk hl⟩
        have hl'' : ∀ j, j ∉ newIds T n → loc'' j = loc j := fun j hj => by
          rw [mem_newIds] at hj
          simp only [loc'']
          rw [if_neg hj]
        refine hnext c w' loc'' γ'' ⟨fun i => ?_, fun id o' ho' => ?_, fun b id hb => ?_, hfr', hs.ro, hs.n, hs.df, fun j hj => ?_, hs.gl⟩ ?_
        · rw [tmAfter_eq]
          exact Rep.killAll _ loc'' hl'' _ _ (hs.tm i)
        · by_cases hid : id ∈ ls
          · -- lent
            obtain ⟨i, hi⟩ := List.getElem?_of_mem hid
            have hil := (List.getElem?_eq_some_iff.1 hi).1
            have hfi : ((E.sig f).inj y T).2.1[i]? = some (((E.sig f).inj y T).2.1[i]'(by omega)) := List.getElem?_eq_getElem (by omega)
            have ho2 := hset5 i id _ hi hfi
            have ho' : ob2 id = some o' := ho'
            rw [ho'] at ho2
            rw [← ho2] at hfi
            obtain ⟨q1, q2⟩ := g7.at_ i o' hfi
            rw [Nat.zero_add] at q1
            have hlo : loc'' id = loc2 i := by
              simp only [loc'']
              rw [if_neg (hls_ob id hid), g1 i (by omega) (by omega)]
              simp [locC, hi]
            have hγ : ∀ b, γ2 b = some i → γ'' b = some id := fun b hb => by
              simp only [γ'', hb]
              rw [if_neg (by omega)]
              exact hi
            cases o' with
            | row nl e xs =>
              obtain ⟨k1, k2, k3, k4, k5, k6⟩ := q1
              simp only [ObRep, hlo]
              exact ⟨k1, k2, k3, k4.imp (fun b hb => ⟨hγ b hb, rfl⟩) (fun _ _ h => h), k5, k6⟩
            | box cs =>
              obtain ⟨b, vals, ty, fz, k1, k2, k3, k4, k5⟩ := q1
              simp only [ObRep, hlo]
              refine ⟨b, vals, ty, fz, k1, hγ b k2, k3, RepL.congr _ _ (fun id' hid' => ?_) k4, k5⟩
              have := q2 id' hid'
              simp only [loc'']
              rw [if_pos this]
            | bld s =>
              obtain ⟨b, p, v, k1, k2, k3, k4⟩ := q1
              simp only [ObRep, hlo]
              exact ⟨b, p, v, k1, hγ b k2, fun g hg => hγ g (k3 g hg), k4⟩
          · have ho' : ob2 id = some o' := ho'
            rw [hold5 id hid] at ho'
            by_cases hr : T ≤ id ∧ id < T + n
            · -- new
              have hk : ((E.sig f).inj y T).2.2[id - T]? = some (((E.sig f).inj y T).2.2[id - T]'(by omega)) := List.getElem?_eq_getElem (by omega)
              have := hnew _ _ hk
              rw [show T + (id - T) = id by omega, ho'] at this
              rw [← this] at hk
              obtain ⟨q0, q1⟩ := g8 _ _ hk
              rw [show T + (id - T) = id by omega] at q1
              have hlo : loc'' id = loc2 id := by simp only [loc'']; rw [if_pos hr]
              have hγ : ∀ b, γ2 b = some id → γ'' b = some id := fun b hb => by
                simp only [γ'', hb]
                rw [if_pos hr.1]
              cases o' with
              | row nl e xs =>
                obtain ⟨k1, k2, k3, k4, k5, k6⟩ := q1
                simp only [ObRep, hlo]
                exact ⟨k1, k2, k3, k4.imp (fun b hb => ⟨hγ b hb, rfl⟩) (fun _ _ h => h), k5, k6⟩
              | box cs =>
                have q0 : V.ids.go cs = [] := q0
                obtain ⟨b, vals, ty, fz, k1, k2, k3, k4, k5⟩ := q1
                simp only [ObRep, hlo]
                exact ⟨b, vals, ty, fz, k1, hγ b k2, k3, RepL.congr _ _ (fun id' hid' => by rw [q0] at hid'; cases hid') k4, k5⟩
              | bld s =>
                obtain ⟨b, p, v, k1, k2, k3, k4⟩ := q1
                simp only [ObRep, hlo]
                exact ⟨b, p, v, k1, hγ b k2, fun g hg => hγ g (k3 g hg), k4⟩
            · -- old
              rw [hold id hr] at ho'
              cases hob : st.ob id with
              | none => rw [hob] at ho'; cases ho'
              | some o0 =>
                rw [hob] at ho'
                obtain rfl := Option.some.inj ho'
                refine ObRep.killAll (w := w) (by rw [mem_newIds]; exact hr) hl'' (fun b hb => ⟨?_, hheap b id hb hid⟩) (hs.ob id o0 hob)
                simp only [γ'', hold_at b id hb hid, hb]
                rw [if_neg (by simp only [not_or]; exact ⟨hid, hr⟩)]
        · simp only [γ''] at hb
          split at hb
          · rename_i k hk
            obtain ⟨q1, q2⟩ := g2 b k hk
            refine ⟨?_, q2⟩
            rcases q1 with q | q
            · exact .inl (Nat.le_trans hs.fr.size q)
            · exact (hcol b q).1
          · split at hb
            · rename_i id' hid'
              have := hs.col b id' hid'
              exact ⟨this.1, by have := hfr.size; omega⟩
            · cases hb
        · simp only [loc'']
          rw [if_neg (by omega)]
          exact hs.lc j hj
        · refine Rep.congr _ _ (fun id hid => ?_) g4
          have := g5 id hid
          simp only [loc'']
          rw [if_pos this]
      unfold Oper.wp
      rw [hrun]
      rcases hans with ⟨r1, r2⟩ | ⟨c', w', r1, r2⟩
      · rw [r1, Oper.upon_enter]
        refine r2.mono fun e w' he => ?_
        obtain ⟨c', rfl, he⟩ := he
        exact key c' w' he
      · rw [r1]
        exact key c' w' r2
    · cases h3

theorem killAll_append (v : V) (m : List Nat) : ∀ n, killAll (n ++ m) v = killAll n (killAll m v)
  | [] => rfl
  | id :: ids => by simp only [List.cons_append, killAll]; rw [killAll_append v m ids]
theorem newNil_exec {α : Type} {w0 w : World} {R L : Nat → Prop} {N : Fx} {a : Act} {γ : Nat → Option Nat} : ∀ (l : List (Nat × CTs)) (st : St) (loc : Nat → Loc) (k : Eff α) (f : Fp) (r : α × Ob × Fp), (∀ p, p ∈ l → p.2.flat = true ∧ 500 ≤ p.1) → Sim w0 R L N st a w loc γ →
    (newNil l k).exec st.ob f = some r → ∃ st1 loc1 f1, Sim w0 R L N st1 a w loc1 γ ∧ k.exec st1.ob f1 = some r ∧ (st1.tm = fun i => killAll (l.map (·.1)).reverse (st.tm i)) ∧ f1.ns = (l.map (·.1)).reverse ++ f.ns ∧
      (∀ j, j ∉ l.map (·.1) → loc1 j = loc j) ∧ (∀ p, p ∈ l → loc1 p.1 = { a := none, len := 0, cap := 0, sz := p.2.size }) ∧ ∀ p, p ∈ l → st.ob p.1 = none
  | [], st, loc, k, f, r, _, hs, h => ⟨st, loc, f, hs, h, rfl, rfl, fun _ _ => rfl, fun p hp => absurd hp (by simp), fun p hp => absurd hp (by simp)⟩
  | (id, e) :: l, st, loc, k, f, r, hl, hs, h => by
    simp only [newNil, Eff.exec] at h
    split at h
    · rename_i hid
      obtain ⟨he, h5⟩ := hl (id, e) (by simp)
      have hs' := hs.new (id := id) (o := .row (.is true) e []) (l := { a := none, len := 0, cap := 0, sz := e.size }) (γ' := γ) hid h5 hs.fr (Nat.le_refl _) (fun _ _ _ _ => rfl) (fun b => .inl rfl) (by
          simp only [ObRep, if_true]
          exact ⟨he, trivial, rfl, ⟨by simp, fun _ => rfl, (fun ad h => by cases h)⟩, (fun ad cs ty fz h => by cases h), rfl⟩)
      obtain ⟨st1, loc1, f1, g1, g2, g3, g4, g5, g6, g7⟩ := newNil_exec l _ _ k _ r (fun p hp => hl p (by simp [hp])) hs' h
      have hnot : id ∉ l.map (·.1) := fun hm => by
        obtain ⟨p, hp, rfl⟩ := List.mem_map.1 hm
        have := g7 p hp
        simp only [upd, beq_self, cond_true] at this
        cases this
      refine ⟨st1, loc1, f1, g1, g2, ?_, ?_, fun j hj => ?_, fun p hp => ?_, fun p hp => ?_⟩
      · rw [g3]
        funext i
        show killAll (l.map (·.1)).reverse ((st.tm i).kill id) = killAll (((id, e) :: l).map (·.1)).reverse (st.tm i)
        rw [List.map_cons, List.reverse_cons, killAll_append]
        rfl
      · rw [g4]
        simp
      · simp only [List.map_cons, List.mem_cons, not_or] at hj
        rw [g5 j hj.2, if_neg hj.1]
      · rcases List.mem_cons.1 hp with rfl | hp
        · rw [g5 id hnot]
          simp
        · exact g6 p hp
      · rcases List.mem_cons.1 hp with rfl | hp
        · exact hid
        · have hne : p.1 ≠ id := fun e => hnot (e ▸ List.mem_map_of_mem hp)
          have := g7 p hp
          simp only [upd, beq_ne hne, cond_false, killOb] at this
          cases ho : st.ob p.1 with
          | none => rfl
          | some x => rw [ho] at this; cases this
    · cases h
theorem nilAt_some {P : Program} {b : Bool} {t : TypeId} {v : V} {e : CTs} (h : nilAt P b t v = some e) : v = .nil ∧ e.flat = true := by
  unfold nilAt at h
  split at h
  · split at h
    · rename_i e' n by_ hq
      obtain rfl := Option.some.inj h
      exact ⟨rfl, (elemOf_run hq).2.2.2.2.1⟩
    · cases h
  · cases h
theorem nilIds_ok {P : Program} {T : Nat} (hT : 500 ≤ T) : ∀ (bs : List Bool) (ts : List TypeId) (vs : List V) (i : Nat), ∀ p, p ∈ nilIds P T bs ts vs i → p.2.flat = true ∧ 500 ≤ p.1
  | b :: bs, t :: ts, v :: vs, i, p, hp => by
    simp only [nilIds] at hp
    split at hp
    · rename_i e he
      rcases List.mem_cons.1 hp with rfl | hp
      · exact ⟨(nilAt_some he).2, by show 500 ≤ T + i; omega⟩
      · exact nilIds_ok hT bs ts vs (i + 1) p hp
    · exact nilIds_ok hT bs ts vs (i + 1) p hp
  | [], _, _, _, p, hp => by simp [nilIds] at hp
  | _ :: _, [], _, _, p, hp => by simp [nilIds] at hp
  | _ :: _, _ :: _, [], _, p, hp => by simp [nilIds] at hp
theorem nilVs_rep {w0 : World} {R : Nat → Prop} {P : Program} {T : Nat} {ids : List Nat} {loc loc1 : Nat → Loc} (hl : ∀ j, j ∉ ids → loc1 j = loc j) : ∀ (bs : List Bool) (ts : List TypeId) (vs : List V) (i : Nat) (cs : List Value),
    (∀ p, p ∈ nilIds P T bs ts vs i → loc1 p.1 = { a := none, len := 0, cap := 0, sz := p.2.size }) → RepL w0 R loc vs cs → RepL w0 R loc1 (nilVs P T ids bs ts vs i) cs := by
  have all : ∀ (vs : List V) (cs : List Value), RepL w0 R loc vs cs → RepL w0 R loc1 (vs.map (killAll ids)) cs := by
    intro vs
    induction vs with
    | nil =>
      intro cs h
      cases cs with
      | nil => trivial
      | cons => exact h.elim
    | cons v vs ih =>
      intro cs h
      cases cs with
      | nil => exact h.elim
      | cons c cs => exact ⟨Rep.killAll ids loc1 hl v c h.1, ih cs h.2⟩
  intro bs
  induction bs with
  | nil => intro ts vs i cs _ h; exact all vs cs h
  | cons b bs ih =>
    intro ts vs i cs hn h
    cases ts with
    | nil => exact all vs cs h
    | cons t ts =>
      cases vs with
      | nil =>
        cases cs with
        | nil => trivial
        | cons => exact h.elim
      | cons v vs =>
        cases cs with
        | nil => exact h.elim
        | cons c cs =>
          simp only [nilVs, nilIds] at hn ⊢
          cases he : nilAt P b t v with
          | none =>
            rw [he] at hn
            exact ⟨Rep.killAll ids loc1 hl v c h.1, ih ts vs (i + 1) cs hn h.2⟩
          | some e =>
            rw [he] at hn
            obtain ⟨rfl, _⟩ := nilAt_some he
            have h0 := hn (T + i, e) (by simp)
            have hc : c = .slice none 0 0 := h.1
            refine ⟨?_, ih ts vs (i + 1) cs (fun p hp => hn p (by simp [hp])) h.2⟩
            show Rep w0 R loc1 (.own (T + i)) c
            simp only [Rep]
            rw [show loc1 (T + i) = _ from h0, hc]
/-- behind a method of strings.Builder -/
def BldGo (w w' : World) (b : Nat) (v : Value) (s : ByteArray) : Prop :=
  w'.os = w.os ∧ w'.tape = w.tape ∧ w'.output = w.output ∧ w.heap.size ≤ w'.heap.size ∧ (∀ k, k < w.heap.size → k ≠ b → v.ownBlock ≠ some k → w'.heap[k]? = w.heap[k]?) ∧
    ∃ p' v', BldAt w' b p' v' s ∧ ∀ g, v'.ownBlock = some g → v.ownBlock = some g ∨ w.heap.size ≤ g
def BldEnd (w w' : World) (b : Nat) (v : Value) : Prop :=
  w'.os = w.os ∧ w'.tape = w.tape ∧ w'.output = w.output ∧ w.heap.size ≤ w'.heap.size ∧ ∀ k, k < w.heap.size → k ≠ b → v.ownBlock ≠ some k → w'.heap[k]? = w.heap[k]?
/-- the methods of strings.Builder -/
structure BldOk (E : Env) : Prop where
  ty : BldTy E
  call : ∀ (f n : Nat), E.bld f = n + 1 → ∀ args w, (callFunc f args).run E.P w = .ok (.enter f args) w
  ws : ∀ f, E.bld f = 1 → ∀ (b : Nat) (p v : Value) (a s : ByteArray) (w : World), BldAt w b p v a → a.size + s.size ≤ 140737488355328 →
    Calls E.P f #[.pointer (some ⟨b, 0, none⟩), .string s] w fun e w' => e = .returned (.tuple #[.int .i64 s.size, .nilIface]) ∧ BldGo w w' b v (a ++ s)
  wb : ∀ f, E.bld f = 2 → ∀ (b : Nat) (p v : Value) (a : ByteArray) (c : Int) (w : World), BldAt w b p v a → 0 ≤ c → c < 256 → a.size + 1 ≤ 140737488355328 →
    Calls E.P f #[.pointer (some ⟨b, 0, none⟩), .int .u8 c] w fun e w' => e = .returned .nilIface ∧ BldGo w w' b v (a ++ bytesOf [c])
  str : ∀ f, E.bld f = 3 → ∀ (b : Nat) (p v : Value) (a : ByteArray) (w : World), BldAt w b p v a →
    Calls E.P f #[.pointer (some ⟨b, 0, none⟩)] w fun e w' => e = .returned (.string a) ∧ BldEnd w w' b v
  len : ∀ f, E.bld f = 4 → ∀ (b : Nat) (p v : Value) (a : ByteArray) (w : World), BldAt w b p v a →
    Calls E.P f #[.pointer (some ⟨b, 0, none⟩)] w fun e w' => e = .returned (.int .i64 a.size) ∧ w' = w
/-- no strings.Builder -/
theorem BldOk.none (h1 : ∀ f, E.bld f = 0) (h2 : ∀ t, E.isB t = false) : BldOk E :=
  ⟨fun t h => absurd h (by rw [h2 t]; simp), fun f n h => absurd h (by rw [h1 f]; omega), fun f h => absurd h (by rw [h1 f]; omega), fun f h => absurd h (by rw [h1 f]; omega), fun f h => absurd h (by rw [h1 f]; omega), fun f h => absurd h (by rw [h1 f]; omega)⟩
theorem Sim.set_grow {w0 w w' : World} {R L : Nat → Prop} {N : Fx} {st : St} {a : Act} {loc : Nat → Loc} {γ γ' : Nat → Option Nat} (h : Sim w0 R L N st a w loc γ) {id : Nat} {o : O} (hfr : Frm w0 L w') (hsz : w.heap.size ≤ w'.heap.size)
    (hw : ∀ b j, j ≠ id → γ b = some j → w'.heap[b]? = w.heap[b]?) (hγ : ∀ b, γ' b = γ b ∨ (γ' b = some id ∧ w.heap.size ≤ b ∧ b < w'.heap.size)) (ho : ObRep w0 R w' loc γ' id o) : Sim w0 R L N { st with ob := upd st.ob id (some o) } a w' loc γ' := by
  refine ⟨h.tm, fun j o' hj => ?_, fun b j hb => ?_, hfr, h.ro, h.n, h.df, h.lc, h.gl⟩
  · simp only [upd] at hj
    by_cases e : j = id
    · subst e
      rw [beq_self] at hj
      simp only [cond_true, Option.some.injEq] at hj
      subst hj
      exact ho
    · rw [beq_ne e] at hj
      refine (h.ob j o' hj).keep rfl (fun b hb => ⟨?_, hw b j e hb⟩)
      rcases hγ b with q | ⟨_, q, _⟩
      · rw [q]; exact hb
      · have := (h.col b j hb).2; omega
  · rcases hγ b with q | ⟨_, q1, q2⟩
    · rw [q] at hb
      exact ⟨(h.col b j hb).1, by have := (h.col b j hb).2; omega⟩
    · exact ⟨.inl (by have := h.fr.size; omega), q2⟩
section
variable {w0 w w' : World} {R L : Nat → Prop} {N : Fx} {st : St} {a : Act} {loc : Nat → Loc} {γ : Nat → Option Nat}
theorem bld_at (hs : Sim w0 R L N st a w loc γ) {id : Nat} {s : ByteArray} {c : Value} (ho : st.ob id = some (.bld s)) (hc : Rep w0 R loc (.box id 0) c) :
    ∃ b p v, c = .pointer (some ⟨b, 0, none⟩) ∧ (loc id).a = some ⟨b, 0, none⟩ ∧ γ b = some id ∧ (∀ g, v.ownBlock = some g → γ g = some id) ∧ BldAt w b p v s := by
  obtain ⟨b, p, v, h1, h2, h3, h4⟩ := hs.ob id _ ho
  obtain ⟨b', h5, rfl⟩ := hc
  rw [h1] at h5
  simp only [Option.some.injEq, Addr.mk.injEq, and_true] at h5
  subst h5
  exact ⟨b, p, v, rfl, h1, h2, h3, h4⟩
theorem bld_frm (hs : Sim w0 R L N st a w loc γ) {id b : Nat} {v : Value} (h2 : γ b = some id) (h3 : ∀ g, v.ownBlock = some g → γ g = some id) (h : BldEnd w w' b v) : Frm w0 L w' := by
  obtain ⟨g1, g2, g3, g4, g5⟩ := h
  refine ⟨g1.trans hs.fr.os, g2.trans hs.fr.tape, g3.trans hs.fr.output, Nat.le_trans hs.fr.size g4, fun k hk hl => ?_⟩
  have hkw : k < w.heap.size := Nat.lt_of_lt_of_le hk hs.fr.size
  have hno : ∀ j, γ k ≠ some j := fun j hj => by
    rcases (hs.col k j hj).1 with q | q
    · omega
    · exact hl q
  rw [g5 k hkw (fun e => hno id (e ▸ h2)) (fun e => hno id (h3 k e))]
  exact hs.fr.block k hk hl
theorem bld_go (hs : Sim w0 R L N st a w loc γ) {id b : Nat} {v : Value} {s : ByteArray} (h1 : (loc id).a = some ⟨b, 0, none⟩) (h2 : γ b = some id) (h3 : ∀ g, v.ownBlock = some g → γ g = some id) (h : BldGo w w' b v s) :
    ∃ γ', Sim w0 R L N { st with ob := upd st.ob id (some (.bld s)) } a w' loc γ' := by
  obtain ⟨g1, g2, g3, g4, g5, p', v', g6, g7⟩ := h
  have hbl : b < w.heap.size := (hs.col b id h2).2
  refine ⟨fun k => if v'.ownBlock = some k then some id else γ k, hs.set_grow (bld_frm hs h2 h3 ⟨g1, g2, g3, g4, g5⟩) g4 (fun k j hj hk => ?_) (fun k => ?_) ?_⟩
  · refine g5 k (hs.col k j hk).2 (fun e => ?_) (fun e => ?_)
    · subst e; rw [h2] at hk; exact hj (Option.some.inj hk).symm
    · rw [h3 k e] at hk; exact hj (Option.some.inj hk).symm
  · by_cases e : v'.ownBlock = some k
    · simp only [e, if_true]
      rcases g7 k e with q | q
      · exact .inl (h3 k q).symm
      · exact .inr ⟨trivial, q, (g6.2.2.1.lt k e).2⟩
    · simp only [e, if_false]
      exact .inl trivial
  · refine ⟨b, p', v', h1, ?_, fun g hg => by simp [hg], g6⟩
    show (if v'.ownBlock = some b then some id else γ b) = some id
    split
    · rfl
    · exact h2
theorem bld_goes (hB : BldOk E) {o : Oper} {f n : Nat} {vs : List V} {args : Array Value} {v : V} {ob' : Ob} {f0 f' : Fp} (hn : E.bld f = n + 1)
    (hs : Sim w0 R L N st a w loc γ) (hargs : RepL w0 R loc vs args.toList) (hrun : (execOp a.eval o).run E.P w = (callFunc f args).run E.P w) (h : (bldE (n + 1) vs).exec st.ob f0 = some (v, ob', f')) :
    f'.ns = f0.ns ∧ Goes E.P o w0 R L N st a w v ob' [] := by
  have key : ∀ (c : Value) (Q : Ending → World → Prop), Calls E.P f args w (fun e w' => e = .returned c ∧ Q e w') → (∀ w', Q (.returned c) w' → ∃ loc' γ', Sim w0 R L N { st with ob := ob' } a w' loc' γ' ∧ Rep w0 R loc' v c) → Goes E.P o w0 R L N st a w v ob' [] := fun c Q hc hq => by
    intro next Q' hnext
    unfold Oper.wp
    rw [hrun, hB.call f n hn, Oper.upon_enter]
    refine hc.mono fun e w' he => ?_
    obtain ⟨rfl, he⟩ := he
    obtain ⟨loc', γ', q1, q2⟩ := hq w' he
    exact hnext c w' loc' γ' q1 q2
  unfold bldE at h
  split at h
  · rename_i id s hn1
    obtain ⟨c1, c2, rfl, hc1, hc2⟩ := args2 hargs
    obtain rfl : c2 = .string s := hc2
    simp only [Eff.exec] at h
    split at h
    case h_2 => cases h
    rename_i ob1 ho
    split at h
    case h_2 => simp [Eff.exec] at h
    rename_i s0
    simp only [Eff.exec] at h
    split at h
    case h_2 => cases h
    rename_i hle
    rw [ho] at h
    simp only [Option.some.injEq, Prod.mk.injEq] at h
    obtain ⟨rfl, rfl, rfl⟩ := h
    rw [leI_eq, addZ_eq, decide_eq_true_eq] at hle
    obtain ⟨b, p, vv, rfl, h1, h2, h3, h4⟩ := bld_at hs ho hc1
    refine ⟨rfl, key _ _ (hB.ws f (by rw [hn, hn1]) b p vv s0 s w h4 (by simp only [sz, lenBound] at hle; omega)) (fun w' hgo => ?_)⟩
    obtain ⟨γ', hs'⟩ := bld_go hs h1 h2 h3 hgo
    exact ⟨loc, γ', hs', _, rfl, rfl, ⟨rfl, rfl⟩, trivial⟩
  · rename_i id c hn1
    obtain ⟨c1, c2, rfl, hc1, hc2⟩ := args2 hargs
    obtain rfl : c2 = .int .u8 c := hc2
    simp only [Eff.exec] at h
    split at h
    case h_2 => cases h
    rename_i ob1 ho
    split at h
    case h_2 => simp [Eff.exec] at h
    rename_i s0
    simp only [Eff.exec] at h
    split at h
    case h_2 => cases h
    rename_i hl1
    split at h
    case h_2 => cases h
    rename_i hl2
    split at h
    case h_2 => cases h
    rename_i hle
    rw [ho] at h
    simp only [Option.some.injEq, Prod.mk.injEq] at h
    obtain ⟨rfl, rfl, rfl⟩ := h
    rw [leI_eq, addZ_eq, decide_eq_true_eq] at hle
    rw [leI_eq, decide_eq_true_eq] at hl1
    rw [ltI_eq, decide_eq_true_eq] at hl2
    obtain ⟨b, p, vv, rfl, h1, h2, h3, h4⟩ := bld_at hs ho hc1
    refine ⟨rfl, key _ _ (hB.wb f (by rw [hn, hn1]) b p vv s0 c w h4 hl1 hl2 (by simp only [sz, lenBound] at hle; omega)) (fun w' hgo => ?_)⟩
    obtain ⟨γ', hs'⟩ := bld_go hs h1 h2 h3 hgo
    exact ⟨loc, γ', hs', rfl, rfl⟩
  · rename_i id hn1
    obtain ⟨c1, rfl, hc1⟩ := args1 hargs
    simp only [Eff.exec] at h
    split at h
    case h_2 => cases h
    rename_i ob1 ho
    split at h
    case h_2 => simp [Eff.exec] at h
    rename_i s0
    simp only [Eff.exec, ho, Option.some.injEq, Prod.mk.injEq] at h
    obtain ⟨rfl, rfl, rfl⟩ := h
    obtain ⟨b, p, vv, rfl, h1, h2, h3, h4⟩ := bld_at hs ho hc1
    refine ⟨rfl, key _ _ (hB.str f (by rw [hn, hn1]) b p vv s0 w h4) (fun w' hgo => ⟨loc, γ, ?_, rfl⟩)⟩
    have hfr := bld_frm hs h2 h3 hgo
    obtain ⟨g1, g2, g3, g4, g5⟩ := hgo
    refine ⟨hs.tm, fun j o' hj => ?_, fun k j hk => ⟨(hs.col k j hk).1, by have := (hs.col k j hk).2; omega⟩, hfr, hs.ro, hs.n, hs.df, hs.lc, hs.gl⟩
    simp only [upd] at hj
    by_cases e : j = id
    · subst e; rw [beq_self] at hj; cases hj
    · rw [beq_ne e] at hj
      refine (hs.ob j o' hj).keep rfl (fun k hk => ⟨hk, g5 k (hs.col k j hk).2 (fun e' => ?_) (fun e' => ?_)⟩)
      · subst e'; rw [h2] at hk; exact e (Option.some.inj hk).symm
      · rw [h3 k e'] at hk; exact e (Option.some.inj hk).symm
  · rename_i id hn1
    obtain ⟨c1, rfl, hc1⟩ := args1 hargs
    simp only [Eff.exec] at h
    split at h
    case h_2 => cases h
    rename_i ob1 ho
    split at h
    case h_2 => simp [Eff.exec] at h
    rename_i s0
    simp only [Eff.exec, Option.some.injEq, Prod.mk.injEq] at h
    obtain ⟨rfl, rfl, rfl⟩ := h
    obtain ⟨b, p, vv, rfl, h1, h2, h3, h4⟩ := bld_at hs ho hc1
    refine ⟨rfl, key _ _ (hB.len f (by rw [hn, hn1]) b p vv s0 w h4) (fun w' hgo => ⟨loc, γ, ?_, rfl⟩)⟩
    subst hgo
    exact hs
  · simp [Eff.exec] at h
end
theorem calls_ok (hF : FnOk E cf) (hB : BldOk E) : CallsOk E cf := by
  refine ⟨?_, hB.ty⟩
  intro o w0 w R L N st a loc γ c x f first cap v ob' f' hs hop hc hx h
  have hrx := hs.eval x
  rw [hx] at hrx
  obtain ⟨X, Y, hX, hf1, hf2⟩ := hrx
  have hargs : RepL w0 R loc (first ++ c.args.toList.map st.rv ++ cap) (X ++ c.args.map a.eval ++ Y).toList := by
    simp only [Array.toList_append, Array.toList_map]
    exact (RepL.append hf1 (hs.evals _)).append hf2
  have hrun : (execOp a.eval o).run E.P w = (callFunc f (X ++ c.args.map a.eval ++ Y)).run E.P w := by
    have e1 : resolve a.eval c o.type = pure { target := .fn (.func f) Y, args := X ++ c.args.map a.eval } := by
      obtain ⟨callee, args, argTypes⟩ := c
      simp only at hc
      subst hc
      simp only [resolve, hX, Deferred.ofValue]
    unfold execOp
    rw [hop]
    simp only [e1, invoke, Sem.run_bind, Sem.run_pure, Result.andThen_ok]
  generalize hvs : first ++ c.args.toList.map st.rv ++ cap = vs at h hargs
  generalize X ++ c.args.map a.eval ++ Y = args at hargs hrun
  unfold callE at h
  split at h
  case h_2 =>
    rename_i hn0
    obtain ⟨m, hm⟩ : ∃ m, E.bld f = m + 1 := by
      cases hq : E.bld f with
      | zero => exact absurd hq hn0
      | succ m => exact ⟨m, rfl⟩
    rw [hm] at h
    obtain ⟨hns, hg⟩ := bld_goes hB hm hs hargs hrun h
    rw [hns]
    exact hg
  unfold callE1 at h
  have hT9 : 500 ≤ tag o.dst 900 := by cases o.dst <;> simp only [tag] <;> omega
  obtain ⟨st1, loc1, f1, hs1, h1, htm, hns1, hloc, hnil, _⟩ := newNil_exec _ st loc _ _ _ (nilIds_ok hT9 _ _ _ _) hs h
  have hargs1 := nilVs_rep (P := E.P) (T := tag o.dst 900) (ids := ((nilIds E.P (tag o.dst 900) (E.lend f) (paramsOf E.P f) vs 0).map (·.1)).reverse) (loc1 := loc1) (fun j hj => hloc j (by simpa using hj)) (E.lend f) (paramsOf E.P f) vs 0 _ hnil hargs
  obtain ⟨ns, hns, hg⟩ := call0_goes hF hs1 hargs1 hrun h1
  intro next Q hnext
  refine hg next Q (fun c w' loc' γ' hs' hv => hnext c w' loc' γ' ?_ hv)
  have e : tmAfter f'.ns st.tm = tmAfter ns st1.tm := by
    rw [hns, hns1, tmAfter_eq, tmAfter_eq, htm]
    funext i
    simp only [List.append_nil]
    rw [killAll_append]
  rw [e]
  exact hs'
end
end Go.Eng
